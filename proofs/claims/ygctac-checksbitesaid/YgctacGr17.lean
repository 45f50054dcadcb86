/-
  Towards law.biteMachine: law.topped; the stack grown by nil entries; the hurt machines do not pass.
-/
import Derived.Test.YgctacGr16
namespace Go.Proofs.Ygctac
open Go.RowKit
set_option linter.unusedVariables false
set_option linter.unusedSimpArgs false

def Topped (w : World) (r : Ending) (w' : World) : Prop := ∃ y : En, r = .returned (vOf (some y)) ∧ EntOk w' (some y) ∧ nrm (some y) = false ∧ Below w.heap.size w w'
theorem topped_end {w w2 : World} {l : Nat} {f : Nat → Int} (hd : Dg f l) (hl : l ≤ 2000) (h : w2.heap[w.heap.size]? = some (.cells (splice (rowL (l + 1) fun _ => 0) 0 (rowL l f)).toArray 5 (0, 0))) (hb : Below w.heap.size w w2) :
    Topped w (.returned (.slice (some ⟨w.heap.size, 0, none⟩) (l + 1) (l + 1))) w2 := by
  rw [splice_rowL (l + 1) 0 l _ f (by omega)] at h
  refine ⟨⟨w.heap.size, 0, l + 1, l + 1, fun j => if 0 ≤ j ∧ j < 0 + l then f (j - 0) else 0⟩, rfl, fun e he => ?_, ?_, hb⟩
  · cases he
    refine ⟨Nat.le_refl _, by simp only; omega, fun i hi => ?_, (RowAt.own h).cells⟩
    simp only at hi ⊢
    by_cases c : 0 ≤ i ∧ i < 0 + l
    · rw [if_pos c]
      exact hd _ (by omega)
    · rw [if_neg c]
      omega
  · simp [nrm]
set_option maxRecDepth 100000 in
theorem topped_any (x : Ent) (w : World) (h : EntOk w x) (hl : ∀ e, x = some e → e.l ≤ 2000) : Calls Tacg.prog 98 #[vOf x] w fun r w' => Topped w r w' := by
  cases x with
  | none =>
    have rm : ∀ w : World, (Instr.makeSlice 23 (.int .i64 1) (.int .i64 1)).run Tacg.prog w = .ok (.slice (some ⟨w.heap.size, 0, none⟩) 1 1) (w.alloc (.cells (rowL 1 fun _ => 0).toArray 5)) := make23 1 (by omega)
    show Calls Tacg.prog 98 #[.slice none 0 0] w _
    go_enter Tacg.func98, Tacg.ntmps98
    go_wp2_with (refine wpList_copy_splice rfl (.tmp 8) (.tmp 9) 23 23 rfl 5 Tacg.underlying23 size5 _ _ 1 1 0 0 rfl rfl w.heap.size 0 (rowL 1 fun _ => 0) 5 (alloc_last _ _) (rowL 0 fun _ => 0) (by rw [rowL_length]; rfl) (fun hh => absurd hh (by simp [rowL_length])) (by simp [rowL_length]) (rowL_one _ _) w.heap.size w ((Below.refl _ _).alloc (Nat.le_refl _) _) (Nat.le_refl _) ?_; intro w2 hg2 hb2)
    go_ret
    exact topped_end (l := 0) (f := fun _ => 0) (fun i hi => absurd hi (by omega)) (by omega) hg2.out hb2
  | some e =>
    obtain ⟨b, o, l, c, f⟩ := e
    obtain ⟨h1, h2, h3, h4⟩ := h _ rfl
    have hl2 := hl _ rfl
    simp only at h1 h2 h3 h4 hl2
    have rm := make23s l (by omega)
    have HC := hide (show ∀ j v, (rowL l f)[j]? = some v → (w.alloc (.cells (rowL (l + 1) fun _ => 0).toArray 5)).cell? ((⟨b, o, none⟩ : Addr).add j) = some v by
      intro j v hv
      have hj : j < l := by
        have := (List.getElem?_eq_some_iff.1 hv).1
        simpa [rowL_length] using this
      rw [rowL_get l f j hj] at hv
      obtain rfl := Option.some.inj hv
      rw [add_none]
      exact cell_alloc' _ (h4 j hj))
    have H3 := hide h3
    clear h4 h3 h hl
    show Calls Tacg.prog 98 #[.slice (some ⟨b, o, none⟩) l c] w _
    go_enter Tacg.func98, Tacg.ntmps98
    go_wp2_with (refine wpList_copy_splice rfl (.tmp 8) (.tmp 9) 23 23 rfl 5 Tacg.underlying23 size5 _ _ (l + 1) (l + 1) l c rfl rfl w.heap.size 0 (rowL (l + 1) fun _ => 0) 5 (alloc_last _ _) (rowL l f) (by rw [rowL_length]; exact (Nat.min_eq_left (Nat.le_succ l)).symm) (fun _ => ⟨rfl, ⟨b, o, none⟩, rfl, HC.out⟩) (by simp [rowL_length]) (rowL_one _ _) w.heap.size w ((Below.refl _ _).alloc (Nat.le_refl _) _) (Nat.le_refl _) ?_; intro w2 hg2 hb2)
    go_ret
    exact topped_end H3.out hl2 hg2.out hb2

/-- One nil entry more. -/
theorem grow_nil (Z : Nat → Prop) (mb : Nat) (v u : Value) (n : Nat) (S : Nat → Ent) (k : Nat) (Q : Nat → Int) (W : World) (h : MO W Z mb v u n S k Q) (hn : n ≤ 100) :
    ∃ p c w2, (Builtin.append_ #[31, 31] 31 #[v, .slice (some ⟨W.heap.size, 0, none⟩) 1 1]).run Tacg.prog (W.alloc (.cells #[.slice none 0 0] 23)) = .ok (.slice p (n + 1) c) w2 ∧ w2.cell? ⟨mb, 0, none⟩ = some v ∧ w2.frozen? ⟨mb, 0, none⟩ = false ∧
      MO (w2.setCell ⟨mb, 0, none⟩ (.slice p (n + 1) c)) Z mb (.slice p (n + 1) c) u (n + 1) (fun i => if i = n then none else S i) k Q ∧ KZ Z W (w2.setCell ⟨mb, 0, none⟩ (.slice p (n + 1) c)) := by
  have hA : Below W.heap.size W (W.alloc (.cells #[.slice none 0 0] 23)) := (Below.refl _ _).alloc (Nat.le_refl _) _
  have h1 := h.after hA
  obtain ⟨v', w2, hr, hR, hG, hB⟩ := append_one (W.alloc (.cells #[.slice none 0 0] 23)) 31 31 23 (.slice none 0 0) 24 Tacg.underlying31 info23 rfl (by decide) v n _ h1.st.row (by omega) (by omega) ⟨W.heap.size, 0, none⟩ (.slice none 0 0) (cell_of (alloc_last _ _) rfl) rfl
  obtain ⟨p1, c1, rfl⟩ := hR.slice
  have k5 : Keeps (W.alloc (.cells #[.slice none 0 0] 23)) w2 5 := Keeps.grown hG h1.st.row (by decide)
  have k92 : Keeps (W.alloc (.cells #[.slice none 0 0] 23)) w2 92 := Keeps.grown hG h1.st.row (by decide)
  have k34 : Keeps (W.alloc (.cells #[.slice none 0 0] 23)) w2 34 := Keeps.grown hG h1.st.row (by decide)
  have c2 := k34 _ _ h1.cell
  refine ⟨p1, c1, w2, hr, cell_of c2 (i := 0) rfl, frozen_of c2 0, ?_⟩
  generalize hv' : Value.slice p1 (n + 1) c1 = v' at *
  have hs := (KZ.of (Z := Z) hA).grown hG h.st.zv
  have hset : ∀ t, t ≠ 34 → Keeps w2 (w2.setCell ⟨mb, 0, none⟩ v') t := fun t ht => Keeps.set (a := ⟨mb, 0, none⟩) c2 ht v'
  refine ⟨⟨heap_setCell_same w2 mb 0 _ 34 _ c2, h.zm, ⟨(hR.congr (fun i hi => ?_)).moved (fun b C _ hb => hset 23 (by decide) b C hb), fun g hg => ?_, fun i hi e he => ?_, fun i j hi hj hne e e' he he' => ?_⟩, (h1.ou.moved k92).moved (hset 92 (by decide)), fun b hb => ?_⟩, hs.set (a := ⟨mb, 0, none⟩) h.zm _⟩
  · by_cases e : i = n <;> simp [e, vOf]
  · rcases hB with hB | ⟨g', hg', hle⟩
    · rw [hB] at hg; exact h.st.zv g hg
    · rw [hg'] at hg; cases hg
      exact h.fresh _ (Nat.le_trans hA.size hle)
  · by_cases c : i = n
    · simp only [c, if_true] at he
      cases he
    · simp only [c, if_false] at he
      exact ((h1.st.ent i (by omega) e he).moved k5).moved (hset 5 (by decide))
  · by_cases c : i = n
    · simp only [c, if_true] at he
      cases he
    · by_cases cj : j = n
      · simp only [cj, if_true] at he'
        cases he'
      · simp only [c, cj, if_false] at he he'
        exact h.st.dis i j (by omega) (by omega) hne e e' he he'
  · exact h.fresh b (Nat.le_trans hs.size (Nat.le_trans ((Below.refl 0 w2).setCell (p := ⟨mb, 0, none⟩) (Nat.zero_le _) v').size hb))

/-- Check of a machine of which one entry was put at another's place. -/
theorem check_put {W W' : World} {Z : Nat → Prop} {mb : Nat} {p : Option Addr} {n c at' : Nat} {u : Value} {S : Nat → Ent} {k : Nat} {Q : Nat → Int} {x : Ent} (h : MO W Z mb (.slice p n c) u n S k Q) (hn : n ≤ 16) (ha : at' < n) (hb : Below W.heap.size W W') (hx : EntOk W' x) (hpl : ∀ e, x = some e → ∃ D, W'.heap[e.b]? = some (.cells D 5 (0, 0)))
    (hc : ¬ Chk n (fun i => if i = at' then x else S i)) :
    ∃ sb, p = some ⟨sb, 0, none⟩ ∧ (∃ y, W'.cell? ⟨sb, at', none⟩ = some y) ∧ W'.frozen? ⟨sb, at', none⟩ = false ∧ Z sb ∧ Calls Tacg.prog 21 #[.pointer (some ⟨mb, 0, none⟩)] (W'.setCell ⟨sb, at', none⟩ (vOf x)) fun r w' => r = .returned (.bool false) ∧ Below (W'.setCell ⟨sb, at', none⟩ (vOf x)).heap.size (W'.setCell ⟨sb, at', none⟩ (vOf x)) w' := by
  obtain ⟨sb, h1, ⟨C, h2, h3⟩, h4, h5, h6⟩ := h.st.put ha hb hx hpl
  have hm' := (hb.block _ (heap_lt h.cell)).trans h.cell
  have hm : (W'.setCell ⟨sb, at', none⟩ (vOf x)).heap[mb]? = some (.cells #[.slice p n c, u] 34 (0, 0)) := by
    rw [Below.heap_setCell _ _ _ _ (type_ne hm' h2 (by decide))]; exact hm'
  have hk := check_any mb p n c _ u (by omega) (W'.setCell ⟨sb, at', none⟩ (vOf x)) ⟨cell_of hm rfl, cell_of hm rfl⟩ h5 h6
  rw [chkB_false hc] at hk
  exact ⟨sb, h1, ⟨C[at'], cell_of h2 (Array.getElem?_eq_getElem h3)⟩, frozen_of h2 at', h4, hk⟩
/-- What biteMachine answers. -/
def TrueB (w : World) (r : Ending) (w' : World) : Prop := r = .returned (.bool true) ∧ Below w.heap.size w w'
/-- The length of the stack at a machine. -/
def stkLen (mb : Nat) (w : World) : Nat := match w.cell? ⟨mb, 0, none⟩ with
  | some (.slice _ n _) => n
  | _ => 0
theorem MO.rows {W : World} {Z : Nat → Prop} {mb : Nat} {p : Option Addr} {n c : Nat} {u : Value} {S : Nat → Ent} {k : Nat} {Q : Nat → Int} (h : MO W Z mb (.slice p n c) u n S k Q) (hn : 0 < n) : ∃ g, p = some ⟨g, 0, none⟩ ∧ n ≤ c ∧ ∀ i, i < n → W.cell? ⟨g, i, none⟩ = some (vOf (S i)) := by
  rcases h.st.row with ⟨_, h0⟩ | ⟨g, c', C, h1, h2, h3, h4, h5⟩
  · omega
  · cases h1
    exact ⟨g, rfl, h2, fun i hi => cell_of h3 (h5 i hi)⟩
theorem ScV.le {W : World} {p : Option Addr} {n c : Nat} {K : Nat → Nat} {V : Nat → Value} {X : Nat → Ent} (h : ScV W p n c K V X) : n ≤ c := by
  rcases h with ⟨_, h1, h2⟩ | ⟨_, _, _, h, _⟩
  · omega
  · exact h
end Go.Proofs.Ygctac
