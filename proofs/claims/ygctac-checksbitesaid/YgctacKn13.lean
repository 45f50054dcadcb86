/-
  A machine that owns its memory: push, replace.
-/
import Derived.Test.YgctacKn12
namespace Go.Proofs.Ygctac
open Go.RowKit
set_option linter.unusedVariables false
set_option linter.unusedSimpArgs false

/-- An entry that may be pushed upon n entries. -/
def NE (W : World) (Z : Nat → Prop) (S : Nat → Ent) (n : Nat) (x : Ent) : Prop := ∀ e, x = some e → EO W Z e ∧ ∀ i, i < n → ∀ e', S i = some e' → e'.b ≠ e.b
theorem NE.after {W W' : World} {Z : Nat → Prop} {S : Nat → Ent} {n : Nat} {x : Ent} (h : NE W Z S n x) (hb : Below W.heap.size W W') : NE W' Z S n x := fun e he => ⟨(h e he).1.moved (Keeps.below hb 5), (h e he).2⟩
theorem vOf_one (x : Ent) : (vOf x).oneCell' = true := by cases x <;> rfl

set_option maxRecDepth 100000 in
set_option maxHeartbeats 1000000 in
theorem push_mo (Z : Nat → Prop) (mb : Nat) (x : Ent) (v u : Value) (n : Nat) (S : Nat → Ent) (k : Nat) (Q : Nat → Int) (W : World) (h : MO W Z mb v u n S k Q) (hn : n ≤ 100) (hx : NE W Z S n x) :
    Calls Tacg.prog 81 #[.pointer (some ⟨mb, 0, none⟩), vOf x] W fun r w' => PushR Z W mb u (n + 1) (fun i => if i = n then x else S i) k Q r w' := by
  have hA : Below W.heap.size W (W.alloc (.cells #[vOf x] 23)) := (Below.refl _ _).alloc (Nat.le_refl _) _
  have h1 := h.after hA
  have hx1 := hx.after hA
  obtain ⟨v', w2, hr, hR, hG, hB⟩ := append_one (W.alloc (.cells #[vOf x] 23)) 31 31 23 (.slice none 0 0) 24 Tacg.underlying31 info23 rfl (by decide) v n _ h1.st.row (by omega) (by omega) ⟨W.heap.size, 0, none⟩ (vOf x) (cell_of (alloc_last _ _) rfl) (vOf_one x)
  have k5 : Keeps (W.alloc (.cells #[vOf x] 23)) w2 5 := Keeps.grown hG h1.st.row (by decide)
  have k92 : Keeps (W.alloc (.cells #[vOf x] 23)) w2 92 := Keeps.grown hG h1.st.row (by decide)
  have k34 : Keeps (W.alloc (.cells #[vOf x] 23)) w2 34 := Keeps.grown hG h1.st.row (by decide)
  have c2 := k34 _ _ h1.cell
  have HF : Hid (MO (w2.setCell ⟨mb, 0, none⟩ v') Z mb v' u (n + 1) (fun i => if i = n then x else S i) k Q ∧ KZ Z W (w2.setCell ⟨mb, 0, none⟩ v')) := by
    have hs := (KZ.of (Z := Z) hA).grown hG h.st.zv
    have hset : ∀ t, t ≠ 34 → Keeps w2 (w2.setCell ⟨mb, 0, none⟩ v') t := fun t ht => Keeps.set (a := ⟨mb, 0, none⟩) c2 ht v'
    refine hide ⟨⟨heap_setCell_same w2 mb 0 _ 34 _ c2, h.zm, ⟨(hR.congr (fun i hi => ?_)).moved (fun b C _ hb => hset 23 (by decide) b C hb), fun g hg => ?_, fun i hi e he => ?_, fun i j hi hj hne e e' he he' => ?_⟩, (h1.ou.moved k92).moved (hset 92 (by decide)), fun b hb => ?_⟩, hs.set (a := ⟨mb, 0, none⟩) h.zm _⟩
    · by_cases e : i = n <;> simp [e]
    · rcases hB with hB | ⟨g', hg', hle⟩
      · rw [hB] at hg; exact h.st.zv g hg
      · rw [hg'] at hg; cases hg
        exact h.fresh _ (Nat.le_trans hA.size hle)
    · by_cases c : i = n
      · simp only [c, if_true] at he
        exact ((hx1 e he).1.moved k5).moved (hset 5 (by decide))
      · simp only [c, if_false] at he
        exact ((h1.st.ent i (by omega) e he).moved k5).moved (hset 5 (by decide))
    · by_cases c : i = n
      · have cj : j ≠ n := by omega
        simp only [c, cj, if_true, if_false] at he he'
        exact fun e0 => (hx e he).2 j (by omega) e' he' e0.symm
      · by_cases cj : j = n
        · simp only [c, cj, if_true, if_false] at he he'
          exact (hx e' he').2 i (by omega) e he
        · simp only [c, cj, if_false] at he he'
          exact h.st.dis i j (by omega) (by omega) hne e e' he he'
    · exact h.fresh b (Nat.le_trans hs.size (Nat.le_trans ((Below.refl 0 w2).setCell (p := ⟨mb, 0, none⟩) (Nat.zero_le _) v').size hb))
  obtain ⟨p0, c0, rfl⟩ := h.st.row.slice
  obtain ⟨p1, c1, rfl⟩ := hR.slice
  obtain ⟨xp, xl, xc, hxv⟩ := vOf_slice x
  rw [hxv] at hr
  have m0 := cell_of h.cell (i := 0) rfl
  have m2 := cell_of c2 (i := 0) rfl
  have f2 := frozen_of c2 0
  rw [hxv]
  clear h h1 hA hR hG hB k5 k92 k34 c2 hx hx1 hxv
  have HR := hide hr
  clear hr
  go_enter Tacg.func81, Tacg.ntmps81
  go_wp2_with (at_builtin; refine wpList_append_run rfl (.tmp 8) (.tmp 10) 31 rfl rfl rfl HR.out ?_)
  go_end0
  exact ⟨rfl, _, HF.out⟩

/-- The stack cut. -/
theorem MO.cut {W : World} {Z : Nat → Prop} {mb : Nat} {p : Option Addr} {c : Nat} {u : Value} {n m : Nat} {S : Nat → Ent} {k : Nat} {Q : Nat → Int} (h : MO W Z mb (.slice p n c) u n S k Q) (hm : m ≤ n) :
    MO (W.setCell ⟨mb, 0, none⟩ (.slice p m c)) Z mb (.slice p m c) u m S k Q := by
  have hset : ∀ t, t ≠ 34 → Keeps W (W.setCell ⟨mb, 0, none⟩ (.slice p m c)) t := fun t ht => Keeps.set (a := ⟨mb, 0, none⟩) h.cell ht _
  refine ⟨heap_setCell_same W mb 0 _ 34 _ h.cell, h.zm, ⟨(h.st.row.cut hm).moved (fun b C _ hb => hset 23 (by decide) b C hb), fun g hg => h.st.zv g ?_, fun i hi e he => (h.st.ent i (by omega) e he).moved (hset 5 (by decide)), fun i j hi hj => h.st.dis i j (by omega) (by omega)⟩, h.ou.moved (hset 92 (by decide)), fun b hb => h.fresh b (Nat.le_trans ((Below.refl 0 W).setCell (p := ⟨mb, 0, none⟩) (Nat.zero_le _) (.slice p m c)).size hb)⟩
  cases p with
  | none => cases hg
  | some a => exact hg

set_option maxRecDepth 100000 in
set_option maxHeartbeats 1000000 in
theorem replace_mo (Z : Nat → Prop) (mb : Nat) (cnt : Nat) (x : Ent) (v u : Value) (n : Nat) (S : Nat → Ent) (k : Nat) (Q : Nat → Int) (W : World) (h : MO W Z mb v u n S k Q) (hn : n ≤ 17) (hc : cnt ≤ n) (hx : NE W Z S (n - cnt) x) :
    Calls Tacg.prog 87 #[.pointer (some ⟨mb, 0, none⟩), .int .i64 cnt, vOf x] W fun r w' => PushR Z W mb u (n - cnt + 1) (fun i => if i = n - cnt then x else S i) k Q r w' := by
  obtain ⟨p, c, rfl⟩ := h.st.row.slice
  have hnc : n ≤ c := by
    rcases h.st.row with ⟨h0, rfl⟩ | ⟨g, c', C, h0, h1, _⟩
    · exact Nat.zero_le _
    · cases h0; exact h1
  have HM := hide h
  have HXE := hide hx
  obtain ⟨xp, xl, xc, hxv⟩ := vOf_slice x
  have HXV := hide hxv
  have m0 := cell_of h.cell (i := 0) rfl
  have f0 := frozen_of h.cell 0
  obtain ⟨m, hm⟩ : ∃ m, m = n - cnt := ⟨_, rfl⟩
  have em : (n : Int) - (cnt : Int) = (m : Int) := by omega
  have hm1 : m ≤ n := by omega
  have t0 : ¬ ((m : Int) < 0) := by omega
  have t1 : (m : Int) ≤ (c : Int) := by omega
  rw [← hm] at HXE ⊢
  rw [hxv]
  clear h hx hxv hm
  go_enter Tacg.func87, Tacg.ntmps87
  go_wp2_with fail
  refine wp_region_mid 15 (by kernel_rfl) (by decide) (by kernel_rfl) (by kernel_rfl) (by kernel_rfl) (by kernel_rfl) ⟨by kernel_rfl, by kernel_rfl⟩ ?_
  simp only [List.take_succ_cons, List.take_zero, List.drop_succ_cons, List.drop_zero, List.drop_nil]
  repeat (go_big_quiet_step (fail))
  refine wpQuiet_nil ?_
  rintro w' ⟨nq, rfl⟩
  refine wpOp_by rfl rfl (fun K hK => ?_)
  go_simp
  apply hK
  refine ⟨fun w' => w' = _, rfl, wpQuiet_nil ?_⟩
  rintro w' rfl
  have hM2 := (HM.out.drewN (d := nq)).cut hm1
  have hX2 : NE ((W.drewN nq).setCell ⟨mb, 0, none⟩ (.slice p m c)) Z S m x := fun e he => ⟨(HXE.out e he).1.moved (Keeps.set (W := W.drewN nq) (a := ⟨mb, 0, none⟩) HM.out.cell (by decide) _), (HXE.out e he).2⟩
  have hK2 : KZ Z W ((W.drewN nq).setCell ⟨mb, 0, none⟩ (.slice p m c)) := (KZ.of (below_dN (Below.refl _ _) nq)).set (a := ⟨mb, 0, none⟩) HM.out.zm _
  have HP := hide (push_mo Z mb x _ u m S k Q _ hM2 (by omega) hX2)
  rw [HXV.out] at HP
  have HK2 := hide hK2
  clear hM2 hX2 hK2 HM HXE
  generalize (W.drewN nq).setCell ⟨mb, 0, none⟩ (.slice p m c) = w3 at *
  go_wp2_with fail
  refine HP.out.mono ?_
  rintro e w4 ⟨rfl, v', h4, h5⟩
  have H4 := hide (And.intro h4 (HK2.out.trans h5))
  clear h4 h5
  go_wp2_with fail
  go_end0
  exact ⟨rfl, v', H4.out⟩
end Go.Proofs.Ygctac
