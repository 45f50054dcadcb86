/-
  Towards calc.Step: what is pushed.
-/
import Derived.Test.YgctacKn16
namespace Go.Proofs.Ygctac
open Go.RowKit
set_option linter.unusedVariables false
set_option linter.unusedSimpArgs false

theorem good_trans {Z : Nat → Prop} {W0 W : World} {mb k : Nat} {Q : Nat → Int} {r : Ending} {w' : World} (h : GoodR Z W mb k Q r w') (h0 : KZ Z W0 W) : GoodR Z W0 mb k Q r w' := by
  obtain ⟨h1, v, u, n, S, k', Q', a1, a2, a3, a4, a5, a6, a7⟩ := h
  exact ⟨h1, v, u, n, S, k', Q', a1, a2, a3, a4, a5, a6, h0.trans a7⟩
theorem len_lt {x : Ent} {p : Option Addr} {l : Nat} (h : vOf x = .slice p l l) (hs : ∀ e, x = some e → e.l < 140737488355328) : l < 140737488355328 := by
  cases x with
  | none => cases h; decide
  | some e =>
    have := hs e rfl
    injection h with h1 h2 h3
    omega
theorem cp_nrm {x : Ent} {g : Nat} (h : nrm x = true) : nrm (cp x g) = true := by
  cases x with
  | none => rfl
  | some e => exact h
theorem cp_ne {W w' : World} {Z : Nat → Prop} {mb : Nat} {v u : Value} {n : Nat} {S : Nat → Ent} {k : Nat} {Q : Nat → Int} {x : Ent} (h : MO W Z mb v u n S k Q) (hb : Below W.heap.size W w') (hc : CpOk w' x W.heap.size) (hx : ∀ e, x = some e → Dg e.f e.l ∧ e.l ≤ 2000) : NE w' Z S n (cp x W.heap.size) := by
  intro e he
  cases x with
  | none => cases he
  | some e0 =>
    cases he
    refine ⟨⟨h.fresh _ (Nat.le_refl _), rfl, rfl, (hx e0 rfl).2, (hx e0 rfl).1, hc e0 rfl⟩, fun i hi e' he' => ?_⟩
    have := (h.st.ent i hi e' he').2.2.2.2.2.lt
    simp only
    omega
/-- Two entries change places. -/
theorem MO.swap {W : World} {Z : Nat → Prop} {mb g c a : Nat} {u : Value} {S : Nat → Ent} {k : Nat} {Q : Nat → Int} (h : MO W Z mb (.slice (some ⟨g, 0, none⟩) (a + 2) c) u (a + 2) S k Q) :
    MO (((W.setCell ⟨g, a, none⟩ (vOf (S (a + 1)))).setCell ⟨g, a + 1, none⟩ (vOf (S a))).drew) Z mb (.slice (some ⟨g, 0, none⟩) (a + 2) c) u (a + 2) (fun i => if i = a then S (a + 1) else if i = a + 1 then S a else S i) k Q := by
  obtain ⟨C, hg, hC, hci⟩ := mo_cells h
  have hnc : a + 2 ≤ c := by
    rcases h.st.row with ⟨h0, _⟩ | ⟨g', c', C', h0, h1, _⟩
    · cases h0
    · cases h0; exact h1
  have g1 := heap_setCell_same W g a C 23 (vOf (S (a + 1))) hg
  have g2 := heap_setCell_same _ g (a + 1) _ 23 (vOf (S a)) g1
  have hk : ∀ t, t ≠ 23 → Keeps W (((W.setCell ⟨g, a, none⟩ (vOf (S (a + 1)))).setCell ⟨g, a + 1, none⟩ (vOf (S a))).drew) t := fun t ht =>
    (Keeps.set (a := ⟨g, a, none⟩) hg ht _).trans (Keeps.set (W := W.setCell ⟨g, a, none⟩ (vOf (S (a + 1)))) (a := ⟨g, a + 1, none⟩) g1 ht _)
  refine ⟨hk 34 (by decide) _ _ h.cell, h.zm, ⟨.inr ⟨g, c, _, rfl, hnc, g2, by simp [hC], fun i hi => ?_⟩, fun b hb => h.st.zv b hb, fun i hi e he => ?_, fun i j hi hj hne e e' he he' => ?_⟩, h.ou.moved (hk 92 (by decide)), fun b hb => h.fresh b (Nat.le_trans (((Below.refl 0 W).setCell (p := ⟨g, a, none⟩) (Nat.zero_le _) (vOf (S (a + 1)))).setCell (p := ⟨g, a + 1, none⟩) (Nat.zero_le _) (vOf (S a))).size hb)⟩
  · by_cases c1 : i = a
    · subst c1
      rw [Array.getElem?_setIfInBounds_ne (by omega)]
      have hac : i < c := by omega
      simp [hC, hac]
    · by_cases c2 : i = a + 1
      · subst c2
        have hac : a + 1 < c := by omega
        simp [hC, hac]
      · rw [Array.getElem?_setIfInBounds_ne (by omega), Array.getElem?_setIfInBounds_ne (by omega), hci i hi]
        simp [c1, c2]
  · by_cases c1 : i = a
    · simp only [c1, if_true] at he
      exact (h.st.ent (a + 1) (by omega) e he).moved (hk 5 (by decide))
    · by_cases c2 : i = a + 1
      · simp only [c1, c2, if_true, if_false, show a + 1 ≠ a by omega] at he
        exact (h.st.ent a (by omega) e he).moved (hk 5 (by decide))
      · simp only [c1, c2, if_false] at he
        exact (h.st.ent i hi e he).moved (hk 5 (by decide))
  · have key : ∀ i, i < a + 2 → ∃ i', i' < a + 2 ∧ (if i = a then S (a + 1) else if i = a + 1 then S a else S i) = S i' ∧ (i' = if i = a then a + 1 else if i = a + 1 then a else i) := by
      intro i hi
      by_cases c1 : i = a
      · exact ⟨a + 1, by omega, by simp [c1], by simp [c1]⟩
      · by_cases c2 : i = a + 1
        · exact ⟨a, by omega, by simp [c2], by simp [c2]⟩
        · exact ⟨i, hi, by simp [c1, c2], by simp [c1, c2]⟩
    obtain ⟨i', hi', e1, f1⟩ := key i hi
    obtain ⟨j', hj', e2, f2⟩ := key j hj
    rw [e1] at he
    rw [e2] at he'
    refine h.st.dis i' j' hi' hj' ?_ e e' he he'
    rw [f1, f2]
    intro hh
    split at hh <;> split at hh <;> (try split at hh) <;> (try split at hh) <;> omega
theorem allN_swap {a : Nat} {S : Nat → Ent} (h : allN (a + 2) S = true) : allN (a + 2) (fun i => if i = a then S (a + 1) else if i = a + 1 then S a else S i) = true := by
  refine allN_true (fun i hi => ?_)
  by_cases c1 : i = a
  · simp only [c1, if_true]; exact allN_at h (by omega)
  · by_cases c2 : i = a + 1
    · simp only [c2, if_true, if_false, show a + 1 ≠ a by omega]; exact allN_at h (by omega)
    · simp only [c1, c2, if_false]; exact allN_at h hi
theorem take_b (x : Ent) (w : World) (h : EntOk w x) : Calls Tacg.prog 14 #[vOf x] w fun r w' => ∃ y, r = .returned y ∧ NatB w' y w.heap.size 1024 ∧ Below w.heap.size w w' := by
  cases x with
  | none =>
    refine (take_nil w).mono ?_
    rintro r w' ⟨rfl, rfl⟩
    exact ⟨_, rfl, .inl rfl, Below.refl _ _⟩
  | some e =>
    obtain ⟨b, o, l, c, f⟩ := e
    obtain ⟨h1, h2, h3, h4⟩ := h _ rfl
    simp only at h1 h2 h3 h4
    show Calls Tacg.prog 14 #[.slice (some ⟨b, o, none⟩) l c] w _
    rcases Nat.eq_zero_or_pos (top f (min l 1024)) with hz | hz
    · refine (takeZ b o l c f h1 h2 w h4 hz).mono ?_
      rintro r w' ⟨rfl, rfl⟩
      exact ⟨_, rfl, .inl rfl, Below.refl _ _⟩
    · refine (takeS b o l c f h1 h2 w h4 _ rfl hz).mono ?_
      rintro r w' ⟨rfl, hB, hR⟩
      have hl := top_le f (min l 1024)
      exact ⟨_, rfl, .inr ⟨_, _, f, rfl, Nat.le_refl _, hz, by omega, by omega, top_top _ _, h3.le (by omega), hR.own⟩, hB⟩
set_option maxRecDepth 100000 in
theorem calcTake_b (x : Ent) (w : World) (h : EntOk w x) : Calls Tacg.prog 82 #[vOf x] w fun r w' => ∃ y, r = .returned y ∧ NatB w' y w.heap.size 1024 ∧ Below w.heap.size w w' := by
  cases x with
  | none =>
    have HT := hide (take_b none w h)
    show Calls Tacg.prog 82 #[.slice none 0 0] w _
    go_enter Tacg.func82, Tacg.ntmps82
    go_wp2_with fail
    refine HT.out.mono ?_
    rintro e w' ⟨x, rfl, hx, hB⟩
    go_wp2
    go_ret
    exact ⟨x, rfl, hx, hB⟩
  | some e =>
    obtain ⟨b, o, l, c, f⟩ := e
    obtain ⟨h1, h2, h3, h4⟩ := h _ rfl
    simp only at h1 h2 h3 h4
    by_cases c1 : l ≤ 512
    · have t1 : ¬ (512 : Int) < (l : Int) := by omega
      have HT := hide (take_b (some ⟨b, o, l, c, f⟩) w h)
      clear h h3 h4
      show Calls Tacg.prog 82 #[.slice (some ⟨b, o, none⟩) l c] w _
      go_enter Tacg.func82, Tacg.ntmps82
      go_wp2_with fail
      refine HT.out.mono ?_
      rintro e w' ⟨x, rfl, hx, hB⟩
      go_wp2
      go_ret
      exact ⟨x, rfl, hx, hB⟩
    · have t1 : (512 : Int) < (l : Int) := by omega
      have t2 : (512 : Int) ≤ (c : Int) := by omega
      have HT := hide (take_b (some ⟨b, o, 512, 512, f⟩) w (fun e he => by cases he; exact ⟨Nat.le_refl _, by simp only; omega, h3.le (by simp only; omega), fun i hi => h4 i (by simp only at hi; omega)⟩))
      clear h h3 h4
      show Calls Tacg.prog 82 #[.slice (some ⟨b, o, none⟩) l c] w _
      go_enter Tacg.func82, Tacg.ntmps82
      go_wp2_with fail
      refine HT.out.mono ?_
      rintro e w' ⟨x, rfl, hx, hB⟩
      go_wp2
      go_ret
      exact ⟨x, rfl, hx, hB⟩
theorem EntV.slice {w : World} {v : Value} {x : Ent} (h : EntV w v x) : ∃ p l c, v = .slice p l c := by
  rcases h with ⟨rfl, _⟩ | ⟨a, e, rfl, _⟩
  · exact vOf_slice x
  · exact ⟨_, _, _, rfl⟩
theorem calcTake_v {v : Value} {x : Ent} (w : World) (h : EntV w v x) : Calls Tacg.prog 82 #[v] w fun r w' => ∃ y, r = .returned y ∧ NatB w' y w.heap.size 1024 ∧ Below w.heap.size w w' := by
  rcases h with ⟨rfl, h⟩ | ⟨a, e, rfl, rfl, h0⟩
  · exact calcTake_b x w h
  · refine (calcTake (n := 0) (f := fun _ => 0) (by omega) w (.inl ⟨⟨some a, rfl⟩, rfl⟩)).mono ?_
    rintro r w' ⟨y, rfl, hy, hB⟩
    refine ⟨y, rfl, .inl ?_, hB⟩
    rcases hy with ⟨hy, _⟩ | ⟨c, _, hy, _⟩
    · exact hy
    · exact absurd hy (Nat.lt_irrefl _)
end Go.Proofs.Ygctac
