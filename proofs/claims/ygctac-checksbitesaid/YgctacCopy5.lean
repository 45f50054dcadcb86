/-
  calc.Run of one push, whatever is pushed.
-/
import Derived.Test.YgctacCopy4
namespace Go.Proofs.Ygctac
open Go.RowKit
set_option linter.unusedVariables false
set_option linter.unusedSimpArgs false

theorem outcomeAll (b g c : Nat) (hc : 1 ≤ c) {x : Value} {k0 m : Nat} {f : Nat → Int} (w : World) (h : MachAt w b (.slice (some ⟨g, 0, none⟩) 1 c) (.slice none 0 0)) (hg : w.cell? ⟨g, 0, none⟩ = some x) (hx : NatO w x k0 m f) :
    Calls Tacg.prog 157 #[.pointer (some ⟨b, 0, none⟩)] w fun r w' => ∃ k y q, r = .returned (.agg #[.bool false, .slice (some ⟨k, 0, none⟩) 1 1, .slice none 0 0]) ∧ w'.cell? ⟨k, 0, none⟩ = some y ∧ NatO w' y q m f ∧ w.heap.size ≤ k ∧ w.heap.size ≤ q ∧ Below w.heap.size w w' := by
  rcases hx with ⟨rfl, rfl⟩ | ⟨cx, rfl, h2, h3, h4, h5, h6⟩
  · refine (outcome1 b g c hc w h hg).mono ?_
    rintro r w' ⟨k, rfl, hk, hk2, hB⟩
    exact ⟨k, _, w.heap.size, rfl, hk, .inl ⟨rfl, rfl⟩, hk2, Nat.le_refl _, hB⟩
  · refine (outcomeX b g c k0 m cx hc h2 h4 h3.1 f w h hg h6).mono ?_
    rintro r w' ⟨k, s, rfl, hk, hs, hk2, hs2, hB⟩
    exact ⟨k, _, s, rfl, hk, .inr ⟨m, rfl, h2, ⟨Nat.le_refl _, by omega⟩, h4, h5, hs⟩, hk2, hs2, hB⟩

set_option maxRecDepth 100000 in
set_option maxHeartbeats 1000000 in
theorem runX (eng : Int) (he0 : 0 ≤ eng) (he : eng ≤ 3) (s : Nat) {v : Value} {n : Nat} {f : Nat → Int} (hn : n ≤ 140737488355328) (w : World) (hs0 : w.cell? ⟨s, 0, none⟩ = some (.int .u8 0)) (hs1 : w.cell? ⟨s, 1, none⟩ = some v) (hv : Dig w v n f) :
    Calls Tacg.prog 107 #[.int .u8 eng, .slice (some ⟨s, 0, none⟩) 1 1] w fun r w' => ∃ k y q, r = .returned (.agg #[.bool false, .slice (some ⟨k, 0, none⟩) 1 1, .slice none 0 0]) ∧ w'.cell? ⟨k, 0, none⟩ = some y ∧ NatO w' y q (top f (min n 512)) f ∧ w.heap.size < k ∧ w.heap.size < q ∧ Below w.heap.size w w' := by
  have t3 : ¬ (3 : Int) < eng := by omega
  have hO := hide ((OutAt.new w (.bool false) (.slice none 0 0) (.slice none 0 0)).alloc (.cells #[.slice none 0 0, .slice none 0 0] 34))
  have hM : Hid (MachAt ((w.alloc (.cells #[.bool false, .slice none 0 0, .slice none 0 0] 140)).alloc (.cells #[.slice none 0 0, .slice none 0 0] 34)) (w.heap.size + 1) (.slice none 0 0) (.slice none 0 0)) := by
    have := MachAt.new (w.alloc (.cells #[.bool false, .slice none 0 0, .slice none 0 0] 140)) (.slice none 0 0) (.slice none 0 0)
    rwa [size_al] at this
  have hB0 : Below w.heap.size w ((w.alloc (.cells #[.bool false, .slice none 0 0, .slice none 0 0] 140)).alloc (.cells #[.slice none 0 0, .slice none 0 0] 34)) := ((Below.refl _ _).alloc (Nat.le_refl _) _).alloc (by rw [size_al]; omega) _
  have hB := hide hB0
  have q0 := cell_alloc' (.cells #[.slice none 0 0, .slice none 0 0] 34) (cell_alloc' (.cells #[.bool false, .slice none 0 0, .slice none 0 0] 140) hs0)
  have q1 := cell_alloc' (.cells #[.slice none 0 0, .slice none 0 0] 34) (cell_alloc' (.cells #[.bool false, .slice none 0 0, .slice none 0 0] 140) hs1)
  have hG := hide (hv.below hB0)
  clear hs0 hs1 hv hB0
  go_enter Tacg.func107, Tacg.ntmps107
  go_wp2_with fail
  go_loopw [6] (fun s6 w1 => ∃ i : Nat, s6 = .int .i64 i ∧ i ≤ 1 ∧ Hid (i = 0 → w1 = (w.alloc (.cells #[.bool false, .slice none 0 0, .slice none 0 0] 140)).alloc (.cells #[.slice none 0 0, .slice none 0 0] 34)) ∧ Hid (i = 1 → OutAt w1 w.heap.size (.bool false) (.slice none 0 0) (.slice none 0 0) ∧ Below w.heap.size w w1 ∧ ∃ g' c' k' x, 1 ≤ c' ∧ MachAt w1 (w.heap.size + 1) (.slice (some ⟨g', 0, none⟩) 1 c') (.slice none 0 0) ∧ w1.cell? ⟨g', 0, none⟩ = some x ∧ NatO w1 x k' (top f (min n 512)) f)) (fun s6 _ => 1 - (intOf s6).toNat)
  case atStart => exact ⟨0, rfl, by decide, hide (fun _ => rfl), hide (fun h => absurd h (by decide))⟩
  case round =>
    obtain ⟨i, rfl, hi, h0, h1⟩ := hrel
    rcases Nat.eq_zero_or_pos i with rfl | hp
    · have hw := h0.out rfl
      subst hw
      clear h0 h1
      go_wp2_with fail
      refine (stepX eng he0 he (w.heap.size + 1) hn _ hM.out hG.out).mono ?_
      rintro e w1 ⟨rfl, g', c', k', x, p1, p2, p3, p5, p4⟩
      have hO1 := hO.out.below (p4 (w.heap.size + 1) _ (Below.refl _ _) (Nat.le_refl _)) (by omega)
      have hB1 := p4 w.heap.size w hB.out (by omega)
      have FIN := hide (And.intro hO1 (And.intro hB1 (And.intro p1 (And.intro p2 (And.intro p3 p5)))))
      clear p4 hO1 hB1 p1 p2 p3 p5
      go_wp2
      go_roundw
      case rel => exact ⟨1, rfl, by decide, hide (fun h => absurd h (by decide)), hide (fun _ => ⟨FIN.out.1, FIN.out.2.1, g', c', k', x, FIN.out.2.2⟩)⟩
      case measure => simp [intOf]
    · obtain rfl : i = 1 := by omega
      obtain ⟨hO1, hB1, g', c', k', x, p1, p2, p3, p5⟩ := h1.out rfl
      have HO1 := hide hO1
      have HB1 := hide hB1
      have HP := hide (And.intro p2 (And.intro p3 p5))
      have hsz : w.heap.size + 1 < _ := p2.lt
      have HSZ := hide hsz
      clear h0 h1 hO1 hB1 q0 q1 p2 p3 p5 hsz
      go_wp2_with fail
      refine (outcomeAll (w.heap.size + 1) g' c' p1 _ HP.out.1 HP.out.2.1 HP.out.2.2).mono ?_
      rintro e w2 ⟨k, y, q, rfl, hk, hy, hk2, hq2, hb⟩
      have hO2 := HO1.out.below hb HO1.out.lt
      have k0 := hO2.c0
      have k1 := hO2.c1
      have k2 := hO2.c2
      have f0 := hO2.fz 0
      have f1 := hO2.fz 1
      have f2 := hO2.fz 2
      have hB2 := hide (belowTr HB1.out hb)
      have hnk : w.heap.size < k := by have := HSZ.out; omega
      have hnq : w.heap.size < q := by have := HSZ.out; omega
      have HG := hide (And.intro hnk (And.intro hnq (And.intro hk hy)))
      clear hb hO2 HO1 HB1 hk hM hO hB hG HP hk2 hq2 HSZ hnk hnq hy
      go_wp2
      obtain ⟨hnk, hnq, hk, hy⟩ := HG.out
      have n1 : k ≠ w.heap.size := by omega
      refine bodyPost_ret (results_cellN (by rfl) _ _ _ ⟨w.heap.size, 0, none⟩ (.agg #[.bool false, .slice (some ⟨k, 0, none⟩) 1 1, .slice none 0 0]) rfl (cells_out ?_ ?_ ?_)) rfl ⟨k, y, q, rfl, cell_set_ne (cell_set_ne (cell_set_ne hk n1) n1) n1, hy.block (fun _ => ?_), hnk, hnq, ((hB2.out.setCell (Nat.le_refl _) _).setCell (Nat.le_refl _) _).setCell (Nat.le_refl _) _⟩
      · simp [go_sem, k0]
      · simp [go_sem, k1]
      · simp [go_sem, k2]
      · rw [Below.heap_setCell _ _ _ _ (by show q ≠ w.heap.size; omega), Below.heap_setCell _ _ _ _ (by show q ≠ w.heap.size; omega), Below.heap_setCell _ _ _ _ (by show q ≠ w.heap.size; omega)]
end Go.Proofs.Ygctac
