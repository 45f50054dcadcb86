/-
  calc.Run of no script and of one that pushes a zero; law.emptyRuns.
-/
import Derived.Test.YgctacRun2
namespace Go.Proofs.Ygctac
open Go.RowKit
set_option linter.unusedVariables false
set_option linter.unusedSimpArgs false

/-- An outcome in its block. -/
def OutAt (w : World) (b : Nat) (x y z : Value) : Prop := w.heap[b]? = some (.cells #[x, y, z] 140 (0, 0))
theorem OutAt.c0 {w : World} {b : Nat} {x y z : Value} (h : OutAt w b x y z) : w.cell? ⟨b, 0, none⟩ = some x := by rw [World.cell?, h]; rfl
theorem OutAt.c1 {w : World} {b : Nat} {x y z : Value} (h : OutAt w b x y z) : w.cell? ⟨b, 1, none⟩ = some y := by rw [World.cell?, h]; rfl
theorem OutAt.c2 {w : World} {b : Nat} {x y z : Value} (h : OutAt w b x y z) : w.cell? ⟨b, 2, none⟩ = some z := by rw [World.cell?, h]; rfl
theorem OutAt.fz {w : World} {b : Nat} {x y z : Value} (h : OutAt w b x y z) (i : Nat) : w.frozen? ⟨b, i, none⟩ = false := by rw [World.frozen?, h]; simp
theorem OutAt.lt {w : World} {b : Nat} {x y z : Value} (h : OutAt w b x y z) : b < w.heap.size := (Array.getElem?_eq_some_iff.1 h).1
theorem OutAt.below {w w' : World} {b B : Nat} {x y z : Value} (h : OutAt w b x y z) (hb : Below B w w') (hB : b < B) : OutAt w' b x y z := (hb.block b hB).trans h
theorem OutAt.alloc {w : World} {b : Nat} {x y z : Value} (h : OutAt w b x y z) (o : Obj) : OutAt (w.alloc o) b x y z := (heap_alloc_old w o h.lt).trans h
theorem OutAt.new (w : World) (x y z : Value) : OutAt (w.alloc (.cells #[x, y, z] 140)) w.heap.size x y z := alloc_last _ _
theorem MachAt.new (w : World) (x y : Value) : MachAt (w.alloc (.cells #[x, y] 34)) w.heap.size x y := alloc_last _ _

set_option maxRecDepth 100000 in
set_option maxHeartbeats 1000000 in
theorem run_e (eng : Int) (he : eng ≤ 3) (s : Nat) (w : World) :
    Calls Tacg.prog 107 #[.int .u8 eng, .slice (some ⟨s, 0, none⟩) 0 0] w fun r w' => r = .returned (.agg #[.bool false, .slice none 0 0, .slice none 0 0]) ∧ Below w.heap.size w w' := by
  have t3 : ¬ (3 : Int) < eng := by omega
  have hO := hide ((OutAt.new w (.bool false) (.slice none 0 0) (.slice none 0 0)).alloc (.cells #[.slice none 0 0, .slice none 0 0] 34))
  have hM : Hid (MachAt ((w.alloc (.cells #[.bool false, .slice none 0 0, .slice none 0 0] 140)).alloc (.cells #[.slice none 0 0, .slice none 0 0] 34)) (w.heap.size + 1) (.slice none 0 0) (.slice none 0 0)) := by
    have := MachAt.new (w.alloc (.cells #[.bool false, .slice none 0 0, .slice none 0 0] 140)) (.slice none 0 0) (.slice none 0 0)
    rwa [size_al] at this
  have hB : Hid (Below w.heap.size w ((w.alloc (.cells #[.bool false, .slice none 0 0, .slice none 0 0] 140)).alloc (.cells #[.slice none 0 0, .slice none 0 0] 34))) := ((Below.refl _ _).alloc (Nat.le_refl _) _).alloc (by rw [size_al]; omega) _
  go_enter Tacg.func107, Tacg.ntmps107
  go_wp2_with fail
  go_loopw [6] (fun s6 w1 => s6 = .int .i64 0 ∧ w1 = (w.alloc (.cells #[.bool false, .slice none 0 0, .slice none 0 0] 140)).alloc (.cells #[.slice none 0 0, .slice none 0 0] 34)) (fun _ _ => 0)
  case atStart => exact ⟨rfl, rfl⟩
  case round =>
    obtain ⟨rfl, hw⟩ := hrel
    subst hw
    go_wp2_with fail
    refine (outcome0 (w.heap.size + 1) _ hM.out).mono ?_
    rintro e w1 ⟨rfl, hb⟩
    have hO1 := hO.out.below hb hO.out.lt
    have k0 := hO1.c0
    have k1 := hO1.c1
    have k2 := hO1.c2
    have f0 := hO1.fz 0
    have f1 := hO1.fz 1
    have f2 := hO1.fz 2
    have hB1 := hide (belowTr hB.out hb)
    clear hb hO1 hO hM hB
    go_wp2
    refine bodyPost_ret (results_cellN (by rfl) _ _ _ ⟨w.heap.size, 0, none⟩ (.agg #[.bool false, .slice none 0 0, .slice none 0 0]) rfl (cells_out ?_ ?_ ?_)) rfl ⟨rfl, ?_⟩
    · simp [go_sem, k0]
    · simp [go_sem, k1]
    · simp [go_sem, k2]
    · exact ((hB1.out.setCell (Nat.le_refl _) _).setCell (Nat.le_refl _) _).setCell (Nat.le_refl _) _

set_option maxRecDepth 100000 in
set_option maxHeartbeats 1000000 in
theorem run_p (eng : Int) (he0 : 0 ≤ eng) (he : eng ≤ 3) (s g : Nat) (w : World) (hs0 : w.cell? ⟨s, 0, none⟩ = some (.int .u8 0)) (hs1 : w.cell? ⟨s, 1, none⟩ = some (.slice (some ⟨g, 0, none⟩) 2 2)) (hg : Cells w g 0 2 (fun _ => 0)) :
    Calls Tacg.prog 107 #[.int .u8 eng, .slice (some ⟨s, 0, none⟩) 1 1] w fun r w' => ∃ k, r = .returned (.agg #[.bool false, .slice (some ⟨k, 0, none⟩) 1 1, .slice none 0 0]) ∧ w'.cell? ⟨k, 0, none⟩ = some (.slice none 0 0) ∧ w.heap.size ≤ k ∧ Below w.heap.size w w' := by
  have t3 : ¬ (3 : Int) < eng := by omega
  have hO := hide ((OutAt.new w (.bool false) (.slice none 0 0) (.slice none 0 0)).alloc (.cells #[.slice none 0 0, .slice none 0 0] 34))
  have hM : Hid (MachAt ((w.alloc (.cells #[.bool false, .slice none 0 0, .slice none 0 0] 140)).alloc (.cells #[.slice none 0 0, .slice none 0 0] 34)) (w.heap.size + 1) (.slice none 0 0) (.slice none 0 0)) := by
    have := MachAt.new (w.alloc (.cells #[.bool false, .slice none 0 0, .slice none 0 0] 140)) (.slice none 0 0) (.slice none 0 0)
    rwa [size_al] at this
  have hB : Hid (Below w.heap.size w ((w.alloc (.cells #[.bool false, .slice none 0 0, .slice none 0 0] 140)).alloc (.cells #[.slice none 0 0, .slice none 0 0] 34))) := ((Below.refl _ _).alloc (Nat.le_refl _) _).alloc (by rw [size_al]; omega) _
  have q0 := cell_alloc' (.cells #[.slice none 0 0, .slice none 0 0] 34) (cell_alloc' (.cells #[.bool false, .slice none 0 0, .slice none 0 0] 140) hs0)
  have q1 := cell_alloc' (.cells #[.slice none 0 0, .slice none 0 0] 34) (cell_alloc' (.cells #[.bool false, .slice none 0 0, .slice none 0 0] 140) hs1)
  have hG := hide (show Cells ((w.alloc (.cells #[.bool false, .slice none 0 0, .slice none 0 0] 140)).alloc (.cells #[.slice none 0 0, .slice none 0 0] 34)) g 0 2 (fun _ => 0) from fun i hi => cell_alloc' _ (cell_alloc' _ (hg i hi)))
  have hsz : ((w.alloc (.cells #[.bool false, .slice none 0 0, .slice none 0 0] 140)).alloc (.cells #[.slice none 0 0, .slice none 0 0] 34)).heap.size = w.heap.size + 1 + 1 := by rw [size_al, size_al]
  have HZ := hide hsz
  clear hs0 hs1 hg hsz
  go_enter Tacg.func107, Tacg.ntmps107
  go_wp2_with fail
  go_loopw [6] (fun s6 w1 => ∃ i : Nat, s6 = .int .i64 i ∧ i ≤ 1 ∧ Hid (i = 0 → w1 = (w.alloc (.cells #[.bool false, .slice none 0 0, .slice none 0 0] 140)).alloc (.cells #[.slice none 0 0, .slice none 0 0] 34)) ∧ Hid (i = 1 → OutAt w1 w.heap.size (.bool false) (.slice none 0 0) (.slice none 0 0) ∧ Below w.heap.size w w1 ∧ ∃ g' c', 1 ≤ c' ∧ MachAt w1 (w.heap.size + 1) (.slice (some ⟨g', 0, none⟩) 1 c') (.slice none 0 0) ∧ w1.cell? ⟨g', 0, none⟩ = some (.slice none 0 0))) (fun s6 _ => 1 - (intOf s6).toNat)
  case atStart => exact ⟨0, rfl, by decide, fun _ => rfl, fun h => by cases h⟩
  case round =>
    obtain ⟨i, rfl, hi, h0, h1⟩ := hrel
    rcases Nat.eq_zero_or_pos i with rfl | hp
    · have hw := h0.out rfl
      subst hw
      clear h0 h1
      go_wp2_with fail
      refine (step0 eng he0 he (w.heap.size + 1) g _ hM.out hG.out).mono ?_
      rintro e w1 ⟨rfl, g', c', p1, p2, p3, p4⟩
      have hO1 := hO.out.below (p4 (w.heap.size + 1) _ (Below.refl _ _) (Nat.le_refl _)) (by omega)
      have hB1 := p4 w.heap.size w hB.out (by omega)
      clear p4
      go_wp2
      go_roundw
      case rel => exact ⟨1, rfl, by decide, hide (fun h => absurd h (by decide)), hide (fun _ => ⟨hO1, hB1, g', c', p1, p2, p3⟩)⟩
      case measure => simp [intOf]
    · obtain rfl : i = 1 := by omega
      obtain ⟨hO1, hB1, g', c', p1, p2, p3⟩ := h1.out rfl
      have HO1 := hide hO1
      have HB1 := hide hB1
      clear h0 h1 hO1 hB1 q0 q1
      go_wp2_with fail
      refine (outcome1 (w.heap.size + 1) g' c' p1 _ p2 p3).mono ?_
      rintro e w2 ⟨k, rfl, hk, hk2, hb⟩
      have hO2 := HO1.out.below hb HO1.out.lt
      have hlt := HO1.out.lt
      have k0 := hO2.c0
      have k1 := hO2.c1
      have k2 := hO2.c2
      have f0 := hO2.fz 0
      have f1 := hO2.fz 1
      have f2 := hO2.fz 2
      have hB2 := hide (belowTr HB1.out hb)
      have hkk := hide hk
      have hne : w.heap.size ≠ k := by omega
      have hge : w.heap.size ≤ k := by omega
      have HG := hide (And.intro hne hge)
      clear hb hO2 HO1 HB1 hk hM hO hB hG p2 p3 hk2 hlt hne hge
      go_wp2
      refine bodyPost_ret (results_cellN (by rfl) _ _ _ ⟨w.heap.size, 0, none⟩ (.agg #[.bool false, .slice (some ⟨k, 0, none⟩) 1 1, .slice none 0 0]) rfl (cells_out ?_ ?_ ?_)) rfl ⟨k, rfl, ?_, HG.out.2, ?_⟩
      · simp [go_sem, k0]
      · simp [go_sem, k1]
      · simp [go_sem, k2]
      · have hne := HG.out.1
        have hk := hkk.out
        rw [World.cell?] at hk ⊢
        rw [Below.heap_setCell _ _ _ _ (by show k ≠ w.heap.size; omega), Below.heap_setCell _ _ _ _ (by show k ≠ w.heap.size; omega), Below.heap_setCell _ _ _ _ (by show k ≠ w.heap.size; omega)]
        exact hk
      · exact ((hB2.out.setCell (Nat.le_refl _) _).setCell (Nat.le_refl _) _).setCell (Nat.le_refl _) _
end Go.Proofs.Ygctac
