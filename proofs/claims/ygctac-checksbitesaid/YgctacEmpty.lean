/-
  THE WALK of law.EmptyIsNil.
-/
import Derived.Test.YgctacRun4
namespace Go.Proofs.Ygctac
open Go.RowKit
set_option linter.unusedVariables false
set_option linter.unusedSimpArgs false

theorem sub_xx {x : Value} (w : World) (h : NatAt w x) : Calls Tacg.prog 34 #[x, x] w fun r w' => r = .returned (.tuple #[.slice none 0 0, .bool true]) ∧ Below w.heap.size w w' := by
  rcases h with rfl | ⟨g, m, f, rfl, h2, h4, h5, h6, h7⟩
  · exact sub_none w
  · exact sub_self g m f h2 (by omega) h5 h6 w h7
theorem emptyVectors_in {v : Value} {n : Nat} (w : World) (h : InAt w v n) (hn : n ≤ 512) : Calls Tacg.prog 38 #[v] w fun r w' => r = .returned (.bool true) ∧ Below w.heap.size w w' := by
  rcases h with ⟨⟨p, rfl⟩, rfl⟩ | ⟨b, o, c, f, rfl, h2, h3, h4, h5⟩
  · exact emptyVectors_any p 0 0 hn w
  · exact emptyVectors_any _ n c hn w
theorem take_zeros (g n : Nat) (hn : n ≤ 140737488355328) (w : World) (h : RowAt w g n (fun _ => 0)) : Calls Tacg.prog 14 #[.slice (some ⟨g, 0, none⟩) n n] w fun r w' => r = .returned (.slice none 0 0) ∧ w' = w :=
  take_zero g 0 n n (fun _ => 0) (Nat.le_refl _) hn w h.cells (top_zeros _)
theorem take_empty (g : Nat) (w : World) : Calls Tacg.prog 14 #[.slice (some ⟨g, 0, none⟩) 0 0] w fun r w' => r = .returned (.slice none 0 0) ∧ w' = w :=
  take_zero g 0 0 0 (fun _ => 0) (Nat.le_refl _) (by omega) w (fun i hi => absurd hi (by omega)) (top_zeros _)

set_option maxRecDepth 100000 in
set_option maxHeartbeats 2000000 in
theorem emptyIsNil_any (a : Option Addr) (n c : Nat) (w : World) (h : InAt w (.slice a n c) n) (hn : n ≤ 140737488355328) :
    Calls Tacg.prog 6 #[.slice a n c] w fun r w' => r = .returned (.bool true) ∧ Below w.heap.size w w' := by
  have HI := hide h
  have rm := make22 n hn
  clear h
  go_enter Tacg.func6, Tacg.ntmps6
  go_wp2_with fail
  refine (take_any _ HI.out).mono ?_
  rintro e w1 ⟨x, rfl, hx, hB1⟩
  have HX := hide (hx.at.below ((Below.refl _ _).alloc (Nat.le_refl _) (.cells (rowL n fun _ => 0).toArray 5)))
  have HI1 := hide ((HI.out.below hB1).below ((Below.refl _ _).alloc (Nat.le_refl _) (.cells (rowL n fun _ => 0).toArray 5)))
  have HZ := hide (RowAt.new w1 n fun _ => 0)
  have KB := hide (hB1.alloc hB1.size (.cells (rowL n fun _ => 0).toArray 5))
  clear hx hB1 HI
  go_wp2_with fail
  refine (sub_xx _ HX.out).mono ?_
  rintro e w2 ⟨rfl, hB2⟩
  have HX2 := hide (HX.out.below hB2)
  have HI2 := hide (HI1.out.below hB2)
  have HZ2 := hide (HZ.out.below hB2 HZ.out.lt)
  have KB2 := hide (belowTr KB.out hB2)
  clear HX HI1 HZ KB hB2
  go_wp2_with fail
  refine (succ_any _ HX2.out).mono ?_
  rintro e w3 ⟨g, t, k, rfl, t1, t2, t3, t4, hB3⟩
  have HX3 := hide (HX2.out.below hB3)
  have HI3 := hide (HI2.out.below hB3)
  have HZ3 := hide (HZ2.out.below hB3 HZ2.out.lt)
  have KB3 := hide (belowTr KB2.out hB3)
  have HT := hide t4
  clear HX2 HI2 HZ2 KB2 hB3 t4
  go_wp2_with fail
  refine (sub_less g t k t1 (by omega) t3 _ HT.out).mono ?_
  rintro e w4 ⟨rfl, hw⟩
  obtain rfl := hw.symm
  clear hw
  go_wp2_with fail
  refine (take_zeros _ n hn _ HZ3.out).mono ?_
  rintro e w4 ⟨rfl, hw⟩
  obtain rfl := hw.symm
  clear hw
  have A1 : Below w3.heap.size w3 (w3.alloc (.cells #[] 5)) := (Below.refl _ _).alloc (Nat.le_refl _) _
  have HX4 := hide (HX3.out.below A1)
  have HI4 := hide (HI3.out.below A1)
  have KB4 := hide (belowTr KB3.out A1)
  clear HX3 HI3 HZ3 KB3 HT A1
  go_wp2_with fail
  refine (take_empty _ _).mono ?_
  rintro e w4 ⟨rfl, hw⟩
  obtain rfl := hw.symm
  clear hw
  generalize w3.alloc (.cells #[] 5) = w5 at *
  go_wp2_with fail
  refine (add_nil _).mono ?_
  rintro e w6 ⟨rfl, hB6⟩
  have A2 : Below w6.heap.size w6 ((w6.alloc (.cells #[] 5)).alloc (.cells #[] 5)) := ((Below.refl _ _).alloc (Nat.le_refl _) _).alloc (by rw [size_al]; omega) _
  have B2 := belowTr hB6 A2
  have HX5 := hide (HX4.out.below B2)
  have HI5 := hide (HI4.out.below B2)
  have KB5 := hide (belowTr KB4.out B2)
  clear HX4 HI4 KB4 hB6 A2 B2
  go_wp2_with fail
  refine (add_emp _ _ _ _ _).mono ?_
  rintro e w7 ⟨rfl, hB7⟩
  have HX6 := hide (HX5.out.below hB7)
  have HI6 := hide (HI5.out.below hB7)
  have KB6 := hide (belowTr KB5.out hB7)
  clear HX5 HI5 KB5 hB7
  go_wp2_with fail
  refine (emptyProducts_any _ HX6.out).mono ?_
  rintro e w8 ⟨rfl, hB8⟩
  have HI7 := hide (HI6.out.below hB8)
  have KB7 := hide (belowTr KB6.out hB8)
  clear HX6 HI6 KB6 hB8
  go_wp2_with fail
  refine (digits_any _ HI7.out).mono ?_
  rintro e w9 ⟨y, rfl, hy, hw⟩
  obtain rfl := hw.symm
  clear hw
  have HY := hide hy
  clear hy
  go_wp2_with fail
  refine (emptyVectors_in _ HY.out (by omega)).mono ?_
  rintro e w9 ⟨rfl, hB9⟩
  have KB8 := hide (belowTr KB7.out hB9)
  clear HY HI7 KB7 hB9
  go_wp2_with fail
  refine (emptyRuns_any _).mono ?_
  rintro e w10 ⟨rfl, hB10⟩
  have KB9 := hide (belowTr KB8.out hB10)
  clear KB8 hB10
  go_wp2_with fail
  go_ret
  exact ⟨rfl, KB9.out⟩
end Go.Proofs.Ygctac
