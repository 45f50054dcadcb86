/-
  law.emptyVectors.
-/
import Derived.Test.YgctacVec1
namespace Go.Proofs.Ygctac
open Go.RowKit
set_option linter.unusedVariables false
set_option linter.unusedSimpArgs false

@[simp, go_sem] theorem eqNil131 (w : World) (a : Option Addr) (n c : Nat) : (binOp .eql 131 (.slice a n c) (.slice none 0 0)).run Tacg.prog w = .ok (.bool a.isNone) w := Lib.run_eql_slice_nil w _ _ _ _ _ _ _ Tacg.underlying131
@[simp, go_sem] theorem eqNil68 (w : World) (a : Option Addr) (n c : Nat) : (binOp .eql 68 (.slice a n c) (.slice none 0 0)).run Tacg.prog w = .ok (.bool a.isNone) w := Lib.run_eql_slice_nil w _ _ _ _ _ _ _ Tacg.underlying68
@[simp, go_sem] theorem eqNil128 (w : World) (a : Option Addr) (n c : Nat) : (binOp .eql 128 (.slice a n c) (.slice none 0 0)).run Tacg.prog w = .ok (.bool a.isNone) w := Lib.run_eql_slice_nil w _ _ _ _ _ _ _ Tacg.underlying128

set_option maxRecDepth 100000 in
set_option maxHeartbeats 600000 in
theorem emptyVectors_any (a : Option Addr) (n c : Nat) (hn : n ≤ 512) (w : World) :
    Calls Tacg.prog 38 #[.slice a n c] w fun r w' => r = .returned (.bool true) ∧ Below w.heap.size w w' := by
  have rm := make68 n hn
  have HM : Hid (∀ i, i < n → ((w.alloc (.cells #[] 5)).alloc (.cells (madeCells #[.complex .f64 0 0] n) 143)).cell? ⟨w.heap.size + 1, i, none⟩ = some (.complex .f64 0 0)) := by
    intro i hi
    have := made_cell (w.alloc (.cells #[] 5)) n i hi
    rwa [size_al] at this
  go_enter Tacg.func38, Tacg.ntmps38
  go_wp2_with fail
  refine (fconv_r a n c _ hn _).mono ?_
  rintro e w1 ⟨rfl, hw⟩
  obtain rfl := hw.symm
  clear hw
  go_wp2_with fail
  refine (nconv_l a n c _ hn _).mono ?_
  rintro e w1 ⟨rfl, hw⟩
  obtain rfl := hw.symm
  clear hw
  go_wp2_with fail
  refine (round0 (w.heap.size + 1) n hn _ HM.out).mono ?_
  rintro e w1 ⟨rfl, hw⟩
  obtain rfl := hw.symm
  clear hw
  go_wp2_with fail
  refine (raw_r a n c _ hn _).mono ?_
  rintro e w1 ⟨rfl, hw⟩
  obtain rfl := hw.symm
  clear hw
  go_wp2_with fail
  refine (raw_l a n c _ _).mono ?_
  rintro e w1 ⟨rfl, hw⟩
  obtain rfl := hw.symm
  clear hw
  go_wp2_with fail
  refine (dft_e _ _ _).mono ?_
  rintro e w1 ⟨rfl, hw⟩
  obtain rfl := hw.symm
  clear hw
  go_wp2_with fail
  refine (ndft_e _ _).mono ?_
  rintro e w1 ⟨rfl, hw⟩
  obtain rfl := hw.symm
  clear hw
  go_wp2_with fail
  go_ret
  exact ⟨rfl, (((((Below.refl _ _).alloc (Nat.le_refl _) _).alloc (by simp only [size_al]; omega) _).alloc (by simp only [size_al]; omega) _).alloc (by simp only [size_al]; omega) _).alloc (by simp only [size_al]; omega) _⟩
end Go.Proofs.Ygctac
