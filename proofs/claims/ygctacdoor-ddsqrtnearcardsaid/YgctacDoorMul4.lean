/-
  eft.Split, eft.TwoProd, dd.Mul: the walks, over words.
-/
import Derived.Test.YgctacDoorAddW
namespace Go.Proofs.YgctacDoor
open Go.RowKit
open Fp (fv rnd)
set_option linter.unusedVariables false
set_option linter.unusedSimpArgs false

/-- 2^27+1's pattern. -/
def splitP : Nat := 4728779608772575232

structure Splits (a hi lo : Nat) : Prop where
  steps : ∃ c d, floatBits .mul .f64 splitP a = some c ∧ floatBits .sub .f64 c a = some d ∧ floatBits .sub .f64 c d = some hi ∧ floatBits .sub .f64 a hi = some lo

set_option maxHeartbeats 1000000 in
theorem splits_any {a hi lo : Nat} (h : Splits a hi lo) (w : World) :
    Calls Tacg.prog 34 #[.float .f64 a] w fun r w' => r = .returned (.tuple #[.float .f64 hi, .float .f64 lo]) ∧ w' = w := by
  obtain ⟨c, d, h1, h2, h3, h4⟩ := h.steps
  have r1 := fun w => run_float_arith (P := Tacg.prog) w .mul 23 .f64 splitP a c h1
  have r2 := fun w => run_float_arith (P := Tacg.prog) w .sub 23 .f64 c a d h2
  have r3 := fun w => run_float_arith (P := Tacg.prog) w .sub 23 .f64 c d hi h3
  have r4 := fun w => run_float_arith (P := Tacg.prog) w .sub 23 .f64 a hi lo h4
  clear h1 h2 h3 h4 h
  unfold splitP at r1
  go_enter Tacg.func34, Tacg.ntmps34
  go_wp2
  go_ret2
  exact ⟨rfl, rfl⟩

structure Prods (a b p e : Nat) : Prop where
  steps : ∃ ah al bh bl q1 q2 q3 q4 t1 t2 t3, floatBits .mul .f64 a b = some p ∧ Splits a ah al ∧ Splits b bh bl ∧ floatBits .mul .f64 ah bh = some q1 ∧ floatBits .sub .f64 q1 p = some t1 ∧
    floatBits .mul .f64 ah bl = some q2 ∧ floatBits .add .f64 t1 q2 = some t2 ∧ floatBits .mul .f64 al bh = some q3 ∧ floatBits .add .f64 t2 q3 = some t3 ∧ floatBits .mul .f64 al bl = some q4 ∧ floatBits .add .f64 t3 q4 = some e

set_option maxRecDepth 100000 in
set_option maxHeartbeats 2000000 in
theorem prods_any {a b p e : Nat} (h : Prods a b p e) (w : World) :
    Calls Tacg.prog 17 #[.float .f64 a, .float .f64 b] w fun r w' => r = .returned (.tuple #[.float .f64 p, .float .f64 e]) ∧ w' = w := by
  obtain ⟨ah, al, bh, bl, q1, q2, q3, q4, t1, t2, t3, h1, s1, s2, h2, h3, h4, h5, h6, h7, h8, h9⟩ := h.steps
  have r1 := fun w => run_float_arith (P := Tacg.prog) w .mul 23 .f64 a b p h1
  have r2 := fun w => run_float_arith (P := Tacg.prog) w .mul 23 .f64 ah bh q1 h2
  have r3 := fun w => run_float_arith (P := Tacg.prog) w .sub 23 .f64 q1 p t1 h3
  have r4 := fun w => run_float_arith (P := Tacg.prog) w .mul 23 .f64 ah bl q2 h4
  have r5 := fun w => run_float_arith (P := Tacg.prog) w .add 23 .f64 t1 q2 t2 h5
  have r6 := fun w => run_float_arith (P := Tacg.prog) w .mul 23 .f64 al bh q3 h6
  have r7 := fun w => run_float_arith (P := Tacg.prog) w .add 23 .f64 t2 q3 t3 h7
  have r8 := fun w => run_float_arith (P := Tacg.prog) w .mul 23 .f64 al bl q4 h8
  have r9 := fun w => run_float_arith (P := Tacg.prog) w .add 23 .f64 t3 q4 e h9
  clear h1 h2 h3 h4 h5 h6 h7 h8 h9 h
  go_enter Tacg.func17, Tacg.ntmps17
  go_wp2_with fail
  refine (splits_any s1 _).mono ?_
  rintro e w1 ⟨rfl, rfl⟩
  go_wp2_with fail
  refine (splits_any s2 _).mono ?_
  rintro e w1 ⟨rfl, rfl⟩
  go_wp2
  go_ret2
  exact ⟨rfl, rfl⟩

end Go.Proofs.YgctacDoor
