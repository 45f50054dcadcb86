/-
  law.isNaN; dd.Sqrt: the walks.
-/
import Derived.Test.YgctacDoorSq4
import Derived.Test.YgctacDoorSq2
import Derived.Test.YgctacDoorMul7
namespace Go.Proofs.YgctacDoor
open Go.RowKit
open Fp (fv rnd)
set_option linter.unusedVariables false
set_option linter.unusedSimpArgs false

def infP : Nat := 9218868437227405312
/-- The NaN that the tape hands out. -/
def nanQ : Question := .nanBits .f64 infP infP
def nanOf (w : World) : Nat := Question.cut nanQ (w.tape w.drawn nanQ)
theorem inf_sum : floatBits .add .f64 9214364837600034816 9214364837600034816 = some infP := by kernel_rfl
theorem inf_none : floatBits .sub .f64 infP infP = none := by kernel_rfl
theorem run_nan (w : World) : (binOp .sub 23 (.float .f64 infP) (.float .f64 infP)).run Tacg.prog w = .ok (.float .f64 (nanOf w)) w.drew := by
  have h : FloatKind.f64.format.sub infP infP = none := inf_none
  have hq : Question.forced (.nanBits .f64 infP infP) = false := rfl
  simp [binOp, Op.floatArith, h, hq, nanOf, nanQ]
theorem nan_word (w : World) : nanOf w < 18446744073709551616 ∧ sCl (nanOf w) = 3 := by
  have e : nanOf w = (w.tape w.drawn nanQ) % 2 * 2 ^ 63 + 9218868437227405312 + 1 + (w.tape w.drawn nanQ) / 2 % (2 ^ 52 - 1) := rfl
  rw [e]
  generalize w.tape w.drawn nanQ = t
  have h1 : (t / 2) % (2 ^ 52 - 1) < 2 ^ 52 - 1 := Nat.mod_lt _ (by decide)
  have h2 : t % 2 < 2 := Nat.mod_lt _ (by decide)
  generalize (t / 2) % (2 ^ 52 - 1) = a at *
  generalize t % 2 = b at *
  refine ⟨by omega, ?_⟩
  have hF : sF (b * 2 ^ 63 + 9218868437227405312 + 1 + a) = 2047 := by unfold sF; omega
  have hM : sM (b * 2 ^ 63 + 9218868437227405312 + 1 + a) ≠ 0 := by unfold sM; omega
  unfold sCl
  rw [if_pos hF, if_pos hM]

theorem isNaN_any (p : Nat) (hp : p < 18446744073709551616) (hc : sCl p = 3) (w : World) :
    Calls Tacg.prog 6 #[.float .f64 p] w fun r w' => r = .returned (.bool true) ∧ w' = w := by
  go_enter Tacg.func6, Tacg.ntmps6
  go_wp2_with (go_at_call 15; refine (split_any _ hp _).mono ?_; rintro e w' ⟨rfl, rfl⟩)
  go_ret
  exact ⟨by simp [hc], rfl⟩

set_option maxRecDepth 100000 in
set_option maxHeartbeats 2000000 in
theorem sqrt_zero (xh xl : Nat) (hp : xh < 18446744073709551616) (hc : sCl xh = 0) (w : World) :
    Calls Tacg.prog 5 #[.agg #[.float .f64 xh, .float .f64 xl]] w fun r w' => r = .returned (.agg #[.float .f64 xh, .float .f64 0]) ∧ Below w.heap.size w w' := by
  go_enter Tacg.func5, Tacg.ntmps5
  go_wp2_with (go_at_call 15; refine (split_any _ hp _).mono ?_; rintro e w' ⟨rfl, rfl⟩)
  refine bodyPost_ret (results_cell1 (by rfl) _ _ _ ⟨w.heap.size + 1, 0, none⟩ (.agg #[.float .f64 xh, .float .f64 0]) rfl (cells_dd ?_ ?_)) rfl ⟨rfl, ?_⟩
  · simp [go_sem]
  · simp [go_sem]
  · exact ((Below.refl _ _).alloc (Nat.le_refl _) _).alloc (by simp [size_alloc]) _

set_option maxRecDepth 100000 in
set_option maxHeartbeats 2000000 in
theorem sqrt_neg (xh xl : Nat) (hp : xh < 18446744073709551616) (hc : sCl xh = 1) (hn : sNg xh = true) (w : World) :
    Calls Tacg.prog 5 #[.agg #[.float .f64 xh, .float .f64 xl]] w fun r w' => ∃ n1 n2, r = .returned (.agg #[.float .f64 n1, .float .f64 n2]) ∧ (n1 < 18446744073709551616 ∧ sCl n1 = 3) ∧ (n2 < 18446744073709551616 ∧ sCl n2 = 3) ∧ Below w.heap.size w w' := by
  have r1 := fun w => run_float_arith (P := Tacg.prog) w .add 23 .f64 9214364837600034816 9214364837600034816 infP inf_sum
  have r2 := run_nan
  go_enter Tacg.func5, Tacg.ntmps5
  go_wp2_with (go_at_call 15; refine (split_any _ hp _).mono ?_; rintro e w' ⟨rfl, rfl⟩)
  refine bodyPost_ret (results_cell1 (by rfl) _ _ _ ⟨w.heap.size + 1, 0, none⟩ (.agg #[.float .f64 (nanOf ((w.alloc (.cells #[.float .f64 xh, .float .f64 xl] 25)).alloc (.cells #[.float .f64 0, .float .f64 0] 25))), .float .f64 (nanOf ((w.alloc (.cells #[.float .f64 xh, .float .f64 xl] 25)).alloc (.cells #[.float .f64 0, .float .f64 0] 25)).drew)]) rfl (cells_dd ?_ ?_)) rfl ⟨_, _, rfl, nan_word _, nan_word _, ?_⟩
  · simp [go_sem]
  · simp [go_sem]
  · exact ((((Below.refl _ _).alloc (Nat.le_refl _) _).alloc (by simp [size_alloc]) _).drew).drew

set_option maxRecDepth 100000 in
set_option maxHeartbeats 2000000 in
theorem sqrt_pos (xh xl man : Nat) (hp : xh < 18446744073709551616) (hc : sCl xh = 1) (hn : sNg xh = false) (hman : sMn xh = man) (hm1 : 1 ≤ man) (hm2 : man < 9007199254740992) (he0 : -1074 ≤ sEx xh) (he1 : sEx xh ≤ 1024) (hb0 : -200 ≤ sEx xh + man.log2) (hb1 : sEx xh + man.log2 ≤ 200)
    (sq : Nat → Nat) (h0 : sq 0 = (threeP ((sEx xh + man.log2) / 2 - 1)).toNat) (hst : ∀ i, i < 6 → StepW xh (sq i) (sq (i + 1))) {zh zl : Nat} (hS : SqrtW xh xl (sq 6) zh zl) (w : World) (hg : w.cell? ⟨1, 0, none⟩ = some (.int .u8 0)) :
    Calls Tacg.prog 5 #[.agg #[.float .f64 xh, .float .f64 xl]] w fun r w' => r = .returned (.agg #[.float .f64 zh, .float .f64 zl]) ∧ Below w.heap.size w w' := by
  obtain ⟨p, e, d1, d2, re, s2, f, k1, k2, k3, k4, k5, k6, k7⟩ := hS.steps
  have r2 := fun w => run_float_arith (P := Tacg.prog) w .sub 23 .f64 xh p d1 k2
  have r3 := fun w => run_float_arith (P := Tacg.prog) w .sub 23 .f64 d1 e d2 k3
  have r4 := fun w => run_float_arith (P := Tacg.prog) w .add 23 .f64 d2 xl re k4
  have r5 := fun w => run_float_arith (P := Tacg.prog) w .add 23 .f64 (sq 6) (sq 6) s2 k5
  have r6 := fun w => run_float_arith (P := Tacg.prog) w .quo 23 .f64 re s2 f k6
  have RT := hide (fun w hg => root_any xh man (sEx xh) hm1 hm2 he0 he1 hb0 hb1 sq h0 hst w hg)
  clear k2 k3 k4 k5 k6 hS h0 hst hb0 hb1 he0 he1 hm1 hm2
  go_enter Tacg.func5, Tacg.ntmps5
  go_wp2_with (go_at_call 15; refine (split_any _ hp _).mono ?_; rintro e w' ⟨rfl, rfl⟩)
  refine (RT.out _ (cell_alloc _ (cell_alloc _ hg))).mono ?_
  rintro e w1 ⟨rfl, d, rfl⟩
  go_wp2_with fail
  refine (prods_any k1 _).mono ?_
  rintro e w1 ⟨rfl, rfl⟩
  go_wp2_with fail
  refine (fasts_any k7 _).mono ?_
  rintro e w1 ⟨rfl, rfl⟩
  go_wp2
  refine bodyPost_ret (results_cell1 (by rfl) _ _ _ ⟨w.heap.size + 1, 0, none⟩ (.agg #[.float .f64 zh, .float .f64 zl]) rfl (cells_dd ?_ ?_)) rfl ⟨rfl, ?_⟩
  · simp [go_sem]
  · simp [go_sem]
  · exact ((below_drewN (((Below.refl _ _).alloc (Nat.le_refl _) _).alloc (by simp [size_alloc]) _) d).setCell (by show w.heap.size ≤ w.heap.size + 1; omega) _).setCell (by show w.heap.size ≤ w.heap.size + 1; omega) _
end Go.Proofs.YgctacDoor
