/-
  dd.scale, dd.Div: the walks, over words.
-/
import Derived.Test.YgctacMul4
namespace Go.Proofs.Ygctac
open Go.RowKit
open Fp (fv rnd)
set_option linter.unusedVariables false
set_option linter.unusedSimpArgs false

structure ScaleW (xh xl y zh zl : Nat) : Prop where
  steps : ∃ ch cl t dh dl c, Prods xh y ch cl ∧ floatBits .mul .f64 xl y = some t ∧ Fasts ch t dh dl ∧ floatBits .add .f64 dl cl = some c ∧ Fasts dh c zh zl

set_option maxRecDepth 100000 in
set_option maxHeartbeats 2000000 in
theorem scale_any {xh xl y zh zl : Nat} (h : ScaleW xh xl y zh zl) (w : World) :
    Calls Tacg.prog 136 #[.agg #[.float .f64 xh, .float .f64 xl], .float .f64 y] w fun r w' => r = .returned (.agg #[.float .f64 zh, .float .f64 zl]) ∧ w' = (w.alloc (.cells #[.float .f64 xh, .float .f64 xl] 82)).alloc (.cells #[.float .f64 zh, .float .f64 zl] 82) := by
  obtain ⟨ch, cl, t, dh, dl, c, h1, h2, h3, h4, h5⟩ := h.steps
  have r2 := fun w => run_float_arith (P := Tacg.prog) w .mul 74 .f64 xl y t h2
  have r4 := fun w => run_float_arith (P := Tacg.prog) w .add 74 .f64 dl cl c h4
  clear h2 h4 h
  go_enter Tacg.func136, Tacg.ntmps136
  go_wp2_with fail
  refine (prods_any h1 _).mono ?_
  rintro e w1 ⟨rfl, rfl⟩
  go_wp2_with fail
  refine (fasts_any h3 _).mono ?_
  rintro e w1 ⟨rfl, rfl⟩
  go_wp2_with fail
  refine (fasts_any h5 _).mono ?_
  rintro e w1 ⟨rfl, rfl⟩
  go_wp2
  refine bodyPost_ret (results_cell1 (by rfl) _ _ _ ⟨w.heap.size + 1, 0, none⟩ (.agg #[.float .f64 zh, .float .f64 zl]) rfl (cells_dd ?_ ?_)) rfl ⟨rfl, ?_⟩
  · simp [go_sem]
  · simp [go_sem]
  · simp [go_sem]

structure DivW (xh xl yh yl zh zl : Nat) : Prop where
  steps : ∃ q rh rl d1 d2 rest f, floatBits .quo .f64 xh yh = some q ∧ ScaleW yh yl q rh rl ∧ floatBits .sub .f64 xh rh = some d1 ∧ floatBits .sub .f64 xl rl = some d2 ∧
    floatBits .add .f64 d1 d2 = some rest ∧ floatBits .quo .f64 rest yh = some f ∧ Fasts q f zh zl
  hne : (FloatKind.f64.format.order yh 0 == some .eq) = false

set_option maxRecDepth 100000 in
set_option maxHeartbeats 2000000 in
theorem ddDiv_any {xh xl yh yl zh zl : Nat} (h : DivW xh xl yh yl zh zl) (w : World) :
    Calls Tacg.prog 64 #[.agg #[.float .f64 xh, .float .f64 xl], .agg #[.float .f64 yh, .float .f64 yl]] w fun r w' => r = .returned (.agg #[.float .f64 zh, .float .f64 zl]) ∧ Below w.heap.size w w' := by
  obtain ⟨q, rh, rl, d1, d2, rest, f, h1, h2, h3, h4, h5, h6, h7⟩ := h.steps
  have hne := h.hne
  have r1 := fun w => run_float_arith (P := Tacg.prog) w .quo 74 .f64 xh yh q h1
  have r3 := fun w => run_float_arith (P := Tacg.prog) w .sub 74 .f64 xh rh d1 h3
  have r4 := fun w => run_float_arith (P := Tacg.prog) w .sub 74 .f64 xl rl d2 h4
  have r5 := fun w => run_float_arith (P := Tacg.prog) w .add 74 .f64 d1 d2 rest h5
  have r6 := fun w => run_float_arith (P := Tacg.prog) w .quo 74 .f64 rest yh f h6
  clear h1 h3 h4 h5 h6 h
  go_enter Tacg.func64, Tacg.ntmps64
  go_wp2_with fail
  refine (scale_any h2 _).mono ?_
  rintro e w1 ⟨rfl, rfl⟩
  go_wp2_with fail
  refine (fasts_any h7 _).mono ?_
  rintro e w1 ⟨rfl, rfl⟩
  go_wp2
  refine bodyPost_ret (results_cell1 (by rfl) _ _ _ ⟨w.heap.size + 2, 0, none⟩ (.agg #[.float .f64 zh, .float .f64 zl]) rfl (cells_dd ?_ ?_)) rfl ⟨rfl, ?_⟩
  · simp [go_sem]
  · simp [go_sem]
  · exact ((((((Below.refl _ _).alloc (Nat.le_refl _) _).alloc (by simp [size_alloc] <;> omega) _).alloc (by simp [size_alloc] <;> omega) _).alloc (by simp [size_alloc] <;> omega) _).alloc (by simp [size_alloc] <;> omega) _).alloc (by simp [size_alloc] <;> omega) _
end Go.Proofs.Ygctac
