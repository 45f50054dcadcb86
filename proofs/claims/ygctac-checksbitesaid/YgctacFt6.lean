/-
  fft.quarter and fft.Nearest at whatever word.
-/
import Derived.Test.YgctacFt5
namespace Go.Proofs.Ygctac.Cx
open Go.RowKit
set_option linter.unusedVariables false
set_option linter.unusedSimpArgs false

theorem conv_any (b : Nat) (w : World) : ∃ n d, (convert 74 2 (.float .f64 b)).run Tacg.prog w = .ok (.int .i64 n) (w.drewN d) := by
  have hs : Tacg.prog.underlying 74 = some (.float .f64) := by kernel_rfl
  have hd : Tacg.prog.underlying 2 = some (.int .i64) := by kernel_rfl
  have key : (convert 74 2 (.float .f64 b)).run Tacg.prog w = (Conv.floatToInt .f64 b .i64).run Tacg.prog w := by
    simp [convert, run_underlying hs, run_underlying hd]
  rw [key]
  unfold Conv.floatToInt
  have any : ∃ n d, (Sem.run Tacg.prog (do pure (.int .i64 (IntKind.i64.wrap (← choose (.floatToInt .f64 b .i64)))) : Sem Value) w) = .ok (.int .i64 n) (w.drewN d) := by
    refine ⟨IntKind.i64.wrap ((Question.floatToInt .f64 b .i64).cut (w.tape w.drawn (Question.floatToInt .f64 b .i64))), 1, ?_⟩
    simp [Question.forced]
    rfl
  cases (FloatKind.f64.decode b).toInt .zero with
  | none => exact any
  | some m =>
    by_cases hb : IntKind.i64.min ≤ m ∧ m ≤ IntKind.i64.max
    · exact ⟨m, 0, by simp only [if_pos hb, Sem.run_pure]; rfl⟩
    · simp only [if_neg hb]
      exact any

theorem sub_any' (x y : Nat) (w : World) : ∃ r d, (binOp .sub 74 (.float .f64 x) (.float .f64 y)).run Tacg.prog w = .ok (.float .f64 r) (w.drewN d) := by
  have e : (binOp .sub 74 (.float .f64 x) (.float .f64 y)).run Tacg.prog w = (Op.floatArith .sub .f64 x y).run Tacg.prog w := by simp [binOp]
  rw [e]
  unfold Op.floatArith
  simp only [Sem.run_bind, Sem.run_pure, Result.andThen_ok]
  cases FloatKind.f64.format.sub x y with
  | some r => exact ⟨r, 0, rfl⟩
  | none =>
    refine ⟨(Question.nanBits .f64 x y).cut (w.tape w.drawn (Question.nanBits .f64 x y)), 1, ?_⟩
    simp [Question.forced]
    rfl

theorem wpList_sub_any {w : World} {ops : Array Oper} {rest : List Oper} {o : Oper} {a : Act} {Q : Exit → Act → World → Prop} (hgd : o.guard = none) (s x : Operand)
    (ho : o.op = .binOp .sub 74 s x 74) {u v : Nat} (hs : a.eval s = .float .f64 u) (hx : a.eval x = .float .f64 v)
    (h : ∀ r d, wpList Tacg.prog ops Q rest (a.put o.dst (.float .f64 r)) (w.drewN d)) : wpList Tacg.prog ops Q (o :: rest) a w := by
  refine wpList_plain hgd fun K hK => ?_
  obtain ⟨r, d, e⟩ := sub_any' u v w
  unfold Oper.wp execOp
  simp only [ho, hs, hx, eqGuard_sub, Sem.run_bind, Sem.run_pure, Result.andThen_ok, e]
  exact hK _ _ (h r d)

theorem wpList_conv_any {w : World} {ops : Array Oper} {rest : List Oper} {o : Oper} {a : Act} {Q : Exit → Act → World → Prop} (hgd : o.guard = none) (s : Operand)
    (ho : o.op = .convert 74 2 s) {u : Nat} (hs : a.eval s = .float .f64 u)
    (h : ∀ n d, wpList Tacg.prog ops Q rest (a.put o.dst (.int .i64 n)) (w.drewN d)) : wpList Tacg.prog ops Q (o :: rest) a w := by
  refine wpList_plain hgd fun K hK => ?_
  obtain ⟨r, d, e⟩ := conv_any u w
  unfold Oper.wp execOp
  simp only [ho, hs, Sem.run_bind, Sem.run_pure, Result.andThen_ok, e]
  exact hK _ _ (h r d)

theorem quarter_any (v : Nat) (w : World) : Calls Tacg.prog 147 #[.float .f64 v] w fun r w' => ∃ s, r = .returned (.bool s) ∧ w' = w := by
  go_enter Tacg.func147, Tacg.ntmps147
  go_wp2_with fail
  all_goals (go_ret; exact ⟨_, rfl, rfl⟩)

set_option maxRecDepth 100000 in
set_option maxHeartbeats 4000000 in
theorem nearest_any (v : Nat) (w : World) : Calls Tacg.prog 148 #[.float .f64 v] w fun r w' => ∃ n s d, r = .returned (.tuple #[.int .i64 n, .bool s]) ∧ w' = w.drewN d := by
  go_enter Tacg.func148, Tacg.ntmps148
  go_wp2_with (first | (refine wpList_conv_any rfl _ rfl rfl ?_; intro n d) | (refine wpList_sub_any rfl _ _ rfl rfl rfl ?_; intro r d))
  all_goals first
    | (refine (quarter_any _ _).mono ?_; rintro e w' ⟨s, rfl, rfl⟩; go_wp2_with fail; go_ret2; exact ⟨_, _, _, rfl, rfl⟩)
    | (go_ret2; exact ⟨_, _, 0, rfl, rfl⟩)
end Go.Proofs.Ygctac.Cx
