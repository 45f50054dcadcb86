/-
  '==' on accumulators that hold the same number.
-/
import Derived.Test.YgctacAccVal
import Derived.Laws.StructEq
namespace Go.Proofs.Ygctac
set_option linter.unusedVariables false
set_option linter.unusedSimpArgs false

theorem run_part65 (n : Int) (i : Nat) (hi : i < 68) (w : World) : (part 65 (accC n) i).run Tacg.prog w = .ok (.int .u64 (wd n i)) w := by
  have hagg : (isAgg 65).run Tacg.prog w = .ok false w := by
    unfold isAgg
    rw [Sem.run_bind, run_underlying Tacg.underlying65 w]
    simp
  simp [part, Sem.run_bind, hagg, accC_get n i hi]

theorem run_size65 (w : World) : (sizeOf 65).run Tacg.prog w = .ok 1 w := by
  have : (Tacg.prog.info? 65).map (·.size) = some 1 := by kernel_rfl
  cases hq : Tacg.prog.info? 65 with
  | none => simp [hq] at this
  | some i => simp [hq] at this; simp [sizeOf, typeInfo, hq, this]

theorem run_equal_acc (n : Int) (d : Nat) (w : World) : (Op.equalIn (d + 2) 67 (.agg (accC n)) (.agg (accC n))).run Tacg.prog w = .ok true w := by
  rw [Op.equalIn]
  simp only [Sem.run_bind, run_underlying Tacg.underlying67, Result.andThen_ok, run_size65, Std.Legacy.Range.forIn_eq_forIn_range', Std.Legacy.Range.size]
  simp only [Nat.sub_zero, Nat.add_sub_cancel, Nat.div_one]
  have key : ∀ (l : List Nat), (∀ i ∈ l, i < 68) → ∀ (f : Nat → (Option Bool × Unit) → Sem (ForInStep ((Option Bool × Unit)))),
      (∀ i, i < 68 → (f i (none, ())).run Tacg.prog w = .ok (.yield (none, ())) w) → (forIn l (none, ()) f).run Tacg.prog w = .ok (none, ()) w := by
    intro l
    induction l with
    | nil => intro _ f _; simp [Sem.run_pure]
    | cons i l ih =>
      intro hl f hf
      rw [List.forIn_cons, Sem.run_bind, hf i (hl i (by simp))]
      simp only [Result.andThen_ok]
      exact ih (fun j hj => hl j (by simp [hj])) f hf
  rw [key _ (by intro i hi; simp at hi; omega) _ (by
    intro i hi
    simp only [Nat.mul_one, Sem.run_bind, run_part65 n i hi, Result.andThen_ok, run_equalIn_int w d 65 .u64 .u64 _ _ Tacg.underlying65]
    simp [Sem.run_pure])]
  simp [Sem.run_pure]

theorem run_eql_acc (n : Int) (w : World) : (binOp .eql 67 (.agg (accC n)) (.agg (accC n))).run Tacg.prog w = .ok (.bool true) w := by
  rw [run_eql_struct, run_equal_acc n 9998 w]
  rfl
end Go.Proofs.Ygctac
