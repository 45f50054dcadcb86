/-
  The last comparison of law.DDAddNear, over whole numbers.
-/
import Derived.Test.YgctacAddW
namespace Go.Proofs.Ygctac
open Fp (fv rnd)
set_option linter.unusedVariables false

theorem av_eq : ∃ k : Int, 0 < k ∧ (∀ p, av p = fv p * k) ∧ (hiB : Int) * 4096 * k * 2 ^ 110 ≤ half := by
  refine ⟨2 ^ 1074, Fp.p2pos _, fun p => rfl, ?_⟩
  have e : (hiB : Int) = 2 ^ hiE := by unfold hiB; rw [Fp.natp2_cast]
  rw [e, show (4096 : Int) = 2 ^ 12 from rfl, ← Int.pow_add, ← Int.pow_add, ← Int.pow_add]
  unfold half
  exact Fp.p2_le (show hiE + 12 + 1074 + 110 ≤ 4351 by decide)

/-- |n| within the room: its absolute value in words. -/
theorem absW_room {n B : Int} (h : (n.natAbs : Int) ≤ B) (hB : B < half) : absW n = (n.natAbs : Int) := absW_val n (by omega) (by omega)

theorem natAbs_mul_pos (a k : Int) (hk : 0 < k) : ((a * k).natAbs : Int) = (a.natAbs : Int) * k := by
  rw [Int.natAbs_mul, Int.natCast_mul]
  congr 1
  omega

theorem add_fin {xh xl yh yl zh zl : Nat} (zb : 2 ^ 103 * (fv zh + fv zl - (fv xh + fv xl + (fv yh + fv yl))).natAbs ≤ (fv xh + fv xl + (fv yh + fv yl)).natAbs)
    (zs : (fv zh + fv zl).natAbs ≤ 1024 * hiB) (ts : (fv xh + fv xl + (fv yh + fv yl)).natAbs ≤ 4 * hiB) :
    cmpW (absW (av zh + av zl + -(av xh + av xl + (av yh + av yl))) * 2 ^ 103) (absW (av xh + av xl + (av yh + av yl))) ≤ 0 := by
  obtain ⟨k, hk, hav, hroom⟩ := av_eq
  have e1 : av xh + av xl + (av yh + av yl) = (fv xh + fv xl + (fv yh + fv yl)) * k := by simp only [hav]; grind
  have e2 : av zh + av zl + -(av xh + av xl + (av yh + av yl)) = (fv zh + fv zl - (fv xh + fv xl + (fv yh + fv yl))) * k := by simp only [hav]; grind
  rw [e2, e1]
  have t := Fp.tri' (fv zh + fv zl) (fv xh + fv xl + (fv yh + fv yl))
  generalize fv zh + fv zl - (fv xh + fv xl + (fv yh + fv yl)) = D at *
  generalize fv zh + fv zl = Z at *
  generalize fv xh + fv xl + (fv yh + fv yl) = T at *
  have hD : (D.natAbs : Int) ≤ hiB * 4096 := by omega
  have hT : (T.natAbs : Int) ≤ hiB * 4096 := by omega
  have hp := half_pos
  have m1 : (D.natAbs : Int) * k ≤ hiB * 4096 * k := Int.mul_le_mul_of_nonneg_right hD (by omega)
  have m2 : (T.natAbs : Int) * k ≤ hiB * 4096 * k := Int.mul_le_mul_of_nonneg_right hT (by omega)
  have m3 : 0 ≤ (D.natAbs : Int) * k := Int.mul_nonneg (by omega) (by omega)
  have m4 : 0 ≤ (T.natAbs : Int) * k := Int.mul_nonneg (by omega) (by omega)
  have m5 : (D.natAbs : Int) * k * 2 ^ 103 ≤ (T.natAbs : Int) * k := by
    have : ((D.natAbs : Int) * 2 ^ 103) * k ≤ (T.natAbs : Int) * k := Int.mul_le_mul_of_nonneg_right (by omega) (by omega)
    rw [Int.mul_assoc, Int.mul_comm (2 ^ 103) k, ← Int.mul_assoc] at this
    exact this
  have d1 := natAbs_mul_pos D k hk
  have d2 := natAbs_mul_pos T k hk
  rw [absW_room (n := D * k) (B := hiB * 4096 * k) (by rw [d1]; exact m1) (by omega), absW_room (n := T * k) (B := hiB * 4096 * k) (by rw [d2]; exact m2) (by omega), d1, d2]
  exact cmpW_le _ _ (by omega) (by omega) (by omega) (by omega) m5

theorem accShl_103 (b : Nat) (n : Int) (w : World) (hA : AccAt w b n) :
    Calls Tacg.prog 57 #[.pointer (some ⟨b, 0, none⟩), .int .u16 103] w fun r w' => r = .returned (.tuple #[]) ∧ ∃ d, w' = (putB w b (accC (n * 2 ^ 103))).drewN d :=
  accShl_any b n 103 (by decide) w hA
end Go.Proofs.Ygctac
