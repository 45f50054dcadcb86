/-
  The last comparison of law.DDAddNear, over whole numbers.
-/
import Derived.Test.YgctacDoorAddW
namespace Go.Proofs.YgctacDoor
open Fp (fv rnd)
set_option linter.unusedVariables false

theorem av_eq : ∃ k : Int, 0 < k ∧ (∀ p, av p = fv p * k) ∧ (hiB : Int) * 4096 * k * 2 ^ 110 ≤ half := by
  refine ⟨2 ^ 1074, Fp.p2pos _, fun p => rfl, ?_⟩
  have e : (hiB : Int) = 2 ^ hiE := by unfold hiB; rw [Fp.natp2_cast]
  rw [e, show (4096 : Int) = 2 ^ 12 from rfl, ← Int.pow_add, ← Int.pow_add, ← Int.pow_add]
  unfold half
  exact Fp.p2_le (show hiE + 12 + 1074 + 110 ≤ 4351 by decide)

/-- |n| within the room: its absolute value in words. -/
theorem absW_room {n B : Int} (h : (n.natAbs : Int) ≤ B) (hB : B < half) : absW n = (n.natAbs : Int) := absW_val n (by omega) (by omega)

theorem natAbs_mul_pos (a k : Int) (hk : 0 < k) : ((a * k).natAbs : Int) = (a.natAbs : Int) * k := by
  rw [Int.natAbs_mul, Int.natCast_mul]
  congr 1
  omega

theorem accShl_103 (b : Nat) (n : Int) (w : World) (hA : AccAt w b n) :
    Calls Tacg.prog 21 #[.pointer (some ⟨b, 0, none⟩), .int .u16 103] w fun r w' => r = .returned (.tuple #[]) ∧ ∃ d, w' = (putB w b (accC (n * 2 ^ 103))).drewN d :=
  accShl_any b n 103 (by decide) w hA
end Go.Proofs.YgctacDoor
