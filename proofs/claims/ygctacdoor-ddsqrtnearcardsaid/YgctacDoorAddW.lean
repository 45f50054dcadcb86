/-
  dd.Add: its steps over words; the law over words; the walk.
-/
import Derived.Test.YgctacDoorTwo
import Derived.Test.YgctacDoorFpD
namespace Go.Proofs.YgctacDoor
open Go.RowKit
open Fp (fv rnd)
set_option linter.unusedVariables false
set_option linter.unusedSimpArgs false

/-- Dekker's sum of two words: all three steps give a number. -/
structure Fasts (a b s e : Nat) : Prop where
  steps : ∃ z, floatBits .add .f64 a b = some s ∧ floatBits .sub .f64 s a = some z ∧ floatBits .sub .f64 b z = some e

theorem fasts_any {a b s e : Nat} (h : Fasts a b s e) (w : World) :
    Calls Tacg.prog 18 #[.float .f64 a, .float .f64 b] w fun r w' => r = .returned (.tuple #[.float .f64 s, .float .f64 e]) ∧ w' = w := by
  obtain ⟨z, h1, h2, h3⟩ := h.steps
  exact fast_any a b s z e h1 h2 h3 w

/-! ### the law over words -/
theorem near_dbl {n x : Int} (h : Fp.Near n 1 x) : x.natAbs ≤ 2 * n.natAbs := by
  have := (Fp.near_rel1 h).1
  omega

theorem fasts_near {a b : Nat} (fa : Fp.Fin a) (fb : Fp.Fin b) (M : Nat) (hM : 16 * M ≤ cap) (ha : (fv a).natAbs ≤ M) (hb : (fv b).natAbs ≤ M) :
    ∃ s e z, Fasts a b s e ∧ Fp.Fin s ∧ Fp.Fin e ∧ fv s = rnd 0 (fv a + fv b) ∧ Fp.Near (fv a + fv b) 1 (fv s) ∧ Fp.Near (fv s - fv a) 1 z ∧ Fp.Near (fv b - z) 1 (fv e) := by
  have hp := cap_pos
  have t1 := Fp.tri (fv a) (fv b)
  obtain ⟨s, s1, s2, s3, s4⟩ := addW fa fb (by omega)
  have d1 := near_dbl s4
  have t2 := Fp.tri' (fv s) (fv a)
  obtain ⟨z, z1, z2, z3, z4⟩ := subW s2 fa (by omega)
  have d2 := near_dbl z4
  have t3 := Fp.tri' (fv b) (fv z)
  obtain ⟨e, e1, e2, e3, e4⟩ := subW fb z2 (by
    generalize (fv b - fv z).natAbs = A at *
    generalize (fv s - fv a).natAbs = B at *
    generalize (fv a + fv b).natAbs = C at *
    generalize (fv a).natAbs = D at *
    generalize (fv b).natAbs = E at *
    generalize (fv s).natAbs = F at *
    generalize (fv z).natAbs = G at *
    omega)
  exact ⟨s, e, fv z, ⟨⟨z, s1, z1, e1⟩⟩, s2, e2, s3, s4, z4, e4⟩

theorem room : 65536 * hiB ≤ cap := by
  rw [show (65536 : Nat) = 2 ^ 16 from rfl]
  unfold hiB cap
  rw [← Nat.pow_add]
  exact Nat.pow_le_pow_right (by decide) (show 16 + hiE ≤ capE by decide)

theorem good_lo {hi lo : Nat} (h : Good hi lo) : Fp.Near (fv hi + fv lo) 1 (fv hi) ∧ 2 ^ 53 * (fv lo).natAbs ≤ (fv hi).natAbs := by
  have h1 : Fp.Near (fv hi + fv lo) 1 (fv hi) := by
    have := Fp.rnd_near1 (fv hi + fv lo)
    rwa [← h.norm] at this
  exact ⟨h1, Fp.lo_small h1⟩

end Go.Proofs.YgctacDoor
