/-
  The law of dd.Div over words.
-/
import Derived.Test.YgctacDoorDiv2
namespace Go.Proofs.YgctacDoor
open Fp (fv rnd Norm Near)
set_option linter.unusedVariables false

theorem addWB {x y A B : Nat} (hx : Fp.Fin x) (hy : Fp.Fin y) (ha : (fv x).natAbs ≤ A) (hb : (fv y).natAbs ≤ B) (hov : A + B < 3 * cap) :
    ∃ r, floatBits .add .f64 x y = some r ∧ Fp.Fin r ∧ Near (fv x + fv y) 1 (fv r) ∧ (fv r).natAbs ≤ 2 * (A + B) := by
  have t := Fp.tri (fv x) (fv y)
  obtain ⟨r, h1, h2, _, h4⟩ := addW hx hy (by omega)
  have := near_dbl h4
  exact ⟨r, h1, h2, h4, by omega⟩
theorem subWB {x y A B : Nat} (hx : Fp.Fin x) (hy : Fp.Fin y) (ha : (fv x).natAbs ≤ A) (hb : (fv y).natAbs ≤ B) (hov : A + B < 3 * cap) :
    ∃ r, floatBits .sub .f64 x y = some r ∧ Fp.Fin r ∧ Near (fv x - fv y) 1 (fv r) ∧ (fv r).natAbs ≤ 2 * (A + B) := by
  have t := Fp.tri' (fv x) (fv y)
  obtain ⟨r, h1, h2, _, h4⟩ := subW hx hy (by omega)
  have := near_dbl h4
  exact ⟨r, h1, h2, h4, by omega⟩
theorem fastsB {a b : Nat} (fa : Fp.Fin a) (fb : Fp.Fin b) (M : Nat) (hM : 16 * M ≤ cap) (ha : (fv a).natAbs ≤ M) (hb : (fv b).natAbs ≤ M) :
    ∃ s e z, Fasts a b s e ∧ Fp.Fin s ∧ Fp.Fin e ∧ fv s = rnd 0 (fv a + fv b) ∧ Near (fv a + fv b) 1 (fv s) ∧ Near (fv s - fv a) 1 z ∧ Near (fv b - z) 1 (fv e) ∧ (fv s).natAbs ≤ 4 * M ∧ (fv e).natAbs ≤ 22 * M := by
  obtain ⟨s, e, z, h1, h2, h3, h4, h5, h6, h7⟩ := fasts_near fa fb M hM ha hb
  have d1 := near_dbl h5
  have d2 := near_dbl h6
  have d3 := near_dbl h7
  have t1 := Fp.tri (fv a) (fv b)
  have t2 := Fp.tri' (fv s) (fv a)
  have t3 := Fp.tri' (fv b) z
  refine ⟨s, e, z, h1, h2, h3, h4, h5, h6, h7, by omega, ?_⟩
  generalize (fv e).natAbs = E at *
  generalize (fv b - z).natAbs = X1 at *
  generalize (fv s - fv a).natAbs = X2 at *
  generalize (fv a + fv b).natAbs = X3 at *
  generalize (fv a).natAbs = X4 at *
  generalize (fv b).natAbs = X5 at *
  generalize (fv s).natAbs = X6 at *
  generalize z.natAbs = X7 at *
  omega
theorem fasts0 {a b : Nat} (fa : Fp.Fin a) (fb : Fp.Fin b) (za : fv a = 0) (zb : fv b = 0) : ∃ s e, Fasts a b s e ∧ Fp.Fin s ∧ Fp.Fin e ∧ fv s = 0 ∧ fv e = 0 := by
  obtain ⟨s, e, z, h1, h2, h3, _, _, _, _, h8, h9⟩ := fastsB fa fb 0 (by omega) (by rw [za]; simp) (by rw [zb]; simp)
  exact ⟨s, e, h1, h2, h3, by omega, by omega⟩

theorem capE_le {n : Nat} (h : n ≤ capE) : 2 ^ n ≤ cap := by
  unfold cap
  exact Nat.pow_le_pow_right (by decide) h

theorem scaled_le {a X : Nat} (h : a * 2 ^ kE ≤ X * 2 ^ kE) : a ≤ X := Nat.le_of_mul_le_mul_right h (Nat.two_pow_pos _)

end Go.Proofs.YgctacDoor
