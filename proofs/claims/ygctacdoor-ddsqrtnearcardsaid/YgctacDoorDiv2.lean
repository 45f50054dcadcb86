/-
  The law of dd.Div over words; the last comparison of law.DDDivNear.
-/
import Derived.Test.YgctacDoorMul4
import Derived.Test.YgctacDoorMul6
import Derived.Test.YgctacDoorFpH
namespace Go.Proofs.YgctacDoor
open Fp (fv rnd Norm Near)
set_option linter.unusedVariables false

def kE : Nat := 1074
theorem cap_eq : cap = 2 ^ 2096 := by unfold cap capE; exact Eq.refl _
theorem KK_kE : KK = 2 ^ kE := by unfold KK kE; exact Eq.refl _
theorem KK_abs : KK.natAbs = 2 ^ kE := by
  rw [KK_kE, Int.natAbs_pow, show Int.natAbs 2 = 2 from rfl]
theorem natKK (x : Int) : (x * KK).natAbs = x.natAbs * 2 ^ kE := by rw [Int.natAbs_mul, KK_abs]

theorem quoW {x y : Nat} (hx : Fp.Fin x) (hy : Fp.Fin y) (h0 : fv y ≠ 0) (hov : (fv x * KK).natAbs ≤ cap * (fv y).natAbs) :
    ∃ r, floatBits .quo .f64 x y = some r ∧ Fp.Fin r ∧ Near (fv x * KK * (fv y).sign) ((fv y).natAbs : Int) (fv r) ∧ (fv x = 0 → fv r = 0) := by
  rw [natKK] at hov
  unfold kE at hov
  exact Fp.div_spec hx hy h0 cap_eq hov

/-- A rounded quotient's magnitude, at most twice. -/
theorem quot_le {n y q : Int} (h0 : y ≠ 0) (h : Near (n * y.sign) (y.natAbs : Int) q) {M : Nat} (hn : n.natAbs ≤ M * y.natAbs) (hM : 1 ≤ M) : q.natAbs ≤ 2 * M := by
  have h1 := Fp.quot_out h0 h
  have h2 := Fp.ab_from (y * q) n
  have hy : 0 < y.natAbs := Int.natAbs_pos.2 h0
  have h3 : (y * q).natAbs ≤ 2 * M * y.natAbs := by
    have e : 2 * M * y.natAbs = 2 * (M * y.natAbs) := Nat.mul_assoc ..
    have h4 : 1 * y.natAbs ≤ M * y.natAbs := Nat.mul_le_mul_right _ hM
    rw [e]
    generalize M * y.natAbs = MY at *
    generalize (y * q).natAbs = A at *
    generalize (y * q - n).natAbs = B at *
    generalize n.natAbs = C at *
    generalize y.natAbs = D at *
    omega
  rw [Int.natAbs_mul, Nat.mul_comm] at h3
  exact Nat.le_of_mul_le_mul_right h3 hy

def qHi : Nat := 1474
def qLo : Nat := 674
theorem p2_mul (a b : Nat) : (2 : Nat) ^ a * 2 ^ b = 2 ^ (a + b) := (Nat.pow_add ..).symm

/-- The quotient's room. -/
theorem quot_room {X Y : Nat} (hx1 : loB ≤ X) (hx2 : X ≤ hiB) (hy1 : loB ≤ Y) (hy2 : Y ≤ hiB) :
    X * 2 ^ kE ≤ 2 ^ qHi * Y ∧ 2 ^ qLo * Y ≤ X * 2 ^ kE ∧ 2 ^ 200 * (2 ^ 52 * Y) ≤ X * 2 ^ kE ∧ 2 ^ 200 * (2 ^ 52 * 2 ^ kE) ≤ X * 2 ^ kE := by
  have a1 : X * 2 ^ kE ≤ 2 ^ hiE * 2 ^ kE := Nat.mul_le_mul_right _ hx2
  have a2 : 2 ^ loE * 2 ^ kE ≤ X * 2 ^ kE := Nat.mul_le_mul_right _ hx1
  have b1 : 2 ^ qHi * 2 ^ loE ≤ 2 ^ qHi * Y := Nat.mul_le_mul_left _ hy1
  have b2 : 2 ^ qLo * Y ≤ 2 ^ qLo * 2 ^ hiE := Nat.mul_le_mul_left _ hy2
  have b3 : 2 ^ 200 * (2 ^ 52 * Y) ≤ 2 ^ 200 * (2 ^ 52 * 2 ^ hiE) := Nat.mul_le_mul_left _ (Nat.mul_le_mul_left _ hy2)
  rw [p2_mul] at a1 a2 b1 b2
  rw [p2_mul, p2_mul] at b3
  refine ⟨Nat.le_trans a1 (Nat.le_trans (Nat.pow_le_pow_right (by decide) (by decide)) b1), Nat.le_trans b2 (Nat.le_trans (Nat.pow_le_pow_right (by decide) (by decide)) a2),
    Nat.le_trans b3 (Nat.le_trans (Nat.pow_le_pow_right (by decide) (by decide)) a2), ?_⟩
  rw [p2_mul, p2_mul]
  exact Nat.le_trans (Nat.pow_le_pow_right (by decide) (by decide)) a2

theorem cap_room (X : Nat) (hx : X ≤ hiB) : 2 ^ 200 * X ≤ cap := by
  refine Nat.le_trans (Nat.mul_le_mul_left _ hx) ?_
  unfold hiB cap
  rw [p2_mul]
  exact Nat.pow_le_pow_right (by decide) (by decide)

theorem order_ne {y : Nat} (hy : Fp.Fin y) (h0 : fv y ≠ 0) : (FloatKind.f64.format.order y 0 == some .eq) = false := by
  have f0 : Fp.Fin 0 := by unfold Fp.Fin; decide
  have v0 : fv 0 = 0 := by unfold Fp.fv Fp.rv; simp
  have : FloatKind.f64.format.order y 0 = some (compare (fv y) (fv 0)) := Fp.order_val hy f0
  rw [this, v0, Fp.cmp_int]
  rcases Int.lt_trichotomy (fv y) 0 with h | h | h
  · rw [if_pos h]; rfl
  · exact absurd h h0
  · rw [if_neg (by omega), if_neg (by omega)]; rfl
end Go.Proofs.YgctacDoor
