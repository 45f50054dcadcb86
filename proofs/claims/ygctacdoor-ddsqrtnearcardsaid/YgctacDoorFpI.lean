/-
  Newton's iteration for the square root, over whole numbers: X = x * 2^1074, a the iterate, b the rounded quotient X / a, v the rounded sum a + b; the next iterate is v / 2.
-/
import Derived.Test.YgctacDoorFpH
namespace Go.Proofs.YgctacDoor.Fp
set_option linter.unusedVariables false

theorem sq_nonneg (a : Int) : 0 ≤ a * a := by
  rcases Int.le_total 0 a with h | h
  · exact Int.mul_nonneg h h
  · exact Int.mul_nonneg_of_nonpos_of_nonpos h h

theorem sq_abs (a : Int) : ((a * a).natAbs : Int) = a * a := by
  have := sq_nonneg a
  omega

theorem mul_le_of {p q r s : Int} (h1 : p ≤ q) (h2 : r ≤ s) (hp : 0 ≤ p) (hs : 0 ≤ s) : p * r ≤ q * s := by
  have a1 : p * r ≤ p * s := Int.mul_le_mul_of_nonneg_left h2 hp
  have a2 : p * s ≤ q * s := Int.mul_le_mul_of_nonneg_right h1 hs
  omega

/-- From |a² - X| and |ab - X| to (a - b)². -/
theorem newton_gap {a b X R C : Int} (hX : 0 < X) (hC : 0 < C) (hR : 0 ≤ R) (h1 : 2 ^ 60 * ((a * b - X).natAbs : Int) ≤ 129 * X) (ha : 2 ^ 60 * ((a * a - X).natAbs : Int) ≤ R * X) (hc : C * X ≤ 16 * (a * a)) :
    2 ^ 120 * (C * ((a - b) * (a - b))) ≤ 16 * ((R + 129) * (R + 129)) * X := by
  have e : a * (a - b) = (a * a - X) - (a * b - X) := by grind
  have t : 2 ^ 60 * ((a * (a - b)).natAbs : Int) ≤ (R + 129) * X := by
    rw [e, Int.add_mul]
    have := tri' (a * a - X) (a * b - X)
    omega
  have t0 : 0 ≤ 2 ^ 60 * ((a * (a - b)).natAbs : Int) := by omega
  have hRX : 0 ≤ (R + 129) * X := Int.le_trans t0 t
  have sq := mul_le_of t t t0 hRX
  have e2 : 2 ^ 60 * ((a * (a - b)).natAbs : Int) * (2 ^ 60 * ((a * (a - b)).natAbs : Int)) = 2 ^ 120 * (a * a * ((a - b) * (a - b))) := by
    have h : ((a * (a - b)).natAbs : Int) * ((a * (a - b)).natAbs : Int) = a * (a - b) * (a * (a - b)) := by
      rw [← Int.natCast_mul, ← Int.natAbs_mul, sq_abs]
    have h2 : (2 : Int) ^ 60 * ((a * (a - b)).natAbs : Int) * (2 ^ 60 * ((a * (a - b)).natAbs : Int)) = 2 ^ 120 * (((a * (a - b)).natAbs : Int) * ((a * (a - b)).natAbs : Int)) := by
      generalize ((a * (a - b)).natAbs : Int) = n
      have : (2 : Int) ^ 120 = 2 ^ 60 * 2 ^ 60 := by decide
      rw [this]; generalize (2 : Int) ^ 60 = c; grind
    rw [h2, h]
    generalize (2 : Int) ^ 120 = c
    grind
  rw [e2] at sq
  have hD : 0 ≤ (a - b) * (a - b) := sq_nonneg _
  have m := Int.mul_le_mul_of_nonneg_right hc hD
  -- C X D <= 16 a a D
  suffices h : 2 ^ 120 * (C * ((a - b) * (a - b))) * X ≤ 16 * ((R + 129) * (R + 129)) * X * X from Int.le_of_mul_le_mul_right h hX
  have e3 : 2 ^ 120 * (C * ((a - b) * (a - b))) * X = 2 ^ 120 * (C * X * ((a - b) * (a - b))) := by
    generalize (a - b) * (a - b) = D
    generalize (2 : Int) ^ 120 = c
    grind
  have e4 : 16 * ((R + 129) * (R + 129)) * X * X = 16 * ((R + 129) * X * ((R + 129) * X)) := by
    generalize R + 129 = r
    grind
  have e5 : 16 * (a * a) * ((a - b) * (a - b)) = 16 * (a * a * ((a - b) * (a - b))) := by
    generalize (a - b) * (a - b) = D
    grind
  rw [e5] at m
  rw [e3, e4]
  generalize a * a * ((a - b) * (a - b)) = A1 at *
  generalize C * X * ((a - b) * (a - b)) = A2 at *
  generalize (R + 129) * X * ((R + 129) * X) = A3 at *
  omega

/-- The rounded sum's square against 4X. -/
theorem newton_sum {a b v X : Int} (hX : 0 < X) (hS : 0 < a + b) (h1 : 2 ^ 60 * ((a * b - X).natAbs : Int) ≤ 129 * X) (h2 : 2 ^ 53 * ((v - (a + b)).natAbs : Int) ≤ a + b) :
    2 ^ 60 * ((v * v - 4 * X).natAbs : Int) ≤ (2 ^ 60 + 384) * ((a - b) * (a - b)) + 2440 * X ∧ 4 * X * 2 ^ 60 - 2440 * X - 384 * ((a - b) * (a - b)) ≤ 2 ^ 60 * (v * v) := by
  have eS : (a + b) * (a + b) = (a - b) * (a - b) + 4 * (a * b) := by grind
  have ev : v * v - 4 * X = (a - b) * (a - b) + 4 * (a * b - X) + (v - (a + b)) * (v + (a + b)) := by grind
  have hD : 0 ≤ (a - b) * (a - b) := sq_nonneg _
  have p1 : 2 ^ 60 * (((v - (a + b)) * (v + (a + b))).natAbs : Int) ≤ 384 * ((a + b) * (a + b)) := by
    rw [Int.natAbs_mul, Int.natCast_mul]
    have q1 : ((v + (a + b)).natAbs : Int) ≤ 3 * (a + b) := by omega
    have q2 : 2 ^ 60 * ((v - (a + b)).natAbs : Int) ≤ 128 * (a + b) := by omega
    have := mul_le_of q2 q1 (by omega) (by omega)
    have e1 : 2 ^ 60 * ((v - (a + b)).natAbs : Int) * ((v + (a + b)).natAbs : Int) = 2 ^ 60 * (((v - (a + b)).natAbs : Int) * ((v + (a + b)).natAbs : Int)) := Int.mul_assoc ..
    have e2 : 128 * (a + b) * (3 * (a + b)) = 384 * ((a + b) * (a + b)) := by
      generalize a + b = s
      grind
    rw [e1, e2] at this
    exact this
  rw [eS] at p1
  generalize (a - b) * (a - b) = D at *
  generalize (v - (a + b)) * (v + (a + b)) = E at *
  generalize a * b = P at *
  generalize v * v = V at *
  omega

/-- ONE STEP. -/
theorem newton_step {a b v X R R' C : Int} (hX : 0 < X) (hC : 0 < C) (hR : 0 ≤ R) (hS : 0 < a + b) (h1 : 2 ^ 60 * ((a * b - X).natAbs : Int) ≤ 129 * X) (h2 : 2 ^ 53 * ((v - (a + b)).natAbs : Int) ≤ a + b)
    (ha : 2 ^ 60 * ((a * a - X).natAbs : Int) ≤ R * X) (hc : C * X ≤ 16 * (a * a))
    (num : (2 ^ 60 + 384) * (16 * ((R + 129) * (R + 129))) + 2440 * (C * 2 ^ 120) ≤ 4 * R' * (C * 2 ^ 120)) (num2 : 16 * ((R + 129) * (R + 129)) ≤ 8 * (C * 2 ^ 120)) :
    2 ^ 60 * ((v * v - 4 * X).natAbs : Int) ≤ 4 * R' * X ∧ 15 * X ≤ 4 * (v * v) := by
  have g := newton_gap hX hC hR h1 ha hc
  obtain ⟨s1, s2⟩ := newton_sum hX hS h1 h2
  have hD : 0 ≤ (a - b) * (a - b) := sq_nonneg _
  generalize (a - b) * (a - b) = D at *
  have hQ : 0 < C * 2 ^ 120 := Int.mul_pos hC (by decide)
  have eg : 2 ^ 120 * (C * D) = C * 2 ^ 120 * D := by
    generalize (2 : Int) ^ 120 = c
    grind
  rw [eg] at g
  generalize 16 * ((R + 129) * (R + 129)) = N at *
  generalize C * 2 ^ 120 = Q at *
  -- Q D <= N X
  constructor
  · refine Int.le_trans s1 ?_
    suffices h : Q * ((2 ^ 60 + 384) * D + 2440 * X) ≤ Q * (4 * R' * X) from Int.le_of_mul_le_mul_left h hQ
    have m := Int.mul_le_mul_of_nonneg_left g (show (0 : Int) ≤ 2 ^ 60 + 384 by decide)
    have n := Int.mul_le_mul_of_nonneg_right num (Int.le_of_lt hX)
    have e1 : Q * ((2 ^ 60 + 384) * D + 2440 * X) = (2 ^ 60 + 384) * (Q * D) + 2440 * (Q * X) := by grind
    have e2 : ((2 ^ 60 + 384) * N + 2440 * Q) * X = (2 ^ 60 + 384) * (N * X) + 2440 * (Q * X) := by grind
    have e3 : 4 * R' * Q * X = 4 * (R' * (Q * X)) := by grind
    have e4 : Q * (4 * R' * X) = 4 * (R' * (Q * X)) := by grind
    rw [e1, e4]
    rw [e2, e3] at n
    generalize Q * D = A1 at *
    generalize N * X = A2 at *
    generalize Q * X = A3 at *
    generalize R' * A3 = A4 at *
    omega
  · have hDX : D ≤ 8 * X := by
      suffices h : Q * D ≤ Q * (8 * X) from Int.le_of_mul_le_mul_left h hQ
      have n := Int.mul_le_mul_of_nonneg_right num2 (Int.le_of_lt hX)
      have e : Q * (8 * X) = 8 * Q * X := by grind
      rw [e]
      omega
    omega
end Go.Proofs.YgctacDoor.Fp
