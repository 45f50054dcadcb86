/-
  dd.root's iteration over words.
-/
import Derived.Test.YgctacDoorDiv3
import Derived.Test.YgctacDoorFpJ
namespace Go.Proofs.YgctacDoor
open Fp (fv rnd Norm Near)
set_option linter.unusedVariables false

/-- Two's pattern. -/
def twoP : Nat := 4611686018427387904
theorem two_fin : Fp.Fin twoP := by refine (fin_iff (by decide)).1 ?_; decide +kernel
theorem two_val : fv twoP = 2 * KK := by
  rw [fv_split (by decide) two_fin]
  have h1 : sNg twoP = false := by decide +kernel
  have h2 : sMn twoP = 2 ^ 52 := by decide +kernel
  have h3 : (sEx twoP + 1074).toNat = 1023 := by decide +kernel
  rw [h1, h2, h3, KK_def, show (1074 : Nat) = 51 + 1023 from rfl, Int.pow_add]
  simp only [Bool.false_eq_true, if_false]
  generalize (2 : Int) ^ 1023 = A
  omega

structure StepW (x s s' : Nat) : Prop where
  steps : ∃ t v, floatBits .quo .f64 x s = some t ∧ floatBits .add .f64 s t = some v ∧ floatBits .quo .f64 v twoP = some s'

theorem sq_le {a b : Int} (ha : 0 ≤ a) (h : b * b ≤ a * a) : b ≤ a := by
  rcases Int.lt_or_le a b with c | c
  · have := Fp.mul_le_of (show a + 1 ≤ b by omega) (show a + 1 ≤ b by omega) (by omega) (by omega)
    have e : (a + 1) * (a + 1) = a * a + 2 * a + 1 := by grind
    omega
  · exact c

set_option maxHeartbeats 1000000 in
theorem step_words {x s : Nat} (fx : Fp.Fin x) (fs : Fp.Fin s) {Z R R' C : Int} (hZ1 : 2 ^ 100 ≤ Z) (hZ2 : 2 ^ 20 * Z ≤ cap) (hX1 : 4 * (Z * Z) ≤ fv x * KK) (hX2 : fv x * KK < 16 * (Z * Z))
    (hC : 9 ≤ C) (hR : 0 ≤ R) (hR5 : R ≤ 5 * 2 ^ 58) (pos : 0 < fv s) (ha : 2 ^ 60 * ((fv s * fv s - fv x * KK).natAbs : Int) ≤ R * (fv x * KK)) (hc : C * (fv x * KK) ≤ 16 * (fv s * fv s))
    (num : (2 ^ 60 + 384) * (16 * ((R + 129) * (R + 129))) + 2440 * (C * 2 ^ 120) ≤ 4 * R' * (C * 2 ^ 120)) (num2 : 16 * ((R + 129) * (R + 129)) ≤ 8 * (C * 2 ^ 120)) :
    ∃ s', StepW x s s' ∧ Fp.Fin s' ∧ 0 < fv s' ∧ 2 ^ 60 * ((fv s' * fv s' - fv x * KK).natAbs : Int) ≤ R' * (fv x * KK) ∧ 15 * (fv x * KK) ≤ 16 * (fv s' * fv s') ∧ Z ≤ fv s' := by
  have hK := KK_pos
  obtain ⟨X, eX⟩ : ∃ X, X = fv x * KK := ⟨_, rfl⟩
  rw [← eX] at hX1 hX2 ha hc ⊢
  have hZZ : Z * 2 ^ 100 ≤ Z * Z := Int.mul_le_mul_of_nonneg_left hZ1 (by omega)
  have hX0 : 0 < X := by omega
  -- the size of a
  have hc9 : 9 * X ≤ 16 * (fv s * fv s) := by
    have := Int.mul_le_mul_of_nonneg_right hC (Int.le_of_lt hX0)
    omega
  have hlo : Z ≤ fv s := sq_le (Int.le_of_lt pos) (by omega)
  have hhi : fv s ≤ 8 * Z := by
    refine sq_le (by omega) ?_
    have h5 := Int.mul_le_mul_of_nonneg_right hR5 (Int.le_of_lt hX0)
    have e : 8 * Z * (8 * Z) = 64 * (Z * Z) := by grind
    rw [e]
    generalize fv s * fv s = A at *
    generalize R * X = B at *
    generalize Z * Z = ZZ at *
    omega
  have hs0 : fv s ≠ 0 := by omega
  have nX : X.natAbs = X := by omega
  have ns : ((fv s).natAbs : Int) = fv s := by omega
  have hq : (fv x * KK).natAbs ≤ cap * (fv s).natAbs := by
    rw [← eX]
    have h1 : (16 * Z) * Z ≤ cap * fv s := Fp.mul_le_of (by omega) hlo (by omega) (by omega)
    have h2 : 16 * Z * Z = 16 * (Z * Z) := Int.mul_assoc ..
    have h3 : ((cap * (fv s).natAbs : Nat) : Int) = cap * fv s := by rw [Int.natCast_mul, ns]
    omega
  obtain ⟨t, t1, t2, t3, _⟩ := quoW fx fs hs0 hq
  rw [← eX] at t3
  have q1 := Fp.quot_out hs0 t3
  have hab : 2 ^ 60 * ((fv s * fv t - X).natAbs : Int) ≤ 129 * X := by
    generalize (fv s * fv t - X).natAbs = A at *
    generalize Z * Z = ZZ at *
    omega
  have hbpos : 0 < fv t := by
    rcases Int.lt_or_le 0 (fv t) with c | c
    · exact c
    · have : fv s * fv t ≤ 0 := Int.mul_nonpos_of_nonneg_of_nonpos (Int.le_of_lt pos) c
      omega
  have bt := quot_le hs0 t3 (M := (16 * Z).toNat) (by
    have h1 : (16 * Z) * Z ≤ 16 * Z * fv s := Int.mul_le_mul_of_nonneg_left hlo (by omega)
    have h2 : 16 * Z * Z = 16 * (Z * Z) := Int.mul_assoc ..
    have h3 : (((16 * Z).toNat * (fv s).natAbs : Nat) : Int) = 16 * Z * fv s := by rw [Int.natCast_mul, ns]; congr 1; omega
    omega) (by omega)
  obtain ⟨v, v1, v2, v3, bv⟩ := addWB (A := (8 * Z).toNat) (B := (32 * Z).toNat) fs t2 (by omega) (by omega) (by omega)
  have hv := (Fp.near_rel1 v3).1
  obtain ⟨g1, g2⟩ := Fp.newton_step (v := fv v) hX0 (show 0 < C by omega) hR (show 0 < fv s + fv t by omega) hab (by omega) ha hc num num2
  have hvpos : 0 < fv v := by omega
  have hvZ : 2 * Z ≤ fv v := sq_le (Int.le_of_lt hvpos) (by
    have e : 2 * Z * (2 * Z) = 4 * (Z * Z) := by grind
    rw [e]
    generalize fv v * fv v = V at *
    generalize Z * Z = ZZ at *
    omega)
  obtain ⟨y, ry, ey⟩ := Fp.rep_half (Fp.fv_rep v) (by omega)
  have h2K : fv twoP ≠ 0 := by rw [two_val]; omega
  obtain ⟨s', s1, s2, s3, _⟩ := quoW v2 two_fin h2K (by
    rw [two_val, Int.natAbs_mul, Int.natAbs_mul]
    have e : cap * (Int.natAbs 2 * KK.natAbs) = 2 * cap * KK.natAbs := by
      have : Int.natAbs 2 = 2 := rfl
      rw [this]; grind
    rw [e]
    exact Nat.mul_le_mul_right _ (by omega))
  have es : fv s' = y := by
    rw [two_val, Int.sign_eq_one_of_pos (show 0 < 2 * KK by omega), Int.mul_one] at s3
    have e1 : ((2 * KK).natAbs : Int) = 2 * KK := by omega
    rw [e1] at s3
    refine Fp.near_exact' (d := 2 * KK) (by omega) ?_ ry
    have e2 : y * (2 * KK) = fv v * KK := by rw [ey]; grind
    rw [e2]; exact s3
  have evv : fv v * fv v = 4 * (fv s' * fv s') := by rw [es, ey]; grind
  rw [evv] at g1 g2
  refine ⟨s', ⟨⟨t, v, t1, v1, s1⟩⟩, s2, by omega, ?_, ?_, by omega⟩
  · generalize fv s' * fv s' = V at *
    have e : 4 * R' * X = 4 * (R' * X) := Int.mul_assoc ..
    rw [e] at g1
    generalize R' * X = A at *
    omega
  · generalize fv s' * fv s' = V at *
    omega

/-- The six steps. -/
theorem root_words {x s0 : Nat} (fx : Fp.Fin x) (f0 : Fp.Fin s0) {Z : Int} (hZ1 : 2 ^ 100 ≤ Z) (hZ2 : 2 ^ 20 * Z ≤ cap) (hX1 : 4 * (Z * Z) ≤ fv x * KK) (hX2 : fv x * KK < 16 * (Z * Z)) (e0 : fv s0 = 3 * Z) :
    ∃ sq : Nat → Nat, sq 0 = s0 ∧ (∀ i, i < 6 → StepW x (sq i) (sq (i + 1))) ∧ Fp.Fin (sq 6) ∧ 0 < fv (sq 6) ∧ 2 ^ 50 * (fv (sq 6) * fv (sq 6) - fv x * KK).natAbs ≤ (fv x * KK).natAbs ∧ Z ≤ fv (sq 6) ∧ fv (sq 6) ≤ 8 * Z := by
  have e9 : fv s0 * fv s0 = 9 * (Z * Z) := by rw [e0]; grind
  have a0 : 2 ^ 60 * ((fv s0 * fv s0 - fv x * KK).natAbs : Int) ≤ 5 * 2 ^ 58 * (fv x * KK) := by
    rw [e9]
    generalize fv x * KK = X at *
    generalize Z * Z = ZZ at *
    omega
  have c0 : 9 * (fv x * KK) ≤ 16 * (fv s0 * fv s0) := by
    rw [e9]
    generalize fv x * KK = X at *
    generalize Z * Z = ZZ at *
    omega
  obtain ⟨s1, w1, f1, p1, a1, c1, _⟩ := step_words fx f0 (R' := 3 * 2 ^ 58) hZ1 hZ2 hX1 hX2 (by decide) (by decide) (by decide) (by omega) a0 c0 (by decide) (by decide)
  obtain ⟨s2, w2, f2, p2, a2, c2, _⟩ := step_words fx f1 (R' := 3 * 2 ^ 56) hZ1 hZ2 hX1 hX2 (by decide) (by decide) (by decide) p1 a1 c1 (by decide) (by decide)
  obtain ⟨s3, w3, f3, p3, a3, c3, _⟩ := step_words fx f2 (R' := 2 ^ 54) hZ1 hZ2 hX1 hX2 (by decide) (by decide) (by decide) p2 a2 c2 (by decide) (by decide)
  obtain ⟨s4, w4, f4, p4, a4, c4, _⟩ := step_words fx f3 (R' := 2 ^ 47) hZ1 hZ2 hX1 hX2 (by decide) (by decide) (by decide) p3 a3 c3 (by decide) (by decide)
  obtain ⟨s5, w5, f5, p5, a5, c5, _⟩ := step_words fx f4 (R' := 2 ^ 33) hZ1 hZ2 hX1 hX2 (by decide) (by decide) (by decide) p4 a4 c4 (by decide) (by decide)
  obtain ⟨s6, w6, f6, p6, a6, c6, z6⟩ := step_words fx f5 (R' := 2 ^ 10) hZ1 hZ2 hX1 hX2 (by decide) (by decide) (by decide) p5 a5 c5 (by decide) (by decide)
  refine ⟨fun i => match i with | 0 => s0 | 1 => s1 | 2 => s2 | 3 => s3 | 4 => s4 | 5 => s5 | _ => s6, rfl, ?_, f6, p6, ?_, z6, ?_⟩
  · intro i hi
    have cs : i = 0 ∨ i = 1 ∨ i = 2 ∨ i = 3 ∨ i = 4 ∨ i = 5 := by omega
    rcases cs with rfl | rfl | rfl | rfl | rfl | rfl
    · exact w1
    · exact w2
    · exact w3
    · exact w4
    · exact w5
    · exact w6
  · show 2 ^ 50 * (fv s6 * fv s6 - fv x * KK).natAbs ≤ (fv x * KK).natAbs
    have hZZ : 0 ≤ Z * Z := Fp.sq_nonneg _
    generalize fv x * KK = X at *
    generalize fv s6 * fv s6 = S at *
    generalize Z * Z = ZZ at *
    clear a0 a1 a2 a3 a4 a5 c0 c1 c2 c3 c4 c5 c6 hZ2
    omega
  · show fv s6 ≤ 8 * Z
    refine sq_le (by omega) ?_
    have e : 8 * Z * (8 * Z) = 64 * (Z * Z) := by grind
    rw [e]
    have hZZ : 0 ≤ Z * Z := Fp.sq_nonneg _
    generalize fv x * KK = X at *
    generalize fv s6 * fv s6 = S at *
    generalize Z * Z = ZZ at *
    clear a0 a1 a2 a3 a4 a5 c0 c1 c2 c3 c4 c5 c6 hZ2
    omega
end Go.Proofs.YgctacDoor
