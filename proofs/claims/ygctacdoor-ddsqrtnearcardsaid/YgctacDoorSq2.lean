/-
  The law of dd.Sqrt over words.
-/
import Derived.Test.YgctacDoorSq1
namespace Go.Proofs.YgctacDoor
open Fp (fv rnd Norm Near)
set_option linter.unusedVariables false

structure SqrtW (xh xl s zh zl : Nat) : Prop where
  steps : ∃ p e d1 d2 re s2 f, Prods s s p e ∧ floatBits .sub .f64 xh p = some d1 ∧ floatBits .sub .f64 d1 e = some d2 ∧ floatBits .add .f64 d2 xl = some re ∧
    floatBits .add .f64 s s = some s2 ∧ floatBits .quo .f64 re s2 = some f ∧ Fasts s f zh zl

theorem sum_cap {a b Z : Int} {c : Nat} (h : b.natAbs ≤ a.natAbs) (ha : 0 < a) (hi : a ≤ 8 * Z) (hZ : 2 ^ 40 * Z ≤ c) : (a + b).natAbs ≤ c := by omega
theorem sum_nonneg {a b : Int} (h : b.natAbs ≤ a.natAbs) (ha : 0 < a) : 0 * 1 ≤ a + b := by omega

set_option maxHeartbeats 1000000 in
theorem sqrt_words {xh xl s m : Nat} (hx : Good xh xl) (fs : Fp.Fin s) {Z : Int} (hZ : Z = 2 ^ m) (m1 : 900 ≤ m) (m2 : m ≤ 1300) (hX1 : 4 * (Z * Z) ≤ fv xh * KK) (hX2 : fv xh * KK < 16 * (Z * Z))
    (hs : 2 ^ 50 * (fv s * fv s - fv xh * KK).natAbs ≤ (fv xh * KK).natAbs) (lo : Z ≤ fv s) (hi : fv s ≤ 8 * Z) :
    ∃ zh zl, SqrtW xh xl s zh zl ∧ Fp.Fin zh ∧ Fp.Fin zl ∧ fv zh = rnd 0 (fv zh + fv zl) ∧ (fv zh + fv zl).natAbs ≤ cap ∧ 0 ≤ fv zh ∧
      2 ^ 100 * ((fv zh + fv zl) * (fv zh + fv zl) - (fv xh + fv xl) * KK).natAbs ≤ ((fv xh + fv xl) * KK).natAbs := by
  have hp := cap_pos
  have hK := KK_pos
  have hZn : ((2 ^ m : Nat) : Int) = Z := by rw [Fp.natp2_cast, hZ]
  have hZ1 : 2 ^ 300 ≤ Z := by rw [hZ]; exact Fp.p2_le (by omega)
  have hZ0 : 0 < Z := by rw [hZ]; exact Fp.p2pos m
  have hZ2 : 2 ^ 40 * Z ≤ cap := by
    have h1 : 2 ^ 40 * 2 ^ m ≤ cap := by rw [p2_mul]; exact capE_le (by unfold capE; omega)
    have h2 : ((2 ^ 40 * 2 ^ m : Nat) : Int) ≤ cap := by exact_mod_cast h1
    rw [Int.natCast_mul, hZn] at h2
    exact h2
  have pos : 0 < fv s := by omega
  have hxp : 0 < fv xh := by
    have : 0 < fv xh * KK := by
      have := Int.mul_pos hZ0 hZ0
      omega
    exact Int.pos_of_mul_pos_left this hK
  have eX := natKK (fv xh)
  -- the place of s
  have slo : 2 ^ m ≤ (fv s).natAbs := by omega
  have shi : (fv s).natAbs ≤ 2 ^ (m + 3) := by
    have : 2 ^ (m + 3) = 2 ^ m * 8 := by rw [Nat.pow_add]
    omega
  obtain ⟨A, i, nA⟩ := Fp.norm_of (Fp.fv_rep s) (Nat.le_trans (Nat.pow_le_pow_right (by decide) (by omega)) slo)
  have i1 := norm_low nA slo
  have i2 := norm_high nA shi
  obtain ⟨t, ht⟩ : ∃ t, i + i = 1074 + t := ⟨i + i - 1074, by omega⟩
  have htc : 2 ^ 113 * 2 ^ t ≤ cap := by rw [p2_mul]; exact capE_le (by unfold capE; omega)
  have h31 : 2 ^ 31 * (fv s).natAbs ≤ cap := by omega
  obtain ⟨p, e, hP, fp, fe, np, ee, eP⟩ := prods_norm fs fs h31 h31 nA nA ht htc
  generalize A * A * 2 ^ t = pp at *
  clear i1 i2 ht htc nA slo shi
  have bpp : pp.natAbs ≤ 2 * (fv xh).natAbs := by
    have h2 := Fp.ab_from (fv s * fv s) (fv xh * KK)
    have h3 : (fv s * fv s).natAbs ≤ 2 * (fv xh * KK).natAbs := by
      generalize (fv s * fv s).natAbs = A1 at *
      generalize (fv s * fv s - fv xh * KK).natAbs = A2 at *
      generalize (fv xh * KK).natAbs = A3 at *
      omega
    rw [eP, natKK, eX, ← Nat.mul_assoc] at h3
    exact scaled_le h3
  obtain ⟨X, eX'⟩ : ∃ X, X = (fv xh).natAbs := ⟨_, rfl⟩
  have lx := (good_lo hx).2
  have hc := cap_room _ hx.most
  rw [← eX'] at bpp lx hc
  have dp := near_dbl np
  have bp : (fv p).natAbs ≤ 4 * X := by omega
  have be : (fv e).natAbs ≤ 6 * X := by
    have := Fp.tri' pp (fv p)
    rw [← ee] at this
    omega
  obtain ⟨d1, d11, d12, d13, bd1⟩ := subWB (A := X) hx.fh fp (by omega) bp (by omega)
  obtain ⟨d2, d21, d22, d23, bd2⟩ := subWB d12 fe bd1 be (by omega)
  obtain ⟨re, re1, re2, re3, bre⟩ := addWB (B := X) d22 hx.fl bd2 (by omega) (by omega)
  obtain ⟨s2, s21, s22, s23, _⟩ := addWB (A := (8 * Z).toNat) (B := (8 * Z).toNat) fs fs (by omega) (by omega) (by omega)
  have es2 : fv s2 = 2 * fv s := by
    have : fv s + fv s = 2 * fv s := by omega
    rw [this] at s23
    exact Fp.near_exact s23 (Fp.rep_double (Fp.fv_rep s))
  have hs2 : fv s2 ≠ 0 := by omega
  -- |rest| K <= 66 X K < 2^11 Z * Z
  have hre : (fv re * KK).natAbs ≤ (2 ^ 11 * Z).toNat * (fv s2).natAbs := by
    have h1 : (fv re * KK).natAbs ≤ 66 * (fv xh * KK).natAbs := by
      rw [natKK, eX, ← eX', ← Nat.mul_assoc]
      exact Nat.mul_le_mul_right _ (by omega)
    have h2 : (2 ^ 11 * Z) * Z ≤ 2 ^ 11 * Z * fv s2 := Int.mul_le_mul_of_nonneg_left (by omega) (by omega)
    have h3 : 2 ^ 11 * Z * Z = 2 ^ 11 * (Z * Z) := Int.mul_assoc ..
    have h4 : (((2 ^ 11 * Z).toNat * (fv s2).natAbs : Nat) : Int) = 2 ^ 11 * Z * fv s2 := by
      rw [Int.natCast_mul]
      have a1 : (((2 ^ 11 * Z).toNat : Nat) : Int) = 2 ^ 11 * Z := by omega
      have a2 : ((fv s2).natAbs : Int) = fv s2 := by omega
      rw [a1, a2]
    generalize (fv re * KK).natAbs = A1 at *
    generalize (2 ^ 11 * Z).toNat * (fv s2).natAbs = A2 at *
    generalize 2 ^ 11 * Z * fv s2 = A3 at *
    generalize fv xh * KK = A4 at *
    generalize Z * Z = ZZ at *
    clear hs eP bre bd1 bd2 hZ2
    omega
  obtain ⟨f, f1, f2, f3, _⟩ := quoW re2 s22 hs2 (Nat.le_trans hre (Nat.mul_le_mul_right _ (by omega)))
  have bf := quot_le hs2 f3 hre (by omega)
  obtain ⟨zh, zl, z3, hF3, fzh, fzl, ezh, nzh, nz3, nzl, _, _⟩ := fastsB fs f2 ((2 ^ 12 * Z).toNat) (by omega) (by omega) (by omega)
  have H : Fp.SqrtSteps KK (fv xh) (fv xl) (fv s) (fv p) (fv e) (fv d1) (fv d2) (fv re) (fv f) (fv zh) (fv zl) :=
    ⟨good_near hx, Fp.fv_rep s, ⟨pp, eP, np, ee⟩, d13, d23, re3, by rw [← es2]; exact f3, nzh, ⟨z3, nz3, nzl⟩⟩
  obtain ⟨r1, r2, r3⟩ := Fp.dd_sqrt H KK_pos pos hxp hs (by
    have hZZ : Z * 2 ^ 300 ≤ Z * Z := Int.mul_le_mul_of_nonneg_left hZ1 (by omega)
    generalize fv xh * KK = A4 at *
    generalize Z * Z = ZZ at *
    clear hs eP bre bd1 bd2 hZ2 hre bf
    omega)
  refine ⟨zh, zl, ⟨⟨p, e, d1, d2, re, s2, f, hP, d11, d21, re1, s21, f1, hF3⟩⟩, fzh, fzl, by rw [r1]; exact ezh, ?_, ?_, r3⟩
  · rw [r1]; exact sum_cap r2 pos hi hZ2
  · exact Fp.near_ge Int.one_pos nzh Fp.rep_zero (sum_nonneg r2 pos)

theorem sqrt_fin {xh xl zh zl : Nat} (hx : Good xh xl)
    (zb : 2 ^ 100 * ((fv zh + fv zl) * (fv zh + fv zl) - (fv xh + fv xl) * KK).natAbs ≤ ((fv xh + fv xl) * KK).natAbs) :
    cmpW (absW ((fv zh + fv zl) * (fv zh + fv zl) + -(av xh + av xl)) * 2 ^ 100) (absW (av xh + av xl) + av slackP * 2 ^ 100) ≤ 0 := by
  have e : av xh + av xl = (fv xh + fv xl) * KK := by unfold av KK; rw [Int.add_mul]
  have hK := KK_pos
  have hl := (good_lo hx).2
  have hc := cap_room _ hx.most
  have hT : (((fv xh + fv xl) * KK).natAbs : Int) ≤ cap * KK := by
    rw [natAbs_mul_pos _ _ hK]
    exact Int.mul_le_mul_of_nonneg_right (by omega) (by omega)
  have hC : 0 ≤ cap * KK := Int.mul_nonneg (by omega) (by omega)
  rw [e]
  have t := Fp.ab_from ((fv zh + fv zl) * (fv zh + fv zl)) ((fv xh + fv xl) * KK)
  generalize (fv zh + fv zl) * (fv zh + fv zl) = G at *
  generalize (fv xh + fv xl) * KK = T at *
  have hS : 0 ≤ 2 ^ 74 * KK * 2 ^ 100 := Int.mul_nonneg (by omega) (by decide)
  exact rel_fin (by decide) (by omega) (by omega) (by omega)
end Go.Proofs.YgctacDoor
