/-
  What Split64 tells, against the number that the word stands for.
-/
import Derived.Test.YgctacAt
import Derived.Test.YgctacFpC
namespace Go.Proofs.Ygctac
open Fp (fv rv)

theorem fin_iff {p : Nat} (hp : p < 18446744073709551616) : sCl p ≤ 1 ↔ Fp.Fin p := by
  have h1 := sF_lt p
  unfold sCl Fp.Fin sF sM at *
  constructor
  · intro h
    refine ⟨by omega, ?_⟩
    split at h
    · split at h <;> omega
    · omega
  · rintro ⟨_, h⟩
    split
    · omega
    · split
      · omega
      · split <;> omega

theorem fv_split {p : Nat} (hp : p < 18446744073709551616) (hf : Fp.Fin p) :
    fv p = if sNg p = true then -(sMn p * 2 ^ (sEx p + 1074).toNat) else sMn p * 2 ^ (sEx p + 1074).toNat := by
  have hc := (fin_iff hp).2 hf
  have hF : sF p ≠ 2047 := by
    intro h
    unfold sCl at hc
    rw [if_pos h] at hc
    split at hc <;> omega
  have hmag : (rv (p % 2 ^ 63) : Int) = sMn p * 2 ^ (sEx p + 1074).toNat := by
    unfold rv sMn sEx
    rw [if_neg hF, if_neg hF]
    by_cases c : sF p = 0
    · have c1 : p % 2 ^ 63 < 2 ^ 52 := by unfold sF at c; omega
      rw [if_pos c1, if_neg (by simpa using c), if_neg (by simpa using c)]
      have c2 : p % 2 ^ 63 = sM p := by unfold sM; omega
      rw [c2]
      split
      · rename_i h; rw [h, Int.natCast_zero, Int.zero_mul]
      · simp
    · have c1 : ¬ p % 2 ^ 63 < 2 ^ 52 := by unfold sF at c; omega
      rw [if_neg c1, if_pos c, if_pos c, Int.natCast_mul, Fp.natp2_cast]
      have c2 : p % 2 ^ 63 % 2 ^ 52 = sM p := by unfold sM; omega
      have c3 : ((sF p : Int) - 1075 + 1074).toNat = p % 2 ^ 63 / 2 ^ 52 - 1 := by unfold sF at c ⊢; omega
      rw [c2, c3]
      congr 1
      omega
  have hneg : sNg p = decide (2 ^ 63 ≤ p) := by
    unfold sNg
    rw [if_neg (by intro h; exact hF h.1)]
    by_cases c : 2 ^ 63 ≤ p
    · have : (p : Int) / 9223372036854775808 = 1 := by omega
      simp only [this, c]; rfl
    · have : (p : Int) / 9223372036854775808 = 0 := by omega
      simp only [this, c]; rfl
  unfold fv
  rw [hmag, hneg]
  by_cases c : p < 2 ^ 63
  · rw [if_pos c, if_neg (by simp; omega)]
  · rw [if_neg c, if_pos (by simp; omega)]

/-- |x| is the mantissa at its place. -/
theorem fv_abs {p : Nat} (hp : p < 18446744073709551616) (hf : Fp.Fin p) : ((fv p).natAbs : Int) = sMn p * 2 ^ (sEx p + 1074).toNat := by
  have h1 := fv_split hp hf
  have h2 : 0 ≤ sMn p * 2 ^ (sEx p + 1074).toNat := Int.mul_nonneg (sMn_nonneg p).1 (Int.le_of_lt (Fp.p2pos _))
  rw [h1]
  split <;> omega

theorem zero_iff {p : Nat} (hp : p < 18446744073709551616) (hf : Fp.Fin p) : sCl p = 0 ↔ fv p = 0 := by
  have h1 := fv_abs hp hf
  have h2 := Fp.p2pos (sEx p + 1074).toNat
  have hc := (fin_iff hp).2 hf
  constructor
  · intro h
    have : sMn p = 0 := by
      unfold sCl at h
      unfold sMn
      split at h
      · split at h <;> omega
      · split at h
        · omega
        · split at h
          · rename_i a b c; rw [if_neg a, if_neg b, c]; rfl
          · omega
    rw [this] at h1; simp at h1; exact h1
  · intro h
    rw [h] at h1
    have h3 : sMn p = 0 := by
      rcases Int.mul_eq_zero.1 h1.symm with h | h
      · exact h
      · omega
    unfold sMn at h3
    unfold sCl at hc ⊢
    split at h3
    · rename_i a; rw [if_pos a] at hc; split at hc <;> omega
    · split at h3
      · omega
      · rename_i a b
        rw [if_neg a, if_neg b, if_pos (by omega)]

/-- 'atMost x e': |x| is at most 2^e. -/
theorem atMost_iff {p : Nat} (hp : p < 18446744073709551616) (e : Nat) (h : atMostB p (e : Int) = true) : Fp.Fin p ∧ (fv p).natAbs ≤ 2 ^ (e + 1074) := by
  unfold atMostB at h
  split at h
  · rename_i hc
    have hf : Fp.Fin p := (fin_iff hp).1 (by omega)
    refine ⟨hf, ?_⟩
    have hm := sMn_nonneg p
    have ha := fv_abs hp hf
    have hb := sEx_bounds p
    obtain ⟨m, em⟩ := Int.eq_ofNat_of_zero_le hm.1
    rw [em] at h ha
    have hm0 : m ≠ 0 := by
      intro h0
      subst h0
      have : fv p = 0 := by simp at ha; exact ha
      have := (zero_iff hp hf).2 this
      omega
    rw [Int.toNat_natCast, highTo_spec m 64 (by omega) hm0] at h
    have e1 : ((fv p).natAbs : Nat) = m * 2 ^ (sEx p + 1074).toNat := by
      have : ((m : Int) * 2 ^ (sEx p + 1074).toNat) = ((m * 2 ^ (sEx p + 1074).toNat : Nat) : Int) := by rw [Int.natCast_mul, Fp.natp2_cast]
      rw [this] at ha
      exact Int.ofNat_inj.1 ha
    rw [e1]
    simp only [Bool.or_eq_true, Bool.and_eq_true, decide_eq_true_eq, beq_iff_eq] at h
    rcases h with h | ⟨h, h'⟩
    · have h3 : m < 2 ^ (m.log2 + 1) := Nat.lt_log2_self
      have h4 : m * 2 ^ (sEx p + 1074).toNat ≤ 2 ^ (m.log2 + 1) * 2 ^ (sEx p + 1074).toNat := Nat.mul_le_mul_right _ (by omega)
      rw [← Nat.pow_add] at h4
      exact Nat.le_trans h4 (Nat.pow_le_pow_right (by omega) (by omega))
    · have h5 := (low_eq_high m (by omega) hm0).1 (by rw [highTo_spec m 64 (by omega) hm0]; exact h')
      rw [h5, ← Nat.pow_add]
      exact Nat.pow_le_pow_right (by omega) (by omega)
  · have hc : sCl p = 0 := by simpa using h
    have hf : Fp.Fin p := (fin_iff hp).1 (by omega)
    refine ⟨hf, ?_⟩
    rw [(zero_iff hp hf).1 hc]
    exact Nat.zero_le _

/-- 'atLeast x e': |x| is at least 2^e. -/
theorem atLeast_iff {p : Nat} (hp : p < 18446744073709551616) (e : Int) (he : -1074 ≤ e) (h : atLeastB p e = true) : Fp.Fin p ∧ 2 ^ (e + 1074).toNat ≤ (fv p).natAbs := by
  unfold atLeastB at h
  split at h
  · rename_i hc
    have hf : Fp.Fin p := (fin_iff hp).1 (by omega)
    refine ⟨hf, ?_⟩
    have hm := sMn_nonneg p
    have ha := fv_abs hp hf
    have hb := sEx_bounds p
    obtain ⟨m, em⟩ := Int.eq_ofNat_of_zero_le hm.1
    rw [em] at h ha
    have hm0 : m ≠ 0 := by
      intro h0
      subst h0
      have : fv p = 0 := by simp at ha; exact ha
      have := (zero_iff hp hf).2 this
      omega
    rw [Int.toNat_natCast, highTo_spec m 64 (by omega) hm0] at h
    have e1 : ((fv p).natAbs : Nat) = m * 2 ^ (sEx p + 1074).toNat := by
      have : ((m : Int) * 2 ^ (sEx p + 1074).toNat) = ((m * 2 ^ (sEx p + 1074).toNat : Nat) : Int) := by rw [Int.natCast_mul, Fp.natp2_cast]
      rw [this] at ha
      exact Int.ofNat_inj.1 ha
    rw [e1]
    simp only [decide_eq_true_eq] at h
    have h3 : 2 ^ m.log2 ≤ m := Nat.log2_self_le hm0
    have h4 : 2 ^ m.log2 * 2 ^ (sEx p + 1074).toNat ≤ m * 2 ^ (sEx p + 1074).toNat := Nat.mul_le_mul_right _ h3
    rw [← Nat.pow_add] at h4
    exact Nat.le_trans (Nat.pow_le_pow_right (by omega) (by omega)) h4
  · cases h
end Go.Proofs.Ygctac
