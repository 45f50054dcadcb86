/-
  The law of dd.Mul over words; the last comparison of law.DDMulNear.
-/
import Derived.Test.YgctacDoorMul5
import Derived.Test.YgctacDoorMul3
import Derived.Test.YgctacDoorAddFin
namespace Go.Proofs.YgctacDoor
open Fp (fv rnd Norm Near)
set_option linter.unusedVariables false

theorem good_zero {xh xl : Nat} (h : Good xh xl) (z : fv xh = 0) : fv xl = 0 := by
  have n := h.norm
  rw [z, Int.zero_add] at n
  have := Fp.near_exact (Fp.rnd_near1 (fv xl)) (Fp.fv_rep xl)
  rw [← n] at this
  exact this.symm

theorem good_near {xh xl : Nat} (h : Good xh xl) : Near (fv xh + fv xl) 1 (fv xh) := by
  have := Fp.rnd_near1 (fv xh + fv xl)
  rwa [← h.norm] at this

theorem good_norm {xh xl : Nat} (h : Good xh xl) (z : fv xh ≠ 0) : ∃ A i, Norm (fv xh) A i ∧ 822 ≤ i ∧ i ≤ 1222 := by
  have hl : loB ≤ (fv xh).natAbs := h.least.resolve_left z
  have h52 : 2 ^ 52 ≤ (fv xh).natAbs := Nat.le_trans (by unfold loB; exact Nat.pow_le_pow_right (by decide) (show 52 ≤ loE by decide)) hl
  obtain ⟨A, i, hn⟩ := Fp.norm_of (Fp.fv_rep xh) h52
  have h1 : loE < i + 53 := norm_low hn hl
  have h2 : 52 + i ≤ hiE := norm_high hn h.most
  unfold loE at h1
  unfold hiE at h2
  exact ⟨A, i, hn, by omega, by omega⟩

theorem good_31 {xh xl : Nat} (h : Good xh xl) : 2 ^ 31 * (fv xh).natAbs ≤ cap := by
  have := h.most
  have e : 2 ^ 31 * hiB ≤ cap := by
    unfold hiB cap
    rw [← Nat.pow_add]
    exact Nat.pow_le_pow_right (by decide) (show 31 + hiE ≤ capE by decide)
  exact Nat.le_trans (Nat.mul_le_mul_left _ this) e

theorem pow_cap (s : Nat) (hs : s ≤ 1400) : (2 : Int) ^ 140 * 2 ^ s ≤ cap := by
  unfold cap
  rw [Fp.natp2_cast, ← Int.pow_add]
  exact Fp.p2_le (show 140 + s ≤ capE by unfold capE; omega)

/-- A rounded product's magnitude. -/
theorem near_leK {n x M : Int} {s : Nat} (h : Near n KK x) (hn : (n.natAbs : Int) ≤ 2 ^ 53 * 2 ^ s * KK) : (x.natAbs : Int) ≤ 2 ^ 53 * 2 ^ s :=
  Fp.near_abs_le KK_pos h (Fp.rep_mul (2 ^ 53) s (by decide)) hn

theorem slack_nonneg (k : Nat) : 0 ≤ av slackP * 2 ^ k ∧ av slackP = 2 ^ 74 * KK := by
  have e : av slackP = 2 ^ 74 * KK := by
    unfold av
    rw [fv_split slack_lt slack_fin]
    have h1 : sNg slackP = false := by decide +kernel
    have h2 : sMn slackP = 2 ^ 52 := by decide +kernel
    have h3 : (sEx slackP + 1074).toNat = 22 := by decide +kernel
    rw [h1, h2, h3, KK_def]
    rfl
  exact ⟨Int.mul_nonneg (by rw [e]; exact Int.mul_nonneg (by decide) (Int.le_of_lt KK_pos)) (Int.le_of_lt (Fp.p2pos k)), e⟩

theorem half_room : (2 : Int) ^ 200 * (cap * KK) ≤ half := by
  unfold cap KK half
  rw [Fp.natp2_cast, ← Int.pow_add, ← Int.pow_add]
  exact Fp.p2_le (show 200 + (capE + 1074) ≤ 4351 by decide)

/-- The comparison that ends relativeTo. -/
theorem rel_fin {G T : Int} {k : Nat} (hk : k ≤ 103) (hG : (G.natAbs : Int) ≤ 2 ^ 60 * (cap * KK)) (hT : (T.natAbs : Int) ≤ 2 ^ 60 * (cap * KK))
    (h : (2 : Int) ^ k * ((G - T).natAbs : Int) ≤ (T.natAbs : Int) + 2 ^ 74 * KK * 2 ^ k) : cmpW (absW (G + -T) * 2 ^ k) (absW T + av slackP * 2 ^ k) ≤ 0 := by
  have hK := KK_pos
  have hr := half_room
  have hc : KK ≤ cap * KK := by
    have : (1 : Int) * KK ≤ cap * KK := Int.mul_le_mul_of_nonneg_right (by have := cap_pos; omega) (by omega)
    omega
  have hpk : (2 : Int) ^ k ≤ 2 ^ 103 := Fp.p2_le hk
  have hp0 := Fp.p2pos k
  have e1 : G + -T = G - T := by omega
  rw [e1, (slack_nonneg k).2]
  have t := Fp.tri' G T
  have hD : ((G - T).natAbs : Int) ≤ 2 ^ 61 * (cap * KK) := by omega
  rw [absW_room hD (by omega), absW_room hT (by omega)]
  have m1 : 2 ^ 74 * KK * 2 ^ k ≤ 2 ^ 74 * KK * 2 ^ 103 := Int.mul_le_mul_of_nonneg_left hpk (by omega)
  have m0 : 0 ≤ 2 ^ 74 * KK * 2 ^ k := Int.mul_nonneg (by omega) (by omega)
  have m2 : ((G - T).natAbs : Int) * 2 ^ k = 2 ^ k * ((G - T).natAbs : Int) := Int.mul_comm _ _
  have m3 : 0 ≤ ((G - T).natAbs : Int) * 2 ^ k := Int.mul_nonneg (by omega) (by omega)
  generalize 2 ^ 74 * KK * 2 ^ k = Y at *
  generalize ((G - T).natAbs : Int) * 2 ^ k = X at *
  rw [m2.symm] at h
  generalize cap * KK = CK at *
  exact cmpW_le _ _ (by omega) (by omega) (by omega) (by omega) h

end Go.Proofs.YgctacDoor
