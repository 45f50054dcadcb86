/-
  The law of dd.Mul over words; the last comparison of law.DDMulNear.
-/
import Derived.Test.YgctacMul5
import Derived.Test.YgctacMul3
import Derived.Test.YgctacAddFin
namespace Go.Proofs.Ygctac
open Fp (fv rnd Norm Near)
set_option linter.unusedVariables false

theorem good_zero {xh xl : Nat} (h : Good xh xl) (z : fv xh = 0) : fv xl = 0 := by
  have n := h.norm
  rw [z, Int.zero_add] at n
  have := Fp.near_exact (Fp.rnd_near1 (fv xl)) (Fp.fv_rep xl)
  rw [← n] at this
  exact this.symm

theorem good_near {xh xl : Nat} (h : Good xh xl) : Near (fv xh + fv xl) 1 (fv xh) := by
  have := Fp.rnd_near1 (fv xh + fv xl)
  rwa [← h.norm] at this

theorem good_norm {xh xl : Nat} (h : Good xh xl) (z : fv xh ≠ 0) : ∃ A i, Norm (fv xh) A i ∧ 822 ≤ i ∧ i ≤ 1222 := by
  have hl : loB ≤ (fv xh).natAbs := h.least.resolve_left z
  have h52 : 2 ^ 52 ≤ (fv xh).natAbs := Nat.le_trans (by unfold loB; exact Nat.pow_le_pow_right (by decide) (show 52 ≤ loE by decide)) hl
  obtain ⟨A, i, hn⟩ := Fp.norm_of (Fp.fv_rep xh) h52
  have h1 : loE < i + 53 := norm_low hn hl
  have h2 : 52 + i ≤ hiE := norm_high hn h.most
  unfold loE at h1
  unfold hiE at h2
  exact ⟨A, i, hn, by omega, by omega⟩

theorem good_31 {xh xl : Nat} (h : Good xh xl) : 2 ^ 31 * (fv xh).natAbs ≤ cap := by
  have := h.most
  have e : 2 ^ 31 * hiB ≤ cap := by
    unfold hiB cap
    rw [← Nat.pow_add]
    exact Nat.pow_le_pow_right (by decide) (show 31 + hiE ≤ capE by decide)
  exact Nat.le_trans (Nat.mul_le_mul_left _ this) e

theorem pow_cap (s : Nat) (hs : s ≤ 1400) : (2 : Int) ^ 140 * 2 ^ s ≤ cap := by
  unfold cap
  rw [Fp.natp2_cast, ← Int.pow_add]
  exact Fp.p2_le (show 140 + s ≤ capE by unfold capE; omega)

/-- A rounded product's magnitude. -/
theorem near_leK {n x M : Int} {s : Nat} (h : Near n KK x) (hn : (n.natAbs : Int) ≤ 2 ^ 53 * 2 ^ s * KK) : (x.natAbs : Int) ≤ 2 ^ 53 * 2 ^ s :=
  Fp.near_abs_le KK_pos h (Fp.rep_mul (2 ^ 53) s (by decide)) hn

set_option maxHeartbeats 1000000 in
theorem mul_words {xh xl yh yl : Nat} (hx : Good xh xl) (hy : Good yh yl) :
    ∃ zh zl, MulW xh xl yh yl zh zl ∧ Fp.Fin zh ∧ Fp.Fin zl ∧ fv zh = rnd 0 (fv zh + fv zl) ∧ (fv zh + fv zl).natAbs ≤ cap ∧
      2 ^ 103 * ((fv zh + fv zl) * KK - (fv xh + fv xl) * (fv yh + fv yl)).natAbs ≤ ((fv xh + fv xl) * (fv yh + fv yl)).natAbs := by
  have hp := cap_pos
  by_cases hz : fv xh = 0 ∨ fv yh = 0
  · obtain ⟨ch, cl, hP, fch, fcl, zch, zcl⟩ := prods_zero hx.fh hy.fh (good_31 hx) (good_31 hy) hz
    obtain ⟨p1, p11, p12, p13⟩ := mulW0 hx.fh hy.fl (hz.elim .inl (fun h => .inr (good_zero hy h)))
    obtain ⟨p2, p21, p22, p23⟩ := mulW0 hx.fl hy.fh (hz.elim (fun h => .inl (good_zero hx h)) .inr)
    obtain ⟨mid, m1, m2, m3⟩ := addW0 p12 p22 p13 p23
    obtain ⟨c, c1, c2, c3⟩ := addW0 fcl m2 zcl m3
    obtain ⟨zh, zl, z, h6, fzh, fzl, z1, z2, z3, z4⟩ := fasts_near fch c2 0 (by omega) (by rw [zch]; simp) (by rw [c3]; simp)
    have zz : fv zh = 0 := by rw [z1, zch, c3]; exact Fp.rnd_zero 0
    have zz0 : z = 0 := by have := near_dbl z3; rw [zz, zch] at this; simpa using this
    have zz1 : fv zl = 0 := by have := near_dbl z4; rw [c3, zz0] at this; simpa using this
    have e0 : (fv xh + fv xl) * (fv yh + fv yl) = 0 := by
      rcases hz with h | h
      · rw [h, good_zero hx h]; simp
      · rw [h, good_zero hy h]; simp
    refine ⟨zh, zl, ⟨⟨ch, cl, p1, p2, mid, c, hP, p11, p21, m1, c1, h6⟩⟩, fzh, fzl, ?_, ?_, ?_⟩
    · rw [zz, zz1]; exact (Fp.rnd_zero 0).symm
    · rw [zz, zz1]; simp
    · rw [zz, zz1, e0]; simp
  · obtain ⟨A, i, nA, i1, i2⟩ := good_norm hx (fun h => hz (.inl h))
    obtain ⟨B, j, nB, j1, j2⟩ := good_norm hy (fun h => hz (.inr h))
    have nx := good_near hx
    have ny := good_near hy
    have lx := Fp.lo_half nA nx
    have ly := Fp.lo_half nB ny
    obtain ⟨t, ht⟩ : ∃ t, i + j = 1075 + t := ⟨i + j - 1075, by omega⟩
    have hs : (2 : Int) ^ 140 * 2 ^ (t + 1) ≤ cap := pow_cap (t + 1) (by omega)
    have hsN : 2 ^ 113 * 2 ^ (t + 1) ≤ cap := by
      have h1 : ((2 ^ 113 * 2 ^ (t + 1) : Nat) : Int) ≤ cap := by
        rw [Int.natCast_mul, Fp.natp2_cast, Fp.natp2_cast]
        have := Fp.p2pos (t + 1)
        omega
      exact_mod_cast h1
    have eIJ : (2 : Int) ^ i * 2 ^ j = 2 ^ (t + 1) * KK := by
      rw [KK_def, ← Int.pow_add, ht, show 1075 + t = (t + 1) + 1074 by omega, Int.pow_add]
    obtain ⟨ch, cl, hP, fch, fcl, nch, ecl, eP⟩ := prods_norm hx.fh hy.fh (good_31 hx) (good_31 hy) nA nB (s := t + 1) (by omega) hsN
    have hT := Fp.p2pos (t + 1)
    have hI := Fp.p2pos i
    have hJ := Fp.p2pos j
    have ax : ((fv xh).natAbs : Int) ≤ 2 ^ 53 * 2 ^ i := by
      rw [norm_abs nA]; exact Int.mul_le_mul_of_nonneg_right (by have := nA.2.2; omega) (by omega)
    have ay : ((fv yh).natAbs : Int) ≤ 2 ^ 53 * 2 ^ j := by
      rw [norm_abs nB]; exact Int.mul_le_mul_of_nonneg_right (by have := nB.2.2; omega) (by omega)
    have b1 : ((fv xh * fv yl).natAbs : Int) ≤ 2 ^ 53 * 2 ^ (t + 1) * KK := by
      have := mul_abs_le ax (show ((fv yl).natAbs : Int) ≤ 2 ^ j by omega)
      rwa [Int.mul_assoc, eIJ, ← Int.mul_assoc] at this
    have b2 : ((fv xl * fv yh).natAbs : Int) ≤ 2 ^ 53 * 2 ^ (t + 1) * KK := by
      have := mul_abs_le (show ((fv xl).natAbs : Int) ≤ 2 ^ i by omega) ay
      rwa [← Int.mul_assoc, Int.mul_comm (2 ^ i), Int.mul_assoc, eIJ, ← Int.mul_assoc] at this
    have cK : 2 ^ 53 * 2 ^ (t + 1) * KK < 3 * cap * KK := Int.mul_lt_mul_of_pos_right (by omega) KK_pos
    obtain ⟨p1, p11, p12, _, p14⟩ := mulW hx.fh hy.fl (by omega)
    obtain ⟨p2, p21, p22, _, p24⟩ := mulW hx.fl hy.fh (by omega)
    have u1 := near_leK (M := 0) p14 b1
    have u2 := near_leK (M := 0) p24 b2
    have v1 := add_le' u1 u2
    obtain ⟨mid, m1, m2, _, m4⟩ := addW p12 p22 (by omega)
    have u3 := near_le m4 v1
    have mP : ((A * B * 2 ^ (t + 1)).natAbs : Int) ≤ 2 ^ 53 * 2 ^ 53 * 2 ^ (t + 1) := mul_abs_le (mul_abs_le (by have := nA.2.2; omega) (by have := nB.2.2; omega)) (by omega)
    have u4 := near_le nch mP
    have u5 := sub_le mP u4
    rw [← ecl] at u5
    have v2 := add_le' u5 u3
    obtain ⟨c, c1, c2, _, c4⟩ := addW fcl m2 (by omega)
    have u6 := near_le c4 v2
    have hM : ∃ M : Nat, (M : Int) = 2 ^ 113 * 2 ^ (t + 1) := ⟨2 ^ 113 * 2 ^ (t + 1), by rw [Int.natCast_mul, Fp.natp2_cast, Fp.natp2_cast]⟩
    obtain ⟨M, eM⟩ := hM
    obtain ⟨zh, zl, z, h6, fzh, fzl, z1, z2, z3, z4⟩ := fasts_near fch c2 M (by omega) (by omega) (by omega)
    have H : Fp.MulSteps KK (fv xh) (fv xl) (fv yh) (fv yl) (fv ch) (fv cl) (fv p1) (fv p2) (fv mid) (fv c) (fv zh) (fv zl) :=
      ⟨nx, ny, by rw [eP]; exact Fp.near_unscale nch, by rw [eP, ecl, Int.sub_mul], p14, p24, m4, c4, z2, ⟨z, z3, z4⟩⟩
    obtain ⟨r1, r2, r3⟩ := Fp.dd_mul H nA nB KK_def ht
    have w1 := add_le' u4 u6
    refine ⟨zh, zl, ⟨⟨ch, cl, p1, p2, mid, c, hP, p11, p21, m1, c1, h6⟩⟩, fzh, fzl, by rw [r1]; exact z1, ?_, r2⟩
    rw [r1]
    omega

theorem slack_nonneg (k : Nat) : 0 ≤ av slackP * 2 ^ k ∧ av slackP = 2 ^ 74 * KK := by
  have e : av slackP = 2 ^ 74 * KK := by
    unfold av
    rw [fv_split slack_lt slack_fin]
    have h1 : sNg slackP = false := by decide +kernel
    have h2 : sMn slackP = 2 ^ 52 := by decide +kernel
    have h3 : (sEx slackP + 1074).toNat = 22 := by decide +kernel
    rw [h1, h2, h3, KK_def]
    rfl
  exact ⟨Int.mul_nonneg (by rw [e]; exact Int.mul_nonneg (by decide) (Int.le_of_lt KK_pos)) (Int.le_of_lt (Fp.p2pos k)), e⟩

theorem half_room : (2 : Int) ^ 200 * (cap * KK) ≤ half := by
  unfold cap KK half
  rw [Fp.natp2_cast, ← Int.pow_add, ← Int.pow_add]
  exact Fp.p2_le (show 200 + (capE + 1074) ≤ 4351 by decide)

/-- The comparison that ends relativeTo. -/
theorem rel_fin {G T : Int} {k : Nat} (hk : k ≤ 103) (hG : (G.natAbs : Int) ≤ 2 ^ 60 * (cap * KK)) (hT : (T.natAbs : Int) ≤ 2 ^ 60 * (cap * KK))
    (h : (2 : Int) ^ k * ((G - T).natAbs : Int) ≤ (T.natAbs : Int) + 2 ^ 74 * KK * 2 ^ k) : cmpW (absW (G + -T) * 2 ^ k) (absW T + av slackP * 2 ^ k) ≤ 0 := by
  have hK := KK_pos
  have hr := half_room
  have hc : KK ≤ cap * KK := by
    have : (1 : Int) * KK ≤ cap * KK := Int.mul_le_mul_of_nonneg_right (by have := cap_pos; omega) (by omega)
    omega
  have hpk : (2 : Int) ^ k ≤ 2 ^ 103 := Fp.p2_le hk
  have hp0 := Fp.p2pos k
  have e1 : G + -T = G - T := by omega
  rw [e1, (slack_nonneg k).2]
  have t := Fp.tri' G T
  have hD : ((G - T).natAbs : Int) ≤ 2 ^ 61 * (cap * KK) := by omega
  rw [absW_room hD (by omega), absW_room hT (by omega)]
  have m1 : 2 ^ 74 * KK * 2 ^ k ≤ 2 ^ 74 * KK * 2 ^ 103 := Int.mul_le_mul_of_nonneg_left hpk (by omega)
  have m0 : 0 ≤ 2 ^ 74 * KK * 2 ^ k := Int.mul_nonneg (by omega) (by omega)
  have m2 : ((G - T).natAbs : Int) * 2 ^ k = 2 ^ k * ((G - T).natAbs : Int) := Int.mul_comm _ _
  have m3 : 0 ≤ ((G - T).natAbs : Int) * 2 ^ k := Int.mul_nonneg (by omega) (by omega)
  generalize 2 ^ 74 * KK * 2 ^ k = Y at *
  generalize ((G - T).natAbs : Int) * 2 ^ k = X at *
  rw [m2.symm] at h
  generalize cap * KK = CK at *
  exact cmpW_le _ _ (by omega) (by omega) (by omega) (by omega) h

theorem mul_fin {xh xl yh yl zh zl : Nat} (hx : Good xh xl) (hy : Good yh yl) (zc : (fv zh + fv zl).natAbs ≤ cap)
    (zb : 2 ^ 103 * ((fv zh + fv zl) * KK - (fv xh + fv xl) * (fv yh + fv yl)).natAbs ≤ ((fv xh + fv xl) * (fv yh + fv yl)).natAbs) :
    cmpW (absW (av zh + av zl + -((fv xh + fv xl) * (fv yh + fv yl))) * 2 ^ 103) (absW ((fv xh + fv xl) * (fv yh + fv yl)) + av slackP * 2 ^ 103) ≤ 0 := by
  have e : av zh + av zl = (fv zh + fv zl) * KK := by unfold av KK; rw [Int.add_mul]
  have hK := KK_pos
  have hG : (((fv zh + fv zl) * KK).natAbs : Int) ≤ cap * KK := by
    rw [natAbs_mul_pos _ _ hK]
    exact Int.mul_le_mul_of_nonneg_right (by omega) (by omega)
  have hC : 0 ≤ cap * KK := Int.mul_nonneg (by omega) (by omega)
  rw [e]
  have t : ((fv xh + fv xl) * (fv yh + fv yl)).natAbs ≤ ((fv zh + fv zl) * KK).natAbs + ((fv zh + fv zl) * KK - (fv xh + fv xl) * (fv yh + fv yl)).natAbs := by omega
  generalize (fv zh + fv zl) * KK = G at *
  generalize (fv xh + fv xl) * (fv yh + fv yl) = T at *
  have hT : (T.natAbs : Int) ≤ 2 * (cap * KK) := by omega
  have hS : 0 ≤ 2 ^ 74 * KK * 2 ^ 103 := Int.mul_nonneg (by omega) (by decide)
  exact rel_fin (Nat.le_refl _) (by omega) (by omega) (by omega)
end Go.Proofs.Ygctac
