/-
  The law of dd.Div over words.
-/
import Derived.Test.YgctacDiv2
namespace Go.Proofs.Ygctac
open Fp (fv rnd Norm Near)
set_option linter.unusedVariables false

theorem addWB {x y A B : Nat} (hx : Fp.Fin x) (hy : Fp.Fin y) (ha : (fv x).natAbs ≤ A) (hb : (fv y).natAbs ≤ B) (hov : A + B < 3 * cap) :
    ∃ r, floatBits .add .f64 x y = some r ∧ Fp.Fin r ∧ Near (fv x + fv y) 1 (fv r) ∧ (fv r).natAbs ≤ 2 * (A + B) := by
  have t := Fp.tri (fv x) (fv y)
  obtain ⟨r, h1, h2, _, h4⟩ := addW hx hy (by omega)
  have := near_dbl h4
  exact ⟨r, h1, h2, h4, by omega⟩
theorem subWB {x y A B : Nat} (hx : Fp.Fin x) (hy : Fp.Fin y) (ha : (fv x).natAbs ≤ A) (hb : (fv y).natAbs ≤ B) (hov : A + B < 3 * cap) :
    ∃ r, floatBits .sub .f64 x y = some r ∧ Fp.Fin r ∧ Near (fv x - fv y) 1 (fv r) ∧ (fv r).natAbs ≤ 2 * (A + B) := by
  have t := Fp.tri' (fv x) (fv y)
  obtain ⟨r, h1, h2, _, h4⟩ := subW hx hy (by omega)
  have := near_dbl h4
  exact ⟨r, h1, h2, h4, by omega⟩
theorem fastsB {a b : Nat} (fa : Fp.Fin a) (fb : Fp.Fin b) (M : Nat) (hM : 16 * M ≤ cap) (ha : (fv a).natAbs ≤ M) (hb : (fv b).natAbs ≤ M) :
    ∃ s e z, Fasts a b s e ∧ Fp.Fin s ∧ Fp.Fin e ∧ fv s = rnd 0 (fv a + fv b) ∧ Near (fv a + fv b) 1 (fv s) ∧ Near (fv s - fv a) 1 z ∧ Near (fv b - z) 1 (fv e) ∧ (fv s).natAbs ≤ 4 * M ∧ (fv e).natAbs ≤ 22 * M := by
  obtain ⟨s, e, z, h1, h2, h3, h4, h5, h6, h7⟩ := fasts_near fa fb M hM ha hb
  have d1 := near_dbl h5
  have d2 := near_dbl h6
  have d3 := near_dbl h7
  have t1 := Fp.tri (fv a) (fv b)
  have t2 := Fp.tri' (fv s) (fv a)
  have t3 := Fp.tri' (fv b) z
  refine ⟨s, e, z, h1, h2, h3, h4, h5, h6, h7, by omega, ?_⟩
  generalize (fv e).natAbs = E at *
  generalize (fv b - z).natAbs = X1 at *
  generalize (fv s - fv a).natAbs = X2 at *
  generalize (fv a + fv b).natAbs = X3 at *
  generalize (fv a).natAbs = X4 at *
  generalize (fv b).natAbs = X5 at *
  generalize (fv s).natAbs = X6 at *
  generalize z.natAbs = X7 at *
  omega
theorem fasts0 {a b : Nat} (fa : Fp.Fin a) (fb : Fp.Fin b) (za : fv a = 0) (zb : fv b = 0) : ∃ s e, Fasts a b s e ∧ Fp.Fin s ∧ Fp.Fin e ∧ fv s = 0 ∧ fv e = 0 := by
  obtain ⟨s, e, z, h1, h2, h3, _, _, _, _, h8, h9⟩ := fastsB fa fb 0 (by omega) (by rw [za]; simp) (by rw [zb]; simp)
  exact ⟨s, e, h1, h2, h3, by omega, by omega⟩

theorem capE_le {n : Nat} (h : n ≤ capE) : 2 ^ n ≤ cap := by
  unfold cap
  exact Nat.pow_le_pow_right (by decide) h

theorem scaled_le {a X : Nat} (h : a * 2 ^ kE ≤ X * 2 ^ kE) : a ≤ X := Nat.le_of_mul_le_mul_right h (Nat.two_pow_pos _)

set_option maxHeartbeats 1000000 in
theorem div_words {xh xl yh yl : Nat} (hx : Good xh xl) (hy : Good yh yl) (h0 : fv yh ≠ 0) :
    ∃ zh zl, DivW xh xl yh yl zh zl ∧ Fp.Fin zh ∧ Fp.Fin zl ∧ fv zh = rnd 0 (fv zh + fv zl) ∧ (fv zh + fv zl).natAbs ≤ cap ∧
      2 ^ 102 * ((fv zh + fv zl) * (fv yh + fv yl) - (fv xh + fv xl) * KK).natAbs ≤ ((fv xh + fv xl) * KK).natAbs := by
  have hp := cap_pos
  have hne := order_ne hy.fh h0
  by_cases hz : fv xh = 0
  · have hzl := good_zero hx hz
    obtain ⟨q, q1, q2, _, q4⟩ := quoW hx.fh hy.fh h0 (by rw [hz]; simp)
    have q0 := q4 hz
    obtain ⟨ch, cl, hP, fch, fcl, zch, zcl⟩ := prods_zero hy.fh q2 (good_31 hy) (by rw [q0]; simp) (.inr q0)
    obtain ⟨t, t1, t2, t3⟩ := mulW0 hy.fl q2 (.inr q0)
    obtain ⟨dh, dl, hF1, fdh, fdl, zdh, zdl⟩ := fasts0 fch t2 zch t3
    obtain ⟨c, c1, c2, c3⟩ := addW0 fdl fcl zdl zcl
    obtain ⟨rh, rl, hF2, frh, frl, zrh, zrl⟩ := fasts0 fdh c2 zdh c3
    obtain ⟨d1, d11, d12, d13⟩ := subW0 hx.fh frh hz zrh
    obtain ⟨d2, d21, d22, d23⟩ := subW0 hx.fl frl hzl zrl
    obtain ⟨re, re1, re2, re3⟩ := addW0 d12 d22 d13 d23
    obtain ⟨f, f1, f2, _, f4⟩ := quoW re2 hy.fh h0 (by rw [re3]; simp)
    obtain ⟨zh, zl, hF3, fzh, fzl, zzh, zzl⟩ := fasts0 q2 f2 q0 (f4 re3)
    refine ⟨zh, zl, ⟨⟨q, rh, rl, d1, d2, re, f, q1, ⟨⟨ch, cl, t, dh, dl, c, hP, t1, hF1, c1, hF2⟩⟩, d11, d21, re1, f1, hF3⟩, hne⟩, fzh, fzl, ?_, ?_, ?_⟩
    · rw [zzh, zzl]; exact (Fp.rnd_zero 0).symm
    · rw [zzh, zzl]; simp
    · rw [zzh, zzl, hz, hzl]; simp
  · have hX1 : loB ≤ (fv xh).natAbs := hx.least.resolve_left hz
    have hY1 : loB ≤ (fv yh).natAbs := hy.least.resolve_left h0
    obtain ⟨R1, R2, R3, R4⟩ := quot_room hX1 hx.most hY1 hy.most
    have hc := cap_room _ hx.most
    have lx := (good_lo hx).2
    have ly := (good_lo hy).2
    have eX := natKK (fv xh)
    have hqc : (2 : Nat) ^ 30 * 2 ^ qHi ≤ cap := by rw [p2_mul]; exact capE_le (by decide)
    have hq31 : (2 : Nat) ^ 31 * 2 ^ qHi ≤ cap := by rw [p2_mul]; exact capE_le (by decide)
    have hYq : ∀ c, c * 2 ^ qHi ≤ cap → c * 2 ^ qHi * (fv yh).natAbs ≤ cap * (fv yh).natAbs := fun c h => Nat.mul_le_mul_right _ h
    obtain ⟨q, q1, q2, q3, _⟩ := quoW hx.fh hy.fh h0 (by
      rw [eX]
      have h1 := hYq 1 (by omega)
      rw [Nat.one_mul] at h1
      exact Nat.le_trans R1 h1)
    have hYp : (0 : Int) < ((fv yh).natAbs : Int) := by omega
    have en : (fv xh * KK * (fv yh).sign).natAbs = (fv xh).natAbs * 2 ^ kE := by
      rw [Int.natAbs_mul, eX, Int.natAbs_sign_of_ne_zero h0, Nat.mul_one]
    have qhi : (fv q).natAbs ≤ 2 ^ qHi := by
      have := Fp.near_abs_le hYp q3 (f := 2 ^ qHi) (Fp.rep_p2 _) (by
        rw [en, ← Fp.natp2_cast]
        exact_mod_cast R1)
      rw [← Fp.natp2_cast] at this
      exact_mod_cast this
    have qlo : 2 ^ qLo ≤ (fv q).natAbs := by
      have := Fp.near_abs_ge hYp q3 (f := 2 ^ qLo) (Fp.rep_p2 _) (by
        rw [en, ← Fp.natp2_cast]
        exact_mod_cast R2)
      rw [← Fp.natp2_cast] at this
      exact_mod_cast this
    obtain ⟨Q, i, nQ⟩ := Fp.norm_of (Fp.fv_rep q) (Nat.le_trans (Nat.pow_le_pow_right (by decide) (by decide)) qlo)
    have i1 := norm_low nQ qlo
    have i2 := norm_high nQ qhi
    unfold qLo at i1
    unfold qHi at i2
    obtain ⟨B, j, nB, j1, j2⟩ := good_norm hy h0
    obtain ⟨s, hs⟩ : ∃ s, j + i = 1074 + s := ⟨j + i - 1074, by omega⟩
    have hsc : 2 ^ 113 * 2 ^ s ≤ cap := by rw [p2_mul]; exact capE_le (by unfold capE; omega)
    obtain ⟨ch, cl, hP, fch, fcl, nch, ecl, eP⟩ := prods_norm hy.fh q2 (good_31 hy) (Nat.le_trans (Nat.mul_le_mul_left _ qhi) hq31) nB nQ hs hsc
    generalize B * Q * 2 ^ s = p at *
    clear i1 i2 j1 j2 hs hsc nQ nB qlo
    -- the product's magnitude
    have bP : (fv yh * fv q).natAbs ≤ 2 * (fv xh).natAbs * 2 ^ kE := by
      have h1 := Fp.quot_out h0 q3
      have h2 := Fp.ab_from (fv yh * fv q) (fv xh * KK)
      rw [eX] at h1 h2
      rw [Nat.mul_assoc]
      generalize (fv xh).natAbs * 2 ^ kE = A at *
      generalize (fv yh).natAbs = A1 at *
      generalize (fv yh * fv q).natAbs = A2 at *
      generalize (fv yh * fv q - fv xh * KK).natAbs = A3 at *
      omega
    have bp : p.natAbs ≤ 2 * (fv xh).natAbs := by
      rw [eP, natKK] at bP
      exact scaled_le bP
    have bW : (fv yl * fv q).natAbs ≤ 2 * (fv xh).natAbs * 2 ^ kE := by
      refine Nat.le_trans ?_ bP
      rw [Int.natAbs_mul, Int.natAbs_mul]
      exact Nat.mul_le_mul_right _ (by omega)
    have hX0 : 0 < (fv xh).natAbs := by omega
    obtain ⟨X, eX'⟩ : ∃ X, X = (fv xh).natAbs := ⟨_, rfl⟩
    have bxl : (fv xl).natAbs ≤ X := by omega
    rw [← eX'] at bP bp bW hX0 hc R1
    have dch := near_dbl nch
    have bch : (fv ch).natAbs ≤ 5 * X := by omega
    have bcl : (fv cl).natAbs ≤ 6 * X := by
      have := Fp.tri' p (fv ch)
      rw [← ecl] at this
      omega
    obtain ⟨t, t1, t2, _, t4⟩ := mulW hy.fl q2 (by
      have h1 : (fv yl * fv q).natAbs < 3 * cap * 2 ^ kE := Nat.lt_of_le_of_lt bW (Nat.mul_lt_mul_of_pos_right (by omega) (Nat.two_pow_pos _))
      have h2 : ((3 * cap * 2 ^ kE : Nat) : Int) = 3 * (cap : Int) * KK := by rw [KK_kE, Int.natCast_mul, Int.natCast_mul, Fp.natp2_cast]; rfl
      rw [← h2]
      exact_mod_cast h1)
    have bt : (fv t).natAbs ≤ 5 * X := by
      have h1 := Fp.relN KK_pos t4
      have h2 := Fp.ab_from (fv t * KK) (fv yl * fv q)
      rw [natKK] at h2
      rw [KK_abs] at h1
      have h3 : 1 * 2 ^ kE ≤ X * 2 ^ kE := Nat.mul_le_mul_right _ hX0
      refine scaled_le ?_
      rw [Nat.mul_assoc] at bW ⊢
      clear bP R1
      generalize X * 2 ^ kE = A at *
      generalize (fv t).natAbs * 2 ^ kE = A1 at *
      generalize (fv t * KK - fv yl * fv q).natAbs = A2 at *
      generalize (fv yl * fv q).natAbs = A3 at *
      generalize 2 ^ kE = A4 at *
      omega
    have hcX : 2 ^ 20 * X ≤ cap := by omega
    obtain ⟨dh, dl, z1, hF1, fdh, fdl, _, ndh, nz1, ndl, bdh, bdl⟩ := fastsB fch t2 (5 * X) (by omega) bch bt
    obtain ⟨c, c1, c2, c3, bc⟩ := addWB fdl fcl bdl bcl (by omega)
    obtain ⟨rh, rl, z2, hF2, frh, frl, _, nrh, nz2, nrl, brh, brl⟩ := fastsB fdh c2 (232 * X) (by omega) (by omega) (by omega)
    obtain ⟨d1, d11, d12, d13, bd1⟩ := subWB (A := X) hx.fh frh (by omega) brh (by omega)
    obtain ⟨d2, d21, d22, d23, bd2⟩ := subWB hx.fl frl bxl brl (by omega)
    obtain ⟨re, re1, re2, re3, bre⟩ := addWB d12 d22 bd1 bd2 (by omega)
    have bre' : (fv re).natAbs ≤ 2 ^ 15 * X := by omega
    have hreK : (fv re * KK).natAbs ≤ 2 ^ 15 * 2 ^ qHi * (fv yh).natAbs := by
      rw [natKK]
      refine Nat.le_trans (Nat.mul_le_mul_right _ bre') ?_
      rw [Nat.mul_assoc, Nat.mul_assoc]
      exact Nat.mul_le_mul_left _ R1
    obtain ⟨f, f1, f2, f3, _⟩ := quoW re2 hy.fh h0 (Nat.le_trans hreK (hYq _ (by omega)))
    have bf := quot_le h0 f3 hreK (by have := Nat.two_pow_pos qHi; omega)
    obtain ⟨zh, zl, z3, hF3, fzh, fzl, ezh, nzh, nz3, nzl, _, _⟩ := fastsB q2 f2 (2 ^ 16 * 2 ^ qHi) (by omega) (by omega) (by omega)
    have H : Fp.DivSteps KK (fv xh) (fv xl) (fv yh) (fv yl) (fv q) (fv ch) (fv cl) (fv t) (fv dh) (fv dl) (fv c) (fv rh) (fv rl) (fv d1) (fv d2) (fv re) (fv f) (fv zh) (fv zl) :=
      ⟨good_near hx, good_near hy, q3, ⟨p, eP, nch, ecl⟩, t4, ndh, ⟨z1, nz1, ndl⟩, c3, nrh, ⟨z2, nz2, nrl⟩, d13, d23, re3, f3, nzh, ⟨z3, nz3, nzl⟩⟩
    obtain ⟨r1, r2⟩ := Fp.dd_div H KK_pos h0 (by rw [eX]; exact R3) (by rw [eX, KK_abs]; exact R4)
    refine ⟨zh, zl, ⟨⟨q, rh, rl, d1, d2, re, f, q1, ⟨⟨ch, cl, t, dh, dl, c, hP, t1, hF1, c1, hF2⟩⟩, d11, d21, re1, f1, hF3⟩, hne⟩, fzh, fzl, by rw [r1]; exact ezh, ?_, r2⟩
    rw [r1]
    have := Fp.tri (fv q) (fv f)
    omega

theorem div_fin {xh xl yh yl zh zl : Nat} (hx : Good xh xl)
    (zb : 2 ^ 102 * ((fv zh + fv zl) * (fv yh + fv yl) - (fv xh + fv xl) * KK).natAbs ≤ ((fv xh + fv xl) * KK).natAbs) :
    cmpW (absW ((fv zh + fv zl) * (fv yh + fv yl) + -(av xh + av xl)) * 2 ^ 102) (absW (av xh + av xl) + av slackP * 2 ^ 102) ≤ 0 := by
  have e : av xh + av xl = (fv xh + fv xl) * KK := by unfold av KK; rw [Int.add_mul]
  have hK := KK_pos
  have hl := (good_lo hx).2
  have hc := cap_room _ hx.most
  have hT : (((fv xh + fv xl) * KK).natAbs : Int) ≤ cap * KK := by
    rw [natAbs_mul_pos _ _ hK]
    exact Int.mul_le_mul_of_nonneg_right (by omega) (by omega)
  have hC : 0 ≤ cap * KK := Int.mul_nonneg (by omega) (by omega)
  rw [e]
  have t := Fp.ab_from ((fv zh + fv zl) * (fv yh + fv yl)) ((fv xh + fv xl) * KK)
  generalize (fv zh + fv zl) * (fv yh + fv yl) = G at *
  generalize (fv xh + fv xl) * KK = T at *
  have hS : 0 ≤ 2 ^ 74 * KK * 2 ^ 102 := Int.mul_nonneg (by omega) (by decide)
  exact rel_fin (by decide) (by omega) (by omega) (by omega)
end Go.Proofs.Ygctac
