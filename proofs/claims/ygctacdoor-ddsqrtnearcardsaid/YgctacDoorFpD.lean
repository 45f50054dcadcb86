import Derived.Test.YgctacDoorFpA
namespace Go.Proofs.YgctacDoor.Fp

theorem tri (a b : Int) : (a + b).natAbs ≤ a.natAbs + b.natAbs := Int.natAbs_add_le a b
theorem tri' (a b : Int) : (a - b).natAbs ≤ a.natAbs + b.natAbs := by
  have := Int.natAbs_add_le a (-b)
  rwa [Int.natAbs_neg, ← Int.sub_eq_add_neg] at this

/-- What is great enough is whole at the place. -/
theorem rep_dvd {x : Int} (h : Rep x) (k : Nat) (hx : 2 ^ 53 * 2 ^ k ≤ x.natAbs) : (2 : Int) ^ k ∣ x := by
  obtain ⟨m, e, hm, rfl⟩ := h
  rw [natAbs_mul_p2] at hx
  rcases Nat.lt_or_ge e k with hh | hh
  · exfalso
    have h1 : 2 ^ e ≤ 2 ^ k := Nat.pow_le_pow_right (by omega) (by omega)
    have h2 : m.natAbs * 2 ^ e < 2 ^ 53 * 2 ^ e := Nat.mul_lt_mul_of_pos_right hm (Nat.two_pow_pos e)
    have h3 : 2 ^ 53 * 2 ^ e ≤ 2 ^ 53 * 2 ^ k := Nat.mul_le_mul_left _ h1
    omega
  · exact Int.dvd_trans (p2_dvd hh) (Int.dvd_mul_left ..)

/-- Dekker's sum where the first operand is whole at the second one's place. -/
theorem rep_back2 {a b s : Int} (ha : Rep a) (hb : Rep b) (h : Near (a + b) 1 s) (k : Nat) (da : (2 : Int) ^ k ∣ a) (db : (2 : Int) ^ k ∣ b) (hk : b.natAbs < 2 ^ 53 * 2 ^ k) : Rep (s - a) := by
  rcases Nat.le_total b.natAbs a.natAbs with hab | hab
  · exact rep_back ha hb h hab
  · have hc := natp2_cast k
    by_cases hx : (a + b).natAbs ≤ 2 ^ 53 * 2 ^ k
    · have e := near_exact h (rep_of_dvd k (Int.dvd_add da db) hx)
      rw [e, show a + b - a = b by omega]
      exact hb
    · have d1 : (2 : Int) ^ k ∣ s := near_dvd h k (Int.dvd_add da db)
      have n1 := near_half (d := 1) (by omega) h (k + 1) (by
        rw [Int.pow_succ]
        have := tri a b
        omega)
      rw [Int.pow_succ] at n1
      refine rep_of_dvd k (Int.dvd_sub d1 da) ?_
      have hb2 : (b.natAbs : Int) ≤ 2 ^ 53 * 2 ^ k - 2 ^ k := by
        obtain ⟨v, hv⟩ := db
        have e : b.natAbs = v.natAbs * 2 ^ k := by rw [hv, Int.mul_comm, natAbs_mul_p2]
        rw [e] at hk ⊢
        have h1 : v.natAbs < 2 ^ 53 := Nat.lt_of_mul_lt_mul_right hk
        have h2 : v.natAbs * 2 ^ k ≤ (2 ^ 53 - 1) * 2 ^ k := Nat.mul_le_mul_right _ (by omega)
        rw [Nat.sub_mul] at h2
        have h3 := Nat.two_pow_pos k
        omega
      omega

/-- Dekker's sum is exact: the second operand no greater; or the first whole at the second one's place. -/
theorem fast_exact2 {a b s z e : Int} (ha : Rep a) (hb : Rep b) (h : Near (a + b) 1 s) (hz : Near (s - a) 1 z) (he : Near (b - z) 1 e) (hr : Rep (s - a)) : e = a + b - s := by
  have e1 := near_exact hz hr
  subst e1
  have e2 : b - (s - a) = a + b - s := by omega
  rw [e2] at he
  exact near_exact he (rep_err ha hb h)

theorem fast_of_rep {a b s z e : Int} (hb : Rep b) (h : Near (a + b) 1 s) (hz : Near (s - a) 1 z) (he : Near (b - z) 1 e) (hr : Rep (a + b)) : s = a + b ∧ e = 0 := by
  have e1 := near_exact h hr
  subst e1
  rw [show a + b - a = b by omega] at hz
  have e2 := near_exact hz hb
  subst e2
  have e3 := near_exact he (by simpa using rep_zero)
  exact ⟨rfl, by omega⟩

theorem near_zero {x : Int} (h : Near 0 1 x) : x = 0 := near_exact h rep_zero

/-- The steps of the accurate sum of two twofold numbers, over whole numbers. -/
structure AddSteps (xh xl yh yl sh sl th tl c vh vl wv zh zl : Int) : Prop where
  rxh : Rep xh
  rxl : Rep xl
  ryh : Rep yh
  ryl : Rep yl
  nx : Near (xh + xl) 1 xh
  ny : Near (yh + yl) 1 yh
  hsh : Near (xh + yh) 1 sh
  hsl : sl = xh + yh - sh
  hth : Near (xl + yl) 1 th
  htl : tl = xl + yl - th
  hc : Near (sl + th) 1 c
  hv : Near (sh + c) 1 vh
  hvl : ∃ z, Near (vh - sh) 1 z ∧ Near (c - z) 1 vl
  hw : Near (tl + vl) 1 wv
  hz : Near (vh + wv) 1 zh
  hzl : ∃ z, Near (zh - vh) 1 z ∧ Near (wv - z) 1 zl

theorem lo_small {xh xl : Int} (h : Near (xh + xl) 1 xh) : 2 ^ 53 * xl.natAbs ≤ xh.natAbs := by
  have := (near_rel1 h).2
  omega

/-- The arithmetic of the second case. -/
theorem case2_arith (S XH YH XL YL SL TH TL C E1 VL WV E2 V T : Nat)
    (h1 : YH ≤ S) (h2 : XH ≤ 2 * S) (h3 : 2 ^ 53 * XL ≤ XH) (h4 : 2 ^ 53 * YL ≤ YH) (h5 : 2 ^ 53 * SL ≤ S)
    (h6 : TH ≤ XL + YL + TL) (h7 : 2 ^ 53 * TL ≤ XL + YL) (h8 : 2 ^ 53 * E1 ≤ SL + TH) (h9 : C ≤ SL + TH + E1)
    (h10 : 2 ^ 53 * VL ≤ S + SL + C) (h11 : 2 ^ 53 * E2 ≤ TL + VL) (h12 : WV ≤ TL + VL + E2) (h13 : S ≤ T + XL + YL) (h14 : S ≤ V + SL + C + VL) :
    2 ^ 103 * (E1 + E2) ≤ T ∧ C + SL ≤ S ∧ WV ≤ V := by omega

/-- The arithmetic of the first case, inexact arm. -/
theorem case1_arith (ST TH TL VL WV E2 V T : Nat) (h1 : TH ≤ 2 * ST) (h2 : 2 ^ 53 * TL ≤ TH) (h3 : 2 ^ 53 * VL ≤ ST) (h4 : 2 ^ 53 * E2 ≤ TL + VL) (h5 : WV ≤ TL + VL + E2)
    (h6 : ST ≤ T + TL) (h7 : ST ≤ V + VL) : 2 ^ 103 * E2 ≤ T ∧ WV ≤ V := by omega

theorem case2a_arith (S XH YH XL YL SL TH TL C E1 : Nat)
    (h1 : YH ≤ S) (h2 : XH ≤ 2 * S) (h3 : 2 ^ 53 * XL ≤ XH) (h4 : 2 ^ 53 * YL ≤ YH) (h5 : 2 ^ 53 * SL ≤ S)
    (h6 : TH ≤ XL + YL + TL) (h7 : 2 ^ 53 * TL ≤ XL + YL) (h8 : 2 ^ 53 * E1 ≤ SL + TH) (h9 : C ≤ SL + TH + E1) : C + SL ≤ S := by omega

theorem dd_add_case2 {xh xl yh yl sh sl th tl c vh vl wv zh zl : Int} (H : AddSteps xh xl yh yl sh sl th tl c vh vl wv zh zl) (h1 : yh.natAbs ≤ (xh + yh).natAbs) :
    zh + zl = vh + wv ∧ 2 ^ 103 * (zh + zl - (xh + xl + (yh + yl))).natAbs ≤ (xh + xl + (yh + yl)).natAbs := by
  obtain ⟨rxh, rxl, ryh, ryl, nx, ny, hsh, hsl, hth, htl, hc, hv, ⟨z1, hz1, hvl⟩, hw, hz, ⟨z2, hz2, hzl⟩⟩ := H
  have lx := lo_small nx
  have ly := lo_small ny
  have a1 := (near_rel1 hsh).1
  have a2 := (near_rel1 hth).1
  have a3 := (near_rel1 hc).1
  have a4 := (near_rel1 hv).1
  have a5 := (near_rel1 hw).1
  have g2 : xh.natAbs ≤ 2 * (xh + yh).natAbs := by have := tri' (xh + yh) yh; rw [show xh + yh - yh = xh by omega] at this; omega
  have g5 : 2 ^ 53 * sl.natAbs ≤ (xh + yh).natAbs := by rw [hsl, ← Int.natAbs_neg, show -(xh + yh - sh) = sh - (xh + yh) by omega]; omega
  have g6 : th.natAbs ≤ xl.natAbs + yl.natAbs + tl.natAbs := by have := tri' (xl + yl) tl; rw [show xl + yl - tl = th by omega] at this; have := tri xl yl; omega
  have g7 : 2 ^ 53 * tl.natAbs ≤ xl.natAbs + yl.natAbs := by rw [htl, ← Int.natAbs_neg, show -(xl + yl - th) = th - (xl + yl) by omega]; have := tri xl yl; omega
  have g8 : 2 ^ 53 * (c - (sl + th)).natAbs ≤ sl.natAbs + th.natAbs := by have := tri sl th; omega
  have g9 : c.natAbs ≤ sl.natAbs + th.natAbs + (c - (sl + th)).natAbs := by have := tri (sl + th) (c - (sl + th)); rw [show sl + th + (c - (sl + th)) = c by omega] at this; have := tri sl th; omega
  have gc := case2a_arith _ _ _ _ _ _ _ _ _ _ h1 g2 lx ly g5 g6 g7 g8 g9
  have gs : (xh + yh).natAbs ≤ sh.natAbs + sl.natAbs := by have := tri sh sl; rwa [show sh + sl = xh + yh by omega] at this
  have rsl : Rep sl := by rw [hsl]; exact rep_err rxh ryh hsh
  have evl : vl = sh + c - vh := fast_exact2 hsh.1 hc.1 hv hz1 hvl (rep_back hsh.1 hc.1 hv (by omega))
  have g10 : 2 ^ 53 * vl.natAbs ≤ (xh + yh).natAbs + sl.natAbs + c.natAbs := by
    rw [evl, ← Int.natAbs_neg, show -(sh + c - vh) = vh - (sh + c) by omega]
    have := tri sh c
    have := tri' (xh + yh) sl
    rw [show xh + yh - sl = sh by omega] at this
    omega
  have g11 : 2 ^ 53 * (wv - (tl + vl)).natAbs ≤ tl.natAbs + vl.natAbs := by have := tri tl vl; omega
  have g12 : wv.natAbs ≤ tl.natAbs + vl.natAbs + (wv - (tl + vl)).natAbs := by have := tri (tl + vl) (wv - (tl + vl)); rw [show tl + vl + (wv - (tl + vl)) = wv by omega] at this; have := tri tl vl; omega
  have g13 : (xh + yh).natAbs ≤ (xh + xl + (yh + yl)).natAbs + xl.natAbs + yl.natAbs := by have := tri' (xh + xl + (yh + yl)) (xl + yl); rw [show xh + xl + (yh + yl) - (xl + yl) = xh + yh by omega] at this; have := tri xl yl; omega
  have g14 : (xh + yh).natAbs ≤ vh.natAbs + sl.natAbs + c.natAbs + vl.natAbs := by
    have := tri' (sh + c) c
    rw [show sh + c - c = sh by omega] at this
    have := tri vh vl
    rw [show vh + vl = sh + c by omega] at this
    omega
  obtain ⟨r1, _, r3⟩ := case2_arith _ _ _ _ _ _ _ _ _ _ _ _ _ _ _ h1 g2 lx ly g5 g6 g7 g8 g9 g10 g11 g12 g13 g14
  have ezl : zl = vh + wv - zh := fast_exact2 hv.1 hw.1 hz hz2 hzl (rep_back hv.1 hw.1 hz r3)
  refine ⟨by omega, ?_⟩
  have e : zh + zl - (xh + xl + (yh + yl)) = (c - (sl + th)) + (wv - (tl + vl)) := by omega
  rw [e]
  have := tri (c - (sl + th)) (wv - (tl + vl))
  generalize (c - (sl + th) + (wv - (tl + vl))).natAbs = A at *
  generalize (c - (sl + th)).natAbs = B at *
  generalize (wv - (tl + vl)).natAbs = D at *
  generalize (xh + xl + (yh + yl)).natAbs = E at *
  clear a1 a2 a3 a4 a5 g2 g5 g6 g7 g8 g9 gc gs g10 g11 g12 g13 g14 r3 lx ly h1
  omega

/-- Great operands are whole at the place of a lower part. -/
theorem whole_of_low {xh xl yh yl t : Int} (rxh : Rep xh) (ryh : Rep yh) (lx : 2 ^ 53 * xl.natAbs ≤ xh.natAbs) (ly : 2 ^ 53 * yl.natAbs ≤ yh.natAbs)
    (h1 : yh.natAbs ≤ xh.natAbs) (h2 : xh.natAbs ≤ 2 * yh.natAbs) (k : Nat) (ht : 2 ^ 52 * 2 ^ k ≤ t.natAbs) (htl : t.natAbs ≤ 2 * (xl.natAbs + yl.natAbs)) :
    (2 : Int) ^ k ∣ xh ∧ (2 : Int) ^ k ∣ yh := by
  constructor
  · refine rep_dvd rxh k ?_
    generalize 2 ^ k = K at *
    omega
  · refine rep_dvd ryh k ?_
    generalize 2 ^ k = K at *
    omega

theorem dd_add_case1 {xh xl yh yl sh sl th tl c vh vl wv zh zl : Int} (H : AddSteps xh xl yh yl sh sl th tl c vh vl wv zh zl) (h0 : yh.natAbs ≤ xh.natAbs) (h1 : (xh + yh).natAbs ≤ yh.natAbs) :
    zh + zl = vh + wv ∧ 2 ^ 103 * (zh + zl - (xh + xl + (yh + yl))).natAbs ≤ (xh + xl + (yh + yl)).natAbs := by
  obtain ⟨rxh, rxl, ryh, ryl, nx, ny, hsh, hsl, hth, htl, hc, hv, ⟨z1, hz1, hvl⟩, hw, hz, ⟨z2, hz2, hzl⟩⟩ := H
  have lx := lo_small nx
  have ly := lo_small ny
  have rS : Rep (xh + yh) := by
    have := rep_sub rxh (rep_neg ryh) (by rw [show xh - -yh = xh + yh by omega]; omega) (by rw [show xh - -yh = xh + yh by omega]; omega)
    rwa [show xh - -yh = xh + yh by omega] at this
  have es := near_exact hsh rS
  have esl : sl = 0 := by omega
  have rtl : Rep tl := by rw [htl]; exact rep_err rxl ryl hth
  have ec : c = th := by rw [esl, Int.zero_add] at hc; exact near_exact hc hth.1
  have hx2 : xh.natAbs ≤ 2 * yh.natAbs := by have := tri' (xh + yh) yh; rw [show xh + yh - yh = xh by omega] at this; omega
  have a2 := (near_rel1 hth).1
  have a2' := (near_rel1 hth).2
  have g7 : 2 ^ 53 * tl.natAbs ≤ xl.natAbs + yl.natAbs := by rw [htl, ← Int.natAbs_neg, show -(xl + yl - th) = th - (xl + yl) by omega]; have := tri xl yl; omega
  have g7' : 2 ^ 53 * tl.natAbs ≤ th.natAbs := by rw [htl, ← Int.natAbs_neg, show -(xl + yl - th) = th - (xl + yl) by omega]; omega
  have g6 : th.natAbs ≤ xl.natAbs + yl.natAbs + tl.natAbs := by have := tri' (xl + yl) tl; rw [show xl + yl - tl = th by omega] at this; have := tri xl yl; omega
  clear a2 a2'
  subst ec
  by_cases hr : Rep (sh + c)
  · obtain ⟨e1, e2⟩ := fast_of_rep hth.1 hv hz1 hvl hr
    have e3 : wv = tl := by rw [e2, Int.add_zero] at hw; exact near_exact hw rtl
    have done : zh + zl = vh + wv → zh + zl = vh + wv ∧ 2 ^ 103 * (zh + zl - (xh + xl + (yh + yl))).natAbs ≤ (xh + xl + (yh + yl)).natAbs := by
      intro h
      refine ⟨h, ?_⟩
      rw [show zh + zl - (xh + xl + (yh + yl)) = 0 by omega]
      simp
    apply done
    by_cases h00 : tl = 0
    · obtain ⟨e4, e5⟩ := fast_of_rep hw.1 hz hz2 hzl (by rw [e3, h00, Int.add_zero]; exact hv.1)
      omega
    · obtain ⟨k, k1, k2, k3⟩ := rep_canon rtl h00
      have hd : (2 : Int) ^ k ∣ vh := by
        rcases k3 with rfl | k3
        · simp
        · obtain ⟨d1, d2⟩ := whole_of_low (t := tl) rxh ryh lx ly h0 hx2 k k3 (by omega)
          have d3 : (2 : Int) ^ k ∣ c := by
            refine rep_dvd hth.1 k ?_
            generalize 2 ^ k = K at *
            omega
          rw [e1, es]
          exact Int.dvd_add (Int.dvd_add d1 d2) d3
      have := fast_exact2 hv.1 hw.1 hz hz2 hzl (rep_back2 hv.1 hw.1 hz k hd (by rw [e3]; exact k1) (by rw [e3]; exact k2))
      omega
  · -- not exact
    have h00 : c ≠ 0 := by
      intro h
      apply hr
      rw [h, Int.add_zero]
      exact hsh.1
    have evl : vl = sh + c - vh := by
      obtain ⟨k, k1, k2, k3⟩ := rep_canon hth.1 h00
      have hd : (2 : Int) ^ k ∣ sh := by
        rcases k3 with rfl | k3
        · simp
        · obtain ⟨d1, d2⟩ := whole_of_low (t := c) rxh ryh lx ly h0 hx2 k k3 (by omega)
          rw [es]
          exact Int.dvd_add d1 d2
      exact fast_exact2 hsh.1 hth.1 hv hz1 hvl (rep_back2 hsh.1 hth.1 hv k hd k1 k2)
    have hbig : c.natAbs ≤ 2 * (sh + c).natAbs := by
      rcases Nat.lt_or_ge c.natAbs (sh + c).natAbs with hh | hh
      · omega
      · rcases Nat.lt_or_ge sh.natAbs (sh + c).natAbs with hh' | hh'
        · have := tri' (sh + c) sh
          rw [show sh + c - sh = c by omega] at this
          omega
        · exfalso
          apply hr
          have := rep_sub hsh.1 (rep_neg hth.1) (by rw [show sh - -c = sh + c by omega]; omega) (by rw [show sh - -c = sh + c by omega]; omega)
          rwa [show sh - -c = sh + c by omega] at this
    have a4 := (near_rel1 hv).1
    have a5 := (near_rel1 hw).1
    have g3 : 2 ^ 53 * vl.natAbs ≤ (sh + c).natAbs := by rw [evl, ← Int.natAbs_neg, show -(sh + c - vh) = vh - (sh + c) by omega]; omega
    have g4 : 2 ^ 53 * (wv - (tl + vl)).natAbs ≤ tl.natAbs + vl.natAbs := by have := tri tl vl; omega
    have g5 : wv.natAbs ≤ tl.natAbs + vl.natAbs + (wv - (tl + vl)).natAbs := by have := tri (tl + vl) (wv - (tl + vl)); rw [show tl + vl + (wv - (tl + vl)) = wv by omega] at this; have := tri tl vl; omega
    have g8 : (sh + c).natAbs ≤ (xh + xl + (yh + yl)).natAbs + tl.natAbs := by have := tri' (xh + xl + (yh + yl)) tl; rw [show xh + xl + (yh + yl) - tl = sh + c by omega] at this; omega
    have g9 : (sh + c).natAbs ≤ vh.natAbs + vl.natAbs := by have := tri vh vl; rw [show vh + vl = sh + c by omega] at this; omega
    obtain ⟨r1, r2⟩ := case1_arith _ _ _ _ _ _ _ _ hbig g7' g3 g4 g5 g8 g9
    have ezl : zl = vh + wv - zh := fast_exact2 hv.1 hw.1 hz hz2 hzl (rep_back hv.1 hw.1 hz r2)
    refine ⟨by omega, ?_⟩
    rw [show zh + zl - (xh + xl + (yh + yl)) = wv - (tl + vl) by omega]
    exact r1

theorem AddSteps.swap {xh xl yh yl sh sl th tl c vh vl wv zh zl : Int} (H : AddSteps xh xl yh yl sh sl th tl c vh vl wv zh zl) : AddSteps yh yl xh xl sh sl th tl c vh vl wv zh zl := by
  obtain ⟨rxh, rxl, ryh, ryl, nx, ny, hsh, hsl, hth, htl, hc, hv, hvl, hw, hz, hzl⟩ := H
  exact ⟨ryh, ryl, rxh, rxl, ny, nx, by rw [Int.add_comm]; exact hsh, by omega, by rw [Int.add_comm]; exact hth, by omega, hc, hv, hvl, hw, hz, hzl⟩

/-- THE SUM OF TWO TWOFOLD NUMBERS: normal, and within 2^-103. -/
theorem dd_add {xh xl yh yl sh sl th tl c vh vl wv zh zl : Int} (H : AddSteps xh xl yh yl sh sl th tl c vh vl wv zh zl) :
    zh + zl = vh + wv ∧ 2 ^ 103 * (zh + zl - (xh + xl + (yh + yl))).natAbs ≤ (xh + xl + (yh + yl)).natAbs := by
  have base : ∀ {xh xl yh yl : Int}, AddSteps xh xl yh yl sh sl th tl c vh vl wv zh zl → yh.natAbs ≤ xh.natAbs →
      zh + zl = vh + wv ∧ 2 ^ 103 * (zh + zl - (xh + xl + (yh + yl))).natAbs ≤ (xh + xl + (yh + yl)).natAbs := by
    intro xh xl yh yl H h0
    rcases Nat.le_total yh.natAbs (xh + yh).natAbs with h | h
    · exact dd_add_case2 H h
    · exact dd_add_case1 H h0 h
  rcases Nat.le_total yh.natAbs xh.natAbs with h | h
  · exact base H h
  · have := base H.swap h
    rwa [show yh + yl + (xh + xl) = xh + xl + (yh + yl) by omega] at this
end Go.Proofs.YgctacDoor.Fp
