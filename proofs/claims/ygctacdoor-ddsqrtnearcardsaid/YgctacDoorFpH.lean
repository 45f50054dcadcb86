/-
  The quotient of two twofold numbers: the law, over whole numbers.
-/
import Derived.Test.YgctacDoorFpF
import Derived.Test.YgctacDoorFpG
namespace Go.Proofs.YgctacDoor.Fp
set_option linter.unusedVariables false

/-- The error of rounding, whatever the size: relative, or half a least unit. -/
theorem near_rel' {n d x : Int} (hd : 0 < d) (h : Near n d x) : 2 ^ 53 * ((x * d - n).natAbs : Int) ≤ (n.natAbs : Int) + 2 ^ 52 * d := by
  by_cases hn : 2 ^ 52 * d ≤ (n.natAbs : Int)
  · have := (near_rel hd h hn).1
    omega
  · have := near_half hd h 0 (by simp; omega)
    simp only [Int.pow_zero, Int.one_mul] at this
    omega

/-- The steps of the quotient of two twofold numbers; K = 2^1074. -/
structure DivSteps (K xh xl yh yl q ch cl t dh dl c2 rh rl d1 d2 rest f zh zl : Int) : Prop where
  nx : Near (xh + xl) 1 xh
  ny : Near (yh + yl) 1 yh
  hq : Near (xh * K * yh.sign) (yh.natAbs : Int) q
  hch : ∃ p, yh * q = p * K ∧ Near p 1 ch ∧ cl = p - ch
  ht : Near (yl * q) K t
  hdh : Near (ch + t) 1 dh
  hdl : ∃ z, Near (dh - ch) 1 z ∧ Near (t - z) 1 dl
  hc2 : Near (dl + cl) 1 c2
  hrh : Near (dh + c2) 1 rh
  hrl : ∃ z, Near (rh - dh) 1 z ∧ Near (c2 - z) 1 rl
  hd1 : Near (xh - rh) 1 d1
  hd2 : Near (xl - rl) 1 d2
  hrest : Near (d1 + d2) 1 rest
  hf : Near (rest * K * yh.sign) (yh.natAbs : Int) f
  hz : Near (q + f) 1 zh
  hzl : ∃ z, Near (zh - q) 1 z ∧ Near (f - z) 1 zl

/-- An error and its number, both K times. -/
theorem rel_scale {K : Int} (hK : 0 < K) {a b : Int} (h : 2 ^ 53 * (a.natAbs : Int) ≤ (b.natAbs : Int)) : 2 ^ 53 * (a * K).natAbs ≤ (b * K).natAbs := by
  have h1 := Int.mul_le_mul_of_nonneg_right h (Int.le_of_lt hK)
  rw [Int.mul_assoc, ← mulK hK, ← mulK hK] at h1
  omega

theorem abs_unscale {K : Int} (hK : 0 < K) {a b : Int} (h : (a * K).natAbs ≤ (b * K).natAbs) : a.natAbs ≤ b.natAbs := by
  rw [Int.natAbs_mul, Int.natAbs_mul] at h
  exact Nat.le_of_mul_le_mul_right h (by omega)

/-- A rounded quotient, multiplied out. -/
theorem quot_out {n y q : Int} (h0 : y ≠ 0) (h : Near (n * y.sign) (y.natAbs : Int) q) : 2 ^ 53 * (y * q - n).natAbs ≤ n.natAbs + 2 ^ 52 * y.natAbs := by
  have h1 := near_rel' (by omega) h
  rcases Int.lt_or_gt_of_ne h0 with c | c
  · rw [Int.sign_eq_neg_one_of_neg c] at h1
    have e : (y.natAbs : Int) = -y := by omega
    rw [e] at h1
    have e2 : q * -y - n * -1 = -(y * q - n) := by grind
    rw [e2] at h1
    omega
  · rw [Int.sign_eq_one_of_pos c] at h1
    have e : (y.natAbs : Int) = y := by omega
    rw [e] at h1
    have e2 : q * y - n * 1 = y * q - n := by grind
    rw [e2] at h1
    omega

theorem div_a1 {M S P e1 : Nat} (h1 : 2 ^ 53 * e1 ≤ M + S) (hS : 2 ^ 200 * S ≤ M) (t1 : P ≤ M + e1) (t2 : M ≤ P + e1) :
    2 ^ 73 * e1 ≤ (2 ^ 20 + 1) * M ∧ 2 ^ 20 * P ≤ (2 ^ 20 + 1) * M ∧ (2 ^ 20 - 1) * M ≤ 2 ^ 20 * P := by
  omega
theorem div_a2 {M P S W cl et : Nat} (hP : 2 ^ 20 * P ≤ (2 ^ 20 + 1) * M) (hW : 2 ^ 53 * W ≤ P) (hcl : 2 ^ 53 * cl ≤ P) (het : 2 ^ 53 * et ≤ W + S) (hS : 2 ^ 200 * S ≤ M) :
    2 ^ 73 * W ≤ (2 ^ 20 + 1) * M ∧ 2 ^ 73 * cl ≤ (2 ^ 20 + 1) * M ∧ 2 ^ 126 * et ≤ (2 ^ 20 + 2) * M := by
  omega
theorem div_a3 {M P W cl et ct dl s7 d : Nat} (hP : 2 ^ 20 * P ≤ (2 ^ 20 + 1) * M) (hW : 2 ^ 73 * W ≤ (2 ^ 20 + 1) * M) (hcl : 2 ^ 73 * cl ≤ (2 ^ 20 + 1) * M) (het : 2 ^ 126 * et ≤ (2 ^ 20 + 2) * M)
    (t1 : ct ≤ P + cl + W + et) (h1 : 2 ^ 53 * dl ≤ ct) (t2 : s7 ≤ dl + cl) (h2 : 2 ^ 53 * d ≤ s7) :
    2 ^ 73 * dl ≤ (2 ^ 20 + 2) * M ∧ 2 ^ 73 * s7 ≤ (2 ^ 21 + 3) * M ∧ 2 ^ 126 * d ≤ (2 ^ 21 + 3) * M := by
  omega
theorem div_a4 {M P W et d dc rl a s10 d2 : Nat} (hP : 2 ^ 20 * P ≤ (2 ^ 20 + 1) * M) (hW : 2 ^ 73 * W ≤ (2 ^ 20 + 1) * M) (het : 2 ^ 126 * et ≤ (2 ^ 20 + 2) * M) (hd : 2 ^ 126 * d ≤ (2 ^ 21 + 3) * M)
    (t1 : dc ≤ P + W + et + d) (h1 : 2 ^ 53 * rl ≤ dc) (ha : 2 ^ 53 * a ≤ M) (t2 : s10 ≤ a + rl) (h2 : 2 ^ 53 * d2 ≤ s10) :
    2 ^ 73 * rl ≤ (2 ^ 20 + 2) * M ∧ 2 ^ 126 * d2 ≤ (2 ^ 21 + 2) * M := by
  omega
theorem div_a5 {M S e1 a W et d d2 s11 d3 rest e5 fy fl : Nat} (he1 : 2 ^ 73 * e1 ≤ (2 ^ 20 + 1) * M) (ha : 2 ^ 53 * a ≤ M) (hW : 2 ^ 73 * W ≤ (2 ^ 20 + 1) * M) (het : 2 ^ 126 * et ≤ (2 ^ 20 + 2) * M) (hd : 2 ^ 126 * d ≤ (2 ^ 21 + 3) * M) (hd2 : 2 ^ 126 * d2 ≤ (2 ^ 21 + 2) * M)
    (t1 : s11 ≤ e1 + a + W + et + d + d2) (h1 : 2 ^ 53 * d3 ≤ s11) (t2 : rest ≤ s11 + d3) (h2 : 2 ^ 53 * e5 ≤ rest + S) (hS : 2 ^ 200 * S ≤ M) (t3 : fy ≤ rest + e5) (h3 : 2 ^ 53 * fl ≤ fy) :
    2 ^ 126 * d3 ≤ (3 * 2 ^ 20 + 10) * M ∧ 2 ^ 126 * e5 ≤ (3 * 2 ^ 20 + 12) * M ∧ 2 ^ 73 * fy ≤ (3 * 2 ^ 20 + 13) * M ∧ 2 ^ 126 * fl ≤ (3 * 2 ^ 20 + 13) * M := by
  omega
theorem div_a6 {M a et d d2 d3 e5 fl err X : Nat} (ha : 2 ^ 53 * a ≤ M) (het : 2 ^ 126 * et ≤ (2 ^ 20 + 2) * M) (hd : 2 ^ 126 * d ≤ (2 ^ 21 + 3) * M) (hd2 : 2 ^ 126 * d2 ≤ (2 ^ 21 + 2) * M) (hd3 : 2 ^ 126 * d3 ≤ (3 * 2 ^ 20 + 10) * M) (he5 : 2 ^ 126 * e5 ≤ (3 * 2 ^ 20 + 12) * M) (hfl : 2 ^ 126 * fl ≤ (3 * 2 ^ 20 + 13) * M)
    (t : err ≤ et + d + d2 + d3 + e5 + fl) (tx : M ≤ X + a) : 2 ^ 102 * err ≤ X := by
  omega

theorem sub_out (a b c K : Int) : (a + b - c) * K = a * K + b * K - c * K := by grind
theorem al1 (P cl dh tk W : Int) : P = dh + (P - cl + tk - dh) + cl - W - (tk - W) := by omega
theorem al2 (P cl tk W dh c2 : Int) : dh + c2 = P + W + (tk - W) + (c2 - (P - cl) - tk + dh - cl) := by omega
theorem al3 (c2 ch t dh cl K : Int) : (c2 - (ch + t - dh + cl)) * K = c2 * K - ch * K - t * K + dh * K - cl * K := by grind
theorem al4 (X P W E D R d2 xl : Int) : X - (P + W + E + D - R) + d2 = -(P - X) + xl - W - E - D + (d2 - xl + R) := by omega
theorem al5 (d2 xl rl K : Int) : (d2 - (xl - rl)) * K = d2 * K - xl * K + rl * K := by grind
theorem al6 (xh rh d2 K : Int) : (xh - rh + d2) * K = xh * K - rh * K + d2 * K := by grind
theorem al7 (q f yh yl xh xl K : Int) : (q + f) * (yh + yl) - (xh + xl) * K = (yh * q - xh * K) + yl * q + yh * f + yl * f - xl * K := by grind
theorem al8 (A W F L xl E D G R : Int) : A + W + F + L - xl = -E - D + G + (R - (-A + xl - W - E - D + G)) + (F - R) + L := by omega
theorem al9 (dh c2 rh K : Int) : rh * K = (dh + c2) * K - (dh + c2 - rh) * K := by grind
theorem al10 (P cl t K W : Int) : P - cl + t = P - cl + W + (t - W) := by omega
theorem al11 (a b z : Int) : z + (a + b - z) = a + b := by omega
theorem near_err1 {n x e : Int} (h : Near n 1 x) (he : e = n - x) : 2 ^ 53 * (e.natAbs : Int) ≤ (n.natAbs : Int) := by have := (near_rel1 h).1; omega
theorem near_lo {xh xl : Int} (h : Near (xh + xl) 1 xh) : 2 ^ 53 * (xl.natAbs : Int) ≤ (xh.natAbs : Int) := by have := (near_rel1 h).2; omega
theorem near_loN {xh xl : Int} (h : Near (xh + xl) 1 xh) : 2 ^ 53 * xl.natAbs ≤ xh.natAbs := by have := (near_rel1 h).2; omega
theorem relN {n d x : Int} (hd : 0 < d) (h : Near n d x) : 2 ^ 53 * (x * d - n).natAbs ≤ n.natAbs + 2 ^ 52 * d.natAbs := by have := near_rel' hd h; omega
theorem mulAbs (a b : Int) : (a * b).natAbs = a.natAbs * b.natAbs := Int.natAbs_mul ..
theorem ab_add (a b : Int) : (a + b).natAbs ≤ a.natAbs + b.natAbs := by omega
theorem ab_from (a b : Int) : a.natAbs ≤ b.natAbs + (a - b).natAbs := by omega
theorem ab_from' (a b : Int) : b.natAbs ≤ a.natAbs + (a - b).natAbs := by omega
theorem ab_sub (a b : Int) : (a - b).natAbs ≤ a.natAbs + b.natAbs := by omega
theorem ab_five (a b c d e : Int) : (a + b + c - d - e).natAbs ≤ a.natAbs + b.natAbs + c.natAbs + d.natAbs + e.natAbs := by omega
theorem ab_x3 {x y a b c d : Int} : (x - (y + a + b + c - d)).natAbs ≤ (y - x).natAbs + a.natAbs + b.natAbs + c.natAbs + d.natAbs := by omega
theorem ab_s11 (a b c d e g : Int) : (-a + b - c - d - e + g).natAbs ≤ a.natAbs + b.natAbs + c.natAbs + d.natAbs + e.natAbs + g.natAbs := by omega
theorem ab_g (a b c d e g : Int) : (-a - b + c + d + e + g).natAbs ≤ a.natAbs + b.natAbs + c.natAbs + d.natAbs + e.natAbs + g.natAbs := by omega
theorem ab_sm {x r : Int} (h : 4 * (x - r).natAbs ≤ x.natAbs) : (x - r).natAbs ≤ x.natAbs ∧ (x - r).natAbs ≤ r.natAbs := by omega
theorem sub4 (a b c d : Int) : (a - b + c + d).natAbs ≤ a.natAbs + b.natAbs + c.natAbs + d.natAbs := by omega
theorem add4 (a b c d : Int) : (a + b + c + d).natAbs ≤ a.natAbs + b.natAbs + c.natAbs + d.natAbs := by omega

set_option maxHeartbeats 1000000 in
theorem dd_div {K xh xl yh yl q ch cl t dh dl c2 rh rl d1 d2 rest f zh zl : Int} (H : DivSteps K xh xl yh yl q ch cl t dh dl c2 rh rl d1 d2 rest f zh zl) (hK : 0 < K) (hy : yh ≠ 0)
    (s1 : 2 ^ 200 * (2 ^ 52 * yh.natAbs) ≤ (xh * K).natAbs) (s2 : 2 ^ 200 * (2 ^ 52 * K.natAbs) ≤ (xh * K).natAbs) :
    zh + zl = q + f ∧ 2 ^ 102 * ((zh + zl) * (yh + yl) - (xh + xl) * K).natAbs ≤ ((xh + xl) * K).natAbs := by
  obtain ⟨nx, ny, hq, ⟨p, ep, np, ecl⟩, ht, hdh, ⟨z1, hz1, hdl⟩, hc2, hrh, ⟨z2, hz2, hrl⟩, hd1, hd2, hrest, hf, hz, ⟨z3, hz3, hzl⟩⟩ := H
  have hx0 : 0 < (xh * K).natAbs := by omega
  -- the sizes
  have f1 := quot_out hy hq
  have fa : 2 ^ 53 * (xl * K).natAbs ≤ (xh * K).natAbs := rel_scale hK (near_lo nx)
  have fW : 2 ^ 53 * (yl * q).natAbs ≤ (yh * q).natAbs := by
    rw [mulAbs, mulAbs, ← Nat.mul_assoc]
    exact Nat.mul_le_mul_right _ (near_loN ny)
  have fcl : 2 ^ 53 * (cl * K).natAbs ≤ (yh * q).natAbs := by
    rw [ep]
    exact rel_scale hK (near_err1 np ecl)
  have fet : 2 ^ 53 * (t * K - yl * q).natAbs ≤ (yl * q).natAbs + 2 ^ 52 * K.natAbs := relN hK ht
  obtain ⟨b1, b2, b3⟩ := div_a1 (P := (yh * q).natAbs) f1 s1 (ab_from _ _) (ab_from' _ _)
  obtain ⟨b4, b5, b6⟩ := div_a2 b2 fW fcl fet s2
  have ech : ch * K = yh * q - cl * K := by rw [ep, ecl]; grind
  -- the first fast sum
  have x1 : t.natAbs ≤ ch.natAbs := by
    refine abs_unscale hK ?_
    have u1 : (t * K).natAbs ≤ (yl * q).natAbs + (t * K - yl * q).natAbs := ab_from _ _
    have u2 : (yh * q).natAbs ≤ (ch * K).natAbs + (cl * K).natAbs := by
      have := ab_add (ch * K) (cl * K)
      rwa [show ch * K + cl * K = yh * q by rw [ech]; exact Int.sub_add_cancel ..] at this
    generalize (t * K).natAbs = A1 at *
    generalize (yl * q).natAbs = A2 at *
    generalize (t * K - yl * q).natAbs = A3 at *
    generalize (ch * K).natAbs = A4 at *
    generalize (cl * K).natAbs = A5 at *
    generalize (yh * q).natAbs = A6 at *
    generalize (xh * K).natAbs = A7 at *
    clear f1 fa fW fcl fet s1 s2 b1 hx0 ech
    omega
  obtain ⟨_, edl⟩ := fast_exact np.1 ht.1 hdh x1 hz1 hdl
  have fdl : 2 ^ 53 * (dl * K).natAbs ≤ ((ch + t) * K).natAbs := rel_scale hK (near_err1 hdh edl)
  have tct : ((ch + t) * K).natAbs ≤ (yh * q).natAbs + (cl * K).natAbs + (yl * q).natAbs + (t * K - yl * q).natAbs := by
    have e : (ch + t) * K = yh * q - cl * K + yl * q + (t * K - yl * q) := by rw [Int.add_mul, ech]; exact al10 _ _ _ K _
    rw [e]; exact sub4 ..
  have ts7 : ((dl + cl) * K).natAbs ≤ (dl * K).natAbs + (cl * K).natAbs := by rw [Int.add_mul]; exact ab_add _ _
  have fd : 2 ^ 53 * ((c2 - (dl + cl)) * K).natAbs ≤ ((dl + cl) * K).natAbs := rel_scale hK (near_rel1 hc2).1
  obtain ⟨b7, b8, b9⟩ := div_a3 b2 b4 b5 b6 tct fdl ts7 fd
  -- the second fast sum
  have x2 : c2.natAbs ≤ dh.natAbs := by
    refine abs_unscale hK ?_
    have u1 : (c2 * K).natAbs ≤ ((dl + cl) * K).natAbs + ((c2 - (dl + cl)) * K).natAbs := by
      rw [Int.sub_mul]; exact ab_from _ _
    have u2 : (yh * q).natAbs ≤ (dh * K).natAbs + (dl * K).natAbs + (cl * K).natAbs + (yl * q).natAbs + (t * K - yl * q).natAbs := by
      have e : yh * q = dh * K + dl * K + cl * K - yl * q - (t * K - yl * q) := by
        rw [edl]
        have : (ch + t - dh) * K = ch * K + t * K - dh * K := sub_out ..
        rw [this, ech]; exact al1 _ _ _ _ _
      have h5 := ab_five (dh * K) (dl * K) (cl * K) (yl * q) (t * K - yl * q)
      rwa [← e] at h5
    generalize (c2 * K).natAbs = A1 at *
    generalize ((dl + cl) * K).natAbs = A2 at *
    generalize ((c2 - (dl + cl)) * K).natAbs = A3 at *
    generalize (dh * K).natAbs = A4 at *
    generalize (dl * K).natAbs = A5 at *
    generalize (cl * K).natAbs = A6 at *
    generalize (yl * q).natAbs = A7 at *
    generalize (t * K - yl * q).natAbs = A8 at *
    generalize (yh * q).natAbs = A9 at *
    generalize (xh * K).natAbs = A10 at *
    clear f1 fa fW fcl fet s1 s2 b1 hx0 ech tct fdl ts7 fd
    omega
  obtain ⟨_, erl⟩ := fast_exact hdh.1 hc2.1 hrh x2 hz2 hrl
  -- what is subtracted: dh + c2 = yh*q + t + error
  have eR : (dh + c2) * K = yh * q + yl * q + (t * K - yl * q) + (c2 - (dl + cl)) * K := by
    rw [edl]
    rw [al3, ech, Int.add_mul]; exact al2 _ _ _ _ _ _
  have tdc : ((dh + c2) * K).natAbs ≤ (yh * q).natAbs + (yl * q).natAbs + (t * K - yl * q).natAbs + ((c2 - (dl + cl)) * K).natAbs := by rw [eR]; exact add4 ..
  have frl : 2 ^ 53 * (rl * K).natAbs ≤ ((dh + c2) * K).natAbs := rel_scale hK (near_err1 hrh erl)
  have ts10 : ((xl - rl) * K).natAbs ≤ (xl * K).natAbs + (rl * K).natAbs := by rw [Int.sub_mul]; exact ab_sub _ _
  have fd2 : 2 ^ 53 * ((d2 - (xl - rl)) * K).natAbs ≤ ((xl - rl) * K).natAbs := rel_scale hK (near_rel1 hd2).1
  obtain ⟨b10, b11⟩ := div_a4 b2 b4 b6 b9 tdc frl fa ts10 fd2
  -- the first difference is exact
  have erh : rh * K = (dh + c2) * K - rl * K := by rw [erl]; exact al9 ..
  have x3 : (xh * K - rh * K).natAbs ≤ (yh * q - xh * K).natAbs + (yl * q).natAbs + (t * K - yl * q).natAbs + ((c2 - (dl + cl)) * K).natAbs + (rl * K).natAbs := by
    rw [erh, eR]; exact ab_x3
  have x4 : Rep (xh - rh) := by
    have small : 4 * (xh * K - rh * K).natAbs ≤ (xh * K).natAbs := by
      generalize (xh * K - rh * K).natAbs = A1 at *
      generalize (yh * q - xh * K).natAbs = A2 at *
      generalize (yl * q).natAbs = A3 at *
      generalize (t * K - yl * q).natAbs = A4 at *
      generalize ((c2 - (dl + cl)) * K).natAbs = A5 at *
      generalize (rl * K).natAbs = A6 at *
      generalize (xh * K).natAbs = A7 at *
      clear f1 fa fW fcl fet s1 s2 hx0 ech tct fdl ts7 fd tdc frl ts10 fd2 eR erh
      omega
    refine rep_sub nx.1 hrh.1 (abs_unscale hK ?_) (abs_unscale hK ?_)
    · rw [Int.sub_mul]; exact (ab_sm small).1
    · rw [Int.sub_mul]; exact (ab_sm small).2
  have ed1 := near_exact hd1 x4
  have es11 : (d1 + d2) * K = -(yh * q - xh * K) + xl * K - yl * q - (t * K - yl * q) - (c2 - (dl + cl)) * K + (d2 - (xl - rl)) * K := by
    rw [ed1, al6, erh, eR, al5]; exact al4 _ _ _ _ _ _ _ _
  have ts11 : ((d1 + d2) * K).natAbs ≤ (yh * q - xh * K).natAbs + (xl * K).natAbs + (yl * q).natAbs + (t * K - yl * q).natAbs + ((c2 - (dl + cl)) * K).natAbs + ((d2 - (xl - rl)) * K).natAbs := by
    rw [es11]; exact ab_s11 _ _ _ _ _ _
  have fd3 : 2 ^ 53 * ((rest - (d1 + d2)) * K).natAbs ≤ ((d1 + d2) * K).natAbs := rel_scale hK (near_rel1 hrest).1
  have tre : (rest * K).natAbs ≤ ((d1 + d2) * K).natAbs + ((rest - (d1 + d2)) * K).natAbs := by rw [Int.sub_mul]; exact ab_from _ _
  have fe5 := quot_out hy hf
  have tfy : (yh * f).natAbs ≤ (rest * K).natAbs + (yh * f - rest * K).natAbs := ab_from _ _
  have ffl : 2 ^ 53 * (yl * f).natAbs ≤ (yh * f).natAbs := by
    rw [mulAbs, mulAbs, ← Nat.mul_assoc]
    exact Nat.mul_le_mul_right _ (near_loN ny)
  obtain ⟨b12, b13, b14, b15⟩ := div_a5 b1 fa b4 b6 b9 b11 ts11 fd3 tre fe5 s1 tfy ffl
  -- the last fast sum
  have x5 : f.natAbs ≤ q.natAbs := by
    have : (yh * f).natAbs ≤ (yh * q).natAbs := by
      generalize (yh * f).natAbs = A1 at *
      generalize (yh * q).natAbs = A2 at *
      generalize (xh * K).natAbs = A3 at *
      clear f1 fa fW fcl fet s1 s2 ech tct fdl ts7 fd tdc frl ts10 fd2 eR erh x3 es11 ts11 fd3 tre fe5 tfy ffl
      omega
    rw [mulAbs, mulAbs] at this
    exact Nat.le_of_mul_le_mul_left this (Int.natAbs_pos.2 hy)
  obtain ⟨_, ezl⟩ := fast_exact hq.1 hf.1 hz x5 hz3 hzl
  have ezz : zh + zl = q + f := by rw [ezl]; exact al11 _ _ _
  refine ⟨ezz, ?_⟩
  have eG : (zh + zl) * (yh + yl) - (xh + xl) * K = -(t * K - yl * q) - (c2 - (dl + cl)) * K + (d2 - (xl - rl)) * K + (rest - (d1 + d2)) * K + (yh * f - rest * K) + yl * f := by
    rw [ezz]
    rw [al7, Int.sub_mul rest, es11]; exact al8 _ _ _ _ _ _ _ _ _
  have tE : ((zh + zl) * (yh + yl) - (xh + xl) * K).natAbs ≤ (t * K - yl * q).natAbs + ((c2 - (dl + cl)) * K).natAbs + ((d2 - (xl - rl)) * K).natAbs + ((rest - (d1 + d2)) * K).natAbs + (yh * f - rest * K).natAbs + (yl * f).natAbs := by
    rw [eG]; exact ab_g _ _ _ _ _ _
  exact div_a6 fa b6 b9 b11 b12 b13 b15 tE (by
    rw [Int.add_mul]
    have := ab_sub (xh * K + xl * K) (xl * K)
    rwa [Int.add_sub_cancel] at this)
end Go.Proofs.YgctacDoor.Fp
