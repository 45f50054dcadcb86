/-
  The square root of a twofold number: the law, over whole numbers.
-/
import Derived.Test.YgctacDoorFpI
namespace Go.Proofs.YgctacDoor.Fp
set_option linter.unusedVariables false

structure SqrtSteps (K xh xl s p e d1 d2 rest f zh zl : Int) : Prop where
  nx : Near (xh + xl) 1 xh
  rs : Rep s
  hp : ∃ pp, s * s = pp * K ∧ Near pp 1 p ∧ e = pp - p
  hd1 : Near (xh - p) 1 d1
  hd2 : Near (d1 - e) 1 d2
  hre : Near (d2 + xl) 1 rest
  hf : Near (rest * K * (2 * s).sign) ((2 * s).natAbs : Int) f
  hz : Near (s + f) 1 zh
  hzl : ∃ z, Near (zh - s) 1 z ∧ Near (f - z) 1 zl

theorem sq_a1 {M P g a ek d2 s3 d3 re e5 S F : Nat} (hg : 2 ^ 50 * g ≤ M) (tP : P ≤ M + g) (ha : 2 ^ 53 * a ≤ M) (hek : 2 ^ 53 * ek ≤ P) (h2 : 2 ^ 53 * d2 ≤ g) (t3 : s3 ≤ g + d2 + a) (h3 : 2 ^ 53 * d3 ≤ s3) (tr : re ≤ s3 + d3)
    (h5 : 2 ^ 53 * e5 ≤ re + S) (hS : 2 ^ 200 * S ≤ M) (tF : F ≤ re + e5) :
    2 ^ 103 * d2 ≤ M ∧ 2 ^ 100 * (10 * d3) ≤ 2 * M ∧ 2 ^ 100 * (10 * e5) ≤ 2 * M ∧ 2 ^ 50 * (10 * F) ≤ 12 * M := by
  omega
theorem sq_a2 {M d2 d3 e5 ff err X a : Nat} (h2 : 2 ^ 103 * d2 ≤ M) (h3 : 2 ^ 100 * (10 * d3) ≤ 2 * M) (h5 : 2 ^ 100 * (10 * e5) ≤ 2 * M) (hf : 2 ^ 100 * (10 * ff) ≤ 4 * M) (t : err ≤ d2 + d3 + e5 + ff) (ha : 2 ^ 53 * a ≤ M) (tx : M ≤ X + a) :
    2 ^ 100 * err ≤ X := by
  omega

/-- f² from 2sf. -/
theorem sq_ff {M P F ff : Nat} (hM : 0 < M) (hF : 2 ^ 50 * (10 * F) ≤ 12 * M) (hP : 2 ^ 20 * M ≤ 2 ^ 20 * P + M) (e : F * F = 4 * (P * ff)) : 2 ^ 100 * (10 * ff) ≤ 4 * M := by
  have sq : 2 ^ 50 * (10 * F) * (2 ^ 50 * (10 * F)) ≤ 12 * M * (12 * M) := Nat.mul_le_mul hF hF
  have e1 : 2 ^ 50 * (10 * F) * (2 ^ 50 * (10 * F)) = 2 ^ 100 * 100 * (F * F) := by
    have : (2 : Nat) ^ 100 = 2 ^ 50 * 2 ^ 50 := by decide
    rw [this]
    generalize (2 : Nat) ^ 50 = c
    grind
  rw [e1, e] at sq
  have hP' : (2 ^ 20 - 1) * M ≤ 2 ^ 20 * P := by omega
  have m := Nat.mul_le_mul_right ff hP'
  refine Nat.le_of_mul_le_mul_right (c := M) ?_ hM
  have e2 : 12 * M * (12 * M) = 144 * (M * M) := by grind
  have e3 : (2 ^ 20 - 1) * M * ff = (2 ^ 20 - 1) * (M * ff) := Nat.mul_assoc ..
  have e4 : 2 ^ 20 * P * ff = 2 ^ 20 * (P * ff) := Nat.mul_assoc ..
  have e5 : 2 ^ 100 * (10 * ff) * M = 2 ^ 100 * 10 * (M * ff) := by
    generalize (2 : Nat) ^ 100 = c
    grind
  have e6 : 4 * M * M = 4 * (M * M) := Nat.mul_assoc ..
  rw [e2] at sq
  rw [e3, e4] at m
  rw [e5, e6]
  generalize P * ff = A1 at *
  generalize M * ff = A2 at *
  generalize M * M = A3 at *
  omega

theorem al20 (X P E : Int) : X - (P - E) = -(P - X) + E := by omega
theorem al21 (xh p e d2 K : Int) : (d2 - (xh - p - e)) * K = d2 * K - xh * K + p * K + e * K := by grind
theorem al22 (X P p e d2 xl : Int) (h : p + e = P) : d2 + xl = -(P - X) + (d2 - X + p + e) + xl := by omega
theorem ab3 (a b c : Int) : (-a + b + c).natAbs ≤ a.natAbs + b.natAbs + c.natAbs := by omega
theorem ab2 (a b : Int) : (-a + b).natAbs ≤ a.natAbs + b.natAbs := by omega
theorem ab4 (a b c d : Int) : (a + b + c + d).natAbs ≤ a.natAbs + b.natAbs + c.natAbs + d.natAbs := by omega

set_option maxHeartbeats 1000000 in
theorem dd_sqrt {K xh xl s p e d1 d2 rest f zh zl : Int} (H : SqrtSteps K xh xl s p e d1 d2 rest f zh zl) (hK : 0 < K) (hs0 : 0 < s) (hx0 : 0 < xh) (hs : 2 ^ 50 * (s * s - xh * K).natAbs ≤ (xh * K).natAbs)
    (s1 : 2 ^ 200 * (2 ^ 52 * (2 * s).natAbs) ≤ (xh * K).natAbs) :
    zh + zl = s + f ∧ f.natAbs ≤ s.natAbs ∧ 2 ^ 100 * ((zh + zl) * (zh + zl) - (xh + xl) * K).natAbs ≤ ((xh + xl) * K).natAbs := by
  obtain ⟨nx, rs, ⟨pp, ep, np, ee⟩, hd1, hd2, hre, hf, hz, ⟨z3, hz3, hzl⟩⟩ := H
  have hX0 : 0 < (xh * K).natAbs := Int.natAbs_pos.2 (Int.ne_of_gt (Int.mul_pos hx0 hK))
  have fa : 2 ^ 53 * (xl * K).natAbs ≤ (xh * K).natAbs := rel_scale hK (near_lo nx)
  have fek : 2 ^ 53 * (e * K).natAbs ≤ (s * s).natAbs := by rw [ep]; exact rel_scale hK (near_err1 np ee)
  have tP := ab_from (s * s) (xh * K)
  have tP' := ab_from' (s * s) (xh * K)
  have epk : p * K = s * s - e * K := by rw [ep, ee]; grind
  -- the first difference is exact
  have x4 : Rep (xh - p) := by
    have small : 4 * (xh * K - p * K).natAbs ≤ (xh * K).natAbs := by
      have := ab2 (s * s - xh * K) (e * K)
      rw [← al20, ← epk] at this
      generalize (xh * K - p * K).natAbs = A1 at *
      generalize (s * s - xh * K).natAbs = A2 at *
      generalize (e * K).natAbs = A3 at *
      generalize (s * s).natAbs = A4 at *
      generalize (xh * K).natAbs = A5 at *
      clear epk fa s1 hf
      omega
    refine rep_sub nx.1 np.1 (abs_unscale hK ?_) (abs_unscale hK ?_)
    · rw [Int.sub_mul]; exact (ab_sm small).1
    · rw [Int.sub_mul]; exact (ab_sm small).2
  have ed1 := near_exact hd1 x4
  have e2K : (d1 - e) * K = -(s * s - xh * K) := by
    rw [ed1]
    have : (xh - p - e) * K = xh * K - p * K - e * K := by grind
    rw [this, epk]; omega
  have fd2 : 2 ^ 53 * ((d2 - (d1 - e)) * K).natAbs ≤ (s * s - xh * K).natAbs := by
    have h := rel_scale hK (near_rel1 hd2).1
    rwa [e2K, Int.natAbs_neg] at h
  have es3 : (d2 + xl) * K = -(s * s - xh * K) + (d2 - (d1 - e)) * K + xl * K := by
    rw [Int.add_mul, Int.sub_mul d2, e2K]; omega
  have ts3 : ((d2 + xl) * K).natAbs ≤ (s * s - xh * K).natAbs + ((d2 - (d1 - e)) * K).natAbs + (xl * K).natAbs := by
    rw [es3]; exact ab3 _ _ _
  have fd3 : 2 ^ 53 * ((rest - (d2 + xl)) * K).natAbs ≤ ((d2 + xl) * K).natAbs := rel_scale hK (near_rel1 hre).1
  have tre : (rest * K).natAbs ≤ ((d2 + xl) * K).natAbs + ((rest - (d2 + xl)) * K).natAbs := by rw [Int.sub_mul]; exact ab_from _ _
  have hs2 : 2 * s ≠ 0 := by omega
  have fe5 := quot_out hs2 hf
  have tF : (2 * s * f).natAbs ≤ (rest * K).natAbs + (2 * s * f - rest * K).natAbs := ab_from _ _
  obtain ⟨b1, b2, b3, b4⟩ := sq_a1 hs tP fa fek fd2 ts3 fd3 tre fe5 s1 tF
  have eF : (2 * s * f).natAbs * (2 * s * f).natAbs = 4 * ((s * s).natAbs * (f * f).natAbs) := by
    rw [mulAbs, mulAbs 2, mulAbs s, mulAbs f]
    have : (2 : Int).natAbs = 2 := rfl
    rw [this]
    generalize s.natAbs = u
    generalize f.natAbs = w
    grind
  have bff : 2 ^ 100 * (10 * (f * f).natAbs) ≤ 4 * (xh * K).natAbs := sq_ff hX0 b4 (by
    generalize (xh * K).natAbs = A1 at *
    generalize (s * s).natAbs = A2 at *
    generalize (s * s - xh * K).natAbs = A3 at *
    clear eF fe5 tF epk
    omega) eF
  have x5 : f.natAbs ≤ s.natAbs := by
    have : (f * f).natAbs ≤ (s * s).natAbs := by
      generalize (xh * K).natAbs = A1 at *
      generalize (s * s).natAbs = A2 at *
      generalize (s * s - xh * K).natAbs = A3 at *
      generalize (f * f).natAbs = A4 at *
      clear eF fe5 tF epk b1 b2 b3 b4
      omega
    rw [mulAbs, mulAbs] at this
    exact Nat.mul_self_le_mul_self_iff.1 this
  obtain ⟨_, ezl⟩ := fast_exact rs hf.1 hz x5 hz3 hzl
  have ezz : zh + zl = s + f := by rw [ezl]; exact al11 _ _ _
  refine ⟨ezz, x5, ?_⟩
  have eG : (zh + zl) * (zh + zl) - (xh + xl) * K = (d2 - (d1 - e)) * K + (rest - (d2 + xl)) * K + (2 * s * f - rest * K) + f * f := by
    rw [ezz, Int.sub_mul rest, es3]
    have : (s + f) * (s + f) - (xh + xl) * K = s * s + 2 * s * f + f * f - xh * K - xl * K := by grind
    rw [this]; omega
  refine sq_a2 b1 b2 b3 bff ?_ fa ?_
  · rw [eG]; exact ab4 _ _ _ _
  · rw [Int.add_mul]
    have := ab_sub (xh * K + xl * K) (xl * K)
    rwa [Int.add_sub_cancel] at this
end Go.Proofs.YgctacDoor.Fp
