import Derived.Test.YgctacDoorFpD
namespace Go.Proofs.YgctacDoor.Fp

theorem near_scale {n d x : Int} (hd : 0 < d) (h : Near (n * d) d x) : Near n 1 x := by
  refine ⟨h.1, fun f hf => ?_⟩
  have := h.2 f hf
  rw [← Int.sub_mul, ← Int.sub_mul, Int.natAbs_mul, Int.natAbs_mul] at this
  have := Nat.le_of_mul_le_mul_right this (by omega)
  simpa using this

theorem near_unscale {n d x : Int} (h : Near n 1 x) : Near (n * d) d x := by
  refine ⟨h.1, fun f hf => ?_⟩
  have := h.2 f hf
  rw [← Int.sub_mul, ← Int.sub_mul, Int.natAbs_mul, Int.natAbs_mul]
  exact Nat.mul_le_mul_right _ (by simpa using this)

/-- A normal number: 53 digits at its place. -/
def Norm (a A : Int) (i : Nat) : Prop := a = A * 2 ^ i ∧ 2 ^ 52 ≤ A.natAbs ∧ A.natAbs < 2 ^ 53

theorem norm_of {a : Int} (h : Rep a) (h0 : 2 ^ 52 ≤ a.natAbs) : ∃ A i, Norm a A i := by
  obtain ⟨e, ⟨c, hc⟩, h2, h3⟩ := rep_canon h (by intro h; subst h; simp at h0)
  have hn : a.natAbs = c.natAbs * 2 ^ e := by rw [hc, Int.mul_comm, natAbs_mul_p2]
  refine ⟨c, e, by rw [hc, Int.mul_comm], ?_, ?_⟩
  · rcases h3 with rfl | h3
    · simp at hn; omega
    · rw [hn] at h3
      exact Nat.le_of_mul_le_mul_right h3 (Nat.two_pow_pos e)
  · rw [hn] at h2
    exact Nat.lt_of_mul_lt_mul_right h2

/-- Veltkamp's split. -/
theorem split_exact {a A : Int} {i : Nat} (ha : Norm a A i) {c d hi lo : Int} (hc : Near (134217729 * a) 1 c) (hd : Near (c - a) 1 d) (hhi : Near (c - d) 1 hi) (hlo : Near (a - hi) 1 lo) :
    ∃ H L : Int, hi = H * 2 ^ 27 * 2 ^ i ∧ lo = L * 2 ^ i ∧ H.natAbs ≤ 2 ^ 26 ∧ L.natAbs ≤ 2 ^ 26 ∧ H * 2 ^ 27 + L = A := by
  obtain ⟨ea, a1, a2⟩ := ha
  have hT := p2pos i
  have hcast := natp2_cast i
  have e27 : (2 : Int) ^ (27 + i) = 2 ^ 27 * 2 ^ i := by rw [Int.pow_add]
  have e28 : (2 : Int) ^ (28 + i) = 2 ^ 28 * 2 ^ i := by rw [Int.pow_add]
  have absA : ((a.natAbs : Nat) : Int) = (A.natAbs : Int) * 2 ^ i := by rw [ea, natAbs_mul_p2, Int.natCast_mul, natp2_cast]
  have lowA : 2 ^ 52 * 2 ^ i ≤ (a.natAbs : Int) := by rw [absA]; exact Int.mul_le_mul_of_nonneg_right (by omega) (by omega)
  have highA : (a.natAbs : Int) ≤ (2 ^ 53 - 1) * 2 ^ i := by rw [absA]; exact Int.mul_le_mul_of_nonneg_right (by omega) (by omega)
  rw [Int.sub_mul] at highA
  have n1 : ((134217729 * a).natAbs : Int) = 134217729 * (a.natAbs : Int) := by rw [Int.natAbs_mul, Int.natCast_mul]; rfl
  have u1 := near_up (by omega) hc (27 + i) (by rw [e27, n1]; omega)
  have v1 := near_half (by omega) hc (28 + i) (by rw [e28, n1]; omega)
  rw [e28] at v1
  have n2 : 2 ^ 79 * 2 ^ i ≤ ((c - a).natAbs : Int) := by
    by_cases hA : A.natAbs = 2 ^ 52
    · have ex : c = 134217729 * a := by
        refine near_exact hc ?_
        rw [ea, ← Int.mul_assoc]
        have : A = 2 ^ 52 ∨ A = -2 ^ 52 := by omega
        rcases this with h | h
        · have e : 134217729 * A * 2 ^ i = 134217729 * 2 ^ (52 + i) := by rw [h, Int.pow_add]; grind
          rw [e]; exact rep_mul _ _ (by decide)
        · have e : 134217729 * A * 2 ^ i = -134217729 * 2 ^ (52 + i) := by rw [h, Int.pow_add]; grind
          rw [e]; exact rep_mul _ _ (by decide)
      have : (c - a).natAbs = 134217728 * a.natAbs := by
        rw [ex, show 134217729 * a - a = 134217728 * a by omega, Int.natAbs_mul]; rfl
      omega
    · have : (2 ^ 52 + 1) * 2 ^ i ≤ (a.natAbs : Int) := by rw [absA]; exact Int.mul_le_mul_of_nonneg_right (by omega) (by omega)
      rw [Int.add_mul] at this
      omega
  have n3 : ((c - a).natAbs : Int) ≤ 2 ^ 80 * 2 ^ i := by omega
  have u2 := near_up (by omega) hd (27 + i) (by rw [e27]; omega)
  have v2 := near_half (by omega) hd (27 + i) (by rw [e27]; omega)
  rw [e27] at v2 u1 u2
  obtain ⟨H, hH⟩ := Int.dvd_sub u1 u2
  have sz : ((c - d).natAbs : Int) < 2 ^ 53 * 2 ^ i + 2 ^ 26 * 2 ^ i := by omega
  have absH : ((c - d).natAbs : Int) = (H.natAbs : Int) * (2 ^ 27 * 2 ^ i) := by
    rw [hH, Int.natAbs_mul, Int.natAbs_mul, Int.natAbs_pow, Int.natAbs_pow, Int.natCast_mul, Int.natCast_mul, Int.natCast_pow, Int.natCast_pow, Int.mul_comm]; rfl
  have hHb : H.natAbs ≤ 2 ^ 26 := by
    rcases Nat.lt_or_ge (2 ^ 26) H.natAbs with h | h
    · have : (2 ^ 26 + 1) * (2 ^ 27 * 2 ^ i) ≤ (H.natAbs : Int) * (2 ^ 27 * 2 ^ i) := Int.mul_le_mul_of_nonneg_right (by omega) (by omega)
      rw [Int.add_mul] at this
      omega
    · exact h
  have ehi : hi = c - d := by
    refine near_exact hhi ?_
    rw [hH, Int.mul_comm, ← e27]
    exact rep_mul H _ (by omega)
  have hhi2 : hi = H * 2 ^ 27 * 2 ^ i := by rw [ehi, hH, Int.mul_comm, ← Int.mul_assoc]
  have elo' : a - hi = (A - H * 2 ^ 27) * 2 ^ i := by rw [hhi2, ea, Int.sub_mul]
  have absL : ((a - hi).natAbs : Int) ≤ 2 ^ 26 * 2 ^ i := by omega
  have hLb : (A - H * 2 ^ 27).natAbs ≤ 2 ^ 26 := by
    have e : ((a - hi).natAbs : Int) = ((A - H * 2 ^ 27).natAbs : Int) * 2 ^ i := by rw [elo', natAbs_mul_p2, Int.natCast_mul, natp2_cast]
    rw [e] at absL
    have := Int.le_of_mul_le_mul_right absL hT
    omega
  have elo : lo = a - hi := by
    refine near_exact hlo ?_
    rw [elo']
    exact rep_mul _ _ (by omega)
  exact ⟨H, A - H * 2 ^ 27, hhi2, by rw [elo, elo'], hHb, hLb, by omega⟩

/-- Dekker's product: the error is exact. Everything in whole units of the product's place. -/
theorem prod_exact {A B Ha La Hb Lb p q1 q2 q3 q4 t1 t2 t3 t4 : Int} {s : Nat} (hA : A = Ha * 2 ^ 27 + La) (hB : B = Hb * 2 ^ 27 + Lb)
    (a1 : Ha.natAbs ≤ 2 ^ 26) (a2 : La.natAbs ≤ 2 ^ 26) (b1 : Hb.natAbs ≤ 2 ^ 26) (b2 : Lb.natAbs ≤ 2 ^ 26)
    (hA1 : 2 ^ 52 ≤ A.natAbs) (hA2 : A.natAbs < 2 ^ 53) (hB1 : 2 ^ 52 ≤ B.natAbs) (hB2 : B.natAbs < 2 ^ 53)
    (hp : Near (A * B * 2 ^ s) 1 p) (h1 : Near (Ha * Hb * 2 ^ 54 * 2 ^ s) 1 q1) (h2 : Near (Ha * Lb * 2 ^ 27 * 2 ^ s) 1 q2) (h3 : Near (La * Hb * 2 ^ 27 * 2 ^ s) 1 q3) (h4 : Near (La * Lb * 2 ^ s) 1 q4)
    (k1 : Near (q1 - p) 1 t1) (k2 : Near (t1 + q2) 1 t2) (k3 : Near (t2 + q3) 1 t3) (k4 : Near (t3 + q4) 1 t4) : t4 = A * B * 2 ^ s - p := by
  have hS := p2pos s
  have hcast := natp2_cast s
  have prod : ∀ {x y : Int} {m n : Nat}, x.natAbs ≤ m → y.natAbs ≤ n → (x * y).natAbs ≤ m * n := by
    intro x y m n hx hy
    rw [Int.natAbs_mul]
    exact Nat.mul_le_mul hx hy
  have c1 := prod a1 b1
  have c2 := prod a1 b2
  have c3 := prod a2 b1
  have c4 := prod a2 b2
  have ab1 : 2 ^ 52 * 2 ^ 52 ≤ (A * B).natAbs := by rw [Int.natAbs_mul]; exact Nat.mul_le_mul hA1 hB1
  have ab2 := prod (Nat.le_of_lt hA2) (Nat.le_of_lt hB2)
  have eAB : A * B = Ha * Hb * 2 ^ 54 + Ha * Lb * 2 ^ 27 + La * Hb * 2 ^ 27 + La * Lb := by rw [hA, hB]; grind
  have e1 : q1 = Ha * Hb * 2 ^ 54 * 2 ^ s := by
    refine near_exact h1 ?_
    rw [Int.mul_assoc, ← Int.pow_add]
    exact rep_mul _ _ (by omega)
  have e2 : q2 = Ha * Lb * 2 ^ 27 * 2 ^ s := by
    refine near_exact h2 ?_
    rw [Int.mul_assoc, ← Int.pow_add]
    exact rep_mul _ _ (by omega)
  have e3 : q3 = La * Hb * 2 ^ 27 * 2 ^ s := by
    refine near_exact h3 ?_
    rw [Int.mul_assoc, ← Int.pow_add]
    exact rep_mul _ _ (by omega)
  have e4 : q4 = La * Lb * 2 ^ s := near_exact h4 (rep_mul _ _ (by omega))
  have absP : ((A * B * 2 ^ s).natAbs : Int) = ((A * B).natAbs : Int) * 2 ^ s := by rw [natAbs_mul_p2, Int.natCast_mul, natp2_cast]
  have p1 : 2 ^ 104 * 2 ^ s ≤ ((A * B * 2 ^ s).natAbs : Int) := by rw [absP]; exact Int.mul_le_mul_of_nonneg_right (by omega) (by omega)
  have p2 : ((A * B * 2 ^ s).natAbs : Int) ≤ 2 ^ 106 * 2 ^ s := by rw [absP]; exact Int.mul_le_mul_of_nonneg_right (by omega) (by omega)
  have e52 : (2 : Int) ^ (52 + s) = 2 ^ 52 * 2 ^ s := by rw [Int.pow_add]
  have e53 : (2 : Int) ^ (53 + s) = 2 ^ 53 * 2 ^ s := by rw [Int.pow_add]
  have u := near_up (by omega) hp (52 + s) (by rw [e52]; omega)
  have v := near_half (by omega) hp (53 + s) (by rw [e53]; omega)
  rw [e53] at v
  obtain ⟨g, hg⟩ := u
  rw [e52] at hg
  -- whole units
  have dS : ∀ (x : Int) (m : Nat), x.natAbs ≤ m → ((x * 2 ^ s).natAbs : Int) ≤ (m : Int) * 2 ^ s := by
    intro x m hx
    rw [natAbs_mul_p2, Int.natCast_mul, natp2_cast]
    exact Int.mul_le_mul_of_nonneg_right (by omega) (by omega)
  have f2 := dS (Ha * Lb * 2 ^ 27) (2 ^ 26 * 2 ^ 26 * 2 ^ 27) (by rw [Int.natAbs_mul]; exact Nat.mul_le_mul c2 (by decide))
  have f3 := dS (La * Hb * 2 ^ 27) (2 ^ 26 * 2 ^ 26 * 2 ^ 27) (by rw [Int.natAbs_mul]; exact Nat.mul_le_mul c3 (by decide))
  have f4 := dS (La * Lb) (2 ^ 26 * 2 ^ 26) c4
  have eP : A * B * 2 ^ s = Ha * Hb * 2 ^ 54 * 2 ^ s + Ha * Lb * 2 ^ 27 * 2 ^ s + La * Hb * 2 ^ 27 * 2 ^ s + La * Lb * 2 ^ s := by rw [eAB]; grind
  have x1 : t1 = q1 - p := by
    refine near_exact k1 (rep_of_dvd (52 + s) ?_ ?_)
    · rw [e1, hg, e52]
      exact ⟨Ha * Hb * 4 - g, by grind⟩
    · rw [Nat.pow_add]
      rw [eP] at v
      rw [e1]
      generalize Ha * Hb * 2 ^ 54 * 2 ^ s = Q1 at *
      generalize Ha * Lb * 2 ^ 27 * 2 ^ s = Q2 at *
      generalize La * Hb * 2 ^ 27 * 2 ^ s = Q3 at *
      generalize La * Lb * 2 ^ s = Q4 at *
      clear p1 p2 absP eP eAB c1 c2 c3 c4 ab1 ab2 hA1 hA2 hB1 hB2 hA hB hg
      omega
  have x2 : t2 = q1 - p + q2 := by
    rw [x1] at k2
    refine near_exact k2 (rep_of_dvd (27 + s) ?_ ?_)
    · rw [e1, e2, hg, Int.pow_add]
      exact ⟨Ha * Hb * 2 ^ 27 - 2 ^ 25 * g + Ha * Lb, by grind⟩
    · rw [Nat.pow_add]
      rw [eP] at v
      rw [e1, e2]
      generalize Ha * Hb * 2 ^ 54 * 2 ^ s = Q1 at *
      generalize Ha * Lb * 2 ^ 27 * 2 ^ s = Q2 at *
      generalize La * Hb * 2 ^ 27 * 2 ^ s = Q3 at *
      generalize La * Lb * 2 ^ s = Q4 at *
      clear p1 p2 absP eP eAB c1 c2 c3 c4 ab1 ab2 hA1 hA2 hB1 hB2 hA hB hg
      omega
  have x3 : t3 = q1 - p + q2 + q3 := by
    rw [x2] at k3
    refine near_exact k3 (rep_of_dvd s ?_ ?_)
    · rw [e1, e2, e3, hg]
      exact ⟨Ha * Hb * 2 ^ 54 - 2 ^ 52 * g + Ha * Lb * 2 ^ 27 + La * Hb * 2 ^ 27, by grind⟩
    · rw [eP] at v
      rw [e1, e2, e3]
      generalize Ha * Hb * 2 ^ 54 * 2 ^ s = Q1 at *
      generalize Ha * Lb * 2 ^ 27 * 2 ^ s = Q2 at *
      generalize La * Hb * 2 ^ 27 * 2 ^ s = Q3 at *
      generalize La * Lb * 2 ^ s = Q4 at *
      clear p1 p2 absP eP eAB c1 c2 c3 c4 ab1 ab2 hA1 hA2 hB1 hB2 hA hB hg
      omega
  rw [x3] at k4
  have e5 : q1 - p + q2 + q3 + q4 = A * B * 2 ^ s - p := by rw [eP, e1, e2, e3, e4]; omega
  rw [e5] at k4
  refine near_exact k4 (rep_of_dvd s ?_ ?_)
  · rw [hg]
    exact ⟨A * B - 2 ^ 52 * g, by grind⟩
  · clear p1 p2 absP eP eAB c1 c2 c3 c4 ab1 ab2 hA1 hA2 hB1 hB2 hA hB hg f2 f3 f4
    generalize A * B * 2 ^ s = P at *
    omega
end Go.Proofs.YgctacDoor.Fp
