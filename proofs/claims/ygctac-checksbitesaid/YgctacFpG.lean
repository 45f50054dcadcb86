/-
  Division: the quotient of two words is a number nearest to the exact quotient.
-/
import Derived.Test.YgctacFpC
namespace Go.Proofs.Ygctac.Fp
open Ieee
set_option linter.unusedVariables false

/-- The rounded quotient, by its digits: Q the whole part of D / n, the digit behind it 1 where something is left over. -/
theorem quot_half {D n Q st g P k : Nat} (hn : 0 < n) (hQ : Q = D / n) (hst : st = if D % n = 0 then 0 else 1) (hg : 4 ∣ g) (hk1 : 2 * (k * g) ≤ 2 * (2 * Q + st) + g) (hk2 : 2 * (2 * Q + st) ≤ 2 * (k * g) + g) :
    2 * (k * g * n) ≤ 4 * D + g * n ∧ 4 * D ≤ 2 * (k * g * n) + g * n := by
  obtain ⟨c, rfl⟩ := hg
  have h1 := Nat.div_add_mod D n
  have h2 := Nat.mod_lt D hn
  rw [← hQ] at h1
  have a1 : k * (4 * c) = 4 * (k * c) := by grind
  have a2 : 4 * (k * c) * n = 4 * (k * c * n) := by grind
  have a3 : 4 * c * n = 4 * (c * n) := by grind
  rw [a1] at hk1 hk2 ⊢
  rw [a2, a3]
  generalize k * c = u at *
  -- 8u <= 4Q + 2st + 4c, 4Q + 2st <= 8u + 4c
  have b1 : 2 * u ≤ Q + c := by split at hst <;> omega
  have b2 : Q + (if D % n = 0 then 0 else 1) ≤ 2 * u + c := by
    rw [← hst]
    split at hst <;> omega
  have m1 : 2 * u * n ≤ (Q + c) * n := Nat.mul_le_mul_right _ b1
  have m2 : (Q + (if D % n = 0 then 0 else 1)) * n ≤ (2 * u + c) * n := Nat.mul_le_mul_right _ b2
  rw [Nat.add_mul] at m1 m2
  rw [Nat.add_mul] at m2
  have e1 : 2 * u * n = 2 * (u * n) := Nat.mul_assoc ..
  have e2 : n * Q = Q * n := Nat.mul_comm ..
  rw [e1] at m1 m2
  rw [e2] at h1
  have m3 : 4 * D ≤ 4 * (Q * n) + 4 * ((if D % n = 0 then 0 else 1) * n) := by
    split
    · omega
    · omega
  generalize (if D % n = 0 then 0 else 1) * n = v at *
  generalize Q * n = Qn at *
  generalize u * n = un at *
  generalize c * n = cn at *
  omega

theorem quot_low {D n Q st g : Nat} (hn : 0 < n) (hQ : Q = D / n) (hst : st ≤ 1) (hg : 4 ∣ g) (h : 2 ^ 52 * g ≤ 2 * Q + st) : 2 ^ 52 * g * n ≤ 2 * D := by
  obtain ⟨c, rfl⟩ := hg
  have h1 := Nat.div_add_mod D n
  rw [← hQ] at h1
  have : 2 ^ 53 * c ≤ Q := by omega
  have m := Nat.mul_le_mul_right n this
  rw [Nat.mul_comm n Q] at h1
  have e : 2 ^ 52 * (4 * c) * n = 2 * (2 ^ 53 * c * n) := by grind
  omega

theorem q7_key (n X F' M' : Nat) : n * (3 * (X * (2 * (F' * M')))) = 6 * (X * (n * F') * M') := by grind

theorem plc_room {s V P : Nat} (h : 54 + P ≤ V.log2) : P + 2 ≤ plc s V + s := by
  unfold plc
  omega

theorem log2_bounds {n : Nat} (h : n ≠ 0) : 2 ^ n.log2 ≤ n ∧ n < 2 ^ (n.log2 + 1) := ⟨Nat.log2_self_le h, Nat.lt_log2_self⟩

/-- The quotient, magnitudes alone: a = m * 2^E over b = n * 2^F. -/
theorem quot_near (neg : Bool) {m n E F C : Nat} {i j : Int} (hC : C = 2 ^ 2096) (hm0 : m ≠ 0) (hn0 : n ≠ 0) (hm : m < 2 ^ 53) (hE : i + 1074 = E) (hF : j + 1074 = F) (hov : m * 2 ^ (E + 1074) ≤ C * (n * 2 ^ F)) :
    ∃ r, double.nearest neg (2 * ((m <<< (54 + n.log2 - m.log2)) / n) + ((m <<< (54 + n.log2 - m.log2)) % n != 0).toNat) (i - j - ((54 + n.log2 - m.log2 : Nat) : Int) - 1) = double.word neg r ∧ r < 2047 * 2 ^ 52 ∧
      Near ((m * 2 ^ (E + 1074) : Nat) : Int) ((n * 2 ^ F : Nat) : Int) (rv r : Int) := by
  have hn : 0 < n := Nat.pos_of_ne_zero hn0
  obtain ⟨lm1, lm2⟩ := log2_bounds hm0
  obtain ⟨ln1, ln2⟩ := log2_bounds hn0
  have hlm : m.log2 ≤ 52 := by
    have : 2 ^ m.log2 < 2 ^ 53 := Nat.lt_of_le_of_lt lm1 hm
    have := (Nat.pow_lt_pow_iff_right (by decide : 1 < 2)).1 this
    omega
  rw [Nat.shiftLeft_eq]
  obtain ⟨more, hmore⟩ : ∃ more, more = 54 + n.log2 - m.log2 := ⟨_, rfl⟩
  rw [← hmore]
  have hD1 : 2 ^ 54 * 2 ^ n.log2 ≤ m * 2 ^ more := by
    have : 2 ^ m.log2 * 2 ^ more ≤ m * 2 ^ more := Nat.mul_le_mul_right _ lm1
    rw [← Nat.pow_add, show m.log2 + more = 54 + n.log2 by omega, Nat.pow_add] at this
    exact this
  obtain ⟨D, hD⟩ : ∃ D, D = m * 2 ^ more := ⟨_, rfl⟩
  rw [← hD] at hD1 ⊢
  have hst : (D % n != 0).toNat = if D % n = 0 then 0 else 1 := by
    by_cases c : D % n = 0 <;> simp [c]
  obtain ⟨st, est⟩ : ∃ st, st = (D % n != 0).toNat := ⟨_, rfl⟩
  rw [← est] at hst ⊢
  have hst1 : st ≤ 1 := by rw [hst]; split <;> omega
  obtain ⟨Q, hQ⟩ : ∃ Q, Q = D / n := ⟨_, rfl⟩
  rw [← hQ]
  have hQ1 : 2 ^ 53 ≤ Q := by
    rw [hQ, Nat.le_div_iff_mul_le hn]
    have : 2 ^ 53 * n ≤ 2 ^ 53 * 2 ^ (n.log2 + 1) := Nat.mul_le_mul_left _ (by omega)
    rw [Nat.pow_succ] at this
    omega
  have hmag : 2 * Q + st ≠ 0 := by omega
  have hP : i - j - (more : Int) - 1 + 1074 + ((F + more + 1 : Nat) : Int) = ((E + 1074 : Nat) : Int) := by omega
  -- the mark V and its place
  have hDn := Nat.div_add_mod D n
  have hDm := Nat.mod_lt D hn
  rw [← hQ] at hDn
  have es : (2 : Nat) ^ (F + more + 1) = 2 * (2 ^ F * 2 ^ more) := by rw [Nat.pow_succ, Nat.pow_add]; omega
  have hV : (2 * Q + st) * 2 ^ (E + 1074) < 3 * 2 ^ (2096 + (F + more + 1)) := by
    -- n * (2Q + st) <= 3 D
    have q1 : n * (2 * Q + st) ≤ 2 * D + n := by
      rw [Nat.mul_add]
      have : n * st ≤ n := by
        have := Nat.mul_le_mul_left n hst1
        omega
      have e : n * (2 * Q) = 2 * (n * Q) := Nat.mul_left_comm ..
      omega
    have q2 : 2 ^ 53 * n ≤ D := by
      have := Nat.mul_le_mul_left n hQ1
      have e : n * 2 ^ 53 = 2 ^ 53 * n := Nat.mul_comm ..
      omega
    have q3 : n * (2 * Q + st) * 2 ^ (E + 1074) ≤ (2 * D + n) * 2 ^ (E + 1074) := Nat.mul_le_mul_right _ q1
    have q4 : (2 * D + n) * 2 ^ (E + 1074) ≤ (3 * D) * 2 ^ (E + 1074) - 2 ^ (E + 1074) := by
      have : (2 * D + n + 1) * 2 ^ (E + 1074) ≤ (3 * D) * 2 ^ (E + 1074) := Nat.mul_le_mul_right _ (by omega)
      rw [Nat.add_mul (2 * D + n) 1] at this
      omega
    have q5 : D * 2 ^ (E + 1074) = m * 2 ^ (E + 1074) * 2 ^ more := by rw [hD]; exact Nat.mul_right_comm ..
    have q6 : D * 2 ^ (E + 1074) ≤ C * (n * 2 ^ F) * 2 ^ more := by rw [q5]; exact Nat.mul_le_mul_right _ hov
    have q7 : n * (3 * 2 ^ (2096 + (F + more + 1))) = 6 * (C * (n * 2 ^ F) * 2 ^ more) := by
      rw [Nat.pow_add, es, ← hC]; exact q7_key _ _ _ _
    have q8 : 0 < 2 ^ (E + 1074) := Nat.two_pow_pos _
    have q9 : 3 * D * 2 ^ (E + 1074) = 3 * (D * 2 ^ (E + 1074)) := Nat.mul_assoc ..
    have q10 : n * ((2 * Q + st) * 2 ^ (E + 1074)) < n * (3 * 2 ^ (2096 + (F + more + 1))) := by
      rw [← Nat.mul_assoc, q7]
      rw [q9] at q4
      have : 0 < D * 2 ^ (E + 1074) := Nat.mul_pos (by omega) q8
      have q11 : 0 < 3 * (D * 2 ^ (E + 1074)) := by omega
      generalize C * (n * 2 ^ F) * 2 ^ more = R at *
      generalize D * 2 ^ (E + 1074) = S at *
      generalize n * (2 * Q + st) * 2 ^ (E + 1074) = U at *
      generalize (2 * D + n) * 2 ^ (E + 1074) = U2 at *
      generalize 2 ^ (E + 1074) = U3 at *
      omega
    exact Nat.lt_of_mul_lt_mul_left q10
  obtain ⟨r, r1, r2, _, r4⟩ := nearest_near neg (2 * Q + st) _ (F + more + 1) (E + 1074) hmag hP hV
  refine ⟨r, r1, r2, ?_⟩
  clear hov hV hC
  have hVne : (2 * Q + st) * 2 ^ (E + 1074) ≠ 0 := Nat.mul_ne_zero hmag (Nat.ne_of_gt (Nat.two_pow_pos _))
  obtain ⟨p1, p2⟩ := plc_spec (F + more + 1) ((2 * Q + st) * 2 ^ (E + 1074)) hVne
  have hlog : 54 + (E + 1074) ≤ ((2 * Q + st) * 2 ^ (E + 1074)).log2 := by
    rw [Nat.le_log2 hVne, Nat.pow_add]
    exact Nat.mul_le_mul_right _ (by omega)
  have hpl : E + 1074 + 2 ≤ plc (F + more + 1) ((2 * Q + st) * 2 ^ (E + 1074)) + (F + more + 1) := by
    exact plc_room hlog
  rw [r4]
  generalize plc (F + more + 1) ((2 * Q + st) * 2 ^ (E + 1074)) = pl at *
  have hg : 0 < 2 ^ (pl + (F + more + 1)) := Nat.two_pow_pos _
  have k1 := rne_le _ (2 ^ (pl + (F + more + 1))) (2 ^ 53) hg (Nat.le_of_lt p1)
  have k2 := rne_near ((2 * Q + st) * 2 ^ (E + 1074)) (2 ^ (pl + (F + more + 1))) hg
  generalize rne ((2 * Q + st) * 2 ^ (E + 1074)) (2 ^ (pl + (F + more + 1))) = k at *
  obtain ⟨c, hc⟩ : ∃ c, pl + (F + more + 1) = (c + 2) + (E + 1074) := ⟨pl + (F + more + 1) - (E + 1074) - 2, by omega⟩
  have eg : (2 : Nat) ^ (pl + (F + more + 1)) = 2 ^ (c + 2) * 2 ^ (E + 1074) := by rw [hc, Nat.pow_add]
  have hp0 : 0 < 2 ^ (E + 1074) := Nat.two_pow_pos _
  have g4 : 4 ∣ 2 ^ (c + 2) := ⟨2 ^ c, by rw [Nat.pow_add]; omega⟩
  rw [eg] at k2 p2
  obtain ⟨G, eG⟩ : ∃ G, G = 2 ^ (c + 2) := ⟨_, rfl⟩
  rw [← eG] at k2 p2 g4 eg
  have t1 : 2 * (k * G) ≤ 2 * (2 * Q + st) + G := by
    refine Nat.le_of_mul_le_mul_right (c := 2 ^ (E + 1074)) ?_ hp0
    have := k2.1
    rw [Nat.add_mul, Nat.mul_assoc 2, Nat.mul_assoc 2, Nat.mul_assoc k]
    exact this
  have t2 : 2 * (2 * Q + st) ≤ 2 * (k * G) + G := by
    refine Nat.le_of_mul_le_mul_right (c := 2 ^ (E + 1074)) ?_ hp0
    have := k2.2
    rw [Nat.add_mul, Nat.mul_assoc 2, Nat.mul_assoc 2, Nat.mul_assoc k]
    exact this
  obtain ⟨v1, v2⟩ := quot_half (P := 0) hn hQ hst g4 t1 t2
  -- G * 2^(E+1074) = 2^pl * 2^F * 2^more * 2
  have e3 : G * 2 ^ (E + 1074) = 2 * (2 ^ pl * 2 ^ F * 2 ^ more) := by
    rw [← eg, Nat.pow_add, es, Nat.mul_left_comm, Nat.mul_assoc]
  clear eg hc hlog hpl hVne p1 r1 hP es
  generalize 2 ^ (E + 1074) = PP at *
  have hmp : 0 < 2 ^ more := Nat.two_pow_pos _
  have w1 : 2 * (k * 2 ^ pl * (n * 2 ^ F)) ≤ 2 * (m * PP) + 2 ^ pl * (n * 2 ^ F) := by
    have := Nat.mul_le_mul_right (PP) v1
    have e4 : 2 * (k * G * n) * PP = 2 * k * n * (G * PP) := by grind
    have e5 : (4 * D + G * n) * PP = 4 * (m * 2 ^ more) * PP + n * (G * PP) := by rw [hD]; grind
    rw [e4, e5, e3] at this
    refine Nat.le_of_mul_le_mul_right (c := 2 * 2 ^ more) ?_ (by omega)
    have e6 : 2 * (k * 2 ^ pl * (n * 2 ^ F)) * (2 * 2 ^ more) = 2 * k * n * (2 * (2 ^ pl * 2 ^ F * 2 ^ more)) := by grind
    have e7 : (2 * (m * PP) + 2 ^ pl * (n * 2 ^ F)) * (2 * 2 ^ more) = 4 * (m * 2 ^ more) * PP + n * (2 * (2 ^ pl * 2 ^ F * 2 ^ more)) := by grind
    rw [e6, e7]
    exact this
  have w2 : 2 * (m * PP) ≤ 2 * (k * 2 ^ pl * (n * 2 ^ F)) + 2 ^ pl * (n * 2 ^ F) := by
    have := Nat.mul_le_mul_right (PP) v2
    have e4 : (2 * (k * G * n) + G * n) * PP = 2 * k * n * (G * PP) + n * (G * PP) := by grind
    have e5 : 4 * D * PP = 4 * (m * 2 ^ more) * PP := by rw [hD]
    rw [e4, e5, e3] at this
    refine Nat.le_of_mul_le_mul_right (c := 2 * 2 ^ more) ?_ (by omega)
    have e6 : (2 * (k * 2 ^ pl * (n * 2 ^ F)) + 2 ^ pl * (n * 2 ^ F)) * (2 * 2 ^ more) = 2 * k * n * (2 * (2 ^ pl * 2 ^ F * 2 ^ more)) + n * (2 * (2 ^ pl * 2 ^ F * 2 ^ more)) := by grind
    have e7 : 2 * (m * PP) * (2 * 2 ^ more) = 4 * (m * 2 ^ more) * PP := by grind
    rw [e6, e7]
    exact this
  have hd : 0 < n * 2 ^ F := Nat.mul_pos hn (Nat.two_pow_pos _)
  have ck : ((k * 2 ^ pl : Nat) : Int) = (k : Int) * 2 ^ pl := by rw [Int.natCast_mul, natp2_cast]
  rw [ck]
  have ce : (((k * 2 ^ pl * (n * 2 ^ F) : Nat) : Int)) = (k : Int) * 2 ^ pl * ((n * 2 ^ F : Nat) : Int) := by
    rw [Int.natCast_mul (k * 2 ^ pl), ck]
  have ce2 : (((2 ^ pl * (n * 2 ^ F) : Nat) : Int)) = 2 ^ pl * ((n * 2 ^ F : Nat) : Int) := by
    rw [Int.natCast_mul (2 ^ pl), natp2_cast]
  refine near_of_half _ _ pl k (by exact_mod_cast hd) ?_ k1 ?_
  · rw [← ce, ← ce2]
    clear v1 v2 t1 t2 k2 p2 hDn hD1
    generalize k * 2 ^ pl * (n * 2 ^ F) = A1 at *
    generalize 2 ^ pl * (n * 2 ^ F) = A2 at *
    generalize m * PP = A3 at *
    omega
  · rcases p2 with h | h
    · exact Or.inl h
    · right
      have h' : 2 ^ 52 * G ≤ 2 * Q + st := by
        refine Nat.le_of_mul_le_mul_right (c := PP) ?_ hp0
        rw [Nat.mul_assoc]; exact h
      have := Nat.mul_le_mul_right (PP) (quot_low hn hQ hst1 g4 h')
      have e4 : 2 ^ 52 * G * n * PP = 2 ^ 52 * n * (G * PP) := by generalize 2 ^ 52 = X; grind
      have e5 : 2 * D * PP = 2 * (m * 2 ^ more) * PP := by rw [hD]
      rw [e4, e5, e3] at this
      have w : 2 ^ 52 * (2 ^ pl * (n * 2 ^ F)) ≤ m * PP := by
        refine Nat.le_of_mul_le_mul_right (c := 2 * 2 ^ more) ?_ (by omega)
        have e6 : 2 ^ 52 * (2 ^ pl * (n * 2 ^ F)) * (2 * 2 ^ more) = 2 ^ 52 * n * (2 * (2 ^ pl * 2 ^ F * 2 ^ more)) := by generalize 2 ^ 52 = X; grind
        have e7 : m * PP * (2 * 2 ^ more) = 2 * (m * 2 ^ more) * PP := by grind
        rw [e6, e7]
        exact this
      rw [← ce2]
      exact_mod_cast w

/-- DIVISION over words: nearest to the exact quotient; no overflow where the quotient is at most 2^1022. -/
theorem div_spec {x y : Nat} (hx : Fin x) (hy : Fin y) (h0 : fv y ≠ 0) {C : Nat} (hC : C = 2 ^ 2096) (hov : (fv x).natAbs * 2 ^ 1074 ≤ C * (fv y).natAbs) :
    ∃ r, double.div x y = some r ∧ Fin r ∧ Near (fv x * 2 ^ 1074 * (fv y).sign) ((fv y).natAbs : Int) (fv r) ∧ (fv x = 0 → fv r = 0) := by
  obtain ⟨m, i, E, x1, x2, x3, x4, x5, x6⟩ := read_fin hx
  obtain ⟨n, j, F, y1, y2, y3, y4, y5, y6⟩ := read_fin hy
  generalize decide (2 ^ 63 ≤ x) = s at *
  generalize decide (2 ^ 63 ≤ y) = t at *
  rw [signed_val] at x6 y6
  have ax : (fv x).natAbs = m * 2 ^ E := by
    rw [x6]
    have := natAbs_mul_p2 (m : Int) E
    cases s <;> simp only [if_true, if_false, Int.natAbs_neg, Bool.false_eq_true, this, Int.natAbs_natCast]
  have ay : (fv y).natAbs = n * 2 ^ F := by
    rw [y6]
    have := natAbs_mul_p2 (n : Int) F
    cases t <;> simp only [if_true, if_false, Int.natAbs_neg, Bool.false_eq_true, this, Int.natAbs_natCast]
  have hn0 : n ≠ 0 := by
    intro h
    rw [h, Nat.zero_mul] at ay
    exact h0 (Int.natAbs_eq_zero.1 ay)
  have hb : 0 < n * 2 ^ F := Nat.mul_pos (Nat.pos_of_ne_zero hn0) (Nat.two_pow_pos _)
  unfold Format.div
  rw [x1, y1]
  have fb : double.fractionBits + 2 = 54 := rfl
  simp only [Datum.quotient, hn0, if_false, fb, Option.map_some, Format.write]
  by_cases hm0 : m = 0
  · subst hm0
    have z : fv x = 0 := by rw [Nat.zero_mul] at ax; exact Int.natAbs_eq_zero.1 ax
    have e : 2 * ((0 <<< (54 + n.log2 - Nat.log2 0)) / n) + ((0 <<< (54 + n.log2 - Nat.log2 0)) % n != 0).toNat = 0 := by
      simp
    have w := word_fin (s ^^ t) 0 (by decide)
    have rv0 : rv 0 = 0 := by simp [rv]
    have hw : fv (double.word (s ^^ t) 0) = 0 := by rw [w.2, rv0]; simp
    refine ⟨double.word (s ^^ t) 0, ?_, w.1, ?_, fun _ => hw⟩
    · unfold Format.nearest
      rw [if_pos e]
    · rw [z, hw, Int.zero_mul, Int.zero_mul]
      refine ⟨rep_zero, fun f _ => by simp⟩
  · obtain ⟨r, r1, r2, r3⟩ := quot_near (s ^^ t) hC hm0 hn0 x4 x2 y2 (by
      rw [ax, ay] at hov
      rw [Nat.pow_add, ← Nat.mul_assoc]; exact hov)
    have w := word_fin (s ^^ t) r r2
    refine ⟨double.word (s ^^ t) r, by rw [r1], w.1, ?_, fun z => ?_⟩
    · rw [w.2, ay]
      have cx : ((m * 2 ^ (E + 1074) : Nat) : Int) = (m : Int) * 2 ^ E * 2 ^ 1074 := by
        rw [Int.natCast_mul, natp2_cast, Int.pow_add, Int.mul_assoc]
      rw [cx] at r3
      have sy : (fv y).sign = if t then -1 else 1 := by
        have hpos : (0 : Int) < (n : Int) * 2 ^ F := by
          have : ((n * 2 ^ F : Nat) : Int) = (n : Int) * 2 ^ F := by rw [Int.natCast_mul, natp2_cast]
          rw [← this]; exact_mod_cast hb
        rw [y6]
        cases t
        · simp only [Bool.false_eq_true, if_false]; exact Int.sign_eq_one_of_pos hpos
        · simp only [if_true]; rw [Int.sign_neg, Int.sign_eq_one_of_pos hpos]
      rw [sy, x6]
      generalize (2 : Int) ^ 1074 = K' at *
      generalize ((n * 2 ^ F : Nat) : Int) = d' at *
      clear hov hC cx
      cases s <;> cases t
      · simpa using r3
      · have := r3.neg
        simpa [Int.mul_neg] using this
      · have := r3.neg
        simpa [Int.neg_mul] using this
      · simpa [Int.neg_mul, Int.mul_neg] using r3
    · rw [z] at ax
      exact absurd (Nat.mul_eq_zero.1 ax.symm) (by
        intro h
        rcases h with h | h
        · exact hm0 h
        · exact Nat.ne_of_gt (Nat.two_pow_pos _) h)
end Go.Proofs.Ygctac.Fp
