import Ieee.Arith
import Derived.Test.YgctacFpA
namespace Go.Proofs.Ygctac.Fp
open Ieee

/-- 'n / g' to the nearest whole number, ties to even. -/
def rne (n g : Nat) : Nat := n / g + (if g < 2 * (n % g) ∨ (g = 2 * (n % g) ∧ n / g % 2 = 1) then 1 else 0)

theorem cut_even (neg : Bool) (n drop : Nat) : Toward.even.cut neg n drop = rne n (2 ^ drop) := by
  have key : ∀ g : Nat, (n / g + ((decide (g < 2 * (n % g)) || (g == 2 * (n % g) && n / g % 2 == 1)) : Bool).toNat) = rne n g := by
    intro g
    unfold rne
    by_cases h1 : g < 2 * (n % g)
    · simp [h1]
    · by_cases h2 : g = 2 * (n % g)
      · by_cases h3 : n / g % 2 = 1
        · have : (g == 2 * (n % g)) = true := by simpa using h2
          simp [h1, this, h3]
          simp [← h2]
        · have : ¬ (g = 2 * (n % g) ∧ n / g % 2 = 1) := fun h => h3 h.2
          simp [h1, h3]
      · have : ¬ (g = 2 * (n % g) ∧ n / g % 2 = 1) := fun h => h2 h.1
        simp [h1, h2]
  unfold Toward.cut
  simp only [Nat.one_shiftLeft]
  by_cases hd : drop ≤ n.log2 + 2
  · rw [Nat.min_eq_left hd]
    exact key (2 ^ drop)
  · rw [Nat.min_eq_right (by omega)]
    refine (key (2 ^ (n.log2 + 2))).trans ?_
    have h1 : n < 2 ^ (n.log2 + 1) := Nat.lt_log2_self
    have h2 : 2 ^ (n.log2 + 2) = 2 * 2 ^ (n.log2 + 1) := by rw [Nat.pow_succ, Nat.mul_comm]
    have h3 : 2 ^ (n.log2 + 2) ≤ 2 ^ drop := Nat.pow_le_pow_right (by omega) (by omega)
    have small : ∀ g, 2 * n < g → rne n g = 0 := by
      intro g hg
      unfold rne
      rw [Nat.div_eq_of_lt (by omega), Nat.mod_eq_of_lt (by omega), if_neg (by omega)]
    rw [small _ (by omega), small _ (by omega)]

theorem rne_scale (n g c : Nat) (hc : 0 < c) : rne (n * c) (g * c) = rne n g := by
  unfold rne
  rw [Nat.mul_div_mul_right _ _ hc, Nat.mul_mod_mul_right, ← Nat.mul_assoc]
  have e1 : (g * c < 2 * (n % g) * c) ↔ (g < 2 * (n % g)) := ⟨fun h => Nat.lt_of_mul_lt_mul_right h, fun h => Nat.mul_lt_mul_of_pos_right h hc⟩
  have e2 : (g * c = 2 * (n % g) * c) ↔ (g = 2 * (n % g)) := ⟨fun h => Nat.eq_of_mul_eq_mul_right hc h, fun h => congrArg (· * c) h⟩
  simp only [e1, e2]

theorem rne_one (n : Nat) : rne n 1 = n := by simp [rne, Nat.mod_one]

theorem rne_near (n g : Nat) (hg : 0 < g) : 2 * (rne n g * g) ≤ 2 * n + g ∧ 2 * n ≤ 2 * (rne n g * g) + g := by
  have h1 := Nat.div_add_mod n g
  have h2 := Nat.mod_lt n hg
  unfold rne
  generalize n % g = r at *
  generalize n / g = q at *
  split
  · rw [Nat.add_mul, Nat.mul_comm q g]; omega
  · rw [Nat.add_zero, Nat.mul_comm q g]; omega

theorem rne_le (n g k : Nat) (hg : 0 < g) (h : n ≤ k * g) : rne n g ≤ k := by
  rcases Nat.lt_or_ge k (rne n g) with hh | hh
  · have h1 := (rne_near n g hg).1
    have h2 : (k + 1) * g ≤ rne n g * g := Nat.mul_le_mul_right _ hh
    rw [Nat.add_mul] at h2
    omega
  · exact hh

theorem rne_ge (n g k : Nat) (hg : 0 < g) (h : k * g ≤ n) : k ≤ rne n g := by
  rcases Nat.lt_or_ge (rne n g) k with hh | hh
  · have h1 := (rne_near n g hg).2
    have h2 : (rne n g + 1) * g ≤ k * g := Nat.mul_le_mul_right _ hh
    rw [Nat.add_mul] at h2
    omega
  · exact hh

/-- The place of the last digit kept, counted from the least one; the number is V / 2^s least units. -/
def plc (s V : Nat) : Nat := V.log2 - (52 + s)

theorem nearest_eq (neg : Bool) (mag : Nat) (place : Int) (s P : Nat) (h0 : mag ≠ 0) (hP : place + 1074 + s = P) :
    double.nearest neg mag place = double.word neg (min (plc s (mag * 2 ^ P) * 2 ^ 52 + rne (mag * 2 ^ P) (2 ^ (plc s (mag * 2 ^ P) + s))) (2047 * 2 ^ 52)) := by
  have hl : (mag * 2 ^ P).log2 = mag.log2 + P := by
    have a1 : 2 ^ mag.log2 ≤ mag := Nat.log2_self_le h0
    have a2 : mag < 2 ^ (mag.log2 + 1) := Nat.lt_log2_self
    have hne : mag * 2 ^ P ≠ 0 := Nat.mul_ne_zero h0 (Nat.ne_of_gt (Nat.two_pow_pos _))
    refine (Nat.log2_eq_iff hne).2 ⟨?_, ?_⟩
    · rw [Nat.pow_add]; exact Nat.mul_le_mul_right _ a1
    · rw [show mag.log2 + P + 1 = mag.log2 + 1 + P by omega, Nat.pow_add]; exact Nat.mul_lt_mul_of_pos_right a2 (Nat.two_pow_pos _)
  unfold Format.nearest
  rw [if_neg h0]
  have lp : double.leastPlace = -1074 := rfl
  have fb : (double.fractionBits : Int) = 52 := rfl
  have bi : double.binade = 2 ^ 52 := rfl
  have ir : double.infRung = 2047 * 2 ^ 52 := rfl
  have hlast : max (place + (mag.log2 : Int) - 52) (-1074) = (plc s (mag * 2 ^ P) : Int) - 1074 := by
    unfold plc; rw [hl]; omega
  simp only [lp, fb, bi, ir, hlast, cut_even]
  have e1 : ((plc s (mag * 2 ^ P) : Int) - 1074 - -1074).toNat = plc s (mag * 2 ^ P) := by omega
  rw [e1]
  have e2 : rne (mag <<< (place - ((plc s (mag * 2 ^ P) : Int) - 1074)).toNat) (2 ^ ((plc s (mag * 2 ^ P) : Int) - 1074 - place).toNat) = rne (mag * 2 ^ P) (2 ^ (plc s (mag * 2 ^ P) + s)) := by
    generalize plc s (mag * 2 ^ P) = E
    rw [Nat.shiftLeft_eq]
    rcases Nat.le_total (E + s) P with hh | hh
    · have a1 : (place - ((E : Int) - 1074)).toNat = P - (E + s) := by omega
      have a2 : ((E : Int) - 1074 - place).toNat = 0 := by omega
      rw [a1, a2]
      rw [← rne_scale (mag * 2 ^ (P - (E + s))) (2 ^ 0) (2 ^ (E + s)) (Nat.two_pow_pos _)]
      congr 1
      · rw [Nat.mul_assoc, ← Nat.pow_add, Nat.sub_add_cancel hh]
      · simp
    · have a1 : (place - ((E : Int) - 1074)).toNat = 0 := by omega
      have a2 : ((E : Int) - 1074 - place).toNat = (E + s) - P := by omega
      rw [a1, a2]
      rw [← rne_scale (mag * 2 ^ 0) (2 ^ ((E + s) - P)) (2 ^ P) (Nat.two_pow_pos _)]
      congr 1
      · simp
      · rw [← Nat.pow_add, Nat.sub_add_cancel hh]
  rw [e2]

/-- The magnitude of a rung, in least units. -/
def rv (r : Nat) : Nat := if r < 2 ^ 52 then r else (2 ^ 52 + r % 2 ^ 52) * 2 ^ (r / 2 ^ 52 - 1)

theorem rv_rung (E k : Nat) (hk : k ≤ 2 ^ 53) (h : E = 0 ∨ 2 ^ 52 ≤ k) : rv (E * 2 ^ 52 + k) = k * 2 ^ E := by
  unfold rv
  by_cases c1 : k < 2 ^ 52
  · have : E = 0 := by omega
    subst this
    rw [if_pos (by omega)]; simp
  · rw [if_neg (by omega)]
    by_cases c2 : k < 2 ^ 53
    · have e1 : (E * 2 ^ 52 + k) % 2 ^ 52 = k - 2 ^ 52 := by omega
      have e2 : (E * 2 ^ 52 + k) / 2 ^ 52 - 1 = E := by omega
      rw [e1, e2, show 2 ^ 52 + (k - 2 ^ 52) = k by omega]
    · have e0 : k = 2 ^ 53 := by omega
      subst e0
      have e1 : (E * 2 ^ 52 + 2 ^ 53) % 2 ^ 52 = 0 := by omega
      have e2 : (E * 2 ^ 52 + 2 ^ 53) / 2 ^ 52 - 1 = E + 1 := by omega
      rw [e1, e2, Nat.add_zero, show 2 ^ (E + 1) = 2 ^ E * 2 from rfl, Nat.mul_comm (2 ^ E) 2, ← Nat.mul_assoc]

theorem plc_spec (s V : Nat) (h0 : V ≠ 0) : V < 2 ^ 53 * 2 ^ (plc s V + s) ∧ (plc s V = 0 ∨ 2 ^ 52 * 2 ^ (plc s V + s) ≤ V) := by
  have h1 : V < 2 ^ (V.log2 + 1) := Nat.lt_log2_self
  have h2 : 2 ^ V.log2 ≤ V := Nat.log2_self_le h0
  unfold plc
  constructor
  · rw [← Nat.pow_add]
    exact Nat.lt_of_lt_of_le h1 (Nat.pow_le_pow_right (by omega) (by omega))
  · rcases Nat.lt_or_ge (52 + s) V.log2 with hh | hh
    · right
      rw [← Nat.pow_add]
      exact Nat.le_trans (Nat.pow_le_pow_right (by omega) (by omega)) h2
    · left; omega

/-- Any number at that place within half a unit is nearest. -/
theorem near_of_half (n : Int) (d : Int) (E k : Nat) (hd : 0 < d) (h : 2 * (((k : Int) * 2 ^ E * d - n).natAbs : Int) ≤ 2 ^ E * d) (hk : k ≤ 2 ^ 53)
    (hE : E = 0 ∨ 2 ^ 52 * (2 ^ E * d) ≤ n) : Near n d ((k : Int) * 2 ^ E) := by
  refine ⟨rep_mul k E (by omega), fun f hf => ?_⟩
  obtain ⟨m, e, hm, rfl⟩ := hf
  have hg : 0 < 2 ^ E * d := Int.mul_pos (p2pos E) hd
  rcases Nat.lt_or_ge e E with hh | hh
  · have hE' : 2 ^ 52 * (2 ^ E * d) ≤ n := by omega
    have h1 : m * 2 ^ e * d ≤ 2 ^ 52 * (2 ^ E * d) := by
      have a1 : m * 2 ^ e ≤ 2 ^ 53 * 2 ^ e := Int.mul_le_mul_of_nonneg_right (by omega) (Int.le_of_lt (p2pos e))
      have a2 := p2_le (a := e + 1) (b := E) hh
      rw [Int.pow_succ] at a2
      have a3 : m * 2 ^ e ≤ 2 ^ 52 * 2 ^ E := by omega
      have a4 : m * 2 ^ e * d ≤ 2 ^ 52 * 2 ^ E * d := Int.mul_le_mul_of_nonneg_right a3 (by omega)
      rw [Int.mul_assoc (2 ^ 52)] at a4
      exact a4
    have h2 : (k : Int) * 2 ^ E * d = k * (2 ^ E * d) := Int.mul_assoc ..
    rw [h2] at h ⊢
    generalize 2 ^ E * d = g at *
    generalize m * 2 ^ e * d = t at *
    -- k g is the nearest multiple; 2^52 g is one below n
    have h3 : ((k : Int) * g - n).natAbs ≤ (2 ^ 52 * g - n).natAbs := by
      rcases Int.lt_or_le (k : Int) (2 ^ 52) with c | c
      · have : (k : Int) * g ≤ (2 ^ 52 - 1) * g := Int.mul_le_mul_of_nonneg_right (by omega) (by omega)
        rw [Int.sub_mul] at this
        omega
      · rcases Int.lt_or_eq_of_le c with c' | c'
        · have : (2 ^ 52 + 1) * g ≤ (k : Int) * g := Int.mul_le_mul_of_nonneg_right (by omega) (by omega)
          rw [Int.add_mul] at this
          omega
        · rw [← c']; omega
    omega
  · obtain ⟨c, rfl⟩ := Nat.exists_eq_add_of_le hh
    have h1 : m * 2 ^ (E + c) * d = m * 2 ^ c * (2 ^ E * d) := by
      rw [Int.pow_add]; grind
    have h2 : (k : Int) * 2 ^ E * d = k * (2 ^ E * d) := Int.mul_assoc ..
    rw [h2] at h ⊢
    rw [h1]
    generalize 2 ^ E * d = g at *
    generalize m * 2 ^ c = t at *
    rcases Int.lt_trichotomy (k : Int) t with c' | c' | c'
    · have : ((k : Int) + 1) * g ≤ t * g := Int.mul_le_mul_of_nonneg_right (by omega) (by omega)
      rw [Int.add_mul] at this
      omega
    · rw [c']; omega
    · have : (t + 1) * g ≤ (k : Int) * g := Int.mul_le_mul_of_nonneg_right (by omega) (by omega)
      rw [Int.add_mul] at this
      omega

/-- ROUNDING: the word, its rung's magnitude, that it is nearest. No overflow below 3 * 2^1022. -/
theorem nearest_near (neg : Bool) (mag : Nat) (place : Int) (s P : Nat) (h0 : mag ≠ 0) (hP : place + 1074 + s = P) (hov : mag * 2 ^ P < 3 * 2 ^ (2096 + s)) :
    ∃ r, double.nearest neg mag place = double.word neg r ∧ r < 2047 * 2 ^ 52 ∧ Near ((mag * 2 ^ P : Nat) : Int) (2 ^ s) (rv r : Int) ∧ rv r = rne (mag * 2 ^ P) (2 ^ (plc s (mag * 2 ^ P) + s)) * 2 ^ plc s (mag * 2 ^ P) := by
  have hV : mag * 2 ^ P ≠ 0 := Nat.mul_ne_zero h0 (Nat.ne_of_gt (Nat.two_pow_pos _))
  have hn := nearest_eq neg mag place s P h0 hP
  generalize mag * 2 ^ P = V at *
  obtain ⟨p1, p2⟩ := plc_spec s V hV
  have hg : 0 < 2 ^ (plc s V + s) := Nat.two_pow_pos _
  have k1 := rne_le V (2 ^ (plc s V + s)) (2 ^ 53) hg (by omega)
  have k2 := rne_near V (2 ^ (plc s V + s)) hg
  have k3 : plc s V = 0 ∨ 2 ^ 52 ≤ rne V (2 ^ (plc s V + s)) := by
    rcases p2 with h | h
    · exact Or.inl h
    · exact Or.inr (rne_ge V _ (2 ^ 52) hg h)
  have hE : plc s V ≤ 2045 := by
    rcases Nat.lt_or_ge 2045 (plc s V) with h | h
    · exfalso
      rcases p2 with h' | h'
      · omega
      · have : 2 ^ (2046 + s) ≤ 2 ^ (plc s V + s) := Nat.pow_le_pow_right (by decide) (Nat.add_le_add_right (show 2046 ≤ plc s V from h) s)
        have e : (2 : Nat) ^ (2096 + s) = 2 ^ 50 * 2 ^ (2046 + s) := by rw [← Nat.pow_add]; congr 1; omega
        rw [e] at hov
        generalize 2 ^ (2046 + s) = T at *
        generalize 2 ^ (plc s V + s) = U at *
        omega
    · exact h
  have hr : plc s V * 2 ^ 52 + rne V (2 ^ (plc s V + s)) < 2047 * 2 ^ 52 := by
    rcases Nat.lt_or_ge (plc s V) 2045 with h | h
    · omega
    · have e : plc s V = 2045 := by omega
      have : rne V (2 ^ (plc s V + s)) ≤ 3 * 2 ^ 51 := by
        refine rne_le V _ _ hg ?_
        rw [e]
        have e : (2 : Nat) ^ (2096 + s) = 2 ^ 51 * 2 ^ (2045 + s) := by rw [← Nat.pow_add]; congr 1; omega
        rw [e] at hov
        generalize 2 ^ (2045 + s) = T at *
        omega
      omega
  refine ⟨_, by rw [hn, Nat.min_eq_left (by omega)], hr, ?_, rv_rung _ _ k1 k3⟩
  rw [rv_rung _ _ k1 k3]
  rw [Int.natCast_mul, natp2_cast]
  have c1 : ((2 ^ (plc s V + s) : Nat) : Int) = 2 ^ plc s V * 2 ^ s := by rw [natp2_cast, Int.pow_add]
  refine near_of_half _ _ _ _ (p2pos s) ?_ k1 ?_
  · have c2 : ((rne V (2 ^ (plc s V + s)) * 2 ^ (plc s V + s) : Nat) : Int) = (rne V (2 ^ (plc s V + s)) : Int) * 2 ^ plc s V * 2 ^ s := by
      rw [Int.natCast_mul, c1, Int.mul_assoc]
    rw [← c2, ← c1]
    omega
  · rcases p2 with h | h
    · exact Or.inl h
    · right
      have c3 : ((2 ^ 52 * 2 ^ (plc s V + s) : Nat) : Int) = 2 ^ 52 * (2 ^ plc s V * 2 ^ s) := by rw [Int.natCast_mul, c1]; rfl
      omega
end Go.Proofs.Ygctac.Fp
