import Derived.Test.YgctacFpB
namespace Go.Proofs.Ygctac.Fp
open Ieee

/-- A word that stands for a number. -/
def Fin (p : Nat) : Prop := p < 2 ^ 64 ∧ p % 2 ^ 63 < 2047 * 2 ^ 52
/-- The number, in least units. -/
def fv (p : Nat) : Int := if p < 2 ^ 63 then (rv (p % 2 ^ 63) : Int) else -(rv (p % 2 ^ 63) : Int)

theorem word_fin (neg : Bool) (r : Nat) (h : r < 2047 * 2 ^ 52) : Fin (double.word neg r) ∧ fv (double.word neg r) = if neg then -(rv r : Int) else (rv r : Int) := by
  have hs : double.signWeight = 2 ^ 63 := rfl
  unfold Format.word Fin fv
  rw [hs]
  cases neg
  · simp only [Bool.false_eq_true, if_false]
    rw [if_pos (by omega), Nat.mod_eq_of_lt (by omega)]
    exact ⟨by omega, rfl⟩
  · simp only [if_true]
    have e : (2 ^ 63 + r) % 2 ^ 63 = r := by omega
    rw [if_neg (by omega), e]
    exact ⟨by omega, rfl⟩

theorem rv_rep (r : Nat) : Rep (rv r : Int) := by
  unfold rv
  split
  · exact rep_small (by omega)
  · rw [Int.natCast_mul, natp2_cast]
    have := Nat.mod_lt r (show 0 < 2 ^ 52 by decide)
    exact rep_mul _ _ (by omega)

theorem fv_rep (p : Nat) : Rep (fv p) := by
  unfold fv
  split
  · exact rv_rep _
  · exact rep_neg (rv_rep _)

theorem signed_val (neg : Bool) (m k : Nat) : signed neg m k = if neg then -((m : Int) * 2 ^ k) else (m : Int) * 2 ^ k := by
  unfold signed
  rw [Nat.shiftLeft_eq, Int.natCast_mul, natp2_cast]

theorem read_fin {p : Nat} (h : Fin p) : ∃ (m : Nat) (pl : Int) (E : Nat), double.read p = .number (decide (2 ^ 63 ≤ p)) m pl ∧ pl + 1074 = E ∧ m * 2 ^ E = rv (p % 2 ^ 63) ∧ m < 2 ^ 53 ∧ E ≤ 2045 ∧
    fv p = signed (decide (2 ^ 63 ≤ p)) m E := by
  obtain ⟨h1, h2⟩ := h
  have hs : double.signWeight = 2 ^ 63 := rfl
  have bi : double.binade = 2 ^ 52 := rfl
  have ir : double.infRung = 2047 * 2 ^ 52 := rfl
  have lp : double.leastPlace = -1074 := rfl
  have hneg : (p / 2 ^ 63 % 2 == 1) = decide (2 ^ 63 ≤ p) := by
    by_cases c : 2 ^ 63 ≤ p
    · have : p / 2 ^ 63 % 2 = 1 := by omega
      simp only [this, c]; rfl
    · have : p / 2 ^ 63 % 2 = 0 := by omega
      simp only [this, c]; rfl
  have hfv : ∀ m E : Nat, m * 2 ^ E = rv (p % 2 ^ 63) → fv p = signed (decide (2 ^ 63 ≤ p)) m E := by
    intro m E he
    rw [signed_val]
    unfold fv
    rw [← he, Int.natCast_mul, natp2_cast]
    by_cases c : p < 2 ^ 63
    · have : ¬ 2 ^ 63 ≤ p := by omega
      simp only [c, this, if_true, decide_false, Bool.false_eq_true, if_false]
    · have : 2 ^ 63 ≤ p := by omega
      simp only [c, this, if_true, decide_true, if_false]
  unfold Format.read
  simp only [hs, bi, ir, lp, hneg]
  by_cases c : p % 2 ^ 63 < 2 ^ 52
  · rw [if_pos c]
    have he : p % 2 ^ 63 * 2 ^ 0 = rv (p % 2 ^ 63) := by rw [rv, if_pos c, Nat.pow_zero, Nat.mul_one]
    exact ⟨_, _, 0, rfl, by decide, he, by omega, by omega, hfv _ _ he⟩
  · rw [if_neg c, if_pos h2]
    have he : (2 ^ 52 + p % 2 ^ 63 % 2 ^ 52) * 2 ^ (p % 2 ^ 63 / 2 ^ 52 - 1) = rv (p % 2 ^ 63) := by rw [rv, if_neg c]
    exact ⟨_, _, p % 2 ^ 63 / 2 ^ 52 - 1, rfl, by omega, he, by omega, by omega, hfv _ _ he⟩

/-- Rounding of a whole number of 2^-s least units. -/
def rd (s V : Nat) : Nat := rne V (2 ^ (plc s V + s)) * 2 ^ plc s V
def rnd (s : Nat) (n : Int) : Int := if n < 0 then -(rd s n.natAbs : Int) else (rd s n.natAbs : Int)

theorem rd_zero (s : Nat) : rd s 0 = 0 := by
  have h : plc s 0 = 0 := by unfold plc; rw [Nat.log2_zero]; omega
  unfold rd
  rw [h]
  unfold rne
  have hp := Nat.two_pow_pos (0 + s)
  rw [Nat.zero_div, Nat.zero_mod, if_neg (by omega)]

theorem rd_near (s V : Nat) : Near (V : Int) (2 ^ s) (rd s V : Int) := by
  by_cases h0 : V = 0
  · subst h0
    rw [rd_zero]
    refine ⟨rep_zero, fun f hf => ?_⟩
    simp
  · obtain ⟨p1, p2⟩ := plc_spec s V h0
    have hg : 0 < 2 ^ (plc s V + s) := Nat.two_pow_pos _
    have k1 := rne_le V (2 ^ (plc s V + s)) (2 ^ 53) hg (by omega)
    have k2 := rne_near V (2 ^ (plc s V + s)) hg
    unfold rd
    rw [Int.natCast_mul, natp2_cast]
    have c1 : ((2 ^ (plc s V + s) : Nat) : Int) = 2 ^ plc s V * 2 ^ s := by rw [natp2_cast, Int.pow_add]
    refine near_of_half _ _ _ _ (p2pos s) ?_ k1 ?_
    · have c2 : ((rne V (2 ^ (plc s V + s)) * 2 ^ (plc s V + s) : Nat) : Int) = (rne V (2 ^ (plc s V + s)) : Int) * 2 ^ plc s V * 2 ^ s := by
        rw [Int.natCast_mul, c1, Int.mul_assoc]
      rw [← c2, ← c1]
      omega
    · rcases p2 with h | h
      · exact Or.inl h
      · right
        have c3 : ((2 ^ 52 * 2 ^ (plc s V + s) : Nat) : Int) = 2 ^ 52 * (2 ^ plc s V * 2 ^ s) := by rw [Int.natCast_mul, c1]; rfl
        omega

theorem rnd_near (s : Nat) (n : Int) : Near n (2 ^ s) (rnd s n) := by
  unfold rnd
  split
  · apply near_of_near_neg
    have := rd_near s n.natAbs
    rw [show ((n.natAbs : Nat) : Int) = -n by omega] at this
    simpa using this
  · have := rd_near s n.natAbs
    rwa [show ((n.natAbs : Nat) : Int) = n by omega] at this

theorem rnd_near1 (n : Int) : Near n 1 (rnd 0 n) := by simpa using rnd_near 0 n

theorem rnd_zero (s : Nat) : rnd s 0 = 0 := by simp [rnd, rd_zero]

/-- From here on the format may overflow. -/
def big (s : Nat) : Nat := 3 * 2 ^ (2096 + s)

/-- A number that is written: whatever mag and place it comes with, its value decides. -/
theorem write_spec (neg : Bool) (mag : Nat) (place : Int) (s P : Nat) (n : Int) (hP : place + 1074 + s = P) (hn : n = signed neg mag P) (hov : n.natAbs < big s) :
    Fin (double.write (.number neg mag place)) ∧ fv (double.write (.number neg mag place)) = rnd s n := by
  rw [signed_val] at hn
  show Fin (double.nearest neg mag place) ∧ fv (double.nearest neg mag place) = rnd s n
  by_cases h0 : mag = 0
  · subst h0
    have hz : n = 0 := by rw [hn]; simp
    subst hz
    have : double.nearest neg 0 place = double.word neg 0 := by unfold Format.nearest; rw [if_pos rfl]
    rw [this, rnd_zero]
    obtain ⟨a, b⟩ := word_fin neg 0 (by decide)
    refine ⟨a, b.trans ?_⟩
    have : rv 0 = 0 := by decide
    rw [this]; simp
  · have hV : n.natAbs = mag * 2 ^ P := by
      rw [hn]
      have : ((mag : Int) * 2 ^ P) = ((mag * 2 ^ P : Nat) : Int) := by rw [Int.natCast_mul, natp2_cast]
      rw [this]
      split <;> omega
    have hpos : 0 < mag * 2 ^ P := Nat.mul_pos (Nat.pos_of_ne_zero h0) (Nat.two_pow_pos _)
    obtain ⟨r, e1, e2, _, e4⟩ := nearest_near neg mag place s P h0 hP (by rw [← hV]; exact hov)
    obtain ⟨a, b⟩ := word_fin neg r e2
    rw [e1]
    refine ⟨a, b.trans ?_⟩
    have hneg : (n < 0) ↔ neg = true := by
      rw [hn]
      have : ((mag : Int) * 2 ^ P) = ((mag * 2 ^ P : Nat) : Int) := by rw [Int.natCast_mul, natp2_cast]
      rw [this]
      cases neg <;> simp <;> omega
    unfold rnd
    rw [hV]
    unfold rd
    rw [← e4]
    cases neg
    · rw [if_neg (by simp), if_neg (by rw [hneg]; simp)]
    · rw [if_pos rfl, if_pos (by rw [hneg])]

theorem sum_spec {d e : Datum} {s t : Bool} {m n : Nat} {i j : Int} {E F : Nat} (hd : d = .number s m i) (he : e = .number t n j) (hE : i + 1074 = E) (hF : j + 1074 = F)
    (hov : (signed s m E + signed t n F).natAbs < big 0) :
    ∃ r, (d.sum e).map double.write = some r ∧ Fin r ∧ fv r = rnd 0 (signed s m E + signed t n F) := by
  subst hd he
  refine ⟨_, rfl, ?_⟩
  have hb : min i j + 1074 = ((min E F : Nat) : Int) := by omega
  refine write_spec _ _ _ 0 (min E F) _ (by omega) ?_ hov
  have e1 : signed s m E = signed s m (i - min i j).toNat * 2 ^ (min E F) := by
    rw [signed_val, signed_val]
    have : (2 : Int) ^ E = 2 ^ (i - min i j).toNat * 2 ^ (min E F) := by rw [← Int.pow_add]; congr 1; omega
    rw [this]
    split <;> simp [Int.mul_assoc, Int.neg_mul]
  have e2 : signed t n F = signed t n (j - min i j).toNat * 2 ^ (min E F) := by
    rw [signed_val, signed_val]
    have : (2 : Int) ^ F = 2 ^ (j - min i j).toNat * 2 ^ (min E F) := by rw [← Int.pow_add]; congr 1; omega
    rw [this]
    split <;> simp [Int.mul_assoc, Int.neg_mul]
  rw [e1, e2, ← Int.add_mul]
  generalize signed s m (i - min i j).toNat + signed t n (j - min i j).toNat = T
  rw [signed_val]
  by_cases c : T = 0
  · subst c; simp
  · simp only [c, if_false]
    by_cases c2 : T < 0
    · simp only [c2, decide_true, if_true]
      rw [show ((T.natAbs : Nat) : Int) = -T by omega, Int.neg_mul, Int.neg_neg]
    · simp only [c2, decide_false, Bool.false_eq_true, if_false]
      rw [show ((T.natAbs : Nat) : Int) = T by omega]

theorem add_spec {x y : Nat} (hx : Fin x) (hy : Fin y) (hov : (fv x + fv y).natAbs < big 0) : ∃ r, double.add x y = some r ∧ Fin r ∧ fv r = rnd 0 (fv x + fv y) := by
  obtain ⟨m, i, E, a1, a2, _, _, _, a3⟩ := read_fin hx
  obtain ⟨n, j, F, b1, b2, _, _, _, b3⟩ := read_fin hy
  rw [a3, b3] at hov ⊢
  exact sum_spec a1 b1 a2 b2 hov

theorem signed_not (s : Bool) (m k : Nat) : signed (!s) m k = -signed s m k := by
  rw [signed_val, signed_val]; cases s <;> simp

theorem sub_spec {x y : Nat} (hx : Fin x) (hy : Fin y) (hov : (fv x - fv y).natAbs < big 0) : ∃ r, double.sub x y = some r ∧ Fin r ∧ fv r = rnd 0 (fv x - fv y) := by
  obtain ⟨m, i, E, a1, a2, _, _, _, a3⟩ := read_fin hx
  obtain ⟨n, j, F, b1, b2, _, _, _, b3⟩ := read_fin hy
  have hop : (double.read y).opposite = .number (!decide (2 ^ 63 ≤ y)) n j := by rw [b1]; rfl
  rw [a3, b3, Int.sub_eq_add_neg, ← signed_not] at hov ⊢
  exact sum_spec a1 hop a2 b2 hov

theorem mul_spec {x y : Nat} (hx : Fin x) (hy : Fin y) (hov : (fv x * fv y).natAbs < big 1074) : ∃ r, double.mul x y = some r ∧ Fin r ∧ fv r = rnd 1074 (fv x * fv y) := by
  obtain ⟨m, i, E, a1, a2, _, _, _, a3⟩ := read_fin hx
  obtain ⟨n, j, F, b1, b2, _, _, _, b3⟩ := read_fin hy
  unfold Format.mul
  rw [a1, b1]
  refine ⟨_, rfl, ?_⟩
  refine write_spec _ _ _ 1074 (E + F) _ (by omega) ?_ hov
  rw [a3, b3, signed_val, signed_val, signed_val, Int.natCast_mul, Int.pow_add]
  cases (decide (2 ^ 63 ≤ x)) <;> cases (decide (2 ^ 63 ≤ y)) <;> simp <;> grind

theorem cmp_int (a b : Int) : compare a b = if a < b then .lt else if a = b then .eq else .gt := rfl

theorem order_val {x y : Nat} (hx : Fin x) (hy : Fin y) : double.order x y = some (compare (fv x) (fv y)) := by
  obtain ⟨m, i, E, a1, a2, _, _, _, a3⟩ := read_fin hx
  obtain ⟨n, j, F, b1, b2, _, _, _, b3⟩ := read_fin hy
  unfold Format.order
  rw [a1, b1]
  show some (compare (signed (decide (2 ^ 63 ≤ x)) m (i - min i j).toNat) (signed (decide (2 ^ 63 ≤ y)) n (j - min i j).toNat)) = _
  congr 1
  have e1 : fv x = signed (decide (2 ^ 63 ≤ x)) m (i - min i j).toNat * 2 ^ (min E F) := by
    rw [a3, signed_val, signed_val]
    have : (2 : Int) ^ E = 2 ^ (i - min i j).toNat * 2 ^ (min E F) := by rw [← Int.pow_add]; congr 1; omega
    rw [this]
    split <;> simp [Int.mul_assoc, Int.neg_mul]
  have e2 : fv y = signed (decide (2 ^ 63 ≤ y)) n (j - min i j).toNat * 2 ^ (min E F) := by
    rw [b3, signed_val, signed_val]
    have : (2 : Int) ^ F = 2 ^ (j - min i j).toNat * 2 ^ (min E F) := by rw [← Int.pow_add]; congr 1; omega
    rw [this]
    split <;> simp [Int.mul_assoc, Int.neg_mul]
  rw [e1, e2]
  generalize signed (decide (2 ^ 63 ≤ x)) m (i - min i j).toNat = a
  generalize signed (decide (2 ^ 63 ≤ y)) n (j - min i j).toNat = b
  have hp := p2pos (min E F)
  generalize (2 : Int) ^ (min E F) = T at hp
  rcases Int.lt_trichotomy a b with h | h | h
  · have h2 : a * T < b * T := Int.mul_lt_mul_of_pos_right h hp
    rw [cmp_int, cmp_int, if_pos h, if_pos h2]
  · subst h; simp
  · have h2 : b * T < a * T := Int.mul_lt_mul_of_pos_right h hp
    rw [cmp_int, cmp_int, if_neg (by omega), if_neg (by omega), if_neg (by omega), if_neg (by omega)]

theorem order_eq {x y : Nat} (hx : Fin x) (hy : Fin y) (h : fv x = fv y) : double.order x y = some .eq := by
  rw [order_val hx hy, h, cmp_int, if_neg (by omega), if_pos rfl]
end Go.Proofs.Ygctac.Fp
