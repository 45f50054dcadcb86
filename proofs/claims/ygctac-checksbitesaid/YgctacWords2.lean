/-
  THE ACCUMULATOR's WORDS, MORE: sums, the negative, the sign, shifts, the order. Plain arithmetic.
-/
import Derived.Test.YgctacWords
namespace Go.Proofs.Ygctac
set_option linter.unusedVariables false

/-- The lowest k words as one number. -/
theorem low_succ (n : Int) (k : Nat) : n % 2 ^ (64 * (k + 1)) = n % 2 ^ (64 * k) + wd n k * 2 ^ (64 * k) := by
  rw [show 64 * (k + 1) = 64 * k + 64 from by omega, pp_add]
  unfold wd
  have hp := pp (64 * k)
  generalize (2 : Int) ^ (64 * k) = A at hp ⊢
  have e1 := Int.mul_ediv_add_emod n A
  have e2 := Int.mul_ediv_add_emod (n / A) (2 ^ 64)
  have b1 := Int.emod_nonneg n (Int.ne_of_gt hp)
  have b2 := Int.emod_lt_of_pos n hp
  have b3 := Int.emod_nonneg (n / A) (b := 2 ^ 64) (by decide)
  have b4 := Int.emod_lt_of_pos (n / A) (b := 2 ^ 64) (by decide)
  generalize n % A = r at *
  generalize n / A = y at *
  generalize y % 2 ^ 64 = t at *
  generalize y / 2 ^ 64 = u at *
  have e3 : n = r + A * t + A * 2 ^ 64 * u := by
    rw [← e1, ← e2, Int.mul_add, ← Int.mul_assoc]; omega
  have b5 : 0 ≤ A * t := Int.mul_nonneg (by omega) b3
  have b6 : A * t ≤ A * (2 ^ 64 - 1) := Int.mul_le_mul_of_nonneg_left (by omega) (by omega)
  rw [e3, Int.add_mul_emod_self_left, Int.emod_eq_of_lt (by omega) (by rw [Int.mul_sub] at b6; omega), Int.mul_comm t A]

theorem low_zero (n : Int) : n % 2 ^ (64 * 0) = 0 := by simp [Int.emod_one]

/-- 2^4352 and its half, under names. -/
def topW : Int := 2 ^ 4352
def half : Int := 2 ^ 4351
theorem top_half : topW = 2 * half := by
  unfold topW half
  rw [show 4352 = 1 + 4351 from rfl, pp_add]; rfl
theorem half_pos : 0 < half := pp 4351

theorem accC_of_mod' {n m : Int} (h : n % topW = m % topW) : accC n = accC m := accC_of_mod h
theorem accC_add_top (n c : Int) : accC (n + c * topW) = accC n := accC_wrap n c

theorem add_end (n m k c : Int) (h : k + c * 2 ^ (64 * 68) = n + m % 2 ^ (64 * 68)) : accC k = accC (n + m) := by
  rw [show 64 * 68 = 4352 from rfl] at h
  change k + c * topW = n + m % topW at h
  have e := Int.mul_ediv_add_emod m topW
  have : k = n + m + (-(m / topW) - c) * topW := by
    rw [Int.sub_mul, Int.neg_mul, Int.mul_comm (m / topW)]; omega
  rw [this, accC_add_top]

theorem neg_end (n k c : Int) (h : k - c * 2 ^ (64 * 68) = n - 2 * (n % 2 ^ (64 * 68))) : accC k = accC (-n) := by
  rw [show 64 * 68 = 4352 from rfl] at h
  change k - c * topW = n - 2 * (n % topW) at h
  have e := Int.mul_ediv_add_emod n topW
  have : k = -n + (2 * (n / topW) + c) * topW := by
    rw [Int.add_mul, Int.mul_assoc, Int.mul_comm (n / topW)]; omega
  rw [this, accC_add_top]

/-- Words decide. -/
theorem accC_ext {n m : Int} (h : ∀ i, i < 68 → wd n i = wd m i) : accC n = accC m := accC_of_mod (mod_of_wd n m 68 h)

/-- The sign that the words tell. -/
def sgW (n : Int) : Int := if half ≤ n % topW then -1 else if n % topW = 0 then 0 else 1

theorem top_word (n : Int) : (wd n 67 / 9223372036854775808 != 0) = decide (half ≤ n % topW) := by
  have h1 := wd_nonneg n 67
  have h2 := wd_lt n 67
  have e : n % topW = n % 2 ^ (64 * 67) + wd n 67 * 2 ^ (64 * 67) := low_succ n 67
  have b1 := Int.emod_nonneg n (Int.ne_of_gt (pp (64 * 67)))
  have b2 := Int.emod_lt_of_pos n (pp (64 * 67))
  have hh : half = 9223372036854775808 * 2 ^ (64 * 67) := by
    unfold half
    rw [show 4351 = 63 + 64 * 67 from rfl, pp_add]; rfl
  rw [e, hh]
  have hp := pp (64 * 67)
  generalize (2 : Int) ^ (64 * 67) = A at *
  generalize wd n 67 = d at *
  generalize n % A = r at *
  by_cases c : 9223372036854775808 ≤ d
  · have c1 : d / 9223372036854775808 = 1 := by omega
    have c2 : 9223372036854775808 * A ≤ d * A := Int.mul_le_mul_of_nonneg_right c (by omega)
    have c3 : 9223372036854775808 * A ≤ r + d * A := by omega
    rw [c1, decide_eq_true c3]; rfl
  · have c1 : d / 9223372036854775808 = 0 := by omega
    have c2 : d * A ≤ (9223372036854775808 - 1) * A := Int.mul_le_mul_of_nonneg_right (by omega) (by omega)
    rw [Int.sub_mul] at c2
    have c3 : ¬ 9223372036854775808 * A ≤ r + d * A := by omega
    rw [c1, decide_eq_false c3]; rfl

/-- A word that is not nought: the number is not nought. -/
theorem low_ne (n : Int) (i : Nat) (hi : i < 68) (h : wd n i ≠ 0) : n % topW ≠ 0 := by
  intro h0
  apply h
  have e := mod_of_wd
  have e1 : accC n = accC 0 := accC_of_mod' (by rw [h0]; simp)
  have h1 := accC_get n i hi
  rw [e1, accC_get 0 i hi] at h1
  have h2 : wd 0 i = wd n i := by simpa using h1
  rw [← h2]
  unfold wd; simp

theorem low_eq_zero (n : Int) (k : Nat) (h : ∀ i, i < k → wd n i = 0) : n % 2 ^ (64 * k) = 0 := by
  induction k with
  | zero => exact low_zero n
  | succ k ih => rw [low_succ, ih (fun i hi => h i (by omega)), h k (by omega)]; simp

theorem sgW_neg {n : Int} (h : half ≤ n % topW) : sgW n = -1 := by unfold sgW; rw [if_pos h]
theorem sgW_one {n : Int} (h : ¬ half ≤ n % topW) (i : Nat) (hi : i < 68) (hw : wd n i ≠ 0) : sgW n = 1 := by
  unfold sgW; rw [if_neg h, if_neg (low_ne n i hi hw)]
theorem sgW_zero {n : Int} (h : ∀ i, i < 68 → wd n i = 0) : sgW n = 0 := by
  have := low_eq_zero n 68 h
  change n % topW = 0 at this
  unfold sgW
  rw [this, if_neg (by have := half_pos; omega), if_pos rfl]

/-- The sign of a number in range. -/
theorem sgW_val (n : Int) (h1 : -half ≤ n) (h2 : n < half) : sgW n = if n < 0 then -1 else if n = 0 then 0 else 1 := by
  have ht := top_half
  have hp := half_pos
  unfold sgW
  by_cases c : n < 0
  · have e : n % topW = n + topW := by
      have := Int.add_mul_emod_self_left n topW 1
      rw [← this, Int.emod_eq_of_lt (by omega) (by omega)]; omega
    rw [e, if_pos (by omega), if_pos c]
  · have e : n % topW = n := Int.emod_eq_of_lt (by omega) (by omega)
    rw [e, if_neg (by omega), if_neg c]

/-! ### the order -/
/-- The number shifted so that its signed order is the unsigned one. -/
def up (n : Int) : Int := (n + half) % topW

theorem wd_half (n : Int) (i : Nat) (hi : i < 67) : wd (n + half) i = wd n i := by
  unfold wd half
  have e : (2 : Int) ^ 4351 = 2 ^ (64 * (66 - i) + 63) * 2 ^ 64 * 2 ^ (64 * i) := by
    rw [← pp_add, ← pp_add]; congr 1; omega
  rw [e, Int.add_mul_ediv_right _ _ (Int.ne_of_gt (pp _)), Int.add_mul_emod_self_right]

theorem wd_half_top (n : Int) : wd (n + half) 67 = (wd n 67 + 9223372036854775808) % 18446744073709551616 := by
  unfold wd half
  have e : (2 : Int) ^ 4351 = 9223372036854775808 * 2 ^ (64 * 67) := by
    rw [show 4351 = 63 + 64 * 67 from rfl, pp_add]; rfl
  rw [e, Int.add_mul_ediv_right _ _ (Int.ne_of_gt (pp _))]
  generalize n / 2 ^ (64 * 67) = q
  omega

/-- Where the upper words are one, the lower parts decide. -/
theorem upper_same (N M : Int) (d : Nat) : ∀ i, i + d = 68 → (∀ j, i ≤ j → j < 68 → wd N j = wd M j) → N % topW - N % 2 ^ (64 * i) = M % topW - M % 2 ^ (64 * i) := by
  induction d with
  | zero =>
    intro i hi _
    have : i = 68 := by omega
    subst this
    show N % topW - N % topW = M % topW - M % topW
    omega
  | succ d ih =>
    intro i hi h
    have h1 := ih (i + 1) (by omega) (fun j hj hj' => h j (by omega) hj')
    have h2 := h i (by omega) (by omega)
    rw [low_succ, low_succ M, h2] at h1
    omega

theorem up_lt (n m : Int) (i : Nat) (hi : i < 68) (h : ∀ j, i < j → j < 68 → wd (n + half) j = wd (m + half) j) (hlt : wd (n + half) i < wd (m + half) i) : up n < up m := by
  unfold up
  have h1 := upper_same (n + half) (m + half) (67 - i) (i + 1) (by omega) (fun j hj hj' => h j (by omega) hj')
  rw [low_succ, low_succ (m + half)] at h1
  have b1 := Int.emod_lt_of_pos (n + half) (pp (64 * i))
  have b2 := Int.emod_nonneg (m + half) (Int.ne_of_gt (pp (64 * i)))
  have b3 : (wd (n + half) i + 1) * 2 ^ (64 * i) ≤ wd (m + half) i * 2 ^ (64 * i) := Int.mul_le_mul_of_nonneg_right (by omega) (Int.le_of_lt (pp _))
  rw [Int.add_mul, Int.one_mul] at b3
  omega

theorem up_eq (n m : Int) (h : ∀ j, j < 68 → wd (n + half) j = wd (m + half) j) : up n = up m := mod_of_wd _ _ 68 h

/-- What Cmp answers. -/
def cmpW (n m : Int) : Int := if up n < up m then -1 else if up m < up n then 1 else 0

theorem up_val (n : Int) (h1 : -half ≤ n) (h2 : n < half) : up n = n + half := by
  have := top_half
  exact Int.emod_eq_of_lt (by omega) (by omega)

theorem cmpW_le (n m : Int) (h1 : -half ≤ n) (h2 : n < half) (h3 : -half ≤ m) (h4 : m < half) (h : n ≤ m) : cmpW n m ≤ 0 := by
  unfold cmpW
  rw [up_val n h1 h2, up_val m h3 h4]
  split
  · omega
  · rw [if_neg (by omega)]; omega

/-! ### shifts to the left -/
theorem wd_shl_low (n : Int) (k i : Nat) (hi : i < k / 64) : wd (n * 2 ^ k) i = 0 := by
  unfold wd
  have e : (2 : Int) ^ k = 2 ^ (k - 64 * i - 64) * 2 ^ 64 * 2 ^ (64 * i) := by
    rw [← pp_add, ← pp_add]; congr 1; omega
  rw [e, ← Int.mul_assoc, ← Int.mul_assoc, Int.mul_ediv_cancel _ (Int.ne_of_gt (pp _)), Int.mul_emod_left]

theorem wd_shl (n : Int) (k j : Nat) : wd (n * 2 ^ k) (j + k / 64) = (n * 2 ^ (k % 64) / 2 ^ (64 * j)) % 2 ^ 64 := by
  unfold wd
  have e : (2 : Int) ^ k = 2 ^ (k % 64) * 2 ^ (64 * (k / 64)) := by
    rw [← pp_add]; congr 1; omega
  have e2 : (2 : Int) ^ (64 * (j + k / 64)) = 2 ^ (64 * j) * 2 ^ (64 * (k / 64)) := by
    rw [← pp_add]; congr 1; omega
  rw [e, e2, ← Int.mul_assoc, Int.mul_ediv_mul_of_pos_left _ _ (pp _)]

theorem mul_mod_l (a b m : Int) : (a * b) % m = (a % m * b) % m := by
  rw [Int.mul_emod (a % m) b m, Int.emod_emod, ← Int.mul_emod]

/-- The lowest word that is not empty. -/
theorem wd_shl_0 (n : Int) (k : Nat) : wd (n * 2 ^ k) (k / 64) = (wd n 0 * 2 ^ (k % 64)) % 18446744073709551616 := by
  have h := wd_shl n k 0
  rw [Nat.zero_add] at h
  rw [h]
  have e1 : wd n 0 = n % 18446744073709551616 := by unfold wd; simp
  rw [e1]
  simp only [Nat.mul_zero, Int.pow_zero, Int.ediv_one]
  exact mul_mod_l ..

theorem wd_shl_succ (n : Int) (k j : Nat) : wd (n * 2 ^ k) (j + 1 + k / 64) = (wd n (j + 1) * 2 ^ (k % 64)) % 18446744073709551616 + wd n j / 2 ^ (64 - k % 64) := by
  rw [wd_shl]
  have hs : k % 64 < 64 := Nat.mod_lt _ (by decide)
  generalize k % 64 = s at *
  -- n = q * 2^(64(j+1)) + d * 2^(64 j) + r
  have e1 := Int.mul_ediv_add_emod n (2 ^ (64 * (j + 1)))
  have e2 := low_succ n j
  have b1 := Int.emod_nonneg n (Int.ne_of_gt (pp (64 * j)))
  have b2 := Int.emod_lt_of_pos n (pp (64 * j))
  have d1 := wd_nonneg n j
  have d2 := wd_lt n j
  have hw : wd n (j + 1) = n / 2 ^ (64 * (j + 1)) % 18446744073709551616 := rfl
  rw [hw]
  generalize n / 2 ^ (64 * (j + 1)) = q at *
  rw [e2] at e1
  clear e2 hw
  generalize wd n j = d at *
  generalize n % 2 ^ (64 * j) = r at *
  have eP : (2 : Int) ^ (64 * (j + 1)) = 18446744073709551616 * 2 ^ (64 * j) := by
    rw [show 64 * (j + 1) = 64 + 64 * j from by omega, pp_add]; rfl
  have eS : (18446744073709551616 : Int) = 2 ^ (64 - s) * 2 ^ s := by
    rw [← pp_add, show 64 - s + s = 64 from by omega]; rfl
  have pA := pp (64 * j)
  have pS := pp s
  have pT := pp (64 - s)
  -- d = u * 2^(64-s) + v
  have f1 := Int.mul_ediv_add_emod d (2 ^ (64 - s))
  have f2 := Int.emod_nonneg d (Int.ne_of_gt pT)
  have f3 := Int.emod_lt_of_pos d pT
  have f4 : 0 ≤ d / 2 ^ (64 - s) := Int.ediv_nonneg d1 (by omega)
  have f5 : d / 2 ^ (64 - s) < 2 ^ s := by
    apply Int.ediv_lt_of_lt_mul pT
    rw [Int.mul_comm, ← eS]; exact d2
  generalize d / 2 ^ (64 - s) = u at *
  generalize d % 2 ^ (64 - s) = v at *
  -- the quotient
  have hq : n * 2 ^ s / 2 ^ (64 * (j + 1)) = q * 2 ^ s + u := by
    have : n * 2 ^ s = (v * 2 ^ (64 * j) + r) * 2 ^ s + (q * 2 ^ s + u) * 2 ^ (64 * (j + 1)) := by
      rw [← e1, ← f1, eP, eS]
      generalize (2 : Int) ^ (64 * j) = A
      generalize (2 : Int) ^ s = S
      generalize (2 : Int) ^ (64 - s) = T
      grind
    rw [this, Int.add_mul_ediv_right _ _ (Int.ne_of_gt (pp _))]
    have g1 : 0 ≤ (v * 2 ^ (64 * j) + r) * 2 ^ s := Int.mul_nonneg (Int.add_nonneg (Int.mul_nonneg f2 (by omega)) b1) (by omega)
    have g2 : (v * 2 ^ (64 * j) + r) * 2 ^ s < 2 ^ (64 * (j + 1)) := by
      have a1 : (v + 1) * 2 ^ (64 * j) ≤ 2 ^ (64 - s) * 2 ^ (64 * j) := Int.mul_le_mul_of_nonneg_right (by omega) (by omega)
      rw [Int.add_mul, Int.one_mul] at a1
      have a2 : v * 2 ^ (64 * j) + r < 2 ^ (64 - s) * 2 ^ (64 * j) := by omega
      have a3 : (v * 2 ^ (64 * j) + r) * 2 ^ s < 2 ^ (64 - s) * 2 ^ (64 * j) * 2 ^ s := Int.mul_lt_mul_of_pos_right a2 pS
      rw [eP, eS]
      rw [show (2 : Int) ^ (64 - s) * 2 ^ (64 * j) * 2 ^ s = 2 ^ (64 - s) * 2 ^ s * 2 ^ (64 * j) from by grind] at a3
      exact a3
    rw [Int.ediv_eq_zero_of_lt g1 g2, Int.zero_add]
  rw [hq]
  -- modulo 2^64: the two parts do not meet
  have m1 : (q * 2 ^ s) % 2 ^ 64 = (q % 18446744073709551616 * 2 ^ s) % 18446744073709551616 := by
    exact mul_mod_l ..
  rw [← m1]
  obtain ⟨t, ht⟩ : (2 : Int) ^ s ∣ (q * 2 ^ s) % 2 ^ 64 := by
    rw [Int.emod_def]
    refine Int.dvd_sub (Int.dvd_mul_left ..) (Int.dvd_trans ?_ (Int.dvd_mul_right ..))
    exact ⟨2 ^ (64 - s), by rw [← pp_add, show s + (64 - s) = 64 from by omega]⟩
  have c1 := Int.emod_nonneg (q * 2 ^ s) (b := 2 ^ 64) (by decide)
  have c2 := Int.emod_lt_of_pos (q * 2 ^ s) (b := 2 ^ 64) (by decide)
  have c3 : (q * 2 ^ s) % 2 ^ 64 + u < 2 ^ 64 := by
    rw [ht] at c2 ⊢
    have t1 : t < 2 ^ (64 - s) := by
      rcases Int.lt_or_le t (2 ^ (64 - s)) with hh | hh
      · exact hh
      · have : (2 : Int) ^ s * 2 ^ (64 - s) ≤ 2 ^ s * t := Int.mul_le_mul_of_nonneg_left hh (by omega)
        rw [← pp_add, show s + (64 - s) = 64 from by omega] at this
        omega
    have t2 : (2 : Int) ^ s * t ≤ 2 ^ s * (2 ^ (64 - s) - 1) := Int.mul_le_mul_of_nonneg_left (by omega) (by omega)
    rw [Int.mul_sub, ← pp_add, show s + (64 - s) = 64 from by omega] at t2
    omega
  rw [Int.add_emod, Int.emod_eq_of_lt (a := u) f4 (by
    have : (2 : Int) ^ s ≤ 2 ^ 64 := by
      rw [show (64 : Nat) = (64 - s) + s from by omega, pp_add]
      have : 1 * 2 ^ s ≤ (2 : Int) ^ (64 - s) * 2 ^ s := Int.mul_le_mul_of_nonneg_right (by omega) (by omega)
      omega
    omega), Int.emod_eq_of_lt (by omega) c3]
end Go.Proofs.Ygctac
