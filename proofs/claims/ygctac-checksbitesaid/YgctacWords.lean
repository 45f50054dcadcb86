/-
  THE ACCUMULATOR's WORDS: a whole number modulo 2^4352 as 68 words, and what it is to change one word. Plain arithmetic: no Go in sight.
-/
import GoSem.Core.Value
import GoSem.Core.World
namespace Go.Proofs.Ygctac

theorem pp (e : Nat) : (0 : Int) < 2 ^ e := Int.pow_pos (by decide)
theorem pp_add (a b : Nat) : (2 : Int) ^ (a + b) = 2 ^ a * 2 ^ b := Int.pow_add ..

/-- Word i of n. -/
def wd (n : Int) (i : Nat) : Int := n / 2 ^ (64 * i) % 2 ^ 64

theorem wd_nonneg (n : Int) (i : Nat) : 0 ≤ wd n i := Int.emod_nonneg _ (by decide)
theorem wd_lt (n : Int) (i : Nat) : wd n i < 18446744073709551616 := Int.emod_lt_of_pos _ (by decide)

theorem ediv_pp (n : Int) (a b : Nat) : n / 2 ^ (a + b) = n / 2 ^ a / 2 ^ b := by
  rw [pp_add, Int.ediv_ediv_of_nonneg (Int.le_of_lt (pp a))]

/-- One word is changed, the others stay. -/
theorem wd_set (n v : Int) (j i : Nat) (hv0 : 0 ≤ v) (hv : v < 18446744073709551616) :
    wd (n + (v - wd n j) * 2 ^ (64 * j)) i = if i = j then v else wd n i := by
  have hd : (n + (v - wd n j) * 2 ^ (64 * j)) / 2 ^ (64 * j) = n / 2 ^ (64 * j) + (v - wd n j) := by
    rw [Int.add_mul_ediv_right _ _ (Int.ne_of_gt (pp _))]
  have hq : n / 2 ^ (64 * j) = 18446744073709551616 * (n / 2 ^ (64 * j) / 2 ^ 64) + wd n j := by
    unfold wd
    have := Int.mul_ediv_add_emod (n / 2 ^ (64 * j)) (2 ^ 64)
    omega
  rcases Nat.lt_trichotomy i j with h | h | h
  · rw [if_neg (by omega)]
    obtain ⟨d, hd'⟩ := Nat.exists_eq_add_of_lt h
    unfold wd
    have e : (2 : Int) ^ (64 * j) = 2 ^ (64 * d) * 2 ^ 64 * 2 ^ (64 * i) := by
      rw [← pp_add, ← pp_add]; congr 1; omega
    rw [e, ← Int.mul_assoc, Int.add_mul_ediv_right _ _ (Int.ne_of_gt (pp _)), ← Int.mul_assoc, Int.add_mul_emod_self_right]
  · subst h
    rw [if_pos rfl]
    rw [show wd (n + (v - wd n i) * 2 ^ (64 * i)) i = (n + (v - wd n i) * 2 ^ (64 * i)) / 2 ^ (64 * i) % 2 ^ 64 from rfl, hd]
    omega
  · rw [if_neg (by omega)]
    obtain ⟨d, hd'⟩ := Nat.exists_eq_add_of_lt h
    have key : ∀ m : Int, m / 2 ^ (64 * i) = m / 2 ^ (64 * j) / 2 ^ 64 / 2 ^ (64 * d) := by
      intro m
      rw [← ediv_pp, ← ediv_pp]; congr 2; omega
    unfold wd
    rw [key, key n]
    have : (n + (v - wd n j) * 2 ^ (64 * j)) / 2 ^ (64 * j) / 2 ^ 64 = n / 2 ^ (64 * j) / 2 ^ 64 := by
      rw [hd]; omega
    unfold wd at this
    rw [this]

/-- The words do not see what lies above them. -/
theorem wd_wrap (n c : Int) (i : Nat) (hi : i < 68) : wd (n + c * 2 ^ 4352) i = wd n i := by
  unfold wd
  have e : (2 : Int) ^ 4352 = 2 ^ (64 * (67 - i)) * 2 ^ 64 * 2 ^ (64 * i) := by
    rw [← pp_add, ← pp_add]; congr 1; omega
  rw [e, ← Int.mul_assoc, Int.add_mul_ediv_right _ _ (Int.ne_of_gt (pp _)), ← Int.mul_assoc, Int.add_mul_emod_self_right]

def toW (n : Int) : List Int := (List.range 68).map (wd n)

theorem toW_length (n : Int) : (toW n).length = 68 := by simp [toW]
theorem toW_get (n : Int) (i : Nat) (hi : i < 68) : (toW n)[i]? = some (wd n i) := by
  simp [toW, hi]

theorem toW_set (n v : Int) (j : Nat) (hv0 : 0 ≤ v) (hv : v < 18446744073709551616) :
    (toW n).set j v = toW (n + (v - wd n j) * 2 ^ (64 * j)) := by
  apply List.ext_getElem?
  intro i
  by_cases hi : i < 68
  · rw [toW_get _ _ hi, wd_set n v j i hv0 hv, List.getElem?_set]
    by_cases e : i = j
    · subst e; simp [toW_length, hi]
    · rw [if_neg (by omega), toW_get _ _ hi, if_neg e]
  · rw [List.getElem?_eq_none (by simp [toW_length]; omega), List.getElem?_eq_none (by simp [toW_length]; omega)]

theorem toW_wrap (n c : Int) : toW (n + c * 2 ^ 4352) = toW n := by
  apply List.map_congr_left
  intro i hi
  exact wd_wrap n c i (by simpa using hi)

/-- The cells of an accumulator that holds n. -/
def accC (n : Int) : Array Value := ((toW n).map (Value.int .u64)).toArray

theorem accC_size (n : Int) : (accC n).size = 68 := by simp [accC, toW_length]
theorem accC_get (n : Int) (i : Nat) (hi : i < 68) : (accC n)[i]? = some (.int .u64 (wd n i)) := by
  simp [accC, toW_get n i hi]
theorem accC_wrap (n c : Int) : accC (n + c * 2 ^ 4352) = accC n := by rw [accC, accC, toW_wrap]
theorem accC_set (n v : Int) (j : Nat) (hv0 : 0 ≤ v) (hv : v < 18446744073709551616) :
    (accC n).setIfInBounds j (.int .u64 v) = accC (n + (v - wd n j) * 2 ^ (64 * j)) := by
  rw [accC, accC, List.setIfInBounds_toArray, ← toW_set n v j hv0 hv, List.map_set]

/-- The number below 2^4352 that the words make. -/
theorem wd_sum (n : Int) (k : Nat) : ∃ r : Int, 0 ≤ r ∧ r < 2 ^ (64 * k) ∧ n = n / 2 ^ (64 * k) * 2 ^ (64 * k) + r :=
  ⟨n % 2 ^ (64 * k), Int.emod_nonneg _ (Int.ne_of_gt (pp _)), Int.emod_lt_of_pos _ (pp _), by rw [Int.mul_comm]; exact (Int.mul_ediv_add_emod ..).symm⟩

/-- Same words: same number modulo 2^(64k). -/
theorem mod_of_wd (n m : Int) (k : Nat) (h : ∀ i, i < k → wd n i = wd m i) : n % 2 ^ (64 * k) = m % 2 ^ (64 * k) := by
  induction k with
  | zero => simp
  | succ k ih =>
    have h1 := ih (fun i hi => h i (by omega))
    have h2 := h k (by omega)
    unfold wd at h2
    have key : ∀ x : Int, x % 2 ^ (64 * (k + 1)) = x % 2 ^ (64 * k) + 2 ^ (64 * k) * (x / 2 ^ (64 * k) % 2 ^ 64) := by
      intro x
      rw [show 64 * (k + 1) = 64 * k + 64 from by omega, pp_add]
      have hp := pp (64 * k)
      generalize (2 : Int) ^ (64 * k) = A at hp ⊢
      have e1 := Int.mul_ediv_add_emod x A
      have e2 := Int.mul_ediv_add_emod (x / A) (2 ^ 64)
      have b1 := Int.emod_nonneg x (Int.ne_of_gt hp)
      have b2 := Int.emod_lt_of_pos x hp
      have b3 := Int.emod_nonneg (x / A) (b := 2 ^ 64) (by decide)
      have b4 := Int.emod_lt_of_pos (x / A) (b := 2 ^ 64) (by decide)
      generalize x % A = r at *
      generalize x / A = y at *
      generalize y % 2 ^ 64 = t at *
      generalize y / 2 ^ 64 = u at *
      have e3 : x = r + A * t + A * 2 ^ 64 * u := by
        rw [← e1, ← e2, Int.mul_add, ← Int.mul_assoc]; omega
      have b5 : 0 ≤ A * t := Int.mul_nonneg (by omega) b3
      have b6 : A * t ≤ A * (2 ^ 64 - 1) := Int.mul_le_mul_of_nonneg_left (by omega) (by omega)
      rw [e3, Int.add_mul_emod_self_left, Int.emod_eq_of_lt (by omega) (by rw [Int.mul_sub] at b6; omega)]
    rw [key, key, h1, h2]

theorem accC_inj {n m : Int} (h : accC n = accC m) : n % 2 ^ 4352 = m % 2 ^ 4352 := by
  refine mod_of_wd n m 68 (fun i hi => ?_)
  have h1 := accC_get n i hi
  rw [h, accC_get m i hi] at h1
  simpa using h1.symm

theorem accC_of_mod {n m : Int} (h : n % 2 ^ 4352 = m % 2 ^ 4352) : accC n = accC m := by
  have h1 := Int.mul_ediv_add_emod n (2 ^ 4352)
  have h2 := Int.mul_ediv_add_emod m (2 ^ 4352)
  have : n = m + (n / 2 ^ 4352 - m / 2 ^ 4352) * 2 ^ 4352 := by
    generalize (2 : Int) ^ 4352 = M at *
    rw [Int.sub_mul, Int.mul_comm (n / M), Int.mul_comm (m / M)]; omega
  rw [this, accC_wrap]
end Go.Proofs.Ygctac
