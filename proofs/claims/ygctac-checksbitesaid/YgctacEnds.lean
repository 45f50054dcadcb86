/-
  law.ends, law.atMost, law.atLeast, law.zeroOr, law.finite: what they answer.
-/
import Derived.Test.YgctacBase
namespace Go.Proofs.Ygctac
open Go.RowKit

def bitB (m i : Nat) : Bool := decide (m / 2 ^ i % 2 = 1)
def lowTo (m : Nat) : Nat → Int
  | 0 => -1
  | i + 1 => if bitB m i = true ∧ lowTo m i < 0 then (i : Int) else lowTo m i
def highTo (m : Nat) : Nat → Int
  | 0 => -1
  | i + 1 => if bitB m i = true then (i : Int) else highTo m i

theorem bit_test (m k : Nat) (hm : m < 18446744073709551616) : (bits BinOp.and IntKind.u64 (↑m / 2 ^ k) 1 != 0) = bitB m k := by
  have h1 : ((m : Int) / 2 ^ k) = ((m / 2 ^ k : Nat) : Int) := by rw [Int.natCast_ediv, Int.natCast_pow]; rfl
  have h2 : m / 2 ^ k ≤ m := Nat.div_le_self ..
  rw [h1, show (1 : Int) = ((1 : Nat) : Int) from rfl, u64_and_nat _ _ (by omega) (by decide), nat_mask1]
  unfold bitB
  generalize m / 2 ^ k = q
  rcases Nat.mod_two_eq_zero_or_one q with h | h <;> simp [h]

set_option maxHeartbeats 1000000 in
theorem ends_any (m : Nat) (hm : m < 18446744073709551616) (w : World) :
    Calls Tacg.prog 137 #[.int .u64 m] w fun r w' => r = .returned (.tuple #[.int .i64 (lowTo m 64), .int .i64 (highTo m 64)]) ∧ w' = w := by
  go_enter Tacg.func137, Tacg.ntmps137
  go_wp2
  go_loop [2, 3, 4] (fun l h i => ∃ k : Nat, k ≤ 64 ∧ i = .int .i64 k ∧ l = .int .i64 (lowTo m k) ∧ h = .int .i64 (highTo m k)) (fun _ _ i => 64 - (intOf i).toNat)
  case atStart => exact ⟨0, Nat.zero_le _, rfl, rfl, rfl⟩
  case round =>
    obtain ⟨k, hk, rfl, rfl, rfl⟩ := hrel
    by_cases hlt : k < 64
    · have hb := bit_test m k hm
      by_cases c1 : bitB m k = true
      · by_cases c2 : lowTo m k < 0
        · have r1 : Hid (lowTo m (k + 1) = k ∧ highTo m (k + 1) = k) := by simp [Hid, lowTo, highTo, c1, c2]
          go_wp2
          go_round
          case rel => obtain ⟨q1, q2⟩ := r1.out; exact ⟨k + 1, by omega, by go_num, by rw [q1], by rw [q2]⟩
          case measure => simp [intOf]; omega
        · have r1 : Hid (lowTo m (k + 1) = lowTo m k ∧ highTo m (k + 1) = k) := by simp [Hid, lowTo, highTo, c1, c2]
          go_wp2
          go_round
          case rel => obtain ⟨q1, q2⟩ := r1.out; exact ⟨k + 1, by omega, by go_num, by rw [q1], by rw [q2]⟩
          case measure => simp [intOf]; omega
      · have c2 : bitB m k = false := by simpa using c1
        have r1 : Hid (lowTo m (k + 1) = lowTo m k ∧ highTo m (k + 1) = highTo m k) := by simp [Hid, lowTo, highTo, c2]
        clear c1
        go_wp2
        go_round
        case rel => obtain ⟨q1, q2⟩ := r1.out; exact ⟨k + 1, by omega, by go_num, by rw [q1], by rw [q2]⟩
        case measure => simp [intOf]; omega
    · obtain rfl : k = 64 := by omega
      go_wp2
      go_ret2
      exact ⟨rfl, rfl⟩

/-! ### what the two numbers mean -/
theorem bitB_false_of_lt (m i : Nat) (h : m < 2 ^ i) : bitB m i = false := by
  simp [bitB, Nat.div_eq_of_lt h]

theorem highTo_spec (m k : Nat) : m < 2 ^ k → m ≠ 0 → highTo m k = (m.log2 : Int) := by
  induction k with
  | zero => intro h h0; omega
  | succ k ih =>
    intro h h0
    by_cases hb : m < 2 ^ k
    · simp [highTo, bitB_false_of_lt m k hb, ih hb h0]
    · have h1 : m / 2 ^ k = 1 := by
        rw [Nat.pow_succ] at h
        exact Nat.div_eq_of_lt_le (by omega) (by omega)
      have h2 : m.log2 = k := (Nat.log2_eq_iff h0).2 ⟨by omega, h⟩
      simp [highTo, bitB, h1, h2]

theorem lowTo_neg (m k : Nat) : lowTo m k < 0 → m % 2 ^ k = 0 := by
  induction k with
  | zero => intro _; simp [Nat.mod_one]
  | succ k ih =>
    intro h
    simp only [lowTo] at h
    split at h
    · omega
    · rename_i hc
      have h1 := ih h
      have h2 : bitB m k = false := by simpa [h] using hc
      have h3 : m / 2 ^ k % 2 = 0 := by simp [bitB] at h2; omega
      rw [Nat.pow_succ, Nat.mod_mul, h1, h3]; simp

theorem lowTo_spec (m k : Nat) : 0 ≤ lowTo m k → ∃ j : Nat, lowTo m k = j ∧ j < k ∧ m % 2 ^ j = 0 ∧ m / 2 ^ j % 2 = 1 := by
  induction k with
  | zero => intro h; simp [lowTo] at h
  | succ k ih =>
    intro h
    by_cases hc : bitB m k = true ∧ lowTo m k < 0
    · simp only [lowTo, hc, and_self, if_true]
      exact ⟨k, rfl, by omega, lowTo_neg m k hc.2, by simpa [bitB] using hc.1⟩
    · simp only [lowTo, if_neg hc] at h ⊢
      obtain ⟨j, h1, h2, h3⟩ := ih h
      exact ⟨j, h1, by omega, h3⟩

/-- 'low == high': a power of two, and no other. -/
theorem low_eq_high (m : Nat) (hm : m < 2 ^ 64) (h0 : m ≠ 0) : lowTo m 64 = highTo m 64 ↔ m = 2 ^ m.log2 := by
  rw [highTo_spec m 64 hm h0]
  have hl : 0 ≤ lowTo m 64 := by
    rcases Int.lt_or_le (lowTo m 64) 0 with h | h
    · have := lowTo_neg m 64 h
      rw [Nat.mod_eq_of_lt hm] at this
      exact absurd this h0
    · exact h
  obtain ⟨j, e, h2, h3, h4⟩ := lowTo_spec m 64 hl
  rw [e]
  have lo : 2 ^ m.log2 ≤ m := Nat.log2_self_le h0
  have hi : m < 2 ^ (m.log2 + 1) := Nat.lt_log2_self
  have hd := Nat.div_add_mod m (2 ^ j)
  constructor
  · intro h
    have h' : j = m.log2 := by omega
    subst h'
    rw [Nat.pow_succ] at hi
    have h5 : m / 2 ^ m.log2 = 1 := Nat.div_eq_of_lt_le (by omega) (by omega)
    rw [h5, h3] at hd
    omega
  · intro h
    have h6 : j ≤ m.log2 := by
      rcases Nat.lt_or_ge m.log2 j with hh | hh
      · have : m < 2 ^ j := Nat.lt_of_lt_of_le hi (Nat.pow_le_pow_right (by omega) hh)
        rw [Nat.div_eq_of_lt this] at h4
        omega
      · exact hh
    rcases Nat.lt_or_eq_of_le h6 with hh | hh
    · have h7 : m / 2 ^ j = 2 ^ (m.log2 - j) := by
        rw (occs := .pos [1]) [h]
        exact Nat.pow_div h6 (by omega)
      rw [h7, show m.log2 - j = (m.log2 - j - 1) + 1 by omega, Nat.pow_succ] at h4
      omega
    · omega
end Go.Proofs.Ygctac
