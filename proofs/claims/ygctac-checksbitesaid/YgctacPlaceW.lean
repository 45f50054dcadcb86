/-
  The arithmetic of acc.place: three words, then the carry.
-/
import Derived.Test.YgctacAt
import Derived.Test.YgctacMem
namespace Go.Proofs.Ygctac
set_option linter.unusedVariables false

theorem hide {p : Prop} (h : p) : Go.RowKit.Hid p := h

theorem low_sub_range (x y c : Int) : 0 ≤ lowS x y c ∧ lowS x y c < 18446744073709551616 := by unfold lowS; omega
theorem low_add_range (x y c : Int) : 0 ≤ lowA x y c ∧ lowA x y c < 18446744073709551616 := by unfold lowA; omega
theorem bor_range (x y c : Int) : 0 ≤ bor x y c ∧ bor x y c ≤ 1 := by unfold bor; split <;> omega
theorem cry_range (x y c : Int) (hx0 : 0 ≤ x) (hx : x < 18446744073709551616) (hy0 : 0 ≤ y) (hy : y < 18446744073709551616) (hc0 : 0 ≤ c) (hc : c ≤ 1) : 0 ≤ cry x y c ∧ cry x y c ≤ 1 := by unfold cry; omega

theorem p64_succ (j : Nat) : (2 : Int) ^ (64 * (j + 1)) = 18446744073709551616 * 2 ^ (64 * j) := by
  rw [show 64 * (j + 1) = 64 + 64 * j from by omega, pp_add]; rfl

theorem step_sub (m x c : Int) (j : Nat) (hx0 : 0 ≤ x) (hx : x < 18446744073709551616) (hc0 : 0 ≤ c) (hc : c ≤ 1) :
    m + (lowS (wd m j) x c - wd m j) * 2 ^ (64 * j) - bor (wd m j) x c * 2 ^ (64 * (j + 1)) = m - c * 2 ^ (64 * j) - x * 2 ^ (64 * j) := by
  have h1 := wd_nonneg m j
  have h2 := wd_lt m j
  generalize wd m j = d at *
  have e : lowS d x c = d - x - c + 18446744073709551616 * bor d x c := by
    unfold lowS bor; split <;> omega
  rw [e, p64_succ]
  generalize bor d x c = k
  generalize (2 : Int) ^ (64 * j) = T
  grind

theorem step_add (m x c : Int) (j : Nat) :
    m + (lowA (wd m j) x c - wd m j) * 2 ^ (64 * j) + cry (wd m j) x c * 2 ^ (64 * (j + 1)) = m + c * 2 ^ (64 * j) + x * 2 ^ (64 * j) := by
  generalize wd m j = d at *
  have e : lowA d x c = d + x + c - 18446744073709551616 * cry d x c := by
    unfold lowA cry; omega
  rw [e, p64_succ]
  generalize cry d x c = k
  generalize (2 : Int) ^ (64 * j) = T
  grind

/-- The three words. -/
def plP (lo i : Int) : Int := IntKind.u64.wrap (lo * 2 ^ (i % 64).toNat)
def plQ (hi lo i : Int) : Int := bits BinOp.or IntKind.u64 (IntKind.u64.wrap (hi * 2 ^ (i % 64).toNat)) (lo / 2 ^ (64 - i % 64).toNat)
def plR (hi i : Int) : Int := hi / 2 ^ (64 - i % 64).toNat

theorem wrap_u64 (n : Int) : IntKind.u64.wrap n = n % 18446744073709551616 := by simp [IntKind.wrap, IntKind.bits, IntKind.signed]

theorem wrap_i64 (n : Int) (h1 : -9223372036854775808 ≤ n) (h2 : n < 9223372036854775808) : IntKind.i64.wrap n = n := by
  simp [IntKind.wrap, IntKind.bits, IntKind.signed]; omega

theorem split_shift (x : Int) (s : Nat) (hs : s ≤ 64) (hx0 : 0 ≤ x) :
    x * 2 ^ s = (x * 2 ^ s) % 18446744073709551616 + 18446744073709551616 * (x / 2 ^ (64 - s)) ∧ (2 : Int) ^ s ∣ (x * 2 ^ s) % 18446744073709551616 := by
  have hT : (2 : Int) ^ 64 = 2 ^ (64 - s) * 2 ^ s := by rw [← pp_add]; congr 1; omega
  have e1 := Int.mul_ediv_add_emod x (2 ^ (64 - s))
  have b1 := Int.emod_nonneg x (Int.ne_of_gt (pp (64 - s)))
  have b2 := Int.emod_lt_of_pos x (pp (64 - s))
  have ps := pp s
  have pt := pp (64 - s)
  rw [show (18446744073709551616 : Int) = 2 ^ 64 from rfl, hT]
  generalize (2 : Int) ^ (64 - s) = A at *
  generalize (2 : Int) ^ s = B at *
  generalize x / A = q at *
  generalize x % A = r at *
  have e2 : x * B = r * B + A * B * q := by rw [← e1]; grind
  have b3 : r * B < A * B := Int.mul_lt_mul_of_pos_right b2 ps
  have b4 : 0 ≤ r * B := Int.mul_nonneg b1 (by omega)
  have e3 : (x * B) % (A * B) = r * B := by rw [e2, Int.add_mul_emod_self_left, Int.emod_eq_of_lt b4 b3]
  rw [e3]
  exact ⟨e2, Int.dvd_mul_left ..⟩

theorem or_words (a c : Int) (s : Nat) (hs : s ≤ 64) (ha0 : 0 ≤ a) (ha : a < 18446744073709551616) (hd : (2 : Int) ^ s ∣ a) (hc0 : 0 ≤ c) (hc : c < 2 ^ s) (hc' : c < 18446744073709551616) :
    bits BinOp.or IntKind.u64 a c = a + c := by
  obtain ⟨A, rfl⟩ := Int.eq_ofNat_of_zero_le ha0
  obtain ⟨C, rfl⟩ := Int.eq_ofNat_of_zero_le hc0
  rw [u64_or_nat _ _ (by omega) (by omega)]
  have h1 : A % 2 ^ s = 0 := by
    obtain ⟨k, hk⟩ := hd
    have : ((2 ^ s : Nat) : Int) ∣ (A : Int) := ⟨k, by rw [hk, Int.natCast_pow]; rfl⟩
    exact Nat.mod_eq_zero_of_dvd (Int.natCast_dvd_natCast.1 this)
  have h2 : C < 2 ^ s := by
    have : ((C : Nat) : Int) < ((2 ^ s : Nat) : Int) := by rw [Int.natCast_pow]; exact hc
    omega
  rw [nat_join s A C h1 h2]; rfl

/-- What the three words make: the number at its place. -/
theorem place_words (hi lo i : Int) (h1 : 0 ≤ hi) (h2 : 0 ≤ lo) (h3 : 0 ≤ i) (h5 : hi < 18446744073709551616) (h6 : lo < 18446744073709551616) :
    (0 ≤ plP lo i ∧ plP lo i < 18446744073709551616) ∧ (0 ≤ plQ hi lo i ∧ plQ hi lo i < 18446744073709551616) ∧ (0 ≤ plR hi i ∧ plR hi i < 18446744073709551616) ∧
    plP lo i * 2 ^ (64 * (i / 64).toNat) + plQ hi lo i * 2 ^ (64 * ((i / 64).toNat + 1)) + plR hi i * 2 ^ (64 * ((i / 64).toNat + 1 + 1)) = (hi * 18446744073709551616 + lo) * 2 ^ i.toNat := by
  obtain ⟨k, rfl⟩ := Int.eq_ofNat_of_zero_le h3
  have es : ((k : Int) % 64).toNat = k % 64 := by omega
  have et : (64 - (k : Int) % 64).toNat = 64 - k % 64 := by omega
  have ew : ((k : Int) / 64).toNat = k / 64 := by omega
  have hs : k % 64 ≤ 64 := by omega
  obtain ⟨a1, a2⟩ := split_shift lo (k % 64) hs h2
  obtain ⟨b1, b2⟩ := split_shift hi (k % 64) hs h1
  have c1 : 0 ≤ lo / 2 ^ (64 - k % 64) := Int.ediv_nonneg h2 (Int.le_of_lt (pp _))
  have c2 : lo / 2 ^ (64 - k % 64) < 2 ^ (k % 64) := by
    apply Int.ediv_lt_of_lt_mul (pp _)
    rw [← pp_add, show k % 64 + (64 - k % 64) = 64 from by omega]
    exact h6
  have c3 : lo / 2 ^ (64 - k % 64) ≤ lo := Int.ediv_le_self _ h2
  have c4 : 0 ≤ hi / 2 ^ (64 - k % 64) := Int.ediv_nonneg h1 (Int.le_of_lt (pp _))
  have c5 : hi / 2 ^ (64 - k % 64) ≤ hi := Int.ediv_le_self _ h1
  have d1 : 0 ≤ (hi * 2 ^ (k % 64)) % 18446744073709551616 := by omega
  have d2 : (hi * 2 ^ (k % 64)) % 18446744073709551616 < 18446744073709551616 := by omega
  have eq : plQ hi lo k = (hi * 2 ^ (k % 64)) % 18446744073709551616 + lo / 2 ^ (64 - k % 64) := by
    unfold plQ
    rw [es, et, wrap_u64]
    exact or_words _ _ (k % 64) hs d1 d2 b2 c1 c2 (by omega)
  have eP : plP lo k = (lo * 2 ^ (k % 64)) % 18446744073709551616 := by unfold plP; rw [es, wrap_u64]
  have eR : plR hi k = hi / 2 ^ (64 - k % 64) := by unfold plR; rw [et]
  have d3 : plQ hi lo k < 18446744073709551616 := by
    rw [eq]
    obtain ⟨t, ht⟩ := b2
    have hp : (18446744073709551616 : Int) = 2 ^ (k % 64) * 2 ^ (64 - k % 64) := by rw [← pp_add, show k % 64 + (64 - k % 64) = 64 from by omega]; rfl
    rw [ht] at d2 ⊢
    have e : t < 2 ^ (64 - k % 64) := by
      rcases Int.lt_or_le t (2 ^ (64 - k % 64)) with hh | hh
      · exact hh
      · have : (2 : Int) ^ (k % 64) * 2 ^ (64 - k % 64) ≤ 2 ^ (k % 64) * t := Int.mul_le_mul_of_nonneg_left hh (Int.le_of_lt (pp _))
        omega
    have : (2 : Int) ^ (k % 64) * t ≤ 2 ^ (k % 64) * (2 ^ (64 - k % 64) - 1) := Int.mul_le_mul_of_nonneg_left (by omega) (Int.le_of_lt (pp _))
    rw [Int.mul_sub] at this
    omega
  refine ⟨by rw [eP]; omega, ⟨by rw [eq]; omega, d3⟩, by rw [eR]; omega, ?_⟩
  rw [eP, eq, eR, ew, p64_succ, p64_succ, p64_succ]
  have e2 : (2 : Int) ^ (k : Int).toNat = 2 ^ (k % 64) * 2 ^ (64 * (k / 64)) := by
    rw [← pp_add]; congr 1; omega
  rw [e2]
  generalize (lo * 2 ^ (k % 64)) % 18446744073709551616 = u at *
  generalize (hi * 2 ^ (k % 64)) % 18446744073709551616 = v at *
  generalize lo / 2 ^ (64 - k % 64) = x at *
  generalize hi / 2 ^ (64 - k % 64) = y at *
  generalize (2 : Int) ^ (64 * (k / 64)) = T at *
  generalize (2 : Int) ^ (k % 64) = S at *
  have : (hi * 18446744073709551616 + lo) * (S * T) = (hi * S * 18446744073709551616 + lo * S) * T := by grind
  rw [this, a1, b1]
  grind
end Go.Proofs.Ygctac
