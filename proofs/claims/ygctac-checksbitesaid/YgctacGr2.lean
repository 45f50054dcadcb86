/-
  Words that lie apart: what law.apart tests, and what it comes to for numbers.
-/
import Derived.Test.YgctacGr1
import Derived.Test.YgctacFv
namespace Go.Proofs.Ygctac
open Fp (fv Sep)

def loW (p : Nat) : Int := lowTo (sMn p).toNat 64 + sEx p
def hiW (p : Nat) : Int := highTo (sMn p).toNat 64 + sEx p

theorem one_of {p : Nat} (hp : p < 18446744073709551616) (hf : Fp.Fin p) (h0 : fv p ≠ 0) : sCl p = 1 := by
  have h1 := (fin_iff hp).2 hf
  have h2 := mt (zero_iff hp hf).1 h0
  have h3 : 0 ≤ sCl p := by
    unfold sCl
    split
    · split <;> omega
    · split
      · omega
      · split <;> omega
  omega
theorem fin_of_one {p : Nat} (hp : p < 18446744073709551616) (h : sCl p = 1) : Fp.Fin p ∧ fv p ≠ 0 := by
  have hf := (fin_iff hp).1 (by omega)
  exact ⟨hf, fun h0 => by have := (zero_iff hp hf).2 h0; omega⟩
/-- The places of a number's lowest and highest 1. -/
theorem lo_hi {p : Nat} (hp : p < 18446744073709551616) (hf : Fp.Fin p) (h0 : fv p ≠ 0) :
    ∃ j t l : Nat, loW p + 1074 = j ∧ hiW p + 1074 = l ∧ j ≤ l ∧ (fv p).natAbs = 2 ^ j * (2 * t + 1) ∧ 2 ^ l ≤ (fv p).natAbs := by
  have ha := fv_abs hp hf
  have hm := sMn_nonneg p
  have he := sEx_bounds p
  have hE : ((sEx p + 1074).toNat : Int) = sEx p + 1074 := by omega
  generalize (sEx p + 1074).toNat = E at ha hE
  obtain ⟨m, hm'⟩ := Int.eq_ofNat_of_zero_le hm.1
  have hmN : (sMn p).toNat = m := by omega
  have hm0 : m ≠ 0 := by
    rintro rfl
    rw [hm'] at ha
    simp at ha
    exact h0 ha
  have hab : (fv p).natAbs = m * 2 ^ E := by
    rw [hm', ← Fp.natp2_cast] at ha
    exact_mod_cast ha
  have hlt : m < 2 ^ 64 := by omega
  have hh := highTo_spec m 64 hlt hm0
  have hlo : 0 ≤ lowTo m 64 := by
    rcases Int.lt_or_le (lowTo m 64) 0 with c | c
    · have := lowTo_neg m 64 c
      rw [Nat.mod_eq_of_lt hlt] at this
      exact absurd this hm0
    · exact c
  obtain ⟨j, hj, -, hj1, hj2⟩ := lowTo_spec m 64 hlo
  have hl2 := Nat.log2_self_le hm0
  have hm2 : m = 2 ^ j * (2 * (m / 2 ^ j / 2) + 1) := by
    have e1 := Nat.div_add_mod m (2 ^ j)
    have e2 : 2 * (m / 2 ^ j / 2) + 1 = m / 2 ^ j := by omega
    rw [e2]
    omega
  have hjl : j ≤ m.log2 := by
    refine (Nat.le_log2 hm0).2 ?_
    rw [hm2]
    exact Nat.le_mul_of_pos_right _ (by omega)
  refine ⟨j + E, m / 2 ^ j / 2, m.log2 + E, ?_, ?_, by omega, ?_, ?_⟩
  · rw [loW, hmN, hj]; omega
  · rw [hiW, hmN, hh]; omega
  · rw [hab, Nat.pow_add, Nat.mul_assoc, Nat.mul_comm (2 ^ E), ← Nat.mul_assoc, ← hm2]
  · rw [hab, Nat.pow_add]
    exact Nat.mul_le_mul_right _ hl2
theorem lo_le_hi {p : Nat} (hp : p < 18446744073709551616) (h : sCl p = 1) : loW p ≤ hiW p ∧ -1074 ≤ loW p := by
  obtain ⟨hf, h0⟩ := fin_of_one hp h
  obtain ⟨j, t, l, h1, h2, h3, -⟩ := lo_hi hp hf h0
  omega
theorem sep_words {p q : Nat} (hp : p < 18446744073709551616) (hq : q < 18446744073709551616) (fp : Fp.Fin p) (fq : Fp.Fin q) (p0 : fv p ≠ 0) (q0 : fv q ≠ 0) (h : Sep (fv p) (fv q)) : hiW p < loW q := by
  obtain ⟨k, hd, hl⟩ := h
  obtain ⟨j, t, l, h1, h2, h3, h4, h5⟩ := lo_hi hp fp p0
  obtain ⟨j', t', l', h1', h2', h3', h4', h5'⟩ := lo_hi hq fq q0
  have hk : k ≤ j' := by
    rcases Nat.lt_or_ge j' k with c | c
    · have hd' : 2 ^ k ∣ (fv q).natAbs := by
        have := Int.natAbs_dvd_natAbs.2 hd
        rwa [Int.natAbs_pow] at this
      have h6 : 2 ^ (j' + 1) ∣ 2 ^ j' * (2 * t' + 1) := by
        rw [← h4']
        exact Nat.dvd_trans (Nat.pow_dvd_pow 2 c) hd'
      rw [Nat.pow_succ] at h6
      have h7 := Nat.dvd_of_mul_dvd_mul_left (Nat.two_pow_pos j') h6
      omega
    · exact c
  have hlk : l < k := by
    have : 2 ^ l < 2 ^ k := by
      rw [← Fp.natp2_cast] at hl
      omega
    exact (Nat.pow_lt_pow_iff_right (by decide)).1 this
  omega

def apartN (f : Nat → Nat) : Int → Nat → Nat → Bool
  | _, _, 0 => true
  | last, i, n + 1 => decide (sCl (f i) = 1) && (decide (last < loW (f i)) && apartN f (hiW (f i)) (i + 1) n)
theorem apartN_iff (f : Nat → Nat) : ∀ (n : Nat) (last : Int) (i : Nat), apartN f last i n = true ↔ (∀ j, j < n → sCl (f (i + j)) = 1) ∧ (0 < n → last < loW (f i)) ∧ ∀ j, j + 1 < n → hiW (f (i + j)) < loW (f (i + j + 1))
  | 0, last, i => by simp [apartN]
  | n + 1, last, i => by
    rw [apartN, Bool.and_eq_true, Bool.and_eq_true, decide_eq_true_eq, decide_eq_true_eq, apartN_iff f n]
    constructor
    · rintro ⟨h1, h2, h3, h4, h5⟩
      refine ⟨fun j hj => ?_, fun _ => h2, fun j hj => ?_⟩
      · cases j with
        | zero => exact h1
        | succ j => rw [show i + (j + 1) = i + 1 + j by omega]; exact h3 j (by omega)
      · cases j with
        | zero => exact h4 (by omega)
        | succ j => rw [show i + (j + 1) = i + 1 + j by omega]; exact h5 j (by omega)
    · rintro ⟨h1, h2, h3⟩
      refine ⟨h1 0 (by omega), h2 (by omega), fun j hj => ?_, fun hn => h3 0 (by omega), fun j hj => ?_⟩
      · rw [show i + 1 + j = i + (j + 1) by omega]; exact h1 (j + 1) (by omega)
      · rw [show i + 1 + j = i + (j + 1) by omega]; exact h3 (j + 1) (by omega)

/-- The numbers of 'n' words from place 'o' on. -/
def vals (f : Nat → Nat) : Nat → Nat → List Int
  | _, 0 => []
  | o, n + 1 => fv (f o) :: vals f (o + 1) n
theorem vals_len (f : Nat → Nat) : ∀ (n o : Nat), (vals f o n).length = n
  | 0, _ => rfl
  | n + 1, o => by simp [vals, vals_len f n]
theorem mem_vals (f : Nat → Nat) {x : Int} : ∀ (n o : Nat), x ∈ vals f o n ↔ ∃ j, j < n ∧ x = fv (f (o + j))
  | 0, o => by simp [vals]
  | n + 1, o => by
    rw [vals, List.mem_cons, mem_vals f n]
    constructor
    · rintro (rfl | ⟨j, hj, rfl⟩)
      · exact ⟨0, by omega, rfl⟩
      · exact ⟨j + 1, by omega, by rw [show o + 1 + j = o + (j + 1) by omega]⟩
    · rintro ⟨j, hj, rfl⟩
      cases j with
      | zero => exact .inl rfl
      | succ j => exact .inr ⟨j, by omega, by rw [show o + (j + 1) = o + 1 + j by omega]⟩
theorem vals_congr {f g : Nat → Nat} : ∀ (n o : Nat), (∀ j, j < n → f (o + j) = g (o + j)) → vals f o n = vals g o n
  | 0, _, _ => rfl
  | n + 1, o, h => by
    have h1 : vals f (o + 1) n = vals g (o + 1) n := vals_congr n (o + 1) fun j hj => by rw [show o + 1 + j = o + (j + 1) by omega]; exact h _ (by omega)
    have := h 0 (by omega)
    simp only [Nat.add_zero] at this
    rw [vals, vals, h1, this]
theorem vals_last (f : Nat → Nat) : ∀ (n o : Nat), vals f o (n + 1) = vals f o n ++ [fv (f (o + n))]
  | 0, o => rfl
  | n + 1, o => by
    rw [vals, vals_last f n (o + 1), vals, List.cons_append, show o + 1 + n = o + (n + 1) by omega]
theorem exps_vals {f : Nat → Nat} : ∀ (n o : Nat), Fp.Exps (vals f o n) → ∀ i j, i < j → j < n → Sep (fv (f (o + i))) (fv (f (o + j)))
  | 0, _, _, _, _, _, h => absurd h (by omega)
  | n + 1, o, h, i, j, hij, hj => by
    rw [vals] at h
    obtain ⟨h1, h2⟩ := h
    cases i with
    | zero => exact h1 _ ((mem_vals f n (o + 1)).2 ⟨j - 1, by omega, by rw [show o + 1 + (j - 1) = o + j by omega]⟩)
    | succ i =>
      have := exps_vals n (o + 1) h2 i (j - 1) (by omega) (by omega)
      rwa [show o + 1 + i = o + (i + 1) by omega, show o + 1 + (j - 1) = o + j by omega] at this
/-- Partials that do not overlap lie apart. -/
theorem apart_of {f : Nat → Nat} {n : Nat} (hw : ∀ i, i < n → f i < 18446744073709551616) (hf : ∀ i, i < n → Fp.Fin (f i)) (h0 : ∀ i, i < n → fv (f i) ≠ 0) (hs : Fp.Exps (vals f 0 n)) : apartN f (-5000) 0 n = true := by
  refine (apartN_iff f n (-5000) 0).2 ⟨fun j hj => ?_, fun hn => ?_, fun j hj => ?_⟩
  · rw [Nat.zero_add]; exact one_of (hw j hj) (hf j hj) (h0 j hj)
  · have := lo_le_hi (hw 0 hn) (one_of (hw 0 hn) (hf 0 hn) (h0 0 hn)); omega
  · have := exps_vals n 0 hs j (j + 1) (by omega) hj
    simp only [Nat.zero_add] at this ⊢
    exact sep_words (hw _ (by omega)) (hw _ hj) (hf _ (by omega)) (hf _ hj) (h0 _ (by omega)) (h0 _ hj) this
/-- One word that is no finite number but zero: not apart. -/
theorem apart_bad {f : Nat → Nat} {n i : Nat} (hi : i < n) (h : sCl (f i) ≠ 1) : apartN f (-5000) 0 n = false := by
  refine Bool.eq_false_iff.2 fun hh => h ?_
  have := ((apartN_iff f n (-5000) 0).1 hh).1 i hi
  rwa [Nat.zero_add] at this
/-- Two neighbours changed places: not apart. -/
theorem apart_swap {f g : Nat → Nat} {n i : Nat} (hi : i + 1 < n) (hw : ∀ i, i < n → f i < 18446744073709551616) (h : apartN f (-5000) 0 n = true) (h1 : g i = f (i + 1)) (h2 : g (i + 1) = f i) : apartN g (-5000) 0 n = false := by
  refine Bool.eq_false_iff.2 fun hh => ?_
  obtain ⟨a1, -, a3⟩ := (apartN_iff f n (-5000) 0).1 h
  obtain ⟨b1, -, b3⟩ := (apartN_iff g n (-5000) 0).1 hh
  have c1 := a3 i hi
  have c2 := b3 i hi
  have d1 := a1 i (by omega)
  have d2 := a1 (i + 1) hi
  simp only [Nat.zero_add] at c1 c2 d1 d2
  rw [h1, h2] at c2
  have l1 := lo_le_hi (hw i (by omega)) d1
  have l2 := lo_le_hi (hw (i + 1) hi) d2
  omega
end Go.Proofs.Ygctac
