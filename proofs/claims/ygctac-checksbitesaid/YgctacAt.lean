/-
  law.finite, law.atMost, law.atLeast, law.zeroOr: what they answer.
-/
import Derived.Test.YgctacEnds
namespace Go.Proofs.Ygctac
open Go.RowKit

theorem ret_bool {a b : Bool} (h : a = b) : Ending.returned (.bool a) = .returned (.bool b) := by rw [h]

def finB (p : Nat) : Bool := decide (sCl p ≤ 1)

theorem finite_any (p : Nat) (hp : p < 18446744073709551616) (w : World) :
    Calls Tacg.prog 132 #[.float .f64 p] w fun r w' => r = .returned (.bool (finB p)) ∧ w' = w := by
  have h : Hid (finB p = decide (sCl p ≤ 1)) := rfl
  go_enter Tacg.func132, Tacg.ntmps132
  go_wp2_with (go_at_call 46; refine (split_any _ hp _).mono ?_; rintro e w' ⟨rfl, rfl⟩)
  go_ret
  exact ⟨ret_bool h.out.symm, rfl⟩

theorem sEx_bounds (p : Nat) : -1074 ≤ sEx p ∧ sEx p ≤ 971 := by
  have := sF_lt p
  unfold sEx
  split
  · omega
  · split
    · omega
    · split <;> omega

theorem sMn_nonneg (p : Nat) : 0 ≤ sMn p ∧ sMn p < 9007199254740992 := by
  have := sM_lt p
  unfold sMn
  split
  · omega
  · split <;> omega

theorem highTo_bounds (m k : Nat) : -1 ≤ highTo m k ∧ highTo m k < k := by
  induction k with
  | zero => simp [highTo]
  | succ k ih => simp only [highTo]; split <;> omega

def atMostB (p : Nat) (e : Int) : Bool :=
  if sCl p = 1 then decide (sEx p + highTo (sMn p).toNat 64 < e) || (sEx p + highTo (sMn p).toNat 64 == e && lowTo (sMn p).toNat 64 == highTo (sMn p).toNat 64) else sCl p == 0

set_option maxHeartbeats 1000000 in
theorem atMost_any (p : Nat) (hp : p < 18446744073709551616) (e : Int) (w : World) :
    Calls Tacg.prog 65 #[.float .f64 p, .int .i64 e] w fun r w' => r = .returned (.bool (atMostB p e)) ∧ w' = w := by
  have hb := sEx_bounds p
  have hm := sMn_nonneg p
  obtain ⟨m, em⟩ := Int.eq_ofNat_of_zero_le hm.1
  have hh := highTo_bounds m 64
  by_cases c1 : sCl p = 1
  · have d1 : (sCl p != 1) = false := by simp [c1]
    have h : Hid (atMostB p e = (decide (sEx p + highTo m 64 < e) || (sEx p + highTo m 64 == e && lowTo m 64 == highTo m 64))) := by
      simp [Hid, atMostB, c1, em]
    clear c1
    by_cases c2 : sEx p + highTo m 64 < e
    · go_enter Tacg.func65, Tacg.ntmps65
      go_wp2_with (first | (go_at_call 46; refine (split_any _ hp _).mono ?_; rintro e w' ⟨rfl, rfl⟩) | (go_at_call 137; refine (ends_any m (by omega) _).mono ?_; rintro e w' ⟨rfl, rfl⟩))
      go_ret
      exact ⟨ret_bool (by rw [h.out]; simp [c2]), rfl⟩
    · by_cases c3 : sEx p + highTo m 64 = e
      · have c4 : (sEx p + highTo m 64 == e) = true := by simp [c3]
        have H3 : Hid (sEx p + highTo m 64 = e) := c3
        clear c3
        go_enter Tacg.func65, Tacg.ntmps65
        go_wp2_with (first | (go_at_call 46; refine (split_any _ hp _).mono ?_; rintro e w' ⟨rfl, rfl⟩) | (go_at_call 137; refine (ends_any m (by omega) _).mono ?_; rintro e w' ⟨rfl, rfl⟩))
        go_ret
        exact ⟨ret_bool (by rw [h.out]; simp [H3.out]), rfl⟩
      · have c4 : (sEx p + highTo m 64 == e) = false := by simpa using c3
        go_enter Tacg.func65, Tacg.ntmps65
        go_wp2_with (first | (go_at_call 46; refine (split_any _ hp _).mono ?_; rintro e w' ⟨rfl, rfl⟩) | (go_at_call 137; refine (ends_any m (by omega) _).mono ?_; rintro e w' ⟨rfl, rfl⟩))
        go_ret
        exact ⟨ret_bool (by rw [h.out]; simp [c4]), rfl⟩
  · have d1 : (sCl p != 1) = true := by simpa using c1
    have h : Hid (atMostB p e = (sCl p == 0)) := by simp [Hid, atMostB, c1]
    clear c1
    go_enter Tacg.func65, Tacg.ntmps65
    go_wp2_with (go_at_call 46; refine (split_any _ hp _).mono ?_; rintro e w' ⟨rfl, rfl⟩)
    go_ret
    exact ⟨ret_bool h.out.symm, rfl⟩

def atLeastB (p : Nat) (e : Int) : Bool := if sCl p = 1 then decide (e ≤ sEx p + highTo (sMn p).toNat 64) else false

set_option maxHeartbeats 1000000 in
theorem atLeast_any (p : Nat) (hp : p < 18446744073709551616) (e : Int) (w : World) :
    Calls Tacg.prog 169 #[.float .f64 p, .int .i64 e] w fun r w' => r = .returned (.bool (atLeastB p e)) ∧ w' = w := by
  have hb := sEx_bounds p
  have hm := sMn_nonneg p
  obtain ⟨m, em⟩ := Int.eq_ofNat_of_zero_le hm.1
  have hh := highTo_bounds m 64
  by_cases c1 : sCl p = 1
  · have d1 : (sCl p != 1) = false := by simp [c1]
    have h : Hid (atLeastB p e = decide (e ≤ sEx p + highTo m 64)) := by simp [Hid, atLeastB, c1, em]
    clear c1
    go_enter Tacg.func169, Tacg.ntmps169
    go_wp2_with (first | (go_at_call 46; refine (split_any _ hp _).mono ?_; rintro e w' ⟨rfl, rfl⟩) | (go_at_call 137; refine (ends_any m (by omega) _).mono ?_; rintro e w' ⟨rfl, rfl⟩))
    go_ret
    exact ⟨ret_bool h.out.symm, rfl⟩
  · have d1 : (sCl p != 1) = true := by simpa using c1
    have h : Hid (atLeastB p e = false) := by simp [Hid, atLeastB, c1]
    clear c1
    go_enter Tacg.func169, Tacg.ntmps169
    go_wp2_with (go_at_call 46; refine (split_any _ hp _).mono ?_; rintro e w' ⟨rfl, rfl⟩)
    go_ret
    exact ⟨ret_bool h.out.symm, rfl⟩

def zeroOrB (p : Nat) (lo hi : Int) : Bool := sCl p == 0 || (atLeastB p lo && atMostB p hi)

set_option maxHeartbeats 1000000 in
theorem zeroOr_any (p : Nat) (hp : p < 18446744073709551616) (lo hi : Int) (w : World) :
    Calls Tacg.prog 127 #[.float .f64 p, .int .i64 lo, .int .i64 hi] w fun r w' => r = .returned (.bool (zeroOrB p lo hi)) ∧ w' = w := by
  by_cases c1 : sCl p = 0
  · have d1 : (sCl p == 0) = true := by simp [c1]
    have h : Hid (zeroOrB p lo hi = true) := by simp [Hid, zeroOrB, c1]
    clear c1
    go_enter Tacg.func127, Tacg.ntmps127
    go_wp2_with (go_at_call 46; refine (split_any _ hp _).mono ?_; rintro e w' ⟨rfl, rfl⟩)
    go_ret
    exact ⟨ret_bool h.out.symm, rfl⟩
  · have d1 : (sCl p == 0) = false := by simpa using c1
    clear c1
    by_cases c2 : atLeastB p lo = true
    · have h : Hid (zeroOrB p lo hi = atMostB p hi) := by simp [Hid, zeroOrB, d1, c2]
      go_enter Tacg.func127, Tacg.ntmps127
      go_wp2_with (first | (go_at_call 46; refine (split_any _ hp _).mono ?_; rintro e w' ⟨rfl, rfl⟩) | (go_at_call 169; refine (atLeast_any _ hp _ _).mono ?_; rintro e w' ⟨rfl, rfl⟩) | (go_at_call 65; refine (atMost_any _ hp _ _).mono ?_; rintro e w' ⟨rfl, rfl⟩))
      go_ret
      exact ⟨ret_bool h.out.symm, rfl⟩
    · have c3 : atLeastB p lo = false := by simpa using c2
      have h : Hid (zeroOrB p lo hi = false) := by simp [Hid, zeroOrB, d1, c3]
      clear c2
      go_enter Tacg.func127, Tacg.ntmps127
      go_wp2_with (first | (go_at_call 46; refine (split_any _ hp _).mono ?_; rintro e w' ⟨rfl, rfl⟩) | (go_at_call 169; refine (atLeast_any _ hp _ _).mono ?_; rintro e w' ⟨rfl, rfl⟩))
      go_ret
      exact ⟨ret_bool h.out.symm, rfl⟩
end Go.Proofs.Ygctac
