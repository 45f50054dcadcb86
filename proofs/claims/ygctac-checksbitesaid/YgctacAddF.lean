/-
  (*Acc).AddFloat, law.accOf, law.accSum, law.accDD: an accumulator gets a float, exactly.
-/
import Derived.Test.YgctacPlaceS
import Derived.Test.YgctacPlaceA
import Derived.Test.YgctacFv
namespace Go.Proofs.Ygctac
open Go.RowKit
open Fp (fv)
set_option linter.unusedVariables false
set_option linter.unusedSimpArgs false

/-- A float's number in the accumulator's units, 2^-2148. -/
def av (p : Nat) : Int := fv p * 2 ^ 1074

theorem place_val (p : Nat) : sMn p * 2 ^ (sEx p + 2148).toNat = sMn p * 2 ^ (sEx p + 1074).toNat * 2 ^ 1074 := by
  have hb := sEx_bounds p
  rw [show (sEx p + 2148).toNat = (sEx p + 1074).toNat + 1074 from by omega, pp_add, Int.mul_assoc]

set_option maxRecDepth 100000 in
set_option maxHeartbeats 1000000 in
theorem addFloat_any (b p : Nat) (n : Int) (hp : p < 18446744073709551616) (hf : Fp.Fin p) (w : World) (hA : AccAt w b n) :
    Calls Tacg.prog 48 #[.pointer (some ⟨b, 0, none⟩), .float .f64 p] w fun r w' => r = .returned (.bool true) ∧ ∃ d, w' = (putB w b (accC (n + av p))).drewN d := by
  have hb := sEx_bounds p
  have hm := sMn_nonneg p
  have hv := place_val p
  have hfin := (fin_iff hp).2 hf
  have hfv := fv_split hp hf
  have d1 : ¬ (1 < sCl p) := by omega
  by_cases hs : sNg p = true
  · have HV : Hid (n - sMn p * 2 ^ (sEx p + 2148).toNat = n + av p) := by
      unfold Hid av
      rw [hfv, if_pos hs, hv, Int.neg_mul]; omega
    clear hv hfv
    go_enter Tacg.func48, Tacg.ntmps48
    go_wp2_with (first | (go_at_call 46; refine (split_any _ hp _).mono ?_; rintro e w' ⟨rfl, rfl⟩) | (go_at_call 116; refine (place_sub b n 0 _ _ (by decide) (by omega) (by omega) (by omega) (by decide) (by omega) _ hA).mono ?_; rintro e w' ⟨rfl, d, rfl⟩))
    go_ret
    exact ⟨rfl, d, by rw [HV.out]⟩
  · have hs' : sNg p = false := by simpa using hs
    have HV : Hid (n + sMn p * 2 ^ (sEx p + 2148).toNat = n + av p) := by
      unfold Hid av
      rw [hfv, if_neg hs, hv]
    clear hv hs hfv
    go_enter Tacg.func48, Tacg.ntmps48
    go_wp2_with (first | (go_at_call 46; refine (split_any _ hp _).mono ?_; rintro e w' ⟨rfl, rfl⟩) | (go_at_call 116; refine (place_add b n 0 _ _ (by decide) (by omega) (by omega) (by omega) (by decide) (by omega) _ hA).mono ?_; rintro e w' ⟨rfl, d, rfl⟩))
    go_ret
    exact ⟨rfl, d, by rw [HV.out]⟩
end Go.Proofs.Ygctac
