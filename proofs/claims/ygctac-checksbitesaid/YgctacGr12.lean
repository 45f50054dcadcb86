/-
  law.apart.
-/
import Derived.Test.YgctacGr11
namespace Go.Proofs.Ygctac
open Go.RowKit
open Fp (fv)
set_option linter.unusedVariables false
set_option linter.unusedSimpArgs false

theorem lowTo_bounds (m k : Nat) : -1 ≤ lowTo m k ∧ lowTo m k < k := by
  induction k with
  | zero => simp [lowTo]
  | succ k ih =>
    unfold lowTo
    split <;> omega
set_option maxRecDepth 100000 in
set_option maxHeartbeats 4000000 in
theorem apart_any (p : Option Addr) (n c : Nat) (f : Nat → Nat) (hn : n ≤ 2098) (hf : ∀ i, i < n → f i < 18446744073709551616) (w : World) (hs : SlV w p n (flX f)) :
    Calls Tacg.prog 143 #[.slice p n c] w fun r w' => r = .returned (.bool (apartN f (-5000) 0 n)) ∧ w' = w := by
  have HF := hide hf
  have HS := hide hs
  clear hf hs
  go_enter Tacg.func143, Tacg.ntmps143
  go_wp2_with fail
  go_loopw [3, 4] (fun s3 s4 w1 => ∃ (L : Int) (i : Nat), s3 = .int .i64 L ∧ s4 = .int .i64 i ∧ i ≤ n ∧ -5000 ≤ L ∧ L ≤ 5000 ∧ w1 = w ∧ Hid (apartN f (-5000) 0 n = apartN f L i (n - i))) (fun _ s4 _ => n - (intOf s4).toNat)
  case atStart => exact ⟨-5000, 0, rfl, rfl, by omega, by omega, by omega, rfl, hide rfl⟩
  case round =>
    obtain ⟨L, i, rfl, rfl, hi, l0, l1, hw, hR⟩ := hrel
    obtain rfl := hw.symm
    clear hw
    by_cases ci : i < n
    · have c' : (i : Int) < (n : Int) := by omega
      obtain ⟨b2, o2, rfl, hcx⟩ := HS.out i ci
      simp only [flX] at hcx
      have hp := HF.out i ci
      obtain ⟨m, hm⟩ := Int.eq_ofNat_of_zero_le (sMn_nonneg (f i)).1
      have hm2 := (sMn_nonneg (f i)).2
      have cs : Hid (∀ w : World, Calls Tacg.prog 46 #[.float .f64 (f i)] w fun r w' => r = .returned (.tuple #[.bool (sNg (f i)), .int .u64 (m : Int), .int .i16 (sEx (f i)), .int .u8 (sCl (f i))]) ∧ w' = w) := by
        intro w
        have := split_any (f i) hp w
        rwa [hm] at this
      have ce := hide (fun W => ends_any m (by omega) W)
      have HE : Hid (apartN f L i (n - i) = (decide (sCl (f i) = 1) && (decide (L < lowTo m 64 + sEx (f i)) && apartN f (highTo m 64 + sEx (f i)) (i + 1) (n - (i + 1))))) := by
        unfold Hid
        rw [show n - i = n - (i + 1) + 1 by omega, apartN, loW, hiW, hm, Int.toNat_natCast]
      have he := sEx_bounds (f i)
      have lb := lowTo_bounds m 64
      have hb := highTo_bounds m 64
      clear hm hm2 hp
      generalize lowTo m 64 = lo at *
      generalize highTo m 64 = hh at *
      generalize sEx (f i) = ex at *
      generalize sCl (f i) = cl at *
      by_cases c1 : cl = 1
      · subst c1
        by_cases c2 : lo + ex ≤ L
        · go_wp2_with (first | (go_at_call 46; refine (cs.out _).mono ?_; rintro e1 w' ⟨rfl, hw⟩; obtain rfl := hw.symm; clear hw) | (go_at_call 137; refine (ce.out _).mono ?_; rintro e1 w' ⟨rfl, hw⟩; obtain rfl := hw.symm; clear hw))
          go_ret
          refine ⟨?_, rfl⟩
          rw [hR.out, HE.out, decide_eq_false (p := L < lo + ex) (by omega)]
          rfl
        · go_wp2_with (first | (go_at_call 46; refine (cs.out _).mono ?_; rintro e1 w' ⟨rfl, hw⟩; obtain rfl := hw.symm; clear hw) | (go_at_call 137; refine (ce.out _).mono ?_; rintro e1 w' ⟨rfl, hw⟩; obtain rfl := hw.symm; clear hw))
          go_roundw
          case rel =>
            refine ⟨hh + ex, i + 1, by go_num, by go_num, by omega, by omega, by omega, trivial, hide ?_⟩
            rw [hR.out, HE.out, decide_eq_true (p := L < lo + ex) (by omega)]
            rfl
          case measure => simp [intOf] <;> omega
      · go_wp2_with (first | (go_at_call 46; refine (cs.out _).mono ?_; rintro e1 w' ⟨rfl, hw⟩; obtain rfl := hw.symm; clear hw) | (go_at_call 137; refine (ce.out _).mono ?_; rintro e1 w' ⟨rfl, hw⟩; obtain rfl := hw.symm; clear hw))
        go_ret
        refine ⟨?_, rfl⟩
        rw [hR.out, HE.out, decide_eq_false c1]
        rfl
    · obtain rfl : i = n := by omega
      go_wp2_with fail
      go_ret
      exact ⟨by rw [hR.out, Nat.sub_self]; rfl, rfl⟩
end Go.Proofs.Ygctac
