/-
  (*Acc).Add, (*Acc).Neg: sum and negative, modulo 2^4352.
-/
import Derived.Test.YgctacAccVal
import Derived.Test.YgctacWords2
import Derived.Deep.RegionWith
namespace Go.Proofs.Ygctac
open Go.RowKit
set_option linter.unusedVariables false
set_option linter.unusedSimpArgs false

theorem step_neg (k y : Int) (i : Nat) (y0 : 0 ≤ y) (y1 : y ≤ 1) :
    k + (lowS 0 (wd k i) y - wd k i) * 2 ^ (64 * i) - bor 0 (wd k i) y * 2 ^ (64 * (i + 1)) = k - y * 2 ^ (64 * i) - 2 * (wd k i * 2 ^ (64 * i)) := by
  have h1 := wd_nonneg k i
  have h2 := wd_lt k i
  generalize wd k i = d at *
  have e : lowS 0 d y = 0 - d - y + 18446744073709551616 * bor 0 d y := by
    unfold lowS bor; split <;> omega
  rw [e, p64_succ]
  generalize bor 0 d y = t
  generalize (2 : Int) ^ (64 * i) = T
  grind

set_option maxRecDepth 100000 in
set_option maxHeartbeats 4000000 in
theorem accAdd_any (b c : Nat) (n m : Int) (hbc : b ≠ c) (w : World) (hA : AccAt w b n) (hC : AccAt w c m) :
    Calls Tacg.prog 55 #[.pointer (some ⟨b, 0, none⟩), .pointer (some ⟨c, 0, none⟩)] w fun r w' => r = .returned (.tuple #[]) ∧ ∃ d, w' = (putB w b (accC (n + m))).drewN d := by
  have H0 : Hid (AccAt w b n) := hA
  have H1 : Hid (AccAt w c m) := hC
  clear hA hC
  go_enter Tacg.func55, Tacg.ntmps55
  go_wp2
  go_loopw [4, 5] (fun s4 s5 w1 => ∃ (y k : Int) (d i : Nat), s4 = .int .u64 y ∧ s5 = .int .i64 i ∧ i ≤ 68 ∧ 0 ≤ y ∧ y ≤ 1 ∧ Hid (k + y * 2 ^ (64 * i) = n + m % 2 ^ (64 * i)) ∧ w1 = (putB w b (accC k)).drewN d) (fun _ s5 _ => 68 - (intOf s5).toNat)
  case atStart =>
    refine ⟨0, n, 0, 0, rfl, rfl, by omega, by omega, by omega, ?_, ?_⟩
    · unfold Hid; rw [low_zero]; simp
    · rw [H0.out.put_self]; rfl
  case round =>
    obtain ⟨y, k, d, i, rfl, rfl, hi, y0, y1, Hk, rfl⟩ := hrel
    have hA := H0.out.put k
    have hC := H1.out.other (Ne.symm hbc) (accC k)
    by_cases hlt : i < 68
    · have hi1 : (i : Int) < 68 := by omega
      have c1 := hA.cell i hlt
      have c2 := hC.cell i hlt
      have hf := hA.frozen i
      have a1 := wd_nonneg k i
      have a2 := wd_lt k i
      have b1 := wd_nonneg m i
      have b2 := wd_lt m i
      have HA := hide hA
      clear hA hC
      go_wp2_with fail
      go_region_with (go_at_call 129; refine (add_any _ _ _ a1 b1 y0 y1 _).mono ?_; rintro e w' ⟨rfl, rfl⟩)
      all_goals (go_wp2_with fail)
      all_goals
        go_roundw
        case rel =>
          refine ⟨_, _, d + 1, i + 1, rfl, by go_num, by omega, (cry_range _ _ _ a1 a2 b1 b2 y0 y1).1, (cry_range _ _ _ a1 a2 b1 b2 y0 y1).2, (step_add k (wd m i) y i).trans ?_, ?_⟩
          · rw [Hk.out, low_succ]; omega
          · exact HA.out.setCell_pd i _ (low_add_range _ _ _).1 (low_add_range _ _ _).2 _
        case measure => simp [intOf]; omega
    · obtain rfl : i = 68 := by omega
      go_wp2
      go_end0
      refine ⟨rfl, d, ?_⟩
      rw [add_end n m k y Hk.out]

set_option maxRecDepth 100000 in
set_option maxHeartbeats 4000000 in
theorem accNeg_any (b : Nat) (n : Int) (w : World) (hA : AccAt w b n) :
    Calls Tacg.prog 130 #[.pointer (some ⟨b, 0, none⟩)] w fun r w' => r = .returned (.tuple #[]) ∧ ∃ d, w' = (putB w b (accC (-n))).drewN d := by
  have H0 : Hid (AccAt w b n) := hA
  clear hA
  go_enter Tacg.func130, Tacg.ntmps130
  go_wp2
  go_loopw [2, 3] (fun s2 s3 w1 => ∃ (y k : Int) (d i : Nat), s2 = .int .u64 y ∧ s3 = .int .i64 i ∧ i ≤ 68 ∧ 0 ≤ y ∧ y ≤ 1 ∧ Hid (k - y * 2 ^ (64 * i) = n - 2 * (n % 2 ^ (64 * i))) ∧ Hid (∀ j, i ≤ j → wd k j = wd n j) ∧ w1 = (putB w b (accC k)).drewN d) (fun _ s3 _ => 68 - (intOf s3).toNat)
  case atStart =>
    refine ⟨0, n, 0, 0, rfl, rfl, by omega, by omega, by omega, ?_, fun _ _ => rfl, ?_⟩
    · unfold Hid; rw [low_zero]; simp
    · rw [H0.out.put_self]; rfl
  case round =>
    obtain ⟨y, k, d, i, rfl, rfl, hi, y0, y1, Hk, Hw, rfl⟩ := hrel
    have hA := H0.out.put k
    by_cases hlt : i < 68
    · have hi1 : (i : Int) < 68 := by omega
      have c1 := hA.cell i hlt
      have hf := hA.frozen i
      have a1 := wd_nonneg k i
      have a2 := wd_lt k i
      have HA := hide hA
      clear hA
      go_wp2_with fail
      go_region_with (go_at_call 160; refine (sub_any _ _ _ (by decide) a1 a2 y0 y1 _).mono ?_; rintro e w' ⟨rfl, rfl⟩)
      all_goals (go_wp2_with fail)
      all_goals
        go_roundw
        case rel =>
          have hv := low_sub_range 0 (wd k i) y
          refine ⟨_, _, d + 1, i + 1, rfl, by go_num, by omega, (bor_range 0 (wd k i) y).1, (bor_range 0 (wd k i) y).2, (step_neg k y i y0 y1).trans ?_, ?_, HA.out.setCell_pd i _ hv.1 hv.2 _⟩
          · rw [Hk.out, low_succ, Hw.out i (Nat.le_refl _)]
            generalize wd n i * 2 ^ (64 * i) = t
            omega
          · intro j hj
            rw [wd_set k _ i j hv.1 hv.2, if_neg (by omega)]
            exact Hw.out j (by omega)
        case measure => simp [intOf]; omega
    · obtain rfl : i = 68 := by omega
      go_wp2
      go_end0
      refine ⟨rfl, d, ?_⟩
      rw [neg_end n k y Hk.out]

set_option maxRecDepth 100000 in
set_option maxHeartbeats 4000000 in
theorem accSign_any (b : Nat) (n : Int) (w : World) (hA : AccAt w b n) :
    Calls Tacg.prog 131 #[.pointer (some ⟨b, 0, none⟩)] w fun r w' => r = .returned (.int .i8 (sgW n)) ∧ w' = w := by
  have c67 := hA.cell 67 (by decide)
  have ht := top_word n
  by_cases hn : half ≤ n % topW
  · have hd : (wd n 67 / 9223372036854775808 != 0) = true := by rw [ht]; simp [hn]
    have HR := hide (sgW_neg hn)
    clear ht hn hA
    go_enter Tacg.func131, Tacg.ntmps131
    go_wp2
    go_ret
    exact ⟨by rw [HR.out]; rfl, rfl⟩
  · have hd : (wd n 67 / 9223372036854775808 != 0) = false := by rw [ht]; simp [hn]
    have HN := hide hn
    clear ht hn
    have H0 := hide hA
    clear hA
    go_enter Tacg.func131, Tacg.ntmps131
    go_wp2
    clear hd c67
    go_loop [3] (fun s3 => ∃ i : Nat, s3 = .int .i64 i ∧ i ≤ 68 ∧ Hid (∀ j, j < i → wd n j = 0)) (fun s3 => 68 - (intOf s3).toNat)
    case atStart => exact ⟨0, rfl, by omega, fun j hj => absurd hj (by omega)⟩
    case round =>
      obtain ⟨i, rfl, hi, Hz⟩ := hrel
      by_cases hlt : i < 68
      · have hi1 : (i : Int) < 68 := by omega
        have c1 := H0.out.cell i hlt
        by_cases hz : wd n i = 0
        · have hq : (wd n i != 0) = false := by simp [hz]
          have HZ := hide hz
          clear hz
          go_wp2
          go_round
          case rel =>
            refine ⟨i + 1, by go_num, by omega, fun j hj => ?_⟩
            rcases Nat.lt_or_ge j i with h | h
            · exact Hz.out j h
            · obtain rfl : j = i := by omega
              exact HZ.out
          case measure => simp [intOf]; omega
        · have hq : (wd n i != 0) = true := by simp [hz]
          have HR := hide (sgW_one (by have := HN.out; omega) i hlt hz)
          clear hz
          go_wp2
          go_ret
          exact ⟨by rw [HR.out]; rfl, rfl⟩
      · obtain rfl : i = 68 := by omega
        have HR := hide (sgW_zero Hz.out)
        go_wp2
        go_ret
        exact ⟨by rw [HR.out]; rfl, rfl⟩

/-- What Abs leaves. -/
def absW (n : Int) : Int := if sgW n < 0 then -n else n

theorem absW_val (n : Int) (h1 : -half < n) (h2 : n < half) : absW n = (n.natAbs : Int) := by
  unfold absW
  rw [sgW_val n (by omega) h2]
  by_cases c : n < 0
  · rw [if_pos c, if_pos (by omega)]; omega
  · rw [if_neg c]
    by_cases c2 : n = 0
    · rw [if_pos c2, if_neg (by omega)]; omega
    · rw [if_neg c2, if_neg (by omega)]; omega

set_option maxRecDepth 100000 in
theorem accAbs_any (b : Nat) (n : Int) (w : World) (hA : AccAt w b n) :
    Calls Tacg.prog 58 #[.pointer (some ⟨b, 0, none⟩)] w fun r w' => r = .returned (.tuple #[]) ∧ ∃ d, w' = (putB w b (accC (absW n))).drewN d := by
  by_cases h : sgW n < 0
  · have HR : Hid (absW n = -n) := by simp [Hid, absW, h]
    go_enter Tacg.func58, Tacg.ntmps58
    go_wp2_with (first | (go_at_call 131; refine (accSign_any b n _ hA).mono ?_; rintro e w' ⟨rfl, rfl⟩) | (go_at_call 130; refine (accNeg_any b n _ hA).mono ?_; rintro e w' ⟨rfl, d, rfl⟩))
    go_end0
    exact ⟨rfl, d, by rw [HR.out]⟩
  · have HR : Hid (absW n = n) := by simp [Hid, absW, h]
    go_enter Tacg.func58, Tacg.ntmps58
    go_wp2_with (go_at_call 131; refine (accSign_any b n _ hA).mono ?_; rintro e w' ⟨rfl, rfl⟩)
    go_end0
    exact ⟨rfl, 0, by rw [HR.out, hA.put_self]; rfl⟩
end Go.Proofs.Ygctac
