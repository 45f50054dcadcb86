/-
  acc.place, subtracting.
-/
import Derived.Test.YgctacPlaceW
import Derived.Deep.RegionWith
import Derived.Deep.QuietTactic
import Derived.BigQuiet
import Derived.Deep.DeepCutAuto
namespace Go.Proofs.Ygctac
open Go.RowKit
set_option linter.unusedVariables false
set_option linter.unusedSimpArgs false

set_option maxRecDepth 100000 in
set_option maxHeartbeats 4000000 in
theorem place_sub (b : Nat) (n hi lo i : Int) (h1 : 0 ≤ hi) (h2 : 0 ≤ lo) (h3 : 0 ≤ i) (h4 : i < 4160) (h5 : hi < 18446744073709551616) (h6 : lo < 18446744073709551616) (w : World) (hA : AccAt w b n) :
    Calls Tacg.prog 116 #[.pointer (some ⟨b, 0, none⟩), .bool true, .int .u64 hi, .int .u64 lo, .int .i64 i] w fun r w' => r = .returned (.tuple #[]) ∧ ∃ d, w' = (putB w b (accC (n - (hi * 18446744073709551616 + lo) * 2 ^ i.toNat))).drewN d := by
  have q1 : 0 ≤ i % 64 := by omega
  have q2 : i % 64 < 64 := by omega
  obtain ⟨⟨p0, p1⟩, ⟨r0, r1⟩, ⟨t0, t1⟩, hsum⟩ := place_words hi lo i h1 h2 h3 h5 h6
  have HS := hide hsum
  clear hsum
  go_enter Tacg.func116, Tacg.ntmps116
  go_wp2_with fail
  go_cut [10, 12, 13, 14] (fun s10 s12 s13 s14 w1 => ∃ (W : Nat) (d : Nat), s10 = .int .i64 W ∧ s12 = .int .u64 (plP lo i) ∧ s13 = .int .u64 (plQ hi lo i) ∧ s14 = .int .u64 (plR hi i) ∧ W = (i / 64).toNat ∧ w1 = w.drewN d)
  case first =>
    go_quiet (fail)
    go_wp2_with fail
    go_meet
    refine ⟨(i / 64).toNat, nq, ?_, rfl, rfl, rfl, rfl, rfl⟩
    rw [Int.toNat_of_nonneg (by omega)]
  case rest =>
    obtain ⟨W, d, rfl, rfl, rfl, rfl, HW0, rfl⟩ := hcut
    have HW := hide HW0
    have hW0 : (0 : Int) ≤ (W : Int) := by omega
    have hW1 : (W : Int) < 65 := by omega
    clear HW0 hW0
    generalize plP lo i = p at *
    generalize plQ hi lo i = q at *
    generalize plR hi i = r at *
    go_wp2_with fail
    go_cut [15] (fun s15 w1 => ∃ (c m : Int) (d : Nat), s15 = .int .u64 c ∧ 0 ≤ c ∧ c ≤ 1 ∧ Hid (m - c * 2 ^ (64 * (W + 1)) = n - p * 2 ^ (64 * W)) ∧ w1 = (putB w b (accC m)).drewN d)
    case first =>
      have hc := hA.cell W (by omega)
      have hf := hA.frozen W
      have hw1 := wd_nonneg n W
      have hw2 := wd_lt n W
      go_region_with (go_at_call 160; refine (sub_any _ _ _ hw1 p0 p1 (by decide) (by decide) _).mono ?_; rintro e w' ⟨rfl, rfl⟩)
      all_goals (go_wp2_with fail)
      go_meet
      refine ⟨_, _, d + 1, rfl, (bor_range _ _ _).1, (bor_range _ _ _).2, step_sub n p 0 W p0 p1 (by decide) (by decide) |>.trans ?_, ?_⟩
      · omega
      · exact hA.setCell_d W _ (low_sub_range _ _ _).1 (low_sub_range _ _ _).2 _
    case rest =>
      obtain ⟨c, m, d, rfl, c0, c1, Hm, rfl⟩ := hcut
      have hA1 := hA.put m
      have hAp := hide hA
      clear hA
      go_wp2_with fail
      go_cut [15] (fun s15 w1 => ∃ (c m : Int) (d : Nat), s15 = .int .u64 c ∧ 0 ≤ c ∧ c ≤ 1 ∧ Hid (m - c * 2 ^ (64 * (W + 1 + 1)) = n - p * 2 ^ (64 * W) - q * 2 ^ (64 * (W + 1))) ∧ w1 = (putB w b (accC m)).drewN d)
      case first =>
        have hx0 : (0 : Int) ≤ (W : Int) + 1 := by omega
        have hx1 : (W : Int) + 1 < 68 := by omega
        have hx2 := wrap_i64 ((W : Int) + 1) (by omega) (by omega)
        have hc := hA1.cell (W + 1) (by omega)
        have hf := hA1.frozen (W + 1)
        have hw1 := wd_nonneg m (W + 1)
        have hw2 := wd_lt m (W + 1)
        go_region_with (go_at_call 160; refine (sub_any _ _ _ hw1 r0 r1 c0 c1 _).mono ?_; rintro e w' ⟨rfl, rfl⟩)
        all_goals (go_wp2_with fail)
        go_meet
        refine ⟨_, _, d + 1, rfl, (bor_range _ _ _).1, (bor_range _ _ _).2, (step_sub m q c (W + 1) r0 r1 c0 c1).trans ?_, ?_⟩
        · rw [Hm.out]
        · exact hA1.setCell_pd (W + 1) _ (low_sub_range _ _ _).1 (low_sub_range _ _ _).2 _
      case rest =>
        clear hA1 Hm
        obtain ⟨c, m, d, rfl, c0, c1, Hm, rfl⟩ := hcut
        have hA1 := hAp.out.put m
        go_wp2_with fail
        go_cut [15] (fun s15 w1 => ∃ (c m : Int) (d : Nat), s15 = .int .u64 c ∧ 0 ≤ c ∧ c ≤ 1 ∧ Hid (m - c * 2 ^ (64 * (W + 1 + 1 + 1)) = n - p * 2 ^ (64 * W) - q * 2 ^ (64 * (W + 1)) - r * 2 ^ (64 * (W + 1 + 1))) ∧ w1 = (putB w b (accC m)).drewN d)
        case first =>
          have hx0 : (0 : Int) ≤ (W : Int) + 2 := by omega
          have hx1 : (W : Int) + 2 < 68 := by omega
          have hx2 := wrap_i64 ((W : Int) + 2) (by omega) (by omega)
          have hx3 : ((W : Int) + 2).toNat = W + 2 := by omega
          have hc := hA1.cell (W + 2) (by omega)
          have hf := hA1.frozen (W + 2)
          have hw1 := wd_nonneg m (W + 2)
          have hw2 := wd_lt m (W + 2)
          go_region_with (go_at_call 160; refine (sub_any _ _ _ hw1 t0 t1 c0 c1 _).mono ?_; rintro e w' ⟨rfl, rfl⟩)
          all_goals (go_wp2_with fail)
          go_meet
          refine ⟨_, _, d + 1, rfl, (bor_range _ _ _).1, (bor_range _ _ _).2, (step_sub m r c (W + 2) t0 t1 c0 c1).trans ?_, ?_⟩
          · rw [Hm.out]
          · exact hA1.setCell_pd (W + 2) _ (low_sub_range _ _ _).1 (low_sub_range _ _ _).2 _
        case rest =>
          clear hA1 Hm
          obtain ⟨c, m, d, rfl, c0, c1, Hm0, rfl⟩ := hcut
          obtain ⟨N, HN⟩ : ∃ N : Int, Hid (N = (hi * 18446744073709551616 + lo) * 2 ^ i.toNat) := ⟨_, rfl⟩
          have Hm : Hid (m - c * 2 ^ (64 * (W + 3)) = n - N) := by
            have h1 := Hm0.out
            have h2 := HS.out
            rw [← HW.out] at h2
            have h3 : m - c * 2 ^ (64 * (W + 3)) = n - (p * 2 ^ (64 * W) + q * 2 ^ (64 * (W + 1)) + r * 2 ^ (64 * (W + 1 + 1))) := by
              rw [show W + 3 = W + 1 + 1 + 1 from rfl, h1]; omega
            rw [h3, h2, HN.out]; rfl
          clear Hm0 HS HW p0 p1 r0 r1 t0 t1
          go_wp2_with fail
          go_loopw [15, 16] (fun s15 s16 w1 => ∃ (c m : Int) (d j : Nat), s15 = .int .u64 c ∧ s16 = .int .i64 j ∧ j ≤ 68 ∧ 0 ≤ c ∧ c ≤ 1 ∧ Hid (m - c * 2 ^ (64 * j) = n - N) ∧ w1 = (putB w b (accC m)).drewN d) (fun _ s16 _ => 68 - (intOf s16).toNat)
          case atStart => exact ⟨c, m, d, W + 3, rfl, by go_num, by omega, c0, c1, Hm, rfl⟩
          case round =>
            clear Hm c0 c1 hW1 q1 q2 h1 h2 h3 h4 h5 h6
            obtain ⟨c, m, d, j, rfl, rfl, hj, c0, c1, Hm, rfl⟩ := hrel
            have hA1 := hAp.out.put m
            by_cases hlt : j < 68
            · have cc : c = 0 ∨ c = 1 := by omega
              rcases cc with rfl | rfl
              · clear hA1
                go_wp2
                refine bodyPost_ret (results_none (by rfl) _ _ _) rfl ?_
                refine ⟨rfl, d, ?_⟩
                have := Hm.out
                simp only [Int.zero_mul, Int.sub_zero] at this
                rw [this, HN.out]
              · have hj1 : (j : Int) < 68 := by omega
                have hc := hA1.cell j (by omega)
                have hf := hA1.frozen j
                have hw1 := wd_nonneg m j
                have hw2 := wd_lt m j
                go_wp2_with fail
                go_region_with (go_at_call 160; refine (sub_any _ _ _ hw1 (by decide) (by decide) (by decide) (by decide) _).mono ?_; rintro e w' ⟨rfl, rfl⟩)
                all_goals (go_wp2_with fail)
                go_roundw
                case rel =>
                  refine ⟨_, _, d + 1, j + 1, rfl, by go_num, by omega, (bor_range _ _ _).1, (bor_range _ _ _).2, (step_sub m 0 1 j (by decide) (by decide) (by decide) (by decide)).trans ?_, ?_⟩
                  · rw [Hm.out]; simp
                  · exact hA1.setCell_pd j _ (low_sub_range _ _ _).1 (low_sub_range _ _ _).2 _
                case measure => simp [intOf]; omega
            · obtain rfl : j = 68 := by omega
              go_wp2
              refine bodyPost_ret (results_none (by rfl) _ _ _) rfl ?_
              refine ⟨rfl, d, ?_⟩
              have e : m = n - N + c * 2 ^ 4352 := by have := Hm.out; rw [show 64 * 68 = 4352 from rfl] at this; generalize (2 : Int) ^ 4352 = M at *; omega
              rw [e, accC_wrap, HN.out]
end Go.Proofs.Ygctac
