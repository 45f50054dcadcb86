/-
  acc.Cmp.
-/
import Derived.Test.YgctacAccShl
namespace Go.Proofs.Ygctac
open Go.RowKit
set_option linter.unusedVariables false
set_option linter.unusedSimpArgs false

theorem xor_top (n : Int) : bits .xor .u64 (wd n 67) 9223372036854775808 = wd (n + half) 67 := by
  have h1 := wd_nonneg n 67
  have h2 := wd_lt n 67
  rw [wd_half_top]
  obtain ⟨d, hd⟩ := Int.eq_ofNat_of_zero_le h1
  rw [hd] at h2 ⊢
  rw [show (9223372036854775808 : Int) = ((9223372036854775808 : Nat) : Int) from rfl, u64_xor_nat d 9223372036854775808 (by omega) (by decide)]
  have key : d ^^^ 9223372036854775808 = (d + 9223372036854775808) % 18446744073709551616 := by
    have hb : d < 2 ^ 64 := by omega
    by_cases c : d < 2 ^ 63
    · have e : d ^^^ 2 ^ 63 = 2 ^ 63 + d := by
        rw [Nat.xor_comm]
        have := nat_join 63 (2 ^ 63) d (by decide) c
        rw [← this]
        apply Nat.eq_of_testBit_eq
        intro i
        rw [Nat.testBit_xor, Nat.testBit_or, Nat.testBit_two_pow]
        by_cases hi : 63 = i
        · subst hi
          rw [Nat.testBit_lt_two_pow c]; simp
        · simp [hi]
      show d ^^^ 2 ^ 63 = _
      rw [e]; omega
    · obtain ⟨r, hr⟩ := Nat.exists_eq_add_of_le (Nat.le_of_not_lt c)
      have hr' : r < 2 ^ 63 := by omega
      have e : (2 ^ 63 + r) ^^^ 2 ^ 63 = r := by
        have h3 := nat_join 63 (2 ^ 63) r (by decide) hr'
        rw [← h3]
        apply Nat.eq_of_testBit_eq
        intro i
        rw [Nat.testBit_xor, Nat.testBit_or, Nat.testBit_two_pow]
        by_cases hi : 63 = i
        · subst hi
          rw [Nat.testBit_lt_two_pow hr']; simp
        · simp [hi]
      show d ^^^ 2 ^ 63 = _
      rw [hr, e]; omega
  rw [key]; omega

set_option maxRecDepth 100000 in
set_option maxHeartbeats 4000000 in
theorem accCmp_any (b c : Nat) (n m : Int) (w : World) (hA : AccAt w b n) (hC : AccAt w c m) :
    Calls Tacg.prog 60 #[.pointer (some ⟨b, 0, none⟩), .pointer (some ⟨c, 0, none⟩)] w fun r w' => r = .returned (.int .i8 (cmpW n m)) ∧ ∃ d, w' = w.drewN d := by
  have H0 := hide hA
  have H1 := hide hC
  have x1 := xor_top n
  have x2 := xor_top m
  have c1 := hA.cell 67 (by decide)
  have c2 := hC.cell 67 (by decide)
  clear hA hC
  go_enter Tacg.func60, Tacg.ntmps60
  go_wp2
  go_quiet (fail)
  go_wp2
  clear c1 c2 x1 x2
  go_loopw [5, 6, 7] (fun s5 s6 s7 w1 => ∃ (z : Int) (x y : Int) (d : Nat), s5 = .int .u64 x ∧ s6 = .int .u64 y ∧ s7 = .int .i64 z ∧ -1 ≤ z ∧ z ≤ 67 ∧ Hid (z = 67 → x = wd (n + half) 67 ∧ y = wd (m + half) 67) ∧ Hid (∀ j : Nat, z < j → j < 68 → wd (n + half) j = wd (m + half) j) ∧ w1 = w.drewN d) (fun _ _ s7 _ => (intOf s7 + 1).toNat)
  case atStart => exact ⟨67, _, _, nq, rfl, rfl, rfl, by omega, by omega, fun _ => ⟨rfl, rfl⟩, fun j h1 h2 => absurd h1 (by omega), rfl⟩
  case round =>
    obtain ⟨z, x, y, d, rfl, rfl, rfl, z0, z1, HX, HJ, rfl⟩ := hrel
    by_cases hz : 0 ≤ z
    · obtain ⟨i, rfl⟩ := Int.eq_ofNat_of_zero_le hz
      have key : ∀ (x y : Int), x = wd (n + half) i → y = wd (m + half) i → (x < y → cmpW n m = -1) ∧ (¬ x < y → y < x → cmpW n m = 1) ∧ (¬ x < y → ¬ y < x → ∀ j : Nat, (i : Int) - 1 < j → j < 68 → wd (n + half) j = wd (m + half) j) := by
        rintro x y rfl rfl
        refine ⟨fun h => ?_, fun h1 h2 => ?_, fun h1 h2 j h3 h4 => ?_⟩
        · have := up_lt n m i (by omega) (fun j h1 h2 => HJ.out j (by omega) h2) h
          unfold cmpW; rw [if_pos this]
        · have := up_lt m n i (by omega) (fun j h1 h2 => (HJ.out j (by omega) h2).symm) h2
          unfold cmpW; rw [if_neg (by omega), if_pos this]
        · rcases Int.lt_or_le i j with h5 | h5
          · exact HJ.out j h5 h4
          · obtain rfl : j = i := by omega
            omega
      have KEY := hide key
      clear key
      by_cases h67 : i = 67
      · subst h67
        obtain ⟨k1, k2, k3⟩ := KEY.out x y (HX.out rfl).1 (HX.out rfl).2
        by_cases a1 : x < y
        · have R := hide (k1 a1)
          clear k1 k2 k3
          go_wp2
          go_ret
          exact ⟨by rw [R.out]; rfl, d, rfl⟩
        · by_cases a2 : y < x
          · have R := hide (k2 a1 a2)
            clear k1 k2 k3
            go_wp2
            go_ret
            exact ⟨by rw [R.out]; rfl, d, rfl⟩
          · have R := hide (k3 a1 a2)
            clear k1 k2 k3
            go_wp2
            go_roundw
            case rel => exact ⟨66, x, y, d, rfl, rfl, rfl, by omega, by omega, fun h => absurd h (by omega), fun j h1 h2 => R.out j (by omega) h2, rfl⟩
            case measure => simp [intOf]
      · have hi : (i : Int) < 67 := by omega
        have c1 := H0.out.cell i (by omega)
        have c2 := H1.out.cell i (by omega)
        have hi2 : (i : Int) < 68 := by omega
        obtain ⟨k1, k2, k3⟩ := KEY.out (wd n i) (wd m i) (wd_half n i (by omega)).symm (wd_half m i (by omega)).symm
        by_cases a1 : wd n i < wd m i
        · have R := hide (k1 a1)
          clear k1 k2 k3
          go_wp2
          go_quiet (fail)
          go_wp2
          go_ret
          exact ⟨by rw [R.out]; rfl, d + nq, rfl⟩
        · by_cases a2 : wd m i < wd n i
          · have R := hide (k2 a1 a2)
            clear k1 k2 k3
            go_wp2
            go_quiet (fail)
            go_wp2
            go_ret
            exact ⟨by rw [R.out]; rfl, d + nq, rfl⟩
          · have R := hide (k3 a1 a2)
            clear k1 k2 k3
            go_wp2
            go_quiet (fail)
            go_wp2
            go_roundw
            case rel => exact ⟨(i : Int) - 1, _, _, d + nq, rfl, rfl, rfl, by omega, by omega, fun h => absurd h (by omega), fun j h1 h2 => R.out j (by omega) h2, rfl⟩
            case measure => simp [intOf]
    · obtain rfl : z = -1 := by omega
      have R : Hid (cmpW n m = 0) := by
        have := up_eq n m (fun j hj => HJ.out j (by omega) hj)
        unfold Hid cmpW
        rw [if_neg (by omega), if_neg (by omega)]
      go_wp2
      go_ret
      exact ⟨by rw [R.out]; rfl, d, rfl⟩
end Go.Proofs.Ygctac
