/-
  Acc.MulSmall, Acc.Within.
-/
import Derived.Test.YgctacAccCmp
import Derived.Test.YgctacMul1
import Derived.Test.YgctacGr2
namespace Go.Proofs.Ygctac
open Go.RowKit
open Fp (fv)
set_option linter.unusedVariables false
set_option linter.unusedSimpArgs false

/-- A product on its way: the words below place i are done. -/
structure Msm (n m k y : Int) (i : Nat) : Prop where
  at_ : k + y * 2 ^ (64 * i) = n - n % 2 ^ (64 * i) + m * (n % 2 ^ (64 * i))
  lo : 0 ≤ k - (n - n % 2 ^ (64 * i))
  hi : k - (n - n % 2 ^ (64 * i)) < 2 ^ (64 * i)
  y0 : 0 ≤ y
  y1 : y ≤ m
theorem Msm.start (n m : Int) (hm : 0 ≤ m) : Msm n m n 0 0 := by
  refine ⟨?_, ?_, ?_, Int.le_refl _, hm⟩ <;> rw [low_zero] <;> simp
theorem Msm.word {n m k y : Int} {i : Nat} (h : Msm n m k y i) : wd k i = wd n i := by
  have e1 := Int.mul_ediv_add_emod n (2 ^ (64 * i))
  have e2 : k / 2 ^ (64 * i) = n / 2 ^ (64 * i) := by
    have h1 := h.lo
    have h2 := h.hi
    have hp := pp (64 * i)
    rw [Int.ediv_eq_iff_of_pos hp]
    rw [Int.mul_comm] at e1
    constructor <;> omega
  rw [wd, wd, e2]
theorem Msm.step {n m k y : Int} {i : Nat} (h : Msm n m k y i) (hm : m < 4294967296) :
    Msm n m (k + (lowA (wd k i * m % 18446744073709551616) y 0 - wd k i) * 2 ^ (64 * i)) (wd k i * m / 18446744073709551616 + cry (wd k i * m % 18446744073709551616) y 0) (i + 1) := by
  have hw := h.word
  have h1 := h.at_
  have h2 := h.lo
  have h3 := h.hi
  have y0 := h.y0
  have y1 := h.y1
  have w0 := wd_nonneg k i
  have w1 := wd_lt k i
  have hls := low_succ n i
  rw [← hw] at hls
  generalize wd k i = d at *
  have hd : lowA (d * m % 18446744073709551616) y 0 = d * m + y - 18446744073709551616 * (d * m / 18446744073709551616 + cry (d * m % 18446744073709551616) y 0) := by
    unfold lowA cry
    generalize d * m = z
    omega
  have hr0 : 0 ≤ lowA (d * m % 18446744073709551616) y 0 := (low_add_range _ _ _).1
  have hr1 : lowA (d * m % 18446744073709551616) y 0 < 18446744073709551616 := (low_add_range _ _ _).2
  have hdm0 : 0 ≤ d * m := Int.mul_nonneg w0 (by omega)
  have hdm : d * m ≤ 18446744073709551615 * m := Int.mul_le_mul_of_nonneg_right (by omega) (by omega)
  have hc : 0 ≤ cry (d * m % 18446744073709551616) y 0 := by unfold cry; omega
  generalize lowA (d * m % 18446744073709551616) y 0 = s at *
  have hq0 : 0 ≤ d * m / 18446744073709551616 := by omega
  generalize d * m / 18446744073709551616 + cry (d * m % 18446744073709551616) y 0 = q at *
  have hp := pp (64 * i)
  have hps := p64_succ i
  refine ⟨?_, ?_, ?_, ?_, by omega⟩
  · rw [hls, hps]
    generalize n % 2 ^ (64 * i) = L at *
    generalize (2 : Int) ^ (64 * i) = T at *
    subst hd
    grind
  · rw [hls]
    have := Int.mul_nonneg hr0 (Int.le_of_lt hp)
    generalize n % 2 ^ (64 * i) = L at *
    generalize (2 : Int) ^ (64 * i) = T at *
    grind
  · rw [hls, hps]
    have : s * 2 ^ (64 * i) ≤ 18446744073709551615 * 2 ^ (64 * i) := Int.mul_le_mul_of_nonneg_right (by omega) (Int.le_of_lt hp)
    generalize n % 2 ^ (64 * i) = L at *
    generalize (2 : Int) ^ (64 * i) = T at *
    grind
  · omega
theorem Msm.done {n m k y : Int} (h : Msm n m k y 68) : accC k = accC (m * n) := by
  have e1 := Int.mul_ediv_add_emod n (2 ^ (64 * 68))
  have h1 := h.at_
  rw [show m * n = k + (y - (n / 2 ^ (64 * 68)) * (1 - m)) * 2 ^ 4352 by
    rw [show (4352 : Nat) = 64 * 68 from rfl]
    generalize n % 2 ^ (64 * 68) = L at *
    generalize n / 2 ^ (64 * 68) = D at *
    generalize (2 : Int) ^ (64 * 68) = T at *
    subst e1
    grind]
  exact (accC_wrap _ _).symm

set_option maxRecDepth 100000 in
set_option maxHeartbeats 4000000 in
theorem mulSmall_any (b m : Nat) (n : Int) (hm : m < 4294967296) (w : World) (hA : AccAt w b n) :
    Calls Tacg.prog 141 #[.pointer (some ⟨b, 0, none⟩), .int .u32 m] w fun r w' => r = .returned (.tuple #[]) ∧ ∃ d, w' = (putB w b (accC (m * n))).drewN d := by
  have H0 : Hid (AccAt w b n) := hA
  clear hA
  go_enter Tacg.func141, Tacg.ntmps141
  go_wp2
  go_loopw [4, 5] (fun s4 s5 w1 => ∃ (y k : Int) (d i : Nat), s4 = .int .u64 y ∧ s5 = .int .i64 i ∧ i ≤ 68 ∧ 0 ≤ y ∧ y < 4294967296 ∧ Hid (Msm n m k y i) ∧ w1 = (putB w b (accC k)).drewN d) (fun _ s5 _ => 68 - (intOf s5).toNat)
  case atStart =>
    refine ⟨0, n, 0, 0, rfl, rfl, by omega, by omega, by omega, hide (Msm.start n m (by omega)), ?_⟩
    rw [H0.out.put_self]; rfl
  case round =>
    obtain ⟨y, k, d, i, rfl, rfl, hi, y0, y1, Hk, rfl⟩ := hrel
    have hA := H0.out.put k
    by_cases hlt : i < 68
    · have hi1 : (i : Int) < 68 := by omega
      have c1 := hA.cell i hlt
      have hf := hA.frozen i
      have a1 := wd_nonneg k i
      have a2 := wd_lt k i
      have HS := hide (Hk.out.step (by omega))
      have q0 := HS.out.y0
      have q1 := HS.out.y1
      have HA := hide hA
      clear hA
      have e1 : IntKind.u64.wrap (m : Int) = (m : Int) := by rw [wrap_u64]; omega
      have e2 : IntKind.u64.wrap (wd k i * m / 18446744073709551616 + cry (wd k i * m % 18446744073709551616) y 0) = wd k i * m / 18446744073709551616 + cry (wd k i * m % 18446744073709551616) y 0 := by rw [wrap_u64]; omega
      have cm := hide (fun W => mul_any (wd k i) m a1 (by omega) a2 (by omega) W)
      have ca := hide (fun W => add_any (wd k i * m % 18446744073709551616) y 0 (by omega) y0 (by decide) (by decide) W)
      go_wp2_with (first | (go_at_call 117; refine (cm.out _).mono ?_; rintro e w' ⟨rfl, rfl⟩) | (go_at_call 129; refine (ca.out _).mono ?_; rintro e w' ⟨rfl, rfl⟩))
      all_goals
        go_roundw
        case rel =>
          exact ⟨_, _, d, i + 1, rfl, by go_num, by omega, q0, by omega, HS, HA.out.setCell_pd i _ (low_add_range _ _ _).1 (low_add_range _ _ _).2 _⟩
        case measure => simp [intOf]; omega
    · obtain rfl : i = 68 := by omega
      go_wp2
      go_end0
      exact ⟨rfl, d, by rw [Hk.out.done]⟩
end Go.Proofs.Ygctac
