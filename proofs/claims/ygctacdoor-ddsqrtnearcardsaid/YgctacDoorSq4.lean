/-
  dd.root: the walk.
-/
import Derived.Test.YgctacDoorSq3
import Derived.Test.YgctacDoorSq1
namespace Go.Proofs.YgctacDoor
open Go.RowKit
set_option linter.unusedVariables false
set_option linter.unusedSimpArgs false

theorem log2_halve (m : Nat) (h : 1 < m) : (m / 2).log2 + 1 = m.log2 := by
  rw [Nat.log2_def m, if_pos (by omega)]
theorem log2_one' : Nat.log2 1 = 0 := by decide

set_option maxRecDepth 100000 in
set_option maxHeartbeats 2000000 in
theorem root_any (x man : Nat) (ex : Int) (hm1 : 1 ≤ man) (hm2 : man < 9007199254740992) (he0 : -1074 ≤ ex) (he1 : ex ≤ 1024) (hb0 : -200 ≤ ex + man.log2) (hb1 : ex + man.log2 ≤ 200)
    (sq : Nat → Nat) (h0 : sq 0 = (threeP ((ex + man.log2) / 2 - 1)).toNat) (hst : ∀ i, i < 6 → StepW x (sq i) (sq (i + 1))) (w : World) (hg : w.cell? ⟨1, 0, none⟩ = some (.int .u8 0)) :
    Calls Tacg.prog 16 #[.float .f64 x, .int .u64 man, .int .i16 ex] w fun r w' => r = .returned (.float .f64 (sq 6)) ∧ ∃ d, w' = w.drewN d := by
  have HS := hide hst
  have H0 := hide h0
  have HB := hide (And.intro hb0 hb1)
  clear hst h0 hb0 hb1
  go_enter Tacg.func16, Tacg.ntmps16
  go_wp2_with fail
  go_loopw [7, 8] (fun s7 s8 w1 => ∃ (m : Nat) (b : Int), s7 = .int .i64 b ∧ s8 = .int .u64 m ∧ 1 ≤ m ∧ m ≤ man ∧ -1074 ≤ b ∧ Hid (b + m.log2 = ex + man.log2) ∧ w1 = w) (fun _ s8 _ => (intOf s8).toNat)
  case atStart =>
    exact ⟨man, ex, rfl, rfl, hm1, Nat.le_refl _, he0, rfl, rfl⟩
  case round =>
    obtain ⟨m, b, rfl, rfl, m1, m2, b0, hl, hw⟩ := hrel
    obtain rfl := hw.symm
    by_cases c : 1 < m
    · have t1 : (1 : Int) < (m : Int) := by omega
      have hbb : b ≤ 200 := by have h1 := hl.out; have h2 := HB.out.2; omega
      go_wp2
      go_roundw
      case rel =>
        refine ⟨m / 2, b + 1, rfl, ?_, by omega, by omega, by omega, ?_, by first | rfl | trivial⟩
        · congr 1
        · have h1 := hl.out
          have h2 := log2_halve m c
          show b + 1 + _ = _
          omega
      case measure => simp [intOf]; omega
    · have t1 : ¬ (1 : Int) < (m : Int) := by omega
      obtain rfl : m = 1 := by omega
      have hbe : b = ex + man.log2 := by have h1 := hl.out; rw [log2_one'] at h1; omega
      have hb0 : -200 ≤ b := by have := HB.out.1; omega
      have hb1 : b ≤ 200 := by have := HB.out.2; omega
      have e4 := wrap_i16 (b / 2 - 1) (by omega) (by omega)
      have H1 : Hid (sq 0 = (threeP (b / 2 - 1)).toNat) := by
        have := H0.out
        rw [← hbe] at this
        exact this
      clear H0 HB hl hbe
      go_wp2_with (go_at_call 33; refine (join64_3 (b / 2 - 1) (by omega) (by omega) _ hg).mono ?_; rintro e w' ⟨rfl, d0, rfl⟩)
      rw [← H1.out]
      go_loopw [10, 12] (fun s10 s12 w1 => ∃ (i d : Nat), i ≤ 6 ∧ s10 = .float .f64 (sq i) ∧ s12 = .int .i64 i ∧ w1 = w.drewN d) (fun _ s12 _ => 6 - (intOf s12).toNat)
      case atStart =>
        exact ⟨0, d0, by omega, rfl, rfl, rfl⟩
      case round =>
        obtain ⟨i, d, hi, rfl, rfl, rfl⟩ := hrel
        by_cases c6 : i < 6
        · obtain ⟨t, v, q1, q2, q3⟩ := (HS.out i c6).steps
          unfold twoP at q3
          have r1 := fun w => run_float_arith (P := Tacg.prog) w .quo 23 .f64 x (sq i) t q1
          have r2 := fun w => run_float_arith (P := Tacg.prog) w .add 23 .f64 (sq i) t v q2
          have r3 := fun w => run_float_arith (P := Tacg.prog) w .quo 23 .f64 v 4611686018427387904 (sq (i + 1)) q3
          clear q1 q2 q3
          go_wp2
          go_roundw
          case rel => exact ⟨i + 1, d, by omega, rfl, by go_num, by first | rfl | trivial⟩
          case measure => simp [intOf]; omega
        · obtain rfl : i = 6 := by omega
          go_wp2
          go_ret
          exact ⟨rfl, d, rfl⟩
end Go.Proofs.YgctacDoor
