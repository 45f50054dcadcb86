/-
  Empty vectors: fft.RoundAll at m = 0, the two transforms of nothing, law.emptyVectors.
-/
import Derived.Test.YgctacNat6
import Derived.Laws.Cover3
namespace Go.Proofs.Ygctac
open Go.RowKit
set_option linter.unusedVariables false
set_option linter.unusedSimpArgs false

theorem quarter0 (w : World) : Calls Tacg.prog 147 #[.float .f64 0] w fun r w' => r = .returned (.bool true) ∧ w' = w := by
  have e1 : (FloatKind.f64.format.order 0 4598175219545276416 == some .lt || FloatKind.f64.format.order 0 4598175219545276416 == some .eq) = true := by kernel_rfl
  have e2 : (FloatKind.f64.format.order 0 13821547256400052224 == some .gt || FloatKind.f64.format.order 0 13821547256400052224 == some .eq) = true := by kernel_rfl
  go_enter Tacg.func147, Tacg.ntmps147
  go_wp2
  go_ret
  exact ⟨rfl, rfl⟩

set_option maxRecDepth 100000 in
theorem level0 (w : World) : Calls Tacg.prog 162 #[.int .i64 0] w fun r w' => r = .returned (.int .i64 (-1)) ∧ w' = w := by
  go_enter Tacg.func162, Tacg.ntmps162
  go_wp2_with fail
  go_loopw [3] (fun s3 w1 => ∃ k : Nat, s3 = .int .i64 k ∧ k ≤ 12 ∧ w1 = w) (fun s3 _ => 12 - (intOf s3).toNat)
  case atStart => exact ⟨0, rfl, by decide, rfl⟩
  case round =>
    obtain ⟨k, rfl, hk, hw⟩ := hrel
    obtain rfl := hw.symm
    by_cases c : k < 12
    · have t1 : (k : Int) ≤ 11 := by omega
      have cs : k = 0 ∨ k = 1 ∨ k = 2 ∨ k = 3 ∨ k = 4 ∨ k = 5 ∨ k = 6 ∨ k = 7 ∨ k = 8 ∨ k = 9 ∨ k = 10 ∨ k = 11 := by omega
      rcases cs with rfl | rfl | rfl | rfl | rfl | rfl | rfl | rfl | rfl | rfl | rfl | rfl
      all_goals
        go_wp2
        go_roundw
        case rel => first | exact ⟨1, rfl, by decide, by first | rfl | trivial⟩ | exact ⟨2, rfl, by decide, by first | rfl | trivial⟩ | exact ⟨3, rfl, by decide, by first | rfl | trivial⟩ | exact ⟨4, rfl, by decide, by first | rfl | trivial⟩ | exact ⟨5, rfl, by decide, by first | rfl | trivial⟩ | exact ⟨6, rfl, by decide, by first | rfl | trivial⟩ | exact ⟨7, rfl, by decide, by first | rfl | trivial⟩ | exact ⟨8, rfl, by decide, by first | rfl | trivial⟩ | exact ⟨9, rfl, by decide, by first | rfl | trivial⟩ | exact ⟨10, rfl, by decide, by first | rfl | trivial⟩ | exact ⟨11, rfl, by decide, by first | rfl | trivial⟩ | exact ⟨12, rfl, by decide, by first | rfl | trivial⟩
        case measure => simp [intOf]
    · obtain rfl : k = 12 := by omega
      go_wp2
      go_ret
      exact ⟨rfl, rfl⟩
set_option maxRecDepth 100000 in
theorem nlevel0 (w : World) : Calls Tacg.prog 153 #[.int .i64 0] w fun r w' => r = .returned (.int .i64 (-1)) ∧ w' = w := by
  go_enter Tacg.func153, Tacg.ntmps153
  go_wp2_with fail
  go_loopw [3] (fun s3 w1 => ∃ k : Nat, s3 = .int .i64 k ∧ k ≤ 12 ∧ w1 = w) (fun s3 _ => 12 - (intOf s3).toNat)
  case atStart => exact ⟨0, rfl, by decide, rfl⟩
  case round =>
    obtain ⟨k, rfl, hk, hw⟩ := hrel
    obtain rfl := hw.symm
    by_cases c : k < 12
    · have t1 : (k : Int) ≤ 11 := by omega
      have cs : k = 0 ∨ k = 1 ∨ k = 2 ∨ k = 3 ∨ k = 4 ∨ k = 5 ∨ k = 6 ∨ k = 7 ∨ k = 8 ∨ k = 9 ∨ k = 10 ∨ k = 11 := by omega
      rcases cs with rfl | rfl | rfl | rfl | rfl | rfl | rfl | rfl | rfl | rfl | rfl | rfl
      all_goals
        go_wp2
        go_roundw
        case rel => first | exact ⟨1, rfl, by decide, by first | rfl | trivial⟩ | exact ⟨2, rfl, by decide, by first | rfl | trivial⟩ | exact ⟨3, rfl, by decide, by first | rfl | trivial⟩ | exact ⟨4, rfl, by decide, by first | rfl | trivial⟩ | exact ⟨5, rfl, by decide, by first | rfl | trivial⟩ | exact ⟨6, rfl, by decide, by first | rfl | trivial⟩ | exact ⟨7, rfl, by decide, by first | rfl | trivial⟩ | exact ⟨8, rfl, by decide, by first | rfl | trivial⟩ | exact ⟨9, rfl, by decide, by first | rfl | trivial⟩ | exact ⟨10, rfl, by decide, by first | rfl | trivial⟩ | exact ⟨11, rfl, by decide, by first | rfl | trivial⟩ | exact ⟨12, rfl, by decide, by first | rfl | trivial⟩
        case measure => simp [intOf]
    · obtain rfl : k = 12 := by omega
      go_wp2
      go_ret
      exact ⟨rfl, rfl⟩

theorem fits00 (w : World) : Calls Tacg.prog 151 #[.int .i64 0, .int .i64 0] w fun r w' => r = .returned (.bool false) ∧ w' = w := by
  go_enter Tacg.func151, Tacg.ntmps151
  go_wp2_with (go_at_call 162; refine (level0 _).mono ?_; rintro e w' ⟨rfl, hw⟩; obtain rfl := hw.symm)
  go_ret
  exact ⟨rfl, rfl⟩
theorem dft_e (a b : Option Addr) (w : World) : Calls Tacg.prog 105 #[.slice a 0 0, .slice b 0 0] w fun r w' => r = .returned (.slice none 0 0) ∧ w' = w := by
  go_enter Tacg.func105, Tacg.ntmps105
  go_wp2_with (go_at_call 151; refine (fits00 _).mono ?_; rintro e w' ⟨rfl, hw⟩; obtain rfl := hw.symm)
  go_ret
  exact ⟨rfl, rfl⟩
theorem ndft_e (a : Option Addr) (w : World) : Calls Tacg.prog 106 #[.slice a 0 0] w fun r w' => r = .returned (.slice none 0 0) ∧ w' = w := by
  go_enter Tacg.func106, Tacg.ntmps106
  go_wp2_with (go_at_call 153; refine (nlevel0 _).mono ?_; rintro e w' ⟨rfl, hw⟩; obtain rfl := hw.symm)
  go_ret
  exact ⟨rfl, rfl⟩

theorem info143 : (Tacg.prog.info? 143).map (fun i => (i.zero, i.size, i.bytes)) = some (some (.complex .f64 0 0), 1, 16) := by kernel_rfl
theorem make68 (n : Nat) (hn : n ≤ 512) (w : World) : (Instr.makeSlice 68 (.int .i64 (n : Int)) (.int .i64 (n : Int))).run Tacg.prog w = .ok (.slice (some ⟨w.heap.size, 0, none⟩) n n) (w.alloc (.cells (madeCells #[.complex .f64 0 0] n) 143)) :=
  run_make_row' (P := Tacg.prog) 68 143 (.complex .f64 0 0) 16 Tacg.underlying68 info143 rfl .i64 .i64 n (by omega) (by omega) w
theorem made_cell (w : World) (n i : Nat) (hi : i < n) : (w.alloc (.cells (madeCells #[.complex .f64 0 0] n) 143)).cell? ⟨w.heap.size, i, none⟩ = some (.complex .f64 0 0) := by
  rw [World.cell?, alloc_last]
  simp [madeCells, hi, Nat.mod_one]

set_option maxRecDepth 100000 in
set_option maxHeartbeats 1000000 in
theorem round0 (g n : Nat) (hn : n ≤ 512) (w : World) (h : ∀ i, i < n → w.cell? ⟨g, i, none⟩ = some (.complex .f64 0 0)) :
    Calls Tacg.prog 103 #[.slice (some ⟨g, 0, none⟩) n n, .int .i64 0] w fun r w' => r = .returned (.tuple #[.slice none 0 0, .bool true]) ∧ w' = w := by
  have H := hide h
  have t0 : ¬ (n : Int) < 0 := by omega
  clear h
  go_enter Tacg.func103, Tacg.ntmps103
  go_wp2_with fail
  go_loopw [5, 6, 7] (fun s5 s6 s7 w1 => ∃ i : Nat, s5 = .bool true ∧ s6 = .int .i64 i ∧ i ≤ n ∧ w1 = w) (fun _ s6 _ _ => n - (intOf s6).toNat)
  case atStart => exact ⟨0, rfl, rfl, Nat.zero_le _, rfl⟩
  case round =>
    obtain ⟨i, rfl, rfl, hi, hw⟩ := hrel
    obtain rfl := hw.symm
    by_cases c : i < n
    · have hi' : (i : Int) < (n : Int) := by omega
      have hz : ¬ (i : Int) < 0 := by omega
      have hc := H.out i c
      go_wp2_with (go_at_call 147; refine (quarter0 _).mono ?_; rintro e w' ⟨rfl, hw⟩; obtain rfl := hw.symm)
      go_roundw
      case rel => exact ⟨i + 1, rfl, by go_num, by omega, by first | rfl | trivial⟩
      case measure => simp [intOf] <;> omega
    · obtain rfl : i = n := by omega
      go_wp2
      go_ret2
      exact ⟨rfl, rfl⟩
end Go.Proofs.Ygctac
