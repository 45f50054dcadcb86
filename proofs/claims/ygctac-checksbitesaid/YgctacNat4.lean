/-
  Products with nothing.
-/
import Derived.Test.YgctacNat3
namespace Go.Proofs.Ygctac
open Go.RowKit
set_option linter.unusedVariables false
set_option linter.unusedSimpArgs false

theorem fconv_r (a : Option Addr) (n c : Nat) (b : Option Addr) (hn : n ≤ 512) (w : World) :
    Calls Tacg.prog 101 #[.slice a n c, .slice b 0 0] w fun r w' => r = .returned (.tuple #[.slice none 0 0, .bool true]) ∧ w' = w := by
  have t1 : ¬ (512 : Int) < (n : Int) := by omega
  by_cases h : n = 0
  · subst h
    go_enter Tacg.func101, Tacg.ntmps101
    go_wp2
    go_ret2
    exact ⟨rfl, rfl⟩
  · have t2 : ¬ (n : Int) = 0 := by omega
    go_enter Tacg.func101, Tacg.ntmps101
    go_wp2
    go_ret2
    exact ⟨rfl, rfl⟩
theorem nconv_l (a : Option Addr) (n c : Nat) (b : Option Addr) (hn : n ≤ 512) (w : World) :
    Calls Tacg.prog 102 #[.slice b 0 0, .slice a n c] w fun r w' => r = .returned (.tuple #[.slice none 0 0, .bool true]) ∧ w' = w := by
  have t1 : ¬ (512 : Int) < (n : Int) := by omega
  go_enter Tacg.func102, Tacg.ntmps102
  go_wp2
  go_ret2
  exact ⟨rfl, rfl⟩
theorem raw_r (a : Option Addr) (n c : Nat) (b : Option Addr) (hn : n ≤ 512) (w : World) :
    Calls Tacg.prog 104 #[.slice a n c, .slice b 0 0] w fun r w' => r = .returned (.slice none 0 0) ∧ w' = w := by
  by_cases h : n = 0
  · subst h
    go_enter Tacg.func104, Tacg.ntmps104
    go_wp2
    go_ret
    exact ⟨rfl, rfl⟩
  · have t2 : ¬ (n : Int) = 0 := by omega
    go_enter Tacg.func104, Tacg.ntmps104
    go_wp2
    go_ret
    exact ⟨rfl, rfl⟩
theorem raw_l (a : Option Addr) (n c : Nat) (b : Option Addr) (w : World) :
    Calls Tacg.prog 104 #[.slice b 0 0, .slice a n c] w fun r w' => r = .returned (.slice none 0 0) ∧ w' = w := by
  go_enter Tacg.func104, Tacg.ntmps104
  go_wp2
  go_ret
  exact ⟨rfl, rfl⟩

set_option maxRecDepth 100000 in
set_option maxHeartbeats 1000000 in
theorem carry_nil (w : World) : Calls Tacg.prog 144 #[.slice none 0 0] w fun r w' => r = .returned (.tuple #[.slice none 0 0, .bool true]) ∧ Below w.heap.size w w' := by
  have rm : ∀ w : World, (Instr.makeSlice 23 (.int .i64 8) (.int .i64 8)).run Tacg.prog w = .ok (.slice (some ⟨w.heap.size, 0, none⟩) 8 8) (w.alloc (.cells (rowL 8 fun _ => 0).toArray 5)) := make23 8 (by omega)
  go_enter Tacg.func144, Tacg.ntmps144
  go_wp2_with fail
  go_loopw [4] (fun s4 w1 => s4 = .int .i64 0 ∧ w1 = w) (fun _ _ => 0)
  case atStart => exact ⟨rfl, rfl⟩
  case round =>
    obtain ⟨rfl, hw⟩ := hrel
    obtain rfl := hw.symm
    go_wp2_with fail
    go_loopw [6, 7] (fun s6 s7 w1 => ∃ i : Nat, s6 = .int .i64 0 ∧ s7 = .int .i64 i ∧ i ≤ 8 ∧ Hid (RowAt w1 w.heap.size 8 (fun _ => 0)) ∧ Hid (Below w.heap.size w w1)) (fun _ s7 _ => 8 - (intOf s7).toNat)
    case atStart => exact ⟨0, rfl, rfl, by decide, RowAt.new w 8 _, (Below.refl _ _).alloc (Nat.le_refl _) _⟩
    case round =>
      obtain ⟨i, rfl, rfl, hi, hR, hB⟩ := hrel
      by_cases c : i < 8
      · have hi' : (i : Int) < 8 := by omega
        have hn' : ¬ (i : Int) < 0 := by omega
        have ho := hR.out.cell i c
        have hz := hR.out.frozen i
        go_wp2
        go_roundw
        case rel =>
          refine ⟨i + 1, rfl, by go_num, by omega, (hR.out.set i c 0).ext ?_, hB.out.setCell (Nat.le_refl _) _⟩
          funext j
          split <;> rfl
        case measure => simp [intOf] <;> omega
      · obtain rfl : i = 8 := by omega
        go_wp2_with (go_at_call 70; refine (trim_any w.heap.size 0 8 8 (fun _ => 0) (Nat.le_refl _) (by omega) _ hR.out.cells).mono ?_; rw [show trimV w.heap.size 0 (fun _ => 0) 8 = .slice none 0 0 by unfold trimV; rw [if_pos (top_zeros _)]]; rintro e w' ⟨rfl, hw⟩; obtain rfl := hw.symm)
        go_ret2
        exact ⟨rfl, hB.out⟩

theorem mulFFT_r (a : Option Addr) (n c : Nat) (b : Option Addr) (hn : n ≤ 512) (w : World) :
    Calls Tacg.prog 99 #[.slice a n c, .slice b 0 0] w fun r w' => r = .returned (.tuple #[.slice none 0 0, .bool true]) ∧ Below w.heap.size w w' := by
  go_enter Tacg.func99, Tacg.ntmps99
  go_wp2_with (first | (go_at_call 101; refine (fconv_r a n c b hn _).mono ?_; rintro e w' ⟨rfl, hw⟩; obtain rfl := hw.symm) | (go_at_call 144; refine (carry_nil _).mono ?_; rintro e w' ⟨rfl, hb⟩))
  go_ret2
  exact ⟨rfl, hb⟩
theorem mulNTT_l (a : Option Addr) (n c : Nat) (b : Option Addr) (hn : n ≤ 512) (w : World) :
    Calls Tacg.prog 100 #[.slice b 0 0, .slice a n c] w fun r w' => r = .returned (.tuple #[.slice none 0 0, .bool true]) ∧ Below w.heap.size w w' := by
  go_enter Tacg.func100, Tacg.ntmps100
  go_wp2_with (first | (go_at_call 102; refine (nconv_l a n c b hn _).mono ?_; rintro e w' ⟨rfl, hw⟩; obtain rfl := hw.symm) | (go_at_call 144; refine (carry_nil _).mono ?_; rintro e w' ⟨rfl, hb⟩))
  go_ret2
  exact ⟨rfl, hb⟩
end Go.Proofs.Ygctac
