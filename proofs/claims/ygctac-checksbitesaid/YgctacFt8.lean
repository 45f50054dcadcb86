/-
  nat.Carry of whatever numbers.
-/
import Derived.Test.YgctacFt7
namespace Go.Proofs.Ygctac
open Go.RowKit
set_option linter.unusedVariables false
set_option linter.unusedSimpArgs false

theorem u8_digit (z : Int) : 0 ≤ IntKind.u8.wrap z ∧ IntKind.u8.wrap z < 256 := by
  have : IntKind.u8.wrap z = z % 256 := by simp [IntKind.wrap, IntKind.bits, IntKind.signed]
  omega

set_option maxRecDepth 100000 in
set_option maxHeartbeats 4000000 in
theorem carry_row (g n : Nat) (hn : n ≤ 2048) (w : World) (h : RowP w g n 2 IsI64) :
    Calls Tacg.prog 144 #[.slice (some ⟨g, 0, none⟩) n n] w fun r w' => ∃ x s, r = .returned (.tuple #[x, .bool s]) ∧ NatB w' x w.heap.size (n + 8) ∧ Below w.heap.size w w' := by
  have H := hide h
  have HG := hide h.lt
  have rm : ∀ w : World, (Instr.makeSlice 23 (.int .i64 ((n : Int) + 8)) (.int .i64 ((n : Int) + 8))).run Tacg.prog w = .ok (.slice (some ⟨w.heap.size, 0, none⟩) (n + 8) (n + 8)) (w.alloc (.cells (rowL (n + 8) fun _ => 0).toArray 5)) := make23a n 8 (by omega)
  clear h
  go_enter Tacg.func144, Tacg.ntmps144
  go_wp2_with fail
  go_loopw [4] (fun s4 w1 => ∃ (i : Nat), s4 = .int .i64 i ∧ i ≤ n ∧ w1 = w) (fun s4 _ => n - (intOf s4).toNat)
  case atStart => exact ⟨0, rfl, by omega, rfl⟩
  case round =>
    obtain ⟨i, rfl, hi, hw⟩ := hrel
    obtain rfl := hw.symm
    clear hw
    by_cases ci : i < n
    · have ci' : (i : Int) < (n : Int) := by omega
      obtain ⟨_, hc, z, rfl⟩ := H.out.cell ci
      by_cases z0 : z < 0
      · go_wp2_with fail
        go_ret2
        exact ⟨_, _, rfl, .inl rfl, Below.refl _ _⟩
      · by_cases z1 : z < 36028797018963968
        · have z1' : ¬ (36028797018963968 ≤ z) := by omega
          go_wp2_with fail
          go_roundw
          case rel => exact ⟨i + 1, by go_num, by omega, trivial⟩
          case measure => simp [intOf] <;> omega
        · have z1' : 36028797018963968 ≤ z := by omega
          go_wp2_with fail
          go_ret2
          exact ⟨_, .inl rfl, .inl rfl, Below.refl _ _⟩
    · obtain rfl : i = n := by omega
      go_wp2_with fail
      go_loopw [6, 7] (fun s6 s7 w1 => ∃ (j : Nat) (z : Int) (W : World), s6 = .int .i64 z ∧ s7 = .int .i64 j ∧ j ≤ i + 8 ∧ w1 = W ∧ Hid (RowD W w.heap.size (i + 8)) ∧ Hid (Below w.heap.size w W)) (fun _ s7 _ => i + 8 - (intOf s7).toNat)
      case atStart => exact ⟨0, 0, _, rfl, rfl, by omega, rfl, hide (RowX.new w (i + 8)).d, hide ((Below.refl _ _).alloc (Nat.le_refl _) _)⟩
      case round =>
        obtain ⟨j, z, W, rfl, rfl, hj, hw, hR, hB⟩ := hrel
        obtain rfl := hw.symm
        clear hw
        by_cases cj : j < i + 8
        · have cj' : (j : Int) < (i : Int) + 8 := by omega
          obtain ⟨y, y0, y1, hc0⟩ := hR.out.cell cj
          have hf := hR.out.frozen j
          by_cases ck : j < i
          · have ck' : (j : Int) < (i : Int) := by omega
            obtain ⟨_, hc, t, rfl⟩ := (H.out.below hB.out HG.out).cell ck
            go_wp2_with fail
            go_roundw
            case rel => exact ⟨j + 1, _, _, rfl, by go_num, by omega, rfl, hide (hR.out.set cj (by omega) (by omega)), hide (hB.out.setCell (p := ⟨w.heap.size, j, none⟩) (Nat.le_refl _) _)⟩
            case measure => simp [intOf] <;> omega
          · have ck' : ¬ ((j : Int) < (i : Int)) := by omega
            go_wp2_with fail
            go_roundw
            case rel => exact ⟨j + 1, _, _, rfl, by go_num, by omega, rfl, hide (hR.out.set cj (by omega) (by omega)), hide (hB.out.setCell (p := ⟨w.heap.size, j, none⟩) (Nat.le_refl _) _)⟩
            case measure => simp [intOf] <;> omega
        · obtain rfl : j = i + 8 := by omega
          go_wp2_with fail
          obtain ⟨k, hk, hO⟩ := hR.out
          refine (trim_any w.heap.size 0 (i + 8) (i + 8) k (Nat.le_refl _) (by omega) W hO.cells).mono ?_
          rintro e w' ⟨rfl, hw⟩
          obtain rfl := hw.symm
          clear hw
          have HN := hide (natB_trimV (B := w.heap.size) (by omega) (Nat.le_refl _) hk hO)
          clear hO hk
          generalize trimV w.heap.size 0 k (i + 8) = x at *
          go_wp2_with fail
          go_ret2
          first | exact ⟨_, _, rfl, HN.out, hB.out⟩ | exact ⟨_, ⟨_, rfl⟩, HN.out, hB.out⟩
end Go.Proofs.Ygctac
