/-
  law.emptyRuns.
-/
import Derived.Test.YgctacRun3
namespace Go.Proofs.Ygctac
open Go.RowKit
set_option linter.unusedVariables false
set_option linter.unusedSimpArgs false

@[simp, go_sem] theorem neNil138 (w : World) (a : Option Addr) (n c : Nat) : (binOp .neq 138 (.slice a n c) (.slice none 0 0)).run Tacg.prog w = .ok (.bool (!a.isNone)) w := run_neq_slice_nil_any w _ _ _ _ _ _ _ Tacg.underlying138
@[simp, go_sem] theorem neNil32 (w : World) (a : Option Addr) (n c : Nat) : (binOp .neq 32 (.slice a n c) (.slice none 0 0)).run Tacg.prog w = .ok (.bool (!a.isNone)) w := run_neq_slice_nil_any w _ _ _ _ _ _ _ Tacg.underlying32
@[simp, go_sem] theorem neNil22 (w : World) (a : Option Addr) (n c : Nat) : (binOp .neq 22 (.slice a n c) (.slice none 0 0)).run Tacg.prog w = .ok (.bool (!a.isNone)) w := run_neq_slice_nil_any w _ _ _ _ _ _ _ Tacg.underlying22

set_option maxRecDepth 100000 in
set_option maxHeartbeats 1000000 in
theorem emptyRuns_any (w : World) : Calls Tacg.prog 39 #[] w fun r w' => r = .returned (.bool true) ∧ Below w.heap.size w w' := by
  go_enter Tacg.func39, Tacg.ntmps39
  go_wp2_with fail
  go_loopw [1, 2, 3] (fun s1 s2 s3 w1 => ∃ i : Nat, s1 = .int .u8 i ∧ i ≤ 4 ∧ Hid (Below w.heap.size w w1)) (fun s1 _ _ _ => 4 - (intOf s1).toNat)
  case atStart => exact ⟨0, rfl, by decide, Below.refl _ _⟩
  case round =>
    obtain ⟨i, rfl, hi, hB⟩ := hrel
    by_cases c : i < 4
    · have t4 : (i : Int) < 4 := by omega
      go_wp2_with fail
      refine (run_e i (by omega) _ _).mono ?_
      rintro e w2 ⟨rfl, hb2⟩
      rw [size_al] at hb2
      have hsz := hb2.size
      rw [size_al] at hsz
      have hB2 := hide ((hB.out.alloc (by have := hB.out.size; omega) (.cells #[] 36)).trans (hb2.mono (by have := hB.out.size; omega)))
      have hO := hide (((OutAt.new w2 (.bool false) (.slice none 0 0) (.slice none 0 0)).alloc (.cells #[.int .u8 0, .int .u8 0] 5)).alloc (.cells #[.int .u8 0, .slice (some ⟨w2.heap.size + 1, 0, none⟩) 2 2] 36))
      have hs0 : (((w2.alloc (.cells #[.bool false, .slice none 0 0, .slice none 0 0] 140)).alloc (.cells #[.int .u8 0, .int .u8 0] 5)).alloc (.cells #[.int .u8 0, .slice (some ⟨w2.heap.size + 1, 0, none⟩) 2 2] 36)).cell? ⟨w2.heap.size + 1 + 1, 0, none⟩ = some (.int .u8 0) := by simp [go_sem]
      have hs1 : (((w2.alloc (.cells #[.bool false, .slice none 0 0, .slice none 0 0] 140)).alloc (.cells #[.int .u8 0, .int .u8 0] 5)).alloc (.cells #[.int .u8 0, .slice (some ⟨w2.heap.size + 1, 0, none⟩) 2 2] 36)).cell? ⟨w2.heap.size + 1 + 1, 1, none⟩ = some (.slice (some ⟨w2.heap.size + 1, 0, none⟩) 2 2) := by simp [go_sem]
      have hg : Cells (((w2.alloc (.cells #[.bool false, .slice none 0 0, .slice none 0 0] 140)).alloc (.cells #[.int .u8 0, .int .u8 0] 5)).alloc (.cells #[.int .u8 0, .slice (some ⟨w2.heap.size + 1, 0, none⟩) 2 2] 36)) (w2.heap.size + 1) 0 2 (fun _ => 0) := by
        intro j hj
        have cj : j = 0 ∨ j = 1 := by omega
        rcases cj with rfl | rfl <;> simp [go_sem]
      have HS := hide (And.intro hs0 (And.intro hs1 hg))
      have hB3 : Hid (Below w.heap.size w (((w2.alloc (.cells #[.bool false, .slice none 0 0, .slice none 0 0] 140)).alloc (.cells #[.int .u8 0, .int .u8 0] 5)).alloc (.cells #[.int .u8 0, .slice (some ⟨w2.heap.size + 1, 0, none⟩) 2 2] 36))) := by
        have := hB2.out.size
        exact ((hB2.out.alloc (by omega) _).alloc (by rw [size_al]; omega) _).alloc (by rw [size_al, size_al]; omega) _
      clear hs0 hs1 hg hb2 hsz hB hB2
      go_wp2_with fail
      refine (run_p i (by omega) (by omega) (w2.heap.size + 1 + 1) (w2.heap.size + 1) _ HS.out.1 HS.out.2.1 HS.out.2.2).mono ?_
      rintro e w4 ⟨k, rfl, hk, hk2, hb4⟩
      have hO4 := (hO.out.below hb4 hO.out.lt).alloc (.cells #[.bool false, .slice (some ⟨k, 0, none⟩) 1 1, .slice none 0 0] 140)
      have k1 := hO4.c1
      have k2 := hO4.c2
      have hkk := cell_alloc' (.cells #[.bool false, .slice (some ⟨k, 0, none⟩) 1 1, .slice none 0 0] 140) hk
      have hB4 := hide (belowTr hB3.out hb4)
      clear hO4 hO hb4 HS hB3 hk hk2
      go_wp2
      go_roundw
      case rel => exact ⟨i + 1, by go_num, by omega, hB4.out.alloc hB4.out.size _⟩
      case measure => simp [intOf] <;> omega
    · obtain rfl : i = 4 := by omega
      go_wp2
      go_ret
      exact ⟨rfl, hB.out⟩
end Go.Proofs.Ygctac
