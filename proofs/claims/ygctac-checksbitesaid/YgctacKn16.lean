/-
  calc.room (made by tools/gen_km16.py).
-/
import Derived.Test.YgctacKn15
import Derived.RegionTactic
namespace Go.Proofs.Ygctac
open Go.RowKit
set_option linter.unusedVariables false
set_option linter.unusedSimpArgs false

theorem room_0 (w : World) : Calls Tacg.prog 79 #[.int .u8 0] w fun r w' => r = .returned (.tuple #[.int .i64 0, .bool true]) ∧ w' = w := by
  go_enter Tacg.func79, Tacg.ntmps79
  go_wp2
  go_ret2
  exact ⟨rfl, rfl⟩
theorem room_1 (w : World) : Calls Tacg.prog 79 #[.int .u8 1] w fun r w' => r = .returned (.tuple #[.int .i64 2, .bool false]) ∧ w' = w := by
  go_enter Tacg.func79, Tacg.ntmps79
  go_wp2
  go_ret2
  exact ⟨rfl, rfl⟩
theorem room_2 (w : World) : Calls Tacg.prog 79 #[.int .u8 2] w fun r w' => r = .returned (.tuple #[.int .i64 2, .bool false]) ∧ w' = w := by
  go_enter Tacg.func79, Tacg.ntmps79
  go_wp2
  go_ret2
  exact ⟨rfl, rfl⟩
theorem room_3 (w : World) : Calls Tacg.prog 79 #[.int .u8 3] w fun r w' => r = .returned (.tuple #[.int .i64 2, .bool false]) ∧ w' = w := by
  go_enter Tacg.func79, Tacg.ntmps79
  go_wp2
  go_ret2
  exact ⟨rfl, rfl⟩
theorem room_4 (w : World) : Calls Tacg.prog 79 #[.int .u8 4] w fun r w' => r = .returned (.tuple #[.int .i64 1, .bool false]) ∧ w' = w := by
  go_enter Tacg.func79, Tacg.ntmps79
  go_wp2
  go_ret2
  exact ⟨rfl, rfl⟩
theorem room_5 (w : World) : Calls Tacg.prog 79 #[.int .u8 5] w fun r w' => r = .returned (.tuple #[.int .i64 2, .bool false]) ∧ w' = w := by
  go_enter Tacg.func79, Tacg.ntmps79
  go_wp2
  go_ret2
  exact ⟨rfl, rfl⟩
theorem room_6 (w : World) : Calls Tacg.prog 79 #[.int .u8 6] w fun r w' => r = .returned (.tuple #[.int .i64 1, .bool true]) ∧ w' = w := by
  go_enter Tacg.func79, Tacg.ntmps79
  go_wp2
  go_ret2
  exact ⟨rfl, rfl⟩
theorem room_7 (w : World) : Calls Tacg.prog 79 #[.int .u8 7] w fun r w' => r = .returned (.tuple #[.int .i64 2, .bool false]) ∧ w' = w := by
  go_enter Tacg.func79, Tacg.ntmps79
  go_wp2
  go_ret2
  exact ⟨rfl, rfl⟩
theorem room_8 (w : World) : Calls Tacg.prog 79 #[.int .u8 8] w fun r w' => r = .returned (.tuple #[.int .i64 1, .bool false]) ∧ w' = w := by
  go_enter Tacg.func79, Tacg.ntmps79
  go_wp2
  go_ret2
  exact ⟨rfl, rfl⟩
theorem room_no (K : Int) (hK : 8 < K) (w : World) : Calls Tacg.prog 79 #[.int .u8 K] w fun r w' => r = .returned (.tuple #[.int .i64 (-1), .bool false]) ∧ w' = w := by
  have t0 : ¬ K = 0 := by omega
  have t1 : ¬ K = 1 := by omega
  have t2 : ¬ K = 2 := by omega
  have t3 : ¬ K = 3 := by omega
  have t4 : ¬ K = 4 := by omega
  have t5 : ¬ K = 5 := by omega
  have t6 : ¬ K = 6 := by omega
  have t7 : ¬ K = 7 := by omega
  have t8 : ¬ K = 8 := by omega
  go_enter Tacg.func79, Tacg.ntmps79
  go_wp2
  go_ret2
  exact ⟨rfl, rfl⟩
theorem room_all (K : Int) (h0 : 0 ≤ K) : ∃ need more, ∀ w, Calls Tacg.prog 79 #[.int .u8 K] w fun r w' => r = .returned (.tuple #[.int .i64 need, .bool more]) ∧ w' = w := by
  rcases (show K = 0 ∨ K = 1 ∨ K = 2 ∨ K = 3 ∨ K = 4 ∨ K = 5 ∨ K = 6 ∨ K = 7 ∨ K = 8 ∨ 8 < K by omega) with rfl | rfl | rfl | rfl | rfl | rfl | rfl | rfl | rfl | h
  · exact ⟨_, _, room_0⟩
  · exact ⟨_, _, room_1⟩
  · exact ⟨_, _, room_2⟩
  · exact ⟨_, _, room_3⟩
  · exact ⟨_, _, room_4⟩
  · exact ⟨_, _, room_5⟩
  · exact ⟨_, _, room_6⟩
  · exact ⟨_, _, room_7⟩
  · exact ⟨_, _, room_8⟩
  · exact ⟨_, _, room_no K h⟩
theorem mo_row {W : World} {Z : Nat → Prop} {mb : Nat} {v u : Value} {n : Nat} {S : Nat → Ent} {k : Nat} {Q : Nat → Int} (h : MO W Z mb v u n S k Q) (hn : 0 < n) : ∃ g c, v = .slice (some ⟨g, 0, none⟩) n c ∧ n ≤ c := by
  rcases h.st.row with ⟨_, h0⟩ | ⟨g, c, C, h0, h1, _⟩
  · omega
  · exact ⟨g, c, h0, h1⟩
theorem mo_cells {W : World} {Z : Nat → Prop} {mb g c : Nat} {u : Value} {n : Nat} {S : Nat → Ent} {k : Nat} {Q : Nat → Int} (h : MO W Z mb (.slice (some ⟨g, 0, none⟩) n c) u n S k Q) : ∃ C, W.heap[g]? = some (.cells C 23 (0, 0)) ∧ C.size = c ∧ ∀ i, i < n → C[i]? = some (vOf (S i)) := by
  rcases h.st.row with ⟨h0, _⟩ | ⟨g', c', C, h0, h1, h2, h3, h4⟩
  · cases h0
  · cases h0; exact ⟨C, h2, h3, h4⟩
-- A step that is refused: the machine does not pass its Check.
set_option maxRecDepth 100000 in
set_option maxHeartbeats 1000000 in
theorem step_refused (eng K : Int) (hK : 0 ≤ K) (mb : Nat) (p : Option Addr) (n c : Nat) (S : Nat → Ent) (u argv : Value) (hn : n ≤ 140737488355328) (W : World) (hm : MaC W mb (.slice p n c) u) (hs : StP W p n c S) (hpl : AllPlain W n S) (hc : chkB n S = false) :
    Calls Tacg.prog 23 #[.int .u8 eng, .pointer (some ⟨mb, 0, none⟩), .agg #[.int .u8 K, argv]] W fun r w' => r = .returned (.tuple #[]) ∧ Below W.heap.size W w' := by
  have hA : Below W.heap.size W (W.alloc (.cells #[.int .u8 K, argv] 36)) := (Below.refl _ _).alloc (Nat.le_refl _) _
  have HC := hide (check_any mb p n c S u hn _ (hm.below hA) (hs.below hA) (hpl.below hA))
  rw [hc] at HC
  obtain ⟨need, more, hR⟩ := room_all K hK
  have HR := hide hR
  have HA := hide hA
  clear hm hs hpl hc hR hA
  by_cases c1 : 3 < eng
  · go_enter Tacg.func23, Tacg.ntmps23
    go_wp2_with (first | (go_at_call 79; refine (HR.out _).mono ?_; rintro e w' ⟨rfl, hw⟩; obtain rfl := hw.symm; clear hw))
    refine bodyPost_ret (results_none rfl _ _ _) rfl ?_
    exact ⟨rfl, HA.out⟩
  · by_cases c2 : need < 0
    · go_enter Tacg.func23, Tacg.ntmps23
      go_wp2_with (first | (go_at_call 79; refine (HR.out _).mono ?_; rintro e w' ⟨rfl, hw⟩; obtain rfl := hw.symm; clear hw))
      refine bodyPost_ret (results_none rfl _ _ _) rfl ?_
      exact ⟨rfl, HA.out⟩
    · go_enter Tacg.func23, Tacg.ntmps23
      go_wp2_with (first | (go_at_call 79; refine (HR.out _).mono ?_; rintro e w' ⟨rfl, hw⟩; obtain rfl := hw.symm; clear hw))
      refine HC.out.mono ?_
      rintro e w2 ⟨rfl, hb⟩
      have HB := hide (HA.out.trans (hb.mono HA.out.size))
      clear hb
      go_wp2_with fail
      refine bodyPost_ret (results_none rfl _ _ _) rfl ?_
      exact ⟨rfl, HB.out⟩
-- A step of no kind, or by no engine.
set_option maxRecDepth 100000 in
set_option maxHeartbeats 1000000 in
theorem step_none (Z : Nat → Prop) (eng K : Int) (hK : 0 ≤ K) (hx : 3 < eng ∨ 8 < K) (mb : Nat) (v u argv : Value) (n : Nat) (S : Nat → Ent) (k : Nat) (Q : Nat → Int) (W : World) (h : MO W Z mb v u n S k Q) (hn : n ≤ 16) (hA : allN n S = true) :
    Calls Tacg.prog 23 #[.int .u8 eng, .pointer (some ⟨mb, 0, none⟩), .agg #[.int .u8 K, argv]] W fun r w' => GoodR Z W mb k Q r w' := by
  have hB : Below W.heap.size W (W.alloc (.cells #[.int .u8 K, argv] 36)) := (Below.refl _ _).alloc (Nat.le_refl _) _
  have HF : Hid (GoodR Z W mb k Q (.returned (.tuple #[])) (W.alloc (.cells #[.int .u8 K, argv] 36))) := hide ⟨rfl, v, u, n, S, k, Q, h.after hB, hn, hA, by omega, by omega, fun i hi => rfl, KZ.of hB⟩
  clear h hA hB
  by_cases c1 : 3 < eng
  · obtain ⟨need, more, hR⟩ := room_all K hK
    have HR := hide hR
    clear hR hx
    go_enter Tacg.func23, Tacg.ntmps23
    go_wp2_with (first | (go_at_call 79; refine (HR.out _).mono ?_; rintro e w' ⟨rfl, hw⟩; obtain rfl := hw.symm; clear hw))
    refine bodyPost_ret (results_none rfl _ _ _) rfl ?_
    exact HF.out
  · have HR := hide (room_no K (by omega))
    clear hx
    go_enter Tacg.func23, Tacg.ntmps23
    go_wp2_with (first | (go_at_call 79; refine (HR.out _).mono ?_; rintro e w' ⟨rfl, hw⟩; obtain rfl := hw.symm; clear hw))
    refine bodyPost_ret (results_none rfl _ _ _) rfl ?_
    exact HF.out
end Go.Proofs.Ygctac
