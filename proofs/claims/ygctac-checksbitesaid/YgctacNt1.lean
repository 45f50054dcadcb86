/-
  The modular transform: its scalars. Values are any; only that no step fails matters.
-/
import Derived.Test.YgctacFt9
namespace Go.Proofs.Ygctac
open Go.RowKit
set_option linter.unusedVariables false
set_option linter.unusedSimpArgs false

theorem belowP_any (z : Int) (w : World) : Calls Tacg.prog 172 #[.int .u32 z] w fun r w' => ∃ y, r = .returned (.int .u32 y) ∧ w' = w := by
  go_enter Tacg.func172, Tacg.ntmps172
  go_wp2_with fail
  all_goals (go_ret; exact ⟨_, rfl, rfl⟩)
theorem mulMod_any (x y : Int) (w : World) : Calls Tacg.prog 146 #[.int .u32 x, .int .u32 y] w fun r w' => ∃ y, r = .returned (.int .u32 y) ∧ w' = w := by
  go_enter Tacg.func146, Tacg.ntmps146
  go_wp2_with fail
  refine (belowP_any _ _).mono ?_
  rintro e w' ⟨a, rfl, hw⟩; obtain rfl := hw.symm
  go_wp2_with fail
  refine (belowP_any _ _).mono ?_
  rintro e w' ⟨b, rfl, hw⟩; obtain rfl := hw.symm
  go_wp2_with fail
  go_ret
  exact ⟨_, rfl, rfl⟩
theorem foldP_any (z : Int) (w : World) : Calls Tacg.prog 167 #[.int .u32 z] w fun r w' => ∃ y, r = .returned (.int .u32 y) ∧ w' = w := by
  go_enter Tacg.func167, Tacg.ntmps167
  go_wp2_with fail
  all_goals (go_ret; exact ⟨_, rfl, rfl⟩)
set_option maxRecDepth 100000 in
set_option maxHeartbeats 4000000 in
theorem powMod_any (x : Int) (e : Nat) (w : World) : Calls Tacg.prog 173 #[.int .u32 x, .int .u32 e] w fun r w' => ∃ y, r = .returned (.int .u32 y) ∧ w' = w := by
  go_enter Tacg.func173, Tacg.ntmps173
  go_wp2_with fail
  refine (belowP_any _ _).mono ?_
  rintro e w' ⟨a, rfl, hw⟩; obtain rfl := hw.symm
  clear hw
  go_wp2_with fail
  go_loopw [0, 1, 5] (fun s0 s1 s5 w1 => ∃ (a r : Int) (e : Nat), s0 = .int .u32 a ∧ s1 = .int .u32 e ∧ s5 = .int .u32 r ∧ w1 = w) (fun _ s1 _ _ => (intOf s1).toNat)
  case atStart => exact ⟨_, _, _, rfl, rfl, rfl, rfl⟩
  case round =>
    obtain ⟨a, r, e, rfl, rfl, rfl, hw⟩ := hrel
    obtain rfl := hw.symm
    clear hw
    by_cases c : 0 < e
    · have c' : (0 : Int) < (e : Int) := by omega
      go_wp2_with (go_at_call 146; refine (mulMod_any _ _ _).mono ?_; rintro e1 w' ⟨y1, rfl, hw⟩; obtain rfl := hw.symm; clear hw)
      all_goals (go_roundw)
      all_goals first
        | exact ⟨_, _, e / 2, rfl, by go_num, rfl, trivial⟩
        | (simp [intOf]; omega)
    · obtain rfl : e = 0 := by omega
      go_wp2_with fail
      go_ret
      exact ⟨_, rfl, rfl⟩
theorem cells_fac {w : World} {b o : Nat} {x y : Value} (h0 : w.cell? ⟨b, o, none⟩ = some x) (h1 : w.cell? ⟨b, o + 1, none⟩ = some y) : (loadVar 187 ⟨b, o, none⟩).run Tacg.prog w = .ok (.agg #[x, y]) w := by
  have hr : w.rangeAt b o [x, y] := by
    intro j v hv
    match j, hv with
    | 0, hv => simpa [h0] using hv
    | 1, hv => simpa [h1] using hv
    | j + 2, hv => simp at hv
  exact run_loadVar_mid (P := Tacg.prog) w b o 187 [x, y] _ hr Tacg.underlying187 rfl (by kernel_rfl)
/-- A factor. -/
def Fac (v : Value) : Prop := ∃ a b : Int, v = .agg #[.int .u32 a, .int .u32 b]
theorem factorOf_any (z : Int) (w : World) : Calls Tacg.prog 166 #[.int .u32 z] w fun r w' => ∃ a b : Int, r = .returned (.agg #[.int .u32 a, .int .u32 b]) ∧ Below w.heap.size w w' := by
  go_enter Tacg.func166, Tacg.ntmps166
  go_wp2_with fail
  generalize IntKind.u64.wrap ((IntKind.u64.wrap (IntKind.u64.wrap z * 4294967296)).tdiv 998244353) % 4294967296 = q
  refine bodyPost_ret (results_cellN (by rfl) _ _ _ ⟨w.heap.size, 0, none⟩ (.agg #[.int .u32 z, .int .u32 q]) rfl (cells_fac ?_ ?_)) rfl ⟨z, q, rfl, ?_⟩
  · simp [go_sem]
  · simp [go_sem]
  · exact (Below.refl _ _).alloc (Nat.le_refl _) _
theorem times_any (a b x : Int) (w : World) : Calls Tacg.prog 168 #[.agg #[.int .u32 a, .int .u32 b], .int .u32 x] w fun r w' => ∃ y, r = .returned (.int .u32 y) ∧ Below w.heap.size w w' := by
  go_enter Tacg.func168, Tacg.ntmps168
  go_wp2_with fail
  go_ret
  exact ⟨_, rfl, (Below.refl _ _).alloc (Nat.le_refl _) _⟩
theorem invMod_any (x : Int) (w : World) : Calls Tacg.prog 165 #[.int .u32 x] w fun r w' => ∃ y, r = .returned (.int .u32 y) ∧ w' = w := by
  go_enter Tacg.func165, Tacg.ntmps165
  go_wp2_with fail
  refine (powMod_any x 998244351 _).mono ?_
  rintro e1 w' ⟨y1, rfl, hw⟩; obtain rfl := hw.symm
  clear hw
  go_wp2_with fail
  go_ret
  exact ⟨_, rfl, rfl⟩
theorem root_any (k : Nat) (hk : k ≤ 11) (w : World) : Calls Tacg.prog 155 #[.int .u8 k] w fun r w' => ∃ y, r = .returned (.int .u32 y) ∧ w' = w := by
  have t : ¬ ((23 : Int) < (k : Int)) := by omega
  have e : (998244352 : Int) / 2 ^ k = ((998244352 / 2 ^ k : Nat) : Int) := by
    rw [Int.natCast_ediv, Int.natCast_pow]
    rfl
  have HE := hide e
  clear e
  go_enter Tacg.func155, Tacg.ntmps155
  go_wp2_with fail
  rw [HE.out]
  refine (powMod_any 3 (998244352 / 2 ^ k) _).mono ?_
  rintro e1 w' ⟨y1, rfl, hw⟩; obtain rfl := hw.symm
  clear hw
  go_wp2_with fail
  go_ret
  exact ⟨_, rfl, rfl⟩

/-- A truth value, whichever. -/
def BoolR (r : Ending) : Prop := ∃ s, r = .returned (.bool s)
def IsU32 (v : Value) : Prop := ∃ z : Int, v = .int .u32 z
theorem info129 : (Tacg.prog.info? 129).map (fun i => (i.zero, i.size, i.bytes)) = some (some (.int .u32 0), 1, 4) := by kernel_rfl
theorem make128 (n : Nat) (hn : n ≤ 4096) (w : World) : (Instr.makeSlice 128 (.int .i64 (n : Int)) (.int .i64 (n : Int))).run Tacg.prog w = .ok (.slice (some ⟨w.heap.size, 0, none⟩) n n) (w.alloc (.cells (madeCells #[.int .u32 0] n) 129)) :=
  run_make_row' (P := Tacg.prog) 128 129 (.int .u32 0) 4 Tacg.underlying128 info129 rfl .i64 .i64 n (by omega) (by omega) w

set_option maxRecDepth 100000 in
set_option maxHeartbeats 4000000 in
theorem elems_any (p : Option Addr) (n N : Nat) (hN : N ≤ 2048) (hn : n ≤ N) (w : World) (hs : Sl w p n) :
    Calls Tacg.prog 145 #[.slice p n n, .int .i64 (N : Int)] w fun q w' => q = .returned (.slice (some ⟨w.heap.size, 0, none⟩) N N) ∧ RowP w' w.heap.size N 129 IsU32 ∧ Below w.heap.size w w' := by
  have rm := make128 N (by omega)
  have HS := hide hs
  clear hs
  go_enter Tacg.func145, Tacg.ntmps145
  go_wp2_with fail
  go_loopw [6] (fun s6 w1 => ∃ (i : Nat) (W : World), s6 = .int .i64 i ∧ i ≤ n ∧ w1 = W ∧ Hid (RowP W w.heap.size N 129 IsU32) ∧ Hid (Below w.heap.size w W)) (fun s6 _ => n - (intOf s6).toNat)
  case atStart => exact ⟨0, _, rfl, by omega, rfl, hide (RowP.new w N 129 _ _ ⟨0, rfl⟩), hide ((Below.refl _ _).alloc (Nat.le_refl _) _)⟩
  case round =>
    obtain ⟨i, W, rfl, hi, hw, hR, hB⟩ := hrel
    obtain rfl := hw.symm
    clear hw rm
    by_cases c : i < n
    · have c' : (i : Int) < (n : Int) := by omega
      have c2 : (i : Int) < (N : Int) := by omega
      obtain ⟨b, o, z, rfl, z0, z1, hz⟩ := (HS.out.below hB.out).cell c
      obtain ⟨_, hcx, x, rfl⟩ := hR.out.cell (i := i) (by omega)
      have hfx := hR.out.frozen i
      go_wp2_with fail
      go_roundw
      case rel => exact ⟨i + 1, _, by go_num, by omega, rfl, hide (hR.out.set (by omega) ⟨_, rfl⟩), hide (hB.out.setCell (p := ⟨w.heap.size, i, none⟩) (Nat.le_refl _) _)⟩
      case measure => simp [intOf] <;> omega
    · obtain rfl : i = n := by omega
      go_wp2_with fail
      go_ret
      exact ⟨rfl, hR.out, hB.out⟩

set_option maxRecDepth 100000 in
set_option maxHeartbeats 4000000 in
theorem isBelow_any (g n : Nat) (hn : n ≤ 2048) (w : World) (h : RowP w g n 129 IsU32) :
    Calls Tacg.prog 97 #[.slice (some ⟨g, 0, none⟩) n n] w fun q w' => BoolR q ∧ w' = w := by
  have H := hide h
  clear h
  go_enter Tacg.func97, Tacg.ntmps97
  go_wp2_with fail
  go_loopw [3] (fun s3 w1 => ∃ (i : Nat), s3 = .int .i64 i ∧ i ≤ n ∧ w1 = w) (fun s3 _ => n - (intOf s3).toNat)
  case atStart => exact ⟨0, rfl, by omega, rfl⟩
  case round =>
    obtain ⟨i, rfl, hi, hw⟩ := hrel
    obtain rfl := hw.symm
    clear hw
    by_cases c : i < n
    · have c' : (i : Int) < (n : Int) := by omega
      obtain ⟨_, hc, z, rfl⟩ := H.out.cell c
      by_cases cz : z < 998244353
      · have cz' : ¬ (998244353 ≤ z) := by omega
        go_wp2_with fail
        go_roundw
        case rel => exact ⟨i + 1, by go_num, by omega, trivial⟩
        case measure => simp [intOf] <;> omega
      · have cz' : 998244353 ≤ z := by omega
        go_wp2_with fail
        go_ret
        exact ⟨⟨_, rfl⟩, rfl⟩
    · obtain rfl : i = n := by omega
      go_wp2_with fail
      go_ret
      exact ⟨⟨_, rfl⟩, rfl⟩
end Go.Proofs.Ygctac
