/-
  Rows of complex numbers; the small functions on the road of copiedVectors.
-/
import Derived.Test.YgctacCx2
import Derived.Test.YgctacCopy7
import Derived.Laws.ComplexArith
namespace Go.Proofs.Ygctac.Cx
open Go.RowKit
set_option linter.unusedVariables false
set_option linter.unusedSimpArgs false

@[go_sem] theorem run_neg_f64 (P : Program) (w : World) (a : Nat) : (Op.unary .neg (.float .f64 a)).run P w = .ok (.float .f64 (flip64 a)) w := rfl

/-- Block g is a row of n complex numbers F. -/
def CRow (w : World) (g n : Nat) (F : Nat → Nat × Nat) : Prop := ∃ C : Array Value, w.heap[g]? = some (.cells C 143 (0, 0)) ∧ C.size = n ∧ ∀ i, i < n → C[i]? = some (.complex .f64 (F i).1 (F i).2)
theorem CRow.cell {w : World} {g n : Nat} {F : Nat → Nat × Nat} (h : CRow w g n F) (i : Nat) (hi : i < n) : w.cell? ⟨g, i, none⟩ = some (.complex .f64 (F i).1 (F i).2) := by
  obtain ⟨C, h1, h2, h3⟩ := h
  rw [World.cell?, h1]
  exact h3 i hi
theorem CRow.frozen {w : World} {g n : Nat} {F : Nat → Nat × Nat} (h : CRow w g n F) (i : Nat) : w.frozen? ⟨g, i, none⟩ = false := by
  obtain ⟨C, h1, _⟩ := h
  rw [World.frozen?, h1]
  simp
theorem CRow.lt {w : World} {g n : Nat} {F : Nat → Nat × Nat} (h : CRow w g n F) : g < w.heap.size := by
  obtain ⟨C, h1, _⟩ := h
  exact (Array.getElem?_eq_some_iff.1 h1).1
theorem CRow.below {w w' : World} {g n B : Nat} {F : Nat → Nat × Nat} (h : CRow w g n F) (hb : Below B w w') (hB : g < B) : CRow w' g n F := by
  obtain ⟨C, h1, h2⟩ := h
  exact ⟨C, (hb.block g hB).trans h1, h2⟩
theorem CRow.after {w w' : World} {g n : Nat} {F : Nat → Nat × Nat} (h : CRow w g n F) (hb : Below w.heap.size w w') : CRow w' g n F := h.below hb h.lt
theorem CRow.congr {w : World} {g n : Nat} {F G : Nat → Nat × Nat} (h : CRow w g n F) (e : ∀ i, i < n → F i = G i) : CRow w g n G := by
  obtain ⟨C, h1, h2, h3⟩ := h
  exact ⟨C, h1, h2, fun i hi => by rw [h3 i hi, e i hi]⟩
theorem CRow.set {w : World} {g n : Nat} {F : Nat → Nat × Nat} (h : CRow w g n F) (i : Nat) (hi : i < n) (z : Nat × Nat) :
    CRow (w.setCell ⟨g, i, none⟩ (.complex .f64 z.1 z.2)) g n (fun j => if j = i then z else F j) := by
  obtain ⟨C, h1, h2, h3⟩ := h
  refine ⟨C.setIfInBounds i (.complex .f64 z.1 z.2), ?_, by simp [h2], fun j hj => ?_⟩
  · exact heap_setCell_same w g i C 143 _ h1
  · by_cases e : j = i
    · subst e
      simp [h2, hi]
    · simp only [e, if_false]
      rw [Array.getElem?_setIfInBounds_ne (by omega)]
      exact h3 j hj
theorem CRow.other {w : World} {g n : Nat} {F : Nat → Nat × Nat} (h : CRow w g n F) {a : Addr} (ha : a.block ≠ g) (v : Value) : CRow (w.setCell a v) g n F := by
  obtain ⟨C, h1, h2⟩ := h
  exact ⟨C, by rw [Below.heap_setCell _ _ _ _ (fun e => ha e.symm)]; exact h1, h2⟩
theorem CRow.new (w : World) (n : Nat) : CRow (w.alloc (.cells (madeCells #[.complex .f64 0 0] n) 143)) w.heap.size n (fun _ => (0, 0)) := by
  refine ⟨_, alloc_last _ _, by simp [madeCells], fun i hi => ?_⟩
  simp [madeCells, hi, Nat.mod_one]
theorem make68' (n : Nat) (hn : n ≤ 4096) (w : World) : (Instr.makeSlice 68 (.int .i64 (n : Int)) (.int .i64 (n : Int))).run Tacg.prog w = .ok (.slice (some ⟨w.heap.size, 0, none⟩) n n) (w.alloc (.cells (madeCells #[.complex .f64 0 0] n) 143)) :=
  run_make_row' (P := Tacg.prog) 68 143 (.complex .f64 0 0) 16 Tacg.underlying68 info143 rfl .i64 .i64 n (by omega) (by omega) w

theorem same_self (a : Nat) (w : World) : Calls Tacg.prog 159 #[.float .f64 a, .float .f64 a] w fun r w' => r = .returned (.bool true) ∧ w' = w := by
  go_enter Tacg.func159, Tacg.ntmps159
  go_wp2_with (go_at_call 69; refine (b64_any a _).mono ?_; rintro e w' ⟨rfl, hw⟩; obtain rfl := hw.symm)
  go_ret
  exact ⟨rfl, rfl⟩
theorem sameC_self (a b : Nat) (w : World) : Calls Tacg.prog 112 #[.complex .f64 a b, .complex .f64 a b] w fun r w' => r = .returned (.bool true) ∧ w' = w := by
  go_enter Tacg.func112, Tacg.ntmps112
  go_wp2_with fail
  refine (same_self a _).mono ?_; rintro e w' ⟨rfl, hw⟩; obtain rfl := hw.symm
  go_wp2_with fail
  refine (same_self b _).mono ?_; rintro e w' ⟨rfl, hw⟩; obtain rfl := hw.symm
  go_wp2_with fail
  go_ret
  exact ⟨rfl, rfl⟩
theorem mulC (x y : Nat × Nat) (w : World) (h1 : floatBits .mul .f64 x.1 y.1 = some (fop .mul x.1 y.1)) (h2 : floatBits .mul .f64 x.2 y.2 = some (fop .mul x.2 y.2)) (h3 : floatBits .mul .f64 x.1 y.2 = some (fop .mul x.1 y.2)) (h4 : floatBits .mul .f64 x.2 y.1 = some (fop .mul x.2 y.1))
    (h5 : floatBits .sub .f64 (fop .mul x.1 y.1) (fop .mul x.2 y.2) = some (cmul x y).1) (h6 : floatBits .add .f64 (fop .mul x.1 y.2) (fop .mul x.2 y.1) = some (cmul x y).2) :
    Calls Tacg.prog 150 #[.complex .f64 x.1 x.2, .complex .f64 y.1 y.2] w fun r w' => r = .returned (.complex .f64 (cmul x y).1 (cmul x y).2) ∧ w' = w := by
  have r1 := fun w => run_float_arith (P := Tacg.prog) w .mul 74 .f64 _ _ _ h1
  have r2 := fun w => run_float_arith (P := Tacg.prog) w .mul 74 .f64 _ _ _ h2
  have r3 := fun w => run_float_arith (P := Tacg.prog) w .mul 74 .f64 _ _ _ h3
  have r4 := fun w => run_float_arith (P := Tacg.prog) w .mul 74 .f64 _ _ _ h4
  have r5 := fun w => run_float_arith (P := Tacg.prog) w .sub 74 .f64 _ _ _ h5
  have r6 := fun w => run_float_arith (P := Tacg.prog) w .add 74 .f64 _ _ _ h6
  clear h1 h2 h3 h4 h5 h6
  generalize (cmul x y).1 = p at *
  generalize (cmul x y).2 = q at *
  go_enter Tacg.func150, Tacg.ntmps150
  go_wp2
  go_ret
  exact ⟨rfl, rfl⟩
set_option maxRecDepth 100000 in
theorem baseAny (t : Nat) (ht : t < 256) (w : World) : Calls Tacg.prog 158 #[.int .u8 t] w fun r w' => r = .returned (.complex .f64 (baseW t).1 (baseW t).2) ∧ w' = w := by
  by_cases h : t ≤ 11
  · have cs : t = 0 ∨ t = 1 ∨ t = 2 ∨ t = 3 ∨ t = 4 ∨ t = 5 ∨ t = 6 ∨ t = 7 ∨ t = 8 ∨ t = 9 ∨ t = 10 ∨ t = 11 := by omega
    rcases cs with rfl | rfl | rfl | rfl | rfl | rfl | rfl | rfl | rfl | rfl | rfl | rfl
    all_goals
      go_enter Tacg.func158, Tacg.ntmps158
      go_wp2
      go_ret
      exact ⟨rfl, rfl⟩
  · have n0 : ¬ (t : Int) = 0 := by omega
    have n1 : ¬ (t : Int) = 1 := by omega
    have n2 : ¬ (t : Int) = 2 := by omega
    have n3 : ¬ (t : Int) = 3 := by omega
    have n4 : ¬ (t : Int) = 4 := by omega
    have n5 : ¬ (t : Int) = 5 := by omega
    have n6 : ¬ (t : Int) = 6 := by omega
    have n7 : ¬ (t : Int) = 7 := by omega
    have n8 : ¬ (t : Int) = 8 := by omega
    have n9 : ¬ (t : Int) = 9 := by omega
    have n10 : ¬ (t : Int) = 10 := by omega
    have n11 : ¬ (t : Int) = 11 := by omega
    have e : baseW t = (0, 0) := by
      unfold baseW
      rw [if_neg, if_neg, if_neg, if_neg, if_neg, if_neg, if_neg, if_neg, if_neg, if_neg, if_neg, if_neg] <;> omega
    rw [e]
    go_enter Tacg.func158, Tacg.ntmps158
    go_wp2
    go_ret
    exact ⟨rfl, rfl⟩

set_option maxRecDepth 100000 in
/-- The greatest k ≤ 11 with 2^k ≤ n; -1 for 0. -/
theorem cut_any (n : Nat) (hn : n ≤ 140737488355328) (w : World) : Calls Tacg.prog 109 #[.int .i64 n] w fun r w' => (r = .returned (.int .i64 (-1)) ∧ n = 0 ∨ ∃ k : Nat, r = .returned (.int .i64 k) ∧ k ≤ 11 ∧ 2 ^ k ≤ n) ∧ w' = w := by
  go_enter Tacg.func109, Tacg.ntmps109
  go_wp2_with fail
  go_loopw [3] (fun s3 w1 => ∃ z : Int, s3 = .int .i64 z ∧ (z = -1 ∨ ∃ k : Nat, z = k ∧ k ≤ 11 ∧ 2 ^ k ≤ n) ∧ w1 = w) (fun s3 _ => (11 - intOf s3).toNat)
  case atStart => exact ⟨-1, rfl, .inl rfl, rfl⟩
  case round =>
    obtain ⟨z, rfl, hz, hw⟩ := hrel
    obtain rfl := hw.symm
    have cs : z = -1 ∨ z = 0 ∨ z = 1 ∨ z = 2 ∨ z = 3 ∨ z = 4 ∨ z = 5 ∨ z = 6 ∨ z = 7 ∨ z = 8 ∨ z = 9 ∨ z = 10 ∨ z = 11 := by
      rcases hz with h | ⟨k, h, h1, _⟩ <;> omega
    rcases cs with rfl | rfl | rfl | rfl | rfl | rfl | rfl | rfl | rfl | rfl | rfl | rfl | rfl
    · by_cases hc : (1 : Int) ≤ (n : Int)
      · go_wp2
        go_roundw
        case rel => exact ⟨(0 : Nat), rfl, .inr ⟨0, rfl, by decide, by omega⟩, by first | rfl | trivial⟩
        case measure => simp [intOf]
      · go_wp2
        go_ret
        exact ⟨.inl ⟨rfl, by omega⟩, rfl⟩
    · by_cases hc : (2 : Int) ≤ (n : Int)
      · go_wp2
        go_roundw
        case rel => exact ⟨(1 : Nat), rfl, .inr ⟨1, rfl, by decide, by omega⟩, by first | rfl | trivial⟩
        case measure => simp [intOf]
      · go_wp2
        go_ret
        have hp : 2 ^ 0 ≤ n := by
          rcases hz with h | ⟨k, h, h1, h2⟩
          · omega
          · obtain rfl : k = 0 := by omega
            exact h2
        exact ⟨.inr ⟨0, rfl, by decide, hp⟩, rfl⟩
    · by_cases hc : (4 : Int) ≤ (n : Int)
      · go_wp2
        go_roundw
        case rel => exact ⟨(2 : Nat), rfl, .inr ⟨2, rfl, by decide, by omega⟩, by first | rfl | trivial⟩
        case measure => simp [intOf]
      · go_wp2
        go_ret
        have hp : 2 ^ 1 ≤ n := by
          rcases hz with h | ⟨k, h, h1, h2⟩
          · omega
          · obtain rfl : k = 1 := by omega
            exact h2
        exact ⟨.inr ⟨1, rfl, by decide, hp⟩, rfl⟩
    · by_cases hc : (8 : Int) ≤ (n : Int)
      · go_wp2
        go_roundw
        case rel => exact ⟨(3 : Nat), rfl, .inr ⟨3, rfl, by decide, by omega⟩, by first | rfl | trivial⟩
        case measure => simp [intOf]
      · go_wp2
        go_ret
        have hp : 2 ^ 2 ≤ n := by
          rcases hz with h | ⟨k, h, h1, h2⟩
          · omega
          · obtain rfl : k = 2 := by omega
            exact h2
        exact ⟨.inr ⟨2, rfl, by decide, hp⟩, rfl⟩
    · by_cases hc : (16 : Int) ≤ (n : Int)
      · go_wp2
        go_roundw
        case rel => exact ⟨(4 : Nat), rfl, .inr ⟨4, rfl, by decide, by omega⟩, by first | rfl | trivial⟩
        case measure => simp [intOf]
      · go_wp2
        go_ret
        have hp : 2 ^ 3 ≤ n := by
          rcases hz with h | ⟨k, h, h1, h2⟩
          · omega
          · obtain rfl : k = 3 := by omega
            exact h2
        exact ⟨.inr ⟨3, rfl, by decide, hp⟩, rfl⟩
    · by_cases hc : (32 : Int) ≤ (n : Int)
      · go_wp2
        go_roundw
        case rel => exact ⟨(5 : Nat), rfl, .inr ⟨5, rfl, by decide, by omega⟩, by first | rfl | trivial⟩
        case measure => simp [intOf]
      · go_wp2
        go_ret
        have hp : 2 ^ 4 ≤ n := by
          rcases hz with h | ⟨k, h, h1, h2⟩
          · omega
          · obtain rfl : k = 4 := by omega
            exact h2
        exact ⟨.inr ⟨4, rfl, by decide, hp⟩, rfl⟩
    · by_cases hc : (64 : Int) ≤ (n : Int)
      · go_wp2
        go_roundw
        case rel => exact ⟨(6 : Nat), rfl, .inr ⟨6, rfl, by decide, by omega⟩, by first | rfl | trivial⟩
        case measure => simp [intOf]
      · go_wp2
        go_ret
        have hp : 2 ^ 5 ≤ n := by
          rcases hz with h | ⟨k, h, h1, h2⟩
          · omega
          · obtain rfl : k = 5 := by omega
            exact h2
        exact ⟨.inr ⟨5, rfl, by decide, hp⟩, rfl⟩
    · by_cases hc : (128 : Int) ≤ (n : Int)
      · go_wp2
        go_roundw
        case rel => exact ⟨(7 : Nat), rfl, .inr ⟨7, rfl, by decide, by omega⟩, by first | rfl | trivial⟩
        case measure => simp [intOf]
      · go_wp2
        go_ret
        have hp : 2 ^ 6 ≤ n := by
          rcases hz with h | ⟨k, h, h1, h2⟩
          · omega
          · obtain rfl : k = 6 := by omega
            exact h2
        exact ⟨.inr ⟨6, rfl, by decide, hp⟩, rfl⟩
    · by_cases hc : (256 : Int) ≤ (n : Int)
      · go_wp2
        go_roundw
        case rel => exact ⟨(8 : Nat), rfl, .inr ⟨8, rfl, by decide, by omega⟩, by first | rfl | trivial⟩
        case measure => simp [intOf]
      · go_wp2
        go_ret
        have hp : 2 ^ 7 ≤ n := by
          rcases hz with h | ⟨k, h, h1, h2⟩
          · omega
          · obtain rfl : k = 7 := by omega
            exact h2
        exact ⟨.inr ⟨7, rfl, by decide, hp⟩, rfl⟩
    · by_cases hc : (512 : Int) ≤ (n : Int)
      · go_wp2
        go_roundw
        case rel => exact ⟨(9 : Nat), rfl, .inr ⟨9, rfl, by decide, by omega⟩, by first | rfl | trivial⟩
        case measure => simp [intOf]
      · go_wp2
        go_ret
        have hp : 2 ^ 8 ≤ n := by
          rcases hz with h | ⟨k, h, h1, h2⟩
          · omega
          · obtain rfl : k = 8 := by omega
            exact h2
        exact ⟨.inr ⟨8, rfl, by decide, hp⟩, rfl⟩
    · by_cases hc : (1024 : Int) ≤ (n : Int)
      · go_wp2
        go_roundw
        case rel => exact ⟨(10 : Nat), rfl, .inr ⟨10, rfl, by decide, by omega⟩, by first | rfl | trivial⟩
        case measure => simp [intOf]
      · go_wp2
        go_ret
        have hp : 2 ^ 9 ≤ n := by
          rcases hz with h | ⟨k, h, h1, h2⟩
          · omega
          · obtain rfl : k = 9 := by omega
            exact h2
        exact ⟨.inr ⟨9, rfl, by decide, hp⟩, rfl⟩
    · by_cases hc : (2048 : Int) ≤ (n : Int)
      · go_wp2
        go_roundw
        case rel => exact ⟨(11 : Nat), rfl, .inr ⟨11, rfl, by decide, by omega⟩, by first | rfl | trivial⟩
        case measure => simp [intOf]
      · go_wp2
        go_ret
        have hp : 2 ^ 10 ≤ n := by
          rcases hz with h | ⟨k, h, h1, h2⟩
          · omega
          · obtain rfl : k = 10 := by omega
            exact h2
        exact ⟨.inr ⟨10, rfl, by decide, hp⟩, rfl⟩
    · go_wp2
      go_ret
      have hp : 2 ^ 11 ≤ n := by
        rcases hz with h | ⟨k, h, h1, h2⟩
        · omega
        · obtain rfl : k = 11 := by omega
          exact h2
      exact ⟨.inr ⟨11, rfl, by decide, hp⟩, rfl⟩

/-- 2^k, under a name. -/
def p2 (k : Nat) : Nat := 2 ^ k
theorem p2_le {k : Nat} (h : k ≤ 11) : p2 k ≤ 2048 := Nat.pow_le_pow_right (n := 2) (by decide) h
theorem p2_pos (k : Nat) : 0 < p2 k := Nat.two_pow_pos k
theorem p2_succ (k : Nat) : p2 (k + 1) = 2 * p2 k := by unfold p2; rw [Nat.pow_succ]; omega
theorem p2_lt {i j : Nat} (h : i < j) : p2 i < p2 j := Nat.pow_lt_pow_right (by decide) h
theorem wrap_p2 (k : Nat) (h : k ≤ 11) : wrap64 ((2 : Int) ^ k) = (p2 k : Int) := by
  have cs : k = 0 ∨ k = 1 ∨ k = 2 ∨ k = 3 ∨ k = 4 ∨ k = 5 ∨ k = 6 ∨ k = 7 ∨ k = 8 ∨ k = 9 ∨ k = 10 ∨ k = 11 := by omega
  rcases cs with rfl | rfl | rfl | rfl | rfl | rfl | rfl | rfl | rfl | rfl | rfl | rfl <;> decide +kernel

set_option maxRecDepth 100000 in
set_option maxHeartbeats 1000000 in
theorem level_pow (k : Nat) (hk : k ≤ 11) (w : World) : Calls Tacg.prog 162 #[.int .i64 (p2 k : Int)] w fun r w' => r = .returned (.int .i64 k) ∧ w' = w := by
  go_enter Tacg.func162, Tacg.ntmps162
  go_wp2_with fail
  go_loopw [3] (fun s3 w1 => ∃ j : Nat, s3 = .int .i64 j ∧ j ≤ k ∧ w1 = w) (fun s3 _ => 12 - (intOf s3).toNat)
  case atStart => exact ⟨0, rfl, by omega, rfl⟩
  case round =>
    obtain ⟨j, rfl, hj, hw⟩ := hrel
    obtain rfl := hw.symm
    have t1 : (j : Int) ≤ 11 := by omega
    have hp := wrap_p2 j (by omega)
    by_cases c : j = k
    · subst c
      go_wp2_with fail
      go_ret
      exact ⟨rfl, rfl⟩
    · have hne : ¬ (p2 k : Int) = (p2 j : Int) := by
        have := p2_lt (show j < k by omega)
        omega
      go_wp2_with fail
      go_roundw
      case rel => exact ⟨j + 1, by go_num, by omega, by first | rfl | trivial⟩
      case measure => simp [intOf] <;> omega

theorem fits_p2 (k : Nat) (hk : k + 1 ≤ 11) (w : World) : Calls Tacg.prog 151 #[.int .i64 (p2 (k + 1) : Int), .int .i64 (p2 k : Int)] w fun r w' => r = .returned (.bool true) ∧ w' = w := by
  have t1 : (p2 (k + 1) : Int) = 2 * (p2 k : Int) := by rw [p2_succ]; omega
  have t2 : (p2 k : Int) ≤ 2048 := by have := p2_le (show k ≤ 11 by omega); omega
  have t3 : (0 : Int) < (p2 k : Int) := by have := p2_pos k; omega
  have hl := hide (level_pow (k + 1) hk w)
  have t4 : (1 : Int) ≤ (k : Int) + 1 := by omega
  go_enter Tacg.func151, Tacg.ntmps151
  go_wp2_with fail
  rw [← t1]
  refine hl.out.mono ?_
  rintro e w' ⟨rfl, hw⟩; obtain rfl := hw.symm
  go_wp2_with fail
  go_ret
  exact ⟨rfl, rfl⟩
theorem fits_one (w : World) : Calls Tacg.prog 151 #[.int .i64 1, .int .i64 0] w fun r w' => r = .returned (.bool true) ∧ w' = w := by
  go_enter Tacg.func151, Tacg.ntmps151
  go_wp2
  go_ret
  exact ⟨rfl, rfl⟩

set_option maxRecDepth 100000 in
theorem W_any (g h c m : Nat) (hh : 0 < h) (h4 : h ≤ 2048) (hm : m < 2 * h) (T : Nat → Nat × Nat) (w : World) (hT : CRow w g h T) :
    Calls Tacg.prog 152 #[.slice (some ⟨g, 0, none⟩) h c, .int .i64 m] w fun r w' => r = .returned (.complex .f64 (rootF h T m).1 (rootF h T m).2) ∧ w' = w := by
  have t0 : ¬ (h : Int) = 0 := by omega
  have t1 : ¬ (m : Int) < 0 := by omega
  have t2 : (m : Int) < 2 * (h : Int) := by omega
  have t3 : ¬ 2 * (h : Int) ≤ (m : Int) := by omega
  have HT := hide hT
  clear hT
  by_cases c1 : m < h
  · have e : rootF h T m = T m := by unfold rootF; rw [if_neg (by omega), if_pos c1]
    have t4 : (m : Int) < (h : Int) := by omega
    have hc := HT.out.cell m c1
    rw [e]
    go_enter Tacg.func152, Tacg.ntmps152
    go_wp2
    go_ret
    exact ⟨rfl, rfl⟩
  · have e : rootF h T m = cneg (T (m - h)) := by unfold rootF; rw [if_neg (by omega), if_neg c1]
    have t4 : ¬ (m : Int) < (h : Int) := by omega
    have hc := HT.out.cell (m - h) (by omega)
    obtain ⟨d, rfl⟩ : ∃ d, m = h + d := ⟨m - h, by omega⟩
    rw [Nat.add_sub_cancel_left] at hc e
    have t5 : (d : Int) < (h : Int) := by omega
    have t6 : ((h + d : Nat) : Int) - (h : Int) = (d : Int) := by omega
    rw [e]
    unfold cneg
    go_enter Tacg.func152, Tacg.ntmps152
    go_wp2_with fail
    go_ret
    exact ⟨rfl, rfl⟩
theorem W_nil (w : World) : Calls Tacg.prog 152 #[.slice none 0 0, .int .i64 0] w fun r w' => r = .returned (.complex .f64 one.1 one.2) ∧ w' = w := by
  go_enter Tacg.func152, Tacg.ntmps152
  go_wp2
  go_ret
  exact ⟨rfl, rfl⟩
end Go.Proofs.Ygctac.Cx
