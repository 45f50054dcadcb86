/-
  Lists of digits: trim, normal, strip (the same text thrice); Take.
-/
import Derived.Test.YgctacBase
import Derived.Test.YgctacPlaceW
import Derived.Laws.Pointers
import Derived.WalkSpells
import Derived.Laws.CopyOwn
import Derived.Deep.OwnRows
namespace Go.Proofs.Ygctac
open Go.RowKit
set_option linter.unusedVariables false
set_option linter.unusedSimpArgs false

/-- The row of n digits f at block b, offset o. -/
def Cells (w : World) (b o n : Nat) (f : Nat → Int) : Prop := ∀ i, i < n → w.cell? ⟨b, o + i, none⟩ = some (.int .u8 (f i))
/-- How many digits are left, the zeros at the top dropped. -/
def top (f : Nat → Int) : Nat → Nat
  | 0 => 0
  | n + 1 => if f n = 0 then top f n else n + 1
theorem top_le (f : Nat → Int) (n : Nat) : top f n ≤ n := by
  induction n with
  | zero => exact Nat.le_refl _
  | succ n ih => unfold top; split <;> omega
theorem top_zero {f : Nat → Int} {k : Nat} (h : f k = 0) : top f (k + 1) = top f k := by
  show (if f k = 0 then top f k else k + 1) = _
  rw [if_pos h]
theorem top_nz {f : Nat → Int} {k : Nat} (h : f k ≠ 0) : top f (k + 1) = k + 1 := by
  show (if f k = 0 then top f k else k + 1) = _
  rw [if_neg h]
@[simp, go_sem] theorem eqNil23 (w : World) (a : Option Addr) (n c : Nat) : (binOp .eql 23 (.slice a n c) (.slice none 0 0)).run Tacg.prog w = .ok (.bool a.isNone) w := Lib.run_eql_slice_nil w _ _ _ _ _ _ _ Tacg.underlying23
@[simp, go_sem] theorem neNil23 (w : World) (a : Option Addr) (n c : Nat) : (binOp .neq 23 (.slice a n c) (.slice none 0 0)).run Tacg.prog w = .ok (.bool (!a.isNone)) w := run_neq_slice_nil_any w _ _ _ _ _ _ _ Tacg.underlying23
theorem info5 : (Tacg.prog.info? 5).map (fun i => (i.zero, i.size, i.bytes)) = some (some (.int .u8 0), 1, 1) := by kernel_rfl
theorem size5 : (Tacg.prog.info? 5).map (·.size) = some 1 := by kernel_rfl
/-- A row known whole. -/
def rowL (n : Nat) (f : Nat → Int) : List Value := (List.range n).map fun i => .int .u8 (f i)
theorem rowL_length (n : Nat) (f : Nat → Int) : (rowL n f).length = n := by simp [rowL]
theorem rowL_get (n : Nat) (f : Nat → Int) (i : Nat) (h : i < n) : (rowL n f)[i]? = some (.int .u8 (f i)) := by simp [rowL, h]
theorem rowL_one (n : Nat) (f : Nat → Int) : ∀ v ∈ rowL n f, v.oneCell' = true := by
  intro v hv
  simp only [rowL, List.mem_map] at hv
  obtain ⟨i, _, rfl⟩ := hv
  rfl
def RowAt (w : World) (b n : Nat) (f : Nat → Int) : Prop := w.heap[b]? = some (.cells (rowL n f).toArray 5 (0, 0))
theorem RowAt.cells {w : World} {b n : Nat} {f : Nat → Int} (h : RowAt w b n f) : Cells w b 0 n f := by
  intro i hi
  rw [World.cell?, h]
  have := rowL_get n f i hi
  simp only [Nat.zero_add]
  simpa using this
theorem made_row (n : Nat) : madeCells #[.int .u8 0] n = (rowL n fun _ => 0).toArray := by
  unfold madeCells rowL
  apply Array.ext'
  simp
  intro a _
  rw [Nat.mod_one]
  rfl
theorem make23 (n : Nat) (hn : n ≤ 140737488355328) (w : World) : (Instr.makeSlice 23 (.int .i64 (n : Int)) (.int .i64 (n : Int))).run Tacg.prog w = .ok (.slice (some ⟨w.heap.size, 0, none⟩) n n) (w.alloc (.cells (rowL n fun _ => 0).toArray 5)) := by
  rw [← made_row]
  exact run_make_row' (P := Tacg.prog) 23 5 (.int .u8 0) 1 Tacg.underlying23 info5 rfl .i64 .i64 n (by omega) (by omega) w
theorem make22 (n : Nat) (hn : n ≤ 140737488355328) (w : World) : (Instr.makeSlice 22 (.int .i64 (n : Int)) (.int .i64 (n : Int))).run Tacg.prog w = .ok (.slice (some ⟨w.heap.size, 0, none⟩) n n) (w.alloc (.cells (rowL n fun _ => 0).toArray 5)) := by
  rw [← made_row]
  exact run_make_row' (P := Tacg.prog) 22 5 (.int .u8 0) 1 Tacg.underlying22 info5 rfl .i64 .i64 n (by omega) (by omega) w
theorem alloc_last (w : World) (o : Obj) : (w.alloc o).heap[w.heap.size]? = some o := by
  show (w.heap.push o)[w.heap.size]? = some o
  simp
theorem cell_alloc' {w : World} {a : Addr} {v : Value} (o : Obj) (h : w.cell? a = some v) : (w.alloc o).cell? a = some v := by
  have hb := World.block_lt_of_cell? w a h
  rw [World.cell?_of_block (w := w) (heap_alloc_old w o hb), h]
theorem splice_whole {α : Type} (L cs : List α) (h : L.length ≤ cs.length) : splice L 0 cs = cs := by
  simp [splice, List.drop_eq_nil_of_le h]
/-- What trim hands back. -/
def trimV (b o : Nat) (f : Nat → Int) (n : Nat) : Value := if top f n = 0 then .slice none 0 0 else .slice (some ⟨b, o, none⟩) (top f n) (top f n)

set_option maxRecDepth 100000 in
set_option maxHeartbeats 1000000 in
theorem trim_any (b o n c : Nat) (f : Nat → Int) (hn : n ≤ c) (hc : c ≤ 140737488355328) (w : World) (h : Cells w b o n f) :
    Calls Tacg.prog 70 #[.slice (some ⟨b, o, none⟩) n c] w fun r w' => r = .returned (trimV b o f n) ∧ w' = w := by
  have H := hide h
  clear h
  go_enter Tacg.func70, Tacg.ntmps70
  go_wp2_with fail
  go_loopw [3] (fun s3 w1 => ∃ m : Nat, s3 = .int .i64 m ∧ m ≤ n ∧ Hid (top f m = top f n) ∧ w1 = w) (fun s3 _ => (intOf s3).toNat)
  case atStart => exact ⟨n, rfl, Nat.le_refl _, rfl, rfl⟩
  case round =>
    obtain ⟨m, rfl, m1, ht, hw⟩ := hrel
    obtain rfl := hw.symm
    rcases Nat.eq_zero_or_pos m with rfl | hm
    · go_wp2
      go_ret
      refine ⟨?_, rfl⟩
      have : top f n = 0 := by rw [← ht.out]; rfl
      simp [trimV, this]
    · obtain ⟨k, rfl⟩ : ∃ k, m = k + 1 := ⟨m - 1, by omega⟩
      have t1 : (0 : Int) < ((k + 1 : Nat) : Int) := by omega
      have hcell := H.out k (by omega)
      by_cases hz : f k = 0
      · go_wp2
        go_roundw
        case rel =>
          refine ⟨k, by go_num, by omega, ?_, by first | rfl | trivial⟩
          have h1 := ht.out
          rw [top_zero hz] at h1
          exact h1
        case measure => simp [intOf] <;> omega
      · go_wp2
        go_ret
        refine ⟨?_, rfl⟩
        have h1 := ht.out
        rw [top_nz hz] at h1
        simp [trimV, ← h1]

theorem trim_nil (w : World) : Calls Tacg.prog 70 #[.slice none 0 0] w fun r w' => r = .returned (.slice none 0 0) ∧ w' = w := by
  go_enter Tacg.func70, Tacg.ntmps70
  go_wp2_with fail
  go_loopw [3] (fun s3 w1 => s3 = .int .i64 0 ∧ w1 = w) (fun s3 _ => (intOf s3).toNat)
  case atStart => exact ⟨rfl, rfl⟩
  case round =>
    obtain ⟨rfl, hw⟩ := hrel
    obtain rfl := hw.symm
    go_wp2
    go_ret
    exact ⟨rfl, rfl⟩

set_option maxRecDepth 100000 in
set_option maxHeartbeats 1000000 in
theorem normal_any (b o n c : Nat) (f : Nat → Int) (hn : n ≤ c) (hc : c ≤ 140737488355328) (w : World) (h : Cells w b o n f) :
    Calls Tacg.prog 73 #[.slice (some ⟨b, o, none⟩) n c] w fun r w' => r = .returned (trimV b o f n) ∧ w' = w := by
  have H := hide h
  clear h
  go_enter Tacg.func73, Tacg.ntmps73
  go_wp2_with fail
  go_loopw [3] (fun s3 w1 => ∃ m : Nat, s3 = .int .i64 m ∧ m ≤ n ∧ Hid (top f m = top f n) ∧ w1 = w) (fun s3 _ => (intOf s3).toNat)
  case atStart => exact ⟨n, rfl, Nat.le_refl _, rfl, rfl⟩
  case round =>
    obtain ⟨m, rfl, m1, ht, hw⟩ := hrel
    obtain rfl := hw.symm
    rcases Nat.eq_zero_or_pos m with rfl | hm
    · go_wp2
      go_ret
      refine ⟨?_, rfl⟩
      have : top f n = 0 := by rw [← ht.out]; rfl
      simp [trimV, this]
    · obtain ⟨k, rfl⟩ : ∃ k, m = k + 1 := ⟨m - 1, by omega⟩
      have t1 : (0 : Int) < ((k + 1 : Nat) : Int) := by omega
      have hcell := H.out k (by omega)
      by_cases hz : f k = 0
      · go_wp2
        go_roundw
        case rel =>
          refine ⟨k, by go_num, by omega, ?_, by first | rfl | trivial⟩
          have h1 := ht.out
          rw [top_zero hz] at h1
          exact h1
        case measure => simp [intOf] <;> omega
      · go_wp2
        go_ret
        refine ⟨?_, rfl⟩
        have h1 := ht.out
        rw [top_nz hz] at h1
        simp [trimV, ← h1]

theorem normal_nil (w : World) : Calls Tacg.prog 73 #[.slice none 0 0] w fun r w' => r = .returned (.slice none 0 0) ∧ w' = w := by
  go_enter Tacg.func73, Tacg.ntmps73
  go_wp2_with fail
  go_loopw [3] (fun s3 w1 => s3 = .int .i64 0 ∧ w1 = w) (fun s3 _ => (intOf s3).toNat)
  case atStart => exact ⟨rfl, rfl⟩
  case round =>
    obtain ⟨rfl, hw⟩ := hrel
    obtain rfl := hw.symm
    go_wp2
    go_ret
    exact ⟨rfl, rfl⟩

set_option maxRecDepth 100000 in
set_option maxHeartbeats 1000000 in
theorem strip_any (b o n c : Nat) (f : Nat → Int) (hn : n ≤ c) (hc : c ≤ 140737488355328) (w : World) (h : Cells w b o n f) :
    Calls Tacg.prog 77 #[.slice (some ⟨b, o, none⟩) n c] w fun r w' => r = .returned (trimV b o f n) ∧ w' = w := by
  have H := hide h
  clear h
  go_enter Tacg.func77, Tacg.ntmps77
  go_wp2_with fail
  go_loopw [3] (fun s3 w1 => ∃ m : Nat, s3 = .int .i64 m ∧ m ≤ n ∧ Hid (top f m = top f n) ∧ w1 = w) (fun s3 _ => (intOf s3).toNat)
  case atStart => exact ⟨n, rfl, Nat.le_refl _, rfl, rfl⟩
  case round =>
    obtain ⟨m, rfl, m1, ht, hw⟩ := hrel
    obtain rfl := hw.symm
    rcases Nat.eq_zero_or_pos m with rfl | hm
    · go_wp2
      go_ret
      refine ⟨?_, rfl⟩
      have : top f n = 0 := by rw [← ht.out]; rfl
      simp [trimV, this]
    · obtain ⟨k, rfl⟩ : ∃ k, m = k + 1 := ⟨m - 1, by omega⟩
      have t1 : (0 : Int) < ((k + 1 : Nat) : Int) := by omega
      have hcell := H.out k (by omega)
      by_cases hz : f k = 0
      · go_wp2
        go_roundw
        case rel =>
          refine ⟨k, by go_num, by omega, ?_, by first | rfl | trivial⟩
          have h1 := ht.out
          rw [top_zero hz] at h1
          exact h1
        case measure => simp [intOf] <;> omega
      · go_wp2
        go_ret
        refine ⟨?_, rfl⟩
        have h1 := ht.out
        rw [top_nz hz] at h1
        simp [trimV, ← h1]

theorem strip_nil (w : World) : Calls Tacg.prog 77 #[.slice none 0 0] w fun r w' => r = .returned (.slice none 0 0) ∧ w' = w := by
  go_enter Tacg.func77, Tacg.ntmps77
  go_wp2_with fail
  go_loopw [3] (fun s3 w1 => s3 = .int .i64 0 ∧ w1 = w) (fun s3 _ => (intOf s3).toNat)
  case atStart => exact ⟨rfl, rfl⟩
  case round =>
    obtain ⟨rfl, hw⟩ := hrel
    obtain rfl := hw.symm
    go_wp2
    go_ret
    exact ⟨rfl, rfl⟩

theorem add_none (b o j : Nat) : (⟨b, o, none⟩ : Addr).add j = ⟨b, o + j, none⟩ := by
  unfold Addr.add
  split
  · rename_i h; subst h; rfl
  · rfl
theorem take_src {w : World} {b o n m : Nat} {f : Nat → Int} (h : Cells w b o n f) (hm : m ≤ n) (ob : Obj) :
    ∀ j v, (rowL m f)[j]? = some v → (w.alloc ob).cell? ((⟨b, o, none⟩ : Addr).add j) = some v := by
  intro j v hv
  have hj : j < m := by
    have := (List.getElem?_eq_some_iff.1 hv).1
    simpa [rowL_length] using this
  rw [rowL_get m f j hj] at hv
  obtain rfl := Option.some.inj hv
  rw [add_none]
  exact cell_alloc' _ (h j (by omega))

set_option maxRecDepth 100000 in
theorem take_nil (w : World) : Calls Tacg.prog 14 #[.slice none 0 0] w fun r w' => r = .returned (.slice none 0 0) ∧ w' = w := by
  go_enter Tacg.func14, Tacg.ntmps14
  go_wp2_with (go_at_call 70; refine (trim_nil _).mono ?_; rintro e w' ⟨rfl, hw⟩; obtain rfl := hw.symm)
  go_ret
  exact ⟨rfl, rfl⟩

set_option maxRecDepth 100000 in
set_option maxHeartbeats 1000000 in
theorem take_zero (b o n c : Nat) (f : Nat → Int) (hn : n ≤ c) (hc : c ≤ 140737488355328) (w : World) (h : Cells w b o n f) (hz : top f (min n 1024) = 0) :
    Calls Tacg.prog 14 #[.slice (some ⟨b, o, none⟩) n c] w fun r w' => r = .returned (.slice none 0 0) ∧ w' = w := by
  have H := hide h
  clear h
  by_cases c1 : n ≤ 1024
  · have e1 : min n 1024 = n := by omega
    rw [e1] at hz
    have t1 : ¬ (1024 : Int) < (n : Int) := by omega
    have et : trimV b o f n = .slice none 0 0 := by unfold trimV; rw [if_pos hz]
    go_enter Tacg.func14, Tacg.ntmps14
    go_wp2_with (go_at_call 70; refine (trim_any b o n n f (Nat.le_refl _) (by omega) _ H.out).mono ?_; rw [et]; rintro e w' ⟨rfl, hw⟩; obtain rfl := hw.symm)
    go_ret
    exact ⟨rfl, rfl⟩
  · have e1 : min n 1024 = 1024 := by omega
    rw [e1] at hz
    have t1 : (1024 : Int) < (n : Int) := by omega
    have t2 : (1024 : Int) ≤ (c : Int) := by omega
    have et : trimV b o f 1024 = .slice none 0 0 := by unfold trimV; rw [if_pos hz]
    have H' := hide (show Cells w b o 1024 f from fun i hi => H.out i (by omega))
    go_enter Tacg.func14, Tacg.ntmps14
    go_wp2_with (go_at_call 70; refine (trim_any b o 1024 1024 f (Nat.le_refl _) (by omega) _ H'.out).mono ?_; rw [et]; rintro e w' ⟨rfl, hw⟩; obtain rfl := hw.symm)
    go_ret
    exact ⟨rfl, rfl⟩

set_option maxRecDepth 100000 in
set_option maxHeartbeats 1000000 in
theorem take_some (b o n c : Nat) (f : Nat → Int) (hn : n ≤ c) (hc : c ≤ 140737488355328) (w : World) (h : Cells w b o n f) (m : Nat) (hz : top f (min n 1024) = m) (hm : 0 < m) :
    Calls Tacg.prog 14 #[.slice (some ⟨b, o, none⟩) n c] w fun r w' => r = .returned (.slice (some ⟨w.heap.size, 0, none⟩) m m) ∧ Below w.heap.size w w' ∧ RowAt w' w.heap.size m f := by
  have hs : m ≤ 1024 := by have := top_le f (min n 1024); omega
  have hs' : m ≤ n := by have := top_le f (min n 1024); omega
  have rm := make23 m (by omega)
  have HC := hide (take_src h hs' (.cells (rowL m fun _ => 0).toArray 5))
  have H := hide h
  clear h
  by_cases c1 : n ≤ 1024
  · have e1 : min n 1024 = n := by omega
    rw [e1] at hz
    have t1 : ¬ (1024 : Int) < (n : Int) := by omega
    have et : trimV b o f n = .slice (some ⟨b, o, none⟩) m m := by unfold trimV; rw [hz, if_neg (by omega)]
    go_enter Tacg.func14, Tacg.ntmps14
    go_wp2_with (first | (go_at_call 70; refine (trim_any b o n n f (Nat.le_refl _) (by omega) _ H.out).mono ?_; rw [et]; rintro e w' ⟨rfl, hw⟩; obtain rfl := hw.symm) | (refine wpList_copy_splice rfl (.tmp 20) (.tmp 21) 23 23 rfl 5 Tacg.underlying23 size5 _ _ m m m m rfl rfl w.heap.size 0 (rowL m fun _ => 0) 5 (alloc_last _ _) (rowL m f) (by rw [rowL_length]; exact (Nat.min_self m).symm) (fun _ => ⟨rfl, ⟨b, o, none⟩, rfl, HC.out⟩) (by simp [rowL_length]) (rowL_one _ _) w.heap.size w ((Below.refl _ _).alloc (Nat.le_refl _) _) (Nat.le_refl _) ?_; intro w2 hg2 hb2))
    go_ret
    refine ⟨rfl, hb2, ?_⟩
    have := hg2.out
    rwa [splice_whole _ _ (by simp [rowL_length])] at this
  · have e1 : min n 1024 = 1024 := by omega
    rw [e1] at hz
    have t1 : (1024 : Int) < (n : Int) := by omega
    have t2 : (1024 : Int) ≤ (c : Int) := by omega
    have et : trimV b o f 1024 = .slice (some ⟨b, o, none⟩) m m := by unfold trimV; rw [hz, if_neg (by omega)]
    have H' := hide (show Cells w b o 1024 f from fun i hi => H.out i (by omega))
    go_enter Tacg.func14, Tacg.ntmps14
    go_wp2_with (first | (go_at_call 70; refine (trim_any b o 1024 1024 f (Nat.le_refl _) (by omega) _ H'.out).mono ?_; rw [et]; rintro e w' ⟨rfl, hw⟩; obtain rfl := hw.symm) | (refine wpList_copy_splice rfl (.tmp 20) (.tmp 21) 23 23 rfl 5 Tacg.underlying23 size5 _ _ m m m m rfl rfl w.heap.size 0 (rowL m fun _ => 0) 5 (alloc_last _ _) (rowL m f) (by rw [rowL_length]; exact (Nat.min_self m).symm) (fun _ => ⟨rfl, ⟨b, o, none⟩, rfl, HC.out⟩) (by simp [rowL_length]) (rowL_one _ _) w.heap.size w ((Below.refl _ _).alloc (Nat.le_refl _) _) (Nat.le_refl _) ?_; intro w2 hg2 hb2))
    go_ret
    refine ⟨rfl, hb2, ?_⟩
    have := hg2.out
    rwa [splice_whole _ _ (by simp [rowL_length])] at this
end Go.Proofs.Ygctac
