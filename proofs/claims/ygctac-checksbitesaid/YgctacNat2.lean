/-
  nat.Cmp and nat.Sub of a number with itself; of nothing with something.
-/
import Derived.Test.YgctacNat1
import Derived.Deep.RegionWith
import Derived.Deep.QuietTactic
import Derived.BigQuiet
import Derived.Deep.DeepCutAuto
namespace Go.Proofs.Ygctac
open Go.RowKit
set_option linter.unusedVariables false
set_option linter.unusedSimpArgs false

theorem RowAt.set {w : World} {g n : Nat} {f : Nat → Int} (h : RowAt w g n f) (i : Nat) (hi : i < n) (v : Int) : RowAt (w.setCell ⟨g, i, none⟩ (.int .u8 v)) g n (fun j => if j = i then v else f j) := by
  unfold RowAt at *
  have hlt : g < w.heap.size := (Array.getElem?_eq_some_iff.1 h).1
  rw [World.setCell, Array.getElem?_modify, h]
  simp only [if_true, Option.map_some, Option.isSome_none, Bool.false_eq_true, if_false]
  congr 2
  apply Array.ext'
  simp only [rowL, Array.toList_setIfInBounds]
  apply List.ext_getElem?
  intro k
  rw [List.getElem?_set]
  by_cases c : i = k
  · subst c
    simp [hi]
  · simp only [c, if_false, List.getElem?_map]
    by_cases hk : k < n
    · have : ¬ k = i := fun h => c h.symm
      simp [hk, this]
    · simp [hk]
theorem below_dN {B : Nat} {a w : World} (h : Below B a w) (n : Nat) : Below B a (w.drewN n) := ⟨h.os, h.tape, h.output, h.size, h.block⟩
theorem RowAt.lt {w : World} {g n : Nat} {f : Nat → Int} (h : RowAt w g n f) : g < w.heap.size := (Array.getElem?_eq_some_iff.1 h).1
theorem RowAt.block {w w' : World} {g n : Nat} {f : Nat → Int} (h : RowAt w g n f) (e : w'.heap[g]? = w.heap[g]?) : RowAt w' g n f := e.trans h
theorem RowAt.below {w w' : World} {g n B : Nat} {f : Nat → Int} (h : RowAt w g n f) (hb : Below B w w') (hB : g < B) : RowAt w' g n f := h.block (hb.block g hB)
theorem RowAt.drewN {w : World} {g n : Nat} {f : Nat → Int} (h : RowAt w g n f) (d : Nat) : RowAt (w.drewN d) g n f := h
theorem RowAt.cell {w : World} {g n : Nat} {f : Nat → Int} (h : RowAt w g n f) (i : Nat) (hi : i < n) : w.cell? ⟨g, i, none⟩ = some (.int .u8 (f i)) := by
  have := h.cells i hi
  simpa using this
theorem RowAt.frozen {w : World} {g n : Nat} {f : Nat → Int} (h : RowAt w g n f) (i : Nat) : w.frozen? ⟨g, i, none⟩ = false := by
  rw [World.frozen?, h]
  simp
theorem RowAt.alloc {w : World} {g n : Nat} {f : Nat → Int} (h : RowAt w g n f) (o : Obj) : RowAt (w.alloc o) g n f := h.block (heap_alloc_old w o h.lt)
theorem RowAt.new (w : World) (n : Nat) (f : Nat → Int) : RowAt (w.alloc (.cells (rowL n f).toArray 5)) w.heap.size n f := alloc_last _ _
theorem RowAt.ext {w : World} {g n : Nat} {f f' : Nat → Int} (h : RowAt w g n f) (e : f = f') : RowAt w g n f' := e ▸ h

/-- A number as Take hands it out: nothing, or a row whose last digit is not 0. -/
theorem trimR (b : Nat) (f : Nat → Int) (m : Nat) (ht : top f m = m) (hm : 0 < m) : trimV b 0 f m = .slice (some ⟨b, 0, none⟩) m m := by
  unfold trimV; rw [ht, if_neg (by omega)]

theorem cmp_nil (w : World) : Calls Tacg.prog 85 #[.slice none 0 0, .slice none 0 0] w fun r w' => r = .returned (.int .i8 0) ∧ w' = w := by
  go_enter Tacg.func85, Tacg.ntmps85
  go_wp2_with (go_at_call 70; refine (trim_nil _).mono ?_; rintro e w' ⟨rfl, hw⟩; obtain rfl := hw.symm)
  go_loopw [5] (fun s5 w1 => s5 = .int .i64 (-1) ∧ w1 = w) (fun s5 _ => 0)
  case atStart => exact ⟨rfl, rfl⟩
  case round =>
    obtain ⟨rfl, hw⟩ := hrel
    obtain rfl := hw.symm
    go_wp2
    go_ret
    exact ⟨rfl, rfl⟩

set_option maxRecDepth 100000 in
set_option maxHeartbeats 1000000 in
theorem cmp_less (g m : Nat) (f : Nat → Int) (hm : 0 < m) (hc : m ≤ 140737488355328) (ht : top f m = m) (w : World) (h : Cells w g 0 m f) :
    Calls Tacg.prog 85 #[.slice none 0 0, .slice (some ⟨g, 0, none⟩) m m] w fun r w' => r = .returned (.int .i8 (-1)) ∧ w' = w := by
  have H := hide h
  have t0 : (0 : Int) < (m : Int) := by omega
  have t1 : ¬ (m : Int) = 0 := by omega
  have t2 : ¬ (0 : Int) = (m : Int) := by omega
  have et := trimR g f m ht hm
  clear h
  go_enter Tacg.func85, Tacg.ntmps85
  go_wp2_with (first | (go_at_call_of 70 (Value.slice none 0 0); refine (trim_nil _).mono ?_; rintro e w' ⟨rfl, hw⟩; obtain rfl := hw.symm) | (go_at_call_of 70 (Value.slice (some ⟨g, 0, none⟩) m m); refine (trim_any g 0 m m f (Nat.le_refl _) hc _ H.out).mono ?_; rw [et]; rintro e w' ⟨rfl, hw⟩; obtain rfl := hw.symm))
  go_ret
  exact ⟨rfl, rfl⟩

set_option maxRecDepth 100000 in
set_option maxHeartbeats 1000000 in
theorem cmp_self (g m : Nat) (f : Nat → Int) (hm : 0 < m) (hc : m ≤ 140737488355328) (ht : top f m = m) (w : World) (h : RowAt w g m f) :
    Calls Tacg.prog 85 #[.slice (some ⟨g, 0, none⟩) m m, .slice (some ⟨g, 0, none⟩) m m] w fun r w' => r = .returned (.int .i8 0) ∧ ∃ d, w' = w.drewN d := by
  have H := hide h
  have t0 : (0 : Int) < (m : Int) := by omega
  have et := trimR g f m ht hm
  clear h
  go_enter Tacg.func85, Tacg.ntmps85
  go_wp2_with (go_at_call 70; refine (trim_any g 0 m m f (Nat.le_refl _) hc _ H.out.cells).mono ?_; rw [et]; rintro e w' ⟨rfl, hw⟩; obtain rfl := hw.symm)
  go_loopw [5] (fun s5 w1 => ∃ (z : Int) (d : Nat), s5 = .int .i64 z ∧ -1 ≤ z ∧ z < m ∧ w1 = w.drewN d) (fun s5 _ => (intOf s5 + 1).toNat)
  case atStart => exact ⟨(m : Int) - 1, 0, by go_num, by omega, by omega, rfl⟩
  case round =>
    obtain ⟨z, d, rfl, z0, z1, rfl⟩ := hrel
    by_cases hz : 0 ≤ z
    · obtain ⟨i, rfl⟩ := Int.eq_ofNat_of_zero_le hz
      have hi : i < m := by omega
      have hi' : (i : Int) < (m : Int) := by omega
      have hcell := H.out.cell i hi
      go_wp2_with fail
      go_quiet (fail)
      go_wp2_with fail
      go_quiet (fail)
      go_wp2_with fail
      go_roundw
      case rel => exact ⟨(i : Int) - 1, _, by go_num, by omega, by omega, rfl⟩
      case measure => simp [intOf] <;> omega
    · obtain rfl : z = -1 := by omega
      go_wp2
      go_ret
      exact ⟨rfl, d, rfl⟩

theorem top_zeros (n : Nat) : top (fun _ => 0) n = 0 := by
  induction n with
  | zero => rfl
  | succ n ih => rw [top_zero (f := fun _ => 0) rfl, ih]

set_option maxRecDepth 100000 in
set_option maxHeartbeats 1000000 in
theorem sub_less (g m : Nat) (f : Nat → Int) (hm : 0 < m) (hc : m ≤ 140737488355328) (ht : top f m = m) (w : World) (h : Cells w g 0 m f) :
    Calls Tacg.prog 34 #[.slice none 0 0, .slice (some ⟨g, 0, none⟩) m m] w fun r w' => r = .returned (.tuple #[.slice none 0 0, .bool false]) ∧ w' = w := by
  have H := hide h
  have et := trimR g f m ht hm
  clear h
  go_enter Tacg.func34, Tacg.ntmps34
  go_wp2_with (first | (go_at_call_of 70 (Value.slice none 0 0); refine (trim_nil _).mono ?_; rintro e w' ⟨rfl, hw⟩; obtain rfl := hw.symm) | (go_at_call_of 70 (Value.slice (some ⟨g, 0, none⟩) m m); refine (trim_any g 0 m m f (Nat.le_refl _) hc _ H.out).mono ?_; rw [et]; rintro e w' ⟨rfl, hw⟩; obtain rfl := hw.symm) | (go_at_call 85; refine (cmp_less g m f hm hc ht _ H.out).mono ?_; rintro e w' ⟨rfl, hw⟩; obtain rfl := hw.symm))
  go_ret2
  exact ⟨rfl, rfl⟩

set_option maxRecDepth 100000 in
set_option maxHeartbeats 1000000 in
theorem sub_none (w : World) :
    Calls Tacg.prog 34 #[.slice none 0 0, .slice none 0 0] w fun r w' => r = .returned (.tuple #[.slice none 0 0, .bool true]) ∧ Below w.heap.size w w' := by
  have rm : ∀ w : World, (Instr.makeSlice 23 (.int .i64 0) (.int .i64 0)).run Tacg.prog w = .ok (.slice (some ⟨w.heap.size, 0, none⟩) 0 0) (w.alloc (.cells (rowL 0 fun _ => 0).toArray 5)) := make23 0 (by omega)
  have HR := hide (RowAt.new w 0 fun _ => 0)
  go_enter Tacg.func34, Tacg.ntmps34
  go_wp2_with (first | (go_at_call 70; refine (trim_nil _).mono ?_; rintro e w' ⟨rfl, hw⟩; obtain rfl := hw.symm) | (go_at_call 85; refine (cmp_nil _).mono ?_; rintro e w' ⟨rfl, hw⟩; obtain rfl := hw.symm))
  go_loopw [7, 8, 9] (fun s7 s8 s9 w1 => s8 = .int .i64 0 ∧ w1 = w.alloc (.cells (rowL 0 fun _ => 0).toArray 5)) (fun _ _ _ _ => 0)
  case atStart => exact ⟨rfl, rfl⟩
  case round =>
    obtain ⟨rfl, hw⟩ := hrel
    subst hw
    go_wp2_with (go_at_call 70; refine (trim_any w.heap.size 0 0 0 (fun _ => 0) (Nat.le_refl _) (by omega) _ HR.out.cells).mono ?_; rintro e w' ⟨rfl, hw⟩; obtain rfl := hw.symm)
    go_ret2
    exact ⟨rfl, (Below.refl _ _).alloc (Nat.le_refl _) _⟩

set_option maxRecDepth 100000 in
set_option maxHeartbeats 2000000 in
theorem sub_self (g m : Nat) (f : Nat → Int) (hm : 0 < m) (hc : m ≤ 140737488355328) (ht : top f m = m) (hf : ∀ i, i < m → 0 ≤ f i ∧ f i < 256) (w : World) (h : RowAt w g m f) :
    Calls Tacg.prog 34 #[.slice (some ⟨g, 0, none⟩) m m, .slice (some ⟨g, 0, none⟩) m m] w fun r w' => r = .returned (.tuple #[.slice none 0 0, .bool true]) ∧ Below w.heap.size w w' := by
  have H := hide h
  have HF := hide hf
  have hlt := h.lt
  have et := trimR g f m ht hm
  have rm := make23 m hc
  clear h hf
  go_enter Tacg.func34, Tacg.ntmps34
  go_wp2_with (first | (go_at_call 70; refine (trim_any g 0 m m f (Nat.le_refl _) hc _ H.out.cells).mono ?_; rw [et]; rintro e w' ⟨rfl, hw⟩; obtain rfl := hw.symm) | (go_at_call 85; refine (cmp_self g m f hm hc ht _ H.out).mono ?_; rintro e w' ⟨rfl, d0, rfl⟩))
  go_loopw [7, 8, 9] (fun s7 s8 s9 w1 => ∃ i : Nat, s7 = .int .u16 0 ∧ s8 = .int .i64 i ∧ i ≤ m ∧ Hid (RowAt w1 w.heap.size m (fun _ => 0)) ∧ Hid (Below w.heap.size w w1)) (fun _ s8 _ _ => m - (intOf s8).toNat)
  case atStart => exact ⟨0, rfl, rfl, Nat.zero_le _, RowAt.new (w.drewN d0) m _, (below_dN (Below.refl _ _) d0).alloc (Nat.le_refl _) _⟩
  case round =>
    obtain ⟨i, rfl, rfl, hi, hR, hB⟩ := hrel
    by_cases c : i < m
    · have hi' : (i : Int) < (m : Int) := by omega
      have hx := (H.out.below hB.out hlt).cell i c
      have ho := hR.out.cell i c
      have hz := hR.out.frozen i
      have f0 := (HF.out i c).1
      have f1 := (HF.out i c).2
      go_wp2
      go_roundw
      case rel =>
        refine ⟨i + 1, rfl, by go_num, by omega, (hR.out.set i c 0).ext ?_, hB.out.setCell (Nat.le_refl _) _⟩
        funext j
        split <;> rfl
      case measure => simp [intOf] <;> omega
    · obtain rfl : i = m := by omega
      go_wp2_with (go_at_call 70; refine (trim_any w.heap.size 0 i i (fun _ => 0) (Nat.le_refl _) hc _ hR.out.cells).mono ?_; rw [show trimV w.heap.size 0 (fun _ => 0) i = .slice none 0 0 by unfold trimV; rw [if_pos (top_zeros _)]]; rintro e w' ⟨rfl, hw⟩; obtain rfl := hw.symm)
      go_ret2
      exact ⟨rfl, hB.out⟩
end Go.Proofs.Ygctac
