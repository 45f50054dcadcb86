/-
  calc: room, take, Check and push at an empty machine.
-/
import Derived.Test.YgctacVec2
namespace Go.Proofs.Ygctac
open Go.RowKit
set_option linter.unusedVariables false
set_option linter.unusedSimpArgs false

theorem room0 (w : World) : Calls Tacg.prog 79 #[.int .u8 0] w fun r w' => r = .returned (.tuple #[.int .i64 0, .bool true]) ∧ w' = w := by
  go_enter Tacg.func79, Tacg.ntmps79
  go_wp2
  go_ret2
  exact ⟨rfl, rfl⟩
theorem take2 (g : Nat) (w : World) (h : Cells w g 0 2 (fun _ => 0)) : Calls Tacg.prog 82 #[.slice (some ⟨g, 0, none⟩) 2 2] w fun r w' => r = .returned (.slice none 0 0) ∧ w' = w := by
  have H := hide h
  clear h
  go_enter Tacg.func82, Tacg.ntmps82
  go_wp2_with (go_at_call 14; refine (take_zero g 0 2 2 (fun _ => 0) (Nat.le_refl _) (by omega) _ H.out (top_zeros _)).mono ?_; rintro e w' ⟨rfl, hw⟩; obtain rfl := hw.symm)
  go_ret
  exact ⟨rfl, rfl⟩

/-- A machine in its block. -/
def MachAt (w : World) (b : Nat) (s o : Value) : Prop := w.heap[b]? = some (.cells #[s, o] 34 (0, 0))
theorem MachAt.c0 {w : World} {b : Nat} {s o : Value} (h : MachAt w b s o) : w.cell? ⟨b, 0, none⟩ = some s := by rw [World.cell?, h]; rfl
theorem MachAt.c1 {w : World} {b : Nat} {s o : Value} (h : MachAt w b s o) : w.cell? ⟨b, 1, none⟩ = some o := by rw [World.cell?, h]; rfl
theorem MachAt.f0 {w : World} {b : Nat} {s o : Value} (h : MachAt w b s o) (i : Nat) : w.frozen? ⟨b, i, none⟩ = false := by rw [World.frozen?, h]; simp
theorem MachAt.lt {w : World} {b : Nat} {s o : Value} (h : MachAt w b s o) : b < w.heap.size := (Array.getElem?_eq_some_iff.1 h).1

set_option maxRecDepth 100000 in
theorem check0 (b : Nat) (w : World) (h : MachAt w b (.slice none 0 0) (.slice none 0 0)) : Calls Tacg.prog 21 #[.pointer (some ⟨b, 0, none⟩)] w fun r w' => r = .returned (.bool true) ∧ w' = w := by
  have c0 := h.c0
  have c1 := h.c1
  have H := hide h
  clear h
  go_enter Tacg.func21, Tacg.ntmps21
  go_wp2_with fail
  go_loopw [3] (fun s3 w1 => s3 = .int .i64 0 ∧ w1 = w) (fun _ _ => 0)
  case atStart => exact ⟨rfl, rfl⟩
  case round =>
    obtain ⟨rfl, hw⟩ := hrel
    obtain rfl := hw.symm
    go_wp2_with fail
    go_loopw [4] (fun s3 w1 => s3 = .int .i64 0 ∧ w1 = w) (fun _ _ => 0)
    case atStart => exact ⟨rfl, rfl⟩
    case round =>
      obtain ⟨rfl, hw⟩ := hrel
      obtain rfl := hw.symm
      go_wp2
      go_ret
      exact ⟨rfl, rfl⟩

theorem MachAt.alloc {w : World} {b : Nat} {s o : Value} (h : MachAt w b s o) (ob : Obj) : MachAt (w.alloc ob) b s o := (heap_alloc_old w ob h.lt).trans h
theorem MachAt.block {w w' : World} {b : Nat} {s o : Value} (h : MachAt w b s o) (e : w'.heap[b]? = w.heap[b]?) : MachAt w' b s o := e.trans h
theorem MachAt.set0 {w : World} {b : Nat} {s o : Value} (h : MachAt w b s o) (v : Value) : MachAt (w.setCell ⟨b, 0, none⟩ v) b v o := by
  unfold MachAt at *
  rw [World.setCell, Array.getElem?_modify, h]
  simp
theorem cap_ok : ¬ 281474976710656 < Builtin.nextslicecap 1 0 * Tacg.t23.bytes := by decide +kernel
/-- The capacity that the tape hands out. -/
def capOf (w : World) : Nat := (Question.appendCap 1 0 23).cut (w.tape w.drawn (Question.appendCap 1 0 23))
theorem cap_pos' (w : World) : 1 ≤ capOf w := by
  unfold capOf
  show 1 ≤ 1 + _ % _
  omega
def newRow (w : World) : Obj := .cells (#[Value.slice none 0 0] ++ Builtin.zeroCells #[Value.slice none 0 0] (capOf w - 1)) 23

set_option maxRecDepth 100000 in
theorem push0 (b : Nat) (w : World) (h : MachAt w b (.slice none 0 0) (.slice none 0 0)) : Calls Tacg.prog 81 #[.pointer (some ⟨b, 0, none⟩), .slice none 0 0] w fun r w' => r = .returned (.tuple #[]) ∧ w' = (((w.alloc (.cells #[.slice none 0 0] 23)).alloc (newRow w)).setCell ⟨b, 0, none⟩ (.slice (some ⟨w.heap.size + 1, 0, none⟩) 1 (capOf w))).drew := by
  have c0 := h.c0
  have hM := (h.alloc (.cells #[.slice none 0 0] 23)).alloc (newRow w)
  have k0 := hM.c0
  have f0 := hM.f0 0
  have hc := cap_ok
  unfold newRow capOf at k0 f0 ⊢
  clear h hM
  go_enter Tacg.func81, Tacg.ntmps81
  go_wp2
  go_end0
  exact ⟨rfl, rfl⟩

theorem MachAt.drew {w : World} {b : Nat} {s o : Value} (h : MachAt w b s o) : MachAt w.drew b s o := h
theorem push_any (b : Nat) (w : World) (h : MachAt w b (.slice none 0 0) (.slice none 0 0)) : Calls Tacg.prog 81 #[.pointer (some ⟨b, 0, none⟩), .slice none 0 0] w fun r w' => r = .returned (.tuple #[]) ∧
    ∃ g c, 1 ≤ c ∧ MachAt w' b (.slice (some ⟨g, 0, none⟩) 1 c) (.slice none 0 0) ∧ w'.cell? ⟨g, 0, none⟩ = some (.slice none 0 0) ∧ ∀ B w0, Below B w0 w → B ≤ b → Below B w0 w' := by
  refine (push0 b w h).mono ?_
  rintro r w' ⟨rfl, rfl⟩
  have hlt := h.lt
  refine ⟨rfl, w.heap.size + 1, capOf w, cap_pos' w, (((h.alloc _).alloc _).set0 _).drew, ?_, fun B w0 hB hb => ?_⟩
  · show (((w.alloc (.cells #[.slice none 0 0] 23)).alloc (newRow w)).setCell ⟨b, 0, none⟩ (.slice (some ⟨w.heap.size + 1, 0, none⟩) 1 (capOf w))).cell? _ = _
    have e : ((w.alloc (.cells #[.slice none 0 0] 23)).alloc (newRow w)).heap[w.heap.size + 1]? = some (newRow w) := by
      have := alloc_last (w.alloc (.cells #[.slice none 0 0] 23)) (newRow w)
      rwa [size_al] at this
    rw [World.cell?, Below.heap_setCell _ _ _ _ (by show w.heap.size + 1 ≠ b; omega), e]
    unfold newRow
    show (#[Value.slice none 0 0] ++ _)[0]? = _
    rw [Array.getElem?_append_left (by simp)]
    rfl
  · exact ((((hB.alloc (by omega) _).alloc (by rw [size_al]; omega) _).setCell (p := ⟨b, 0, none⟩) hb _).drew)

set_option maxRecDepth 100000 in
set_option maxHeartbeats 1000000 in
theorem step0 (eng : Int) (he0 : 0 ≤ eng) (he : eng ≤ 3) (b g : Nat) (w : World) (h : MachAt w b (.slice none 0 0) (.slice none 0 0)) (hg : Cells w g 0 2 (fun _ => 0)) :
    Calls Tacg.prog 23 #[.int .u8 eng, .pointer (some ⟨b, 0, none⟩), .agg #[.int .u8 0, .slice (some ⟨g, 0, none⟩) 2 2]] w fun r w' => r = .returned (.tuple #[]) ∧
    ∃ g c, 1 ≤ c ∧ MachAt w' b (.slice (some ⟨g, 0, none⟩) 1 c) (.slice none 0 0) ∧ w'.cell? ⟨g, 0, none⟩ = some (.slice none 0 0) ∧ ∀ B w0, Below B w0 w → B ≤ b → Below B w0 w' := by
  have H := hide (h.alloc (.cells #[.int .u8 0, .slice (some ⟨g, 0, none⟩) 2 2] 36))
  have hlt := h.lt
  have HG := hide (show Cells (w.alloc (.cells #[.int .u8 0, .slice (some ⟨g, 0, none⟩) 2 2] 36)) g 0 2 (fun _ => 0) from fun i hi => cell_alloc' _ (hg i hi))
  have c0 := H.out.c0
  have t3 : ¬ (3 : Int) < eng := by omega
  clear h hg
  go_enter Tacg.func23, Tacg.ntmps23
  go_wp2_with (first | (go_at_call 79; refine (room0 _).mono ?_; rintro e w' ⟨rfl, hw⟩; obtain rfl := hw.symm) | (go_at_call 21; refine (check0 b _ H.out).mono ?_; rintro e w' ⟨rfl, hw⟩; obtain rfl := hw.symm) | (go_at_call 82; refine (take2 g _ HG.out).mono ?_; rintro e w' ⟨rfl, hw⟩; obtain rfl := hw.symm) | (go_at_call 81; refine (push_any b _ H.out).mono ?_; rintro e w' ⟨rfl, g', c', q1, q2, q3, q4⟩))
  go_end0
  exact ⟨rfl, g', c', q1, q2, q3, fun B w0 hB hb => q4 B w0 (hB.alloc (by omega) _) hb⟩
end Go.Proofs.Ygctac
