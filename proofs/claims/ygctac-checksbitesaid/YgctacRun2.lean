/-
  calc.outcome, calc.Run: of no script, and of one that pushes a zero.
-/
import Derived.Test.YgctacRun1
namespace Go.Proofs.Ygctac
open Go.RowKit
set_option linter.unusedVariables false
set_option linter.unusedSimpArgs false

theorem cells_out {w : World} {b : Nat} {x y z : Value} (h0 : w.cell? ⟨b, 0, none⟩ = some x) (h1 : w.cell? ⟨b, 1, none⟩ = some y) (h2 : w.cell? ⟨b, 2, none⟩ = some z) : (loadVar 140 ⟨b, 0, none⟩).run Tacg.prog w = .ok (.agg #[x, y, z]) w := by
  have hr : w.rangeAt b 0 [x, y, z] := by
    intro j v hv
    match j, hv with
    | 0, hv => simpa [h0] using hv
    | 1, hv => simpa [h1] using hv
    | 2, hv => simpa [h2] using hv
    | j + 3, hv => simp at hv
  exact run_loadVar_mid (P := Tacg.prog) w b 0 140 [x, y, z] _ hr Tacg.underlying140 rfl (by kernel_rfl)
theorem results_cellN {fn : Func} {p : Tmp} {ty : TypeId} (h : fn.results = #[.cell p ty]) (tmps : Array Value) (P : Program) (w : World) (a : Addr) (v : Value)
    (ha : tmps.getD p undef = .pointer (some a)) (hl : (loadVar ty a).run P w = .ok v w) : (results fn tmps).run P w = .ok v w := by
  simp only [results, h]
  simp only [List.mapM_toArray, List.mapM_cons, List.mapM_nil, Sem.run_bind, Result.andThen, ha, asAddr, hl, Sem.run_pure]
  simp [Sem.run_bind, Result.andThen, hl]

set_option maxRecDepth 100000 in
set_option maxHeartbeats 1000000 in
theorem outcome0 (b : Nat) (w : World) (h : MachAt w b (.slice none 0 0) (.slice none 0 0)) :
    Calls Tacg.prog 157 #[.pointer (some ⟨b, 0, none⟩)] w fun r w' => r = .returned (.agg #[.bool false, .slice none 0 0, .slice none 0 0]) ∧ Below w.heap.size w w' := by
  have hM := (h.alloc (.cells #[.bool false, .slice none 0 0, .slice none 0 0] 140)).alloc (.cells #[.bool false, .slice none 0 0, .slice none 0 0] 140)
  have c0 := hM.c0
  have c1 := hM.c1
  clear h hM
  go_enter Tacg.func157, Tacg.ntmps157
  go_wp2_with fail
  go_loopw [4] (fun s4 w1 => s4 = .int .i64 0 ∧ w1 = (w.alloc (.cells #[.bool false, .slice none 0 0, .slice none 0 0] 140)).alloc (.cells #[.bool false, .slice none 0 0, .slice none 0 0] 140)) (fun _ _ => 0)
  case atStart => exact ⟨rfl, rfl⟩
  case round =>
    obtain ⟨rfl, hw⟩ := hrel
    subst hw
    go_wp2
    refine bodyPost_ret (results_cellN (by rfl) _ _ _ ⟨w.heap.size, 0, none⟩ (.agg #[.bool false, .slice none 0 0, .slice none 0 0]) rfl (cells_out ?_ ?_ ?_)) rfl ⟨rfl, ?_⟩
    · simp [go_sem]
    · simp [go_sem]
    · simp [go_sem]
    · exact ((Below.refl _ _).alloc (Nat.le_refl _) _).alloc (by rw [size_al]; omega) _

theorem info22 : (Tacg.prog.info? 22).map (fun i => (i.zero, i.size, i.bytes)) = some (some (.slice none 0 0), 1, 24) := by kernel_rfl
theorem make138 (w : World) : (Instr.makeSlice 138 (.int .i64 1) (.int .i64 1)).run Tacg.prog w = .ok (.slice (some ⟨w.heap.size, 0, none⟩) 1 1) (w.alloc (.cells #[.slice none 0 0] 22)) := by
  have h := run_make_row' (P := Tacg.prog) 138 22 (.slice none 0 0) 24 Tacg.underlying138 info22 rfl .i64 .i64 1 (by omega) (by omega) w
  have e : madeCells #[.slice none 0 0] 1 = #[Value.slice none 0 0] := by kernel_rfl
  rw [e] at h
  exact h

set_option maxRecDepth 100000 in
set_option maxHeartbeats 1000000 in
theorem outcome1 (b g c : Nat) (hc : 1 ≤ c) (w : World) (h : MachAt w b (.slice (some ⟨g, 0, none⟩) 1 c) (.slice none 0 0)) (hg : w.cell? ⟨g, 0, none⟩ = some (.slice none 0 0)) :
    Calls Tacg.prog 157 #[.pointer (some ⟨b, 0, none⟩)] w fun r w' => ∃ k, r = .returned (.agg #[.bool false, .slice (some ⟨k, 0, none⟩) 1 1, .slice none 0 0]) ∧ w'.cell? ⟨k, 0, none⟩ = some (.slice none 0 0) ∧ w.heap.size ≤ k ∧ Below w.heap.size w w' := by
  have hM := (h.alloc (.cells #[.bool false, .slice none 0 0, .slice none 0 0] 140)).alloc (.cells #[.bool false, .slice none 0 0, .slice none 0 0] 140)
  have c0 := hM.c0
  have c1 := hM.c1
  have hg' := cell_alloc' (.cells #[.bool false, .slice none 0 0, .slice none 0 0] 140) (cell_alloc' (.cells #[.bool false, .slice none 0 0, .slice none 0 0] 140) hg)
  have rm := make138
  have hM2 := ((h.alloc (.cells #[.bool false, .slice none 0 0, .slice none 0 0] 140)).alloc (.cells #[.bool false, .slice (some ⟨w.heap.size + 1 + 1, 0, none⟩) 1 1, .slice none 0 0] 140)).alloc (.cells #[.slice none 0 0] 22)
  have d0 := hM2.c0
  have d1 := hM2.c1
  have dg := cell_alloc' (.cells #[.slice none 0 0] 22) (cell_alloc' (.cells #[.bool false, .slice (some ⟨w.heap.size + 1 + 1, 0, none⟩) 1 1, .slice none 0 0] 140) (cell_alloc' (.cells #[.bool false, .slice none 0 0, .slice none 0 0] 140) hg))
  clear h hM hM2 hg'
  go_enter Tacg.func157, Tacg.ntmps157
  go_wp2_with fail
  clear c0 c1
  go_loopw [4] (fun s4 w1 => ∃ i : Nat, s4 = .int .i64 i ∧ i ≤ 1 ∧ w1 = ((w.alloc (.cells #[.bool false, .slice none 0 0, .slice none 0 0] 140)).alloc (.cells #[.bool false, .slice (some ⟨w.heap.size + 1 + 1, 0, none⟩) 1 1, .slice none 0 0] 140)).alloc (.cells #[.slice none 0 0] 22)) (fun s4 _ => 1 - (intOf s4).toNat)
  case atStart => exact ⟨0, rfl, by decide, rfl⟩
  case round =>
    obtain ⟨i, rfl, hi, hw⟩ := hrel
    subst hw
    rcases Nat.eq_zero_or_pos i with rfl | hp
    · go_wp2
      go_roundw
      case rel => exact ⟨1, rfl, by decide, by first | rfl | trivial⟩
      case measure => simp [intOf]
    · obtain rfl : i = 1 := by omega
      go_wp2
      refine bodyPost_ret (results_cellN (by rfl) _ _ _ ⟨w.heap.size, 0, none⟩ (.agg #[.bool false, .slice (some ⟨w.heap.size + 1 + 1, 0, none⟩) 1 1, .slice none 0 0]) rfl (cells_out ?_ ?_ ?_)) rfl ⟨w.heap.size + 1 + 1, rfl, ?_, by omega, ?_⟩
      · simp [go_sem]
      · simp [go_sem]
      · simp [go_sem]
      · simp [go_sem]
      · exact (((Below.refl _ _).alloc (Nat.le_refl _) _).alloc (by rw [size_al]; omega) _).alloc (by rw [size_al, size_al]; omega) _
end Go.Proofs.Ygctac
