/-
  copyC, allSameC, tw.Table.
-/
import Derived.Test.YgctacCx3
namespace Go.Proofs.Ygctac.Cx
open Go.RowKit
set_option linter.unusedVariables false
set_option linter.unusedSimpArgs false

@[go_sem] theorem run_store_complex (P : Program) (w : World) (a : Addr) (m : Mode) (k : FloatKind) (x y : Nat) : (store a (.complex k x y) m).run P w = stored P w a (.complex k x y) m := run_store P w a _ m rfl

/-- A slice of n complex numbers F, from its block's first cell on. -/
def CV (w : World) (v : Value) (n : Nat) (F : Nat → Nat × Nat) : Prop := (v = .slice none 0 0 ∧ n = 0) ∨ ∃ g, v = .slice (some ⟨g, 0, none⟩) n n ∧ CRow w g n F
theorem CV.after {w w' : World} {v : Value} {n : Nat} {F : Nat → Nat × Nat} (h : CV w v n F) (hb : Below w.heap.size w w') : CV w' v n F := by
  rcases h with h | ⟨g, h1, h2⟩
  · exact .inl h
  · exact .inr ⟨g, h1, h2.after hb⟩

def crowL (n : Nat) (F : Nat → Nat × Nat) : List Value := (List.range n).map fun i => .complex .f64 (F i).1 (F i).2
theorem crowL_length (n : Nat) (F : Nat → Nat × Nat) : (crowL n F).length = n := by simp [crowL]
theorem crowL_get (n : Nat) (F : Nat → Nat × Nat) (i : Nat) (h : i < n) : (crowL n F)[i]? = some (.complex .f64 (F i).1 (F i).2) := by simp [crowL, h]
theorem crowL_one (n : Nat) (F : Nat → Nat × Nat) : ∀ v ∈ crowL n F, v.oneCell' = true := by
  intro v hv
  simp only [crowL, List.mem_map] at hv
  obtain ⟨i, _, rfl⟩ := hv
  rfl
theorem made_crow (n : Nat) : madeCells #[.complex .f64 0 0] n = (crowL n fun _ => (0, 0)).toArray := by
  unfold madeCells crowL
  apply Array.ext'
  simp
  intro a _
  rw [Nat.mod_one]
  rfl
theorem size143 : (Tacg.prog.info? 143).map (·.size) = some 1 := by kernel_rfl
theorem crow_of {w : World} {g n : Nat} {F : Nat → Nat × Nat} (h : w.heap[g]? = some (.cells (crowL n F).toArray 143 (0, 0))) : CRow w g n F :=
  ⟨_, h, by simp [crowL_length], fun i hi => by have := crowL_get n F i hi; simpa using this⟩

set_option maxRecDepth 100000 in
theorem copyC_row (g n : Nat) (hn : n ≤ 2048) (F : Nat → Nat × Nat) (w : World) (h : CRow w g n F) :
    Calls Tacg.prog 110 #[.slice (some ⟨g, 0, none⟩) n n] w fun r w' => r = .returned (.slice (some ⟨w.heap.size, 0, none⟩) n n) ∧ CRow w' w.heap.size n F ∧ Below w.heap.size w w' := by
  have rm := make68' n (by omega)
  rw [made_crow] at rm
  have HC := hide (show ∀ j v, (crowL n F)[j]? = some v → (w.alloc (.cells (crowL n fun _ => (0, 0)).toArray 143)).cell? ((⟨g, 0, none⟩ : Addr).add j) = some v by
    intro j v hv
    have hj : j < n := by
      have := (List.getElem?_eq_some_iff.1 hv).1
      simpa [crowL_length] using this
    rw [crowL_get n F j hj] at hv
    obtain rfl := Option.some.inj hv
    rw [add_none, Nat.zero_add]
    exact cell_alloc' _ (h.cell j hj))
  clear h
  go_enter Tacg.func110, Tacg.ntmps110
  go_wp2_with (refine wpList_copy_splice rfl (.tmp 7) (.tmp 8) 68 68 rfl 143 Tacg.underlying68 size143 _ _ n n n n rfl rfl w.heap.size 0 (crowL n fun _ => (0, 0)) 143 (alloc_last _ _) (crowL n F) (by rw [crowL_length]; exact (Nat.min_self n).symm) (fun _ => ⟨rfl, ⟨g, 0, none⟩, rfl, HC.out⟩) (by simp [crowL_length]) (crowL_one _ _) w.heap.size w ((Below.refl _ _).alloc (Nat.le_refl _) _) (Nat.le_refl _) ?_; intro w2 hg2 hb2)
  go_ret
  refine ⟨rfl, crow_of ?_, hb2⟩
  have := hg2.out
  rwa [splice_whole _ _ (by simp [crowL_length])] at this
set_option maxRecDepth 100000 in
theorem copyC_nil (w : World) : Calls Tacg.prog 110 #[.slice none 0 0] w fun r w' => r = .returned (.slice (some ⟨w.heap.size, 0, none⟩) 0 0) ∧ CRow w' w.heap.size 0 (fun _ => (0, 0)) ∧ Below w.heap.size w w' := by
  have rm : ∀ w : World, (Instr.makeSlice 68 (.int .i64 0) (.int .i64 0)).run Tacg.prog w = .ok (.slice (some ⟨w.heap.size, 0, none⟩) 0 0) (w.alloc (.cells (madeCells #[.complex .f64 0 0] 0) 143)) := make68' 0 (by omega)
  rw [made_crow] at rm
  go_enter Tacg.func110, Tacg.ntmps110
  go_wp2_with (refine wpList_copy_splice rfl (.tmp 7) (.tmp 8) 68 68 rfl 143 Tacg.underlying68 size143 _ _ 0 0 0 0 rfl rfl w.heap.size 0 (crowL 0 fun _ => (0, 0)) 143 (alloc_last _ _) (crowL 0 fun _ => (0, 0)) (by rw [crowL_length]; exact (Nat.min_self 0).symm) (fun hh => absurd hh (by simp [crowL_length])) (by simp [crowL_length]) (crowL_one _ _) w.heap.size w ((Below.refl _ _).alloc (Nat.le_refl _) _) (Nat.le_refl _) ?_; intro w2 hg2 hb2)
  go_ret
  refine ⟨rfl, crow_of ?_, hb2⟩
  have := hg2.out
  rwa [splice_whole _ _ (by simp [crowL_length])] at this
theorem copyC_any {v : Value} {n : Nat} (hn : n ≤ 2048) {F : Nat → Nat × Nat} (w : World) (h : CV w v n F) :
    Calls Tacg.prog 110 #[v] w fun r w' => ∃ v', r = .returned v' ∧ CV w' v' n F ∧ Below w.heap.size w w' := by
  rcases h with ⟨rfl, rfl⟩ | ⟨g, rfl, h⟩
  · refine (copyC_nil w).mono ?_
    rintro r w' ⟨rfl, hR, hB⟩
    exact ⟨_, rfl, .inr ⟨_, rfl, hR.congr (fun i hi => absurd hi (by omega))⟩, hB⟩
  · refine (copyC_row g n hn F w h).mono ?_
    rintro r w' ⟨rfl, hR, hB⟩
    exact ⟨_, rfl, .inr ⟨_, rfl, hR⟩, hB⟩

theorem allSame_none (p q : Option Addr) (w : World) : Calls Tacg.prog 111 #[.slice p 0 0, .slice q 0 0] w fun r w' => r = .returned (.bool true) ∧ ∃ d, w' = w.drewN d := by
  go_enter Tacg.func111, Tacg.ntmps111
  go_wp2_with fail
  go_loopw [5] (fun s5 w1 => s5 = .int .i64 0 ∧ w1 = w) (fun _ _ => 0)
  case atStart => exact ⟨rfl, rfl⟩
  case round =>
    obtain ⟨rfl, hw⟩ := hrel
    obtain rfl := hw.symm
    go_wp2
    go_ret
    exact ⟨rfl, 0, rfl⟩
set_option maxRecDepth 100000 in
set_option maxHeartbeats 1000000 in
theorem allSame_row (g g' n : Nat) (hn : n ≤ 2048) (F : Nat → Nat × Nat) (w : World) (h : CRow w g n F) (h' : CRow w g' n F) :
    Calls Tacg.prog 111 #[.slice (some ⟨g, 0, none⟩) n n, .slice (some ⟨g', 0, none⟩) n n] w fun r w' => r = .returned (.bool true) ∧ ∃ d, w' = w.drewN d := by
  have H := hide h
  have H' := hide h'
  clear h h'
  go_enter Tacg.func111, Tacg.ntmps111
  go_wp2_with fail
  go_loopw [5] (fun s5 w0 => ∃ (w1 : World) (i d : Nat), s5 = .int .i64 i ∧ i ≤ n ∧ w0 = w1 ∧ w1 = w.drewN d) (fun s5 _ => n - (intOf s5).toNat)
  case atStart => exact ⟨w, 0, 0, rfl, Nat.zero_le _, rfl, rfl⟩
  case round =>
    obtain ⟨w1, i, d, rfl, hi, hww, hw⟩ := hrel
    obtain rfl := hww.symm
    by_cases hc : i < n
    · have hi' : (i : Int) < (n : Int) := by omega
      have c1 : w1.cell? ⟨g, i, none⟩ = some (.complex .f64 (F i).1 (F i).2) := by rw [hw]; exact H.out.cell i hc
      have c2 : w1.cell? ⟨g', i, none⟩ = some (.complex .f64 (F i).1 (F i).2) := by rw [hw]; exact H'.out.cell i hc
      have HW := hide hw
      clear hw
      go_wp2_with fail
      go_quiet (first | (go_at_call 112; refine Calls.quiet_of_same (sameC_self _ _ _)))
      go_wp2_with fail
      go_roundw
      case rel => exact ⟨_, i + 1, _, by go_num, by omega, rfl, by rw [HW.out]; exact World.drewN_drewN _ _ _⟩
      case measure => simp [intOf] <;> omega
    · obtain rfl : i = n := by omega
      have HW := hide hw
      clear hw
      go_wp2
      go_ret
      exact ⟨rfl, d, HW.out⟩
theorem allSame_any {u v : Value} {n : Nat} (hn : n ≤ 2048) {F : Nat → Nat × Nat} (w : World) (h : CV w u n F) (h' : CV w v n F) :
    Calls Tacg.prog 111 #[u, v] w fun r w' => r = .returned (.bool true) ∧ ∃ d, w' = w.drewN d := by
  rcases h with ⟨rfl, rfl⟩ | ⟨g, rfl, h⟩
  · rcases h' with ⟨rfl, _⟩ | ⟨g', rfl, h'⟩
    · exact allSame_none _ _ w
    · exact allSame_none _ _ w
  · rcases h' with ⟨rfl, rfl⟩ | ⟨g', rfl, h'⟩
    · exact allSame_none _ _ w
    · exact allSame_row g g' n hn F w h h'
end Go.Proofs.Ygctac.Cx
