/-
  Rows of values of one kind; fft.RoundAll.
-/
import Derived.Test.YgctacFt6
namespace Go.Proofs.Ygctac
open Go.RowKit
set_option linter.unusedVariables false
set_option linter.unusedSimpArgs false

/-- Block g is a row of n cells, each with P. -/
def RowP (w : World) (g n : Nat) (t : TypeId) (P : Value → Prop) : Prop := ∃ C : Array Value, w.heap[g]? = some (.cells C t (0, 0)) ∧ C.size = n ∧ ∀ i, i < n → ∃ v, C[i]? = some v ∧ P v
theorem RowP.cell {w : World} {g n : Nat} {t : TypeId} {P : Value → Prop} (h : RowP w g n t P) {i : Nat} (hi : i < n) : ∃ v, w.cell? ⟨g, i, none⟩ = some v ∧ P v := by
  obtain ⟨C, h1, h2, h3⟩ := h
  obtain ⟨v, e, hv⟩ := h3 i hi
  refine ⟨v, ?_, hv⟩
  rw [World.cell?, h1]
  exact e
theorem RowP.frozen {w : World} {g n : Nat} {t : TypeId} {P : Value → Prop} (h : RowP w g n t P) (i : Nat) : w.frozen? ⟨g, i, none⟩ = false := by
  obtain ⟨C, h1, _⟩ := h
  rw [World.frozen?, h1]
  simp
theorem RowP.lt {w : World} {g n : Nat} {t : TypeId} {P : Value → Prop} (h : RowP w g n t P) : g < w.heap.size := by
  obtain ⟨C, h1, _⟩ := h
  exact (Array.getElem?_eq_some_iff.1 h1).1
theorem RowP.below {w w' : World} {g n B : Nat} {t : TypeId} {P : Value → Prop} (h : RowP w g n t P) (hb : Below B w w') (hB : g < B) : RowP w' g n t P := by
  obtain ⟨C, h1, h2⟩ := h
  exact ⟨C, by rw [hb.block g hB, h1], h2⟩
theorem RowP.after {w w' : World} {g n : Nat} {t : TypeId} {P : Value → Prop} (h : RowP w g n t P) (hb : Below w.heap.size w w') : RowP w' g n t P := h.below hb h.lt
theorem RowP.set {w : World} {g n : Nat} {t : TypeId} {P : Value → Prop} (h : RowP w g n t P) {i : Nat} (hi : i < n) {v : Value} (hv : P v) : RowP (w.setCell ⟨g, i, none⟩ v) g n t P := by
  obtain ⟨C, h1, h2, h3⟩ := h
  refine ⟨C.setIfInBounds i v, heap_setCell_same w g i C t _ h1, by simp [h2], fun j hj => ?_⟩
  by_cases e : j = i
  · subst e
    exact ⟨v, by simp [h2, hj], hv⟩
  · obtain ⟨u, e1, e2⟩ := h3 j hj
    refine ⟨u, ?_, e2⟩
    simp only [Array.getElem?_setIfInBounds]
    rw [if_neg (by omega)]
    exact e1
theorem RowP.other {w : World} {g n : Nat} {t : TypeId} {P : Value → Prop} (h : RowP w g n t P) {a : Addr} (ha : a.block ≠ g) (v : Value) : RowP (w.setCell a v) g n t P := by
  obtain ⟨C, h1, h2⟩ := h
  exact ⟨C, by rw [Below.heap_setCell _ _ _ _ (fun e => ha e.symm)]; exact h1, h2⟩
theorem RowP.drewN {w : World} {g n d : Nat} {t : TypeId} {P : Value → Prop} (h : RowP w g n t P) : RowP (w.drewN d) g n t P := h
theorem RowP.new (w : World) (n : Nat) (t : TypeId) (P : Value → Prop) (v : Value) (hv : P v) : RowP (w.alloc (.cells (madeCells #[v] n) t)) w.heap.size n t P := by
  refine ⟨_, alloc_last _ _, by simp [madeCells], fun i hi => ⟨v, ?_, hv⟩⟩
  simp [madeCells, hi, Nat.mod_one]

def IsI64 (v : Value) : Prop := ∃ z : Int, v = .int .i64 z
theorem info2 : (Tacg.prog.info? 2).map (fun i => (i.zero, i.size, i.bytes)) = some (some (.int .i64 0), 1, 8) := by kernel_rfl
theorem make131 (n : Nat) (hn : n ≤ 4096) (w : World) : (Instr.makeSlice 131 (.int .i64 (n : Int)) (.int .i64 (n : Int))).run Tacg.prog w = .ok (.slice (some ⟨w.heap.size, 0, none⟩) n n) (w.alloc (.cells (madeCells #[.int .i64 0] n) 2)) :=
  run_make_row' (P := Tacg.prog) 131 2 (.int .i64 0) 8 Tacg.underlying131 info2 rfl .i64 .i64 n (by omega) (by omega) w

open Cx in
set_option maxRecDepth 100000 in
set_option maxHeartbeats 4000000 in
theorem roundAll_any (g n m : Nat) (hm : 0 < m) (hmn : m ≤ n) (hn : n ≤ 2048) (F : Nat → Nat × Nat) (w : World) (h : CRow w g n F) :
    Calls Tacg.prog 103 #[.slice (some ⟨g, 0, none⟩) n n, .int .i64 m] w fun r w' => ∃ s, r = .returned (.tuple #[.slice (some ⟨w.heap.size, 0, none⟩) m m, .bool s]) ∧ RowP w' w.heap.size m 2 IsI64 ∧ Below w.heap.size w w' := by
  have H := hide h
  have rm := make131 m (by omega)
  have m0 : (0 : Int) < (m : Int) := by omega
  have m1 : ¬ ((m : Int) < 0) := by omega
  have m2 : ¬ ((n : Int) < (m : Int)) := by omega
  have HG := hide h.lt
  clear h
  go_enter Tacg.func103, Tacg.ntmps103
  go_wp2_with fail
  clear rm
  go_loopw [5, 6, 7] (fun s5 s6 s7 w1 => ∃ (i : Nat) (s : Bool) (W : World), s5 = .bool s ∧ s6 = .int .i64 i ∧ i ≤ n ∧ w1 = W ∧ Hid (RowP W w.heap.size m 2 IsI64) ∧ Hid (Below w.heap.size w W)) (fun _ s6 _ _ => n - (intOf s6).toNat)
  case atStart => exact ⟨0, true, _, rfl, rfl, by omega, rfl, hide (RowP.new w m 2 IsI64 _ ⟨0, rfl⟩), hide ((Below.refl _ _).alloc (Nat.le_refl _) _)⟩
  case round =>
    obtain ⟨i, s, W, rfl, rfl, hi, hw, hR, hB⟩ := hrel
    obtain rfl := hw.symm
    clear hw
    by_cases ci : i < n
    · have ci' : (i : Int) < (n : Int) := by omega
      have hc := (H.out.below hB.out HG.out).cell i ci
      go_wp2_with fail
      refine (quarter_any _ _).mono ?_
      rintro e w' ⟨t, rfl, hw⟩
      obtain rfl := hw.symm
      clear hw
      by_cases cm : i < m
      · have cm' : (i : Int) < (m : Int) := by omega
        go_wp2_with fail
        refine (nearest_any _ _).mono ?_
        rintro e w' ⟨z, t, d, rfl, hw⟩
        have hc' : w'.cell? ⟨g, i, none⟩ = some (.complex .f64 (F i).1 (F i).2) := by rw [hw]; exact hc
        have hf' : w'.frozen? ⟨w.heap.size, i, none⟩ = false := by rw [hw]; exact hR.out.frozen i
        have hR1 : Hid (RowP w' w.heap.size m 2 IsI64) := by rw [hw]; exact hR
        have hB1 : Hid (Below w.heap.size w w') := by rw [hw]; exact hide (below_dN hB.out d)
        have HG' : g < w.heap.size := HG.out
        have hc2 : (w'.setCell ⟨w.heap.size, i, none⟩ (.int .i64 z)).cell? ⟨g, i, none⟩ = some (.complex .f64 (F i).1 (F i).2) := by
          rw [World.cell?_setCell_other]
          · exact hc'
          · simp; try omega
        clear hw hR hB hc HG'
        obtain ⟨_, hc0, z0, rfl⟩ := hR1.out.cell cm
        have hR2 : Hid (RowP (w'.setCell ⟨w.heap.size, i, none⟩ (.int .i64 z)) w.heap.size m 2 IsI64) := hide (hR1.out.set cm ⟨z, rfl⟩)
        have hB2 : Hid (Below w.heap.size w (w'.setCell ⟨w.heap.size, i, none⟩ (.int .i64 z))) := hide (hB1.out.setCell (p := ⟨w.heap.size, i, none⟩) (Nat.le_refl _) _)
        cases t
        · go_wp2_with fail
          go_roundw
          case rel => exact ⟨i + 1, false, _, rfl, by go_num, by omega, rfl, hR2, hB2⟩
          case measure => simp [intOf] <;> omega
        · go_wp2_with fail
          refine (quarter_any _ _).mono ?_
          rintro e w' ⟨q, rfl, hw⟩
          obtain rfl := hw.symm
          clear hw
          cases q
          · go_wp2_with fail
            go_roundw
            case rel => exact ⟨i + 1, false, _, rfl, by go_num, by omega, rfl, hR2, hB2⟩
            case measure => simp [intOf] <;> omega
          · go_wp2_with fail
            go_roundw
            case rel => exact ⟨i + 1, s, _, rfl, by go_num, by omega, rfl, hR2, hB2⟩
            case measure => simp [intOf] <;> omega
      · have cm' : ¬ ((i : Int) < (m : Int)) := by omega
        have hR2 := hR
        have hB2 := hB
        cases t
        · go_wp2_with fail
          go_roundw
          case rel => exact ⟨i + 1, false, _, rfl, by go_num, by omega, rfl, hR2, hB2⟩
          case measure => simp [intOf] <;> omega
        · go_wp2_with fail
          refine (quarter_any _ _).mono ?_
          rintro e w' ⟨q, rfl, hw⟩
          obtain rfl := hw.symm
          clear hw
          cases q
          · go_wp2_with fail
            go_roundw
            case rel => exact ⟨i + 1, false, _, rfl, by go_num, by omega, rfl, hR2, hB2⟩
            case measure => simp [intOf] <;> omega
          · go_wp2_with fail
            go_roundw
            case rel => exact ⟨i + 1, s, _, rfl, by go_num, by omega, rfl, hR2, hB2⟩
            case measure => simp [intOf] <;> omega
    · obtain rfl : i = n := by omega
      go_wp2_with fail
      go_ret2
      exact ⟨s, rfl, hR.out, hB.out⟩
end Go.Proofs.Ygctac
