/-
  tw.Table.
-/
import Derived.Test.YgctacCx4
namespace Go.Proofs.Ygctac.Cx
open Go.RowKit
set_option linter.unusedVariables false
set_option linter.unusedSimpArgs false

theorem p2_mono {i j : Nat} (h : i ≤ j) : p2 i ≤ p2 j := Nat.pow_le_pow_right (n := 2) (by decide) h
theorem table_none (k : Nat) (hk : k = 0 ∨ 11 < k) (hk2 : k < 256) (w : World) : Calls Tacg.prog 108 #[.int .u8 k] w fun r w' => r = .returned (.slice none 0 0) ∧ w' = w := by
  rcases hk with rfl | hk
  · go_enter Tacg.func108, Tacg.ntmps108
    go_wp2
    go_ret
    exact ⟨rfl, rfl⟩
  · have t1 : ¬ (k : Int) < 1 := by omega
    have t2 : (11 : Int) < (k : Int) := by omega
    go_enter Tacg.func108, Tacg.ntmps108
    go_wp2
    go_ret
    exact ⟨rfl, rfl⟩

/-- The first n entries of G are the table's of b blocks. -/
def Upto (k b n : Nat) (G : Nat → Nat × Nat) : Prop := ∀ i, i < n → G i = tabF k b i
theorem Upto.start (k : Nat) : Upto k 0 1 (fun j => if j = 0 then one else (0, 0)) := by
  intro i hi
  obtain rfl : i = 0 := by omega
  rfl
theorem Upto.next {k b : Nat} {G : Nat → Nat × Nat} (h : Upto k b (p2 b) G) : Upto k (b + 1) (p2 b) G := fun i hi => by
  rw [h i hi, tabF_low k b i hi]
theorem Upto.put {k b j : Nat} {G : Nat → Nat × Nat} (hj : j < p2 b) (h : Upto k (b + 1) (p2 b + j) G) : Upto k (b + 1) (p2 b + (j + 1)) (fun i => if i = p2 b + j then cmul (tabF k b j) (baseW (k - b)) else G i) := by
  intro i hi
  by_cases e : i = p2 b + j
  · simp only [e, if_true]
    exact (tabF_high k b j).symm
  · simp only [e, if_false]
    exact h i (by omega)
theorem Upto.at {k b j : Nat} {G : Nat → Nat × Nat} (hj : j < p2 b) (n : Nat) (h : Upto k (b + 1) (p2 b + n) G) : G j = tabF k b j := by
  rw [h j (by omega), tabF_low k b j hj]

set_option maxRecDepth 100000 in
set_option maxHeartbeats 2000000 in
theorem table_some (m : Nat) (hm : m + 1 ≤ 11) (w : World) : Calls Tacg.prog 108 #[.int .u8 ((m : Int) + 1)] w fun r w' => r = .returned (.slice (some ⟨w.heap.size, 0, none⟩) (p2 m) (p2 m)) ∧ CRow w' w.heap.size (p2 m) (tabF (m + 1) m) ∧ Below w.heap.size w w' := by
  have t1 : ¬ (m : Int) + 1 < 1 := by omega
  have t2 : ¬ (11 : Int) < (m : Int) + 1 := by omega
  have hp := wrap_p2 m (by omega)
  have hp4 := p2_le (show m ≤ 11 by omega)
  have rm := make68' (p2 m) (by omega)
  have hpos := p2_pos m
  have hpI : (0 : Int) < (p2 m : Int) := by omega
  have R0 := CRow.new w (p2 m)
  have c0 := R0.cell 0 hpos
  have f0 := R0.frozen 0
  have HR1 : Hid (CRow (w.alloc (.cells ((madeCells #[.complex .f64 0 0] (p2 m)).setIfInBounds 0 (.complex .f64 4607182418800017408 0)) 143)) w.heap.size (p2 m) (fun j => if j = 0 then one else (0, 0))) := by
    refine hide ⟨_, alloc_last _ _, by simp [madeCells], fun i hi => ?_⟩
    by_cases e : i = 0
    · subst e
      simp [madeCells, hpos, one]
    · rw [Array.getElem?_setIfInBounds_ne (by omega)]
      simp [madeCells, hi, Nat.mod_one, e]
  have HB1 := hide ((Below.refl w.heap.size w).alloc (Nat.le_refl _) (.cells ((madeCells #[.complex .f64 0 0] (p2 m)).setIfInBounds 0 (.complex .f64 4607182418800017408 0)) 143))
  clear R0
  go_enter Tacg.func108, Tacg.ntmps108
  go_wp2_with fail
  clear c0 f0 rm hp
  generalize w.alloc (.cells ((madeCells #[.complex .f64 0 0] (p2 m)).setIfInBounds 0 (.complex .f64 4607182418800017408 0)) 143) = W0 at *
  go_loopw [5, 6, 7, 8] (fun s5 s6 s7 s8 w1 => ∃ (b : Nat) (G : Nat → Nat × Nat) (W : World), s5 = .int .u8 b ∧ b ≤ m ∧ w1 = W ∧ Hid (Upto (m + 1) b (p2 b) G) ∧ Hid (CRow W w.heap.size (p2 m) G) ∧ Hid (Below w.heap.size w W)) (fun s5 _ _ _ _ => m - (intOf s5).toNat)
  case atStart => exact ⟨0, _, W0, rfl, by omega, rfl, hide (Upto.start _), HR1, HB1⟩
  case round =>
    obtain ⟨b, G, W, rfl, hb, hw, hU, hR, hB⟩ := hrel
    obtain rfl := hw.symm
    clear hw
    by_cases c : b < m
    · have c' : (b : Int) + 1 < (m : Int) + 1 := by omega
      have hp := wrap_p2 b (by omega)
      have hkb : ((m : Int) + 1 - (b : Int)) = ((m + 1 - b : Nat) : Int) := by omega
      have hpb := p2_le (show b ≤ 11 by omega)
      have hbm : p2 b + p2 b ≤ p2 m := by have := p2_mono (show b + 1 ≤ m from c); rw [p2_succ] at this; omega
      have hBA := hide (baseAny (m + 1 - b) (by omega) W)
      go_wp2_with fail
      rw [hp]
      refine hBA.out.mono ?_
      rintro e w' ⟨rfl, hw⟩; obtain rfl := hw.symm
      clear hw hBA
      go_wp2_with fail
      go_loopw [8] (fun s8 w1 => ∃ (j : Nat) (G : Nat → Nat × Nat) (W : World), s8 = .int .i64 j ∧ j ≤ p2 b ∧ w1 = W ∧ Hid (Upto (m + 1) (b + 1) (p2 b + j) G) ∧ Hid (CRow W w.heap.size (p2 m) G) ∧ Hid (Below w.heap.size w W)) (fun s8 _ => p2 b - (intOf s8).toNat)
      case atStart => exact ⟨0, G, W, rfl, by omega, rfl, hide hU.out.next, hR, hB⟩
      case round =>
        obtain ⟨j, H, W1, rfl, hj, hw, hU1, hR1, hB1⟩ := hrel
        obtain rfl := hw.symm
        clear hw hU hR hB
        by_cases cj : j < p2 b
        · have cj' : (j : Int) < (p2 b : Int) := by omega
          have cj2 : (j : Int) < (p2 m : Int) := by omega
          have cj3 : (p2 b : Int) + (j : Int) < (p2 m : Int) := by omega
          have eg := hU1.out.at cj
          have hc1 := hR1.out.cell j (by omega)
          rw [eg] at hc1
          have hc2 := hR1.out.cell (p2 b + j) (by omega)
          have hf2 := hR1.out.frozen (p2 b + j)
          have HM := hide (cmul_ok (tabF_cb (m + 1) b (by omega) j) (base_cb (m + 1 - b)) rfl (by have := p2_53 (show b + 1 ≤ 53 by omega); rw [Nat.pow_succ] at this; omega)).2
          go_wp2_with fail
          obtain ⟨q1, q2, q3, q4, q5, q6⟩ := HM.out
          refine (mulC (tabF (m + 1) b j) (baseW (m + 1 - b)) W1 q1 q2 q3 q4 q5 q6).mono ?_
          rintro e w' ⟨rfl, hw⟩; obtain rfl := hw.symm
          clear hw q1 q2 q3 q4 q5 q6 HM
          have hR2 := hide (hR1.out.set (p2 b + j) (by omega) (cmul (tabF (m + 1) b j) (baseW (m + 1 - b))))
          have hB2 := hide (hB1.out.setCell (p := ⟨w.heap.size, p2 b + j, none⟩) (Nat.le_refl _) (.complex .f64 (cmul (tabF (m + 1) b j) (baseW (m + 1 - b))).1 (cmul (tabF (m + 1) b j) (baseW (m + 1 - b))).2))
          have hU2 := hide (hU1.out.put cj)
          generalize cmul (tabF (m + 1) b j) (baseW (m + 1 - b)) = z at *
          clear hR1 hB1 hU1 eg
          go_wp2_with fail
          go_roundw
          case rel => exact ⟨j + 1, _, _, by go_num, by omega, rfl, hU2, hR2, hB2⟩
          case measure => simp [intOf] <;> omega
        · obtain rfl : j = p2 b := by omega
          have hU2 : Hid (Upto (m + 1) (b + 1) (p2 (b + 1)) H) := by
            have := hU1.out
            rw [← Nat.two_mul, ← p2_succ] at this
            exact this
          go_wp2_with fail
          go_roundw
          case rel => exact ⟨b + 1, H, _, by go_num, by omega, rfl, hU2, hR1, hB1⟩
          case measure => simp [intOf] <;> omega
    · obtain rfl : b = m := by omega
      go_wp2_with fail
      go_ret
      exact ⟨rfl, hR.out.congr hU.out, hB.out⟩

/-- The table of any k, as a slice. -/
def tabN (k : Nat) : Nat := if k = 0 ∨ 11 < k then 0 else p2 (k - 1)
theorem table_any (k : Nat) (hk : k < 256) (w : World) : Calls Tacg.prog 108 #[.int .u8 k] w fun r w' => ∃ v, r = .returned v ∧ CV w' v (tabN k) (tabF k (k - 1)) ∧ Below w.heap.size w w' := by
  by_cases h : k = 0 ∨ 11 < k
  · refine (table_none k h hk w).mono ?_
    rintro r w' ⟨rfl, rfl⟩
    exact ⟨_, rfl, .inl ⟨rfl, by unfold tabN; rw [if_pos h]⟩, Below.refl _ _⟩
  · obtain ⟨m, rfl⟩ : ∃ m, k = m + 1 := ⟨k - 1, by omega⟩
    refine (table_some m (by omega) w).mono ?_
    rintro r w' ⟨rfl, hR, hB⟩
    have e : tabN (m + 1) = p2 m := by unfold tabN; rw [if_neg h]; rfl
    rw [e]
    exact ⟨_, rfl, .inr ⟨_, rfl, hR⟩, hB⟩
end Go.Proofs.Ygctac.Cx
