/-
  fft.Inverse.
-/
import Derived.Test.YgctacFt4
namespace Go.Proofs.Ygctac.Cx
open Go.RowKit
open Fp (fv)
set_option linter.unusedVariables false
set_option linter.unusedSimpArgs false

theorem len_all : (List.range 12).all (fun k => decide (floatOfInt .f64 ((p2 k : Nat) : Int) < 18446744073709551616) && decide (sCl (floatOfInt .f64 ((p2 k : Nat) : Int)) ≤ 1) && decide ((1 : Int) * KK ≤ ((fv (floatOfInt .f64 ((p2 k : Nat) : Int))).natAbs : Int))) = true := by decide +kernel
theorem len_ok {k : Nat} (hk : k ≤ 11) : Fp.Fin (floatOfInt .f64 ((p2 k : Nat) : Int)) ∧ (1 : Int) * KK ≤ ((fv (floatOfInt .f64 ((p2 k : Nat) : Int))).natAbs : Int) := by
  have := List.all_eq_true.1 len_all k (List.mem_range.2 (by omega))
  simp only [Bool.and_eq_true, decide_eq_true_eq] at this
  exact ⟨(fin_iff this.1.1).1 this.1.2, this.2⟩
theorem CE.conj {e : Nat} {z : Nat × Nat} (h : CE e z) : CE e (z.1, flip64 z.2) := ⟨h.1, flip_bd h.2⟩

/-- A row whose first i entries may be anything, the rest below 2^e. -/
def CRI (w : World) (g n e i : Nat) : Prop := ∃ F, (∀ j, i ≤ j → CE e (F j)) ∧ CRow w g n F
theorem CRI.cell {w : World} {g n e i : Nat} (h : CRI w g n e i) (hi : i < n) : ∃ z, CE e z ∧ w.cell? ⟨g, i, none⟩ = some (.complex .f64 z.1 z.2) := by
  obtain ⟨F, h1, h2⟩ := h
  exact ⟨F i, h1 i (Nat.le_refl _), h2.cell i hi⟩
theorem CRI.frozen {w : World} {g n e i : Nat} (h : CRI w g n e i) (j : Nat) : w.frozen? ⟨g, j, none⟩ = false := by
  obtain ⟨F, h1, h2⟩ := h
  exact h2.frozen j
theorem CRI.set {w : World} {g n e i : Nat} (h : CRI w g n e i) (hi : i < n) (x y : Nat) : CRI (w.setCell ⟨g, i, none⟩ (.complex .f64 x y)) g n e (i + 1) := by
  obtain ⟨F, h1, h2⟩ := h
  refine ⟨_, fun j hj => ?_, h2.set i hi (x, y)⟩
  simp only [show j ≠ i by omega, if_false]
  exact h1 j (by omega)
theorem CRI.drewN {w : World} {g n e i d : Nat} (h : CRI w g n e i) : CRI (w.drewN d) g n e i := h

set_option maxRecDepth 100000 in
set_option maxHeartbeats 4000000 in
theorem inverse_any (g gt kk e : Nat) (hk : kk + 1 ≤ 11) (he : e + 12 * (kk + 1) ≤ 1000) (hne : g ≠ gt) (w : World) (h : CRE w g (p2 (kk + 1)) e) (ht : CRE w gt (p2 kk) 10) :
    Calls Tacg.prog 119 #[.slice (some ⟨g, 0, none⟩) (p2 (kk + 1)) (p2 (kk + 1)), .slice (some ⟨gt, 0, none⟩) (p2 kk) (p2 kk)] w fun q w' => q = .returned (.bool true) ∧ (∃ F, CRow w' g (p2 (kk + 1)) F) ∧ Below g w w' := by
  have HF := hide (fits_p2 kk hk w)
  have hp := p2_le hk
  have hp2 := p2_le (show kk ≤ 11 by omega)
  have rm := make68' (p2 kk) (by omega)
  have A0 := (Below.refl w.heap.size w).alloc (Nat.le_refl _) (.cells (madeCells #[.complex .f64 0 0] (p2 kk)) 143)
  have HR := hide h
  have HT := hide ht
  have hlt := h.lt
  clear h ht
  go_enter Tacg.func119, Tacg.ntmps119
  go_wp2_with fail
  refine HF.out.mono ?_
  rintro q w' ⟨rfl, hw⟩; obtain rfl := hw.symm
  clear hw HF
  go_wp2_with fail
  go_loopw [6] (fun s6 w1 => ∃ (i : Nat) (W : World), s6 = .int .i64 i ∧ i ≤ p2 kk ∧ w1 = W ∧ Hid (CRE W w.heap.size (p2 kk) 10) ∧ Hid (Below w.heap.size w W)) (fun s6 _ => p2 kk - (intOf s6).toNat)
  case atStart => exact ⟨0, _, rfl, by omega, rfl, hide (CRE.new w (p2 kk) 10), hide A0⟩
  case round =>
    obtain ⟨i, W, rfl, hi, hw, hC, hB⟩ := hrel
    obtain rfl := hw.symm
    clear hw rm A0
    by_cases c : i < p2 kk
    · have c' : (i : Int) < (p2 kk : Int) := by omega
      obtain ⟨z, hz, hcz⟩ := (HT.out.below hB.out HT.out.lt).cell c
      obtain ⟨x, _, hcx⟩ := hC.out.cell c
      have hfx := hC.out.frozen i
      have hC2 := hide (hC.out.set (i := i) c hz.conj)
      have hB2 := hide (hB.out.setCell (p := ⟨w.heap.size, i, none⟩) (Nat.le_refl _) (.complex .f64 z.1 (flip64 z.2)))
      clear hC hB hz
      go_wp2_with fail
      refine (conj_any z.1 z.2 W).mono ?_
      rintro q w' ⟨rfl, hw⟩; obtain rfl := hw.symm
      clear hw
      go_wp2_with fail
      go_roundw
      case rel => exact ⟨i + 1, _, by go_num, by omega, rfl, hC2, hB2⟩
      case measure => simp [intOf] <;> omega
    · obtain rfl : i = p2 kk := by omega
      have HR1 := hide (HR.out.below hB.out hlt)
      have HB1 := hide hB.out
      have HC1 := hide hC.out
      have hg : g ≠ w.heap.size := by omega
      clear HR HT hB hC
      go_wp2_with fail
      refine (forward_any (fun _ => True) g w.heap.size kk e ⟨fun _ _ _ _ _ => trivial, fun _ _ _ => trivial⟩ hk he hg W HR1.out ⟨HC1.out, trivial⟩).mono ?_
      rintro q w2 ⟨rfl, hR2, _, hB2⟩
      have HR2 : Hid (CRI w2 g (p2 (kk + 1)) (e + 12 * (kk + 1)) 0) := by
        obtain ⟨F, h1, h2⟩ := hR2
        exact hide ⟨F, fun j _ => h1 j, h2⟩
      have HB2 := hide ((HB1.out.mono (Nat.le_of_lt hlt)).trans hB2)
      clear hR2 hB2 HR1 HB1 HC1
      go_wp2_with fail
      have HN := len_ok hk
      generalize e + 12 * (kk + 1) = E at *
      have ef : floatOfInt .f64 ((p2 (kk + 1) : Nat) : Int) = floatOfInt .f64 ((p2 (kk + 1) : Nat) : Int) := rfl
      generalize floatOfInt .f64 ((p2 (kk + 1) : Nat) : Int) = nf at *
      have HNF := hide HN
      clear HN ef
      go_loopw [8] (fun s8 w3 => ∃ (j : Nat) (V : World), s8 = .int .i64 j ∧ j ≤ p2 (kk + 1) ∧ w3 = V ∧ Hid (CRI V g (p2 (kk + 1)) E j) ∧ Hid (Below g w V)) (fun s8 _ => p2 (kk + 1) - (intOf s8).toNat)
      case atStart => exact ⟨0, w2, rfl, by omega, rfl, HR2, HB2⟩
      case round =>
        obtain ⟨j, V, rfl, hj, hw, hR3, hB3⟩ := hrel
        obtain rfl := hw.symm
        clear hw HR2 HB2
        by_cases cj : j < p2 (kk + 1)
        · have cj' : (j : Int) < (p2 (kk + 1) : Int) := by omega
          obtain ⟨z, hz, hcz⟩ := hR3.out.cell cj
          have hfz := hR3.out.frozen j
          have q1 := divE hz.1 HNF.out.1 HNF.out.2 (by omega)
          have q2 := divE hz.2 HNF.out.1 HNF.out.2 (by omega)
          have r1 := fun w => run_float_arith (P := Tacg.prog) w .quo 74 .f64 _ _ _ q1
          have r2 := fun w => run_float_arith (P := Tacg.prog) w .quo 74 .f64 _ _ _ q2
          clear q1 q2 hz
          generalize fop .quo z.1 nf = d1 at *
          generalize fop .quo z.2 nf = d2 at *
          go_wp2_with fail
          refine wp_region_mid 18 (by kernel_rfl) (by decide) (by kernel_rfl) (by kernel_rfl) (by kernel_rfl) (by kernel_rfl) ⟨by kernel_rfl, by kernel_rfl⟩ ?_
          simp only [List.take_succ_cons, List.take_zero, List.drop_succ_cons, List.drop_zero, List.drop_nil]
          repeat (go_big_quiet_step (fail))
          refine wpQuiet_nil ?_
          rintro w' ⟨nq, rfl⟩
          refine wpOp_by rfl rfl (fun K hK => ?_)
          go_simp
          apply hK
          refine ⟨fun w' => w' = _, rfl, wpQuiet_nil ?_⟩
          rintro w' rfl
          go_wp2_with fail
          go_roundw
          case rel => exact ⟨j + 1, _, by go_num, by omega, rfl, hide (CRI.set (w := V.drewN nq) hR3.out cj d1 d2), hide ((below_dN hB3.out nq).setCell (p := ⟨g, j, none⟩) (Nat.le_refl _) _)⟩
          case measure => simp [intOf] <;> omega
        · obtain rfl : j = p2 (kk + 1) := by omega
          go_wp2_with fail
          go_ret
          obtain ⟨F, _, h2⟩ := hR3.out
          exact ⟨rfl, ⟨F, h2⟩, hB3.out⟩
end Go.Proofs.Ygctac.Cx
