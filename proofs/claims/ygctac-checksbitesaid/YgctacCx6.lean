/-
  fft.DFT.
-/
import Derived.Test.YgctacCx5
namespace Go.Proofs.Ygctac.Cx
open Go.RowKit
set_option linter.unusedVariables false
set_option linter.unusedSimpArgs false

theorem i64_and_nat (a b : Nat) (ha : a < 9223372036854775808) (hb : b < 9223372036854775808) : bits .and .i64 (a : Int) (b : Int) = ((a &&& b : Nat) : Int) := by
  have hx : a &&& b < 2 ^ 63 := Nat.and_lt_two_pow _ (by omega)
  show IntKind.i64.wrap ((BitVec.ofInt 64 (a : Int) &&& BitVec.ofInt 64 (b : Int)).toNat : Int) = _
  rw [BitVec.toNat_and, ofInt_u64 a (by omega), ofInt_u64 b (by omega)]
  generalize a &&& b = c at *
  simp [IntKind.wrap, IntKind.bits, IntKind.signed]
  omega

/-- The first n entries of G are R's. -/
def Same (n : Nat) (R G : Nat → Nat × Nat) : Prop := ∀ i, i < n → G i = R i
theorem Same.put {n : Nat} {R G : Nat → Nat × Nat} (h : Same n R G) : Same (n + 1) R (fun i => if i = n then R n else G i) := by
  intro i hi
  by_cases e : i = n
  · subst e; simp
  · simp only [e, if_false]
    exact h i (by omega)

/-- What the sums' loops keep. -/
structure DK (w W : World) (g rb o n j : Nat) (X R : Nat → Nat × Nat) : Prop where
  x : CRow W g n X
  r : CRow W rb n R
  out : ∃ G, Same j (fun j => dftS n j X R n) G ∧ CRow W o n G
  bel : Below w.heap.size w W
theorem CRow.drewN {w : World} {g n d : Nat} {F : Nat → Nat × Nat} (h : CRow w g n F) : CRow (w.drewN d) g n F := h
theorem DK.drewN {w W : World} {g rb o n j d : Nat} {X R : Nat → Nat × Nat} (h : DK w W g rb o n j X R) : DK w (W.drewN d) g rb o n j X R :=
  ⟨h.x, h.r, h.out, below_dN h.bel d⟩
theorem DK.put {w W : World} {g rb o n j : Nat} {X R : Nat → Nat × Nat} (h : DK w W g rb o n j X R) (h1 : g ≠ o) (h2 : rb ≠ o) (h3 : w.heap.size ≤ o) (hj : j < n) :
    DK w (W.setCell ⟨o, j, none⟩ (.complex .f64 (dftS n j X R n).1 (dftS n j X R n).2)) g rb o n (j + 1) X R := by
  obtain ⟨G, hS, hG⟩ := h.out
  exact ⟨h.x.other (fun e => h1 e.symm) _, h.r.other (fun e => h2 e.symm) _, ⟨_, hS.put, hG.set j hj _⟩, h.bel.setCell (p := ⟨o, j, none⟩) h3 _⟩
theorem DK.cell {w W : World} {g rb o n j : Nat} {X R : Nat → Nat × Nat} (h : DK w W g rb o n j X R) (hj : j < n) : ∃ v, W.cell? ⟨o, j, none⟩ = some v := by
  obtain ⟨G, hS, hG⟩ := h.out
  exact ⟨_, hG.cell j hj⟩
theorem DK.frozen {w W : World} {g rb o n j : Nat} {X R : Nat → Nat × Nat} (h : DK w W g rb o n j X R) (i : Nat) : W.frozen? ⟨o, i, none⟩ = false := by
  obtain ⟨G, hS, hG⟩ := h.out
  exact hG.frozen i

set_option maxRecDepth 100000 in
set_option maxHeartbeats 4000000 in
theorem dft_gen (g n h : Nat) (tp : Option Addr) (hn : 0 < n) (hn2 : n ≤ 2048) (X R : Nat → Nat × Nat) (w : World) (hX : ∀ i, CB 256 (X i)) (hR : ∀ i, CB 1024 (R i)) (hx : CRow w g n X)
    (hfit : Calls Tacg.prog 151 #[.int .i64 n, .int .i64 h] w fun r w' => r = .returned (.bool true) ∧ w' = w)
    (hW : ∀ (W : World) (m : Nat), Below w.heap.size w W → m < n → Calls Tacg.prog 152 #[.slice tp h h, .int .i64 m] W fun r w' => r = .returned (.complex .f64 (R m).1 (R m).2) ∧ w' = W) :
    Calls Tacg.prog 105 #[.slice (some ⟨g, 0, none⟩) n n, .slice tp h h] w fun r w' => ∃ o, r = .returned (.slice (some ⟨o, 0, none⟩) n n) ∧ w.heap.size ≤ o ∧ CRow w' o n (fun j => dftS n j X R n) ∧ Below w.heap.size w w' := by
  have HF := hide hfit
  have HW := hide hW
  have HX := hide hx
  have rm := make68' n (by omega)
  have R0 := hide (CRow.new w n)
  have B0 := hide ((Below.refl w.heap.size w).alloc (Nat.le_refl _) (.cells (madeCells #[.complex .f64 0 0] n) 143))
  clear hfit hW hx
  go_enter Tacg.func105, Tacg.ntmps105
  go_wp2_with fail
  refine HF.out.mono ?_
  rintro e w' ⟨rfl, hw⟩; obtain rfl := hw.symm
  clear hw HF
  go_wp2_with fail
  generalize w.alloc (.cells (madeCells #[.complex .f64 0 0] n) 143) = W0 at *
  go_loopw [7] (fun s7 w1 => ∃ (m : Nat) (G : Nat → Nat × Nat) (W : World), s7 = .int .i64 m ∧ m ≤ n ∧ w1 = W ∧ Hid (Same m R G) ∧ Hid (CRow W w.heap.size n G) ∧ Hid (Below w.heap.size w W)) (fun s7 _ => n - (intOf s7).toNat)
  case atStart => exact ⟨0, _, W0, rfl, by omega, rfl, hide (fun i hi => absurd hi (by omega)), R0, B0⟩
  case round =>
    obtain ⟨m, G, W, rfl, hm, hw, hS, hG, hB⟩ := hrel
    obtain rfl := hw.symm
    clear hw R0 B0
    by_cases c : m < n
    · have c' : (m : Int) < (n : Int) := by omega
      have hcell := hG.out.cell m c
      have hfz := hG.out.frozen m
      have hG2 := hide (hG.out.set m c (R m))
      have hB2 := hide (hB.out.setCell (p := ⟨w.heap.size, m, none⟩) (Nat.le_refl _) (.complex .f64 (R m).1 (R m).2))
      have hS2 := hide hS.out.put
      have HWm := hide (HW.out W m hB.out c)
      clear hS hG hB HX rm
      go_wp2_with fail
      refine HWm.out.mono ?_
      rintro e w' ⟨rfl, hw⟩; obtain rfl := hw.symm
      clear hw HWm
      go_wp2_with fail
      go_roundw
      case rel => exact ⟨m + 1, _, _, by go_num, by omega, rfl, hS2, hG2, hB2⟩
      case measure => simp [intOf] <;> omega
    · obtain rfl : m = n := by omega
      have HRT := hide (hG.out.congr hS.out)
      have HXW := hide (HX.out.after hB.out)
      have HWS : w.heap.size ≤ W.heap.size := hB.out.size
      have HLT := hide HRT.out.lt
      have HXT := hide HXW.out.lt
      have R2 := hide (CRow.new W m)
      have A2 := (Below.refl W.heap.size W).alloc (Nat.le_refl _) (.cells (madeCells #[.complex .f64 0 0] m) 143)
      have HRT2 := hide (HRT.out.after A2)
      have HXW2 := hide (HXW.out.after A2)
      have B2 := hide (belowTr hB.out A2)
      have BO := hide A2
      clear HX hS hG hB HW A2
      go_wp2_with fail
      generalize W.alloc (.cells (madeCells #[.complex .f64 0 0] m) 143) = W1 at *
      have DK0 : Hid (DK w W1 g w.heap.size W.heap.size m 0 X R) := hide ⟨HXW2.out, HRT2.out, ⟨_, fun i hi => absurd hi (by omega), R2.out⟩, B2.out⟩
      have ng : g ≠ W.heap.size := by have := HXT.out; omega
      have nr : w.heap.size ≠ W.heap.size := by have := HLT.out; omega
      have HNE := hide (And.intro ng (And.intro nr HWS))
      clear HXW2 HRT2 R2 B2 BO HXW HRT HXT HLT ng nr HWS rm
      generalize W.heap.size = o at *
      go_loopw [9, 10, 11, 12] (fun s9 s10 s11 s12 w1 => ∃ (j : Nat) (V : World), s9 = .int .i64 j ∧ j ≤ m ∧ w1 = V ∧ Hid (DK w V g w.heap.size o m j X R)) (fun s9 _ _ _ _ => m - (intOf s9).toNat)
      case atStart => exact ⟨0, W1, rfl, by omega, rfl, DK0⟩
      case round =>
        obtain ⟨j, V, rfl, hj, hw, hK⟩ := hrel
        obtain rfl := hw.symm
        clear hw DK0
        by_cases cj : j < m
        · have cj' : (j : Int) < (m : Int) := by omega
          go_wp2_with fail
          go_loopw [10, 11, 12] (fun s10 s11 s12 w1 => ∃ (i : Nat) (U : World) (d : Nat), s10 = .complex .f64 (dftS m j X R i).1 (dftS m j X R i).2 ∧ s11 = .int .i64 (stepA m j i) ∧ s12 = .int .i64 i ∧ i ≤ m ∧ w1 = U ∧ Hid (U = V.drewN d)) (fun _ _ s12 _ => m - (intOf s12).toNat)
          case atStart => exact ⟨0, V, 0, rfl, rfl, rfl, by omega, rfl, hide rfl⟩
          case round =>
            obtain ⟨i, U, d, rfl, rfl, rfl, hi, hw, hU⟩ := hrel
            obtain rfl := hw.symm
            clear hw
            have KU : DK w U g w.heap.size o m j X R := by rw [hU.out]; exact hK.out.drewN
            by_cases ci : i < m
            · have ci' : (i : Int) < (m : Int) := by omega
              have hA : stepA m j i < m := stepA_lt hn i
              have hA' : ((stepA m j i : Nat) : Int) < (m : Int) := by omega
              have hcx := KU.x.cell i ci
              have hcr := KU.r.cell (stepA m j i) hA
              have hM := cmul_ok (hX i) (hR (stepA m j i)) rfl (by decide)
              have hD := dftS_cb (n := m) (j := j) hX hR i (by omega)
              have hS := cadd_ok hD hM.1 rfl (by omega)
              have HM := hide hM.2
              have ra : ∀ w : World, (binOp .add 143 (.complex .f64 (dftS m j X R i).1 (dftS m j X R i).2) (.complex .f64 (cmul (X i) (R (stepA m j i))).1 (cmul (X i) (R (stepA m j i))).2)).run Tacg.prog w = .ok (.complex .f64 (dftS m j X R (i + 1)).1 (dftS m j X R (i + 1)).2) w := by
                intro w
                refine run_complex_sum w .add (.inl rfl) 143 .f64 _ _ _ _ _ _ ?_
                unfold cSumBits
                rw [hS.2.1, hS.2.2]
                rfl
              have hb : bits .and .i64 ((stepA m j i : Int) + (j : Int)) ((m : Int) - 1) = ((stepA m j (i + 1) : Nat) : Int) := by
                have e1 : ((stepA m j i : Nat) : Int) + (j : Int) = ((stepA m j i + j : Nat) : Int) := by omega
                have e2 : (m : Int) - 1 = ((m - 1 : Nat) : Int) := by omega
                rw [e1, e2, i64_and_nat _ _ (by omega) (by omega)]
                rfl
              clear hM hD hS KU
              generalize ea : stepA m j (i + 1) = a1 at *
              generalize stepA m j i = a0 at *
              generalize es : dftS m j X R (i + 1) = s1 at *
              generalize dftS m j X R i = s0 at *
              have EA := hide ea
              have ES := hide es
              clear ea es
              go_wp2_with fail
              go_quiet (first | (go_at_call 150; refine Calls.quiet_of_same (mulC (X i) (R a0) _ HM.out.1 HM.out.2.1 HM.out.2.2.1 HM.out.2.2.2.1 HM.out.2.2.2.2.1 HM.out.2.2.2.2.2)))
              go_wp2_with fail
              go_roundw
              case rel => exact ⟨i + 1, _, _, by rw [ES.out], by rw [EA.out], by go_num, by omega, rfl, hide (by rw [hU.out]; exact World.drewN_drewN _ _ _)⟩
              case measure => simp [intOf] <;> omega
            · obtain rfl : i = m := by omega
              obtain ⟨v0, hcell⟩ := KU.cell cj
              have hfz := KU.frozen j
              have hP := hide (KU.put HNE.out.1 HNE.out.2.1 HNE.out.2.2 cj)
              clear KU hK hU HNE
              generalize dftS i j X R i = s0 at *
              go_wp2_with fail
              go_roundw
              case rel => exact ⟨j + 1, _, by go_num, by omega, rfl, hP⟩
              case measure => simp [intOf] <;> omega
        · obtain rfl : j = m := by omega
          go_wp2_with fail
          go_ret
          obtain ⟨G2, hS2, hG2⟩ := hK.out.out
          exact ⟨o, rfl, HNE.out.2.2, hG2.congr hS2, hK.out.bel⟩
end Go.Proofs.Ygctac.Cx
