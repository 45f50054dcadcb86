/-
  fft.Stage.
-/
import Derived.Test.YgctacFt2
namespace Go.Proofs.Ygctac.Cx
open Go.RowKit
set_option linter.unusedVariables false
set_option linter.unusedSimpArgs false

/-- In the midst of a pass: all entries below 2^(e+12), those of U still below 2^e. -/
def CRS (w : World) (g n e : Nat) (U : Nat → Prop) : Prop := ∃ F, (∀ i, CE (e + 12) (F i)) ∧ (∀ i, U i → CE e (F i)) ∧ CRow w g n F
theorem CRS.cell {w : World} {g n e : Nat} {U : Nat → Prop} (h : CRS w g n e U) {i : Nat} (hi : i < n) (hU : U i) : ∃ z, CE e z ∧ w.cell? ⟨g, i, none⟩ = some (.complex .f64 z.1 z.2) := by
  obtain ⟨F, h1, h2, h3⟩ := h
  exact ⟨F i, h2 i hU, h3.cell i hi⟩
theorem CRS.frozen {w : World} {g n e : Nat} {U : Nat → Prop} (h : CRS w g n e U) (i : Nat) : w.frozen? ⟨g, i, none⟩ = false := by
  obtain ⟨F, h1, h2, h3⟩ := h
  exact h3.frozen i
theorem CRS.set {w : World} {g n e : Nat} {U V : Nat → Prop} (h : CRS w g n e U) {i : Nat} (hi : i < n) {z : Nat × Nat} (hz : CE (e + 12) z) (hV : ∀ j, V j → U j ∧ j ≠ i) : CRS (w.setCell ⟨g, i, none⟩ (.complex .f64 z.1 z.2)) g n e V := by
  obtain ⟨F, h1, h2, h3⟩ := h
  refine ⟨_, fun j => ?_, fun j hj => ?_, h3.set i hi z⟩
  · by_cases c : j = i
    · simp only [c, if_true]; exact hz
    · simp only [c, if_false]; exact h1 j
  · have := hV j hj
    simp only [this.2, if_false]
    exact h2 j this.1
theorem CRS.weak {w : World} {g n e : Nat} {U V : Nat → Prop} (h : CRS w g n e U) (hV : ∀ j, V j → U j) : CRS w g n e V := by
  obtain ⟨F, h1, h2, h3⟩ := h
  exact ⟨F, h1, fun j hj => h2 j (hV j hj), h3⟩
theorem CRS.drewN {w : World} {g n e d : Nat} {U : Nat → Prop} (h : CRS w g n e U) : CRS (w.drewN d) g n e U := h
theorem CRE.crs {w : World} {g n e : Nat} (h : CRE w g n e) : CRS w g n e (fun _ => True) := by
  obtain ⟨F, h1, h2⟩ := h
  exact ⟨F, fun i => (h1 i).mono (by omega), fun i _ => h1 i, h2⟩
theorem CRS.cre {w : World} {g n e : Nat} {U : Nat → Prop} (h : CRS w g n e U) : CRE w g n (e + 12) := by
  obtain ⟨F, h1, h2, h3⟩ := h
  exact ⟨F, h1, h3⟩

/-- Not yet touched, at (s, j) with blocks of 2h. -/
def UT (s h j : Nat) (i : Nat) : Prop := (s + j ≤ i ∧ i < s + h) ∨ s + h + j ≤ i
theorem p2_add (a b : Nat) : p2 (a + b) = p2 a * p2 b := Nat.pow_add 2 a b
theorem block_fits {s a b : Nat} (hs : p2 a ∣ s) (h : s < p2 (a + b)) : s + p2 a ≤ p2 (a + b) := by
  obtain ⟨c, rfl⟩ := hs
  rw [p2_add] at h ⊢
  have hc : c < p2 b := Nat.lt_of_mul_lt_mul_left h
  calc p2 a * c + p2 a = p2 a * (c + 1) := by rw [Nat.mul_succ]
    _ ≤ p2 a * p2 b := Nat.mul_le_mul_left _ hc

set_option maxRecDepth 100000 in
set_option maxHeartbeats 8000000 in
theorem stage_any (Fr : World → Prop) (g gt m r e : Nat) (st : St Fr g) (hk : m + 1 + r ≤ 11) (he : e + 12 ≤ 1000) (hne : g ≠ gt) (w : World) (h : CRE w g (p2 (m + 1 + r)) e) (ht : TF Fr w gt (p2 (m + r))) :
    Calls Tacg.prog 120 #[.slice (some ⟨g, 0, none⟩) (p2 (m + 1 + r)) (p2 (m + 1 + r)), .slice (some ⟨gt, 0, none⟩) (p2 (m + r)) (p2 (m + r)), .int .u8 ((m : Int) + 1)] w fun q w' => q = .returned (.tuple #[]) ∧ CRE w' g (p2 (m + 1 + r)) (e + 12) ∧ TF Fr w' gt (p2 (m + r)) ∧ Below g w w' := by
  have HL := hide (level_pow (m + 1 + r) hk w)
  have HF : Hid (Calls Tacg.prog 151 #[.int .i64 (p2 (m + 1 + r) : Int), .int .i64 (p2 (m + r) : Int)] w fun r w' => r = .returned (.bool true) ∧ w' = w) := by
    have := fits_p2 (m + r) (by omega) w
    rw [show m + r + 1 = m + 1 + r by omega] at this
    exact hide this
  have hp := p2_le hk
  have hpos := p2_pos (m + 1 + r)
  have hpt := p2_pos (m + r)
  have hpt4 := p2_le (show m + r ≤ 11 by omega)
  have hhalf := p2_pos m
  have hdbl : p2 (m + 1) = 2 * p2 m := p2_succ m
  have w1 := wrap_p2 m (by omega)
  have w2 := wrap_p2 r (by omega)
  have HP := hide (show p2 (m + 1 + r) = p2 (m + 1) * p2 r ∧ p2 (m + r) = p2 m * p2 r from ⟨p2_add _ _, p2_add _ _⟩)
  have HR := hide h.crs
  have HT := hide ht
  have HST := hide st
  clear st
  have l1 : ¬ (m : Int) + 1 < 1 := by omega
  have l2 : ((m + 1 + r : Nat) : Int) = (m : Int) + 1 + (r : Int) := by omega
  have l3 : ¬ (m : Int) + 1 + (r : Int) < (m : Int) + 1 := by omega
  clear h ht
  go_enter Tacg.func120, Tacg.ntmps120
  go_wp2_with fail
  refine HL.out.mono ?_
  rintro q w' ⟨rfl, hw⟩; obtain rfl := hw.symm
  clear hw HL
  go_wp2_with fail
  refine HF.out.mono ?_
  rintro q w' ⟨rfl, hw⟩; obtain rfl := hw.symm
  clear hw HF
  generalize hN : p2 (m + 1 + r) = N at *
  generalize hNT : p2 (m + r) = NT at *
  go_wp2_with fail
  go_quiet (fail)
  go_wp2_with fail
  simp only [show m + 1 + r - (m + 1) = r by omega, w1, w2]
  have HR0 : Hid (CRS (w.drewN nq) g N e (UT 0 (p2 m) 0)) := hide (HR.out.weak (fun _ _ => trivial))
  have HT0 : Hid (TF Fr (w.drewN nq) gt NT) := hide (HT.out.drewN HST.out)
  have HB0 := hide (below_dN (Below.refl g w) nq)
  clear HR HT w1 w2
  generalize w.drewN nq = W0 at *
  generalize hH : p2 m = H at *
  generalize hST : p2 r = ST at *
  go_loopw [9, 10, 11, 12, 13, 14] (fun s9 s10 s11 s12 s13 s14 w1 => ∃ (s : Nat) (W : World), s9 = .int .i64 s ∧ 2 * H ∣ s ∧ s ≤ N ∧ w1 = W ∧ Hid (CRS W g N e (UT s H 0)) ∧ Hid (TF Fr W gt NT) ∧ Hid (Below g w W)) (fun s9 _ _ _ _ _ _ => N - (intOf s9).toNat)
  case atStart => exact ⟨0, W0, rfl, ⟨0, by omega⟩, by omega, rfl, HR0, HT0, HB0⟩
  case round =>
    obtain ⟨s, W, rfl, hdv, hs, hw, hR, hT, hB⟩ := hrel
    obtain rfl := hw.symm
    clear hw HR0 HT0 HB0
    by_cases cs : s < N
    · have cs' : (s : Int) < (N : Int) := by omega
      have hfit : s + 2 * H ≤ N := by
        have := block_fits (s := s) (a := m + 1) (b := r) (by rw [hdbl]; exact hdv) (by rw [hN]; exact cs)
        rw [hN, hdbl] at this
        exact this
      go_wp2_with fail
      go_loopw [10, 11, 12, 13, 14] (fun s10 s11 s12 s13 s14 w1 => ∃ (j : Nat) (W : World), s10 = .int .i64 j ∧ j ≤ H ∧ w1 = W ∧ Hid (CRS W g N e (UT s H j)) ∧ Hid (TF Fr W gt NT) ∧ Hid (Below g w W)) (fun s10 _ _ _ _ _ => H - (intOf s10).toNat)
      case atStart => exact ⟨0, W, rfl, by omega, rfl, hR, hT, hB⟩
      case round =>
        obtain ⟨j, W1, rfl, hj, hw, hR1, hT1, hB1⟩ := hrel
        obtain rfl := hw.symm
        clear hw hR hT hB
        by_cases cj : j < H
        · have cj' : (j : Int) < (H : Int) := by omega
          have hjs : j * ST < NT := by
            rw [HP.out.2]
            exact Nat.mul_lt_mul_of_pos_right cj (by rw [← hST]; exact p2_pos r)
          have ejs : (j : Int) * (ST : Int) = ((j * ST : Nat) : Int) := by rw [Int.natCast_mul]
          have hjs' : ((j * ST : Nat) : Int) < (NT : Int) := by omega
          have i1 : (s : Int) + (j : Int) < (N : Int) := by omega
          have i2 : (s : Int) + (j : Int) + (H : Int) < (N : Int) := by omega
          obtain ⟨x, hx, hcx⟩ := hR1.out.cell (i := s + j) (by omega) (.inl ⟨by omega, by omega⟩)
          obtain ⟨y, hy, hcy⟩ := hR1.out.cell (i := s + j + H) (by omega) (.inr (by omega))
          obtain ⟨z, hz, hcz⟩ := hT1.out.1.cell (i := j * ST) hjs
          have fx := hR1.out.frozen (s + j)
          have fy := hR1.out.frozen (s + j + H)
          have hM := cmulE hy hz (show e + 11 = e + 10 + 1 by omega) (by omega)
          have hS := csumE (hx.mono (show e ≤ e + 11 by omega)) hM.1 (by omega)
          have HM := hide hM.2
          generalize ev : cmul y z = v at *
          have ra : ∀ w : World, (binOp .add 143 (.complex .f64 x.1 x.2) (.complex .f64 v.1 v.2)).run Tacg.prog w = .ok (.complex .f64 (cadd x v).1 (cadd x v).2) w := by
            intro w
            refine run_complex_sum w .add (.inl rfl) 143 .f64 _ _ _ _ _ _ ?_
            unfold cSumBits
            rw [hS.1.2.1, hS.1.2.2]
            rfl
          have rs : ∀ w : World, (binOp .sub 143 (.complex .f64 x.1 x.2) (.complex .f64 v.1 v.2)).run Tacg.prog w = .ok (.complex .f64 (csub x v).1 (csub x v).2) w := by
            intro w
            refine run_complex_sum w .sub (.inr rfl) 143 .f64 _ _ _ _ _ _ ?_
            unfold cSumBits
            rw [hS.2.2.1, hS.2.2.2]
            rfl
          have HS := hide (And.intro hS.1.1 hS.2.1)
          clear hM hS hx hy hz
          generalize cadd x v = va at *
          generalize csub x v = vs at *
          generalize j * ST = js at *
          have ne1 : s + j ≠ s + j + H := by omega
          have ne2 : s + j + H ≠ s + j := by omega
          go_wp2_with fail
          go_quiet (first | (go_at_call 150; refine Calls.quiet_of_same (ev ▸ mulC y z _ HM.out.1 HM.out.2.1 HM.out.2.2.1 HM.out.2.2.2.1 (ev.symm ▸ HM.out.2.2.2.2.1) (ev.symm ▸ HM.out.2.2.2.2.2))))
          go_wp2_with fail
          go_roundw
          case rel =>
            refine ⟨j + 1, _, by go_num, by omega, rfl, hide ?_, hide ?_, hide ?_⟩
            · refine CRS.set (U := fun i => UT s H (j + 1) i ∨ i = s + j + H) (CRS.set (U := UT s H j) (hR1.out.drewN (d := nq)) (by omega) HS.out.1 (fun i hi => ?_)) (by omega) HS.out.2 (fun i hi => ?_)
              · unfold UT at hi ⊢; omega
              · exact ⟨.inl hi, by unfold UT at hi; omega⟩
            · exact ((hT1.out.drewN (d := nq) HST.out).other HST.out hne (a := ⟨g, s + j, none⟩) rfl _).other HST.out hne (a := ⟨g, s + j + H, none⟩) rfl _
            · exact ((below_dN hB1.out nq).setCell (p := ⟨g, s + j, none⟩) (Nat.le_refl _) _).setCell (p := ⟨g, s + j + H, none⟩) (Nat.le_refl _) _
          case measure => simp [intOf] <;> omega
        · obtain rfl : j = H := by omega
          have hR2 := hide (hR1.out.weak (V := UT (s + 2 * j) j 0) (fun i hi => by unfold UT at hi ⊢; omega))
          go_wp2_with fail
          go_roundw
          case rel => exact ⟨s + 2 * j, _, by go_num, Nat.dvd_add hdv (Nat.dvd_refl _), by omega, rfl, hR2, hT1, hB1⟩
          case measure => simp [intOf] <;> omega
    · go_wp2_with fail
      go_end0
      exact ⟨rfl, by rw [hN]; exact hR.out.cre, by rw [hNT]; exact hT.out, hB.out⟩
end Go.Proofs.Ygctac.Cx
