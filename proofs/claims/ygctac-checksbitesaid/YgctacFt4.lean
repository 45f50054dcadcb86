/-
  fft.Forward, tw.Conj, fft.points, fft.Inverse.
-/
import Derived.Test.YgctacFt3
namespace Go.Proofs.Ygctac.Cx
open Go.RowKit
set_option linter.unusedVariables false
set_option linter.unusedSimpArgs false

set_option maxRecDepth 100000 in
set_option maxHeartbeats 4000000 in
theorem forward_any (Fr : World → Prop) (g gt kk e : Nat) (st : St Fr g) (hk : kk + 1 ≤ 11) (he : e + 12 * (kk + 1) ≤ 1000) (hne : g ≠ gt) (w : World) (h : CRE w g (p2 (kk + 1)) e) (ht : TF Fr w gt (p2 kk)) :
    Calls Tacg.prog 118 #[.slice (some ⟨g, 0, none⟩) (p2 (kk + 1)) (p2 (kk + 1)), .slice (some ⟨gt, 0, none⟩) (p2 kk) (p2 kk)] w fun q w' => q = .returned (.bool true) ∧ CRE w' g (p2 (kk + 1)) (e + 12 * (kk + 1)) ∧ TF Fr w' gt (p2 kk) ∧ Below g w w' := by
  have HF := hide (fits_p2 kk hk w)
  have HRV := hide (reverse_any Fr g (kk + 1) e gt (p2 kk) st hk hne w h ht)
  have HST := hide st
  have hp := p2_le hk
  have hk8 : (kk : Int) + 1 < 256 := by omega
  clear h ht st
  go_enter Tacg.func118, Tacg.ntmps118
  go_wp2_with fail
  refine HF.out.mono ?_
  rintro q w' ⟨rfl, hw⟩; obtain rfl := hw.symm
  clear hw HF
  go_wp2_with fail
  refine HRV.out.mono ?_
  rintro q w1 ⟨rfl, hR, hT, hB⟩
  have HR := hide hR
  have HT := hide hT
  have HB := hide hB
  clear hR hT hB HRV
  go_wp2_with fail
  refine (level_pow (kk + 1) hk w1).mono ?_
  rintro q w' ⟨rfl, hw⟩; obtain rfl := hw.symm
  clear hw
  go_wp2_with fail
  go_loopw [6] (fun s6 w2 => ∃ (i : Nat) (W : World), s6 = .int .u8 ((i : Int) + 1) ∧ i ≤ kk + 1 ∧ w2 = W ∧ Hid (CRE W g (p2 (kk + 1)) (e + 12 * i)) ∧ Hid (TF Fr W gt (p2 kk)) ∧ Hid (Below g w W)) (fun s6 _ => 13 - (intOf s6).toNat)
  case atStart => exact ⟨0, w1, rfl, by omega, rfl, HR, HT, HB⟩
  case round =>
    obtain ⟨i, W, rfl, hi, hw, hR, hT, hB⟩ := hrel
    obtain rfl := hw.symm
    clear hw HR HT HB
    by_cases c : i < kk + 1
    · have c' : (i : Int) + 1 ≤ (kk : Int) + 1 := by omega
      have HS : Hid (Calls Tacg.prog 120 #[.slice (some ⟨g, 0, none⟩) (p2 (kk + 1)) (p2 (kk + 1)), .slice (some ⟨gt, 0, none⟩) (p2 kk) (p2 kk), .int .u8 ((i : Int) + 1)] W fun q w' => q = .returned (.tuple #[]) ∧ CRE w' g (p2 (kk + 1)) (e + 12 * i + 12) ∧ TF Fr w' gt (p2 kk) ∧ Below g W w') := by
        have e1 : i + 1 + (kk - i) = kk + 1 := by omega
        have e2 : i + (kk - i) = kk := by omega
        have := stage_any Fr g gt i (kk - i) (e + 12 * i) HST.out (by omega) (by omega) hne W (by rw [e1]; exact hR.out) (by rw [e2]; exact hT.out)
        rw [e1, e2] at this
        exact hide this
      have HB0 := hB
      clear hR hT hB
      go_wp2_with fail
      refine HS.out.mono ?_
      rintro q w3 ⟨rfl, hR3, hT3, hB3⟩
      have HR3 : Hid (CRE w3 g (p2 (kk + 1)) (e + 12 * (i + 1))) := hide (by rw [show e + 12 * (i + 1) = e + 12 * i + 12 by omega]; exact hR3)
      have HT3 := hide hT3
      have HB3 := hide (HB0.out.trans hB3)
      clear hR3 hT3 hB3 HS HB0
      go_wp2_with fail
      go_roundw
      case rel => exact ⟨i + 1, _, by go_num, by omega, rfl, HR3, HT3, HB3⟩
      case measure => simp [intOf] <;> omega
    · obtain rfl : i = kk + 1 := by omega
      have c' : ¬ (kk : Int) + 1 + 1 ≤ (kk : Int) + 1 := by omega
      go_wp2_with fail
      go_ret
      exact ⟨rfl, hR.out, hT.out, hB.out⟩

theorem conj_any (x y : Nat) (w : World) : Calls Tacg.prog 163 #[.complex .f64 x y] w fun q w' => q = .returned (.complex .f64 x (flip64 y)) ∧ w' = w := by
  go_enter Tacg.func163, Tacg.ntmps163
  go_wp2
  go_ret
  exact ⟨rfl, rfl⟩

set_option maxRecDepth 100000 in
theorem points_any (p : Option Addr) (n k : Nat) (hk : k ≤ 11) (hn : n ≤ p2 k) (w : World) (hs : Sl w p n) :
    Calls Tacg.prog 149 #[.slice p n n, .int .i64 (p2 k : Int)] w fun q w' => q = .returned (.slice (some ⟨w.heap.size, 0, none⟩) (p2 k) (p2 k)) ∧ CRE w' w.heap.size (p2 k) 8 ∧ Below w.heap.size w w' := by
  have hp := p2_le hk
  have rm := make68' (p2 k) (by omega)
  have HS := hide hs
  clear hs
  go_enter Tacg.func149, Tacg.ntmps149
  go_wp2_with fail
  go_loopw [6] (fun s6 w1 => ∃ (i : Nat) (W : World), s6 = .int .i64 i ∧ i ≤ n ∧ w1 = W ∧ Hid (CRE W w.heap.size (p2 k) 8) ∧ Hid (Below w.heap.size w W)) (fun s6 _ => n - (intOf s6).toNat)
  case atStart => exact ⟨0, _, rfl, by omega, rfl, hide (CRE.new w (p2 k) 8), hide ((Below.refl _ _).alloc (Nat.le_refl _) _)⟩
  case round =>
    obtain ⟨i, W, rfl, hi, hw, hR, hB⟩ := hrel
    obtain rfl := hw.symm
    clear hw rm
    by_cases c : i < n
    · have c' : (i : Int) < (n : Int) := by omega
      have c2 : (i : Int) < (p2 k : Int) := by omega
      obtain ⟨b, o, z, rfl, z0, z1, hz⟩ := (HS.out.below hB.out).cell c
      obtain ⟨x, _, hcx⟩ := hR.out.cell (i := i) (by omega)
      have hfx := hR.out.frozen i
      have hR2 := hide (hR.out.set (i := i) (by omega) (z := pointW z) ((point_cb z0 z1).ce (by decide)))
      have hB2 := hide (hB.out.setCell (p := ⟨w.heap.size, i, none⟩) (Nat.le_refl _) (.complex .f64 (pointW z).1 (pointW z).2))
      clear hR hB
      go_wp2_with fail
      go_roundw
      case rel => exact ⟨i + 1, _, by go_num, by omega, rfl, hR2, hB2⟩
      case measure => simp [intOf] <;> omega
    · obtain rfl : i = n := by omega
      go_wp2_with fail
      go_ret
      exact ⟨rfl, hR.out, hB.out⟩
end Go.Proofs.Ygctac.Cx
