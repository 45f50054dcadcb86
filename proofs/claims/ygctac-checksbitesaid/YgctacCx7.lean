/-
  fft.DFT at a table of its own; law.copiedVectors.
-/
import Derived.Test.YgctacCx6
namespace Go.Proofs.Ygctac.Cx
open Go.RowKit
set_option linter.unusedVariables false
set_option linter.unusedSimpArgs false

theorem W_none (p : Option Addr) (w : World) : Calls Tacg.prog 152 #[.slice p 0 0, .int .i64 0] w fun r w' => r = .returned (.complex .f64 one.1 one.2) ∧ w' = w := by
  go_enter Tacg.func152, Tacg.ntmps152
  go_wp2
  go_ret
  exact ⟨rfl, rfl⟩

def rootsOf (k : Nat) : Nat → Nat × Nat := rootF (tabN k) (tabF k (k - 1))
def dftOf (k : Nat) (X : Nat → Nat × Nat) (j : Nat) : Nat × Nat := dftS (p2 k) j X (rootsOf k) (p2 k)
theorem tabF_1024 (k : Nat) (hk : k ≤ 11) (j : Nat) : CB 1024 (tabF k (k - 1) j) := by
  refine (tabF_cb k (k - 1) (by omega) j).mono ?_
  exact Nat.le_trans (Nat.pow_le_pow_right (n := 2) (by decide) (show k - 1 ≤ 10 by omega)) (by decide)
theorem rootsOf_cb (k : Nat) (hk : k ≤ 11) (m : Nat) : CB 1024 (rootsOf k m) := rootF_cb (by decide) (tabF_1024 k hk) m

theorem dft_level (g k : Nat) (hk : k ≤ 11) {v : Value} (X : Nat → Nat × Nat) (hX : ∀ i, CB 256 (X i)) (w : World) (hx : CRow w g (p2 k) X) (hv : CV w v (tabN k) (tabF k (k - 1))) :
    Calls Tacg.prog 105 #[.slice (some ⟨g, 0, none⟩) (p2 k) (p2 k), v] w fun r w' => ∃ o, r = .returned (.slice (some ⟨o, 0, none⟩) (p2 k) (p2 k)) ∧ w.heap.size ≤ o ∧ CRow w' o (p2 k) (dftOf k X) ∧ Below w.heap.size w w' := by
  rcases Nat.eq_zero_or_pos k with rfl | hp
  · have e0 : tabN 0 = 0 := rfl
    have e1 : p2 0 = 1 := rfl
    have key : ∀ p, v = .slice p 0 0 → Calls Tacg.prog 105 #[.slice (some ⟨g, 0, none⟩) (p2 0) (p2 0), v] w fun r w' => ∃ o, r = .returned (.slice (some ⟨o, 0, none⟩) (p2 0) (p2 0)) ∧ w.heap.size ≤ o ∧ CRow w' o (p2 0) (dftOf 0 X) ∧ Below w.heap.size w w' := by
      rintro p rfl
      refine dft_gen g (p2 0) 0 p (p2_pos 0) (p2_le (by omega)) X (rootsOf 0) w hX (rootsOf_cb 0 (by omega)) hx (fits_one w) ?_
      intro W m hB hm
      obtain rfl : m = 0 := by rw [e1] at hm; omega
      exact W_none p W
    rcases hv with ⟨rfl, _⟩ | ⟨g', rfl, _⟩
    · exact key none rfl
    · exact key _ rfl
  · obtain ⟨m, rfl⟩ : ∃ m, k = m + 1 := ⟨k - 1, by omega⟩
    have e0 : tabN (m + 1) = p2 m := by unfold tabN; rw [if_neg (by omega)]; rfl
    have h0 := p2_pos m
    have h1 := p2_le (show m ≤ 11 by omega)
    rcases hv with ⟨rfl, h⟩ | ⟨g', rfl, hT⟩
    · rw [e0] at h; omega
    · rw [e0] at hT ⊢
      refine dft_gen g (p2 (m + 1)) (p2 m) _ (p2_pos _) (p2_le hk) X (rootsOf (m + 1)) w hX (rootsOf_cb _ hk) hx (fits_p2 m hk w) ?_
      intro W j hB hj
      have er : rootsOf (m + 1) = rootF (p2 m) (tabF (m + 1) (m + 1 - 1)) := by unfold rootsOf; rw [e0]
      rw [er]
      exact W_any g' (p2 m) (p2 m) j h0 h1 (by rw [p2_succ] at hj; exact hj) _ W (hT.after hB)

theorem tabN_le (k : Nat) : tabN k ≤ 2048 := by
  unfold tabN
  split
  · omega
  · exact p2_le (by omega)
/-- The digits as points. -/
def pts (n : Nat) (f : Nat → Int) (j : Nat) : Nat × Nat := if j < n then pointW (f j) else (0, 0)
theorem pts_cb {n : Nat} {f : Nat → Int} (hf : ∀ i, i < n → 0 ≤ f i ∧ f i < 256) (j : Nat) : CB 256 (pts n f j) := by
  unfold pts
  split
  · rename_i h
    exact point_cb (hf j h).1 (hf j h).2
  · exact zero_cb.mono (by decide)

set_option maxRecDepth 100000 in
set_option maxHeartbeats 4000000 in
theorem copiedVectors_any {v : Value} {n : Nat} {f : Nat → Int} (hn : n ≤ 140737488355328) (hf : ∀ i, i < n → 0 ≤ f i ∧ f i < 256) (k : Nat) (hk : k < 256) (i : Nat) (hi1 : i < 65536) (w : World) (h : Dig w v n f) :
    Calls Tacg.prog 43 #[v, .int .u8 k, .int .u16 i] w fun r w' => r = .returned (.bool true) ∧ Below w.heap.size w w' := by
  have hkey : (k = 0 ∨ 11 < k) ∨ ∃ m, k = m + 1 ∧ m + 1 ≤ 11 := by
    by_cases c : k = 0 ∨ 11 < k
    · exact .inl c
    · exact .inr ⟨k - 1, by omega, by omega⟩
  obtain ⟨vp, vc, rfl, hvc⟩ : ∃ p c, v = .slice p n c ∧ n ≤ c := by
    rcases h with ⟨⟨p, rfl⟩, rfl⟩ | ⟨b, o, c, rfl, h3, h4⟩
    · exact ⟨p, 0, rfl, by omega⟩
    · exact ⟨_, c, rfl, h3⟩
  have HF := hide hf
  have HD := hide h
  clear hf h
  rcases hkey with hk0 | ⟨m, rfl, hm⟩
  · have HT := hide (table_none k hk0 hk w)
    have HB := hide (Below.refl w.heap.size w)
    go_enter Tacg.func43, Tacg.ntmps43
    go_wp2_with fail
    refine HT.out.mono ?_
    rintro e w1 ⟨rfl, hw⟩; obtain rfl := hw.symm
    clear hw HT hk0
    go_wp2_with fail
    refine (cut_any n hn w).mono ?_
    rintro e w4 ⟨hcut, hw⟩; obtain rfl := hw.symm; clear hw
    rcases hcut with ⟨rfl, hn0⟩ | ⟨kk, rfl, hk11, hpn⟩
    · go_wp2_with fail
      go_ret
      exact ⟨rfl, HB.out⟩
    · have hpn' : p2 kk ≤ n := hpn
      have hkpos := p2_pos kk
      have hk4 := p2_le hk11
      obtain ⟨b, o, rfl, hC⟩ : ∃ b o, vp = some ⟨b, o, none⟩ ∧ Cells w b o n f := by
        rcases HD.out with ⟨⟨p, _⟩, h0⟩ | ⟨b, o, c, hv, h3, h4⟩
        · omega
        · cases hv
          exact ⟨b, o, rfl, h4⟩
      have HC := hide hC
      have hneg : ¬ (kk : Int) < 0 := by omega
      have hk11' : (kk : Int) ≤ 11 := by omega
      have hp := wrap_p2 kk hk11
      have rm := make68' (p2 kk) (by omega)
      have R0 := hide (CRow.new w (p2 kk))
      have B0 := hide ((Below.refl (w).heap.size w).alloc (Nat.le_refl _) (.cells (madeCells #[.complex .f64 0 0] (p2 kk)) 143))
      clear hpn hC HD
      go_wp2_with fail
      generalize (w).alloc (.cells (madeCells #[.complex .f64 0 0] (p2 kk)) 143) = W0 at *
      generalize hxb : (w).heap.size = xb at *
      go_loopw [12] (fun s12 w1 => ∃ (j : Nat) (G : Nat → Nat × Nat) (U : World), s12 = .int .i64 j ∧ j ≤ p2 kk ∧ w1 = U ∧ Hid (Same j (pts n f) G) ∧ Hid (CRow U xb (p2 kk) G) ∧ Hid (Below xb w U)) (fun s12 _ => p2 kk - (intOf s12).toNat)
      case atStart => exact ⟨0, _, W0, rfl, by omega, rfl, hide (fun i hi => absurd hi (by omega)), R0, B0⟩
      case round =>
        obtain ⟨j, G, U, rfl, hj, hw, hS, hG, hB5⟩ := hrel
        obtain rfl := hw.symm
        clear hw R0 B0
        by_cases cj : j < p2 kk
        · have cj' : (j : Int) < (p2 kk : Int) := by omega
          have cjn : (j : Int) < (n : Int) := by omega
          have hca := HC.out j (by omega)
          have hca2 := (hB5.out.cell (hxb ▸ World.block_lt_of_cell? _ _ hca)).trans hca
          have hcell := hG.out.cell j cj
          have hfz := hG.out.frozen j
          have ep : pts n f j = pointW (f j) := by unfold pts; rw [if_pos (by omega)]
          have hG2 : Hid (CRow (U.setCell ⟨xb, j, none⟩ (.complex .f64 (pointW (f j)).1 (pointW (f j)).2)) xb (p2 kk) (fun i => if i = j then pts n f j else G i)) := by
            rw [← ep]
            exact hide (hG.out.set j cj (pts n f j))
          have hB6 := hide (hB5.out.setCell (p := ⟨xb, j, none⟩) (Nat.le_refl _) (.complex .f64 (pointW (f j)).1 (pointW (f j)).2))
          have hS2 := hide hS.out.put
          clear hS hG hB5 ep hca HC
          go_wp2_with fail
          go_roundw
          case rel => exact ⟨j + 1, _, _, by go_num, by omega, rfl, hS2, hG2, hB6⟩
          case measure => simp [intOf] <;> omega
        · obtain ej : j = p2 kk := by omega
          have HX := hide (hG.out.congr (show Same (p2 kk) (pts n f) G by rw [← ej]; exact hS.out))
          have HBU := hide (show Below w.heap.size w U by first | exact HB.out.trans (hB5.out.mono (by rw [← hxb]; exact HB.out.size)) | (rw [hxb]; exact hB5.out))
          subst ej
          clear hS hG hB5 HC HB rm hp hpn'
          have hk8 : (kk : Int) < 256 := by omega
          go_wp2_with fail
          refine (table_any kk (by omega) U).mono ?_
          rintro e w5 ⟨rv, rfl, hT, hB5⟩
          have HX5 := hide (HX.out.after hB5)
          have HT5 := hide hT
          have HB5 := hide (belowTr HBU.out hB5)
          clear hT hB5 HX HBU
          go_wp2_with fail
          refine (copyC_any hk4 w5 (.inr ⟨xb, rfl, HX5.out⟩)).mono ?_
          rintro e w6 ⟨kv, rfl, hkv, hB6⟩
          have HX6 := hide (HX5.out.after hB6)
          have HT6 := hide (HT5.out.after hB6)
          have HK6 := hide hkv
          have HB6 := hide (belowTr HB5.out hB6)
          clear hkv hB6 HX5 HT5 HB5
          go_wp2_with fail
          refine (copyC_any (tabN_le kk) w6 HT6.out).mono ?_
          rintro e w7 ⟨kr, rfl, hkr, hB7⟩
          have HX7 := hide (HX6.out.after hB7)
          have HT7 := hide (HT6.out.after hB7)
          have HK7 := hide (HK6.out.after hB7)
          have HR7 := hide hkr
          have HB7 := hide (belowTr HB6.out hB7)
          clear hkr hB7 HX6 HT6 HB6 HK6
          go_wp2_with fail
          refine (dft_level xb kk hk11 (pts n f) (pts_cb HF.out) w7 HX7.out HT7.out).mono ?_
          rintro e w8 ⟨ob, rfl, hob, hO, hB8⟩
          have hat : i % p2 kk < p2 kk := Nat.mod_lt _ hkpos
          have hat' : ((i % p2 kk : Nat) : Int) < (p2 kk : Int) := by omega
          have emod : (i : Int).tmod (p2 kk : Int) = ((i % p2 kk : Nat) : Int) := rfl
          have emod' : (i : Int) % (p2 kk : Int) = ((i % p2 kk : Nat) : Int) := rfl
          have hz : ¬ (p2 kk : Int) = 0 := by omega
          have hz2 : (0 : Int) < (p2 kk : Int) := by omega
          have hcell := hO.cell (i % p2 kk) hat
          have hfz := hO.frozen (i % p2 kk)
          have hB9 := hB8.setCell (p := ⟨ob, i % p2 kk, none⟩) hob (.complex .f64 4602678819172646912 0)
          have HX9 := hide (HX7.out.after hB9)
          have HT9 := hide (HT7.out.after hB9)
          have HK9 := hide (HK7.out.after hB9)
          have HR9 := hide (HR7.out.after hB9)
          have HB9 := hide (belowTr HB7.out hB9)
          clear HX7 HT7 HK7 HR7 HB7 hO hB8 hB9 hob
          generalize hq : i % p2 kk = q2 at *
          go_wp2_with fail
          clear hcell hfz
          generalize w8.setCell ⟨ob, q2, none⟩ (.complex .f64 4602678819172646912 0) = w9 at *
          refine (allSame_any hk4 w9 (.inr ⟨xb, rfl, HX9.out⟩) HK9.out).mono ?_
          rintro e w10 ⟨rfl, d1, hw⟩
          have hB10 : Below w9.heap.size w9 w10 := by rw [hw]; exact below_dN (Below.refl _ _) _
          have HX10 := hide (HX9.out.after hB10)
          have HT10 := hide (HT9.out.after hB10)
          have HR10 := hide (HR9.out.after hB10)
          have HB10 := hide (belowTr HB9.out hB10)
          clear hw hB10 HX9 HT9 HR9 HK9 HB9
          go_wp2_with fail
          refine (allSame_any (tabN_le kk) w10 HT10.out HR10.out).mono ?_
          rintro e w11 ⟨rfl, d2, hw⟩
          have hB11 : Below w10.heap.size w10 w11 := by rw [hw]; exact below_dN (Below.refl _ _) _
          have HX11 := hide (HX10.out.after hB11)
          have HT11 := hide (HT10.out.after hB11)
          have HB11 := hide (belowTr HB10.out hB11)
          clear hw hB11 HX10 HT10 HR10 HB10
          go_wp2_with fail
          refine (dft_level xb kk hk11 (pts n f) (pts_cb HF.out) w11 HX11.out HT11.out).mono ?_
          rintro e w12 ⟨o2, rfl, _, hO, hB12⟩
          have hcell := hO.cell q2 hat
          have HB12 := hide (belowTr HB11.out hB12)
          clear HX11 HT11 HB11 hO hB12
          generalize dftOf kk (pts n f) q2 = dz at *
          go_wp2_with fail
          refine (sameC_self dz.1 dz.2 w12).mono ?_
          rintro e w13 ⟨rfl, hw⟩; obtain rfl := hw.symm
          clear hw hcell
          go_wp2_with fail
          go_ret
          exact ⟨rfl, HB12.out⟩
  · have HT := hide (table_some m hm)
    have hpos := p2_pos m
    have hp4 := p2_le (show m ≤ 11 by omega)
    go_enter Tacg.func43, Tacg.ntmps43
    go_wp2_with fail
    refine (HT.out w).mono ?_
    rintro e w1 ⟨rfl, hR, hB⟩
    have hat : i % p2 m < p2 m := Nat.mod_lt _ hpos
    have hat' : ((i % p2 m : Nat) : Int) < (p2 m : Int) := by omega
    have emod : (i : Int).tmod (p2 m : Int) = ((i % p2 m : Nat) : Int) := rfl
    have emod' : (i : Int) % (p2 m : Int) = ((i % p2 m : Nat) : Int) := rfl
    have hz : ¬ (p2 m : Int) = 0 := by omega
    have hz2 : (0 : Int) < (p2 m : Int) := by omega
    have hcell := hR.cell (i % p2 m) hat
    have hfz := hR.frozen (i % p2 m)
    have HB2 := hide (hB.setCell (p := ⟨w.heap.size, i % p2 m, none⟩) (Nat.le_refl _) (.complex .f64 4619567317775286272 0))
    have HTE : CB 1024 (tabF (m + 1) m (i % p2 m)) := tabF_1024 (m + 1) hm (i % p2 m)
    have eo1 : (FloatKind.f64.format.order (tabF (m + 1) m (i % p2 m)).1 (tabF (m + 1) m (i % p2 m)).1 == some .eq) = true := by
      have := Fp.order_eq HTE.1.1 HTE.1.1 rfl
      show (Ieee.double.order _ _ == some .eq) = true
      rw [this]; rfl
    have eo2 : (FloatKind.f64.format.order (tabF (m + 1) m (i % p2 m)).2 (tabF (m + 1) m (i % p2 m)).2 == some .eq) = true := by
      have := Fp.order_eq HTE.2.1 HTE.2.1 rfl
      show (Ieee.double.order _ _ == some .eq) = true
      rw [this]; rfl
    clear hR hB HTE
    generalize hq : i % p2 m = q at *
    go_wp2_with fail
    clear hcell hfz
    generalize w1.setCell ⟨w.heap.size, q, none⟩ (.complex .f64 4619567317775286272 0) = w2 at *
    refine (HT.out w2).mono ?_
    rintro e w3 ⟨rfl, hR3, hB3⟩
    have hcell := hR3.cell q hat
    have HB := hide (belowTr HB2.out hB3)
    have HD3 := hide (HD.out.below HB.out)
    clear HD HB2 hR3 hB3 HT
    have HD := HD3
    clear HD3
    generalize tabF (m + 1) m q = tq at *
    go_wp2_with fail
    clear hcell emod emod' hat hat' hz hz2 hpos hp4
    refine (cut_any n hn w3).mono ?_
    rintro e w4 ⟨hcut, hw⟩; obtain rfl := hw.symm; clear hw
    rcases hcut with ⟨rfl, hn0⟩ | ⟨kk, rfl, hk11, hpn⟩
    · go_wp2_with fail
      go_ret
      exact ⟨rfl, HB.out⟩
    · have hpn' : p2 kk ≤ n := hpn
      have hkpos := p2_pos kk
      have hk4 := p2_le hk11
      obtain ⟨b, o, rfl, hC⟩ : ∃ b o, vp = some ⟨b, o, none⟩ ∧ Cells w3 b o n f := by
        rcases HD.out with ⟨⟨p, _⟩, h0⟩ | ⟨b, o, c, hv, h3, h4⟩
        · omega
        · cases hv
          exact ⟨b, o, rfl, h4⟩
      have HC := hide hC
      have hneg : ¬ (kk : Int) < 0 := by omega
      have hk11' : (kk : Int) ≤ 11 := by omega
      have hp := wrap_p2 kk hk11
      have rm := make68' (p2 kk) (by omega)
      have R0 := hide (CRow.new w3 (p2 kk))
      have B0 := hide ((Below.refl (w3).heap.size w3).alloc (Nat.le_refl _) (.cells (madeCells #[.complex .f64 0 0] (p2 kk)) 143))
      clear hpn hC HD
      go_wp2_with fail
      generalize (w3).alloc (.cells (madeCells #[.complex .f64 0 0] (p2 kk)) 143) = W0 at *
      generalize hxb : (w3).heap.size = xb at *
      go_loopw [12] (fun s12 w1 => ∃ (j : Nat) (G : Nat → Nat × Nat) (U : World), s12 = .int .i64 j ∧ j ≤ p2 kk ∧ w1 = U ∧ Hid (Same j (pts n f) G) ∧ Hid (CRow U xb (p2 kk) G) ∧ Hid (Below xb w3 U)) (fun s12 _ => p2 kk - (intOf s12).toNat)
      case atStart => exact ⟨0, _, W0, rfl, by omega, rfl, hide (fun i hi => absurd hi (by omega)), R0, B0⟩
      case round =>
        obtain ⟨j, G, U, rfl, hj, hw, hS, hG, hB5⟩ := hrel
        obtain rfl := hw.symm
        clear hw R0 B0
        by_cases cj : j < p2 kk
        · have cj' : (j : Int) < (p2 kk : Int) := by omega
          have cjn : (j : Int) < (n : Int) := by omega
          have hca := HC.out j (by omega)
          have hca2 := (hB5.out.cell (hxb ▸ World.block_lt_of_cell? _ _ hca)).trans hca
          have hcell := hG.out.cell j cj
          have hfz := hG.out.frozen j
          have ep : pts n f j = pointW (f j) := by unfold pts; rw [if_pos (by omega)]
          have hG2 : Hid (CRow (U.setCell ⟨xb, j, none⟩ (.complex .f64 (pointW (f j)).1 (pointW (f j)).2)) xb (p2 kk) (fun i => if i = j then pts n f j else G i)) := by
            rw [← ep]
            exact hide (hG.out.set j cj (pts n f j))
          have hB6 := hide (hB5.out.setCell (p := ⟨xb, j, none⟩) (Nat.le_refl _) (.complex .f64 (pointW (f j)).1 (pointW (f j)).2))
          have hS2 := hide hS.out.put
          clear hS hG hB5 ep hca HC
          go_wp2_with fail
          go_roundw
          case rel => exact ⟨j + 1, _, _, by go_num, by omega, rfl, hS2, hG2, hB6⟩
          case measure => simp [intOf] <;> omega
        · obtain ej : j = p2 kk := by omega
          have HX := hide (hG.out.congr (show Same (p2 kk) (pts n f) G by rw [← ej]; exact hS.out))
          have HBU := hide (show Below w.heap.size w U by first | exact HB.out.trans (hB5.out.mono (by rw [← hxb]; exact HB.out.size)) | (rw [hxb]; exact hB5.out))
          subst ej
          clear hS hG hB5 HC HB rm hp hpn'
          have hk8 : (kk : Int) < 256 := by omega
          go_wp2_with fail
          refine (table_any kk (by omega) U).mono ?_
          rintro e w5 ⟨rv, rfl, hT, hB5⟩
          have HX5 := hide (HX.out.after hB5)
          have HT5 := hide hT
          have HB5 := hide (belowTr HBU.out hB5)
          clear hT hB5 HX HBU
          go_wp2_with fail
          refine (copyC_any hk4 w5 (.inr ⟨xb, rfl, HX5.out⟩)).mono ?_
          rintro e w6 ⟨kv, rfl, hkv, hB6⟩
          have HX6 := hide (HX5.out.after hB6)
          have HT6 := hide (HT5.out.after hB6)
          have HK6 := hide hkv
          have HB6 := hide (belowTr HB5.out hB6)
          clear hkv hB6 HX5 HT5 HB5
          go_wp2_with fail
          refine (copyC_any (tabN_le kk) w6 HT6.out).mono ?_
          rintro e w7 ⟨kr, rfl, hkr, hB7⟩
          have HX7 := hide (HX6.out.after hB7)
          have HT7 := hide (HT6.out.after hB7)
          have HK7 := hide (HK6.out.after hB7)
          have HR7 := hide hkr
          have HB7 := hide (belowTr HB6.out hB7)
          clear hkr hB7 HX6 HT6 HB6 HK6
          go_wp2_with fail
          refine (dft_level xb kk hk11 (pts n f) (pts_cb HF.out) w7 HX7.out HT7.out).mono ?_
          rintro e w8 ⟨ob, rfl, hob, hO, hB8⟩
          have hat : i % p2 kk < p2 kk := Nat.mod_lt _ hkpos
          have hat' : ((i % p2 kk : Nat) : Int) < (p2 kk : Int) := by omega
          have emod : (i : Int).tmod (p2 kk : Int) = ((i % p2 kk : Nat) : Int) := rfl
          have emod' : (i : Int) % (p2 kk : Int) = ((i % p2 kk : Nat) : Int) := rfl
          have hz : ¬ (p2 kk : Int) = 0 := by omega
          have hz2 : (0 : Int) < (p2 kk : Int) := by omega
          have hcell := hO.cell (i % p2 kk) hat
          have hfz := hO.frozen (i % p2 kk)
          have hB9 := hB8.setCell (p := ⟨ob, i % p2 kk, none⟩) hob (.complex .f64 4602678819172646912 0)
          have HX9 := hide (HX7.out.after hB9)
          have HT9 := hide (HT7.out.after hB9)
          have HK9 := hide (HK7.out.after hB9)
          have HR9 := hide (HR7.out.after hB9)
          have HB9 := hide (belowTr HB7.out hB9)
          clear HX7 HT7 HK7 HR7 HB7 hO hB8 hB9 hob
          generalize hq : i % p2 kk = q2 at *
          go_wp2_with fail
          clear hcell hfz
          generalize w8.setCell ⟨ob, q2, none⟩ (.complex .f64 4602678819172646912 0) = w9 at *
          refine (allSame_any hk4 w9 (.inr ⟨xb, rfl, HX9.out⟩) HK9.out).mono ?_
          rintro e w10 ⟨rfl, d1, hw⟩
          have hB10 : Below w9.heap.size w9 w10 := by rw [hw]; exact below_dN (Below.refl _ _) _
          have HX10 := hide (HX9.out.after hB10)
          have HT10 := hide (HT9.out.after hB10)
          have HR10 := hide (HR9.out.after hB10)
          have HB10 := hide (belowTr HB9.out hB10)
          clear hw hB10 HX9 HT9 HR9 HK9 HB9
          go_wp2_with fail
          refine (allSame_any (tabN_le kk) w10 HT10.out HR10.out).mono ?_
          rintro e w11 ⟨rfl, d2, hw⟩
          have hB11 : Below w10.heap.size w10 w11 := by rw [hw]; exact below_dN (Below.refl _ _) _
          have HX11 := hide (HX10.out.after hB11)
          have HT11 := hide (HT10.out.after hB11)
          have HB11 := hide (belowTr HB10.out hB11)
          clear hw hB11 HX10 HT10 HR10 HB10
          go_wp2_with fail
          refine (dft_level xb kk hk11 (pts n f) (pts_cb HF.out) w11 HX11.out HT11.out).mono ?_
          rintro e w12 ⟨o2, rfl, _, hO, hB12⟩
          have hcell := hO.cell q2 hat
          have HB12 := hide (belowTr HB11.out hB12)
          clear HX11 HT11 HB11 hO hB12
          generalize dftOf kk (pts n f) q2 = dz at *
          go_wp2_with fail
          refine (sameC_self dz.1 dz.2 w12).mono ?_
          rintro e w13 ⟨rfl, hw⟩; obtain rfl := hw.symm
          clear hw hcell
          go_wp2_with fail
          go_ret
          exact ⟨rfl, HB12.out⟩
end Go.Proofs.Ygctac.Cx
