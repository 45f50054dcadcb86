/-
  fft.Raw.
-/
import Derived.Test.YgctacFt8
import Derived.Test.YgctacMid
namespace Go.Proofs.Ygctac.Cx
open Go.RowKit
open Fp (fv)
set_option linter.unusedVariables false
set_option linter.unusedSimpArgs false

def CRM (w : World) (g n e1 e2 i : Nat) : Prop := ∃ F, (∀ j, CE e2 (F j)) ∧ (∀ j, i ≤ j → CE e1 (F j)) ∧ CRow w g n F
theorem CRM.cell {w : World} {g n e1 e2 i : Nat} (h : CRM w g n e1 e2 i) (hi : i < n) : ∃ z, CE e1 z ∧ w.cell? ⟨g, i, none⟩ = some (.complex .f64 z.1 z.2) := by
  obtain ⟨F, h1, h2, h3⟩ := h
  exact ⟨F i, h2 i (Nat.le_refl _), h3.cell i hi⟩
theorem CRM.frozen {w : World} {g n e1 e2 i : Nat} (h : CRM w g n e1 e2 i) (j : Nat) : w.frozen? ⟨g, j, none⟩ = false := by
  obtain ⟨F, h1, h2, h3⟩ := h
  exact h3.frozen j
theorem CRM.set {w : World} {g n e1 e2 i : Nat} (h : CRM w g n e1 e2 i) (hi : i < n) {z : Nat × Nat} (hz : CE e2 z) : CRM (w.setCell ⟨g, i, none⟩ (.complex .f64 z.1 z.2)) g n e1 e2 (i + 1) := by
  obtain ⟨F, h1, h2, h3⟩ := h
  refine ⟨_, fun j => ?_, fun j hj => ?_, h3.set i hi z⟩
  · by_cases c : j = i
    · simp only [c, if_true]; exact hz
    · simp only [c, if_false]; exact h1 j
  · simp only [show j ≠ i by omega, if_false]
    exact h2 j (by omega)
theorem CRM.drewN {w : World} {g n e1 e2 i d : Nat} (h : CRM w g n e1 e2 i) : CRM (w.drewN d) g n e1 e2 i := h
theorem CRE.crm {w : World} {g n e1 : Nat} (h : CRE w g n e1) (e2 : Nat) (he : e1 ≤ e2) : CRM w g n e1 e2 0 := by
  obtain ⟨F, h1, h2⟩ := h
  exact ⟨F, fun j => (h1 j).mono he, fun j _ => h1 j, h2⟩
theorem CRM.cre {w : World} {g n e1 e2 i : Nat} (h : CRM w g n e1 e2 i) : CRE w g n e2 := by
  obtain ⟨F, h1, h2, h3⟩ := h
  exact ⟨F, h1, h3⟩
theorem st_cre {g h n e : Nat} (hne : g ≠ h) : St (fun W => CRE W h n e) g :=
  ⟨fun W a v ha hF => hF.other (by rw [ha]; exact hne) v, fun W d hF => hF⟩
theorem tab_cre {w : World} {g kk : Nat} (hk : kk ≤ 10) (h : CRow w g (p2 kk) (tabF (kk + 1) kk)) : CRE w g (p2 kk) 10 :=
  ⟨_, fun j => (tabF_cb (kk + 1) kk (by omega) j).ce (Nat.pow_le_pow_right (by decide) hk), h⟩

set_option maxRecDepth 100000 in
set_option maxHeartbeats 8000000 in
theorem raw_any (p q : Option Addr) (n m : Nat) (n0 : 0 < n) (m0 : 0 < m) (hn : n ≤ 512) (hm : m ≤ 512) (w : World) (hp : Sl w p n) (hq : Sl w q m) :
    Calls Tacg.prog 104 #[.slice p n n, .slice q m m] w fun r w' => ∃ g N F, r = .returned (.slice (some ⟨g, 0, none⟩) N N) ∧ n + m - 1 ≤ N ∧ N ≤ 2048 ∧ CRow w' g N F ∧ w.heap.size ≤ g ∧ Below w.heap.size w w' := by
  have HP := hide hp
  have HQ := hide hq
  have t1 := beq0 n0
  have t2 := beq0 m0
  have t3 : ¬ ((512 : Int) < (n : Int)) := by omega
  have t4 : ¬ ((512 : Int) < (m : Int)) := by omega
  clear hp hq
  go_enter Tacg.func104, Tacg.ntmps104
  go_wp2_with fail
  go_loopw [5] (fun s5 w1 => ∃ kk : Nat, s5 = .int .u8 ((kk : Int) + 1) ∧ kk ≤ 9 ∧ w1 = w) (fun s5 _ => 20 - (intOf s5).toNat)
  case atStart => exact ⟨0, rfl, by omega, rfl⟩
  case round =>
    obtain ⟨kk, rfl, hk, hw⟩ := hrel
    obtain rfl := hw.symm
    clear hw
    have hpk := wrap_p2 (kk + 1) (by omega)
    by_cases c : p2 (kk + 1) < n + m - 1
    · have hk9 : kk + 1 ≤ 9 := by
        have hlt := c
        have : p2 (kk + 1) < p2 10 := Nat.lt_of_lt_of_le c (by rw [show p2 10 = 1024 from rfl]; omega)
        have h2 : kk + 1 < 10 := (Nat.pow_lt_pow_iff_right (by decide : 1 < 2)).1 this
        omega
      have c' : (p2 (kk + 1) : Int) < (n : Int) + (m : Int) - 1 := by omega
      go_wp2_with fail
      go_roundw
      case rel => exact ⟨kk + 1, by go_num, hk9, trivial⟩
      case measure => simp [intOf] <;> omega
    · have c' : ¬ ((p2 (kk + 1) : Int) < (n : Int) + (m : Int) - 1) := by omega
      go_wp2_with fail
      refine (table_some kk (by omega) w).mono ?_
      rintro e w1 ⟨rfl, hT1, hB1⟩
      have hT1' := tab_cre (by omega) hT1
      have hp1 := HP.out.below hB1
      have hq1 := HQ.out.below hB1
      have ht1 := hT1'.lt
      have HS := hide (Nat.le_refl w.heap.size)
      obtain ⟨gt, hgt⟩ : ∃ gt, gt = w.heap.size := ⟨_, rfl⟩
      rw [← hgt] at hT1' ht1 HS ⊢
      have HGT := hide hgt
      have HT := hide hT1'
      have HB := hide hB1
      have Hp := hide hp1
      have Hq := hide hq1
      have Hlt := hide ht1
      clear hT1 hT1' hB1 hp1 hq1 ht1 HP HQ hgt HS
      go_wp2_with fail
      refine (points_any p n (kk + 1) (by omega) (by omega) w1 Hp.out).mono ?_
      rintro e w2 ⟨rfl, hX2, hB2⟩
      obtain ⟨gx, hgx⟩ : ∃ gx, gx = w1.heap.size := ⟨_, rfl⟩
      rw [← hgx] at hX2 ⊢
      have HGX := hide hgx
      have hlx := hX2.lt
      have Hlx := hide hlx
      have HX := hide hX2
      have hq2 := Hq.out.below hB2
      have HT2 := hide (HT.out.below hB2 Hlt.out)
      have HB2 := hide (HB.out.trans (hB2.mono (HB.out.size)))
      have Hq2 := hide hq2
      clear hq2 hB2 hX2 hlx hgx HT HB Hp Hq
      go_wp2_with fail
      refine (points_any q m (kk + 1) (by omega) (by omega) w2 Hq2.out).mono ?_
      rintro e w3 ⟨rfl, hY3, hB3⟩
      have HC3 : Hid (CRE w3 gt (p2 kk) 10 ∧ CRE w3 gx (p2 (kk + 1)) 8 ∧ CRE w3 w2.heap.size (p2 (kk + 1)) 8 ∧ Below w.heap.size w w3 ∧ gt < gx ∧ gx < w2.heap.size) :=
        hide ⟨HT2.out.below hB3 (by have := Hlt.out; have := HB2.out.size; have := Hlx.out; have := HGX.out; omega), HX.out.below hB3 Hlx.out, hY3, HB2.out.trans (hB3.mono HB2.out.size), by rw [HGX.out]; exact Hlt.out, Hlx.out⟩
      generalize w2.heap.size = gy at *
      clear HT2 HX hY3 HB2 Hlx hB3 Hq2 Hlt HGX
      clear w1 w2
      go_wp2_with fail
      have hF := forward_any (fun W => CRE W gy (p2 (kk + 1)) 8) gx gt kk 8 (st_cre (by have := HC3.out; omega)) (by omega) (by omega) (by have := HC3.out; omega) w3 HC3.out.2.1 ⟨HC3.out.1, HC3.out.2.2.1⟩
      refine hF.mono ?_
      rintro e w4 ⟨rfl, hX4, hT4, hB4⟩
      have HC4 : Hid (CRE w4 gt (p2 kk) 10 ∧ CRE w4 gx (p2 (kk + 1)) (8 + 12 * (kk + 1)) ∧ CRE w4 gy (p2 (kk + 1)) 8 ∧ Below w.heap.size w w4 ∧ gt < gx ∧ gx < gy) :=
        hide ⟨hT4.1, hX4, hT4.2, HC3.out.2.2.2.1.trans (hB4.mono (by have := HC3.out; have := HGT.out; omega)), HC3.out.2.2.2.2⟩
      clear hF hX4 hT4 hB4 HC3
      clear w3
      go_wp2_with fail
      have hF := forward_any (fun W => CRE W gx (p2 (kk + 1)) (8 + 12 * (kk + 1))) gy gt kk 8 (st_cre (by have := HC4.out; omega)) (by omega) (by omega) (by have := HC4.out; omega) w4 HC4.out.2.2.1 ⟨HC4.out.1, HC4.out.2.1⟩
      refine hF.mono ?_
      rintro e w5 ⟨rfl, hX5, hT5, hB5⟩
      have HC5 : Hid (CRE w5 gt (p2 kk) 10 ∧ CRE w5 gx (p2 (kk + 1)) (8 + 12 * (kk + 1)) ∧ CRE w5 gy (p2 (kk + 1)) (8 + 12 * (kk + 1)) ∧ Below w.heap.size w w5 ∧ gt < gx ∧ gx < gy) :=
        hide ⟨hT5.1, hT5.2, hX5, HC4.out.2.2.2.1.trans (hB5.mono (by have := HC4.out; have := HGT.out; omega)), HC4.out.2.2.2.2⟩
      clear hF hX5 hT5 hB5 HC4
      clear w4
      obtain ⟨E1, hE1⟩ : ∃ E1, E1 = 8 + 12 * (kk + 1) := ⟨_, rfl⟩
      rw [← hE1] at HC5
      have HE1 := hide hE1
      have hpp := p2_le (show kk + 1 ≤ 11 by omega)
      clear hE1
      obtain ⟨N, hN⟩ : ∃ N, N = p2 (kk + 1) := ⟨_, rfl⟩
      rw [← hN] at HC5 hpp c c' hpk ⊢
      have HN := hide hN
      clear hN
      go_wp2_with fail
      go_loopw [9] (fun s9 w1 => ∃ (i : Nat) (W : World), s9 = .int .i64 i ∧ i ≤ N ∧ w1 = W ∧ Hid (CRE W gt (p2 kk) 10 ∧ CRM W gx N E1 (E1 + E1 + 1) i ∧ CRE W gy N E1 ∧ Below w.heap.size w W ∧ gt < gx ∧ gx < gy)) (fun s9 _ => N - (intOf s9).toNat)
      case atStart => exact ⟨0, _, rfl, by omega, rfl, hide ⟨HC5.out.1, HC5.out.2.1.crm _ (by omega), HC5.out.2.2⟩⟩
      case round =>
        obtain ⟨i, W, rfl, hi, hw, hC⟩ := hrel
        obtain rfl := hw.symm
        clear hw HC5
        by_cases ci : i < N
        · have ci' : (i : Int) < (N : Int) := by omega
          obtain ⟨x, hx, hcx⟩ := hC.out.2.1.cell ci
          obtain ⟨y, hy, hcy⟩ := hC.out.2.2.1.cell ci
          have fx := hC.out.2.1.frozen i
          have hM := cmulE hx hy rfl (by have := HE1.out; omega)
          have HCM := hide hM.1
          have HM := hide hM.2
          clear hM hx hy
          go_wp2_with fail
          refine wp_region_mid 12 (by kernel_rfl) (by decide) (by kernel_rfl) (by kernel_rfl) (by kernel_rfl) (by kernel_rfl) ⟨by kernel_rfl, by kernel_rfl⟩ ?_
          simp only [List.take_succ_cons, List.take_zero, List.drop_succ_cons, List.drop_zero, List.drop_nil]
          repeat (go_big_quiet_step (first | (go_at_call 150; exact Calls.quiet_of_same (mulC x y _ HM.out.1 HM.out.2.1 HM.out.2.2.1 HM.out.2.2.2.1 HM.out.2.2.2.2.1 HM.out.2.2.2.2.2)) | fail))
          refine wpQuiet_nil ?_
          rintro w' ⟨nq, rfl⟩
          refine wpOp_by rfl rfl (fun K hK => ?_)
          go_simp
          apply hK
          refine ⟨fun w' => w' = _, rfl, wpQuiet_nil ?_⟩
          rintro w' rfl
          go_wp2_with fail
          go_roundw
          case rel => exact ⟨i + 1, _, by go_num, by omega, rfl, hide ⟨hC.out.1.drewN.other (by have := hC.out; simp; omega) _, CRM.set (w := W.drewN nq) hC.out.2.1 ci HCM.out, hC.out.2.2.1.drewN.other (by have := hC.out; simp; omega) _, (below_dN hC.out.2.2.2.1 nq).setCell (p := ⟨gx, i, none⟩) (by have := hC.out; have := HGT.out; simp; omega) _, hC.out.2.2.2.2⟩⟩
          case measure => simp [intOf] <;> omega
        · obtain rfl : i = N := by omega
          go_wp2_with fail
          have hI := inverse_any gx gt kk (E1 + E1 + 1) (by omega) (by have := HE1.out; omega) (by have := hC.out; omega) W (by rw [← HN.out]; exact hC.out.2.1.cre) hC.out.1
          rw [← HN.out] at hI
          refine hI.mono ?_
          rintro e w6 ⟨rfl, ⟨F, hF6⟩, hB6⟩
          have HE := hide (And.intro hF6 (hC.out.2.2.2.1.trans (hB6.mono (by have := hC.out; have := HGT.out; omega))))
          clear hI hF6 hB6
          go_wp2_with fail
          go_ret
          exact ⟨gx, i, F, rfl, by omega, by omega, HE.out.1, by have := hC.out; have := HGT.out; omega, HE.out.2⟩
end Go.Proofs.Ygctac.Cx
namespace Go.Proofs.Ygctac
open Go.RowKit Cx
theorem sl_beq {p : Option Addr} {n : Nat} (w : World) (h : Sl w p n) : (p = none ∧ n = 0) ∨ 0 < n := by
  rcases h with h | ⟨_, _, _, _, h, _⟩
  · exact .inl h
  · exact .inr h

theorem fconv_l (a : Option Addr) (n c : Nat) (b : Option Addr) (hn : n ≤ 512) (w : World) :
    Calls Tacg.prog 101 #[.slice b 0 0, .slice a n c] w fun r w' => r = .returned (.tuple #[.slice none 0 0, .bool true]) ∧ w' = w := by
  have t1 : ¬ (512 : Int) < (n : Int) := by omega
  go_enter Tacg.func101, Tacg.ntmps101
  go_wp2
  go_ret2
  exact ⟨rfl, rfl⟩
theorem mulFFT_l (a : Option Addr) (n c : Nat) (b : Option Addr) (hn : n ≤ 512) (w : World) :
    Calls Tacg.prog 99 #[.slice b 0 0, .slice a n c] w fun r w' => r = .returned (.tuple #[.slice none 0 0, .bool true]) ∧ Below w.heap.size w w' := by
  go_enter Tacg.func99, Tacg.ntmps99
  go_wp2_with (first | (go_at_call 101; refine (fconv_l a n c b hn _).mono ?_; rintro e w' ⟨rfl, hw⟩; obtain rfl := hw.symm) | (go_at_call 144; refine (carry_nil _).mono ?_; rintro e w' ⟨rfl, hb⟩))
  go_ret2
  exact ⟨rfl, hb⟩

set_option maxRecDepth 100000 in
set_option maxHeartbeats 8000000 in
theorem mulFFT_any (p q : Option Addr) (n m : Nat) (hn : n ≤ 512) (hm : m ≤ 512) (w : World) (hp : Sl w p n) (hq : Sl w q m) :
    Calls Tacg.prog 99 #[.slice p n n, .slice q m m] w fun r w' => ∃ x s, r = .returned (.tuple #[x, .bool s]) ∧ NatB w' x w.heap.size 2000 ∧ Below w.heap.size w w' := by
  rcases sl_beq w hp with ⟨rfl, rfl⟩ | n0
  · exact (mulFFT_l q m m none hm w).mono (by rintro r w' ⟨rfl, hb⟩; exact ⟨_, _, rfl, .inl rfl, hb⟩)
  rcases sl_beq w hq with ⟨rfl, rfl⟩ | m0
  · exact (mulFFT_r p n n none hn w).mono (by rintro r w' ⟨rfl, hb⟩; exact ⟨_, _, rfl, .inl rfl, hb⟩)
  have HW := hide (raw_any p q n m n0 m0 hn hm w hp hq)
  have t1 := beq0 n0
  have t2 := beq0 m0
  have t3 : ¬ ((512 : Int) < (n : Int)) := by omega
  have t4 : ¬ ((512 : Int) < (m : Int)) := by omega
  clear hp hq
  have HC : Hid (Calls Tacg.prog 101 #[.slice p n n, .slice q m m] w fun r w' => ∃ g N s, r = .returned (.tuple #[.slice (some ⟨g, 0, none⟩) N N, .bool s]) ∧ N ≤ 1023 ∧ RowP w' g N 2 IsI64 ∧ Below w.heap.size w w') := by
    refine hide ?_
    go_enter Tacg.func101, Tacg.ntmps101
    go_wp2_with fail
    refine HW.out.mono ?_
    rintro e w1 ⟨g, N, F, rfl, h1, h2, h3, h4, h5⟩
    have H5 := hide h5
    have H3 := hide h3
    clear h3 h5
    have e1 : (n : Int) + (m : Int) - 1 = ((n + m - 1 : Nat) : Int) := by omega
    go_wp2_with fail
    refine (roundAll_any g N (n + m - 1) (by omega) h1 h2 F w1 H3.out).mono ?_
    rintro e w2 ⟨s, rfl, hR, hB⟩
    have HE := hide (And.intro hR (H5.out.trans (hB.mono H5.out.size)))
    clear hR hB
    go_wp2_with fail
    go_ret2
    exact ⟨_, n + m - 1, s, rfl, by omega, HE.out⟩
  clear HW
  go_enter Tacg.func99, Tacg.ntmps99
  go_wp2_with fail
  refine HC.out.mono ?_
  rintro e w1 ⟨g, N, s, rfl, h1, h2, h3⟩
  have HE := hide (And.intro h2 h3)
  clear h2 h3 HC
  go_wp2_with fail
  refine (carry_row g N (by omega) w1 HE.out.1).mono ?_
  rintro e w2 ⟨x, s2, rfl, hN, hB⟩
  have HX := hide (And.intro (hN.mono (HE.out.2.size) (show N + 8 ≤ 2000 by omega)) (HE.out.2.trans (hB.mono HE.out.2.size)))
  clear hN hB
  cases s
  · go_wp2_with fail
    go_ret2
    first | exact ⟨_, _, rfl, HX.out⟩ | exact ⟨_, .inl rfl, HX.out⟩
  · go_wp2_with fail
    go_ret2
    first | exact ⟨_, _, rfl, HX.out⟩ | exact ⟨_, .inl rfl, HX.out⟩
end Go.Proofs.Ygctac
