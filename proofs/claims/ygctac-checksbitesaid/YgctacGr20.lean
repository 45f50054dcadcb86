/-
  law.biteMachine, hurt 10 (made by tools/gen_gr18.py).
-/
import Derived.Test.YgctacGr17
import Derived.RegionTactic
namespace Go.Proofs.Ygctac
open Go.RowKit
set_option linter.unusedVariables false
set_option linter.unusedSimpArgs false

set_option maxRecDepth 100000 in
set_option maxHeartbeats 4000000 in
theorem biteM_10s (p : Option Addr) (n c which : Nat) (K : Nat → Nat) (V : Nat → Value) (X : Nat → Ent) (hn : n ≤ 128) (hn2 : n ≤ 140737488355328) (hwh : which ≤ 255) (w : World) (hs : ScV w p n c K V X) :
    Calls Tacg.prog 33 #[.slice p n c, .int .u8 10, .int .i64 which] w fun r w' => TrueB w r w' := by
  have t0 : ¬ ((128 : Int) < (n : Int)) := by omega
  have HS := hide hs
  have HB1 : Hid (Below w.heap.size w (w.alloc (.cells #[.slice none 0 0, .slice none 0 0] 34))) := hide ((Below.refl _ _).alloc (Nat.le_refl _) _)
  have HM0 := hide (mo_new w (fun _ => none) (fun _ => 0))
  clear hs hn
  go_enter Tacg.func33, Tacg.ntmps33
  go_wp2_with fail

  generalize w.alloc (.cells #[.slice none 0 0, .slice none 0 0] 34) = w1 at *
  obtain ⟨mb, hmb⟩ : ∃ mb, mb = w.heap.size := ⟨_, rfl⟩
  rw [← hmb] at HM0 ⊢
  have HMB := hide hmb
  clear hmb
  go_loopw [8] (fun s8 w2 => ∃ (i : Nat) (W : World) (v u : Value) (m : Nat) (S : Nat → Ent) (k : Nat) (Q : Nat → Int), s8 = .int .i64 i ∧ i ≤ n ∧ k ≤ i ∧ m ≤ 16 ∧ w2 = W ∧ Hid (MO W (From mb) mb v u m S k Q) ∧ Hid (allN m S = true) ∧ Hid (Below w.heap.size w W)) (fun s8 _ => n - (intOf s8).toNat)
  case atStart => exact ⟨0, _, _, _, 0, _, 0, _, rfl, by omega, by omega, by omega, rfl, HM0, hide rfl, HB1⟩
  case round =>
    obtain ⟨i, W, v, u, m, S, k, Q, rfl, hi, hk, hm, hw, hM, hA, hB⟩ := hrel
    obtain rfl := hw.symm
    clear hw HM0 HB1
    by_cases ci : i < n
    · have ci' : (i : Int) < (n : Int) := by omega
      obtain ⟨sb, so, rfl, c1, c2, hv⟩ := (HS.out.below hB.out).at ci
      have HST := hide (step_good (From mb) mb 0 (K i) (by omega) (by omega) (X i) (V i) v u m S k Q W hM.out hm hA.out (by omega) hv)
      obtain ⟨ap, al, ac, hva⟩ := hv.slice
      rw [hva] at c2 HST
      clear hva hv
      generalize K i = kk at *
      go_wp2_with fail
      refine HST.out.mono ?_
      rintro e w3 ⟨rfl, v', u', m', S', k', Q', hM', hm', hA', hk1, hk2, _, hKZ⟩
      have HB3 : Hid (Below w.heap.size w w3) := hide (by rw [HMB.out] at hKZ; exact hB.out.trans (hKZ.under hB.out.size))
      have HM3 := hide hM'
      have HA3 := hide hA'
      clear hM' hA' hKZ HST hM hA hB c1 c2
      go_wp2_with fail
      go_roundw
      case rel => exact ⟨i + 1, _, _, _, m', S', k', Q', by go_num, by omega, by omega, by omega, rfl, HM3, HA3, HB3⟩
      case measure => simp [intOf] <;> omega
    · have ci' : ¬ (i : Int) < (n : Int) := by omega
      have hck := check_mo hM.out (by omega)
      rw [show (decide (m ≤ 16) && allN m S) = true by simp [hm, hA.out]] at hck
      have HCK := hide hck
      clear hck
      go_wp2_with fail
      refine HCK.out.mono ?_
      rintro e W1 ⟨rfl, hb1⟩
      have HM := hide (hM.out.after hb1)
      have HB := hide (hB.out.trans (hb1.mono hB.out.size))
      have HMBS : Hid (w.heap.size ≤ W1.heap.size) := hide HB.out.size
      clear hb1 HCK hM hB
      obtain ⟨vp, vc, hvs⟩ := HM.out.st.row.slice
      obtain rfl := hvs
      have d0 := cell_of HM.out.cell (i := 0) rfl
      have fd0 := frozen_of HM.out.cell 0

      by_cases m2 : m < 2
      · have t1 : (m : Int) < 2 := by omega
        go_wp2_with fail
        go_ret
        exact ⟨rfl, HB.out⟩
      · have t1 : ¬ (m : Int) < 2 := by omega
        have t2 : (0 : Int) < (m : Int) := by omega
        have t3 : (1 : Int) < (m : Int) := by omega
        obtain ⟨g, rfl, hmc, hcs⟩ := HM.out.rows (by omega)
        have s0 := hcs 0 (by omega)
        have s1 := hcs 1 (by omega)
        clear hcs
        cases hS : S 0 with
        | none =>
          rw [hS] at s0
          simp only [vOf] at s0
          go_wp2_with fail
          go_ret
          exact ⟨rfl, HB.out⟩
        | some e =>
          have he := HM.out.st.ent 0 (by omega) e hS
          have hn0 : 0 < e.l := nrm_pos (by rw [← hS]; exact allN_at hA.out (by omega))
          obtain ⟨eb, eo, el, ec, ef⟩ := e
          obtain ⟨hz, ho, hec, hl2, hdg, C5, hc5, hc6⟩ := he
          simp only at hz ho hec hl2 hdg hc5 hc6 hn0
          subst ho hec
          rw [hS] at s0
          simp only [vOf] at s0

          have hcp := check_put (x := some ⟨eb, 0, ec, ec, ef⟩) HM.out hm (show 1 < m by omega) (below_dN (Below.refl _ _) 1) (fun e he => by cases he; exact ⟨Nat.le_refl _, by simp only; omega, hdg, (show OwnRow W1 eb ec ef from ⟨C5, hc5, hc6⟩).cells⟩) (fun e he => by cases he; exact ⟨C5, hc5⟩) (fun h => by
            refine h.2.2 0 (by omega) ⟨eb, 0, ec, ec, ef⟩ (by simp [hS]) 1 (by omega) (by omega) ⟨0, hn0, ?_⟩
            simp [first])
          obtain ⟨g', hg', -, hfz, hzg, hcall⟩ := hcp
          cases hg'
          have HCALL := hide hcall
          have hfz1 : W1.frozen? ⟨g, 1, none⟩ = false := hfz
          have HB2 : Hid (Below w.heap.size w ((W1.drewN 1).setCell ⟨g, 1, none⟩ (.slice (some ⟨eb, 0, none⟩) ec ec))) := hide ((below_dN HB.out 1).setCell (p := ⟨g, 1, none⟩) (by rw [← HMB.out]; exact hzg) _)
          simp only [vOf] at HCALL
          clear hcall hfz hzg hS hc5 hc6 hdg
          go_wp2_with fail
          go_region
          go_wp2_with fail
          refine HCALL.out.mono ?_
          rintro e W3 ⟨rfl, hb3⟩
          have HB3 := hide (HB2.out.trans (hb3.mono HB2.out.size))
          clear hb3
          go_wp2_with fail
          go_ret
          exact ⟨rfl, HB3.out⟩

set_option maxRecDepth 100000 in
set_option maxHeartbeats 4000000 in
theorem biteM_10b (p : Option Addr) (n c which : Nat) (K : Nat → Nat) (V : Nat → Value) (X : Nat → Ent) (hn : 128 < n) (hn2 : n ≤ 140737488355328) (hwh : which ≤ 255) (w : World) (hs : ScV w p n c K V X) :
    Calls Tacg.prog 33 #[.slice p n c, .int .u8 10, .int .i64 which] w fun r w' => TrueB w r w' := by
  have t0 : (128 : Int) < (n : Int) := by omega
  have t1 : (128 : Int) ≤ (c : Int) := by have := hs.le; omega
  have HS := hide (hs.cut hn)
  have HB1 : Hid (Below w.heap.size w (w.alloc (.cells #[.slice none 0 0, .slice none 0 0] 34))) := hide ((Below.refl _ _).alloc (Nat.le_refl _) _)
  have HM0 := hide (mo_new w (fun _ => none) (fun _ => 0))
  clear hs hn
  go_enter Tacg.func33, Tacg.ntmps33
  go_wp2_with fail

  generalize w.alloc (.cells #[.slice none 0 0, .slice none 0 0] 34) = w1 at *
  obtain ⟨mb, hmb⟩ : ∃ mb, mb = w.heap.size := ⟨_, rfl⟩
  rw [← hmb] at HM0 ⊢
  have HMB := hide hmb
  clear hmb
  go_loopw [8] (fun s8 w2 => ∃ (i : Nat) (W : World) (v u : Value) (m : Nat) (S : Nat → Ent) (k : Nat) (Q : Nat → Int), s8 = .int .i64 i ∧ i ≤ 128 ∧ k ≤ i ∧ m ≤ 16 ∧ w2 = W ∧ Hid (MO W (From mb) mb v u m S k Q) ∧ Hid (allN m S = true) ∧ Hid (Below w.heap.size w W)) (fun s8 _ => 128 - (intOf s8).toNat)
  case atStart => exact ⟨0, _, _, _, 0, _, 0, _, rfl, by omega, by omega, by omega, rfl, HM0, hide rfl, HB1⟩
  case round =>
    obtain ⟨i, W, v, u, m, S, k, Q, rfl, hi, hk, hm, hw, hM, hA, hB⟩ := hrel
    obtain rfl := hw.symm
    clear hw HM0 HB1
    by_cases ci : i < 128
    · have ci' : (i : Int) < (128 : Int) := by omega
      obtain ⟨sb, so, rfl, c1, c2, hv⟩ := (HS.out.below hB.out).at ci
      have HST := hide (step_good (From mb) mb 0 (K i) (by omega) (by omega) (X i) (V i) v u m S k Q W hM.out hm hA.out (by omega) hv)
      obtain ⟨ap, al, ac, hva⟩ := hv.slice
      rw [hva] at c2 HST
      clear hva hv
      generalize K i = kk at *
      go_wp2_with fail
      refine HST.out.mono ?_
      rintro e w3 ⟨rfl, v', u', m', S', k', Q', hM', hm', hA', hk1, hk2, _, hKZ⟩
      have HB3 : Hid (Below w.heap.size w w3) := hide (by rw [HMB.out] at hKZ; exact hB.out.trans (hKZ.under hB.out.size))
      have HM3 := hide hM'
      have HA3 := hide hA'
      clear hM' hA' hKZ HST hM hA hB c1 c2
      go_wp2_with fail
      go_roundw
      case rel => exact ⟨i + 1, _, _, _, m', S', k', Q', by go_num, by omega, by omega, by omega, rfl, HM3, HA3, HB3⟩
      case measure => simp [intOf] <;> omega
    · have ci' : ¬ (i : Int) < (128 : Int) := by omega
      have hck := check_mo hM.out (by omega)
      rw [show (decide (m ≤ 16) && allN m S) = true by simp [hm, hA.out]] at hck
      have HCK := hide hck
      clear hck
      go_wp2_with fail
      refine HCK.out.mono ?_
      rintro e W1 ⟨rfl, hb1⟩
      have HM := hide (hM.out.after hb1)
      have HB := hide (hB.out.trans (hb1.mono hB.out.size))
      have HMBS : Hid (w.heap.size ≤ W1.heap.size) := hide HB.out.size
      clear hb1 HCK hM hB
      obtain ⟨vp, vc, hvs⟩ := HM.out.st.row.slice
      obtain rfl := hvs
      have d0 := cell_of HM.out.cell (i := 0) rfl
      have fd0 := frozen_of HM.out.cell 0

      by_cases m2 : m < 2
      · have t1 : (m : Int) < 2 := by omega
        go_wp2_with fail
        go_ret
        exact ⟨rfl, HB.out⟩
      · have t1 : ¬ (m : Int) < 2 := by omega
        have t2 : (0 : Int) < (m : Int) := by omega
        have t3 : (1 : Int) < (m : Int) := by omega
        obtain ⟨g, rfl, hmc, hcs⟩ := HM.out.rows (by omega)
        have s0 := hcs 0 (by omega)
        have s1 := hcs 1 (by omega)
        clear hcs
        cases hS : S 0 with
        | none =>
          rw [hS] at s0
          simp only [vOf] at s0
          go_wp2_with fail
          go_ret
          exact ⟨rfl, HB.out⟩
        | some e =>
          have he := HM.out.st.ent 0 (by omega) e hS
          have hn0 : 0 < e.l := nrm_pos (by rw [← hS]; exact allN_at hA.out (by omega))
          obtain ⟨eb, eo, el, ec, ef⟩ := e
          obtain ⟨hz, ho, hec, hl2, hdg, C5, hc5, hc6⟩ := he
          simp only at hz ho hec hl2 hdg hc5 hc6 hn0
          subst ho hec
          rw [hS] at s0
          simp only [vOf] at s0

          have hcp := check_put (x := some ⟨eb, 0, ec, ec, ef⟩) HM.out hm (show 1 < m by omega) (below_dN (Below.refl _ _) 1) (fun e he => by cases he; exact ⟨Nat.le_refl _, by simp only; omega, hdg, (show OwnRow W1 eb ec ef from ⟨C5, hc5, hc6⟩).cells⟩) (fun e he => by cases he; exact ⟨C5, hc5⟩) (fun h => by
            refine h.2.2 0 (by omega) ⟨eb, 0, ec, ec, ef⟩ (by simp [hS]) 1 (by omega) (by omega) ⟨0, hn0, ?_⟩
            simp [first])
          obtain ⟨g', hg', -, hfz, hzg, hcall⟩ := hcp
          cases hg'
          have HCALL := hide hcall
          have hfz1 : W1.frozen? ⟨g, 1, none⟩ = false := hfz
          have HB2 : Hid (Below w.heap.size w ((W1.drewN 1).setCell ⟨g, 1, none⟩ (.slice (some ⟨eb, 0, none⟩) ec ec))) := hide ((below_dN HB.out 1).setCell (p := ⟨g, 1, none⟩) (by rw [← HMB.out]; exact hzg) _)
          simp only [vOf] at HCALL
          clear hcall hfz hzg hS hc5 hc6 hdg
          go_wp2_with fail
          go_region
          go_wp2_with fail
          refine HCALL.out.mono ?_
          rintro e W3 ⟨rfl, hb3⟩
          have HB3 := hide (HB2.out.trans (hb3.mono HB2.out.size))
          clear hb3
          go_wp2_with fail
          go_ret
          exact ⟨rfl, HB3.out⟩
end Go.Proofs.Ygctac
