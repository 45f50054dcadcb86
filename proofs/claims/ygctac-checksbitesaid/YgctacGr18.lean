/-
  law.biteMachine, hurt 8 (made by tools/gen_gr18.py).
-/
import Derived.Test.YgctacGr17
import Derived.RegionTactic
namespace Go.Proofs.Ygctac
open Go.RowKit
set_option linter.unusedVariables false
set_option linter.unusedSimpArgs false

set_option maxRecDepth 100000 in
set_option maxHeartbeats 4000000 in
theorem biteM_8s (p : Option Addr) (n c which : Nat) (K : Nat → Nat) (V : Nat → Value) (X : Nat → Ent) (hn : n ≤ 128) (hn2 : n ≤ 140737488355328) (hwh : which ≤ 255) (w : World) (hs : ScV w p n c K V X) :
    Calls Tacg.prog 33 #[.slice p n c, .int .u8 8, .int .i64 which] w fun r w' => TrueB w r w' := by
  have t0 : ¬ ((128 : Int) < (n : Int)) := by omega
  have HS := hide hs
  have HB1 : Hid (Below w.heap.size w (w.alloc (.cells #[.slice none 0 0, .slice none 0 0] 34))) := hide ((Below.refl _ _).alloc (Nat.le_refl _) _)
  have HM0 := hide (mo_new w (fun _ => none) (fun _ => 0))
  clear hs hn
  go_enter Tacg.func33, Tacg.ntmps33
  go_wp2_with fail

  generalize w.alloc (.cells #[.slice none 0 0, .slice none 0 0] 34) = w1 at *
  obtain ⟨mb, hmb⟩ : ∃ mb, mb = w.heap.size := ⟨_, rfl⟩
  rw [← hmb] at HM0 ⊢
  have HMB := hide hmb
  clear hmb
  go_loopw [8] (fun s8 w2 => ∃ (i : Nat) (W : World) (v u : Value) (m : Nat) (S : Nat → Ent) (k : Nat) (Q : Nat → Int), s8 = .int .i64 i ∧ i ≤ n ∧ k ≤ i ∧ m ≤ 16 ∧ w2 = W ∧ Hid (MO W (From mb) mb v u m S k Q) ∧ Hid (allN m S = true) ∧ Hid (Below w.heap.size w W)) (fun s8 _ => n - (intOf s8).toNat)
  case atStart => exact ⟨0, _, _, _, 0, _, 0, _, rfl, by omega, by omega, by omega, rfl, HM0, hide rfl, HB1⟩
  case round =>
    obtain ⟨i, W, v, u, m, S, k, Q, rfl, hi, hk, hm, hw, hM, hA, hB⟩ := hrel
    obtain rfl := hw.symm
    clear hw HM0 HB1
    by_cases ci : i < n
    · have ci' : (i : Int) < (n : Int) := by omega
      obtain ⟨sb, so, rfl, c1, c2, hv⟩ := (HS.out.below hB.out).at ci
      have HST := hide (step_good (From mb) mb 0 (K i) (by omega) (by omega) (X i) (V i) v u m S k Q W hM.out hm hA.out (by omega) hv)
      obtain ⟨ap, al, ac, hva⟩ := hv.slice
      rw [hva] at c2 HST
      clear hva hv
      generalize K i = kk at *
      go_wp2_with fail
      refine HST.out.mono ?_
      rintro e w3 ⟨rfl, v', u', m', S', k', Q', hM', hm', hA', hk1, hk2, _, hKZ⟩
      have HB3 : Hid (Below w.heap.size w w3) := hide (by rw [HMB.out] at hKZ; exact hB.out.trans (hKZ.under hB.out.size))
      have HM3 := hide hM'
      have HA3 := hide hA'
      clear hM' hA' hKZ HST hM hA hB c1 c2
      go_wp2_with fail
      go_roundw
      case rel => exact ⟨i + 1, _, _, _, m', S', k', Q', by go_num, by omega, by omega, by omega, rfl, HM3, HA3, HB3⟩
      case measure => simp [intOf] <;> omega
    · have ci' : ¬ (i : Int) < (n : Int) := by omega
      have hck := check_mo hM.out (by omega)
      rw [show (decide (m ≤ 16) && allN m S) = true by simp [hm, hA.out]] at hck
      have HCK := hide hck
      clear hck
      go_wp2_with fail
      refine HCK.out.mono ?_
      rintro e W1 ⟨rfl, hb1⟩
      have HM := hide (hM.out.after hb1)
      have HB := hide (hB.out.trans (hb1.mono hB.out.size))
      have HMBS : Hid (w.heap.size ≤ W1.heap.size) := hide HB.out.size
      clear hb1 HCK hM hB
      obtain ⟨vp, vc, hvs⟩ := HM.out.st.row.slice
      obtain rfl := hvs
      have d0 := cell_of HM.out.cell (i := 0) rfl
      have fd0 := frozen_of HM.out.cell 0

      by_cases m0 : m = 0
      · subst m0
        go_wp2_with fail
        go_ret
        exact ⟨rfl, HB.out⟩
      · have t1 : ¬ (m : Int) = 0 := by omega
        obtain ⟨j, hj, hjm⟩ : ∃ j, j = which % m ∧ j < m := ⟨_, rfl, Nat.mod_lt _ (by omega)⟩
        have q1 : (which : Int).tmod (m : Int) = (j : Int) := by rw [Int.tmod_eq_emod_of_nonneg (by omega)]; omega
        have q2 : (j : Int) < (m : Int) := by omega
        clear hj
        obtain ⟨g, rfl, hmc, hcs⟩ := HM.out.rows (by omega)
        have s1 := hcs j hjm
        have HOK : Hid (EntOk W1 (S j)) := hide (fun e he => (HM.out.st.ent j hjm e he).ok)
        have HLE : Hid (∀ e, S j = some e → e.l ≤ 2000) := hide (fun e he => (HM.out.st.ent j hjm e he).2.2.2.1)
        have HNR := hide (allN_at hA.out hjm)
        generalize S j = x at *
        have HN1 := hide (fun d => normal72 x (W1.drewN d) HOK.out)
        rw [HNR.out] at HN1
        have HT1 := hide (fun d => topped_any x (W1.drewN d) HOK.out HLE.out)
        obtain ⟨xp, xl, xc, hxv⟩ := vOf_slice x
        rw [hxv] at s1 HN1 HT1
        clear hxv hcs
        go_wp2_with fail
        go_region
        go_wp2_with fail
        refine (HN1.out 1).mono ?_
        rintro e w' ⟨rfl, hw⟩
        obtain rfl := hw.symm
        clear hw
        go_wp2_with fail
        refine (HT1.out 1).mono ?_
        rintro e W2 ⟨y, rfl, hy, hyn, hyb⟩
        have HY := hide (normal72 (some y) W2 hy)
        rw [hyn] at HY
        have HB2 : Hid (Below w.heap.size w W2) := hide ((below_dN HB.out 1).trans (hyb.mono HMBS.out))
        clear hy hyn hyb
        obtain ⟨yb, yo, yl, yc, yf⟩ := y
        simp only [vOf] at HY ⊢
        go_wp2_with fail
        refine HY.out.mono ?_
        rintro e w' ⟨rfl, hw⟩
        obtain rfl := hw.symm
        clear hw
        go_wp2_with fail
        go_ret
        exact ⟨rfl, HB2.out⟩

set_option maxRecDepth 100000 in
set_option maxHeartbeats 4000000 in
theorem biteM_8b (p : Option Addr) (n c which : Nat) (K : Nat → Nat) (V : Nat → Value) (X : Nat → Ent) (hn : 128 < n) (hn2 : n ≤ 140737488355328) (hwh : which ≤ 255) (w : World) (hs : ScV w p n c K V X) :
    Calls Tacg.prog 33 #[.slice p n c, .int .u8 8, .int .i64 which] w fun r w' => TrueB w r w' := by
  have t0 : (128 : Int) < (n : Int) := by omega
  have t1 : (128 : Int) ≤ (c : Int) := by have := hs.le; omega
  have HS := hide (hs.cut hn)
  have HB1 : Hid (Below w.heap.size w (w.alloc (.cells #[.slice none 0 0, .slice none 0 0] 34))) := hide ((Below.refl _ _).alloc (Nat.le_refl _) _)
  have HM0 := hide (mo_new w (fun _ => none) (fun _ => 0))
  clear hs hn
  go_enter Tacg.func33, Tacg.ntmps33
  go_wp2_with fail

  generalize w.alloc (.cells #[.slice none 0 0, .slice none 0 0] 34) = w1 at *
  obtain ⟨mb, hmb⟩ : ∃ mb, mb = w.heap.size := ⟨_, rfl⟩
  rw [← hmb] at HM0 ⊢
  have HMB := hide hmb
  clear hmb
  go_loopw [8] (fun s8 w2 => ∃ (i : Nat) (W : World) (v u : Value) (m : Nat) (S : Nat → Ent) (k : Nat) (Q : Nat → Int), s8 = .int .i64 i ∧ i ≤ 128 ∧ k ≤ i ∧ m ≤ 16 ∧ w2 = W ∧ Hid (MO W (From mb) mb v u m S k Q) ∧ Hid (allN m S = true) ∧ Hid (Below w.heap.size w W)) (fun s8 _ => 128 - (intOf s8).toNat)
  case atStart => exact ⟨0, _, _, _, 0, _, 0, _, rfl, by omega, by omega, by omega, rfl, HM0, hide rfl, HB1⟩
  case round =>
    obtain ⟨i, W, v, u, m, S, k, Q, rfl, hi, hk, hm, hw, hM, hA, hB⟩ := hrel
    obtain rfl := hw.symm
    clear hw HM0 HB1
    by_cases ci : i < 128
    · have ci' : (i : Int) < (128 : Int) := by omega
      obtain ⟨sb, so, rfl, c1, c2, hv⟩ := (HS.out.below hB.out).at ci
      have HST := hide (step_good (From mb) mb 0 (K i) (by omega) (by omega) (X i) (V i) v u m S k Q W hM.out hm hA.out (by omega) hv)
      obtain ⟨ap, al, ac, hva⟩ := hv.slice
      rw [hva] at c2 HST
      clear hva hv
      generalize K i = kk at *
      go_wp2_with fail
      refine HST.out.mono ?_
      rintro e w3 ⟨rfl, v', u', m', S', k', Q', hM', hm', hA', hk1, hk2, _, hKZ⟩
      have HB3 : Hid (Below w.heap.size w w3) := hide (by rw [HMB.out] at hKZ; exact hB.out.trans (hKZ.under hB.out.size))
      have HM3 := hide hM'
      have HA3 := hide hA'
      clear hM' hA' hKZ HST hM hA hB c1 c2
      go_wp2_with fail
      go_roundw
      case rel => exact ⟨i + 1, _, _, _, m', S', k', Q', by go_num, by omega, by omega, by omega, rfl, HM3, HA3, HB3⟩
      case measure => simp [intOf] <;> omega
    · have ci' : ¬ (i : Int) < (128 : Int) := by omega
      have hck := check_mo hM.out (by omega)
      rw [show (decide (m ≤ 16) && allN m S) = true by simp [hm, hA.out]] at hck
      have HCK := hide hck
      clear hck
      go_wp2_with fail
      refine HCK.out.mono ?_
      rintro e W1 ⟨rfl, hb1⟩
      have HM := hide (hM.out.after hb1)
      have HB := hide (hB.out.trans (hb1.mono hB.out.size))
      have HMBS : Hid (w.heap.size ≤ W1.heap.size) := hide HB.out.size
      clear hb1 HCK hM hB
      obtain ⟨vp, vc, hvs⟩ := HM.out.st.row.slice
      obtain rfl := hvs
      have d0 := cell_of HM.out.cell (i := 0) rfl
      have fd0 := frozen_of HM.out.cell 0

      by_cases m0 : m = 0
      · subst m0
        go_wp2_with fail
        go_ret
        exact ⟨rfl, HB.out⟩
      · have t1 : ¬ (m : Int) = 0 := by omega
        obtain ⟨j, hj, hjm⟩ : ∃ j, j = which % m ∧ j < m := ⟨_, rfl, Nat.mod_lt _ (by omega)⟩
        have q1 : (which : Int).tmod (m : Int) = (j : Int) := by rw [Int.tmod_eq_emod_of_nonneg (by omega)]; omega
        have q2 : (j : Int) < (m : Int) := by omega
        clear hj
        obtain ⟨g, rfl, hmc, hcs⟩ := HM.out.rows (by omega)
        have s1 := hcs j hjm
        have HOK : Hid (EntOk W1 (S j)) := hide (fun e he => (HM.out.st.ent j hjm e he).ok)
        have HLE : Hid (∀ e, S j = some e → e.l ≤ 2000) := hide (fun e he => (HM.out.st.ent j hjm e he).2.2.2.1)
        have HNR := hide (allN_at hA.out hjm)
        generalize S j = x at *
        have HN1 := hide (fun d => normal72 x (W1.drewN d) HOK.out)
        rw [HNR.out] at HN1
        have HT1 := hide (fun d => topped_any x (W1.drewN d) HOK.out HLE.out)
        obtain ⟨xp, xl, xc, hxv⟩ := vOf_slice x
        rw [hxv] at s1 HN1 HT1
        clear hxv hcs
        go_wp2_with fail
        go_region
        go_wp2_with fail
        refine (HN1.out 1).mono ?_
        rintro e w' ⟨rfl, hw⟩
        obtain rfl := hw.symm
        clear hw
        go_wp2_with fail
        refine (HT1.out 1).mono ?_
        rintro e W2 ⟨y, rfl, hy, hyn, hyb⟩
        have HY := hide (normal72 (some y) W2 hy)
        rw [hyn] at HY
        have HB2 : Hid (Below w.heap.size w W2) := hide ((below_dN HB.out 1).trans (hyb.mono HMBS.out))
        clear hy hyn hyb
        obtain ⟨yb, yo, yl, yc, yf⟩ := y
        simp only [vOf] at HY ⊢
        go_wp2_with fail
        refine HY.out.mono ?_
        rintro e w' ⟨rfl, hw⟩
        obtain rfl := hw.symm
        clear hw
        go_wp2_with fail
        go_ret
        exact ⟨rfl, HB2.out⟩
end Go.Proofs.Ygctac
