/-
  law.biteMachine, hurt 11 (made by tools/gen_gr18.py).
-/
import Derived.Test.YgctacGr17
import Derived.RegionTactic
namespace Go.Proofs.Ygctac
open Go.RowKit
set_option linter.unusedVariables false
set_option linter.unusedSimpArgs false

theorem stkLen_of {w : World} {mb n c : Nat} {p : Option Addr} (h : w.cell? ⟨mb, 0, none⟩ = some (.slice p n c)) : stkLen mb w = n := by
  unfold stkLen
  rw [h]

set_option maxRecDepth 100000 in
set_option maxHeartbeats 4000000 in
theorem biteM_11s (p : Option Addr) (n c which : Nat) (K : Nat → Nat) (V : Nat → Value) (X : Nat → Ent) (hn : n ≤ 128) (hn2 : n ≤ 140737488355328) (hwh : which ≤ 255) (w : World) (hs : ScV w p n c K V X) :
    Calls Tacg.prog 33 #[.slice p n c, .int .u8 11, .int .i64 which] w fun r w' => TrueB w r w' := by
  have t0 : ¬ ((128 : Int) < (n : Int)) := by omega
  have HS := hide hs
  have HB1 : Hid (Below w.heap.size w (w.alloc (.cells #[.slice none 0 0, .slice none 0 0] 34))) := hide ((Below.refl _ _).alloc (Nat.le_refl _) _)
  have HM0 := hide (mo_new w (fun _ => none) (fun _ => 0))
  clear hs hn
  go_enter Tacg.func33, Tacg.ntmps33
  go_wp2_with fail

  generalize w.alloc (.cells #[.slice none 0 0, .slice none 0 0] 34) = w1 at *
  obtain ⟨mb, hmb⟩ : ∃ mb, mb = w.heap.size := ⟨_, rfl⟩
  rw [← hmb] at HM0 ⊢
  have HMB := hide hmb
  clear hmb
  go_loopw [8] (fun s8 w2 => ∃ (i : Nat) (W : World) (v u : Value) (m : Nat) (S : Nat → Ent) (k : Nat) (Q : Nat → Int), s8 = .int .i64 i ∧ i ≤ n ∧ k ≤ i ∧ m ≤ 16 ∧ w2 = W ∧ Hid (MO W (From mb) mb v u m S k Q) ∧ Hid (allN m S = true) ∧ Hid (Below w.heap.size w W)) (fun s8 _ => n - (intOf s8).toNat)
  case atStart => exact ⟨0, _, _, _, 0, _, 0, _, rfl, by omega, by omega, by omega, rfl, HM0, hide rfl, HB1⟩
  case round =>
    obtain ⟨i, W, v, u, m, S, k, Q, rfl, hi, hk, hm, hw, hM, hA, hB⟩ := hrel
    obtain rfl := hw.symm
    clear hw HM0 HB1
    by_cases ci : i < n
    · have ci' : (i : Int) < (n : Int) := by omega
      obtain ⟨sb, so, rfl, c1, c2, hv⟩ := (HS.out.below hB.out).at ci
      have HST := hide (step_good (From mb) mb 0 (K i) (by omega) (by omega) (X i) (V i) v u m S k Q W hM.out hm hA.out (by omega) hv)
      obtain ⟨ap, al, ac, hva⟩ := hv.slice
      rw [hva] at c2 HST
      clear hva hv
      generalize K i = kk at *
      go_wp2_with fail
      refine HST.out.mono ?_
      rintro e w3 ⟨rfl, v', u', m', S', k', Q', hM', hm', hA', hk1, hk2, _, hKZ⟩
      have HB3 : Hid (Below w.heap.size w w3) := hide (by rw [HMB.out] at hKZ; exact hB.out.trans (hKZ.under hB.out.size))
      have HM3 := hide hM'
      have HA3 := hide hA'
      clear hM' hA' hKZ HST hM hA hB c1 c2
      go_wp2_with fail
      go_roundw
      case rel => exact ⟨i + 1, _, _, _, m', S', k', Q', by go_num, by omega, by omega, by omega, rfl, HM3, HA3, HB3⟩
      case measure => simp [intOf] <;> omega
    · have ci' : ¬ (i : Int) < (n : Int) := by omega
      have hck := check_mo hM.out (by omega)
      rw [show (decide (m ≤ 16) && allN m S) = true by simp [hm, hA.out]] at hck
      have HCK := hide hck
      clear hck
      go_wp2_with fail
      refine HCK.out.mono ?_
      rintro e W1 ⟨rfl, hb1⟩
      have HM := hide (hM.out.after hb1)
      have HB := hide (hB.out.trans (hb1.mono hB.out.size))
      have HMBS : Hid (w.heap.size ≤ W1.heap.size) := hide HB.out.size
      clear hb1 HCK hM hB
      obtain ⟨vp, vc, hvs⟩ := HM.out.st.row.slice
      obtain rfl := hvs
      have d0 := cell_of HM.out.cell (i := 0) rfl
      have fd0 := frozen_of HM.out.cell 0

      have HM0 := HM
      have HB0 := HB
      clear HM HB
      go_wp2_with fail
      go_loopw [] (fun w2 => ∃ (W : World) (v : Value) (m' : Nat) (S' : Nat → Ent), m' ≤ 17 ∧ w2 = W ∧ Hid (MO W (From mb) mb v u m' S' k Q) ∧ Hid (Below w.heap.size w W)) (fun w2 => 17 - stkLen mb w2)
      case atStart => exact ⟨_, _, m, S, by omega, rfl, HM0, HB0⟩
      case round =>
        obtain ⟨W2, v2, m', S', hm', hw, HM, HB⟩ := hrel
        obtain rfl := hw.symm
        clear hw HM0 HB0 d0 fd0
        obtain ⟨vp2, vc2, hvs⟩ := HM.out.st.row.slice
        obtain rfl := hvs
        have d0 := cell_of HM.out.cell (i := 0) rfl
        have HSL : Hid (stkLen mb W2 = m') := hide (stkLen_of (p := vp2) (c := vc2) d0)
        by_cases c16 : m' ≤ 16
        · have c16' : (m' : Int) ≤ 16 := by omega
          obtain ⟨p3, c3, w3, hr, e0, ef0, hM3, hK3⟩ := grow_nil (From mb) mb _ u m' S' k Q W2 HM.out (by omega)
          have HR := hide hr
          have HM3 := hide hM3
          have HB3 : Hid (Below w.heap.size w (w3.setCell ⟨mb, 0, none⟩ (.slice p3 (m' + 1) c3))) := hide (by
            refine HB.out.trans (KZ.under (B := w.heap.size) ?_ HB.out.size)
            rw [← HMB.out]
            exact hK3)
          have HSL3 : Hid (stkLen mb (w3.setCell ⟨mb, 0, none⟩ (.slice p3 (m' + 1) c3)) = m' + 1) := hide (stkLen_of (p := p3) (c := c3) (cell_of hM3.cell (i := 0) rfl))
          clear hr hM3 hK3
          go_wp2_with (at_builtin; refine wpList_append_run rfl (.tmp 101) (.tmp 102) 31 rfl rfl rfl HR.out ?_)
          go_roundw
          case rel => exact ⟨_, _, m' + 1, _, by omega, rfl, HM3, HB3⟩
          case measure => rw [HSL3.out, HSL.out]; omega
        · have c16' : ¬ (m' : Int) ≤ 16 := by omega
          have hck := check_mo HM.out (by omega)
          rw [show (decide (m' ≤ 16) && allN m' S') = false by simp [c16]] at hck
          have HCK := hide hck
          clear hck
          go_wp2_with fail
          refine HCK.out.mono ?_
          rintro e W3 ⟨rfl, hb3⟩
          have HB3 := hide (HB.out.trans (hb3.mono HB.out.size))
          clear hb3
          go_wp2_with fail
          go_ret
          exact ⟨rfl, HB3.out⟩

set_option maxRecDepth 100000 in
set_option maxHeartbeats 4000000 in
theorem biteM_11b (p : Option Addr) (n c which : Nat) (K : Nat → Nat) (V : Nat → Value) (X : Nat → Ent) (hn : 128 < n) (hn2 : n ≤ 140737488355328) (hwh : which ≤ 255) (w : World) (hs : ScV w p n c K V X) :
    Calls Tacg.prog 33 #[.slice p n c, .int .u8 11, .int .i64 which] w fun r w' => TrueB w r w' := by
  have t0 : (128 : Int) < (n : Int) := by omega
  have t1 : (128 : Int) ≤ (c : Int) := by have := hs.le; omega
  have HS := hide (hs.cut hn)
  have HB1 : Hid (Below w.heap.size w (w.alloc (.cells #[.slice none 0 0, .slice none 0 0] 34))) := hide ((Below.refl _ _).alloc (Nat.le_refl _) _)
  have HM0 := hide (mo_new w (fun _ => none) (fun _ => 0))
  clear hs hn
  go_enter Tacg.func33, Tacg.ntmps33
  go_wp2_with fail

  generalize w.alloc (.cells #[.slice none 0 0, .slice none 0 0] 34) = w1 at *
  obtain ⟨mb, hmb⟩ : ∃ mb, mb = w.heap.size := ⟨_, rfl⟩
  rw [← hmb] at HM0 ⊢
  have HMB := hide hmb
  clear hmb
  go_loopw [8] (fun s8 w2 => ∃ (i : Nat) (W : World) (v u : Value) (m : Nat) (S : Nat → Ent) (k : Nat) (Q : Nat → Int), s8 = .int .i64 i ∧ i ≤ 128 ∧ k ≤ i ∧ m ≤ 16 ∧ w2 = W ∧ Hid (MO W (From mb) mb v u m S k Q) ∧ Hid (allN m S = true) ∧ Hid (Below w.heap.size w W)) (fun s8 _ => 128 - (intOf s8).toNat)
  case atStart => exact ⟨0, _, _, _, 0, _, 0, _, rfl, by omega, by omega, by omega, rfl, HM0, hide rfl, HB1⟩
  case round =>
    obtain ⟨i, W, v, u, m, S, k, Q, rfl, hi, hk, hm, hw, hM, hA, hB⟩ := hrel
    obtain rfl := hw.symm
    clear hw HM0 HB1
    by_cases ci : i < 128
    · have ci' : (i : Int) < (128 : Int) := by omega
      obtain ⟨sb, so, rfl, c1, c2, hv⟩ := (HS.out.below hB.out).at ci
      have HST := hide (step_good (From mb) mb 0 (K i) (by omega) (by omega) (X i) (V i) v u m S k Q W hM.out hm hA.out (by omega) hv)
      obtain ⟨ap, al, ac, hva⟩ := hv.slice
      rw [hva] at c2 HST
      clear hva hv
      generalize K i = kk at *
      go_wp2_with fail
      refine HST.out.mono ?_
      rintro e w3 ⟨rfl, v', u', m', S', k', Q', hM', hm', hA', hk1, hk2, _, hKZ⟩
      have HB3 : Hid (Below w.heap.size w w3) := hide (by rw [HMB.out] at hKZ; exact hB.out.trans (hKZ.under hB.out.size))
      have HM3 := hide hM'
      have HA3 := hide hA'
      clear hM' hA' hKZ HST hM hA hB c1 c2
      go_wp2_with fail
      go_roundw
      case rel => exact ⟨i + 1, _, _, _, m', S', k', Q', by go_num, by omega, by omega, by omega, rfl, HM3, HA3, HB3⟩
      case measure => simp [intOf] <;> omega
    · have ci' : ¬ (i : Int) < (128 : Int) := by omega
      have hck := check_mo hM.out (by omega)
      rw [show (decide (m ≤ 16) && allN m S) = true by simp [hm, hA.out]] at hck
      have HCK := hide hck
      clear hck
      go_wp2_with fail
      refine HCK.out.mono ?_
      rintro e W1 ⟨rfl, hb1⟩
      have HM := hide (hM.out.after hb1)
      have HB := hide (hB.out.trans (hb1.mono hB.out.size))
      have HMBS : Hid (w.heap.size ≤ W1.heap.size) := hide HB.out.size
      clear hb1 HCK hM hB
      obtain ⟨vp, vc, hvs⟩ := HM.out.st.row.slice
      obtain rfl := hvs
      have d0 := cell_of HM.out.cell (i := 0) rfl
      have fd0 := frozen_of HM.out.cell 0

      have HM0 := HM
      have HB0 := HB
      clear HM HB
      go_wp2_with fail
      go_loopw [] (fun w2 => ∃ (W : World) (v : Value) (m' : Nat) (S' : Nat → Ent), m' ≤ 17 ∧ w2 = W ∧ Hid (MO W (From mb) mb v u m' S' k Q) ∧ Hid (Below w.heap.size w W)) (fun w2 => 17 - stkLen mb w2)
      case atStart => exact ⟨_, _, m, S, by omega, rfl, HM0, HB0⟩
      case round =>
        obtain ⟨W2, v2, m', S', hm', hw, HM, HB⟩ := hrel
        obtain rfl := hw.symm
        clear hw HM0 HB0 d0 fd0
        obtain ⟨vp2, vc2, hvs⟩ := HM.out.st.row.slice
        obtain rfl := hvs
        have d0 := cell_of HM.out.cell (i := 0) rfl
        have HSL : Hid (stkLen mb W2 = m') := hide (stkLen_of (p := vp2) (c := vc2) d0)
        by_cases c16 : m' ≤ 16
        · have c16' : (m' : Int) ≤ 16 := by omega
          obtain ⟨p3, c3, w3, hr, e0, ef0, hM3, hK3⟩ := grow_nil (From mb) mb _ u m' S' k Q W2 HM.out (by omega)
          have HR := hide hr
          have HM3 := hide hM3
          have HB3 : Hid (Below w.heap.size w (w3.setCell ⟨mb, 0, none⟩ (.slice p3 (m' + 1) c3))) := hide (by
            refine HB.out.trans (KZ.under (B := w.heap.size) ?_ HB.out.size)
            rw [← HMB.out]
            exact hK3)
          have HSL3 : Hid (stkLen mb (w3.setCell ⟨mb, 0, none⟩ (.slice p3 (m' + 1) c3)) = m' + 1) := hide (stkLen_of (p := p3) (c := c3) (cell_of hM3.cell (i := 0) rfl))
          clear hr hM3 hK3
          go_wp2_with (at_builtin; refine wpList_append_run rfl (.tmp 101) (.tmp 102) 31 rfl rfl rfl HR.out ?_)
          go_roundw
          case rel => exact ⟨_, _, m' + 1, _, by omega, rfl, HM3, HB3⟩
          case measure => rw [HSL3.out, HSL.out]; omega
        · have c16' : ¬ (m' : Int) ≤ 16 := by omega
          have hck := check_mo HM.out (by omega)
          rw [show (decide (m' ≤ 16) && allN m' S') = false by simp [c16]] at hck
          have HCK := hide hck
          clear hck
          go_wp2_with fail
          refine HCK.out.mono ?_
          rintro e W3 ⟨rfl, hb3⟩
          have HB3 := hide (HB.out.trans (hb3.mono HB.out.size))
          clear hb3
          go_wp2_with fail
          go_ret
          exact ⟨rfl, HB3.out⟩
end Go.Proofs.Ygctac
