/-
  law.bitePartials: the walk.
-/
import Derived.Test.YgctacGr14
namespace Go.Proofs.Ygctac
open Go.RowKit
open Fp (fv)
set_option linter.unusedVariables false
set_option linter.unusedSimpArgs false

/-- A state of partials in memory: its struct in block Sb, its row in block S1. -/
structure PSt (W w : World) (Sb S1 n N : Nat) (f : Nat → Nat) : Prop where
  blk : W.heap[Sb]? = some (.cells #[.slice (some ⟨S1, 0, none⟩) n n, .int .u16 N] 126 (0, 0))
  row : ARow W S1 n 65 (ulX f)
  lt : S1 < Sb
  base : Below w.heap.size w W
  fresh : w.heap.size ≤ Sb
  fresh1 : w.heap.size ≤ S1
theorem PSt.cell0 {W w : World} {Sb S1 n N : Nat} {f : Nat → Nat} (h : PSt W w Sb S1 n N f) : W.cell? ⟨Sb, 0, none⟩ = some (.slice (some ⟨S1, 0, none⟩) n n) := cell_of h.blk rfl
theorem PSt.cell1 {W w : World} {Sb S1 n N : Nat} {f : Nat → Nat} (h : PSt W w Sb S1 n N f) : W.cell? ⟨Sb, 1, none⟩ = some (.int .u16 N) := cell_of h.blk rfl
theorem PSt.frozen {W w : World} {Sb S1 n N : Nat} {f : Nat → Nat} (h : PSt W w Sb S1 n N f) : W.frozen? ⟨Sb, 1, none⟩ = false := frozen_of h.blk 1
theorem PSt.after {W W' w : World} {Sb S1 n N : Nat} {f : Nat → Nat} (h : PSt W w Sb S1 n N f) (hb : Below W.heap.size W W') : PSt W' w Sb S1 n N f :=
  ⟨(hb.block _ (heap_lt h.blk)).trans h.blk, h.row.after hb, h.lt, h.base.trans (hb.mono h.base.size), h.fresh, h.fresh1⟩
theorem PSt.drew {W w : World} {Sb S1 n N : Nat} {f : Nat → Nat} (h : PSt W w Sb S1 n N f) : PSt W.drew w Sb S1 n N f := ⟨h.blk, h.row, h.lt, h.base.drew, h.fresh, h.fresh1⟩
theorem PSt.drewN {W w : World} {Sb S1 n N : Nat} {f : Nat → Nat} (h : PSt W w Sb S1 n N f) (d : Nat) : PSt (W.drewN d) w Sb S1 n N f := ⟨h.blk, h.row, h.lt, below_drewN h.base d, h.fresh, h.fresh1⟩
theorem PSt.setN {W w : World} {Sb S1 n N : Nat} {f : Nat → Nat} (h : PSt W w Sb S1 n N f) (M : Nat) : PSt (W.setCell ⟨Sb, 1, none⟩ (.int .u16 M)) w Sb S1 n M f := by
  refine ⟨heap_setCell_same W Sb 1 _ 126 _ h.blk, ?_, h.lt, h.base.setCell (p := ⟨Sb, 1, none⟩) h.fresh _, h.fresh, h.fresh1⟩
  obtain ⟨C, h1, h2⟩ := h.row
  exact ⟨C, by rw [Below.heap_setCell _ _ _ _ (by have := h.lt; simp; omega)]; exact h1, h2⟩
theorem PSt.setRow {W w : World} {Sb S1 n N : Nat} {f : Nat → Nat} (h : PSt W w Sb S1 n N f) {k : Nat} (hk : k < n) (x : Nat) (hx : x < 18446744073709551616) : PSt (W.setCell ⟨S1, k, none⟩ (.int .u64 x)) w Sb S1 n N (fun j => if j = k then x else f j) := by
  refine ⟨by rw [Below.heap_setCell _ _ _ _ (by have := h.lt; simp; omega)]; exact h.blk, (h.row.set hk _).congr fun j hj => ?_, h.lt, h.base.setCell (p := ⟨S1, k, none⟩) h.fresh1 _, h.fresh, h.fresh1⟩
  by_cases e : j = k <;> simp [ulX, e]
theorem i64_u16 (n : Nat) (h : n ≤ 1024) : IntKind.u16.wrap (n : Int) = (n : Int) := by
  simp [IntKind.wrap, IntKind.bits, IntKind.signed]; omega
set_option maxRecDepth 100000 in
set_option maxHeartbeats 4000000 in
theorem bitePartials_any (p : Option Addr) (N c hurt which : Nat) (F : Nat → Nat) (hN : N ≤ 1024) (h1 : 1 ≤ hurt) (h6 : hurt ≤ 6) (hwh : which ≤ 255) (hF : Adm F N) (w : World) (hs : SlV w p N (flX F)) :
    Calls Tacg.prog 31 #[.slice p N c, .int .u8 hurt, .int .i64 which] w fun r w' => r = .returned (.bool true) ∧ Below w.heap.size w w' := by
  have hu := i64_u16 N hN
  have HF := hide hF
  have HS := hide hs
  clear hF hs
  go_enter Tacg.func31, Tacg.ntmps31
  go_wp2_with fail
  go_loopw [7, 8] (fun s7 s8 w1 => ∃ (p7 : Option Addr) (c7 n : Nat) (f : Nat → Nat) (i : Nat) (W : World), s7 = .slice p7 n c7 ∧ s8 = .int .i64 i ∧ i ≤ N ∧ w1 = W ∧ Hid (PS w.heap.size i W (.slice p7 n c7) n f) ∧ Hid (Below w.heap.size w W)) (fun _ s8 _ => N - (intOf s8).toNat)
  case atStart => exact ⟨none, 0, 0, _, 0, _, rfl, rfl, by omega, rfl, hide (PS.nil _ _), hide (Below.refl _ _)⟩
  case round =>
    obtain ⟨p7, c7, n, f, i, W, rfl, rfl, hi, hw, hP, hB⟩ := hrel
    obtain rfl := hw.symm
    clear hw
    by_cases ci : i < N
    · have c' : (i : Int) < (N : Int) := by omega
      obtain ⟨b2, o2, rfl, hcx⟩ := HS.out.below hB.out i ci
      simp only [flX] at hcx
      obtain ⟨q1, q2, q3⟩ := HF.out i ci
      have HQ := hide (grow_any w.heap.size i (by omega) (.slice p7 n c7) n f (F i) q2 q3 W hB.out.size hP.out)
      clear q1 q2 q3
      go_wp2_with fail
      refine HQ.out.mono ?_
      rintro e w' ⟨v2, n2, f2, rfl, hP2, hB2⟩
      obtain ⟨p8, c8, rfl⟩ := hP2.row.slice
      have HP2 := hide hP2
      have HB2 := hide (hB.out.trans hB2)
      clear hP2 hB2 hP hB HQ
      go_wp2_with fail
      go_roundw
      case rel => exact ⟨p8, c8, n2, f2, i + 1, _, rfl, by go_num, by omega, rfl, HP2, HB2⟩
      case measure => simp [intOf] <;> omega
    · obtain rfl : i = N := by omega
      have hlen := hP.out.len
      have HC := hide (chkP_run hP.out hN)
      have HU := hide (unread_any p7 n c7 f (by omega) W hP.out.row.slv)
      have HFin := hide hP.out.fin
      clear hP
      go_wp2_with fail
      refine HU.out.mono ?_
      rintro e W1 ⟨rfl, hA1, hB1⟩
      have hBB : Below w.heap.size w W1 := hB.out.trans (hB1.mono hB.out.size)
      have HA1 := hide hA1
      have HBB := hide hBB
      have HS1 := hide hB.out.size
      clear hA1 hB1 hBB hB HU
      generalize W.heap.size = S1 at *
      go_wp2_with fail
      have HST : Hid (PSt (W1.alloc (.cells #[.slice (some ⟨S1, 0, none⟩) n n, .int .u16 i] 126)) w W1.heap.size S1 n i f) := by
        have hb : Below W1.heap.size W1 (W1.alloc (.cells #[.slice (some ⟨S1, 0, none⟩) n n, .int .u16 i] 126)) := (Below.refl _ _).alloc (Nat.le_refl _) _
        exact ⟨alloc_last _ _, HA1.out.after hb, HA1.out.lt, HBB.out.trans (hb.mono HBB.out.size), HBB.out.size, HS1.out⟩
      clear HA1 HBB
      generalize W1.heap.size = Sb at *
      generalize W1.alloc (.cells #[.slice (some ⟨S1, 0, none⟩) n n, .int .u16 i] 126) = W2 at *
      refine (checkP_any S1 n i f (by omega) (by omega) (fun j hj => (HFin.out j hj).1) _ HST.out.row).mono ?_
      rintro e W3 ⟨rfl, hB3⟩
      rw [HC.out.1]
      have HT := hide (HST.out.after hB3)
      clear hB3 HST
      have d0 := HT.out.cell0
      have d1 := HT.out.cell1
      have f1 := HT.out.frozen
      have hwf : ∀ j, j < n → f j < 18446744073709551616 := fun j hj => (HFin.out j hj).1
      have HW := hide hwf
      clear hwf
      rcases (show hurt = 1 ∨ hurt = 2 ∨ hurt = 3 ∨ hurt = 4 ∨ hurt = 5 ∨ hurt = 6 by omega) with rfl | rfl | rfl | rfl | rfl | rfl
      · have HZ := hide (HT.out.setN 1025)
        have HN : Hid (chkP f n 1025 = false) := by unfold Hid chkP; rw [decide_eq_false (p := 1025 ≤ 1024) (by decide)]; rfl
        have HV := HW
        go_wp2_with fail
        refine (checkP_any S1 n 1025 f (by omega) (by omega) HV.out _ HZ.out.row).mono ?_
        rintro e W5 ⟨rfl, hB5⟩
        rw [HN.out]
        have HE := hide (HZ.out.base.trans (hB5.mono HZ.out.base.size))
        clear hB5
        go_wp2_with fail
        go_ret
        exact ⟨rfl, HE.out⟩
      · by_cases n0 : n = 0
        · subst n0
          go_wp2_with fail
          go_ret
          exact ⟨rfl, HT.out.base⟩
        · have t0 : ¬ (n : Int) = 0 := by omega
          obtain ⟨k, hk, hkn⟩ : ∃ k, k = which % n ∧ k < n := ⟨_, rfl, Nat.mod_lt _ (by omega)⟩
          have q1 : (which : Int).tmod (n : Int) = (k : Int) := by rw [Int.tmod_eq_emod_of_nonneg (by omega)]; omega
          have q2 : (k : Int) < (n : Int) := by omega
          clear hk
          have hck := HT.out.row.cell hkn
          simp only [ulX] at hck
          have hfk := HT.out.row.frozen k
          have HZ : Hid (PSt (W3.setCell ⟨S1, k, none⟩ (.int .u64 9218868437227405312)).drew w Sb S1 n i (fun j => if j = k then 9218868437227405312 else f j)) := (HT.out.setRow hkn 9218868437227405312 (by decide)).drew
          have HN : Hid (chkP (fun j => if j = k then 9218868437227405312 else f j) n i = false) := chkP_bad (apart_bad hkn (by simp only [if_true]; exact sCl_inf))
          have HV : Hid (∀ j, j < n → (if j = k then 9218868437227405312 else f j) < 18446744073709551616) := fun j hj => by
            split
            · decide
            · exact HW.out j hj
          go_wp2_with fail
          go_region
          have e0 := HZ.out.cell0
          have e1 := HZ.out.cell1
          clear d0 d1 f1 hck hfk HT
          generalize (W3.setCell ⟨S1, k, none⟩ (.int .u64 9218868437227405312)).drew = W4 at *
          go_wp2_with fail
          refine (checkP_any S1 n i _ (by omega) (by omega) HV.out _ HZ.out.row).mono ?_
          rintro e W5 ⟨rfl, hB5⟩
          rw [HN.out]
          have HE := hide (HZ.out.base.trans (hB5.mono HZ.out.base.size))
          clear hB5
          go_wp2_with fail
          go_ret
          exact ⟨rfl, HE.out⟩
      · by_cases n0 : n = 0
        · subst n0
          go_wp2_with fail
          go_ret
          exact ⟨rfl, HT.out.base⟩
        · have t0 : ¬ (n : Int) = 0 := by omega
          obtain ⟨k, hk, hkn⟩ : ∃ k, k = which % n ∧ k < n := ⟨_, rfl, Nat.mod_lt _ (by omega)⟩
          have q1 : (which : Int).tmod (n : Int) = (k : Int) := by rw [Int.tmod_eq_emod_of_nonneg (by omega)]; omega
          have q2 : (k : Int) < (n : Int) := by omega
          clear hk
          have hck := HT.out.row.cell hkn
          simp only [ulX] at hck
          have hfk := HT.out.row.frozen k
          have HZ : Hid (PSt (W3.setCell ⟨S1, k, none⟩ (.int .u64 0)).drew w Sb S1 n i (fun j => if j = k then 0 else f j)) := (HT.out.setRow hkn 0 (by decide)).drew
          have HN : Hid (chkP (fun j => if j = k then 0 else f j) n i = false) := chkP_bad (apart_bad hkn (by simp only [if_true]; exact sCl_zero))
          have HV : Hid (∀ j, j < n → (if j = k then 0 else f j) < 18446744073709551616) := fun j hj => by
            split
            · decide
            · exact HW.out j hj
          go_wp2_with fail
          go_region
          have e0 := HZ.out.cell0
          have e1 := HZ.out.cell1
          clear d0 d1 f1 hck hfk HT
          generalize (W3.setCell ⟨S1, k, none⟩ (.int .u64 0)).drew = W4 at *
          go_wp2_with fail
          refine (checkP_any S1 n i _ (by omega) (by omega) HV.out _ HZ.out.row).mono ?_
          rintro e W5 ⟨rfl, hB5⟩
          rw [HN.out]
          have HE := hide (HZ.out.base.trans (hB5.mono HZ.out.base.size))
          clear hB5
          go_wp2_with fail
          go_ret
          exact ⟨rfl, HE.out⟩
      · by_cases n0 : n < 2
        · have t0 : (n : Int) < 2 := by omega
          by_cases n1 : n = 0
          · subst n1
            go_wp2_with fail
            go_ret
            exact ⟨rfl, HT.out.base⟩
          · have t1 : ¬ (n : Int) = 0 := by omega
            go_wp2_with fail
            go_ret
            exact ⟨rfl, HT.out.base⟩
        · have t0 : ¬ (n : Int) < 2 := by omega
          have t1 : ¬ (n : Int) = 0 := by omega
          have t2 : ¬ (n : Int) - 1 = 0 := by omega
          obtain ⟨k, hk, hkn⟩ : ∃ k, k = which % (n - 1) ∧ k + 1 < n := ⟨_, rfl, by have := Nat.mod_lt which (show 0 < n - 1 by omega); omega⟩
          have q1 : (which : Int).tmod ((n : Int) - 1) = (k : Int) := by
            rw [show (n : Int) - 1 = ((n - 1 : Nat) : Int) by omega, Int.tmod_eq_emod_of_nonneg (by omega)]
            omega
          have q2 : (k : Int) < (n : Int) := by omega
          have q3 : (k : Int) + 1 < (n : Int) := by omega
          clear hk
          have hck := HT.out.row.cell (show k < n by omega)
          have hck2 := HT.out.row.cell hkn
          simp only [ulX] at hck hck2
          have hfk := HT.out.row.frozen k
          have hfk2 := HT.out.row.frozen (k + 1)
          have HZ := hide (((HT.out.setRow (show k < n by omega) (f (k + 1)) (HW.out _ hkn)).setRow hkn (f k) (HW.out _ (by omega))).drew)
          have HN : Hid (chkP (fun j => if j = k + 1 then f k else if j = k then f (k + 1) else f j) n i = false) := chkP_bad (apart_swap hkn HW.out HC.out.2 (by simp) (by simp))
          have HV : Hid (∀ j, j < n → (if j = k + 1 then f k else if j = k then f (k + 1) else f j) < 18446744073709551616) := fun j hj => by
            split
            · exact HW.out k (by omega)
            · split
              · exact HW.out _ hkn
              · exact HW.out j hj
          go_wp2_with fail
          · exfalso
            rename_i h
            rcases h with h | h
            · have := eq_of_beq h
              omega
            · omega
          have ne1 : Sb ≠ S1 := by have := HT.out.lt; omega
          have ne2 : S1 ≠ Sb := by have := HT.out.lt; omega
          have ne3 : k ≠ k + 1 := by omega
          have ne4 : k + 1 ≠ k := by omega
          go_region
          have e0 := HZ.out.cell0
          have e1 := HZ.out.cell1
          clear d0 d1 f1 hck hck2 hfk hfk2 HT
          generalize ((W3.setCell ⟨S1, k, none⟩ (.int .u64 (f (k + 1)))).setCell ⟨S1, k + 1, none⟩ (.int .u64 (f k))).drew = W4 at *
          go_wp2_with fail
          refine (checkP_any S1 n i _ (by omega) (by omega) HV.out _ HZ.out.row).mono ?_
          rintro e W5 ⟨rfl, hB5⟩
          rw [HN.out]
          have HE := hide (HZ.out.base.trans (hB5.mono HZ.out.base.size))
          clear hB5
          go_wp2_with fail
          go_ret
          exact ⟨rfl, HE.out⟩
      · by_cases n0 : n = 0
        · subst n0
          go_wp2_with fail
          go_ret
          exact ⟨rfl, HT.out.base⟩
        · have t0 : ¬ (n : Int) = 0 := by omega
          obtain ⟨k, hk⟩ : ∃ k, k + 1 = n := ⟨n - 1, by omega⟩
          have q1 : (n : Int) - 1 = (k : Int) := by omega
          have q2 : (k : Int) < (n : Int) := by omega
          have hkn : k < n := by omega
          have hck := HT.out.row.cell hkn
          simp only [ulX] at hck
          have hfk := HT.out.row.frozen k
          have HN : Hid (chkP (fun j => if j = k then 9200854038717923328 else f j) n i = false) := chkP_top (by omega) hN (by simp only [show n - 1 = k by omega, if_true])
          have HV : Hid (∀ j, j < n → (if j = k then 9200854038717923328 else f j) < 18446744073709551616) := fun j hj => by
            split
            · decide
            · exact HW.out j hj
          have HK := hide hk
          clear hk
          go_wp2_with fail
          refine wp_region_mid 6 (by kernel_rfl) (by decide) (by kernel_rfl) (by kernel_rfl) (by kernel_rfl) (by kernel_rfl) ⟨by kernel_rfl, by kernel_rfl⟩ ?_
          simp only [List.take_succ_cons, List.take_zero, List.drop_succ_cons, List.drop_zero, List.drop_nil]
          repeat (go_big_quiet_step (first | (go_at_call 69; exact Calls.quiet_of_same (b64_any _ _)) | fail))
          refine wpQuiet_nil ?_
          rintro w' ⟨nq, rfl⟩
          refine wpOp_by rfl rfl (fun K hK => ?_)
          go_simp
          apply hK
          refine ⟨fun w' => w' = _, rfl, wpQuiet_nil ?_⟩
          rintro w' rfl
          have HZ : Hid (PSt ((W3.drewN nq).setCell ⟨S1, k, none⟩ (.int .u64 9200854038717923328)) w Sb S1 n i (fun j => if j = k then 9200854038717923328 else f j)) := (HT.out.drewN nq).setRow hkn 9200854038717923328 (by decide)
          have e0 := HZ.out.cell0
          have e1 := HZ.out.cell1
          clear d0 d1 f1 hck hfk HT hK
          generalize (W3.drewN nq).setCell ⟨S1, k, none⟩ (.int .u64 9200854038717923328) = W4 at *
          go_wp2_with fail
          refine (checkP_any S1 n i _ (by omega) (by omega) HV.out _ HZ.out.row).mono ?_
          rintro e W5 ⟨rfl, hB5⟩
          rw [HN.out]
          have HE := hide (HZ.out.base.trans (hB5.mono HZ.out.base.size))
          clear hB5
          go_wp2_with fail
          go_ret
          exact ⟨rfl, HE.out⟩
      · by_cases n0 : n = 0
        · subst n0
          go_wp2_with fail
          go_ret
          exact ⟨rfl, HT.out.base⟩
        · have t0 : ¬ (n : Int) = 0 := by omega
          have HZ := hide (HT.out.setN 0)
          have HN : Hid (chkP f n 0 = false) := chkP_none (by omega) HW.out
          have HV := HW
          go_wp2_with fail
          refine (checkP_any S1 n 0 f (by omega) (by omega) HV.out _ HZ.out.row).mono ?_
          rintro e W5 ⟨rfl, hB5⟩
          rw [HN.out]
          have HE := hide (HZ.out.base.trans (hB5.mono HZ.out.base.size))
          clear hB5
          go_wp2_with fail
          go_ret
          exact ⟨rfl, HE.out⟩
end Go.Proofs.Ygctac
