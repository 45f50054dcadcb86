/-
  calc.Step (made by tools/gen_km16.py).
-/
import Derived.Test.YgctacKn17
import Derived.RegionTactic
namespace Go.Proofs.Ygctac
open Go.RowKit
set_option linter.unusedVariables false
set_option linter.unusedSimpArgs false

set_option maxRecDepth 100000 in
set_option maxHeartbeats 4000000 in
theorem step_1 (Z : Nat → Prop) (mb eng : Nat) (he : eng ≤ 3) (xa : Ent) (va : Value) (v u : Value) (n : Nat) (S : Nat → Ent) (k : Nat) (Q : Nat → Int) (W : World) (h : MO W Z mb v u n S k Q) (hn : n ≤ 16) (hA : allN n S = true) (hk : k ≤ 140737488355328)
    (hd : EntV W va xa) (hsm : ∀ i, i < n → ∀ e, S i = some e → e.l < 140737488355328) :
    Calls Tacg.prog 23 #[.int .u8 eng, .pointer (some ⟨mb, 0, none⟩), .agg #[.int .u8 1, va]] W fun r w' => GoodR Z W mb k Q r w' := by
  obtain ⟨ap, al, ac, rfl⟩ := hd.slice
  have t3 : ¬ ((3 : Int) < (eng : Int)) := by omega
  by_cases cr : n < 2
  · obtain ⟨p, c, rfl⟩ := h.st.row.slice
    have tn : (n : Int) < 2 := by omega
    have hB1 : Below W.heap.size W (W.alloc (.cells #[.int .u8 1, (.slice ap al ac)] 36)) := (Below.refl _ _).alloc (Nat.le_refl _) _
    have hM1 := h.after hB1
    have hck := check_mo hM1 (by omega)
    rw [show (decide (n ≤ 16) && allN n S) = true by simp [hn, hA]] at hck
    have HCK := hide hck
    have HM1 := hide hM1
    have HB1 := hide hB1
    have HD1 := hide (hd.below hB1)
    have x0 : (W.alloc (.cells #[.int .u8 1, (.slice ap al ac)] 36)).cell? ⟨W.heap.size, 0, none⟩ = some (.int .u8 1) := cell_of (alloc_last _ _) rfl
    have x1 : (W.alloc (.cells #[.int .u8 1, (.slice ap al ac)] 36)).cell? ⟨W.heap.size, 1, none⟩ = some (.slice ap al ac) := cell_of (alloc_last _ _) rfl
    have HXX := hide (And.intro x0 x1)
    have HAA := hide hA
    have HSM := hide hsm
    clear h hA hd hsm hB1 hM1 hck x1
    go_enter Tacg.func23, Tacg.ntmps23
    go_wp2_with (first | (go_at_call 79; refine (room_1 _).mono ?_; rintro e w' ⟨rfl, hw⟩; obtain rfl := hw.symm; clear hw))
    refine HCK.out.mono ?_
    rintro e w2 ⟨rfl, hb⟩
    have HM2 := hide (HM1.out.after hb)
    have HD2 := hide (HD1.out.below hb)
    have HK2 := hide (KZ.of (Z := Z) (HB1.out.trans (hb.mono HB1.out.size)))
    have y0 : w2.cell? ⟨W.heap.size, 0, none⟩ = some (.int .u8 1) := by rw [hb.cell (World.block_lt_of_cell? _ _ HXX.out.1), HXX.out.1]
    have y1 : w2.cell? ⟨W.heap.size, 1, none⟩ = some (.slice ap al ac) := by rw [hb.cell (World.block_lt_of_cell? _ _ HXX.out.2), HXX.out.2]
    clear hb HCK HM1 HD1 x0 HXX HB1
    have m0 := cell_of HM2.out.cell (i := 0) rfl
    go_wp2_with fail
    refine (put_any Z mb (-2) _ u n S k Q w2 HM2.out hk).mono ?_
    rintro e w3 hP3
    have HP3 := hide (hP3.good hn HAA.out HK2.out)
    obtain rfl := hP3.1
    clear hP3
    go_wp2_with fail
    refine bodyPost_ret (results_none rfl _ _ _) rfl ?_
    exact HP3.out
  · obtain ⟨g, c, rfl, hnc⟩ := mo_row h (by omega)
    have cnc : (n : Int) ≤ (c : Int) := by omega
    have tn : ¬ ((n : Int) < 2) := by omega
    have hB1 : Below W.heap.size W (W.alloc (.cells #[.int .u8 1, (.slice ap al ac)] 36)) := (Below.refl _ _).alloc (Nat.le_refl _) _
    have hM1 := h.after hB1
    have hck := check_mo hM1 (by omega)
    rw [show (decide (n ≤ 16) && allN n S) = true by simp [hn, hA]] at hck
    have HCK := hide hck
    have HM1 := hide hM1
    have HB1 := hide hB1
    have HD1 := hide (hd.below hB1)
    have x0 : (W.alloc (.cells #[.int .u8 1, (.slice ap al ac)] 36)).cell? ⟨W.heap.size, 0, none⟩ = some (.int .u8 1) := cell_of (alloc_last _ _) rfl
    have x1 : (W.alloc (.cells #[.int .u8 1, (.slice ap al ac)] 36)).cell? ⟨W.heap.size, 1, none⟩ = some (.slice ap al ac) := cell_of (alloc_last _ _) rfl
    have HXX := hide (And.intro x0 x1)
    have HAA := hide hA
    have HSM := hide hsm
    clear h hA hd hsm hB1 hM1 hck x1
    go_enter Tacg.func23, Tacg.ntmps23
    go_wp2_with (first | (go_at_call 79; refine (room_1 _).mono ?_; rintro e w' ⟨rfl, hw⟩; obtain rfl := hw.symm; clear hw))
    refine HCK.out.mono ?_
    rintro e w2 ⟨rfl, hb⟩
    have HM2 := hide (HM1.out.after hb)
    have HD2 := hide (HD1.out.below hb)
    have HK2 := hide (KZ.of (Z := Z) (HB1.out.trans (hb.mono HB1.out.size)))
    have y0 : w2.cell? ⟨W.heap.size, 0, none⟩ = some (.int .u8 1) := by rw [hb.cell (World.block_lt_of_cell? _ _ HXX.out.1), HXX.out.1]
    have y1 : w2.cell? ⟨W.heap.size, 1, none⟩ = some (.slice ap al ac) := by rw [hb.cell (World.block_lt_of_cell? _ _ HXX.out.2), HXX.out.2]
    clear hb HCK HM1 HD1 x0 HXX HB1
    obtain ⟨C, hg, hC, hci⟩ := mo_cells HM2.out
    have m0 := cell_of HM2.out.cell (i := 0) rfl
    obtain ⟨a, rfl⟩ : ∃ a, n = a + 2 := ⟨n - 2, by omega⟩
    have s0 := cell_of hg (hci a (by omega))
    have s1 := cell_of hg (hci (a + 1) (by omega))
    obtain ⟨p, l, hpe, hl, hp⟩ := ent_sl (HM2.out.st.ent a (by omega)) (allN_at HAA.out (by omega))
    have hl0 := hl
    replace hl : l ≤ 140737488355328 := by omega
    obtain ⟨q, m, hqe, hm, hq⟩ := ent_sl (HM2.out.st.ent (a + 1) (by omega)) (allN_at HAA.out (by omega))
    replace hm : m ≤ 140737488355328 := by omega
    have hlm : l < 140737488355328 ∧ m < 140737488355328 := ⟨len_lt hpe (HSM.out a (by omega)), len_lt hqe (HSM.out (a + 1) (by omega))⟩
    rw [hpe] at s0
    rw [hqe] at s1
    have HP := hide hp
    have HQ := hide hq
    have i0 : ((a + 2 : Nat) : Int) - 2 = (a : Int) := by omega
    have i1 : ((a + 2 : Nat) : Int) - 1 = ((a + 1 : Nat) : Int) := by omega
    have j0 : (a : Int) < ((a + 2 : Nat) : Int) := by omega
    have j1 : ((a + 1 : Nat) : Int) < ((a + 2 : Nat) : Int) := by omega
    clear hg hC hci hp hq hpe hqe
    go_wp2_with fail
    refine wp_region_mid 18 (by kernel_rfl) (by decide) (by kernel_rfl) (by kernel_rfl) (by kernel_rfl) (by kernel_rfl) ⟨by kernel_rfl, by kernel_rfl⟩ ?_
    simp only [List.take_succ_cons, List.take_zero, List.drop_succ_cons, List.drop_zero, List.drop_nil]
    repeat (go_big_quiet_step (fail))
    refine wpQuiet_nil ?_
    rintro w' ⟨nq, rfl⟩
    refine wpOp_by rfl rfl (fun K hK => ?_)
    go_simp
    refine (multiply_mo Z mb eng 2 he p q l m _ u _ S k Q (w2.drewN nq) (HM2.out.drewN (d := nq)) hn HAA.out hk (by omega) (by omega) hl hm HP.out HQ.out).mono ?_
    rintro e w6 hG
    have HG := hide (good_trans hG (HK2.out.trans (KZ.of (below_dN (Below.refl _ _) nq))))
    obtain rfl := hG.1
    clear hG
    apply hK
    refine ⟨fun w' => w' = _, rfl, wpQuiet_nil ?_⟩
    rintro w' rfl
    go_wp2_with fail
    go_end0
    exact HG.out
end Go.Proofs.Ygctac
