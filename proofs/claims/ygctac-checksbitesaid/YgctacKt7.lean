/-
  calc.Step (made by tools/gen_km16.py).
-/
import Derived.Test.YgctacKn17
import Derived.RegionTactic
namespace Go.Proofs.Ygctac
open Go.RowKit
set_option linter.unusedVariables false
set_option linter.unusedSimpArgs false

set_option maxRecDepth 100000 in
set_option maxHeartbeats 4000000 in
theorem step_7 (Z : Nat → Prop) (mb eng : Nat) (he : eng ≤ 3) (xa : Ent) (va : Value) (v u : Value) (n : Nat) (S : Nat → Ent) (k : Nat) (Q : Nat → Int) (W : World) (h : MO W Z mb v u n S k Q) (hn : n ≤ 16) (hA : allN n S = true) (hk : k ≤ 140737488355328)
    (hd : EntV W va xa) (hsm : ∀ i, i < n → ∀ e, S i = some e → e.l < 140737488355328) :
    Calls Tacg.prog 23 #[.int .u8 eng, .pointer (some ⟨mb, 0, none⟩), .agg #[.int .u8 7, va]] W fun r w' => GoodR Z W mb k Q r w' := by
  obtain ⟨ap, al, ac, rfl⟩ := hd.slice
  have t3 : ¬ ((3 : Int) < (eng : Int)) := by omega
  by_cases cr : n < 2
  · obtain ⟨p, c, rfl⟩ := h.st.row.slice
    have tn : (n : Int) < 2 := by omega
    have hB1 : Below W.heap.size W (W.alloc (.cells #[.int .u8 7, (.slice ap al ac)] 36)) := (Below.refl _ _).alloc (Nat.le_refl _) _
    have hM1 := h.after hB1
    have hck := check_mo hM1 (by omega)
    rw [show (decide (n ≤ 16) && allN n S) = true by simp [hn, hA]] at hck
    have HCK := hide hck
    have HM1 := hide hM1
    have HB1 := hide hB1
    have HD1 := hide (hd.below hB1)
    have x0 : (W.alloc (.cells #[.int .u8 7, (.slice ap al ac)] 36)).cell? ⟨W.heap.size, 0, none⟩ = some (.int .u8 7) := cell_of (alloc_last _ _) rfl
    have x1 : (W.alloc (.cells #[.int .u8 7, (.slice ap al ac)] 36)).cell? ⟨W.heap.size, 1, none⟩ = some (.slice ap al ac) := cell_of (alloc_last _ _) rfl
    have HXX := hide (And.intro x0 x1)
    have HAA := hide hA
    have HSM := hide hsm
    clear h hA hd hsm hB1 hM1 hck x1
    go_enter Tacg.func23, Tacg.ntmps23
    go_wp2_with (first | (go_at_call 79; refine (room_7 _).mono ?_; rintro e w' ⟨rfl, hw⟩; obtain rfl := hw.symm; clear hw))
    refine HCK.out.mono ?_
    rintro e w2 ⟨rfl, hb⟩
    have HM2 := hide (HM1.out.after hb)
    have HD2 := hide (HD1.out.below hb)
    have HK2 := hide (KZ.of (Z := Z) (HB1.out.trans (hb.mono HB1.out.size)))
    have y0 : w2.cell? ⟨W.heap.size, 0, none⟩ = some (.int .u8 7) := by rw [hb.cell (World.block_lt_of_cell? _ _ HXX.out.1), HXX.out.1]
    have y1 : w2.cell? ⟨W.heap.size, 1, none⟩ = some (.slice ap al ac) := by rw [hb.cell (World.block_lt_of_cell? _ _ HXX.out.2), HXX.out.2]
    clear hb HCK HM1 HD1 x0 HXX HB1
    have m0 := cell_of HM2.out.cell (i := 0) rfl
    go_wp2_with fail
    refine (put_any Z mb (-2) _ u n S k Q w2 HM2.out hk).mono ?_
    rintro e w3 hP3
    have HP3 := hide (hP3.good hn HAA.out HK2.out)
    obtain rfl := hP3.1
    clear hP3
    go_wp2_with fail
    refine bodyPost_ret (results_none rfl _ _ _) rfl ?_
    exact HP3.out
  · obtain ⟨g, c, rfl, hnc⟩ := mo_row h (by omega)
    have cnc : (n : Int) ≤ (c : Int) := by omega
    have tn : ¬ ((n : Int) < 2) := by omega
    have hB1 : Below W.heap.size W (W.alloc (.cells #[.int .u8 7, (.slice ap al ac)] 36)) := (Below.refl _ _).alloc (Nat.le_refl _) _
    have hM1 := h.after hB1
    have hck := check_mo hM1 (by omega)
    rw [show (decide (n ≤ 16) && allN n S) = true by simp [hn, hA]] at hck
    have HCK := hide hck
    have HM1 := hide hM1
    have HB1 := hide hB1
    have HD1 := hide (hd.below hB1)
    have x0 : (W.alloc (.cells #[.int .u8 7, (.slice ap al ac)] 36)).cell? ⟨W.heap.size, 0, none⟩ = some (.int .u8 7) := cell_of (alloc_last _ _) rfl
    have x1 : (W.alloc (.cells #[.int .u8 7, (.slice ap al ac)] 36)).cell? ⟨W.heap.size, 1, none⟩ = some (.slice ap al ac) := cell_of (alloc_last _ _) rfl
    have HXX := hide (And.intro x0 x1)
    have HAA := hide hA
    have HSM := hide hsm
    clear h hA hd hsm hB1 hM1 hck x1
    go_enter Tacg.func23, Tacg.ntmps23
    go_wp2_with (first | (go_at_call 79; refine (room_7 _).mono ?_; rintro e w' ⟨rfl, hw⟩; obtain rfl := hw.symm; clear hw))
    refine HCK.out.mono ?_
    rintro e w2 ⟨rfl, hb⟩
    have HM2 := hide (HM1.out.after hb)
    have HD2 := hide (HD1.out.below hb)
    have HK2 := hide (KZ.of (Z := Z) (HB1.out.trans (hb.mono HB1.out.size)))
    have y0 : w2.cell? ⟨W.heap.size, 0, none⟩ = some (.int .u8 7) := by rw [hb.cell (World.block_lt_of_cell? _ _ HXX.out.1), HXX.out.1]
    have y1 : w2.cell? ⟨W.heap.size, 1, none⟩ = some (.slice ap al ac) := by rw [hb.cell (World.block_lt_of_cell? _ _ HXX.out.2), HXX.out.2]
    clear hb HCK HM1 HD1 x0 HXX HB1
    obtain ⟨C, hg, hC, hci⟩ := mo_cells HM2.out
    have m0 := cell_of HM2.out.cell (i := 0) rfl
    obtain ⟨a, rfl⟩ : ∃ a, n = a + 2 := ⟨n - 2, by omega⟩
    have s0 := cell_of hg (hci a (by omega))
    have s1 := cell_of hg (hci (a + 1) (by omega))
    have f0 := frozen_of hg a
    have f1 := frozen_of hg (a + 1)
    have zg := HM2.out.st.zv g rfl
    have HF := hide HM2.out.swap
    have HKF := hide (((HK2.out.set (a := ⟨g, a, none⟩) zg (vOf (S (a + 1)))).set (a := ⟨g, a + 1, none⟩) zg (vOf (S a))).trans (KZ.of (below_dN (Below.refl _ _) 1)))
    obtain ⟨p, l, cl, hpe⟩ := vOf_slice (S a)
    obtain ⟨q, m, cm, hqe⟩ := vOf_slice (S (a + 1))
    rw [hpe] at s0 HF HKF
    rw [hqe] at s1 HF HKF
    have i0 : ((a + 2 : Nat) : Int) - 2 = (a : Int) := by omega
    have i1 : ((a + 2 : Nat) : Int) - 1 = ((a + 1 : Nat) : Int) := by omega
    have j0 : (a : Int) < ((a + 2 : Nat) : Int) := by omega
    have j1 : ((a + 1 : Nat) : Int) < ((a + 2 : Nat) : Int) := by omega
    have ne1 : a ≠ a + 1 := by omega
    have ne2 : a + 1 ≠ a := by omega
    clear hg hC hci hpe hqe zg
    go_wp2_with fail
    go_region
    go_wp2_with fail
    go_end0
    exact ⟨rfl, _, u, a + 2, _, k, Q, HF.out, by omega, allN_swap HAA.out, by omega, by omega, fun i hi => rfl, HKF.out⟩
end Go.Proofs.Ygctac
