/-
  calc.Step (made by tools/gen_km16.py).
-/
import Derived.Test.YgctacKn17
import Derived.RegionTactic
namespace Go.Proofs.Ygctac
open Go.RowKit
set_option linter.unusedVariables false
set_option linter.unusedSimpArgs false

set_option maxRecDepth 100000 in
set_option maxHeartbeats 4000000 in
theorem step_0 (Z : Nat → Prop) (mb eng : Nat) (he : eng ≤ 3) (xa : Ent) (va : Value) (v u : Value) (n : Nat) (S : Nat → Ent) (k : Nat) (Q : Nat → Int) (W : World) (h : MO W Z mb v u n S k Q) (hn : n ≤ 16) (hA : allN n S = true) (hk : k ≤ 140737488355328)
    (hd : EntV W va xa) (hsm : ∀ i, i < n → ∀ e, S i = some e → e.l < 140737488355328) :
    Calls Tacg.prog 23 #[.int .u8 eng, .pointer (some ⟨mb, 0, none⟩), .agg #[.int .u8 0, va]] W fun r w' => GoodR Z W mb k Q r w' := by
  obtain ⟨ap, al, ac, rfl⟩ := hd.slice
  have t3 : ¬ ((3 : Int) < (eng : Int)) := by omega
  by_cases cr : 16 ≤ n
  · obtain ⟨p, c, rfl⟩ := h.st.row.slice
    have tr : (16 : Int) ≤ (n : Int) := by omega
    have tn : ¬ ((n : Int) < 0) := by omega
    have hB1 : Below W.heap.size W (W.alloc (.cells #[.int .u8 0, (.slice ap al ac)] 36)) := (Below.refl _ _).alloc (Nat.le_refl _) _
    have hM1 := h.after hB1
    have hck := check_mo hM1 (by omega)
    rw [show (decide (n ≤ 16) && allN n S) = true by simp [hn, hA]] at hck
    have HCK := hide hck
    have HM1 := hide hM1
    have HB1 := hide hB1
    have HD1 := hide (hd.below hB1)
    have x0 : (W.alloc (.cells #[.int .u8 0, (.slice ap al ac)] 36)).cell? ⟨W.heap.size, 0, none⟩ = some (.int .u8 0) := cell_of (alloc_last _ _) rfl
    have x1 : (W.alloc (.cells #[.int .u8 0, (.slice ap al ac)] 36)).cell? ⟨W.heap.size, 1, none⟩ = some (.slice ap al ac) := cell_of (alloc_last _ _) rfl
    have HXX := hide (And.intro x0 x1)
    have HAA := hide hA
    have HSM := hide hsm
    clear h hA hd hsm hB1 hM1 hck x1
    go_enter Tacg.func23, Tacg.ntmps23
    go_wp2_with (first | (go_at_call 79; refine (room_0 _).mono ?_; rintro e w' ⟨rfl, hw⟩; obtain rfl := hw.symm; clear hw))
    refine HCK.out.mono ?_
    rintro e w2 ⟨rfl, hb⟩
    have HM2 := hide (HM1.out.after hb)
    have HD2 := hide (HD1.out.below hb)
    have HK2 := hide (KZ.of (Z := Z) (HB1.out.trans (hb.mono HB1.out.size)))
    have y0 : w2.cell? ⟨W.heap.size, 0, none⟩ = some (.int .u8 0) := by rw [hb.cell (World.block_lt_of_cell? _ _ HXX.out.1), HXX.out.1]
    have y1 : w2.cell? ⟨W.heap.size, 1, none⟩ = some (.slice ap al ac) := by rw [hb.cell (World.block_lt_of_cell? _ _ HXX.out.2), HXX.out.2]
    clear hb HCK HM1 HD1 x0 HXX HB1
    have m0 := cell_of HM2.out.cell (i := 0) rfl
    go_wp2_with fail
    refine (put_any Z mb (-2) _ u n S k Q w2 HM2.out hk).mono ?_
    rintro e w3 hP3
    have HP3 := hide (hP3.good hn HAA.out HK2.out)
    obtain rfl := hP3.1
    clear hP3
    go_wp2_with fail
    refine bodyPost_ret (results_none rfl _ _ _) rfl ?_
    exact HP3.out
  · obtain ⟨p, c, rfl⟩ := h.st.row.slice
    have tr : ¬ ((16 : Int) ≤ (n : Int)) := by omega
    have hB1 : Below W.heap.size W (W.alloc (.cells #[.int .u8 0, (.slice ap al ac)] 36)) := (Below.refl _ _).alloc (Nat.le_refl _) _
    have hM1 := h.after hB1
    have hck := check_mo hM1 (by omega)
    rw [show (decide (n ≤ 16) && allN n S) = true by simp [hn, hA]] at hck
    have HCK := hide hck
    have HM1 := hide hM1
    have HB1 := hide hB1
    have HD1 := hide (hd.below hB1)
    have x0 : (W.alloc (.cells #[.int .u8 0, (.slice ap al ac)] 36)).cell? ⟨W.heap.size, 0, none⟩ = some (.int .u8 0) := cell_of (alloc_last _ _) rfl
    have x1 : (W.alloc (.cells #[.int .u8 0, (.slice ap al ac)] 36)).cell? ⟨W.heap.size, 1, none⟩ = some (.slice ap al ac) := cell_of (alloc_last _ _) rfl
    have HXX := hide (And.intro x0 x1)
    have HAA := hide hA
    have HSM := hide hsm
    clear h hA hd hsm hB1 hM1 hck x1
    go_enter Tacg.func23, Tacg.ntmps23
    go_wp2_with (first | (go_at_call 79; refine (room_0 _).mono ?_; rintro e w' ⟨rfl, hw⟩; obtain rfl := hw.symm; clear hw))
    refine HCK.out.mono ?_
    rintro e w2 ⟨rfl, hb⟩
    have HM2 := hide (HM1.out.after hb)
    have HD2 := hide (HD1.out.below hb)
    have HK2 := hide (KZ.of (Z := Z) (HB1.out.trans (hb.mono HB1.out.size)))
    have y0 : w2.cell? ⟨W.heap.size, 0, none⟩ = some (.int .u8 0) := by rw [hb.cell (World.block_lt_of_cell? _ _ HXX.out.1), HXX.out.1]
    have y1 : w2.cell? ⟨W.heap.size, 1, none⟩ = some (.slice ap al ac) := by rw [hb.cell (World.block_lt_of_cell? _ _ HXX.out.2), HXX.out.2]
    clear hb HCK HM1 HD1 x0 HXX HB1
    have m0 := cell_of HM2.out.cell (i := 0) rfl
    go_wp2_with fail
    have HT := hide (calcTake_v w2 HD2.out)
    refine HT.out.mono ?_
    rintro e w3 ⟨x0, rfl, hN, hB⟩
    obtain ⟨x, rfl, hx1, hx2⟩ := natB_ne HM2.out hB hN (by omega)
    have HR := hide (push_mo Z mb x _ u n S k Q w3 (HM2.out.after hB) (by omega) hx2)
    have HKB := hide (HK2.out.trans (KZ.of hB))
    have HX1 := hide hx1
    clear hN hB hx1 hx2
    obtain ⟨xp, xl, xc, hxv⟩ := vOf_slice x
    rw [hxv] at HR ⊢
    clear hxv
    go_wp2_with fail
    refine HR.out.mono ?_
    rintro e w4 ⟨rfl, v', hM3, hK3⟩
    have HM3 := hide hM3
    have HK3 := hide (HKB.out.trans hK3)
    clear hM3 hK3
    go_wp2_with fail
    go_end0
    exact ⟨rfl, v', u, _, _, k, Q, HM3.out, by omega, allN_put HAA.out (by omega) HX1.out, by omega, by omega, fun i hi => rfl, HK3.out⟩
end Go.Proofs.Ygctac
