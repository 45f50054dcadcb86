/-
  THE WALK of law.DDDivNear.
-/
import Derived.Test.YgctacDiv3
import Derived.Test.YgctacMul7
namespace Go.Proofs.Ygctac
open Go.RowKit
open Fp (fv rnd)
set_option linter.unusedVariables false
set_option linter.unusedSimpArgs false
set_option linter.unnecessarySimpa false

theorem put_self13 (a : Act) (t1 t2 t3 t4 t5 t6 t7 t8 t9 t10 t11 t12 t13 : Nat) : ∃ v1 v2 v3 v4 v5 v6 v7 v8 v9 v10 v11 v12 v13, a = (((((((((((((a.put (some t1) v1).put (some t2) v2).put (some t3) v3).put (some t4) v4).put (some t5) v5).put (some t6) v6).put (some t7) v7).put (some t8) v8).put (some t9) v9).put (some t10) v10).put (some t11) v11).put (some t12) v12).put (some t13) v13) := by
  obtain ⟨v1, v2, v3, v4, v5, v6, v7, v8, v9, v10, e⟩ := put_self10 a t1 t2 t3 t4 t5 t6 t7 t8 t9 t10
  obtain ⟨v11, h11⟩ := put_self a t11
  obtain ⟨v12, h12⟩ := put_self a t12
  obtain ⟨v13, h13⟩ := put_self a t13
  exact ⟨v1, v2, v3, v4, v5, v6, v7, v8, v9, v10, v11, v12, v13, by rw [← e, h11, h12, h13]⟩

theorem relativeTo_102 (g m o : Int) (hc : cmpW (absW (g + -m) * 2 ^ 102) (absW o + av slackP * 2 ^ 102) ≤ 0) (w : World) :
    Calls Tacg.prog 63 #[.agg (accC g), .agg (accC m), .agg (accC o), .int .u16 102] w fun r w' => r = .returned (.bool true) ∧ Below w.heap.size w w' :=
  relativeTo_any g m o 102 (show 102 < 65536 by decide) hc w

theorem order_zero {y : Nat} (hy : Fp.Fin y) (h0 : fv y = 0) : (FloatKind.f64.format.order y 0 == some .eq) = true := by
  have f0 : Fp.Fin 0 := by unfold Fp.Fin; decide
  have v0 : fv 0 = 0 := by unfold Fp.fv Fp.rv; simp
  have : FloatKind.f64.format.order y 0 = some .eq := Fp.order_eq hy f0 (by rw [h0, v0])
  rw [this]; rfl

set_option maxRecDepth 100000 in
set_option maxHeartbeats 2000000 in
theorem ddDivNear_any (a b c d : Nat) (ha : a < 18446744073709551616) (hb : b < 18446744073709551616) (hc : c < 18446744073709551616) (hd : d < 18446744073709551616) (w : World) :
    Calls Tacg.prog 11 #[.int .u64 a, .int .u64 b, .int .u64 c, .int .u64 d] w fun r w' => r = .returned (.bool true) ∧ Below w.heap.size w w' := by
  go_enter Tacg.func11, Tacg.ntmps11
  go_wp2_with fail
  refine (twofold_any a b ha hb _).mono ?_
  rintro e W1 ⟨xh, xl, okx, rfl, gx, hW1⟩
  have Gx := hide gx
  clear gx
  go_wp2_with fail
  refine (twofold_any c d hc hd _).mono ?_
  rintro e W2 ⟨yh, yl, oky, rfl, gy, hW2⟩
  have Gy := hide gy
  clear gy
  have kB := hide (((hW1.alloc hW1.size _).trans (hW2.mono (by rw [size_alloc]; have := hW1.size; omega))).alloc (by have h1 := hW1.size; have h2 := hW2.size; rw [size_alloc] at h2; omega) (.cells #[.float .f64 yh, .float .f64 yl] 82))
  have x0 := cell_alloc (.cells #[.float .f64 yh, .float .f64 yl] 82) (below_keeps hW2 (cell_new0 W1 (.float .f64 xh) (.float .f64 xl) 82))
  have x1 := cell_alloc (.cells #[.float .f64 yh, .float .f64 yl] 82) (below_keeps hW2 (cell_new1 W1 (.float .f64 xh) (.float .f64 xl) 82))
  have y0 := cell_new0 W2 (.float .f64 yh) (.float .f64 yl) 82
  have y1 := cell_new1 W2 (.float .f64 yh) (.float .f64 yl) 82
  clear hW1 hW2
  rcases okx with _ | _
  · go_wp2
    go_ret
    exact ⟨rfl, kB.out⟩
  rcases oky with _ | _
  · go_wp2
    go_ret
    exact ⟨rfl, kB.out⟩
  have gx := Gx.out rfl
  have gy := Gy.out rfl
  clear Gx Gy
  by_cases h0 : fv yh = 0
  · have e3 := order_zero gy.fh h0
    clear gx gy h0
    go_wp2
    go_ret
    exact ⟨rfl, kB.out⟩
  have e3 := order_ne gy.fh h0
  obtain ⟨zh, zl, hz, fzh, fzl, zn, zc, zb⟩ := div_words gx gy h0
  have FN := hide (div_fin gx zb)
  obtain ⟨tt, tt1, tt2⟩ := normal_of fzh fzl zn (by have := cap_pos; omega)
  have fz := hide (And.intro fzh fzl)
  have NM := hide (And.intro tt1 tt2)
  have HW := hide hz
  have fx := hide gx
  have fy := hide gy
  clear fzh fzl zn zc zb tt1 tt2 hz gx gy h0
  generalize hT : (fv zh + fv zl) * (fv yh + fv yl) = T at *
  have eT := hide hT
  clear hT
  generalize hV : av xh + av xl = V at *
  have eV := hide hV
  clear hV
  go_wp2_with fail
  generalize W2.alloc (.cells #[.float .f64 yh, .float .f64 yl] 82) = U at *
  generalize W1.heap.size = bx at *
  generalize W2.heap.size = bY at *
  clear W1 W2
  refine (ddDiv_any HW.out _).mono ?_
  rintro e W3 ⟨rfl, hW3⟩
  have KB := hide ((belowT kB.out (hW3.mono (Nat.le_refl _))).alloc (belowT kB.out hW3).size (.cells #[.float .f64 zh, .float .f64 zl] 82))
  have HX := hide (And.intro (cell_alloc (.cells #[.float .f64 zh, .float .f64 zl] 82) (below_keeps hW3 x0)) (cell_alloc (.cells #[.float .f64 zh, .float .f64 zl] 82) (below_keeps hW3 x1)))
  have HY := hide (And.intro (cell_alloc (.cells #[.float .f64 zh, .float .f64 zl] 82) (below_keeps hW3 y0)) (cell_alloc (.cells #[.float .f64 zh, .float .f64 zl] 82) (below_keeps hW3 y1)))
  have HZ := hide (And.intro (cell_new0 W3 (.float .f64 zh) (.float .f64 zl) 82) (cell_new1 W3 (.float .f64 zh) (.float .f64 zl) 82))
  clear hW3 x0 x1 y0 y1 kB HW e3
  go_upto_region 6 with fail
  generalize W3.alloc (.cells #[.float .f64 zh, .float .f64 zl] 82) = wc at *
  generalize W3.heap.size = bz at *
  clear W3 U
  refine wp_region_from (J := fun a0 L a' w' => ∃ v40 v41 v42 v43 v44 v45 v46 v47 v48 v49 v50 v51 v8, a' = ((((((((((((a0.put (some 40) v40).put (some 41) v41).put (some 42) v42).put (some 43) v43).put (some 44) v44).put (some 45) v45).put (some 46) v46).put (some 47) v47).put (some 48) v48).put (some 49) v49).put (some 50) v50).put (some 51) v51).put (some 8) v8 ∧ Below wc.heap.size wc w' ∧ (L 0 = true → v40 = .agg #[.float .f64 zh, .float .f64 zl]) ∧ (L 1 = true → v41 = .bool true) ∧ (L 2 = true → v42 = .bool true) ∧ (L 3 = true → v43 = .agg #[.float .f64 zh, .float .f64 zl]) ∧ (L 4 = true → v44 = .agg #[.float .f64 yh, .float .f64 yl]) ∧ (L 5 = true → v45 = .agg (accC T)) ∧ (L 6 = true → v46 = .agg #[.float .f64 xh, .float .f64 xl]) ∧ (L 7 = true → v47 = .agg (accC V)) ∧ (L 8 = true → v48 = .agg #[.float .f64 xh, .float .f64 xl]) ∧ (L 9 = true → v49 = .agg (accC V)) ∧ (L 10 = true → v50 = .bool true) ∧ (L 11 = true → v51 = .bool true) ∧ (L 12 = true → v8 = .bool true)) (by kernel_rfl) (by kernel_rfl) ?_ ?_ ?_
  · obtain ⟨v1, v2, v3, v4, v5, v6, v7, v8, v9, v10, v11, v12, v13, e⟩ := put_self13 _ 40 41 42 43 44 45 46 47 48 49 50 51 8
    refine ⟨v1, v2, v3, v4, v5, v6, v7, v8, v9, v10, v11, v12, v13, e, (Below.refl _ _).drew, ?_, ?_, ?_, ?_, ?_, ?_, ?_, ?_, ?_, ?_, ?_, ?_, ?_⟩ <;> (intro h; cases h)
  · go_light
    rintro L a' w' i o ⟨v40, v41, v42, v43, v44, v45, v46, v47, v48, v49, v50, v51, v8, ea, hB, l0, l1, l2, l3, l4, l5, l6, l7, l8, l9, l10, l11, l12⟩ ho hL hpre
    have hi : i < 13 := (Array.getElem?_eq_some_iff.1 ho).1
    have cs : i = 0 ∨ i = 1 ∨ i = 2 ∨ i = 3 ∨ i = 4 ∨ i = 5 ∨ i = 6 ∨ i = 7 ∨ i = 8 ∨ i = 9 ∨ i = 10 ∨ i = 11 ∨ i = 12 := by omega
    rcases cs with rfl | rfl | rfl | rfl | rfl | rfl | rfl | rfl | rfl | rfl | rfl | rfl | rfl
    · obtain rfl := Option.some.inj ho
      refine wpOp_by ho rfl (fun K hK => ?_)
      subst ea
      have c0 := below_keeps hB HZ.out.1
      have c1 := below_keeps hB HZ.out.2
      go_simp
      apply hK
      refine ⟨.agg #[.float .f64 zh, .float .f64 zl], v41, v42, v43, v44, v45, v46, v47, v48, v49, v50, v51, v8, ?_, hB, fun _ => rfl, by simpa using l1, by simpa using l2, by simpa using l3, by simpa using l4, by simpa using l5, by simpa using l6, by simpa using l7, by simpa using l8, by simpa using l9, by simpa using l10, by simpa using l11, by simpa using l12⟩
      simp only [Act.put, List.setIfInBounds_toArray, List.set_cons_zero, List.set_cons_succ]
    · obtain rfl := Option.some.inj ho
      have p0 : L 0 = true := hpre ⟨0, .data⟩ (by simp) rfl
      obtain rfl := l0 p0
      refine wpOp_by ho rfl (fun K hK => ?_)
      subst ea
      go_simp
      refine (normalDD_true zh zl tt (fin_lt fz.out.1) fz.out.1 (fin_lt fz.out.2) fz.out.2 NM.out.1 NM.out.2 _).mono ?_
      rintro r x ⟨rfl, hx⟩
      apply hK
      refine ⟨.agg #[.float .f64 zh, .float .f64 zl], .bool true, v42, v43, v44, v45, v46, v47, v48, v49, v50, v51, v8, ?_, belowT hB hx, fun _ => rfl, fun _ => rfl, by simpa using l2, by simpa using l3, by simpa using l4, by simpa using l5, by simpa using l6, by simpa using l7, by simpa using l8, by simpa using l9, by simpa using l10, by simpa using l11, by simpa using l12⟩
      simp only [Act.put, List.setIfInBounds_toArray, List.set_cons_zero, List.set_cons_succ]
    · obtain rfl := Option.some.inj ho
      have p1 : L 1 = true := hpre ⟨1, .data⟩ (by simp) rfl
      obtain rfl := l1 p1
      refine wpOp_by ho rfl (fun K hK => ?_)
      subst ea
      go_simp
      apply hK
      refine ⟨v40, .bool true, .bool true, v43, v44, v45, v46, v47, v48, v49, v50, v51, v8, ?_, hB, by simpa using l0, fun _ => rfl, fun _ => rfl, by simpa using l3, by simpa using l4, by simpa using l5, by simpa using l6, by simpa using l7, by simpa using l8, by simpa using l9, by simpa using l10, by simpa using l11, by simpa using l12⟩
      simp only [Act.put, List.setIfInBounds_toArray, List.set_cons_zero, List.set_cons_succ]
    · obtain rfl := Option.some.inj ho
      have p2 : L 2 = true := hpre ⟨2, .guard⟩ (by simp) rfl
      obtain rfl := l2 p2
      refine wpOp_open ho (wanted_of 2 42 rfl rfl (by subst ea; simp only [Act.put, List.setIfInBounds_toArray, List.set_cons_zero, List.set_cons_succ, List.getElem?_toArray, List.getElem?_cons_succ, List.getElem?_cons_zero])) (fun K hK => ?_)
      subst ea
      have c0 := below_keeps hB HZ.out.1
      have c1 := below_keeps hB HZ.out.2
      go_simp
      apply hK
      refine ⟨v40, v41, .bool true, .agg #[.float .f64 zh, .float .f64 zl], v44, v45, v46, v47, v48, v49, v50, v51, v8, ?_, hB, by simpa using l0, by simpa using l1, fun _ => rfl, fun _ => rfl, by simpa using l4, by simpa using l5, by simpa using l6, by simpa using l7, by simpa using l8, by simpa using l9, by simpa using l10, by simpa using l11, by simpa using l12⟩
      simp only [Act.put, List.setIfInBounds_toArray, List.set_cons_zero, List.set_cons_succ]
    · obtain rfl := Option.some.inj ho
      have p2 : L 2 = true := hpre ⟨2, .guard⟩ (by simp) rfl
      obtain rfl := l2 p2
      refine wpOp_open ho (wanted_of 2 42 rfl rfl (by subst ea; simp only [Act.put, List.setIfInBounds_toArray, List.set_cons_zero, List.set_cons_succ, List.getElem?_toArray, List.getElem?_cons_succ, List.getElem?_cons_zero])) (fun K hK => ?_)
      subst ea
      have c0 := below_keeps hB HY.out.1
      have c1 := below_keeps hB HY.out.2
      go_simp
      apply hK
      refine ⟨v40, v41, .bool true, v43, .agg #[.float .f64 yh, .float .f64 yl], v45, v46, v47, v48, v49, v50, v51, v8, ?_, hB, by simpa using l0, by simpa using l1, fun _ => rfl, by simpa using l3, fun _ => rfl, by simpa using l5, by simpa using l6, by simpa using l7, by simpa using l8, by simpa using l9, by simpa using l10, by simpa using l11, by simpa using l12⟩
      simp only [Act.put, List.setIfInBounds_toArray, List.set_cons_zero, List.set_cons_succ]
    · obtain rfl := Option.some.inj ho
      have p2 : L 2 = true := hpre ⟨2, .guard⟩ (by simp) rfl
      obtain rfl := l2 p2
      have p3 : L 3 = true := hpre ⟨3, .data⟩ (by simp) rfl
      obtain rfl := l3 p3
      have p4 : L 4 = true := hpre ⟨4, .data⟩ (by simp) rfl
      obtain rfl := l4 p4
      refine wpOp_open ho (wanted_of 2 42 rfl rfl (by subst ea; simp only [Act.put, List.setIfInBounds_toArray, List.set_cons_zero, List.set_cons_succ, List.getElem?_toArray, List.getElem?_cons_succ, List.getElem?_cons_zero])) (fun K hK => ?_)
      subst ea
      go_simp
      refine (accDDMul_any zh zl yh yl (fin_lt fz.out.1) fz.out.1 (fin_lt fz.out.2) fz.out.2 (fin_lt fy.out.fh) fy.out.fh (fin_lt fy.out.fl) fy.out.fl _).mono ?_
      rw [eT.out]
      rintro r x ⟨rfl, hx⟩
      apply hK
      refine ⟨v40, v41, .bool true, .agg #[.float .f64 zh, .float .f64 zl], .agg #[.float .f64 yh, .float .f64 yl], .agg (accC T), v46, v47, v48, v49, v50, v51, v8, ?_, belowT hB hx, by simpa using l0, by simpa using l1, fun _ => rfl, fun _ => rfl, fun _ => rfl, fun _ => rfl, by simpa using l6, by simpa using l7, by simpa using l8, by simpa using l9, by simpa using l10, by simpa using l11, by simpa using l12⟩
      simp only [Act.put, List.setIfInBounds_toArray, List.set_cons_zero, List.set_cons_succ]
    · obtain rfl := Option.some.inj ho
      have p2 : L 2 = true := hpre ⟨2, .guard⟩ (by simp) rfl
      obtain rfl := l2 p2
      refine wpOp_open ho (wanted_of 2 42 rfl rfl (by subst ea; simp only [Act.put, List.setIfInBounds_toArray, List.set_cons_zero, List.set_cons_succ, List.getElem?_toArray, List.getElem?_cons_succ, List.getElem?_cons_zero])) (fun K hK => ?_)
      subst ea
      have c0 := below_keeps hB HX.out.1
      have c1 := below_keeps hB HX.out.2
      go_simp
      apply hK
      refine ⟨v40, v41, .bool true, v43, v44, v45, .agg #[.float .f64 xh, .float .f64 xl], v47, v48, v49, v50, v51, v8, ?_, hB, by simpa using l0, by simpa using l1, fun _ => rfl, by simpa using l3, by simpa using l4, by simpa using l5, fun _ => rfl, by simpa using l7, by simpa using l8, by simpa using l9, by simpa using l10, by simpa using l11, by simpa using l12⟩
      simp only [Act.put, List.setIfInBounds_toArray, List.set_cons_zero, List.set_cons_succ]
    · obtain rfl := Option.some.inj ho
      have p2 : L 2 = true := hpre ⟨2, .guard⟩ (by simp) rfl
      obtain rfl := l2 p2
      have p6 : L 6 = true := hpre ⟨6, .data⟩ (by simp) rfl
      obtain rfl := l6 p6
      refine wpOp_open ho (wanted_of 2 42 rfl rfl (by subst ea; simp only [Act.put, List.setIfInBounds_toArray, List.set_cons_zero, List.set_cons_succ, List.getElem?_toArray, List.getElem?_cons_succ, List.getElem?_cons_zero])) (fun K hK => ?_)
      subst ea
      go_simp
      refine (accDD_any xh xl (fin_lt fx.out.fh) fx.out.fh (fin_lt fx.out.fl) fx.out.fl _).mono ?_
      rw [eV.out]
      rintro r x ⟨rfl, hx⟩
      apply hK
      refine ⟨v40, v41, .bool true, v43, v44, v45, .agg #[.float .f64 xh, .float .f64 xl], .agg (accC V), v48, v49, v50, v51, v8, ?_, belowT hB hx, by simpa using l0, by simpa using l1, fun _ => rfl, by simpa using l3, by simpa using l4, by simpa using l5, fun _ => rfl, fun _ => rfl, by simpa using l8, by simpa using l9, by simpa using l10, by simpa using l11, by simpa using l12⟩
      simp only [Act.put, List.setIfInBounds_toArray, List.set_cons_zero, List.set_cons_succ]
    · obtain rfl := Option.some.inj ho
      have p2 : L 2 = true := hpre ⟨2, .guard⟩ (by simp) rfl
      obtain rfl := l2 p2
      refine wpOp_open ho (wanted_of 2 42 rfl rfl (by subst ea; simp only [Act.put, List.setIfInBounds_toArray, List.set_cons_zero, List.set_cons_succ, List.getElem?_toArray, List.getElem?_cons_succ, List.getElem?_cons_zero])) (fun K hK => ?_)
      subst ea
      have c0 := below_keeps hB HX.out.1
      have c1 := below_keeps hB HX.out.2
      go_simp
      apply hK
      refine ⟨v40, v41, .bool true, v43, v44, v45, v46, v47, .agg #[.float .f64 xh, .float .f64 xl], v49, v50, v51, v8, ?_, hB, by simpa using l0, by simpa using l1, fun _ => rfl, by simpa using l3, by simpa using l4, by simpa using l5, by simpa using l6, by simpa using l7, fun _ => rfl, by simpa using l9, by simpa using l10, by simpa using l11, by simpa using l12⟩
      simp only [Act.put, List.setIfInBounds_toArray, List.set_cons_zero, List.set_cons_succ]
    · obtain rfl := Option.some.inj ho
      have p2 : L 2 = true := hpre ⟨2, .guard⟩ (by simp) rfl
      obtain rfl := l2 p2
      have p8 : L 8 = true := hpre ⟨8, .data⟩ (by simp) rfl
      obtain rfl := l8 p8
      refine wpOp_open ho (wanted_of 2 42 rfl rfl (by subst ea; simp only [Act.put, List.setIfInBounds_toArray, List.set_cons_zero, List.set_cons_succ, List.getElem?_toArray, List.getElem?_cons_succ, List.getElem?_cons_zero])) (fun K hK => ?_)
      subst ea
      go_simp
      refine (accDD_any xh xl (fin_lt fx.out.fh) fx.out.fh (fin_lt fx.out.fl) fx.out.fl _).mono ?_
      rw [eV.out]
      rintro r x ⟨rfl, hx⟩
      apply hK
      refine ⟨v40, v41, .bool true, v43, v44, v45, v46, v47, .agg #[.float .f64 xh, .float .f64 xl], .agg (accC V), v50, v51, v8, ?_, belowT hB hx, by simpa using l0, by simpa using l1, fun _ => rfl, by simpa using l3, by simpa using l4, by simpa using l5, by simpa using l6, by simpa using l7, fun _ => rfl, fun _ => rfl, by simpa using l10, by simpa using l11, by simpa using l12⟩
      simp only [Act.put, List.setIfInBounds_toArray, List.set_cons_zero, List.set_cons_succ]
    · obtain rfl := Option.some.inj ho
      have p2 : L 2 = true := hpre ⟨2, .guard⟩ (by simp) rfl
      obtain rfl := l2 p2
      have p5 : L 5 = true := hpre ⟨5, .data⟩ (by simp) rfl
      obtain rfl := l5 p5
      have p7 : L 7 = true := hpre ⟨7, .data⟩ (by simp) rfl
      obtain rfl := l7 p7
      have p9 : L 9 = true := hpre ⟨9, .data⟩ (by simp) rfl
      obtain rfl := l9 p9
      refine wpOp_open ho (wanted_of 2 42 rfl rfl (by subst ea; simp only [Act.put, List.setIfInBounds_toArray, List.set_cons_zero, List.set_cons_succ, List.getElem?_toArray, List.getElem?_cons_succ, List.getElem?_cons_zero])) (fun K hK => ?_)
      subst ea
      go_simp
      refine (relativeTo_102 T V V FN.out _).mono ?_
      rintro r x ⟨rfl, hx⟩
      apply hK
      refine ⟨v40, v41, .bool true, v43, v44, .agg (accC T), v46, .agg (accC V), v48, .agg (accC V), .bool true, v51, v8, ?_, belowT hB hx, by simpa using l0, by simpa using l1, fun _ => rfl, by simpa using l3, by simpa using l4, fun _ => rfl, by simpa using l6, fun _ => rfl, by simpa using l8, fun _ => rfl, fun _ => rfl, by simpa using l11, by simpa using l12⟩
      simp only [Act.put, List.setIfInBounds_toArray, List.set_cons_zero, List.set_cons_succ]
    · obtain rfl := Option.some.inj ho
      have p2 : L 2 = true := hpre ⟨2, .data⟩ (by simp) rfl
      obtain rfl := l2 p2
      have p10 : L 10 = true := hpre ⟨10, .data⟩ (by simp) rfl
      obtain rfl := l10 p10
      refine wpOp_by ho rfl (fun K hK => ?_)
      subst ea
      go_simp
      apply hK
      refine ⟨v40, v41, .bool true, v43, v44, v45, v46, v47, v48, v49, .bool true, .bool true, v8, ?_, hB, by simpa using l0, by simpa using l1, fun _ => rfl, by simpa using l3, by simpa using l4, by simpa using l5, by simpa using l6, by simpa using l7, by simpa using l8, by simpa using l9, fun _ => rfl, fun _ => rfl, by simpa using l12⟩
      simp only [Act.put, List.setIfInBounds_toArray, List.set_cons_zero, List.set_cons_succ]
    · obtain rfl := Option.some.inj ho
      have p11 : L 11 = true := hpre ⟨11, .data⟩ (by simp) rfl
      obtain rfl := l11 p11
      refine wpOp_by ho rfl (fun K hK => ?_)
      subst ea
      go_simp
      apply hK
      refine ⟨v40, v41, v42, v43, v44, v45, v46, v47, v48, v49, v50, .bool true, .bool true, ?_, hB, by simpa using l0, by simpa using l1, by simpa using l2, by simpa using l3, by simpa using l4, by simpa using l5, by simpa using l6, by simpa using l7, by simpa using l8, by simpa using l9, by simpa using l10, fun _ => rfl, fun _ => rfl⟩
      simp only [Act.put, List.setIfInBounds_toArray, List.set_cons_zero, List.set_cons_succ]
  · rintro L a' w' ⟨v40, v41, v42, v43, v44, v45, v46, v47, v48, v49, v50, v51, v8, rfl, hB, l0, l1, l2, l3, l4, l5, l6, l7, l8, l9, l10, l11, l12⟩ hall
    obtain rfl := l12 (hall 12 (by decide))
    simp only [Act.put, List.setIfInBounds_toArray, List.set_cons_zero, List.set_cons_succ]
    go_wp2_with fail
    go_ret
    exact ⟨rfl, KB.out.trans (hB.mono KB.out.size)⟩
end Go.Proofs.Ygctac
