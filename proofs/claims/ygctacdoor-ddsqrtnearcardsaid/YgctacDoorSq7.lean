/-
  THE WALK of law.DDSqrtNear.
-/
import Derived.Test.YgctacDoorSq6
namespace Go.Proofs.YgctacDoor
open Go.RowKit
open Fp (fv rnd)
set_option linter.unusedVariables false
set_option linter.unusedSimpArgs false
set_option linter.unnecessarySimpa false

theorem put_self18 (a : Act) (t1 t2 t3 t4 t5 t6 t7 t8 t9 t10 t11 t12 t13 t14 t15 t16 t17 t18 : Nat) : ∃ v1 v2 v3 v4 v5 v6 v7 v8 v9 v10 v11 v12 v13 v14 v15 v16 v17 v18, a = ((((((((((((((((((a.put (some t1) v1).put (some t2) v2).put (some t3) v3).put (some t4) v4).put (some t5) v5).put (some t6) v6).put (some t7) v7).put (some t8) v8).put (some t9) v9).put (some t10) v10).put (some t11) v11).put (some t12) v12).put (some t13) v13).put (some t14) v14).put (some t15) v15).put (some t16) v16).put (some t17) v17).put (some t18) v18) := by
  obtain ⟨v1, v2, v3, v4, v5, v6, v7, v8, v9, v10, e⟩ := put_self10 a t1 t2 t3 t4 t5 t6 t7 t8 t9 t10
  obtain ⟨v11, v12, v13, v14, v15, v16, v17, v18, e'⟩ := put_self8 a t11 t12 t13 t14 t15 t16 t17 t18
  exact ⟨v1, v2, v3, v4, v5, v6, v7, v8, v9, v10, v11, v12, v13, v14, v15, v16, v17, v18, by rw [← e, ← e']⟩

theorem relativeTo_100 (g m o : Int) (hc : cmpW (absW (g + -m) * 2 ^ 100) (absW o + av slackP * 2 ^ 100) ≤ 0) (w : World) :
    Calls Tacg.prog 8 #[.agg (accC g), .agg (accC m), .agg (accC o), .int .u16 100] w fun r w' => r = .returned (.bool true) ∧ Below w.heap.size w w' :=
  relativeTo_any g m o 100 (show 100 < 65536 by decide) hc w

/-- What Sqrt gives at a number that is not negative. -/
structure Root (xh xl zh zl : Nat) : Prop where
  run : ∀ w : World, w.cell? ⟨1, 0, none⟩ = some (.int .u8 0) → Calls Tacg.prog 5 #[.agg #[.float .f64 xh, .float .f64 xl]] w fun r w' => r = .returned (.agg #[.float .f64 zh, .float .f64 zl]) ∧ Below w.heap.size w w'
  fh : Fp.Fin zh
  fl : Fp.Fin zl
  norm : fv zh = rnd 0 (fv zh + fv zl)
  room : (fv zh + fv zl).natAbs ≤ cap
  nonneg : 0 ≤ fv zh
  near : 2 ^ 100 * ((fv zh + fv zl) * (fv zh + fv zl) - (fv xh + fv xl) * KK).natAbs ≤ ((fv xh + fv xl) * KK).natAbs

theorem root_of {xh xl : Nat} (hx : Good xh xl) (h : 0 ≤ fv xh) : ∃ zh zl, Root xh xl zh zl := by
  by_cases hz : fv xh = 0
  · have f0 : Fp.Fin 0 := by unfold Fp.Fin; decide
    have v0 : fv 0 = 0 := by unfold Fp.fv Fp.rv; simp
    refine ⟨xh, 0, ⟨fun w _ => sqrt_zero xh xl hx.fh.1 ((zero_iff hx.fh.1 hx.fh).2 hz) w, hx.fh, f0, ?_, ?_, h, ?_⟩⟩
    · rw [hz, v0]; exact (Fp.rnd_zero 0).symm
    · rw [hz, v0]; simp
    · rw [hz, v0, good_zero hx hz]; simp
  · obtain ⟨zh, zl, h1, h2, h3, h4, h5, h6, h7⟩ := sqrt_good hx (by omega)
    exact ⟨zh, zl, ⟨h1, h2, h3, h4, h5, h6, h7⟩⟩

set_option maxRecDepth 100000 in
set_option maxHeartbeats 4000000 in
theorem ddSqrtNear_any (a b : Nat) (ha : a < 18446744073709551616) (hb : b < 18446744073709551616) (w : World) (hg : w.cell? ⟨1, 0, none⟩ = some (.int .u8 0)) :
    Calls Tacg.prog 3 #[.int .u64 a, .int .u64 b] w fun r w' => r = .returned (.bool true) ∧ Below w.heap.size w w' := by
  go_enter Tacg.func3, Tacg.ntmps3
  go_wp2_with fail
  refine (twofold_any a b ha hb _).mono ?_
  rintro e W1 ⟨xh, xl, okx, rfl, gx, hW1⟩
  have kB := hide (hW1.alloc hW1.size (.cells #[.float .f64 xh, .float .f64 xl] 25))
  have hg1 := cell_alloc (.cells #[.float .f64 xh, .float .f64 xl] 25) (below_keeps hW1 hg)
  have x0 := cell_new0 W1 (.float .f64 xh) (.float .f64 xl) 25
  have x1 := cell_new1 W1 (.float .f64 xh) (.float .f64 xl) 25
  have Gx := hide gx
  have Hg := hide hg1
  clear hW1 gx hg hg1
  rcases okx with _ | _
  · go_wp2
    go_ret
    exact ⟨rfl, kB.out⟩
  have gx := Gx.out rfl
  clear Gx
  by_cases hneg : fv xh < 0
  · have e3 := order_lt gx.fh hneg
    have hcl := fin_cl gx.fh (show fv xh ≠ 0 by omega)
    have hsn := sign_neg gx.fh hneg
    have hp := gx.fh.1
    clear gx hneg Hg
    go_wp2_with fail
    refine (sqrt_neg xh xl hp hcl hsn _).mono ?_
    rintro e W3 ⟨n1, n2, rfl, ⟨p1, p2⟩, ⟨p3, p4⟩, hW3⟩
    have KB := hide ((belowT kB.out hW3).alloc (belowT kB.out hW3).size (.cells #[.float .f64 n1, .float .f64 n2] 25))
    have c0 := cell_alloc (.cells #[.float .f64 n1, .float .f64 n2] 25) (below_keeps hW3 x0)
    have z0 := cell_new0 W3 (.float .f64 n1) (.float .f64 n2) 25
    have z1 := cell_new1 W3 (.float .f64 n1) (.float .f64 n2) 25
    clear hW3 x0 x1 kB hcl hsn
    go_wp2_with (first | (go_at_call_of 6 (Value.float .f64 n1); refine (isNaN_any n1 p1 p2 _).mono ?_; rintro e w' ⟨rfl, rfl⟩) | (go_at_call_of 6 (Value.float .f64 n2); refine (isNaN_any n2 p3 p4 _).mono ?_; rintro e w' ⟨rfl, rfl⟩))
    go_ret
    exact ⟨rfl, KB.out⟩
  have e3 := order_nlt gx.fh (show 0 ≤ fv xh by omega)
  obtain ⟨zh, zl, hR⟩ := root_of gx (by omega)
  have FN := hide (sqrt_fin gx hR.near)
  obtain ⟨tt, tt1, tt2⟩ := normal_of hR.fh hR.fl hR.norm (by have := cap_pos; have := hR.room; omega)
  have fz := hide (And.intro hR.fh hR.fl)
  have NM := hide (And.intro tt1 tt2)
  have OG := hide (order_ge hR.fh hR.nonneg)
  have HW := hide hR
  have fx := hide gx
  clear tt1 tt2 hR gx hneg
  generalize hT : (fv zh + fv zl) * (fv zh + fv zl) = T at *
  have eT := hide hT
  clear hT
  generalize hV : av xh + av xl = V at *
  have eV := hide hV
  clear hV
  go_wp2_with fail
  refine (HW.out.run _ Hg.out).mono ?_
  rintro e W3 ⟨rfl, hW3⟩
  have KB := hide ((belowT kB.out hW3).alloc (belowT kB.out hW3).size (.cells #[.float .f64 zh, .float .f64 zl] 25))
  have hx0 := cell_alloc (.cells #[.float .f64 zh, .float .f64 zl] 25) (below_keeps hW3 x0)
  have hx1 := cell_alloc (.cells #[.float .f64 zh, .float .f64 zl] 25) (below_keeps hW3 x1)
  have HX := hide (And.intro hx0 hx1)
  have HZ := hide (And.intro (cell_new0 W3 (.float .f64 zh) (.float .f64 zl) 25) (cell_new1 W3 (.float .f64 zh) (.float .f64 zl) 25))
  clear hW3 x0 x1 kB HW Hg hx1
  go_upto_region 7 with fail
  clear hx0 e3
  generalize W3.alloc (.cells #[.float .f64 zh, .float .f64 zl] 25) = wc at *
  generalize W3.heap.size = bz at *
  generalize W1.heap.size = bx at *
  clear W3 W1
  refine wp_region_from (J := fun a0 L a' w' => ∃ v29 v30 v31 v32 v33 v34 v35 v36 v37 v38 v39 v40 v41 v42 v43 v44 v45 v4, a' = (((((((((((((((((a0.put (some 29) v29).put (some 30) v30).put (some 31) v31).put (some 32) v32).put (some 33) v33).put (some 34) v34).put (some 35) v35).put (some 36) v36).put (some 37) v37).put (some 38) v38).put (some 39) v39).put (some 40) v40).put (some 41) v41).put (some 42) v42).put (some 43) v43).put (some 44) v44).put (some 45) v45).put (some 4) v4 ∧ Below wc.heap.size wc w' ∧ (L 0 = true → v29 = .agg #[.float .f64 zh, .float .f64 zl]) ∧ (L 1 = true → v30 = .bool true) ∧ (L 2 = true → v31 = .bool true) ∧ (L 3 = true → v32 = .pointer (some ⟨bz, 0, none⟩)) ∧ (L 4 = true → v33 = .float .f64 zh) ∧ (L 5 = true → v34 = .bool true) ∧ (L 6 = true → v35 = .bool true) ∧ (L 7 = true → v36 = .bool true) ∧ (L 8 = true → v37 = .agg #[.float .f64 zh, .float .f64 zl]) ∧ (L 9 = true → v38 = .agg #[.float .f64 zh, .float .f64 zl]) ∧ (L 10 = true → v39 = .agg (accC T)) ∧ (L 11 = true → v40 = .agg #[.float .f64 xh, .float .f64 xl]) ∧ (L 12 = true → v41 = .agg (accC V)) ∧ (L 13 = true → v42 = .agg #[.float .f64 xh, .float .f64 xl]) ∧ (L 14 = true → v43 = .agg (accC V)) ∧ (L 15 = true → v44 = .bool true) ∧ (L 16 = true → v45 = .bool true) ∧ (L 17 = true → v4 = .bool true)) (by kernel_rfl) (by kernel_rfl) ?_ ?_ ?_
  · obtain ⟨v1, v2, v3, v4, v5, v6, v7, v8, v9, v10, v11, v12, v13, v14, v15, v16, v17, v18, e⟩ := put_self18 _ 29 30 31 32 33 34 35 36 37 38 39 40 41 42 43 44 45 4
    refine ⟨v1, v2, v3, v4, v5, v6, v7, v8, v9, v10, v11, v12, v13, v14, v15, v16, v17, v18, e, (Below.refl _ _).drew, ?_, ?_, ?_, ?_, ?_, ?_, ?_, ?_, ?_, ?_, ?_, ?_, ?_, ?_, ?_, ?_, ?_, ?_⟩ <;> (intro h; cases h)
  · go_light
    rintro L a' w' i o ⟨v29, v30, v31, v32, v33, v34, v35, v36, v37, v38, v39, v40, v41, v42, v43, v44, v45, v4, ea, hB, l0, l1, l2, l3, l4, l5, l6, l7, l8, l9, l10, l11, l12, l13, l14, l15, l16, l17⟩ ho hL hpre
    have hi : i < 18 := (Array.getElem?_eq_some_iff.1 ho).1
    have cs : i = 0 ∨ i = 1 ∨ i = 2 ∨ i = 3 ∨ i = 4 ∨ i = 5 ∨ i = 6 ∨ i = 7 ∨ i = 8 ∨ i = 9 ∨ i = 10 ∨ i = 11 ∨ i = 12 ∨ i = 13 ∨ i = 14 ∨ i = 15 ∨ i = 16 ∨ i = 17 := by omega
    rcases cs with rfl | rfl | rfl | rfl | rfl | rfl | rfl | rfl | rfl | rfl | rfl | rfl | rfl | rfl | rfl | rfl | rfl | rfl
    · obtain rfl := Option.some.inj ho
      refine wpOp_by ho rfl (fun K hK => ?_)
      subst ea
      have c0 := below_keeps hB HZ.out.1
      have c1 := below_keeps hB HZ.out.2
      go_simp
      apply hK
      refine ⟨.agg #[.float .f64 zh, .float .f64 zl], v30, v31, v32, v33, v34, v35, v36, v37, v38, v39, v40, v41, v42, v43, v44, v45, v4, ?_, hB, fun _ => rfl, by simpa using l1, by simpa using l2, by simpa using l3, by simpa using l4, by simpa using l5, by simpa using l6, by simpa using l7, by simpa using l8, by simpa using l9, by simpa using l10, by simpa using l11, by simpa using l12, by simpa using l13, by simpa using l14, by simpa using l15, by simpa using l16, by simpa using l17⟩
      simp only [Act.put, List.setIfInBounds_toArray, List.set_cons_zero, List.set_cons_succ]
    · obtain rfl := Option.some.inj ho
      have p0 : L 0 = true := hpre ⟨0, .data⟩ (by simp) rfl
      obtain rfl := l0 p0
      refine wpOp_by ho rfl (fun K hK => ?_)
      subst ea
      go_simp
      refine (normalDD_true zh zl tt (fin_lt fz.out.1) fz.out.1 (fin_lt fz.out.2) fz.out.2 NM.out.1 NM.out.2 _).mono ?_
      rintro r x ⟨rfl, hx⟩
      apply hK
      refine ⟨.agg #[.float .f64 zh, .float .f64 zl], .bool true, v31, v32, v33, v34, v35, v36, v37, v38, v39, v40, v41, v42, v43, v44, v45, v4, ?_, belowT hB hx, fun _ => rfl, fun _ => rfl, by simpa using l2, by simpa using l3, by simpa using l4, by simpa using l5, by simpa using l6, by simpa using l7, by simpa using l8, by simpa using l9, by simpa using l10, by simpa using l11, by simpa using l12, by simpa using l13, by simpa using l14, by simpa using l15, by simpa using l16, by simpa using l17⟩
      simp only [Act.put, List.setIfInBounds_toArray, List.set_cons_zero, List.set_cons_succ]
    · obtain rfl := Option.some.inj ho
      have p1 : L 1 = true := hpre ⟨1, .data⟩ (by simp) rfl
      obtain rfl := l1 p1
      refine wpOp_by ho rfl (fun K hK => ?_)
      subst ea
      go_simp
      apply hK
      refine ⟨v29, .bool true, .bool true, v32, v33, v34, v35, v36, v37, v38, v39, v40, v41, v42, v43, v44, v45, v4, ?_, hB, by simpa using l0, fun _ => rfl, fun _ => rfl, by simpa using l3, by simpa using l4, by simpa using l5, by simpa using l6, by simpa using l7, by simpa using l8, by simpa using l9, by simpa using l10, by simpa using l11, by simpa using l12, by simpa using l13, by simpa using l14, by simpa using l15, by simpa using l16, by simpa using l17⟩
      simp only [Act.put, List.setIfInBounds_toArray, List.set_cons_zero, List.set_cons_succ]
    · obtain rfl := Option.some.inj ho
      have p2 : L 2 = true := hpre ⟨2, .guard⟩ (by simp) rfl
      obtain rfl := l2 p2
      refine wpOp_open ho (wanted_of 2 31 rfl rfl (by subst ea; simp only [Act.put, List.setIfInBounds_toArray, List.set_cons_zero, List.set_cons_succ, List.getElem?_toArray, List.getElem?_cons_succ, List.getElem?_cons_zero])) (fun K hK => ?_)
      subst ea
      go_simp
      apply hK
      refine ⟨v29, v30, .bool true, .pointer (some ⟨bz, 0, none⟩), v33, v34, v35, v36, v37, v38, v39, v40, v41, v42, v43, v44, v45, v4, ?_, hB, by simpa using l0, by simpa using l1, fun _ => rfl, fun _ => rfl, by simpa using l4, by simpa using l5, by simpa using l6, by simpa using l7, by simpa using l8, by simpa using l9, by simpa using l10, by simpa using l11, by simpa using l12, by simpa using l13, by simpa using l14, by simpa using l15, by simpa using l16, by simpa using l17⟩
      simp only [Act.put, List.setIfInBounds_toArray, List.set_cons_zero, List.set_cons_succ]
    · obtain rfl := Option.some.inj ho
      have p2 : L 2 = true := hpre ⟨2, .guard⟩ (by simp) rfl
      obtain rfl := l2 p2
      have p3 : L 3 = true := hpre ⟨3, .data⟩ (by simp) rfl
      obtain rfl := l3 p3
      refine wpOp_open ho (wanted_of 2 31 rfl rfl (by subst ea; simp only [Act.put, List.setIfInBounds_toArray, List.set_cons_zero, List.set_cons_succ, List.getElem?_toArray, List.getElem?_cons_succ, List.getElem?_cons_zero])) (fun K hK => ?_)
      subst ea
      have c0 := below_keeps hB HZ.out.1
      have c1 := below_keeps hB HZ.out.2
      go_simp
      apply hK
      refine ⟨v29, v30, .bool true, .pointer (some ⟨bz, 0, none⟩), .float .f64 zh, v34, v35, v36, v37, v38, v39, v40, v41, v42, v43, v44, v45, v4, ?_, hB, by simpa using l0, by simpa using l1, fun _ => rfl, fun _ => rfl, fun _ => rfl, by simpa using l5, by simpa using l6, by simpa using l7, by simpa using l8, by simpa using l9, by simpa using l10, by simpa using l11, by simpa using l12, by simpa using l13, by simpa using l14, by simpa using l15, by simpa using l16, by simpa using l17⟩
      simp only [Act.put, List.setIfInBounds_toArray, List.set_cons_zero, List.set_cons_succ]
    · obtain rfl := Option.some.inj ho
      have p2 : L 2 = true := hpre ⟨2, .guard⟩ (by simp) rfl
      obtain rfl := l2 p2
      have p4 : L 4 = true := hpre ⟨4, .data⟩ (by simp) rfl
      obtain rfl := l4 p4
      refine wpOp_open ho (wanted_of 2 31 rfl rfl (by subst ea; simp only [Act.put, List.setIfInBounds_toArray, List.set_cons_zero, List.set_cons_succ, List.getElem?_toArray, List.getElem?_cons_succ, List.getElem?_cons_zero])) (fun K hK => ?_)
      subst ea
      have e5 := OG.out
      go_simp
      apply hK
      refine ⟨v29, v30, .bool true, v32, .float .f64 zh, .bool true, v35, v36, v37, v38, v39, v40, v41, v42, v43, v44, v45, v4, ?_, hB, by simpa using l0, by simpa using l1, fun _ => rfl, by simpa using l3, fun _ => rfl, fun _ => rfl, by simpa using l6, by simpa using l7, by simpa using l8, by simpa using l9, by simpa using l10, by simpa using l11, by simpa using l12, by simpa using l13, by simpa using l14, by simpa using l15, by simpa using l16, by simpa using l17⟩
      simp only [Act.put, List.setIfInBounds_toArray, List.set_cons_zero, List.set_cons_succ]
    · obtain rfl := Option.some.inj ho
      have p2 : L 2 = true := hpre ⟨2, .data⟩ (by simp) rfl
      obtain rfl := l2 p2
      have p5 : L 5 = true := hpre ⟨5, .data⟩ (by simp) rfl
      obtain rfl := l5 p5
      refine wpOp_by ho rfl (fun K hK => ?_)
      subst ea
      go_simp
      apply hK
      refine ⟨v29, v30, .bool true, v32, v33, .bool true, .bool true, v36, v37, v38, v39, v40, v41, v42, v43, v44, v45, v4, ?_, hB, by simpa using l0, by simpa using l1, fun _ => rfl, by simpa using l3, by simpa using l4, fun _ => rfl, fun _ => rfl, by simpa using l7, by simpa using l8, by simpa using l9, by simpa using l10, by simpa using l11, by simpa using l12, by simpa using l13, by simpa using l14, by simpa using l15, by simpa using l16, by simpa using l17⟩
      simp only [Act.put, List.setIfInBounds_toArray, List.set_cons_zero, List.set_cons_succ]
    · obtain rfl := Option.some.inj ho
      have p6 : L 6 = true := hpre ⟨6, .data⟩ (by simp) rfl
      obtain rfl := l6 p6
      refine wpOp_by ho rfl (fun K hK => ?_)
      subst ea
      go_simp
      apply hK
      refine ⟨v29, v30, v31, v32, v33, v34, .bool true, .bool true, v37, v38, v39, v40, v41, v42, v43, v44, v45, v4, ?_, hB, by simpa using l0, by simpa using l1, by simpa using l2, by simpa using l3, by simpa using l4, by simpa using l5, fun _ => rfl, fun _ => rfl, by simpa using l8, by simpa using l9, by simpa using l10, by simpa using l11, by simpa using l12, by simpa using l13, by simpa using l14, by simpa using l15, by simpa using l16, by simpa using l17⟩
      simp only [Act.put, List.setIfInBounds_toArray, List.set_cons_zero, List.set_cons_succ]
    · obtain rfl := Option.some.inj ho
      have p7 : L 7 = true := hpre ⟨7, .guard⟩ (by simp) rfl
      obtain rfl := l7 p7
      refine wpOp_open ho (wanted_of 7 36 rfl rfl (by subst ea; simp only [Act.put, List.setIfInBounds_toArray, List.set_cons_zero, List.set_cons_succ, List.getElem?_toArray, List.getElem?_cons_succ, List.getElem?_cons_zero])) (fun K hK => ?_)
      subst ea
      have c0 := below_keeps hB HZ.out.1
      have c1 := below_keeps hB HZ.out.2
      go_simp
      apply hK
      refine ⟨v29, v30, v31, v32, v33, v34, v35, .bool true, .agg #[.float .f64 zh, .float .f64 zl], v38, v39, v40, v41, v42, v43, v44, v45, v4, ?_, hB, by simpa using l0, by simpa using l1, by simpa using l2, by simpa using l3, by simpa using l4, by simpa using l5, by simpa using l6, fun _ => rfl, fun _ => rfl, by simpa using l9, by simpa using l10, by simpa using l11, by simpa using l12, by simpa using l13, by simpa using l14, by simpa using l15, by simpa using l16, by simpa using l17⟩
      simp only [Act.put, List.setIfInBounds_toArray, List.set_cons_zero, List.set_cons_succ]
    · obtain rfl := Option.some.inj ho
      have p7 : L 7 = true := hpre ⟨7, .guard⟩ (by simp) rfl
      obtain rfl := l7 p7
      refine wpOp_open ho (wanted_of 7 36 rfl rfl (by subst ea; simp only [Act.put, List.setIfInBounds_toArray, List.set_cons_zero, List.set_cons_succ, List.getElem?_toArray, List.getElem?_cons_succ, List.getElem?_cons_zero])) (fun K hK => ?_)
      subst ea
      have c0 := below_keeps hB HZ.out.1
      have c1 := below_keeps hB HZ.out.2
      go_simp
      apply hK
      refine ⟨v29, v30, v31, v32, v33, v34, v35, .bool true, v37, .agg #[.float .f64 zh, .float .f64 zl], v39, v40, v41, v42, v43, v44, v45, v4, ?_, hB, by simpa using l0, by simpa using l1, by simpa using l2, by simpa using l3, by simpa using l4, by simpa using l5, by simpa using l6, fun _ => rfl, by simpa using l8, fun _ => rfl, by simpa using l10, by simpa using l11, by simpa using l12, by simpa using l13, by simpa using l14, by simpa using l15, by simpa using l16, by simpa using l17⟩
      simp only [Act.put, List.setIfInBounds_toArray, List.set_cons_zero, List.set_cons_succ]
    · obtain rfl := Option.some.inj ho
      have p7 : L 7 = true := hpre ⟨7, .guard⟩ (by simp) rfl
      obtain rfl := l7 p7
      have p8 : L 8 = true := hpre ⟨8, .data⟩ (by simp) rfl
      obtain rfl := l8 p8
      have p9 : L 9 = true := hpre ⟨9, .data⟩ (by simp) rfl
      obtain rfl := l9 p9
      refine wpOp_open ho (wanted_of 7 36 rfl rfl (by subst ea; simp only [Act.put, List.setIfInBounds_toArray, List.set_cons_zero, List.set_cons_succ, List.getElem?_toArray, List.getElem?_cons_succ, List.getElem?_cons_zero])) (fun K hK => ?_)
      subst ea
      go_simp
      refine (accDDMul_any zh zl zh zl (fin_lt fz.out.1) fz.out.1 (fin_lt fz.out.2) fz.out.2 (fin_lt fz.out.1) fz.out.1 (fin_lt fz.out.2) fz.out.2 _).mono ?_
      rw [eT.out]
      rintro r x ⟨rfl, hx⟩
      apply hK
      refine ⟨v29, v30, v31, v32, v33, v34, v35, .bool true, .agg #[.float .f64 zh, .float .f64 zl], .agg #[.float .f64 zh, .float .f64 zl], .agg (accC T), v40, v41, v42, v43, v44, v45, v4, ?_, belowT hB hx, by simpa using l0, by simpa using l1, by simpa using l2, by simpa using l3, by simpa using l4, by simpa using l5, by simpa using l6, fun _ => rfl, fun _ => rfl, fun _ => rfl, fun _ => rfl, by simpa using l11, by simpa using l12, by simpa using l13, by simpa using l14, by simpa using l15, by simpa using l16, by simpa using l17⟩
      simp only [Act.put, List.setIfInBounds_toArray, List.set_cons_zero, List.set_cons_succ]
    · obtain rfl := Option.some.inj ho
      have p7 : L 7 = true := hpre ⟨7, .guard⟩ (by simp) rfl
      obtain rfl := l7 p7
      refine wpOp_open ho (wanted_of 7 36 rfl rfl (by subst ea; simp only [Act.put, List.setIfInBounds_toArray, List.set_cons_zero, List.set_cons_succ, List.getElem?_toArray, List.getElem?_cons_succ, List.getElem?_cons_zero])) (fun K hK => ?_)
      subst ea
      have c0 := below_keeps hB HX.out.1
      have c1 := below_keeps hB HX.out.2
      go_simp
      apply hK
      refine ⟨v29, v30, v31, v32, v33, v34, v35, .bool true, v37, v38, v39, .agg #[.float .f64 xh, .float .f64 xl], v41, v42, v43, v44, v45, v4, ?_, hB, by simpa using l0, by simpa using l1, by simpa using l2, by simpa using l3, by simpa using l4, by simpa using l5, by simpa using l6, fun _ => rfl, by simpa using l8, by simpa using l9, by simpa using l10, fun _ => rfl, by simpa using l12, by simpa using l13, by simpa using l14, by simpa using l15, by simpa using l16, by simpa using l17⟩
      simp only [Act.put, List.setIfInBounds_toArray, List.set_cons_zero, List.set_cons_succ]
    · obtain rfl := Option.some.inj ho
      have p7 : L 7 = true := hpre ⟨7, .guard⟩ (by simp) rfl
      obtain rfl := l7 p7
      have p11 : L 11 = true := hpre ⟨11, .data⟩ (by simp) rfl
      obtain rfl := l11 p11
      refine wpOp_open ho (wanted_of 7 36 rfl rfl (by subst ea; simp only [Act.put, List.setIfInBounds_toArray, List.set_cons_zero, List.set_cons_succ, List.getElem?_toArray, List.getElem?_cons_succ, List.getElem?_cons_zero])) (fun K hK => ?_)
      subst ea
      go_simp
      refine (accDD_any xh xl (fin_lt fx.out.fh) fx.out.fh (fin_lt fx.out.fl) fx.out.fl _).mono ?_
      rw [eV.out]
      rintro r x ⟨rfl, hx⟩
      apply hK
      refine ⟨v29, v30, v31, v32, v33, v34, v35, .bool true, v37, v38, v39, .agg #[.float .f64 xh, .float .f64 xl], .agg (accC V), v42, v43, v44, v45, v4, ?_, belowT hB hx, by simpa using l0, by simpa using l1, by simpa using l2, by simpa using l3, by simpa using l4, by simpa using l5, by simpa using l6, fun _ => rfl, by simpa using l8, by simpa using l9, by simpa using l10, fun _ => rfl, fun _ => rfl, by simpa using l13, by simpa using l14, by simpa using l15, by simpa using l16, by simpa using l17⟩
      simp only [Act.put, List.setIfInBounds_toArray, List.set_cons_zero, List.set_cons_succ]
    · obtain rfl := Option.some.inj ho
      have p7 : L 7 = true := hpre ⟨7, .guard⟩ (by simp) rfl
      obtain rfl := l7 p7
      refine wpOp_open ho (wanted_of 7 36 rfl rfl (by subst ea; simp only [Act.put, List.setIfInBounds_toArray, List.set_cons_zero, List.set_cons_succ, List.getElem?_toArray, List.getElem?_cons_succ, List.getElem?_cons_zero])) (fun K hK => ?_)
      subst ea
      have c0 := below_keeps hB HX.out.1
      have c1 := below_keeps hB HX.out.2
      go_simp
      apply hK
      refine ⟨v29, v30, v31, v32, v33, v34, v35, .bool true, v37, v38, v39, v40, v41, .agg #[.float .f64 xh, .float .f64 xl], v43, v44, v45, v4, ?_, hB, by simpa using l0, by simpa using l1, by simpa using l2, by simpa using l3, by simpa using l4, by simpa using l5, by simpa using l6, fun _ => rfl, by simpa using l8, by simpa using l9, by simpa using l10, by simpa using l11, by simpa using l12, fun _ => rfl, by simpa using l14, by simpa using l15, by simpa using l16, by simpa using l17⟩
      simp only [Act.put, List.setIfInBounds_toArray, List.set_cons_zero, List.set_cons_succ]
    · obtain rfl := Option.some.inj ho
      have p7 : L 7 = true := hpre ⟨7, .guard⟩ (by simp) rfl
      obtain rfl := l7 p7
      have p13 : L 13 = true := hpre ⟨13, .data⟩ (by simp) rfl
      obtain rfl := l13 p13
      refine wpOp_open ho (wanted_of 7 36 rfl rfl (by subst ea; simp only [Act.put, List.setIfInBounds_toArray, List.set_cons_zero, List.set_cons_succ, List.getElem?_toArray, List.getElem?_cons_succ, List.getElem?_cons_zero])) (fun K hK => ?_)
      subst ea
      go_simp
      refine (accDD_any xh xl (fin_lt fx.out.fh) fx.out.fh (fin_lt fx.out.fl) fx.out.fl _).mono ?_
      rw [eV.out]
      rintro r x ⟨rfl, hx⟩
      apply hK
      refine ⟨v29, v30, v31, v32, v33, v34, v35, .bool true, v37, v38, v39, v40, v41, .agg #[.float .f64 xh, .float .f64 xl], .agg (accC V), v44, v45, v4, ?_, belowT hB hx, by simpa using l0, by simpa using l1, by simpa using l2, by simpa using l3, by simpa using l4, by simpa using l5, by simpa using l6, fun _ => rfl, by simpa using l8, by simpa using l9, by simpa using l10, by simpa using l11, by simpa using l12, fun _ => rfl, fun _ => rfl, by simpa using l15, by simpa using l16, by simpa using l17⟩
      simp only [Act.put, List.setIfInBounds_toArray, List.set_cons_zero, List.set_cons_succ]
    · obtain rfl := Option.some.inj ho
      have p7 : L 7 = true := hpre ⟨7, .guard⟩ (by simp) rfl
      obtain rfl := l7 p7
      have p10 : L 10 = true := hpre ⟨10, .data⟩ (by simp) rfl
      obtain rfl := l10 p10
      have p12 : L 12 = true := hpre ⟨12, .data⟩ (by simp) rfl
      obtain rfl := l12 p12
      have p14 : L 14 = true := hpre ⟨14, .data⟩ (by simp) rfl
      obtain rfl := l14 p14
      refine wpOp_open ho (wanted_of 7 36 rfl rfl (by subst ea; simp only [Act.put, List.setIfInBounds_toArray, List.set_cons_zero, List.set_cons_succ, List.getElem?_toArray, List.getElem?_cons_succ, List.getElem?_cons_zero])) (fun K hK => ?_)
      subst ea
      go_simp
      refine (relativeTo_100 T V V FN.out _).mono ?_
      rintro r x ⟨rfl, hx⟩
      apply hK
      refine ⟨v29, v30, v31, v32, v33, v34, v35, .bool true, v37, v38, .agg (accC T), v40, .agg (accC V), v42, .agg (accC V), .bool true, v45, v4, ?_, belowT hB hx, by simpa using l0, by simpa using l1, by simpa using l2, by simpa using l3, by simpa using l4, by simpa using l5, by simpa using l6, fun _ => rfl, by simpa using l8, by simpa using l9, fun _ => rfl, by simpa using l11, fun _ => rfl, by simpa using l13, fun _ => rfl, fun _ => rfl, by simpa using l16, by simpa using l17⟩
      simp only [Act.put, List.setIfInBounds_toArray, List.set_cons_zero, List.set_cons_succ]
    · obtain rfl := Option.some.inj ho
      have p7 : L 7 = true := hpre ⟨7, .data⟩ (by simp) rfl
      obtain rfl := l7 p7
      have p15 : L 15 = true := hpre ⟨15, .data⟩ (by simp) rfl
      obtain rfl := l15 p15
      refine wpOp_by ho rfl (fun K hK => ?_)
      subst ea
      go_simp
      apply hK
      refine ⟨v29, v30, v31, v32, v33, v34, v35, .bool true, v37, v38, v39, v40, v41, v42, v43, .bool true, .bool true, v4, ?_, hB, by simpa using l0, by simpa using l1, by simpa using l2, by simpa using l3, by simpa using l4, by simpa using l5, by simpa using l6, fun _ => rfl, by simpa using l8, by simpa using l9, by simpa using l10, by simpa using l11, by simpa using l12, by simpa using l13, by simpa using l14, fun _ => rfl, fun _ => rfl, by simpa using l17⟩
      simp only [Act.put, List.setIfInBounds_toArray, List.set_cons_zero, List.set_cons_succ]
    · obtain rfl := Option.some.inj ho
      have p16 : L 16 = true := hpre ⟨16, .data⟩ (by simp) rfl
      obtain rfl := l16 p16
      refine wpOp_by ho rfl (fun K hK => ?_)
      subst ea
      go_simp
      apply hK
      refine ⟨v29, v30, v31, v32, v33, v34, v35, v36, v37, v38, v39, v40, v41, v42, v43, v44, .bool true, .bool true, ?_, hB, by simpa using l0, by simpa using l1, by simpa using l2, by simpa using l3, by simpa using l4, by simpa using l5, by simpa using l6, by simpa using l7, by simpa using l8, by simpa using l9, by simpa using l10, by simpa using l11, by simpa using l12, by simpa using l13, by simpa using l14, by simpa using l15, fun _ => rfl, fun _ => rfl⟩
      simp only [Act.put, List.setIfInBounds_toArray, List.set_cons_zero, List.set_cons_succ]
  · rintro L a' w' ⟨v29, v30, v31, v32, v33, v34, v35, v36, v37, v38, v39, v40, v41, v42, v43, v44, v45, v4, rfl, hB, l0, l1, l2, l3, l4, l5, l6, l7, l8, l9, l10, l11, l12, l13, l14, l15, l16, l17⟩ hall
    obtain rfl := l17 (hall 17 (by decide))
    simp only [Act.put, List.setIfInBounds_toArray, List.set_cons_zero, List.set_cons_succ]
    go_wp2_with fail
    go_ret
    exact ⟨rfl, KB.out.trans (hB.mono KB.out.size)⟩
end Go.Proofs.YgctacDoor
