/-
  calc.outcome's statement 'o.Stack[i] = make(..)', which draws its order.
-/
import Derived.Test.YgctacCopy3
import Derived.Test.YgctacInv
import Derived.Deep.Light
namespace Go.Proofs.Ygctac
open Go.RowKit
set_option linter.unusedVariables false
set_option linter.unusedSimpArgs false
set_option linter.unnecessarySimpa false

theorem put_selfP (a : Act) (t1 t2 t3 t4 t5 t6 t7 t8 t9 t10 t11 t12 t13 : Nat) : ∃ v1 v2 v3 v4 v5 v6 v7 v8 v9 v10 v11 v12 v13, a = (((((((((((((a.put (some t1) v1).put (some t2) v2).put (some t3) v3).put (some t4) v4).put (some t5) v5).put (some t6) v6).put (some t7) v7).put (some t8) v8).put (some t9) v9).put (some t10) v10).put (some t11) v11).put (some t12) v12).put (some t13) v13) := by
  obtain ⟨v1, h1⟩ := put_self a t1
  obtain ⟨v2, h2⟩ := put_self a t2
  obtain ⟨v3, h3⟩ := put_self a t3
  obtain ⟨v4, h4⟩ := put_self a t4
  obtain ⟨v5, h5⟩ := put_self a t5
  obtain ⟨v6, h6⟩ := put_self a t6
  obtain ⟨v7, h7⟩ := put_self a t7
  obtain ⟨v8, h8⟩ := put_self a t8
  obtain ⟨v9, h9⟩ := put_self a t9
  obtain ⟨v10, h10⟩ := put_self a t10
  obtain ⟨v11, h11⟩ := put_self a t11
  obtain ⟨v12, h12⟩ := put_self a t12
  obtain ⟨v13, h13⟩ := put_self a t13
  exact ⟨v1, v2, v3, v4, v5, v6, v7, v8, v9, v10, v11, v12, v13, by rw [h1, h2, h3, h4, h5, h6, h7, h8, h9, h10, h11, h12, h13]⟩

theorem frozen_alloc {w : World} {a : Addr} {v : Value} (o : Obj) (h : w.cell? a = some v) (hf : w.frozen? a = false) : (w.alloc o).frozen? a = false := by
  have hb := World.block_lt_of_cell? w a h
  rw [World.frozen?, heap_alloc_old w o hb]
  exact hf
theorem cell_set_same {w : World} {b o : Nat} {v u : Value} (h : w.cell? ⟨b, o, none⟩ = some v) : (w.setCell ⟨b, o, none⟩ u).cell? ⟨b, o, none⟩ = some u := by
  simp [go_sem, h]
theorem cell_row_ne {w : World} {a : Addr} {v : Value} {g : Nat} {cs : Array Value} (h : w.cell? a = some v) (hne : a.block ≠ g) : (w.setRow g cs).cell? a = some v := by
  rw [World.cell?, setRow_other w g a.block cs hne]
  exact h
theorem cell_set_ne {w : World} {a p : Addr} {v u : Value} (h : w.cell? a = some v) (hne : a.block ≠ p.block) : (w.setCell p u).cell? a = some v := by
  rw [World.cell?, Below.heap_setCell _ _ _ _ hne]
  exact h

set_option maxRecDepth 100000 in
set_option maxHeartbeats 1000000 in
theorem outcomeX (b g c x m cx : Nat) (hc : 1 ≤ c) (hm : 0 < m) (hm2 : m ≤ 1024) (hmc : m ≤ cx) (f : Nat → Int) (w : World) (h : MachAt w b (.slice (some ⟨g, 0, none⟩) 1 c) (.slice none 0 0)) (hg : w.cell? ⟨g, 0, none⟩ = some (.slice (some ⟨x, 0, none⟩) m cx)) (hx : OwnRow w x m f) :
    Calls Tacg.prog 157 #[.pointer (some ⟨b, 0, none⟩)] w fun r w' => ∃ k s, r = .returned (.agg #[.bool false, .slice (some ⟨k, 0, none⟩) 1 1, .slice none 0 0]) ∧ w'.cell? ⟨k, 0, none⟩ = some (.slice (some ⟨s, 0, none⟩) m m) ∧ OwnRow w' s m f ∧ w.heap.size ≤ k ∧ w.heap.size ≤ s ∧ Below w.heap.size w w' := by
  have hM := (h.alloc (.cells #[.bool false, .slice none 0 0, .slice none 0 0] 140)).alloc (.cells #[.bool false, .slice none 0 0, .slice none 0 0] 140)
  have c0 := hM.c0
  have c1 := hM.c1
  have rm := make138
  have hM2 := ((h.alloc (.cells #[.bool false, .slice none 0 0, .slice none 0 0] 140)).alloc (.cells #[.bool false, .slice (some ⟨w.heap.size + 1 + 1, 0, none⟩) 1 1, .slice none 0 0] 140)).alloc (.cells #[.slice none 0 0] 22)
  have d0 := hM2.c0
  have d1 := hM2.c1
  have dg := cell_alloc' (.cells #[.slice none 0 0] 22) (cell_alloc' (.cells #[.bool false, .slice (some ⟨w.heap.size + 1 + 1, 0, none⟩) 1 1, .slice none 0 0] 140) (cell_alloc' (.cells #[.bool false, .slice none 0 0, .slice none 0 0] 140) hg))
  have bl := h.lt
  have gl := World.block_lt_of_cell? w _ hg
  have xl := hx.lt
  have HX := hide hx
  have HBL := hide (And.intro bl (And.intro gl xl))
  have t0 : (0 : Int) < (m : Int) := by omega
  have MH := hide hM2
  clear h hM hM2 hx
  go_enter Tacg.func157, Tacg.ntmps157
  go_wp2_with fail
  clear c0 c1 rm
  go_loopw [4] (fun s4 w1 => ∃ i : Nat, s4 = .int .i64 i ∧ i ≤ 1 ∧ Hid (i = 0 → w1 = ((w.alloc (.cells #[.bool false, .slice none 0 0, .slice none 0 0] 140)).alloc (.cells #[.bool false, .slice (some ⟨w.heap.size + 1 + 1, 0, none⟩) 1 1, .slice none 0 0] 140)).alloc (.cells #[.slice none 0 0] 22)) ∧ Hid (i = 1 → ∃ s, OutAt w1 w.heap.size (.bool false) (.slice none 0 0) (.slice none 0 0) ∧ OutAt w1 (w.heap.size + 1) (.bool false) (.slice (some ⟨w.heap.size + 1 + 1, 0, none⟩) 1 1) (.slice none 0 0) ∧ MachAt w1 b (.slice (some ⟨g, 0, none⟩) 1 c) (.slice none 0 0) ∧ w1.cell? ⟨w.heap.size + 1 + 1, 0, none⟩ = some (.slice (some ⟨s, 0, none⟩) m m) ∧ OwnRow w1 s m f ∧ w.heap.size + 1 + 1 < s ∧ Below w.heap.size w w1)) (fun s4 _ => 1 - (intOf s4).toNat)
  case atStart => exact ⟨0, rfl, by decide, hide (fun _ => rfl), hide (fun h => absurd h (by decide))⟩
  case round =>
    obtain ⟨i, rfl, hi, h0, h1⟩ := hrel
    rcases Nat.eq_zero_or_pos i with rfl | hp
    · have hw := h0.out rfl
      subst hw
      clear h0 h1
      go_upto_region 8 with fail
      have r1 : (((w.alloc (.cells #[.bool false, .slice none 0 0, .slice none 0 0] 140)).alloc (.cells #[.bool false, .slice (some ⟨w.heap.size + 1 + 1, 0, none⟩) 1 1, .slice none 0 0] 140)).alloc (.cells #[.slice none 0 0] 22)).cell? ⟨w.heap.size + 1, 1, none⟩ = some (.slice (some ⟨w.heap.size + 1 + 1, 0, none⟩) 1 1) := by simp [go_sem]
      have rk : (((w.alloc (.cells #[.bool false, .slice none 0 0, .slice none 0 0] 140)).alloc (.cells #[.bool false, .slice (some ⟨w.heap.size + 1 + 1, 0, none⟩) 1 1, .slice none 0 0] 140)).alloc (.cells #[.slice none 0 0] 22)).cell? ⟨w.heap.size + 1 + 1, 0, none⟩ = some (.slice none 0 0) := by simp [go_sem]
      have fk : (((w.alloc (.cells #[.bool false, .slice none 0 0, .slice none 0 0] 140)).alloc (.cells #[.bool false, .slice (some ⟨w.heap.size + 1 + 1, 0, none⟩) 1 1, .slice none 0 0] 140)).alloc (.cells #[.slice none 0 0] 22)).frozen? ⟨w.heap.size + 1 + 1, 0, none⟩ = false := by simp [go_sem]
      have r2 := d0
      have r3 := dg
      have no : w.heap.size + 1 ≠ w.heap.size + 1 + 1 := by omega
      have nb : b ≠ w.heap.size + 1 + 1 := by omega
      have ng : g ≠ w.heap.size + 1 + 1 := by omega
      generalize hWd : ((w.alloc (.cells #[.bool false, .slice none 0 0, .slice none 0 0] 140)).alloc (.cells #[.bool false, .slice (some ⟨w.heap.size + 1 + 1, 0, none⟩) 1 1, .slice none 0 0] 140)).alloc (.cells #[.slice none 0 0] 22) = wd at *
      have HWD := hide hWd
      generalize hkk : w.heap.size + 1 + 1 = kk at *
      generalize hoo : w.heap.size + 1 = oo at *
      have RK := hide rk
      have MM := hide (MH.out)
      have hoo := hoo
      clear hWd d0 d1 dg
      refine wp_region_from (J := fun a0 L a' w' => ∃ v36 v37 v38 v39 v40 v41 v42 v43 v44 v45 v46 v47 v48, a' = ((((((((((((a0.put (some 36) v36).put (some 37) v37).put (some 38) v38).put (some 39) v39).put (some 40) v40).put (some 41) v41).put (some 42) v42).put (some 43) v43).put (some 44) v44).put (some 45) v45).put (some 46) v46).put (some 47) v47).put (some 48) v48 ∧ (w'.cell? ⟨oo, 1, none⟩ = some (.slice (some ⟨kk, 0, none⟩) 1 1)) ∧ (w'.cell? ⟨b, 0, none⟩ = some (.slice (some ⟨g, 0, none⟩) 1 c)) ∧ (w'.cell? ⟨g, 0, none⟩ = some (.slice (some ⟨x, 0, none⟩) m cx)) ∧ (L 13 = false → w'.cell? ⟨kk, 0, none⟩ = some (.slice none 0 0) ∧ w'.frozen? ⟨kk, 0, none⟩ = false) ∧ (L 11 = false → w' = wd.drew) ∧ (L 11 = true → L 13 = false → w' = wd.drew.alloc (.cells (rowL m fun _ => 0).toArray 5)) ∧ (L 13 = true → L 11 = true ∧ w' = (wd.drew.alloc (.cells (rowL m fun _ => 0).toArray 5)).setCell ⟨kk, 0, none⟩ (.slice (some ⟨wd.heap.size, 0, none⟩) m m)) ∧ (L 0 = true → v36 = .pointer (some ⟨oo, 1, none⟩)) ∧ (L 1 = true → v37 = .slice (some ⟨kk, 0, none⟩) 1 1) ∧ (L 2 = true → v38 = .int .i64 0) ∧ (L 3 = true → v39 = .pointer (some ⟨b, 0, none⟩)) ∧ (L 4 = true → v40 = .pointer (some ⟨b, 0, none⟩)) ∧ (L 5 = true → v41 = .pointer (some ⟨b, 0, none⟩)) ∧ (L 6 = true → v42 = .slice (some ⟨g, 0, none⟩) 1 c) ∧ (L 7 = true → v43 = .int .i64 0) ∧ (L 8 = true → v44 = .pointer (some ⟨g, 0, none⟩)) ∧ (L 9 = true → v45 = .slice (some ⟨x, 0, none⟩) m cx) ∧ (L 10 = true → v46 = .int .i64 m) ∧ (L 11 = true → v47 = .slice (some ⟨wd.heap.size, 0, none⟩) m m) ∧ (L 12 = true → v48 = .pointer (some ⟨kk, 0, none⟩))) (by kernel_rfl) (by kernel_rfl) ?_ ?_ ?_
      · obtain ⟨q0, q1, q2, q3, q4, q5, q6, q7, q8, q9, q10, q11, q12, e⟩ := put_selfP _ 36 37 38 39 40 41 42 43 44 45 46 47 48
        refine ⟨q0, q1, q2, q3, q4, q5, q6, q7, q8, q9, q10, q11, q12, e, ?_, ?_, ?_, ?_, ?_, ?_, ?_, ?_, ?_, ?_, ?_, ?_, ?_, ?_, ?_, ?_, ?_, ?_, ?_, ?_⟩
        · exact r1
        · exact r2
        · exact r3
        · intro _; exact ⟨rk, fk⟩
        · intro _; rfl
        · intro h; cases h
        · intro h; cases h
        all_goals (intro h; cases h)
      · go_light
        rintro L a' w' i o ⟨v36, v37, v38, v39, v40, v41, v42, v43, v44, v45, v46, v47, v48, ea, r1, r2, r3, rk, wa, wb, wz, l0, l1, l2, l3, l4, l5, l6, l7, l8, l9, l10, l11, l12⟩ ho hL hpre
        have hi : i < 14 := (Array.getElem?_eq_some_iff.1 ho).1
        have cs : i = 0 ∨ i = 1 ∨ i = 2 ∨ i = 3 ∨ i = 4 ∨ i = 5 ∨ i = 6 ∨ i = 7 ∨ i = 8 ∨ i = 9 ∨ i = 10 ∨ i = 11 ∨ i = 12 ∨ i = 13 := by omega
        rcases cs with rfl | rfl | rfl | rfl | rfl | rfl | rfl | rfl | rfl | rfl | rfl | rfl | rfl | rfl
        · obtain rfl := Option.some.inj ho
          refine wpOp_by ho rfl (fun K hK => ?_)
          subst ea
          go_simp
          apply hK
          refine ⟨.pointer (some ⟨oo, 1, none⟩), v37, v38, v39, v40, v41, v42, v43, v44, v45, v46, v47, v48, ?_, r1, r2, r3, by simpa using rk, by simpa using wa, by simpa using wb, by simpa using wz, fun _ => rfl, by simpa using l1, by simpa using l2, by simpa using l3, by simpa using l4, by simpa using l5, by simpa using l6, by simpa using l7, by simpa using l8, by simpa using l9, by simpa using l10, by simpa using l11, by simpa using l12⟩
          simp only [Act.put, List.setIfInBounds_toArray, List.set_cons_zero, List.set_cons_succ] <;> rfl
        · obtain rfl := Option.some.inj ho
          have p0 : L 0 = true := hpre ⟨0, .data⟩ (by simp) rfl
          obtain rfl := l0 p0
          refine wpOp_by ho rfl (fun K hK => ?_)
          subst ea
          have c1 := r1
          have c2 := r2
          have c3 := r3
          go_simp
          apply hK
          refine ⟨.pointer (some ⟨oo, 1, none⟩), .slice (some ⟨kk, 0, none⟩) 1 1, v38, v39, v40, v41, v42, v43, v44, v45, v46, v47, v48, ?_, r1, r2, r3, by simpa using rk, by simpa using wa, by simpa using wb, by simpa using wz, fun _ => rfl, fun _ => rfl, by simpa using l2, by simpa using l3, by simpa using l4, by simpa using l5, by simpa using l6, by simpa using l7, by simpa using l8, by simpa using l9, by simpa using l10, by simpa using l11, by simpa using l12⟩
          simp only [Act.put, List.setIfInBounds_toArray, List.set_cons_zero, List.set_cons_succ] <;> rfl
        · obtain rfl := Option.some.inj ho
          refine wpOp_by ho rfl (fun K hK => ?_)
          subst ea
          go_simp
          apply hK
          refine ⟨v36, v37, .int .i64 0, v39, v40, v41, v42, v43, v44, v45, v46, v47, v48, ?_, r1, r2, r3, by simpa using rk, by simpa using wa, by simpa using wb, by simpa using wz, by simpa using l0, by simpa using l1, fun _ => rfl, by simpa using l3, by simpa using l4, by simpa using l5, by simpa using l6, by simpa using l7, by simpa using l8, by simpa using l9, by simpa using l10, by simpa using l11, by simpa using l12⟩
          simp only [Act.put, List.setIfInBounds_toArray, List.set_cons_zero, List.set_cons_succ] <;> rfl
        · obtain rfl := Option.some.inj ho
          refine wpOp_by ho rfl (fun K hK => ?_)
          subst ea
          go_simp
          apply hK
          refine ⟨v36, v37, v38, .pointer (some ⟨b, 0, none⟩), v40, v41, v42, v43, v44, v45, v46, v47, v48, ?_, r1, r2, r3, by simpa using rk, by simpa using wa, by simpa using wb, by simpa using wz, by simpa using l0, by simpa using l1, by simpa using l2, fun _ => rfl, by simpa using l4, by simpa using l5, by simpa using l6, by simpa using l7, by simpa using l8, by simpa using l9, by simpa using l10, by simpa using l11, by simpa using l12⟩
          simp only [Act.put, List.setIfInBounds_toArray, List.set_cons_zero, List.set_cons_succ] <;> rfl
        · obtain rfl := Option.some.inj ho
          have p3 : L 3 = true := hpre ⟨3, .data⟩ (by simp) rfl
          obtain rfl := l3 p3
          refine wpOp_by ho rfl (fun K hK => ?_)
          subst ea
          go_simp
          apply hK
          refine ⟨v36, v37, v38, .pointer (some ⟨b, 0, none⟩), .pointer (some ⟨b, 0, none⟩), v41, v42, v43, v44, v45, v46, v47, v48, ?_, r1, r2, r3, by simpa using rk, by simpa using wa, by simpa using wb, by simpa using wz, by simpa using l0, by simpa using l1, by simpa using l2, fun _ => rfl, fun _ => rfl, by simpa using l5, by simpa using l6, by simpa using l7, by simpa using l8, by simpa using l9, by simpa using l10, by simpa using l11, by simpa using l12⟩
          simp only [Act.put, List.setIfInBounds_toArray, List.set_cons_zero, List.set_cons_succ] <;> rfl
        · obtain rfl := Option.some.inj ho
          have p4 : L 4 = true := hpre ⟨4, .data⟩ (by simp) rfl
          obtain rfl := l4 p4
          refine wpOp_by ho rfl (fun K hK => ?_)
          subst ea
          go_simp
          apply hK
          refine ⟨v36, v37, v38, v39, .pointer (some ⟨b, 0, none⟩), .pointer (some ⟨b, 0, none⟩), v42, v43, v44, v45, v46, v47, v48, ?_, r1, r2, r3, by simpa using rk, by simpa using wa, by simpa using wb, by simpa using wz, by simpa using l0, by simpa using l1, by simpa using l2, by simpa using l3, fun _ => rfl, fun _ => rfl, by simpa using l6, by simpa using l7, by simpa using l8, by simpa using l9, by simpa using l10, by simpa using l11, by simpa using l12⟩
          simp only [Act.put, List.setIfInBounds_toArray, List.set_cons_zero, List.set_cons_succ] <;> rfl
        · obtain rfl := Option.some.inj ho
          have p5 : L 5 = true := hpre ⟨5, .data⟩ (by simp) rfl
          obtain rfl := l5 p5
          refine wpOp_by ho rfl (fun K hK => ?_)
          subst ea
          have c1 := r1
          have c2 := r2
          have c3 := r3
          go_simp
          apply hK
          refine ⟨v36, v37, v38, v39, v40, .pointer (some ⟨b, 0, none⟩), .slice (some ⟨g, 0, none⟩) 1 c, v43, v44, v45, v46, v47, v48, ?_, r1, r2, r3, by simpa using rk, by simpa using wa, by simpa using wb, by simpa using wz, by simpa using l0, by simpa using l1, by simpa using l2, by simpa using l3, by simpa using l4, fun _ => rfl, fun _ => rfl, by simpa using l7, by simpa using l8, by simpa using l9, by simpa using l10, by simpa using l11, by simpa using l12⟩
          simp only [Act.put, List.setIfInBounds_toArray, List.set_cons_zero, List.set_cons_succ] <;> rfl
        · obtain rfl := Option.some.inj ho
          refine wpOp_by ho rfl (fun K hK => ?_)
          subst ea
          go_simp
          apply hK
          refine ⟨v36, v37, v38, v39, v40, v41, v42, .int .i64 0, v44, v45, v46, v47, v48, ?_, r1, r2, r3, by simpa using rk, by simpa using wa, by simpa using wb, by simpa using wz, by simpa using l0, by simpa using l1, by simpa using l2, by simpa using l3, by simpa using l4, by simpa using l5, by simpa using l6, fun _ => rfl, by simpa using l8, by simpa using l9, by simpa using l10, by simpa using l11, by simpa using l12⟩
          simp only [Act.put, List.setIfInBounds_toArray, List.set_cons_zero, List.set_cons_succ] <;> rfl
        · obtain rfl := Option.some.inj ho
          have p6 : L 6 = true := hpre ⟨6, .data⟩ (by simp) rfl
          obtain rfl := l6 p6
          have p7 : L 7 = true := hpre ⟨7, .data⟩ (by simp) rfl
          obtain rfl := l7 p7
          refine wpOp_by ho rfl (fun K hK => ?_)
          subst ea
          go_simp
          apply hK
          refine ⟨v36, v37, v38, v39, v40, v41, .slice (some ⟨g, 0, none⟩) 1 c, .int .i64 0, .pointer (some ⟨g, 0, none⟩), v45, v46, v47, v48, ?_, r1, r2, r3, by simpa using rk, by simpa using wa, by simpa using wb, by simpa using wz, by simpa using l0, by simpa using l1, by simpa using l2, by simpa using l3, by simpa using l4, by simpa using l5, fun _ => rfl, fun _ => rfl, fun _ => rfl, by simpa using l9, by simpa using l10, by simpa using l11, by simpa using l12⟩
          simp only [Act.put, List.setIfInBounds_toArray, List.set_cons_zero, List.set_cons_succ] <;> rfl
        · obtain rfl := Option.some.inj ho
          have p8 : L 8 = true := hpre ⟨8, .data⟩ (by simp) rfl
          obtain rfl := l8 p8
          refine wpOp_by ho rfl (fun K hK => ?_)
          subst ea
          have c1 := r1
          have c2 := r2
          have c3 := r3
          go_simp
          apply hK
          refine ⟨v36, v37, v38, v39, v40, v41, v42, v43, .pointer (some ⟨g, 0, none⟩), .slice (some ⟨x, 0, none⟩) m cx, v46, v47, v48, ?_, r1, r2, r3, by simpa using rk, by simpa using wa, by simpa using wb, by simpa using wz, by simpa using l0, by simpa using l1, by simpa using l2, by simpa using l3, by simpa using l4, by simpa using l5, by simpa using l6, by simpa using l7, fun _ => rfl, fun _ => rfl, by simpa using l10, by simpa using l11, by simpa using l12⟩
          simp only [Act.put, List.setIfInBounds_toArray, List.set_cons_zero, List.set_cons_succ] <;> rfl
        · obtain rfl := Option.some.inj ho
          have p9 : L 9 = true := hpre ⟨9, .data⟩ (by simp) rfl
          obtain rfl := l9 p9
          refine wpOp_by ho rfl (fun K hK => ?_)
          subst ea
          go_simp
          apply hK
          refine ⟨v36, v37, v38, v39, v40, v41, v42, v43, v44, .slice (some ⟨x, 0, none⟩) m cx, .int .i64 m, v47, v48, ?_, r1, r2, r3, by simpa using rk, by simpa using wa, by simpa using wb, by simpa using wz, by simpa using l0, by simpa using l1, by simpa using l2, by simpa using l3, by simpa using l4, by simpa using l5, by simpa using l6, by simpa using l7, by simpa using l8, fun _ => rfl, fun _ => rfl, by simpa using l11, by simpa using l12⟩
          simp only [Act.put, List.setIfInBounds_toArray, List.set_cons_zero, List.set_cons_succ] <;> rfl
        · obtain rfl := Option.some.inj ho
          have p10 : L 10 = true := hpre ⟨10, .data⟩ (by simp) rfl
          obtain rfl := l10 p10
          have n13 : L 13 = false := by
            cases h : L 13 with
            | false => rfl
            | true => rw [(wz h).1] at hL; cases hL
          obtain rfl := wa hL
          obtain ⟨k1, k2⟩ := rk n13
          have rm := make22 m (by omega)
          refine wpOp_by ho rfl (fun K hK => ?_)
          subst ea
          go_simp
          apply hK
          refine ⟨v36, v37, v38, v39, v40, v41, v42, v43, v44, v45, .int .i64 m, .slice (some ⟨wd.heap.size, 0, none⟩) m m, v48, ?_, cell_alloc' _ r1, cell_alloc' _ r2, cell_alloc' _ r3, fun _ => ⟨cell_alloc' _ k1, frozen_alloc _ k1 k2⟩, by simp, fun _ _ => rfl, by simp [n13], by simpa using l0, by simpa using l1, by simpa using l2, by simpa using l3, by simpa using l4, by simpa using l5, by simpa using l6, by simpa using l7, by simpa using l8, by simpa using l9, fun _ => rfl, fun _ => rfl, by simpa using l12⟩
          simp only [Act.put, List.setIfInBounds_toArray, List.set_cons_zero, List.set_cons_succ] <;> rfl
        · obtain rfl := Option.some.inj ho
          have p1 : L 1 = true := hpre ⟨1, .data⟩ (by simp) rfl
          obtain rfl := l1 p1
          have p2 : L 2 = true := hpre ⟨2, .data⟩ (by simp) rfl
          obtain rfl := l2 p2
          refine wpOp_by ho rfl (fun K hK => ?_)
          subst ea
          go_simp
          apply hK
          refine ⟨v36, .slice (some ⟨kk, 0, none⟩) 1 1, .int .i64 0, v39, v40, v41, v42, v43, v44, v45, v46, v47, .pointer (some ⟨kk, 0, none⟩), ?_, r1, r2, r3, by simpa using rk, by simpa using wa, by simpa using wb, by simpa using wz, by simpa using l0, fun _ => rfl, fun _ => rfl, by simpa using l3, by simpa using l4, by simpa using l5, by simpa using l6, by simpa using l7, by simpa using l8, by simpa using l9, by simpa using l10, by simpa using l11, fun _ => rfl⟩
          simp only [Act.put, List.setIfInBounds_toArray, List.set_cons_zero, List.set_cons_succ] <;> rfl
        · obtain rfl := Option.some.inj ho
          have p12 : L 12 = true := hpre ⟨12, .data⟩ (by simp) rfl
          obtain rfl := l12 p12
          have p11 : L 11 = true := hpre ⟨11, .data⟩ (by simp) rfl
          obtain rfl := l11 p11
          have p11' : L 11 = true := p11
          obtain rfl := wb p11 hL
          obtain ⟨k1, k2⟩ := rk hL
          have k1' : (wd.alloc (.cells (rowL m fun _ => 0).toArray 5)).cell? ⟨kk, 0, none⟩ = some (.slice none 0 0) := k1
          have k2' : (wd.alloc (.cells (rowL m fun _ => 0).toArray 5)).frozen? ⟨kk, 0, none⟩ = false := k2
          refine wpOp_by ho rfl (fun K hK => ?_)
          subst ea
          go_simp
          apply hK
          refine ⟨v36, v37, v38, v39, v40, v41, v42, v43, v44, v45, v46, .slice (some ⟨wd.heap.size, 0, none⟩) m m, .pointer (some ⟨kk, 0, none⟩), ?_, cell_set_ne r1 no, cell_set_ne r2 nb, cell_set_ne r3 ng, by simp, by simp [p11'], by simp, fun _ => ⟨by simpa using p11', rfl⟩, by simpa using l0, by simpa using l1, by simpa using l2, by simpa using l3, by simpa using l4, by simpa using l5, by simpa using l6, by simpa using l7, by simpa using l8, by simpa using l9, by simpa using l10, fun _ => rfl, fun _ => rfl⟩
          simp only [Act.put, List.setIfInBounds_toArray, List.set_cons_zero, List.set_cons_succ] <;> rfl
      · rintro L a' w' ⟨v36, v37, v38, v39, v40, v41, v42, v43, v44, v45, v46, v47, v48, rfl, r1, r2, r3, rk, wa, wb, wz, l0, l1, l2, l3, l4, l5, l6, l7, l8, l9, l10, l11, l12⟩ hall
        obtain rfl := l0 (hall 0 (by decide))
        obtain rfl := l1 (hall 1 (by decide))
        obtain rfl := l2 (hall 2 (by decide))
        obtain rfl := l3 (hall 3 (by decide))
        obtain rfl := l4 (hall 4 (by decide))
        obtain rfl := l5 (hall 5 (by decide))
        obtain rfl := l6 (hall 6 (by decide))
        obtain rfl := l7 (hall 7 (by decide))
        obtain rfl := l8 (hall 8 (by decide))
        obtain rfl := l9 (hall 9 (by decide))
        obtain rfl := l10 (hall 10 (by decide))
        obtain rfl := l11 (hall 11 (by decide))
        obtain rfl := l12 (hall 12 (by decide))
        simp only [Act.put, List.setIfInBounds_toArray, List.set_cons_zero, List.set_cons_succ]
        obtain ⟨_, hw2⟩ := wz (hall 13 (by decide))
        have rS : w'.cell? ⟨kk, 0, none⟩ = some (.slice (some ⟨wd.heap.size, 0, none⟩) m m) := by
          rw [hw2]
          exact cell_set_same (cell_alloc' _ RK.out)
        have hwl : w.heap.size + 1 + 1 < wd.heap.size := by rw [← HWD.out]; simp only [size_al]; omega
        have hR2 : RowAt w' wd.heap.size m (fun _ => 0) := by
          rw [hw2]
          refine (RowAt.new wd.drew m (fun _ => 0)).block ?_
          exact Below.heap_setCell _ _ _ _ (by show wd.heap.size ≠ kk; omega)
        have hX2 : OwnRow w' x m f := by
          rw [hw2]
          have e1 : (wd.drew.alloc (.cells (rowL m fun _ => 0).toArray 5)).heap[x]? = w.heap[x]? := by
            have hxl := HBL.out.2.2
            rw [heap_alloc_old _ _ (by show x < wd.heap.size; omega)]
            show wd.heap[x]? = _
            rw [← HWD.out, heap_alloc_old _ _ (by simp only [size_al]; omega), heap_alloc_old _ _ (by simp only [size_al]; omega), heap_alloc_old _ _ hxl]
          refine HX.out.block ?_
          rw [Below.heap_setCell _ _ _ _ (by show x ≠ kk; omega), e1]
        have hO2 : OutAt w' w.heap.size (.bool false) (.slice none 0 0) (.slice none 0 0) ∧ OutAt w' oo (.bool false) (.slice (some ⟨kk, 0, none⟩) 1 1) (.slice none 0 0) ∧ MachAt w' b (.slice (some ⟨g, 0, none⟩) 1 c) (.slice none 0 0) ∧ Below w.heap.size w w' := by
          have E : ∀ j, j < w.heap.size + 1 + 1 → w'.heap[j]? = wd.heap[j]? := by
            intro j hj
            rw [hw2, Below.heap_setCell _ _ _ _ (by show j ≠ kk; omega), heap_alloc_old _ _ (by show j < wd.heap.size; omega)]
            rfl
          have hoo' : oo < w.heap.size + 1 + 1 := by omega
          refine ⟨?_, ?_, ?_, ?_⟩
          · refine (E _ (by omega)).trans ?_
            rw [← HWD.out]
            exact ((OutAt.new w (.bool false) (.slice none 0 0) (.slice none 0 0)).alloc _).alloc _
          · refine (E _ hoo').trans ?_
            rw [← HWD.out]
            have := (OutAt.new (w.alloc (.cells #[.bool false, .slice none 0 0, .slice none 0 0] 140)) (.bool false) (.slice (some ⟨kk, 0, none⟩) 1 1) (.slice none 0 0)).alloc (.cells #[.slice none 0 0] 22)
            rw [size_al, hoo] at this
            exact this
          · refine (E _ (by omega)).trans ?_
            exact MM.out
          · rw [hw2]
            have B0 : Below w.heap.size w wd := by
              rw [← HWD.out]
              exact (((Below.refl _ _).alloc (Nat.le_refl _) _).alloc (by rw [size_al]; omega) _).alloc (by rw [size_al, size_al]; omega) _
            exact ((B0.drew).alloc (by show w.heap.size ≤ wd.heap.size; omega) _).setCell (by show w.heap.size ≤ kk; omega) _
        have hsz2 : wd.heap.size + 1 = w'.heap.size := by
          rw [hw2]
          simp [World.setCell, size_al]
        have mo : oo ≠ wd.heap.size := by omega
        have mb : b ≠ wd.heap.size := by have := HBL.out.1; omega
        have mg : g ≠ wd.heap.size := by have := HBL.out.2.1; omega
        have mk : kk ≠ wd.heap.size := by omega
        have RC : Hid ((Builtin.copy_ #[22, 23] 3 #[.slice (some ⟨wd.heap.size, 0, none⟩) m m, .slice (some ⟨x, 0, none⟩) m cx]).run Tacg.prog w'.drew = .ok (.int .i64 m) (w'.drew.setRow wd.heap.size (rowL m f).toArray)) := by
          have hr := run_copy_row (P := Tacg.prog) w'.drew 22 23 3 5 wd.heap.size 0 m m ⟨x, 0, none⟩ m cx (rowL m fun _ => 0).toArray 5 (rowL m f) Tacg.underlying22 size5 hR2 (by rw [rowL_length]; exact (Nat.min_self m).symm) (by
            intro j v hv
            have hj : j < m := by
              have := (List.getElem?_eq_some_iff.1 hv).1
              simpa [rowL_length] using this
            rw [rowL_get m f j hj] at hv
            obtain rfl := Option.some.inj hv
            rw [add_none, Nat.zero_add]
            exact hX2.cell j hj) (by simp [rowL_length]) (rowL_one _ _)
          have e : (rowL m fun _ => 0).toArray.toList.take 0 ++ rowL m f ++ (rowL m fun _ => 0).toArray.toList.drop (0 + (rowL m f).length) = rowL m f := by
            simp [rowL_length, List.drop_eq_nil_of_le]
          rw [e, rowL_length] at hr
          exact hr
        have hS3 := hide (show OwnRow (w'.drew.setRow wd.heap.size (rowL m f).toArray) wd.heap.size m f from (show RowAt _ _ m f from setRow_heap w'.drew wd.heap.size _ _ 5 _ hR2).own)
        have HO2 := hide hO2
        have HLT := hide hwl
        generalize wd.heap.size = ss at *
        clear rk wa wb wz hw2 hR2 hX2 hO2 hall RK MM HWD HX hsz2 fk
        have rk := rS
        clear rS
        have w2 := w'
        generalize hw2 : w' = w2 at *
        go_upto_region 9 with fail
        refine wp_region_from (J := fun a0 L a' w' => ∃ v49 v50 v51 v52 v53 v54 v55 v56 v57 v58 v59 v60 v61, a' = ((((((((((((a0.put (some 49) v49).put (some 50) v50).put (some 51) v51).put (some 52) v52).put (some 53) v53).put (some 54) v54).put (some 55) v55).put (some 56) v56).put (some 57) v57).put (some 58) v58).put (some 59) v59).put (some 60) v60).put (some 61) v61 ∧ (w'.cell? ⟨oo, 1, none⟩ = some (.slice (some ⟨kk, 0, none⟩) 1 1)) ∧ (w'.cell? ⟨b, 0, none⟩ = some (.slice (some ⟨g, 0, none⟩) 1 c)) ∧ (w'.cell? ⟨g, 0, none⟩ = some (.slice (some ⟨x, 0, none⟩) m cx)) ∧ (w'.cell? ⟨kk, 0, none⟩ = some (.slice (some ⟨ss, 0, none⟩) m m)) ∧ (L 12 = false → w' = w2.drew) ∧ (L 12 = true → w' = w2.drew.setRow ss (rowL m f).toArray) ∧ (L 0 = true → v49 = .pointer (some ⟨oo, 1, none⟩)) ∧ (L 1 = true → v50 = .slice (some ⟨kk, 0, none⟩) 1 1) ∧ (L 2 = true → v51 = .int .i64 0) ∧ (L 3 = true → v52 = .pointer (some ⟨kk, 0, none⟩)) ∧ (L 4 = true → v53 = .slice (some ⟨ss, 0, none⟩) m m) ∧ (L 5 = true → v54 = .pointer (some ⟨b, 0, none⟩)) ∧ (L 6 = true → v55 = .pointer (some ⟨b, 0, none⟩)) ∧ (L 7 = true → v56 = .pointer (some ⟨b, 0, none⟩)) ∧ (L 8 = true → v57 = .slice (some ⟨g, 0, none⟩) 1 c) ∧ (L 9 = true → v58 = .int .i64 0) ∧ (L 10 = true → v59 = .pointer (some ⟨g, 0, none⟩)) ∧ (L 11 = true → v60 = .slice (some ⟨x, 0, none⟩) m cx) ∧ (L 12 = true → v61 = .int .i64 m)) (by kernel_rfl) (by kernel_rfl) ?_ ?_ ?_
        · obtain ⟨q0, q1, q2, q3, q4, q5, q6, q7, q8, q9, q10, q11, q12, e⟩ := put_selfP _ 49 50 51 52 53 54 55 56 57 58 59 60 61
          refine ⟨q0, q1, q2, q3, q4, q5, q6, q7, q8, q9, q10, q11, q12, e, ?_, ?_, ?_, ?_, ?_, ?_, ?_, ?_, ?_, ?_, ?_, ?_, ?_, ?_, ?_, ?_, ?_, ?_, ?_⟩
          · exact r1
          · exact r2
          · exact r3
          · exact rk
          · intro _; rfl
          · intro h; cases h
          all_goals (intro h; cases h)
        · go_light
          rintro L a' w' i o ⟨v49, v50, v51, v52, v53, v54, v55, v56, v57, v58, v59, v60, v61, ea, r1, r2, r3, rk, wa, wz, l0, l1, l2, l3, l4, l5, l6, l7, l8, l9, l10, l11, l12⟩ ho hL hpre
          have hi : i < 13 := (Array.getElem?_eq_some_iff.1 ho).1
          have cs : i = 0 ∨ i = 1 ∨ i = 2 ∨ i = 3 ∨ i = 4 ∨ i = 5 ∨ i = 6 ∨ i = 7 ∨ i = 8 ∨ i = 9 ∨ i = 10 ∨ i = 11 ∨ i = 12 := by omega
          rcases cs with rfl | rfl | rfl | rfl | rfl | rfl | rfl | rfl | rfl | rfl | rfl | rfl | rfl
          · obtain rfl := Option.some.inj ho
            refine wpOp_by ho rfl (fun K hK => ?_)
            subst ea
            go_simp
            apply hK
            refine ⟨.pointer (some ⟨oo, 1, none⟩), v50, v51, v52, v53, v54, v55, v56, v57, v58, v59, v60, v61, ?_, r1, r2, r3, rk, by simpa using wa, by simpa using wz, fun _ => rfl, by simpa using l1, by simpa using l2, by simpa using l3, by simpa using l4, by simpa using l5, by simpa using l6, by simpa using l7, by simpa using l8, by simpa using l9, by simpa using l10, by simpa using l11, by simpa using l12⟩
            simp only [Act.put, List.setIfInBounds_toArray, List.set_cons_zero, List.set_cons_succ] <;> rfl
          · obtain rfl := Option.some.inj ho
            have p0 : L 0 = true := hpre ⟨0, .data⟩ (by simp) rfl
            obtain rfl := l0 p0
            refine wpOp_by ho rfl (fun K hK => ?_)
            subst ea
            have c1 := r1
            have c2 := r2
            have c3 := r3
            go_simp
            apply hK
            refine ⟨.pointer (some ⟨oo, 1, none⟩), .slice (some ⟨kk, 0, none⟩) 1 1, v51, v52, v53, v54, v55, v56, v57, v58, v59, v60, v61, ?_, r1, r2, r3, rk, by simpa using wa, by simpa using wz, fun _ => rfl, fun _ => rfl, by simpa using l2, by simpa using l3, by simpa using l4, by simpa using l5, by simpa using l6, by simpa using l7, by simpa using l8, by simpa using l9, by simpa using l10, by simpa using l11, by simpa using l12⟩
            simp only [Act.put, List.setIfInBounds_toArray, List.set_cons_zero, List.set_cons_succ] <;> rfl
          · obtain rfl := Option.some.inj ho
            refine wpOp_by ho rfl (fun K hK => ?_)
            subst ea
            go_simp
            apply hK
            refine ⟨v49, v50, .int .i64 0, v52, v53, v54, v55, v56, v57, v58, v59, v60, v61, ?_, r1, r2, r3, rk, by simpa using wa, by simpa using wz, by simpa using l0, by simpa using l1, fun _ => rfl, by simpa using l3, by simpa using l4, by simpa using l5, by simpa using l6, by simpa using l7, by simpa using l8, by simpa using l9, by simpa using l10, by simpa using l11, by simpa using l12⟩
            simp only [Act.put, List.setIfInBounds_toArray, List.set_cons_zero, List.set_cons_succ] <;> rfl
          · obtain rfl := Option.some.inj ho
            have p1 : L 1 = true := hpre ⟨1, .data⟩ (by simp) rfl
            obtain rfl := l1 p1
            have p2 : L 2 = true := hpre ⟨2, .data⟩ (by simp) rfl
            obtain rfl := l2 p2
            refine wpOp_by ho rfl (fun K hK => ?_)
            subst ea
            go_simp
            apply hK
            refine ⟨v49, .slice (some ⟨kk, 0, none⟩) 1 1, .int .i64 0, .pointer (some ⟨kk, 0, none⟩), v53, v54, v55, v56, v57, v58, v59, v60, v61, ?_, r1, r2, r3, rk, by simpa using wa, by simpa using wz, by simpa using l0, fun _ => rfl, fun _ => rfl, fun _ => rfl, by simpa using l4, by simpa using l5, by simpa using l6, by simpa using l7, by simpa using l8, by simpa using l9, by simpa using l10, by simpa using l11, by simpa using l12⟩
            simp only [Act.put, List.setIfInBounds_toArray, List.set_cons_zero, List.set_cons_succ] <;> rfl
          · obtain rfl := Option.some.inj ho
            have p3 : L 3 = true := hpre ⟨3, .data⟩ (by simp) rfl
            obtain rfl := l3 p3
            refine wpOp_by ho rfl (fun K hK => ?_)
            subst ea
            have c1 := rk
            go_simp
            apply hK
            refine ⟨v49, v50, v51, .pointer (some ⟨kk, 0, none⟩), .slice (some ⟨ss, 0, none⟩) m m, v54, v55, v56, v57, v58, v59, v60, v61, ?_, r1, r2, r3, rk, by simpa using wa, by simpa using wz, by simpa using l0, by simpa using l1, by simpa using l2, fun _ => rfl, fun _ => rfl, by simpa using l5, by simpa using l6, by simpa using l7, by simpa using l8, by simpa using l9, by simpa using l10, by simpa using l11, by simpa using l12⟩
            simp only [Act.put, List.setIfInBounds_toArray, List.set_cons_zero, List.set_cons_succ] <;> rfl
          · obtain rfl := Option.some.inj ho
            refine wpOp_by ho rfl (fun K hK => ?_)
            subst ea
            go_simp
            apply hK
            refine ⟨v49, v50, v51, v52, v53, .pointer (some ⟨b, 0, none⟩), v55, v56, v57, v58, v59, v60, v61, ?_, r1, r2, r3, rk, by simpa using wa, by simpa using wz, by simpa using l0, by simpa using l1, by simpa using l2, by simpa using l3, by simpa using l4, fun _ => rfl, by simpa using l6, by simpa using l7, by simpa using l8, by simpa using l9, by simpa using l10, by simpa using l11, by simpa using l12⟩
            simp only [Act.put, List.setIfInBounds_toArray, List.set_cons_zero, List.set_cons_succ] <;> rfl
          · obtain rfl := Option.some.inj ho
            have p5 : L 5 = true := hpre ⟨5, .data⟩ (by simp) rfl
            obtain rfl := l5 p5
            refine wpOp_by ho rfl (fun K hK => ?_)
            subst ea
            go_simp
            apply hK
            refine ⟨v49, v50, v51, v52, v53, .pointer (some ⟨b, 0, none⟩), .pointer (some ⟨b, 0, none⟩), v56, v57, v58, v59, v60, v61, ?_, r1, r2, r3, rk, by simpa using wa, by simpa using wz, by simpa using l0, by simpa using l1, by simpa using l2, by simpa using l3, by simpa using l4, fun _ => rfl, fun _ => rfl, by simpa using l7, by simpa using l8, by simpa using l9, by simpa using l10, by simpa using l11, by simpa using l12⟩
            simp only [Act.put, List.setIfInBounds_toArray, List.set_cons_zero, List.set_cons_succ] <;> rfl
          · obtain rfl := Option.some.inj ho
            have p6 : L 6 = true := hpre ⟨6, .data⟩ (by simp) rfl
            obtain rfl := l6 p6
            refine wpOp_by ho rfl (fun K hK => ?_)
            subst ea
            go_simp
            apply hK
            refine ⟨v49, v50, v51, v52, v53, v54, .pointer (some ⟨b, 0, none⟩), .pointer (some ⟨b, 0, none⟩), v57, v58, v59, v60, v61, ?_, r1, r2, r3, rk, by simpa using wa, by simpa using wz, by simpa using l0, by simpa using l1, by simpa using l2, by simpa using l3, by simpa using l4, by simpa using l5, fun _ => rfl, fun _ => rfl, by simpa using l8, by simpa using l9, by simpa using l10, by simpa using l11, by simpa using l12⟩
            simp only [Act.put, List.setIfInBounds_toArray, List.set_cons_zero, List.set_cons_succ] <;> rfl
          · obtain rfl := Option.some.inj ho
            have p7 : L 7 = true := hpre ⟨7, .data⟩ (by simp) rfl
            obtain rfl := l7 p7
            refine wpOp_by ho rfl (fun K hK => ?_)
            subst ea
            have c1 := r1
            have c2 := r2
            have c3 := r3
            go_simp
            apply hK
            refine ⟨v49, v50, v51, v52, v53, v54, v55, .pointer (some ⟨b, 0, none⟩), .slice (some ⟨g, 0, none⟩) 1 c, v58, v59, v60, v61, ?_, r1, r2, r3, rk, by simpa using wa, by simpa using wz, by simpa using l0, by simpa using l1, by simpa using l2, by simpa using l3, by simpa using l4, by simpa using l5, by simpa using l6, fun _ => rfl, fun _ => rfl, by simpa using l9, by simpa using l10, by simpa using l11, by simpa using l12⟩
            simp only [Act.put, List.setIfInBounds_toArray, List.set_cons_zero, List.set_cons_succ] <;> rfl
          · obtain rfl := Option.some.inj ho
            refine wpOp_by ho rfl (fun K hK => ?_)
            subst ea
            go_simp
            apply hK
            refine ⟨v49, v50, v51, v52, v53, v54, v55, v56, v57, .int .i64 0, v59, v60, v61, ?_, r1, r2, r3, rk, by simpa using wa, by simpa using wz, by simpa using l0, by simpa using l1, by simpa using l2, by simpa using l3, by simpa using l4, by simpa using l5, by simpa using l6, by simpa using l7, by simpa using l8, fun _ => rfl, by simpa using l10, by simpa using l11, by simpa using l12⟩
            simp only [Act.put, List.setIfInBounds_toArray, List.set_cons_zero, List.set_cons_succ] <;> rfl
          · obtain rfl := Option.some.inj ho
            have p8 : L 8 = true := hpre ⟨8, .data⟩ (by simp) rfl
            obtain rfl := l8 p8
            have p9 : L 9 = true := hpre ⟨9, .data⟩ (by simp) rfl
            obtain rfl := l9 p9
            refine wpOp_by ho rfl (fun K hK => ?_)
            subst ea
            go_simp
            apply hK
            refine ⟨v49, v50, v51, v52, v53, v54, v55, v56, .slice (some ⟨g, 0, none⟩) 1 c, .int .i64 0, .pointer (some ⟨g, 0, none⟩), v60, v61, ?_, r1, r2, r3, rk, by simpa using wa, by simpa using wz, by simpa using l0, by simpa using l1, by simpa using l2, by simpa using l3, by simpa using l4, by simpa using l5, by simpa using l6, by simpa using l7, fun _ => rfl, fun _ => rfl, fun _ => rfl, by simpa using l11, by simpa using l12⟩
            simp only [Act.put, List.setIfInBounds_toArray, List.set_cons_zero, List.set_cons_succ] <;> rfl
          · obtain rfl := Option.some.inj ho
            have p10 : L 10 = true := hpre ⟨10, .data⟩ (by simp) rfl
            obtain rfl := l10 p10
            refine wpOp_by ho rfl (fun K hK => ?_)
            subst ea
            have c1 := r1
            have c2 := r2
            have c3 := r3
            go_simp
            apply hK
            refine ⟨v49, v50, v51, v52, v53, v54, v55, v56, v57, v58, .pointer (some ⟨g, 0, none⟩), .slice (some ⟨x, 0, none⟩) m cx, v61, ?_, r1, r2, r3, rk, by simpa using wa, by simpa using wz, by simpa using l0, by simpa using l1, by simpa using l2, by simpa using l3, by simpa using l4, by simpa using l5, by simpa using l6, by simpa using l7, by simpa using l8, by simpa using l9, fun _ => rfl, fun _ => rfl, by simpa using l12⟩
            simp only [Act.put, List.setIfInBounds_toArray, List.set_cons_zero, List.set_cons_succ] <;> rfl
          · obtain rfl := Option.some.inj ho
            have p4 : L 4 = true := hpre ⟨4, .data⟩ (by simp) rfl
            obtain rfl := l4 p4
            have p11 : L 11 = true := hpre ⟨11, .data⟩ (by simp) rfl
            obtain rfl := l11 p11
            obtain rfl := wa hL
            have rc := RC.out
            refine wpOp_by ho rfl (fun K hK => ?_)
            subst ea
            go_simp
            apply hK
            refine ⟨v49, v50, v51, v52, .slice (some ⟨ss, 0, none⟩) m m, v54, v55, v56, v57, v58, v59, .slice (some ⟨x, 0, none⟩) m cx, .int .i64 m, ?_, cell_row_ne r1 mo, cell_row_ne r2 mb, cell_row_ne r3 mg, cell_row_ne rk mk, by simp, fun _ => rfl, by simpa using l0, by simpa using l1, by simpa using l2, by simpa using l3, fun _ => rfl, by simpa using l5, by simpa using l6, by simpa using l7, by simpa using l8, by simpa using l9, by simpa using l10, fun _ => rfl, fun _ => rfl⟩
            simp only [Act.put, List.setIfInBounds_toArray, List.set_cons_zero, List.set_cons_succ] <;> rfl
        · rintro L a' w' ⟨v49, v50, v51, v52, v53, v54, v55, v56, v57, v58, v59, v60, v61, rfl, r1, r2, r3, rk, wa, wz, l0, l1, l2, l3, l4, l5, l6, l7, l8, l9, l10, l11, l12⟩ hall
          obtain rfl := l0 (hall 0 (by decide))
          obtain rfl := l1 (hall 1 (by decide))
          obtain rfl := l2 (hall 2 (by decide))
          obtain rfl := l3 (hall 3 (by decide))
          obtain rfl := l4 (hall 4 (by decide))
          obtain rfl := l5 (hall 5 (by decide))
          obtain rfl := l6 (hall 6 (by decide))
          obtain rfl := l7 (hall 7 (by decide))
          obtain rfl := l8 (hall 8 (by decide))
          obtain rfl := l9 (hall 9 (by decide))
          obtain rfl := l10 (hall 10 (by decide))
          obtain rfl := l11 (hall 11 (by decide))
          obtain rfl := l12 (hall 12 (by decide))
          simp only [Act.put, List.setIfInBounds_toArray, List.set_cons_zero, List.set_cons_succ]
          have hw3 := wz (hall 12 (by decide))
          have hB3 : Below w.heap.size w w' := by rw [hw3]; exact below_setRow (HO2.out.2.2.2.drew) (by have := HLT.out; omega) _
          have E3 : ∀ j, j ≠ ss → w'.heap[j]? = w2.heap[j]? := by
            intro j hj
            rw [hw3, setRow_other _ _ _ _ hj]
            rfl
          have HS4 : Hid (OwnRow w' ss m f) := by rw [hw3]; exact hS3.out
          have hne1 : w.heap.size ≠ ss := by have := HLT.out; omega
          have q1 : OutAt w' w.heap.size (.bool false) (.slice none 0 0) (.slice none 0 0) := (E3 _ hne1).trans HO2.out.1
          have q2 : OutAt w' oo (.bool false) (.slice (some ⟨kk, 0, none⟩) 1 1) (.slice none 0 0) := (E3 _ mo).trans HO2.out.2.1
          have q3 : MachAt w' b (.slice (some ⟨g, 0, none⟩) 1 c) (.slice none 0 0) := (E3 _ mb).trans HO2.out.2.2.1
          have FIN := hide (And.intro q1 (And.intro q2 (And.intro q3 (And.intro rk (And.intro HS4.out (And.intro HLT.out hB3))))))
          clear q1 q2 q3 hB3 E3 HS4 hne1 HO2 hS3 HLT r1 r2 r3 rk wa wz RC hw3 hall
          go_wp2
          go_roundw
          case rel =>
            refine ⟨1, rfl, by decide, hide (fun h => absurd h (by decide)), hide (fun _ => ?_)⟩
            subst hkk hoo
            exact ⟨FIN.out.1, FIN.out.2.1, FIN.out.2.2.1, ss, FIN.out.2.2.2⟩
          case measure => simp [intOf]
    · obtain rfl : i = 1 := by omega
      obtain ⟨s, o1, o2, m1, k1, s1, s2, hB1⟩ := h1.out rfl
      have p0 := o1.c0
      have p1 := o1.c1
      have p2 := o1.c2
      have f0 := o1.fz 0
      have f1 := o1.fz 1
      have f2 := o1.fz 2
      have u0 := o2.c0
      have u1 := o2.c1
      have u2 := o2.c2
      have v0 := m1.c0
      have v1 := m1.c1
      have FIN := hide (And.intro k1 (And.intro s1 (And.intro s2 hB1)))
      clear h0 h1 o1 o2 m1 k1 s1 hB1 d0 d1 dg
      go_wp2
      obtain ⟨k1, s1, _, hB1⟩ := FIN.out
      have n1 : w.heap.size + 1 + 1 ≠ w.heap.size := by omega
      refine bodyPost_ret (results_cellN (by rfl) _ _ _ ⟨w.heap.size, 0, none⟩ (.agg #[.bool false, .slice (some ⟨w.heap.size + 1 + 1, 0, none⟩) 1 1, .slice none 0 0]) rfl (cells_out ?_ ?_ ?_)) rfl ⟨w.heap.size + 1 + 1, s, rfl, cell_set_ne (cell_set_ne (cell_set_ne k1 n1) n1) n1, s1.block ?_, by omega, by omega, ((hB1.setCell (Nat.le_refl _) _).setCell (Nat.le_refl _) _).setCell (Nat.le_refl _) _⟩
      · simp [go_sem, p0]
      · simp [go_sem, p1]
      · simp [go_sem, p2]
      · rw [Below.heap_setCell _ _ _ _ (by show s ≠ w.heap.size; omega), Below.heap_setCell _ _ _ _ (by show s ≠ w.heap.size; omega), Below.heap_setCell _ _ _ _ (by show s ≠ w.heap.size; omega)]
end Go.Proofs.Ygctac
