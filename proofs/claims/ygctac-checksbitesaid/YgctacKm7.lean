/-
  law.ownMachine (made by tools/gen_km6.py).
-/
import Derived.Test.YgctacKm6
namespace Go.Proofs.Ygctac
open Go.RowKit
set_option linter.unusedVariables false
set_option linter.unusedSimpArgs false

set_option maxRecDepth 100000 in
set_option maxHeartbeats 4000000 in
theorem own_try (sb so n c : Nat) (q : Option Addr) (k kc : Nat) (V : Nat → Value) (S : Nat → Ent) (Q : Nat → Int) (hn : n ≤ 17) (hk : k ≤ 140737488355328) (w : World) (hs : StV w (some ⟨sb, so, none⟩) n c V S) (ho : OuP w q k kc Q) :
    Calls Tacg.prog 19 #[.agg #[.slice (some ⟨sb, so, none⟩) n c, .slice q k kc]] w fun rr w' => OwnR w n S k Q rr w' := by
  have rm := make31 n hn
  have t17 : ¬ ((17 : Int) < (n : Int)) := by omega
  have HST := hide hs
  have HOU := hide ho
  clear hs ho
  go_enter Tacg.func19, Tacg.ntmps19
  go_wp2_with fail
  have HO : Hid (OM w ((((w.alloc (.cells #[.slice (some ⟨sb, so, none⟩) n c, .slice q k kc] 34)).alloc (.cells #[.slice none 0 0, .slice none 0 0] 34)).alloc (.cells #[.slice (some ⟨w.heap.size + 1 + 1 + 1, 0, none⟩) n n, .slice none 0 0] 34)).alloc (.cells (madeCells #[.slice none 0 0] n) 23)) w.heap.size (w.heap.size + 1) (w.heap.size + 1 + 1) n 0 (.slice (some ⟨w.heap.size + 1 + 1 + 1, 0, none⟩) n n) (.slice (some ⟨sb, so, none⟩) n c) (.slice q k kc) S (fun _ => 0)) := hide (om_new w _ _ n S)
  have HRR : Hid (w.heap.size ≤ w.heap.size + 1) := hide (by omega)
  have HXO : Hid (w.heap.size ≠ w.heap.size + 1 + 1) := hide (by omega)
  have HRO : Hid (w.heap.size + 1 ≠ w.heap.size + 1 + 1) := hide (by omega)
  have HOG : Hid (w.heap.size ≤ w.heap.size + 1 + 1) := hide (by omega)
  clear rm
  generalize (((w.alloc (.cells #[.slice (some ⟨sb, so, none⟩) n c, .slice q k kc] 34)).alloc (.cells #[.slice none 0 0, .slice none 0 0] 34)).alloc (.cells #[.slice (some ⟨w.heap.size + 1 + 1 + 1, 0, none⟩) n n, .slice none 0 0] 34)).alloc (.cells (madeCells #[.slice none 0 0] n) 23) = w0 at *
  generalize w.heap.size + 1 + 1 + 1 = sbn at *
  generalize w.heap.size + 1 + 1 = og at *
  generalize w.heap.size + 1 = r at *
  go_loopw [5] (fun s5 W1 => ∃ (i : Nat) (G : Nat → Nat) (W : World), s5 = .int .i64 i ∧ i ≤ n ∧ W1 = W ∧ Hid (OM w W w.heap.size r og n i (.slice (some ⟨sbn, 0, none⟩) n n) (.slice (some ⟨sb, so, none⟩) n c) (.slice q k kc) S G)) (fun s5 _ => n - (intOf s5).toNat)
  case atStart => exact ⟨0, _, _, rfl, by omega, rfl, HO⟩
  case round =>
    obtain ⟨i, G, W, rfl, hi, hw, HO⟩ := hrel
    obtain rfl := hw.symm
    clear hw
    by_cases ci : i < n
    · have ci' : (i : Int) < (n : Int) := by omega
      obtain ⟨sb2, so2, h0, hci, hei⟩ := (HST.out.below HO.out.below).at ci
      cases h0
      obtain ⟨xx, hxx⟩ : ∃ xx, xx = S i := ⟨_, rfl⟩
      obtain ⟨vv, hvv⟩ : ∃ vv, vv = V i := ⟨_, rfl⟩
      rw [← hvv] at hci hei
      rw [← hxx] at hei
      have HXX := hide hxx
      clear hvv
      have HCI := hide hci
      have HEI := hide hei
      clear hxx hci hei
      go_wp2_with fail
      refine wp_region_from (J := fun a0 L a' w' => ∃ v25 v26 v27 v28 v29 v30 v31 v32 v33, a' = (((((((((a0.put (some 25) v25).put (some 26) v26).put (some 27) v27).put (some 28) v28).put (some 29) v29).put (some 30) v30).put (some 31) v31).put (some 32) v32).put (some 33) v33) ∧ (L 7 = false → ∃ d, w' = W.drewN d) ∧ (L 7 = true → L 9 = false → ∃ g, v32 = vOf (cp xx g) ∧ W.heap.size ≤ g ∧ CpOk w' xx g) ∧ (L 9 = true → ∃ g w2, w' = w2.setCell ⟨sbn, i, none⟩ (vOf (cp xx g)) ∧ W.heap.size ≤ g ∧ CpOk w2 xx g ∧ Below W.heap.size W w2) ∧ (L 9 = false → Below W.heap.size W w') ∧ (L 0 = true → v25 = .pointer (some ⟨og, 0, none⟩)) ∧ (L 1 = true → v26 = .slice (some ⟨sbn, 0, none⟩) n n) ∧ (L 2 = true → v27 = .int .i64 i) ∧ (L 3 = true → v28 = .slice (some ⟨sb, so, none⟩) n c) ∧ (L 4 = true → v29 = .int .i64 i) ∧ (L 5 = true → v30 = .pointer (some ⟨sb, so + i, none⟩)) ∧ (L 6 = true → v31 = vv) ∧ (L 8 = true → v33 = .pointer (some ⟨sbn, i, none⟩)) ∧ (L 9 = true → L 1 = true ∧ L 6 = true ∧ L 7 = true)) (by kernel_rfl) (by kernel_rfl) ?_ ?_ ?_
      · obtain ⟨q0, q1, q2, q3, q4, q5, q6, q7, q8, e⟩ := put_self9 _ 25 26 27 28 29 30 31 32 33
        refine ⟨q0, q1, q2, q3, q4, q5, q6, q7, q8, e, fun _ => ⟨1, rfl⟩, (fun h => by cases h), (fun h => by cases h), fun _ => (Below.refl _ _).drew, ?_⟩
        refine ⟨?_, ?_, ?_, ?_, ?_, ?_, ?_, ?_, ?_⟩ <;> (intro h; cases h)
      · go_light
        rintro L a' w' ix o ⟨v25, v26, v27, v28, v29, v30, v31, v32, v33, ea, wA, wB, wC, wD, l0, l1, l2, l3, l4, l5, l6, l8, leg⟩ ho hL hpre
        have hix : ix < 10 := (Array.getElem?_eq_some_iff.1 ho).1
        have cs : ix = 0 ∨ ix = 1 ∨ ix = 2 ∨ ix = 3 ∨ ix = 4 ∨ ix = 5 ∨ ix = 6 ∨ ix = 7 ∨ ix = 8 ∨ ix = 9 := by omega
        rcases cs with rfl | rfl | rfl | rfl | rfl | rfl | rfl | rfl | rfl | rfl
        · obtain rfl := Option.some.inj ho
          refine wpOp_by ho rfl (fun K hK => ?_)
          subst ea
          go_simp
          apply hK
          refine ⟨.pointer (some ⟨og, 0, none⟩), v26, v27, v28, v29, v30, v31, v32, v33, ?_, by simpa using wA, by simpa using wB, by simpa using wC, by simpa using wD, fun _ => rfl, by simpa using l1, by simpa using l2, by simpa using l3, by simpa using l4, by simpa using l5, by simpa using l6, by simpa using l8, fun h => by have hh := leg (by simpa using h); simp [hh]⟩
          simp only [Act.put, List.setIfInBounds_toArray, List.set_cons_zero, List.set_cons_succ] <;> rfl
        · obtain rfl := Option.some.inj ho
          have p0 : L 0 = true := hpre ⟨0, .data⟩ (by simp) rfl
          obtain rfl := l0 p0
          have h9 : L 9 = false := by
            cases h9 : L 9
            · rfl
            · exact absurd (leg h9).1 (by rw [hL]; decide)
          have hBw := wD h9
          refine wpOp_by ho rfl (fun K hK => ?_)
          subst ea
          have c0 : w'.cell? ⟨og, 0, none⟩ = some (.slice (some ⟨sbn, 0, none⟩) n n) := cell_of (HO.out.after hBw).own rfl
          go_simp
          apply hK
          refine ⟨.pointer (some ⟨og, 0, none⟩), .slice (some ⟨sbn, 0, none⟩) n n, v27, v28, v29, v30, v31, v32, v33, ?_, by simpa using wA, by simpa using wB, by simpa using wC, by simpa using wD, fun _ => rfl, fun _ => rfl, by simpa using l2, by simpa using l3, by simpa using l4, by simpa using l5, by simpa using l6, by simpa using l8, fun h => by have hh := leg (by simpa using h); simp [hh]⟩
          simp only [Act.put, List.setIfInBounds_toArray, List.set_cons_zero, List.set_cons_succ] <;> rfl
        · obtain rfl := Option.some.inj ho
          refine wpOp_by ho rfl (fun K hK => ?_)
          subst ea
          go_simp
          apply hK
          refine ⟨v25, v26, .int .i64 i, v28, v29, v30, v31, v32, v33, ?_, by simpa using wA, by simpa using wB, by simpa using wC, by simpa using wD, by simpa using l0, by simpa using l1, fun _ => rfl, by simpa using l3, by simpa using l4, by simpa using l5, by simpa using l6, by simpa using l8, fun h => by have hh := leg (by simpa using h); simp [hh]⟩
          simp only [Act.put, List.setIfInBounds_toArray, List.set_cons_zero, List.set_cons_succ] <;> rfl
        · obtain rfl := Option.some.inj ho
          refine wpOp_by ho rfl (fun K hK => ?_)
          subst ea
          go_simp
          apply hK
          refine ⟨v25, v26, v27, .slice (some ⟨sb, so, none⟩) n c, v29, v30, v31, v32, v33, ?_, by simpa using wA, by simpa using wB, by simpa using wC, by simpa using wD, by simpa using l0, by simpa using l1, by simpa using l2, fun _ => rfl, by simpa using l4, by simpa using l5, by simpa using l6, by simpa using l8, fun h => by have hh := leg (by simpa using h); simp [hh]⟩
          simp only [Act.put, List.setIfInBounds_toArray, List.set_cons_zero, List.set_cons_succ] <;> rfl
        · obtain rfl := Option.some.inj ho
          refine wpOp_by ho rfl (fun K hK => ?_)
          subst ea
          go_simp
          apply hK
          refine ⟨v25, v26, v27, v28, .int .i64 i, v30, v31, v32, v33, ?_, by simpa using wA, by simpa using wB, by simpa using wC, by simpa using wD, by simpa using l0, by simpa using l1, by simpa using l2, by simpa using l3, fun _ => rfl, by simpa using l5, by simpa using l6, by simpa using l8, fun h => by have hh := leg (by simpa using h); simp [hh]⟩
          simp only [Act.put, List.setIfInBounds_toArray, List.set_cons_zero, List.set_cons_succ] <;> rfl
        · obtain rfl := Option.some.inj ho
          have p3 : L 3 = true := hpre ⟨3, .data⟩ (by simp) rfl
          obtain rfl := l3 p3
          have p4 : L 4 = true := hpre ⟨4, .data⟩ (by simp) rfl
          obtain rfl := l4 p4
          refine wpOp_by ho rfl (fun K hK => ?_)
          subst ea
          go_simp
          apply hK
          refine ⟨v25, v26, v27, .slice (some ⟨sb, so, none⟩) n c, .int .i64 i, .pointer (some ⟨sb, so + i, none⟩), v31, v32, v33, ?_, by simpa using wA, by simpa using wB, by simpa using wC, by simpa using wD, by simpa using l0, by simpa using l1, by simpa using l2, fun _ => rfl, fun _ => rfl, fun _ => rfl, by simpa using l6, by simpa using l8, fun h => by have hh := leg (by simpa using h); simp [hh]⟩
          simp only [Act.put, List.setIfInBounds_toArray, List.set_cons_zero, List.set_cons_succ] <;> rfl
        · obtain rfl := Option.some.inj ho
          have p5 : L 5 = true := hpre ⟨5, .data⟩ (by simp) rfl
          obtain rfl := l5 p5
          have h9 : L 9 = false := by
            cases h9 : L 9
            · rfl
            · exact absurd (leg h9).2.1 (by rw [hL]; decide)
          have hBw := wD h9
          refine wpOp_by ho rfl (fun K hK => ?_)
          subst ea
          have c0 : w'.cell? ⟨sb, so + i, none⟩ = some vv := by rw [hBw.cell (World.block_lt_of_cell? W _ HCI.out), HCI.out]
          go_simp
          apply hK
          refine ⟨v25, v26, v27, v28, v29, .pointer (some ⟨sb, so + i, none⟩), vv, v32, v33, ?_, by simpa using wA, by simpa using wB, by simpa using wC, by simpa using wD, by simpa using l0, by simpa using l1, by simpa using l2, by simpa using l3, by simpa using l4, fun _ => rfl, fun _ => rfl, by simpa using l8, fun h => by have hh := leg (by simpa using h); simp [hh]⟩
          simp only [Act.put, List.setIfInBounds_toArray, List.set_cons_zero, List.set_cons_succ] <;> rfl
        · obtain rfl := Option.some.inj ho
          have p6 : L 6 = true := hpre ⟨6, .data⟩ (by simp) rfl
          obtain rfl := (l6 p6).symm
          have h9 : L 9 = false := by
            cases h9 : L 9
            · rfl
            · exact absurd (leg h9).2.2 (by rw [hL]; decide)
          have hBw := wD h9
          refine wpOp_by ho rfl (fun K hK => ?_)
          subst ea
          go_simp
          refine (ownNat_v (HEI.out.below hBw)).mono ?_
          rintro ee x7 ⟨rfl, hC7, hB7⟩
          have hB77 := hBw.trans (hB7.mono hBw.size)
          have hs7 := hBw.size
          apply hK
          refine ⟨v25, v26, v27, v28, v29, v30, vv, vOf (cp xx w'.heap.size), v33, ?_, (fun h => by simp at h), (fun _ _ => ⟨_, rfl, hs7, hC7⟩), (fun h => by simp [h9] at h), (fun _ => hB77), by simpa using l0, by simpa using l1, by simpa using l2, by simpa using l3, by simpa using l4, by simpa using l5, fun _ => rfl, by simpa using l8, fun h => by have hh := leg (by simpa using h); simp [hh]⟩
          simp only [Act.put, List.setIfInBounds_toArray, List.set_cons_zero, List.set_cons_succ] <;> rfl
        · obtain rfl := Option.some.inj ho
          have p1 : L 1 = true := hpre ⟨1, .data⟩ (by simp) rfl
          obtain rfl := l1 p1
          have p2 : L 2 = true := hpre ⟨2, .data⟩ (by simp) rfl
          obtain rfl := l2 p2
          refine wpOp_by ho rfl (fun K hK => ?_)
          subst ea
          go_simp
          apply hK
          refine ⟨v25, .slice (some ⟨sbn, 0, none⟩) n n, .int .i64 i, v28, v29, v30, v31, v32, .pointer (some ⟨sbn, i, none⟩), ?_, by simpa using wA, by simpa using wB, by simpa using wC, by simpa using wD, by simpa using l0, fun _ => rfl, fun _ => rfl, by simpa using l3, by simpa using l4, by simpa using l5, by simpa using l6, fun _ => rfl, fun h => by have hh := leg (by simpa using h); simp [hh]⟩
          simp only [Act.put, List.setIfInBounds_toArray, List.set_cons_zero, List.set_cons_succ] <;> rfl
        · obtain rfl := Option.some.inj ho
          have p8 : L 8 = true := hpre ⟨8, .data⟩ (by simp) rfl
          obtain rfl := l8 p8
          have p7 : L 7 = true := hpre ⟨7, .data⟩ (by simp) rfl
          obtain ⟨g, rfl, hgW, hgC⟩ := wB p7 hL
          have hBw := wD hL
          have hO9 := HO.out.after hBw
          obtain ⟨C9, k1, k2, k3, k4⟩ := om_row hO9
          have c0 := cell_of k1 (k4 i (Nat.le_refl _) ci)
          have f0 := frozen_of k1 i
          clear k1 k2 k3 k4 hO9
          obtain ⟨pp, ll, cc, hvv⟩ := vOf_slice (cp xx g)
          rw [hvv] at ea
          refine wpOp_by ho rfl (fun K hK => ?_)
          subst ea
          go_simp
          apply hK
          refine ⟨v25, v26, v27, v28, v29, v30, v31, .slice pp ll cc, .pointer (some ⟨sbn, i, none⟩), ?_, (fun h => by simp [p7] at h), (fun _ h => by simp at h), (fun _ => ⟨g, w', by rw [hvv], hgW, hgC, hBw⟩), (fun h => by simp at h), by simpa using l0, by simpa using l1, by simpa using l2, by simpa using l3, by simpa using l4, by simpa using l5, by simpa using l6, fun _ => rfl, fun _ => ⟨by simp [hpre ⟨1, .phase⟩ (by simp) rfl], by simp [hpre ⟨6, .phase⟩ (by simp) rfl], by simp [p7]⟩⟩
          simp only [Act.put, List.setIfInBounds_toArray, List.set_cons_zero, List.set_cons_succ] <;> rfl
      · rintro L a' w' ⟨v25, v26, v27, v28, v29, v30, v31, v32, v33, rfl, wA, wB, wC, wD, l0, l1, l2, l3, l4, l5, l6, l8, leg⟩ hall
        have h9 : L 9 = true := hall 9 (by decide)
        obtain ⟨g, w2, rfl, hgW, hgC, hB2⟩ := wC h9
        obtain rfl := l0 (hall 0 (by decide))
        obtain rfl := l1 (hall 1 (by decide))
        obtain rfl := l2 (hall 2 (by decide))
        obtain rfl := l3 (hall 3 (by decide))
        obtain rfl := l4 (hall 4 (by decide))
        obtain rfl := l5 (hall 5 (by decide))
        obtain rfl := (l6 (hall 6 (by decide))).symm
        obtain rfl := l8 (hall 8 (by decide))
        have HO2 := hide (by have := HO.out.set ci hB2 hgW (by rw [← HXX.out]; exact hgC); rw [← HXX.out] at this; exact this)
        clear wA wB wC wD l0 l1 l2 l3 l4 l5 l6 l8 leg hall
        generalize w2.setCell ⟨sbn, i, none⟩ (vOf (cp xx g)) = w3 at *
        simp only [Act.put, List.setIfInBounds_toArray, List.set_cons_zero, List.set_cons_succ]
        go_wp2_with fail
        go_roundw
        case rel => exact ⟨i + 1, _, _, by go_num, by omega, rfl, HO2⟩
        case measure => simp [intOf] <;> omega
    · obtain rfl : n = i := by omega
      rcases HOU.out with ⟨rfl, rfl, rfl⟩ | ⟨ob, oo, rfl, hkc, hq⟩
      · have hin := cell_of HO.out.inb (i := 1) rfl
        have ho0 := cell_of HO.out.own (i := 0) rfl
        have ho1 := cell_of HO.out.own (i := 1) rfl
        have hr0 := cell_of HO.out.res (i := 0) rfl
        have hr1 := cell_of HO.out.res (i := 1) rfl
        have fr0 := frozen_of HO.out.res 0
        have fr1 := frozen_of HO.out.res 1
        go_wp2_with fail
        refine bodyPost_ret (results_cellN (by rfl) _ _ _ ⟨r, 0, none⟩ (.agg #[(.slice (some ⟨sbn, 0, none⟩) n n), .slice none 0 0]) rfl (cells_mach34 ?_ ?_)) rfl ⟨(.slice (some ⟨sbn, 0, none⟩) n n), .slice none 0 0, G, rfl, (HO.out.st.set34 HO.out.res 0 (.slice (some ⟨sbn, 0, none⟩) n n)).set34 (heap_setCell_same W r 0 _ 34 _ HO.out.res) 1 _, .inl ⟨rfl, rfl⟩, (HO.out.below.setCell (p := ⟨r, 0, none⟩) HRR.out _).setCell (p := ⟨r, 1, none⟩) HRR.out _⟩
        · exact set_no (by decide) (set_same hr0)
        · exact set_same (set_no (by decide) hr1)
      · have hin := cell_of HO.out.inb (i := 1) rfl
        have ho0 := cell_of HO.out.own (i := 0) rfl
        have ho1 := cell_of HO.out.own (i := 1) rfl
        have fo1 := frozen_of HO.out.own 1
        have rm32 := make32 k hk
        rw [made_out] at rm32
        have HA : Hid (Below W.heap.size W (W.alloc (.cells (outL k fun _ => 0).toArray 92))) := hide ((Below.refl _ _).alloc (Nat.le_refl _) _)
        have hO5 := HO.out.after HA.out
        have hl5 : (W.alloc (.cells (outL k fun _ => 0).toArray 92)).heap[W.heap.size]? = some (.cells (outL k fun _ => 0).toArray 92) := alloc_last _ _
        have ne5 := type_ne hl5 hO5.own (by decide)
        have c5 := cell_of hO5.own (i := 1) rfl
        have c50 := cell_of hO5.own (i := 0) rfl
        have f5 := frozen_of hO5.own 1
        have i5 := cell_of hO5.inb (i := 1) rfl
        have nxo : w.heap.size ≠ og := HXO.out
        have i6 : ((W.alloc (.cells (outL k fun _ => 0).toArray 92)).setCell ⟨og, 1, none⟩ (.slice (some ⟨W.heap.size, 0, none⟩) k k)).cell? ⟨w.heap.size, 1, none⟩ = some (.slice (some ⟨ob, oo, none⟩) k kc) := by
          exact set_ne (by simp only; omega) i5
        have o6 : ((W.alloc (.cells (outL k fun _ => 0).toArray 92)).setCell ⟨og, 1, none⟩ (.slice (some ⟨W.heap.size, 0, none⟩) k k)).heap[W.heap.size]? = some (.cells (outL k fun _ => 0).toArray 92) := by
          rw [Below.heap_setCell _ _ _ _ ne5]; exact hl5
        have src : ∀ j v, (outL k Q)[j]? = some v → ((W.alloc (.cells (outL k fun _ => 0).toArray 92)).setCell ⟨og, 1, none⟩ (.slice (some ⟨W.heap.size, 0, none⟩) k k)).cell? ((⟨ob, oo, none⟩ : Addr).add j) = some v := by
          intro j v hv
          have hj : j < k := by
            have := (List.getElem?_eq_some_iff.1 hv).1
            simpa [outL_length] using this
          rw [outL_get k Q j hj] at hv
          obtain rfl := Option.some.inj hv
          rw [add_none]
          have hc0 := hq j hj
          have hl0 := World.block_lt_of_cell? w _ hc0
          have hge : w.heap.size ≤ og := HOG.out
          refine set_ne (by simp only at hl0 ⊢; omega) ?_
          rw [(HO.out.below.trans (HA.out.mono HO.out.below.size)).cell hl0]
          exact hc0
        have uo : ((W.alloc (.cells (outL k fun _ => 0).toArray 92)).setCell ⟨og, 1, none⟩ (.slice (some ⟨W.heap.size, 0, none⟩) k k)).heap[og]? = some (.cells #[(.slice (some ⟨sbn, 0, none⟩) n n), .slice (some ⟨W.heap.size, 0, none⟩) k k] 34) := heap_setCell_same _ og 1 _ 34 _ hO5.own
        have ur : ((W.alloc (.cells (outL k fun _ => 0).toArray 92)).setCell ⟨og, 1, none⟩ (.slice (some ⟨W.heap.size, 0, none⟩) k k)).heap[r]? = some (.cells #[.slice none 0 0, .slice none 0 0] 34) := by
          rw [Below.heap_setCell _ _ _ _ (fun e => HRO.out e)]; exact hO5.res
        have ub : Below w.heap.size w ((W.alloc (.cells (outL k fun _ => 0).toArray 92)).setCell ⟨og, 1, none⟩ (.slice (some ⟨W.heap.size, 0, none⟩) k k)) := hO5.below.setCell (p := ⟨og, 1, none⟩) HOG.out _
        have mv : ∀ (b : Nat) (C : Array Value) (t : TypeId), W.heap[b]? = some (.cells C t (0, 0)) → t ≠ 34 → b < W.heap.size ∧ ((W.alloc (.cells (outL k fun _ => 0).toArray 92)).setCell ⟨og, 1, none⟩ (.slice (some ⟨W.heap.size, 0, none⟩) k k)).heap[b]? = some (.cells C t (0, 0)) := by
          intro b C t hb ht
          refine ⟨heap_lt hb, ?_⟩
          rw [Below.heap_setCell _ _ _ _ (type_ne hb HO.out.own ht), HA.out.block b (heap_lt hb)]
          exact hb
        have HU := hide (And.intro uo (And.intro ur (And.intro ub (And.intro mv (And.intro (heap_lt HO.out.own) (heap_lt HO.out.res))))))
        have HIN := hide hin
        have HN := hide (And.intro c5 (And.intro f5 (And.intro i6 (And.intro o6 src))))
        clear hO5 hl5 c5 c50 f5 i5 i6 o6 src hq ne5 nxo ho0 ho1 fo1 uo ur ub mv
        have c5 := HN.out.1
        have f5 := HN.out.2.1
        have i6 := HN.out.2.2.1
        go_wp2_with (refine wpList_copy_splice rfl (.tmp 43) (.tmp 45) 32 32 rfl 92 Tacg.underlying32 size92 _ _ k k k kc rfl rfl W.heap.size 0 (outL k fun _ => 0) 92 HN.out.2.2.2.1 (outL k Q) (by rw [outL_length]; exact (Nat.min_self k).symm) (fun _ => ⟨rfl, ⟨ob, oo, none⟩, rfl, HN.out.2.2.2.2⟩) (by simp [outL_length]) (outL_one _ _) W.heap.size _ (Below.refl _ _) (Nat.le_refl _) ?_; intro w6 hg6 hb6; have HB6 := hide hb6; have HO6 := hide ((hb6.block og HU.out.2.2.2.2.1).trans HU.out.1); have HR6 := hide ((hb6.block r HU.out.2.2.2.2.2).trans HU.out.2.1); clear hb6; have q0 := cell_of HO6.out (i := 0) rfl; have q1 := cell_of HO6.out (i := 1) rfl; have r0 := cell_of HR6.out (i := 0) rfl; have r1 := cell_of HR6.out (i := 1) rfl; have fr0 := frozen_of HR6.out 0; have fr1 := frozen_of HR6.out 1)
        have hst : OwnSt w.heap.size w6 (.slice (some ⟨sbn, 0, none⟩) n n) n S G := HO.out.st.moved (fun b C t hb ht => by
          have := HU.out.2.2.2.1 b C t hb ht
          rw [HB6.out.block b this.1]
          exact this.2)
        have hou : OwnOu w.heap.size w6 (.slice (some ⟨W.heap.size, 0, none⟩) k k) k Q := by
          have := hg6.out
          rw [splice_whole _ _ (by simp [outL_length])] at this
          exact .inr ⟨W.heap.size, rfl, HO.out.below.size, _, this, by simp [outL_length], fun j hj => by have := outL_get k Q j hj; simpa using this⟩
        refine bodyPost_ret (results_cellN (by rfl) _ _ _ ⟨r, 0, none⟩ (.agg #[(.slice (some ⟨sbn, 0, none⟩) n n), .slice (some ⟨W.heap.size, 0, none⟩) k k]) rfl (cells_mach34 ?_ ?_)) rfl ⟨(.slice (some ⟨sbn, 0, none⟩) n n), .slice (some ⟨W.heap.size, 0, none⟩) k k, G, rfl, (hst.set34 HR6.out 0 _).set34 (heap_setCell_same w6 r 0 _ 34 _ HR6.out) 1 _, (hou.set34 HR6.out 0 _).set34 (heap_setCell_same w6 r 0 _ 34 _ HR6.out) 1 _, ((HU.out.2.2.1.trans (HB6.out.mono HO.out.below.size)).setCell (p := ⟨r, 0, none⟩) HRR.out _).setCell (p := ⟨r, 1, none⟩) HRR.out _⟩
        · exact set_no (by decide) (set_same r0)
        · exact set_same (set_no (by decide) r1)
end Go.Proofs.Ygctac
