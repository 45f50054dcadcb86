/-
  THE WALK of law.DDAddNear.
-/
import Derived.Test.YgctacAddFin
import Derived.Deep.RegionHeld3
import Derived.Test.YgctacInv
import Derived.Deep.Light
import Derived.Deep.DeepCutAuto
namespace Go.Proofs.Ygctac
open Go.RowKit
open Fp (fv rnd)
set_option linter.unusedVariables false
set_option linter.unusedSimpArgs false
set_option linter.unnecessarySimpa false

theorem cell_new0 (w : World) (x y : Value) (t : TypeId) : (w.alloc (.cells #[x, y] t)).cell? ⟨w.heap.size, 0, none⟩ = some x := by
  rw [World.cell?, heap_alloc_last]; rfl
theorem cell_new1 (w : World) (x y : Value) (t : TypeId) : (w.alloc (.cells #[x, y] t)).cell? ⟨w.heap.size, 1, none⟩ = some y := by
  rw [World.cell?, heap_alloc_last]; rfl
theorem cell_alloc {w : World} {a : Addr} {v : Value} (o : Obj) (h : w.cell? a = some v) : (w.alloc o).cell? a = some v := by
  have hb := World.block_lt_of_cell? w a h
  rw [World.cell?_of_block (w := w) (heap_alloc_old w o a.block hb), h]
theorem belowT {w x y : World} (h : Below w.heap.size w x) (k : Below x.heap.size x y) : Below w.heap.size w y := h.trans (k.mono h.size)

theorem there_below {w w' : World} (h : Below w.heap.size w w') {b n : Nat} (ht : w.there b 0 n) : w'.there b 0 n := by
  intro j hj
  obtain ⟨h1, h2⟩ := ht j hj
  obtain ⟨u, hu⟩ := Option.isSome_iff_exists.1 h1
  have hb := World.block_lt_of_cell? w _ hu
  exact ⟨by rw [h.cell hb]; exact h1, by rw [h.frozen hb]; exact h2⟩
theorem there_alloc {w : World} (o : Obj) {b n : Nat} (ht : w.there b 0 n) : (w.alloc o).there b 0 n := World.there_alloc ht o
theorem there_new (w : World) : (w.alloc (.cells Tacg.zeroCells67 67)).there w.heap.size 0 68 := by
  have := cells_there (heap_alloc_last w (.cells Tacg.zeroCells67 67 (0, 0)))
  rwa [show Tacg.zeroCells67.size = 68 from by rw [zero67, accC_size]] at this
theorem there_new1 (w : World) (o : Obj) : ((w.alloc o).alloc (.cells Tacg.zeroCells67 67)).there (w.heap.size + 1) 0 68 := by
  have := there_new (w.alloc o)
  rwa [size_alloc] at this
theorem one_map (n : Int) : ∀ v ∈ (toW n).map (Value.int .u64), v.oneCell' = true := by
  intro v hv
  obtain ⟨x, _, rfl⟩ := List.mem_map.1 hv
  rfl
theorem len_map (n : Int) : ((toW n).map (Value.int .u64)).length = 68 := by simp [toW_length]

/-- The store of a whole accumulator, as one operation. -/
theorem wp_store_acc {op : Oper} {a : Act} {w : World} {K : Act → World → Prop} {Q : Exit → Act → World → Prop} (x y : Operand) (ho : op.op = .store 67 x y)
    (b : Nat) (n : Int) (C : Array Value) (hx : a.eval x = .pointer (some ⟨b, 0, none⟩)) (hy : a.eval y = .agg (accC n)) (hb : w.heap[b]? = some (.cells C 67 (0, 0))) (hC : C.size = 68) (hd : op.dst = none)
    (h : K a (putB w b (accC n))) : op.wp Tacg.prog a w K Q := by
  have ht : w.there b 0 (accC n).size := by rw [accC_size, ← hC]; exact cells_there hb
  refine wp_store_mid (P := Tacg.prog) 67 x y ho b 0 (accC n) hx hy ht (by rw [size67, accC_size]) (accC_one n) ?_
  rw [setCells_whole w b C (accC n) 67 hb (by rw [hC, accC_size]), hd]
  exact h

theorem wp_load_acc {op : Oper} {a : Act} {w : World} {K : Act → World → Prop} {Q : Exit → Act → World → Prop} (x : Operand) (ho : op.op = .load 67 x)
    (b : Nat) (n : Int) (hx : a.eval x = .pointer (some ⟨b, 0, none⟩)) (hA : AccAt w b n) (d : Tmp) (hd : op.dst = some d)
    (h : K (a.put (some d) (.agg (accC n))) w) : op.wp Tacg.prog a w K Q := by
  refine wp_load_mid (P := Tacg.prog) 67 x ho b 0 hx (accC n).toList _ hA.range Tacg.underlying67 rfl (by rw [size67]; simp [accC_size]) ?_
  rw [hd]
  simpa using h

set_option maxRecDepth 100000 in
set_option maxHeartbeats 4000000 in
theorem ddAddNear_any (a b c d : Nat) (ha : a < 18446744073709551616) (hb : b < 18446744073709551616) (hc : c < 18446744073709551616) (hd : d < 18446744073709551616) (w : World) :
    Calls Tacg.prog 9 #[.int .u64 a, .int .u64 b, .int .u64 c, .int .u64 d] w fun r w' => r = .returned (.bool true) ∧ Below w.heap.size w w' := by
  go_enter Tacg.func9, Tacg.ntmps9
  go_wp2_with fail
  refine (twofold_any a b ha hb _).mono ?_
  rintro e W1 ⟨xh, xl, okx, rfl, gx, hW1⟩
  have Gx := hide gx
  clear gx
  go_wp2_with fail
  refine (twofold_any c d hc hd _).mono ?_
  rintro e W2 ⟨yh, yl, oky, rfl, gy, hW2⟩
  have Gy := hide gy
  clear gy
  have kB := hide (((hW1.alloc hW1.size _).trans (hW2.mono (by rw [size_alloc]; have := hW1.size; omega))).alloc (by have h1 := hW1.size; have h2 := hW2.size; rw [size_alloc] at h2; omega) (.cells #[.float .f64 yh, .float .f64 yl] 82))
  have x0 := cell_alloc (.cells #[.float .f64 yh, .float .f64 yl] 82) (below_keeps hW2 (cell_new0 W1 (.float .f64 xh) (.float .f64 xl) 82))
  have x1 := cell_alloc (.cells #[.float .f64 yh, .float .f64 yl] 82) (below_keeps hW2 (cell_new1 W1 (.float .f64 xh) (.float .f64 xl) 82))
  have y0 := cell_new0 W2 (.float .f64 yh) (.float .f64 yl) 82
  have y1 := cell_new1 W2 (.float .f64 yh) (.float .f64 yl) 82
  clear hW1 hW2
  rcases okx with _ | _
  · go_wp2
    go_ret
    exact ⟨rfl, kB.out⟩
  rcases oky with _ | _
  · go_wp2
    go_ret
    exact ⟨rfl, kB.out⟩
  have gx := Gx.out rfl
  have gy := Gy.out rfl
  clear Gx Gy
  obtain ⟨zh, zl, hz, fzh, fzl, zn, zc, zb, zs, ts⟩ := add_words gx gy
  have ZF := hide (And.intro fzh (And.intro fzl (And.intro zn (And.intro zc (And.intro zb (And.intro zs ts))))))
  clear fzh fzl zn zc zb zs ts
  go_upto_region 5 with fail
  generalize W2.alloc (.cells #[.float .f64 yh, .float .f64 yl] 82) = V at *
  generalize W1.heap.size = bx at *
  generalize W2.heap.size = bY at *
  clear W1 W2
  go_wp2_with fail
  refine (ddAdd_any hz _).mono ?_
  rintro e W3 ⟨rfl, hW3⟩
  have X0 := cell_alloc (.cells #[.float .f64 zh, .float .f64 zl] 82) (below_keeps hW3 x0)
  have X1 := cell_alloc (.cells #[.float .f64 zh, .float .f64 zl] 82) (below_keeps hW3 x1)
  have Y0 := cell_alloc (.cells #[.float .f64 zh, .float .f64 zl] 82) (below_keeps hW3 y0)
  have Y1 := cell_alloc (.cells #[.float .f64 zh, .float .f64 zl] 82) (below_keeps hW3 y1)
  have Z0 := cell_new0 W3 (.float .f64 zh) (.float .f64 zl) 82
  have Z1 := cell_new1 W3 (.float .f64 zh) (.float .f64 zl) 82
  have KB := hide ((belowT kB.out hW3).alloc (by have := (belowT kB.out hW3).size; exact this) (.cells #[.float .f64 zh, .float .f64 zl] 82))
  clear x0 x1 y0 y1 kB hW3 hz
  go_upto_region 6 with fail
  generalize W3.alloc (.cells #[.float .f64 zh, .float .f64 zl] 82) = U at *
  generalize W3.heap.size = bz at *
  clear W3 V
  have fx := hide gx
  have fy := hide gy
  clear gx gy
  go_cut [14, 15] (fun s14 s15 w1 => ∃ bs bm, s14 = .pointer (some ⟨bs, 0, none⟩) ∧ s15 = .pointer (some ⟨bm, 0, none⟩) ∧ bs ≠ bm ∧ AccAt w1 bs (av xh + av xl) ∧ AccAt w1 bm (av yh + av yl) ∧ Below w.heap.size w w1 ∧ w.heap.size ≤ bs ∧ w.heap.size ≤ bm ∧ w1.cell? ⟨bz, 0, none⟩ = some (.float .f64 zh) ∧ w1.cell? ⟨bz, 1, none⟩ = some (.float .f64 zl))
  case first =>
    have HX := hide (And.intro X0 X1)
    have HY := hide (And.intro Y0 Y1)
    have HZ := hide (And.intro Z0 Z1)
    clear X0 X1 Y0 Y1 Z0 Z1
    refine wp_region_from (J := fun a0 L a' w' => ∃ v38 v39 v40 v41 v14 v15, a' = (((((a0.put (some 38) v38).put (some 39) v39).put (some 40) v40).put (some 41) v41).put (some 14) v14).put (some 15) v15 ∧
      Below U.heap.size U w' ∧ (L 0 = true → v38 = .agg #[.float .f64 xh, .float .f64 xl]) ∧ (L 1 = true → v39 = .agg (accC (av xh + av xl))) ∧ (L 2 = true → v40 = .agg #[.float .f64 yh, .float .f64 yl]) ∧ (L 3 = true → v41 = .agg (accC (av yh + av yl))) ∧
      (L 4 = true → ∃ b, v14 = .pointer (some ⟨b, 0, none⟩) ∧ U.heap.size ≤ b ∧ AccAt w' b (if L 6 = true then av xh + av xl else 0) ∧ (L 5 = true → v15 ≠ .pointer (some ⟨b, 0, none⟩))) ∧
      (L 5 = true → ∃ b, v15 = .pointer (some ⟨b, 0, none⟩) ∧ U.heap.size ≤ b ∧ AccAt w' b (if L 7 = true then av yh + av yl else 0)) ∧ (L 6 = true → L 4 = true) ∧ (L 7 = true → L 5 = true)) (by kernel_rfl) (by kernel_rfl) ?_ ?_ ?_
    · obtain ⟨v1, v2, v3, v4, v5, v6, e⟩ := put_self6 _ 38 39 40 41 14 15
      refine ⟨v1, v2, v3, v4, v5, v6, e, (Below.refl _ _).drew, ?_, ?_, ?_, ?_, ?_, ?_, ?_, ?_⟩ <;> (intro h; cases h)
    · go_light
      rintro L a' w' i o ⟨v38, v39, v40, v41, v14, v15, rfl, hB, l0, l1, l2, l3, l4, l5, l6, l7⟩ ho hL hpre
      have hi : i < 8 := (Array.getElem?_eq_some_iff.1 ho).1
      have cs : i = 0 ∨ i = 1 ∨ i = 2 ∨ i = 3 ∨ i = 4 ∨ i = 5 ∨ i = 6 ∨ i = 7 := by omega
      rcases cs with rfl | rfl | rfl | rfl | rfl | rfl | rfl | rfl
      · obtain rfl := Option.some.inj ho
        refine wpOp_by rfl rfl (fun K hK => ?_)
        have c0 := below_keeps hB HX.out.1
        have c1 := below_keeps hB HX.out.2
        go_simp
        apply hK
        refine ⟨.agg #[.float .f64 xh, .float .f64 xl], v39, v40, v41, v14, v15, ?_, hB, fun _ => rfl, by simpa using l1, by simpa using l2, by simpa using l3, by simpa using l4, by simpa using l5, by simpa using l6, by simpa using l7⟩
        simp only [Act.put, List.setIfInBounds_toArray, List.set_cons_zero, List.set_cons_succ]
      · obtain rfl := Option.some.inj ho
        have p0 : L 0 = true := hpre ⟨0, .data⟩ (by simp) rfl
        obtain rfl := l0 p0
        refine wpOp_by rfl rfl (fun K hK => ?_)
        go_simp
        refine (accDD_any xh xl (fin_lt fx.out.fh) fx.out.fh (fin_lt fx.out.fl) fx.out.fl _).mono ?_
        rintro r x ⟨rfl, hx⟩
        apply hK
        refine ⟨.agg #[.float .f64 xh, .float .f64 xl], .agg (accC (av xh + av xl)), v40, v41, v14, v15, ?_, belowT hB hx, fun _ => rfl, fun _ => rfl, by simpa using l2, by simpa using l3, ?_, ?_, by simpa using l6, by simpa using l7⟩
        · simp only [Act.put, List.setIfInBounds_toArray, List.set_cons_zero, List.set_cons_succ]
        · intro h
          obtain ⟨b, e1, e2, e3, e4⟩ := l4 (by simpa using h)
          exact ⟨b, e1, e2, by simpa using e3.below hx e3.lt, by simpa using e4⟩
        · intro h
          obtain ⟨b, e1, e2, e3⟩ := l5 (by simpa using h)
          exact ⟨b, e1, e2, by simpa using e3.below hx e3.lt⟩
      · obtain rfl := Option.some.inj ho
        refine wpOp_by rfl rfl (fun K hK => ?_)
        have c0 := below_keeps hB HY.out.1
        have c1 := below_keeps hB HY.out.2
        go_simp
        apply hK
        refine ⟨v38, v39, .agg #[.float .f64 yh, .float .f64 yl], v41, v14, v15, ?_, hB, by simpa using l0, by simpa using l1, fun _ => rfl, by simpa using l3, by simpa using l4, by simpa using l5, by simpa using l6, by simpa using l7⟩
        simp only [Act.put, List.setIfInBounds_toArray, List.set_cons_zero, List.set_cons_succ]
      · obtain rfl := Option.some.inj ho
        have p0 : L 2 = true := hpre ⟨2, .data⟩ (by simp) rfl
        obtain rfl := l2 p0
        refine wpOp_by rfl rfl (fun K hK => ?_)
        go_simp
        refine (accDD_any yh yl (fin_lt fy.out.fh) fy.out.fh (fin_lt fy.out.fl) fy.out.fl _).mono ?_
        rintro r x ⟨rfl, hx⟩
        apply hK
        refine ⟨v38, v39, .agg #[.float .f64 yh, .float .f64 yl], .agg (accC (av yh + av yl)), v14, v15, ?_, belowT hB hx, by simpa using l0, by simpa using l1, fun _ => rfl, fun _ => rfl, ?_, ?_, by simpa using l6, by simpa using l7⟩
        · simp only [Act.put, List.setIfInBounds_toArray, List.set_cons_zero, List.set_cons_succ]
        · intro h
          obtain ⟨b, e1, e2, e3, e4⟩ := l4 (by simpa using h)
          exact ⟨b, e1, e2, by simpa using e3.below hx e3.lt, by simpa using e4⟩
        · intro h
          obtain ⟨b, e1, e2, e3⟩ := l5 (by simpa using h)
          exact ⟨b, e1, e2, by simpa using e3.below hx e3.lt⟩
      · obtain rfl := Option.some.inj ho
        have n6 : L 6 = false := by
          cases h : L 6 with
          | false => rfl
          | true => rw [l6 h] at hL; cases hL
        refine wpOp_by rfl rfl (fun K hK => ?_)
        go_simp
        apply hK
        refine ⟨v38, v39, v40, v41, .pointer (some ⟨w'.heap.size, 0, none⟩), v15, ?_, hB.alloc hB.size _, by simpa using l0, by simpa using l1, by simpa using l2, by simpa using l3, ?_, ?_, by simp, by simpa using l7⟩
        · simp only [Act.put, List.setIfInBounds_toArray, List.set_cons_zero, List.set_cons_succ]
        · intro h
          refine ⟨w'.heap.size, rfl, hB.size, by simpa [n6] using accAt_new w', fun h5 => ?_⟩
          obtain ⟨b, e1, e2, e3⟩ := l5 (by simpa using h5)
          have := e3.lt
          rw [e1]
          intro e
          simp at e <;> omega
        · intro h
          obtain ⟨b, e1, e2, e3⟩ := l5 (by simpa using h)
          exact ⟨b, e1, e2, by simpa using e3.alloc _⟩
      · obtain rfl := Option.some.inj ho
        have n7 : L 7 = false := by
          cases h : L 7 with
          | false => rfl
          | true => rw [l7 h] at hL; cases hL
        refine wpOp_by rfl rfl (fun K hK => ?_)
        go_simp
        apply hK
        refine ⟨v38, v39, v40, v41, v14, .pointer (some ⟨w'.heap.size, 0, none⟩), ?_, hB.alloc hB.size _, by simpa using l0, by simpa using l1, by simpa using l2, by simpa using l3, ?_, ?_, by simpa using l6, by simp⟩
        · simp only [Act.put, List.setIfInBounds_toArray, List.set_cons_zero, List.set_cons_succ]
        · intro h
          obtain ⟨b, e1, e2, e3, e4⟩ := l4 (by simpa using h)
          refine ⟨b, e1, e2, by simpa using e3.alloc _, fun _ => ?_⟩
          have := e3.lt
          intro e
          simp at e <;> omega
        · intro h
          exact ⟨w'.heap.size, rfl, hB.size, by simpa [n7] using accAt_new w'⟩
      · obtain rfl := Option.some.inj ho
        have p4 : L 4 = true := hpre ⟨4, .data⟩ (by simp) rfl
        have p1 : L 1 = true := hpre ⟨1, .data⟩ (by simp) rfl
        have p5 : L 5 = true := hpre ⟨5, .phase⟩ (by simp) rfl
        obtain rfl := l1 p1
        obtain ⟨b, rfl, e2, e3, e4⟩ := l4 p4
        obtain ⟨b', rfl, f2, f3⟩ := l5 p5
        have hne : b ≠ b' := by
          intro e
          subst e
          exact e4 p5 rfl
        refine wpOp_by rfl rfl (fun K hK => ?_)
        simp only [Act.put, List.setIfInBounds_toArray, List.set_cons_zero, List.set_cons_succ]
        refine wp_store_acc (.tmp 14) (.tmp 39) rfl b (av xh + av xl) (accC _) rfl rfl e3 (accC_size _) rfl ?_
        apply hK
        refine ⟨v38, .agg (accC (av xh + av xl)), v40, v41, .pointer (some ⟨b, 0, none⟩), .pointer (some ⟨b', 0, none⟩), ?_, below_putB hB e2 _, by simpa using l0, fun _ => rfl, by simpa using l2, by simpa using l3, ?_, ?_, fun _ => by simpa using p4, by simpa using l7⟩
        · simp only [Act.put, List.setIfInBounds_toArray, List.set_cons_zero, List.set_cons_succ]
        · intro h
          exact ⟨b, rfl, e2, by simpa using e3.put (av xh + av xl), fun _ => by simpa using Ne.symm hne⟩
        · intro h
          exact ⟨b', rfl, f2, by simpa using f3.other (Ne.symm hne) _⟩
      · obtain rfl := Option.some.inj ho
        have p4 : L 4 = true := hpre ⟨4, .phase⟩ (by simp) rfl
        have p3 : L 3 = true := hpre ⟨3, .data⟩ (by simp) rfl
        have p5 : L 5 = true := hpre ⟨5, .data⟩ (by simp) rfl
        obtain rfl := l3 p3
        obtain ⟨b, rfl, e2, e3, e4⟩ := l4 p4
        obtain ⟨b', rfl, f2, f3⟩ := l5 p5
        have hne : b ≠ b' := by
          intro e
          subst e
          exact e4 p5 rfl
        refine wpOp_by rfl rfl (fun K hK => ?_)
        simp only [Act.put, List.setIfInBounds_toArray, List.set_cons_zero, List.set_cons_succ]
        refine wp_store_acc (.tmp 15) (.tmp 41) rfl b' (av yh + av yl) (accC _) rfl rfl f3 (accC_size _) rfl ?_
        apply hK
        refine ⟨v38, v39, v40, .agg (accC (av yh + av yl)), .pointer (some ⟨b, 0, none⟩), .pointer (some ⟨b', 0, none⟩), ?_, below_putB hB f2 _, by simpa using l0, by simpa using l1, by simpa using l2, fun _ => rfl, ?_, ?_, by simpa using l6, fun _ => by simpa using p5⟩
        · simp only [Act.put, List.setIfInBounds_toArray, List.set_cons_zero, List.set_cons_succ]
        · intro h
          exact ⟨b, rfl, e2, by simpa using e3.other hne _, fun _ => by simpa using Ne.symm hne⟩
        · intro h
          exact ⟨b', rfl, f2, by simpa using f3.put (av yh + av yl)⟩
    · rintro L a' w' ⟨v38, v39, v40, v41, v14, v15, rfl, hB, l0, l1, l2, l3, l4, l5, l6, l7⟩ hall
      obtain ⟨b, rfl, e2, e3, e4⟩ := l4 (hall 4 (by decide))
      obtain ⟨b', rfl, f2, f3⟩ := l5 (hall 5 (by decide))
      rw [if_pos (hall 6 (by decide))] at e3
      rw [if_pos (hall 7 (by decide))] at f3
      have hne : b ≠ b' := by
        intro e
        subst e
        exact e4 (hall 5 (by decide)) rfl
      simp only [Act.put, List.setIfInBounds_toArray, List.set_cons_zero, List.set_cons_succ]
      have sU := KB.out.size
      go_wp2_with fail
      go_meet
      exact ⟨b, b', rfl, rfl, hne, e3, f3, KB.out.trans (hB.mono sU), by omega, by omega, below_keeps hB HZ.out.1, below_keeps hB HZ.out.2⟩
  case rest =>
    obtain ⟨bs, bm, rfl, rfl, hne, hA1, hA2, hB1, g1, g2, z0, z1⟩ := hcut
    clear X0 X1 Y0 Y1 Z0 Z1 KB
    have fz := hide (And.intro ZF.out.1 ZF.out.2.1)
    have FN := hide (add_fin ZF.out.2.2.2.2.1 ZF.out.2.2.2.2.2.1 ZF.out.2.2.2.2.2.2)
    obtain ⟨tt, tt1, tt2⟩ := normal_of ZF.out.1 ZF.out.2.1 ZF.out.2.2.1 ZF.out.2.2.2.1
    clear ZF fx fy
    go_wp2_with fail
    refine (accAdd_any bs bm _ _ hne _ hA1 hA2).mono ?_
    rintro e w1 ⟨rfl, d1, rfl⟩
    generalize av xh + av xl + (av yh + av yl) = S at *
    have hS := hide ((hA1.put S).drewN d1)
    have hB2 := hide (below_drewN (below_putB hB1 g1 (accC S)) d1)
    have hbz : bz ≠ bs := by
      intro e
      subst e
      have := hA1.cell 0 (by decide)
      rw [this] at z0
      cases z0
    have Z0 : ((putB wc bs (accC S)).drewN d1).cell? ⟨bz, 0, none⟩ = some (.float .f64 zh) := by
      rw [World.cell?_of_block (w := wc) (putB_heap wc bs (accC S) bz hbz)]; exact z0
    have Z1 : ((putB wc bs (accC S)).drewN d1).cell? ⟨bz, 1, none⟩ = some (.float .f64 zl) := by
      rw [World.cell?_of_block (w := wc) (putB_heap wc bs (accC S) bz hbz)]; exact z1
    clear hA1 hA2 hB1 z0 z1 hne g2
    go_upto_region 8 with fail
    generalize (putB wc bs (accC S)).drewN d1 = U2 at *
    clear wc
    have HZ := hide (And.intro Z0 Z1)
    clear Z0 Z1
    go_cut [16] (fun s16 w1 => ∃ bo, s16 = .pointer (some ⟨bo, 0, none⟩) ∧ bo ≠ bs ∧ AccAt w1 bo (absW (av zh + av zl + -S)) ∧ AccAt w1 bs S ∧ Below w.heap.size w w1 ∧ w.heap.size ≤ bo ∧ w1.cell? ⟨bz, 0, none⟩ = some (.float .f64 zh) ∧ w1.cell? ⟨bz, 1, none⟩ = some (.float .f64 zl))
    case first =>
      refine wp_region_from (J := fun a0 L a' w' => ∃ v43 v44 v45 v46 v16, a' = ((((a0.put (some 43) v43).put (some 44) v44).put (some 45) v45).put (some 46) v46).put (some 16) v16 ∧
        Below U2.heap.size U2 w' ∧ (L 0 = true → v43 = .agg #[.float .f64 zh, .float .f64 zl]) ∧ (L 1 = true → v44 = .agg (accC (av zh + av zl))) ∧ (L 2 = true → v45 = .agg (accC S)) ∧ (L 3 = true → v46 = .agg (accC (absW (av zh + av zl + -S)))) ∧
        (L 4 = true → ∃ b, v16 = .pointer (some ⟨b, 0, none⟩) ∧ U2.heap.size ≤ b ∧ AccAt w' b (if L 5 = true then absW (av zh + av zl + -S) else 0)) ∧ (L 5 = true → L 4 = true)) (by kernel_rfl) (by kernel_rfl) ?_ ?_ ?_
      · obtain ⟨v1, v2, v3, v4, v5, e⟩ := put_self5 _ 43 44 45 46 16
        refine ⟨v1, v2, v3, v4, v5, e, (Below.refl _ _).drew, ?_, ?_, ?_, ?_, ?_, ?_⟩ <;> (intro h; cases h)
      · go_light
        rintro L a' w' i o ⟨v43, v44, v45, v46, v16, rfl, hB, l0, l1, l2, l3, l4, l5⟩ ho hL hpre
        have hi : i < 6 := (Array.getElem?_eq_some_iff.1 ho).1
        have cs : i = 0 ∨ i = 1 ∨ i = 2 ∨ i = 3 ∨ i = 4 ∨ i = 5 := by omega
        rcases cs with rfl | rfl | rfl | rfl | rfl | rfl
        · obtain rfl := Option.some.inj ho
          refine wpOp_by rfl rfl (fun K hK => ?_)
          have c0 := below_keeps hB HZ.out.1
          have c1 := below_keeps hB HZ.out.2
          go_simp
          apply hK
          refine ⟨.agg #[.float .f64 zh, .float .f64 zl], v44, v45, v46, v16, ?_, hB, fun _ => rfl, by simpa using l1, by simpa using l2, by simpa using l3, by simpa using l4, by simpa using l5⟩
          simp only [Act.put, List.setIfInBounds_toArray, List.set_cons_zero, List.set_cons_succ]
        · obtain rfl := Option.some.inj ho
          have p0 : L 0 = true := hpre ⟨0, .data⟩ (by simp) rfl
          obtain rfl := l0 p0
          refine wpOp_by rfl rfl (fun K hK => ?_)
          go_simp
          refine (accDD_any zh zl (fin_lt fz.out.1) fz.out.1 (fin_lt fz.out.2) fz.out.2 _).mono ?_
          rintro r x ⟨rfl, hx⟩
          apply hK
          refine ⟨.agg #[.float .f64 zh, .float .f64 zl], .agg (accC (av zh + av zl)), v45, v46, v16, ?_, belowT hB hx, fun _ => rfl, fun _ => rfl, by simpa using l2, by simpa using l3, ?_, by simpa using l5⟩
          · simp only [Act.put, List.setIfInBounds_toArray, List.set_cons_zero, List.set_cons_succ]
          · intro h
            obtain ⟨b, e1, e2, e3⟩ := l4 (by simpa using h)
            exact ⟨b, e1, e2, by simpa using e3.below hx e3.lt⟩
        · obtain rfl := Option.some.inj ho
          refine wpOp_by rfl rfl (fun K hK => ?_)
          simp only [Act.put, List.setIfInBounds_toArray, List.set_cons_zero, List.set_cons_succ]
          refine wp_load_acc (.tmp 14) rfl bs S rfl (hS.out.below hB hS.out.lt) 45 rfl ?_
          apply hK
          refine ⟨v43, v44, .agg (accC S), v46, v16, ?_, hB, by simpa using l0, by simpa using l1, fun _ => rfl, by simpa using l3, by simpa using l4, by simpa using l5⟩
          simp only [Act.put, List.setIfInBounds_toArray, List.set_cons_zero, List.set_cons_succ]
        · obtain rfl := Option.some.inj ho
          have p1 : L 1 = true := hpre ⟨1, .data⟩ (by simp) rfl
          have p2 : L 2 = true := hpre ⟨2, .data⟩ (by simp) rfl
          obtain rfl := l1 p1
          obtain rfl := l2 p2
          refine wpOp_by rfl rfl (fun K hK => ?_)
          go_simp
          refine (gap_any (av zh + av zl) S _).mono ?_
          rintro r x ⟨rfl, hx⟩
          apply hK
          refine ⟨v43, .agg (accC (av zh + av zl)), .agg (accC S), .agg (accC (absW (av zh + av zl + -S))), v16, ?_, belowT hB hx, by simpa using l0, fun _ => rfl, fun _ => rfl, fun _ => rfl, ?_, by simpa using l5⟩
          · simp only [Act.put, List.setIfInBounds_toArray, List.set_cons_zero, List.set_cons_succ]
          · intro h
            obtain ⟨b, e1, e2, e3⟩ := l4 (by simpa using h)
            exact ⟨b, e1, e2, by simpa using e3.below hx e3.lt⟩
        · obtain rfl := Option.some.inj ho
          have n5 : L 5 = false := by
            cases h : L 5 with
            | false => rfl
            | true => rw [l5 h] at hL; cases hL
          refine wpOp_by rfl rfl (fun K hK => ?_)
          go_simp
          apply hK
          refine ⟨v43, v44, v45, v46, .pointer (some ⟨w'.heap.size, 0, none⟩), ?_, hB.alloc hB.size _, by simpa using l0, by simpa using l1, by simpa using l2, by simpa using l3, ?_, by simp⟩
          · simp only [Act.put, List.setIfInBounds_toArray, List.set_cons_zero, List.set_cons_succ]
          · intro h
            exact ⟨w'.heap.size, rfl, hB.size, by simpa [n5] using accAt_new w'⟩
        · obtain rfl := Option.some.inj ho
          have p4 : L 4 = true := hpre ⟨4, .data⟩ (by simp) rfl
          have p3 : L 3 = true := hpre ⟨3, .data⟩ (by simp) rfl
          obtain rfl := l3 p3
          obtain ⟨b, rfl, e2, e3⟩ := l4 p4
          refine wpOp_by rfl rfl (fun K hK => ?_)
          simp only [Act.put, List.setIfInBounds_toArray, List.set_cons_zero, List.set_cons_succ]
          refine wp_store_acc (.tmp 16) (.tmp 46) rfl b (absW (av zh + av zl + -S)) (accC _) rfl rfl e3 (accC_size _) rfl ?_
          apply hK
          refine ⟨v43, v44, v45, .agg (accC (absW (av zh + av zl + -S))), .pointer (some ⟨b, 0, none⟩), ?_, below_putB hB e2 _, by simpa using l0, by simpa using l1, by simpa using l2, fun _ => rfl, ?_, fun _ => by simpa using p4⟩
          · simp only [Act.put, List.setIfInBounds_toArray, List.set_cons_zero, List.set_cons_succ]
          · intro h
            exact ⟨b, rfl, e2, by simpa using e3.put (absW (av zh + av zl + -S))⟩
      · rintro L a' w' ⟨v43, v44, v45, v46, v16, rfl, hB, l0, l1, l2, l3, l4, l5⟩ hall
        obtain ⟨b, rfl, e2, e3⟩ := l4 (hall 4 (by decide))
        rw [if_pos (hall 5 (by decide))] at e3
        simp only [Act.put, List.setIfInBounds_toArray, List.set_cons_zero, List.set_cons_succ]
        have sU := hB2.out.size
        have sL := hS.out.lt
        go_wp2_with fail
        go_meet
        exact ⟨b, rfl, by omega, e3, hS.out.below hB sL, hB2.out.trans (hB.mono sU), by omega, below_keeps hB HZ.out.1, below_keeps hB HZ.out.2⟩
    case rest =>
      clear hS hB2 HZ U2
      obtain ⟨bo, rfl, hne, hO, hS, hB3, g3, z0, z1⟩ := hcut
      go_wp2_with fail
      refine (accShl_103 bo _ _ hO).mono ?_
      rintro e w1 ⟨rfl, d2, rfl⟩
      generalize absW (av zh + av zl + -S) * 2 ^ 103 = G at *
      have hbz : bz ≠ bo := by
        intro e
        subst e
        have := hO.cell 0 (by decide)
        rw [this] at z0
        cases z0
      have hbz2 : bz ≠ bs := by
        intro e
        subst e
        have := hS.cell 0 (by decide)
        rw [this] at z0
        cases z0
      have hO1 := (hO.put G).drewN d2
      have hS1 := (hS.other (Ne.symm hne) (accC G)).drewN d2
      have hB4 := below_drewN (below_putB hB3 g3 (accC G)) d2
      have z2 : ((putB wc bo (accC G)).drewN d2).cell? ⟨bz, 0, none⟩ = some (.float .f64 zh) := by
        rw [World.cell?_of_block (w := wc) (putB_heap wc bo (accC G) bz hbz)]; exact z0
      have z3 : ((putB wc bo (accC G)).drewN d2).cell? ⟨bz, 1, none⟩ = some (.float .f64 zl) := by
        rw [World.cell?_of_block (w := wc) (putB_heap wc bo (accC G) bz hbz)]; exact z1
      clear hO hS hB3 z0 z1
      generalize (putB wc bo (accC G)).drewN d2 = V1 at *
      clear wc
      go_wp2_with fail
      refine (accAbs_any bs S _ hS1).mono ?_
      rintro e w1 ⟨rfl, d3, rfl⟩
      generalize absW S = A at *
      have hO2 := hide ((hO1.other (c := bs) hne (accC A)).drewN d3)
      have hS2 := hide ((hS1.put A).drewN d3)
      have hB5 := hide (below_drewN (below_putB hB4 g1 (accC A)) d3)
      have Z0 : ((putB V1 bs (accC A)).drewN d3).cell? ⟨bz, 0, none⟩ = some (.float .f64 zh) := by
        rw [World.cell?_of_block (w := V1) (putB_heap V1 bs (accC A) bz hbz2)]; exact z2
      have Z1 : ((putB V1 bs (accC A)).drewN d3).cell? ⟨bz, 1, none⟩ = some (.float .f64 zl) := by
        rw [World.cell?_of_block (w := V1) (putB_heap V1 bs (accC A) bz hbz2)]; exact z3
      clear hO1 hS1 hB4 z2 z3
      generalize (putB V1 bs (accC A)).drewN d3 = V2 at *
      clear V1
      go_wp2_with fail
      refine (normalDD_true zh zl tt (fin_lt fz.out.1) fz.out.1 (fin_lt fz.out.2) fz.out.2 tt1 tt2 _).mono ?_
      rintro e V3 ⟨rfl, hV3⟩
      have hO3 := hide (hO2.out.below hV3 hO2.out.lt)
      have hS3 := hide (hS2.out.below hV3 hS2.out.lt)
      have hB6 := hide (belowT hB5.out hV3)
      clear hO2 hS2 hB5 Z0 Z1 hV3
      have hle : cmpW G A ≤ 0 := FN.out
      clear FN
      go_wp2_with fail
      refine (accCmp_any bo bs G A _ hO3.out hS3.out).mono ?_
      rintro e w1 ⟨rfl, d4, rfl⟩
      generalize cmpW G A = C at *
      go_wp2
      go_ret
      exact ⟨rfl, below_drewN hB6.out d4⟩
end Go.Proofs.Ygctac
