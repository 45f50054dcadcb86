/-
  THE WALK of law.DDMulNear.
-/
import Derived.Test.YgctacMul6
import Derived.Test.YgctacMul2
import Derived.Test.YgctacAddNearW
namespace Go.Proofs.Ygctac
open Go.RowKit
open Fp (fv rnd)
set_option linter.unusedVariables false
set_option linter.unusedSimpArgs false
set_option linter.unnecessarySimpa false

theorem put_self8 (a : Act) (t1 t2 t3 t4 t5 t6 t7 t8 : Nat) : ∃ v1 v2 v3 v4 v5 v6 v7 v8, a = (((((((a.put (some t1) v1).put (some t2) v2).put (some t3) v3).put (some t4) v4).put (some t5) v5).put (some t6) v6).put (some t7) v7).put (some t8) v8 := by
  obtain ⟨v1, v2, v3, v4, v5, v6, e⟩ := put_self6 a t1 t2 t3 t4 t5 t6
  obtain ⟨v7, h7⟩ := put_self a t7
  obtain ⟨v8, h8⟩ := put_self a t8
  exact ⟨v1, v2, v3, v4, v5, v6, v7, v8, by rw [← e, h7, h8]⟩
theorem put_self10 (a : Act) (t1 t2 t3 t4 t5 t6 t7 t8 t9 t10 : Nat) : ∃ v1 v2 v3 v4 v5 v6 v7 v8 v9 v10, a = (((((((((a.put (some t1) v1).put (some t2) v2).put (some t3) v3).put (some t4) v4).put (some t5) v5).put (some t6) v6).put (some t7) v7).put (some t8) v8).put (some t9) v9).put (some t10) v10 := by
  obtain ⟨v1, v2, v3, v4, v5, v6, v7, v8, e⟩ := put_self8 a t1 t2 t3 t4 t5 t6 t7 t8
  obtain ⟨v9, h9⟩ := put_self a t9
  obtain ⟨v10, h10⟩ := put_self a t10
  exact ⟨v1, v2, v3, v4, v5, v6, v7, v8, v9, v10, by rw [← e, h9, h10]⟩

/-- An operation whose guard stands open is carried out. -/
theorem wpOp_open {P : Program} {ops : Array Oper} {Q : Exit → Act → World → Prop} {i : Nat} {o : Oper} {K0 : Act → World → Prop} {a : Act} {w : World} (ho : ops[i]? = some o) (hw : Region.wanted o (yielded ops a.tmps) = true)
    (h : ∀ K : Act → World → Prop, (∀ a₁ w₁, K0 a₁ w₁ → K a₁ w₁) → o.wp P a w K Q) : wpOp P ops Q i K0 a w := by
  unfold wpOp
  rw [ho]
  simp only [hw, if_true]
  exact Or.inl (h K0 (fun _ _ h => h))

theorem wanted_of {ops : Array Oper} {o : Oper} {tmps : Array Value} (j t : Nat) (hg : o.guard = some (j, true)) (hd : (ops[j]?).bind (·.dst) = some t) (hv : tmps[t]? = some (.bool true)) : Region.wanted o (yielded ops tmps) = true := by
  unfold Region.wanted
  rw [hg]
  simp [yielded, hd, hv]

/-- A twofold number in its block. -/
def DDBlk (w : World) (b x y : Nat) : Prop := w.heap[b]? = some (.cells #[.float .f64 x, .float .f64 y] 82 (0, 0))
def putD (w : World) (b x y : Nat) : World := { w with heap := w.heap.setIfInBounds b (.cells #[.float .f64 x, .float .f64 y] 82 (0, 0)) }
theorem putD_heap (w : World) (b x y k : Nat) (h : k ≠ b) : (putD w b x y).heap[k]? = w.heap[k]? := by
  simp only [putD, Array.getElem?_setIfInBounds]
  rw [if_neg (by omega)]
theorem putD_size (w : World) (b x y : Nat) : (putD w b x y).heap.size = w.heap.size := by simp [putD]
theorem DDBlk.lt {w : World} {b x y : Nat} (h : DDBlk w b x y) : b < w.heap.size := by
  unfold DDBlk at h
  exact (Array.getElem?_eq_some_iff.1 h).1
theorem DDBlk.put {w : World} {b x y : Nat} (h : DDBlk w b x y) (x' y' : Nat) : DDBlk (putD w b x' y') b x' y' := by
  have := h.lt
  simp [DDBlk, putD, this]
theorem DDBlk.block {w w' : World} {b x y : Nat} (h : DDBlk w b x y) (e : w'.heap[b]? = w.heap[b]?) : DDBlk w' b x y := e.trans h
theorem DDBlk.new (w : World) (x y : Nat) : DDBlk (w.alloc (.cells #[.float .f64 x, .float .f64 y] 82)) w.heap.size x y := heap_alloc_last _ _
theorem DDBlk.alloc {w : World} {b x y : Nat} (h : DDBlk w b x y) (o : Obj) : DDBlk (w.alloc o) b x y := h.block (heap_alloc_old _ _ _ h.lt)
theorem DDBlk.below {w w' : World} {b x y B : Nat} (h : DDBlk w b x y) (hb : Below B w w') (hB : b < B) : DDBlk w' b x y := h.block (hb.block b hB)
theorem DDBlk.other {w : World} {b x y c : Nat} (h : DDBlk w b x y) (hc : b ≠ c) (C : Array Value) : DDBlk (putB w c C) b x y := h.block (putB_heap _ _ _ _ hc)
theorem DDBlk.c0 {w : World} {b x y : Nat} (h : DDBlk w b x y) : w.cell? ⟨b, 0, none⟩ = some (.float .f64 x) := by rw [World.cell?, h]; rfl
theorem DDBlk.c1 {w : World} {b x y : Nat} (h : DDBlk w b x y) : w.cell? ⟨b, 1, none⟩ = some (.float .f64 y) := by rw [World.cell?, h]; rfl
theorem AccAt.otherD {w : World} {b c x y : Nat} {n : Int} (h : AccAt w b n) (hc : b ≠ c) : AccAt (putD w c x y) b n := (putD_heap w c x y b hc).trans h
theorem below_putD {B : Nat} {a w : World} (h : Below B a w) {b : Nat} (hp : B ≤ b) (x y : Nat) : Below B a (putD w b x y) :=
  h.trans ⟨rfl, rfl, rfl, by rw [putD_size]; exact Nat.le_refl _, fun k hk => putD_heap _ _ _ _ _ (by omega)⟩
theorem size82 : (Tacg.prog.info? 82).map (·.size) = some 2 := by kernel_rfl

theorem wp_store_dd {op : Oper} {a : Act} {w : World} {K : Act → World → Prop} {Q : Exit → Act → World → Prop} (x y : Operand) (ho : op.op = .store 82 x y)
    (b p q p0 q0 : Nat) (hx : a.eval x = .pointer (some ⟨b, 0, none⟩)) (hy : a.eval y = .agg #[.float .f64 p, .float .f64 q]) (hb : DDBlk w b p0 q0) (hd : op.dst = none)
    (h : K a (putD w b p q)) : op.wp Tacg.prog a w K Q := by
  have ht : w.there b 0 (#[Value.float .f64 p, .float .f64 q] : Array Value).size := cells_there (C := #[.float .f64 p0, .float .f64 q0]) hb
  refine wp_store_mid (P := Tacg.prog) 82 x y ho b 0 #[.float .f64 p, .float .f64 q] hx hy ht size82 (by simp [Value.oneCell']) ?_
  rw [setCells_whole w b _ #[.float .f64 p, .float .f64 q] 82 hb rfl, hd]
  exact h

theorem relativeTo_103 (g m o : Int) (hc : cmpW (absW (g + -m) * 2 ^ 103) (absW o + av slackP * 2 ^ 103) ≤ 0) (w : World) :
    Calls Tacg.prog 63 #[.agg (accC g), .agg (accC m), .agg (accC o), .int .u16 103] w fun r w' => r = .returned (.bool true) ∧ Below w.heap.size w w' :=
  relativeTo_any g m o 103 (show 103 < 65536 by decide) hc w

set_option maxRecDepth 100000 in
set_option maxHeartbeats 1000000 in
theorem ddMulNear_any (a b c d : Nat) (ha : a < 18446744073709551616) (hb : b < 18446744073709551616) (hc : c < 18446744073709551616) (hd : d < 18446744073709551616) (w : World) :
    Calls Tacg.prog 10 #[.int .u64 a, .int .u64 b, .int .u64 c, .int .u64 d] w fun r w' => r = .returned (.bool true) ∧ Below w.heap.size w w' := by
  go_enter Tacg.func10, Tacg.ntmps10
  go_wp2_with fail
  refine (twofold_any a b ha hb _).mono ?_
  rintro e W1 ⟨xh, xl, okx, rfl, gx, hW1⟩
  have Gx := hide gx
  clear gx
  go_wp2_with fail
  refine (twofold_any c d hc hd _).mono ?_
  rintro e W2 ⟨yh, yl, oky, rfl, gy, hW2⟩
  have Gy := hide gy
  clear gy
  have kB := hide (((hW1.alloc hW1.size _).trans (hW2.mono (by rw [size_alloc]; have := hW1.size; omega))).alloc (by have h1 := hW1.size; have h2 := hW2.size; rw [size_alloc] at h2; omega) (.cells #[.float .f64 yh, .float .f64 yl] 82))
  have x0 := cell_alloc (.cells #[.float .f64 yh, .float .f64 yl] 82) (below_keeps hW2 (cell_new0 W1 (.float .f64 xh) (.float .f64 xl) 82))
  have x1 := cell_alloc (.cells #[.float .f64 yh, .float .f64 yl] 82) (below_keeps hW2 (cell_new1 W1 (.float .f64 xh) (.float .f64 xl) 82))
  have y0 := cell_new0 W2 (.float .f64 yh) (.float .f64 yl) 82
  have y1 := cell_new1 W2 (.float .f64 yh) (.float .f64 yl) 82
  clear hW1 hW2
  rcases okx with _ | _
  · go_wp2
    go_ret
    exact ⟨rfl, kB.out⟩
  rcases oky with _ | _
  · go_wp2
    go_ret
    exact ⟨rfl, kB.out⟩
  have gx := Gx.out rfl
  have gy := Gy.out rfl
  clear Gx Gy
  obtain ⟨zh, zl, hz, fzh, fzl, zn, zc, zb⟩ := mul_words gx gy
  have FN := hide (mul_fin gx gy zc zb)
  obtain ⟨tt, tt1, tt2⟩ := normal_of fzh fzl zn (by have := cap_pos; omega)
  have fz := hide (And.intro fzh fzl)
  have NM := hide (And.intro tt1 tt2)
  have HW := hide hz
  clear fzh fzl zn zc zb tt1 tt2 hz
  go_upto_region 5 with fail
  generalize W2.alloc (.cells #[.float .f64 yh, .float .f64 yl] 82) = U at *
  generalize W1.heap.size = bx at *
  generalize W2.heap.size = bY at *
  clear W1 W2
  have fx := hide gx
  have fy := hide gy
  have HX := hide (And.intro x0 x1)
  have HY := hide (And.intro y0 y1)
  clear gx gy x0 x1 y0 y1
  generalize hT : (fv xh + fv xl) * (fv yh + fv yl) = T at *
  have eT := hide hT
  clear hT
  go_cut [13, 14] (fun s13 s14 w1 => ∃ bz bp, s13 = .pointer (some ⟨bz, 0, none⟩) ∧ s14 = .pointer (some ⟨bp, 0, none⟩) ∧ DDBlk w1 bz zh zl ∧ AccAt w1 bp T ∧ Below w.heap.size w w1)
  case first =>
    refine wp_region_from (J := fun a0 L a' w' => ∃ v33 v34 v35 v36 v37 v38 v13 v14, a' = (((((((a0.put (some 33) v33).put (some 34) v34).put (some 35) v35).put (some 36) v36).put (some 37) v37).put (some 38) v38).put (some 13) v13).put (some 14) v14 ∧ Below U.heap.size U w' ∧ (L 0 = true → v33 = .agg #[.float .f64 xh, .float .f64 xl]) ∧ (L 1 = true → v34 = .agg #[.float .f64 yh, .float .f64 yl]) ∧ (L 2 = true → v35 = .agg #[.float .f64 zh, .float .f64 zl]) ∧ (L 3 = true → v36 = .agg #[.float .f64 xh, .float .f64 xl]) ∧ (L 4 = true → v37 = .agg #[.float .f64 yh, .float .f64 yl]) ∧ (L 5 = true → v38 = .agg (accC T)) ∧ (L 6 = true → ∃ b, v13 = .pointer (some ⟨b, 0, none⟩) ∧ U.heap.size ≤ b ∧ DDBlk w' b (if L 8 = true then zh else 0) (if L 8 = true then zl else 0) ∧ (L 7 = true → v14 ≠ .pointer (some ⟨b, 0, none⟩))) ∧ (L 7 = true → ∃ b, v14 = .pointer (some ⟨b, 0, none⟩) ∧ U.heap.size ≤ b ∧ AccAt w' b (if L 9 = true then T else 0)) ∧ (L 8 = true → L 6 = true) ∧ (L 9 = true → L 7 = true)) (by kernel_rfl) (by kernel_rfl) ?_ ?_ ?_
    · obtain ⟨v1, v2, v3, v4, v5, v6, v7, v8, e⟩ := put_self8 _ 33 34 35 36 37 38 13 14
      refine ⟨v1, v2, v3, v4, v5, v6, v7, v8, e, (Below.refl _ _).drew, ?_, ?_, ?_, ?_, ?_, ?_, ?_, ?_, ?_, ?_⟩ <;> (intro h; cases h)
    · go_light
      rintro L a' w' i o ⟨v33, v34, v35, v36, v37, v38, v13, v14, ea, hB, l0, l1, l2, l3, l4, l5, l6, l7, l8, l9⟩ ho hL hpre
      have hi : i < 10 := (Array.getElem?_eq_some_iff.1 ho).1
      have cs : i = 0 ∨ i = 1 ∨ i = 2 ∨ i = 3 ∨ i = 4 ∨ i = 5 ∨ i = 6 ∨ i = 7 ∨ i = 8 ∨ i = 9 := by omega
      rcases cs with rfl | rfl | rfl | rfl | rfl | rfl | rfl | rfl | rfl | rfl
      · obtain rfl := Option.some.inj ho
        refine wpOp_by ho rfl (fun K hK => ?_)
        subst ea
        have c0 := below_keeps hB HX.out.1
        have c1 := below_keeps hB HX.out.2
        go_simp
        apply hK
        refine ⟨.agg #[.float .f64 xh, .float .f64 xl], v34, v35, v36, v37, v38, v13, v14, ?_, hB, fun _ => rfl, by simpa using l1, by simpa using l2, by simpa using l3, by simpa using l4, by simpa using l5, by simpa using l6, by simpa using l7, by simpa using l8, by simpa using l9⟩
        simp only [Act.put, List.setIfInBounds_toArray, List.set_cons_zero, List.set_cons_succ]
      · obtain rfl := Option.some.inj ho
        refine wpOp_by ho rfl (fun K hK => ?_)
        subst ea
        have c0 := below_keeps hB HY.out.1
        have c1 := below_keeps hB HY.out.2
        go_simp
        apply hK
        refine ⟨v33, .agg #[.float .f64 yh, .float .f64 yl], v35, v36, v37, v38, v13, v14, ?_, hB, by simpa using l0, fun _ => rfl, by simpa using l2, by simpa using l3, by simpa using l4, by simpa using l5, by simpa using l6, by simpa using l7, by simpa using l8, by simpa using l9⟩
        simp only [Act.put, List.setIfInBounds_toArray, List.set_cons_zero, List.set_cons_succ]
      · obtain rfl := Option.some.inj ho
        have p0 : L 0 = true := hpre ⟨0, .data⟩ (by simp) rfl
        obtain rfl := l0 p0
        have p1 : L 1 = true := hpre ⟨1, .data⟩ (by simp) rfl
        obtain rfl := l1 p1
        refine wpOp_by ho rfl (fun K hK => ?_)
        subst ea
        go_simp
        refine (ddMul_any HW.out _).mono ?_
        rintro r x ⟨rfl, hx⟩
        apply hK
        refine ⟨.agg #[.float .f64 xh, .float .f64 xl], .agg #[.float .f64 yh, .float .f64 yl], .agg #[.float .f64 zh, .float .f64 zl], v36, v37, v38, v13, v14, ?_, belowT hB hx, fun _ => rfl, fun _ => rfl, fun _ => rfl, by simpa using l3, by simpa using l4, by simpa using l5, ?_, ?_, by simpa using l8, by simpa using l9⟩
        · simp only [Act.put, List.setIfInBounds_toArray, List.set_cons_zero, List.set_cons_succ]
        · intro h
          obtain ⟨b, e1, e2, e3, e4⟩ := l6 (by simpa using h)
          exact ⟨b, e1, e2, by simpa using e3.below hx e3.lt, by simpa using e4⟩
        · intro h
          obtain ⟨b, e1, e2, e3⟩ := l7 (by simpa using h)
          exact ⟨b, e1, e2, by simpa using e3.below hx e3.lt⟩
      · obtain rfl := Option.some.inj ho
        refine wpOp_by ho rfl (fun K hK => ?_)
        subst ea
        have c0 := below_keeps hB HX.out.1
        have c1 := below_keeps hB HX.out.2
        go_simp
        apply hK
        refine ⟨v33, v34, v35, .agg #[.float .f64 xh, .float .f64 xl], v37, v38, v13, v14, ?_, hB, by simpa using l0, by simpa using l1, by simpa using l2, fun _ => rfl, by simpa using l4, by simpa using l5, by simpa using l6, by simpa using l7, by simpa using l8, by simpa using l9⟩
        simp only [Act.put, List.setIfInBounds_toArray, List.set_cons_zero, List.set_cons_succ]
      · obtain rfl := Option.some.inj ho
        refine wpOp_by ho rfl (fun K hK => ?_)
        subst ea
        have c0 := below_keeps hB HY.out.1
        have c1 := below_keeps hB HY.out.2
        go_simp
        apply hK
        refine ⟨v33, v34, v35, v36, .agg #[.float .f64 yh, .float .f64 yl], v38, v13, v14, ?_, hB, by simpa using l0, by simpa using l1, by simpa using l2, by simpa using l3, fun _ => rfl, by simpa using l5, by simpa using l6, by simpa using l7, by simpa using l8, by simpa using l9⟩
        simp only [Act.put, List.setIfInBounds_toArray, List.set_cons_zero, List.set_cons_succ]
      · obtain rfl := Option.some.inj ho
        have p3 : L 3 = true := hpre ⟨3, .data⟩ (by simp) rfl
        obtain rfl := l3 p3
        have p4 : L 4 = true := hpre ⟨4, .data⟩ (by simp) rfl
        obtain rfl := l4 p4
        refine wpOp_by ho rfl (fun K hK => ?_)
        subst ea
        go_simp
        refine (accDDMul_any xh xl yh yl (fin_lt fx.out.fh) fx.out.fh (fin_lt fx.out.fl) fx.out.fl (fin_lt fy.out.fh) fy.out.fh (fin_lt fy.out.fl) fy.out.fl _).mono ?_
        rw [eT.out]
        rintro r x ⟨rfl, hx⟩
        apply hK
        refine ⟨v33, v34, v35, .agg #[.float .f64 xh, .float .f64 xl], .agg #[.float .f64 yh, .float .f64 yl], .agg (accC T), v13, v14, ?_, belowT hB hx, by simpa using l0, by simpa using l1, by simpa using l2, fun _ => rfl, fun _ => rfl, fun _ => rfl, ?_, ?_, by simpa using l8, by simpa using l9⟩
        · simp only [Act.put, List.setIfInBounds_toArray, List.set_cons_zero, List.set_cons_succ]
        · intro h
          obtain ⟨b, e1, e2, e3, e4⟩ := l6 (by simpa using h)
          exact ⟨b, e1, e2, by simpa using e3.below hx e3.lt, by simpa using e4⟩
        · intro h
          obtain ⟨b, e1, e2, e3⟩ := l7 (by simpa using h)
          exact ⟨b, e1, e2, by simpa using e3.below hx e3.lt⟩
      · obtain rfl := Option.some.inj ho
        have n8 : L 8 = false := by
          cases h : L 8 with
          | false => rfl
          | true => rw [l8 h] at hL; cases hL
        refine wpOp_by ho rfl (fun K hK => ?_)
        subst ea
        go_simp
        apply hK
        refine ⟨v33, v34, v35, v36, v37, v38, .pointer (some ⟨w'.heap.size, 0, none⟩), v14, ?_, hB.alloc hB.size _, by simpa using l0, by simpa using l1, by simpa using l2, by simpa using l3, by simpa using l4, by simpa using l5, ?_, ?_, by simp, by simpa using l9⟩
        · simp only [Act.put, List.setIfInBounds_toArray, List.set_cons_zero, List.set_cons_succ]
        · intro h
          refine ⟨w'.heap.size, rfl, hB.size, by simpa [n8] using DDBlk.new w' 0 0, fun h7 => ?_⟩
          obtain ⟨b, e1, e2, e3⟩ := l7 (by simpa using h7)
          have := e3.lt
          rw [e1]
          intro e
          simp at e <;> omega
        · intro h
          obtain ⟨b, e1, e2, e3⟩ := l7 (by simpa using h)
          exact ⟨b, e1, e2, by simpa using e3.alloc _⟩
      · obtain rfl := Option.some.inj ho
        have n9 : L 9 = false := by
          cases h : L 9 with
          | false => rfl
          | true => rw [l9 h] at hL; cases hL
        refine wpOp_by ho rfl (fun K hK => ?_)
        subst ea
        go_simp
        apply hK
        refine ⟨v33, v34, v35, v36, v37, v38, v13, .pointer (some ⟨w'.heap.size, 0, none⟩), ?_, hB.alloc hB.size _, by simpa using l0, by simpa using l1, by simpa using l2, by simpa using l3, by simpa using l4, by simpa using l5, ?_, ?_, by simpa using l8, by simp⟩
        · simp only [Act.put, List.setIfInBounds_toArray, List.set_cons_zero, List.set_cons_succ]
        · intro h
          obtain ⟨b, e1, e2, e3, e4⟩ := l6 (by simpa using h)
          refine ⟨b, e1, e2, by simpa using e3.alloc _, fun _ => ?_⟩
          have := e3.lt
          intro e
          simp at e <;> omega
        · intro h
          exact ⟨w'.heap.size, rfl, hB.size, by simpa [n9] using accAt_new w'⟩
      · obtain rfl := Option.some.inj ho
        have p6 : L 6 = true := hpre ⟨6, .data⟩ (by simp) rfl
        have p2 : L 2 = true := hpre ⟨2, .data⟩ (by simp) rfl
        have p7 : L 7 = true := hpre ⟨7, .phase⟩ (by simp) rfl
        obtain rfl := l2 p2
        obtain ⟨b, rfl, e2, e3, e4⟩ := l6 p6
        obtain ⟨b', rfl, f2, f3⟩ := l7 p7
        have hne : b ≠ b' := by
          intro e
          subst e
          exact e4 p7 rfl
        refine wpOp_by ho rfl (fun K hK => ?_)
        subst ea
        simp only [Act.put, List.setIfInBounds_toArray, List.set_cons_zero, List.set_cons_succ]
        refine wp_store_dd (.tmp 13) (.tmp 35) rfl b zh zl _ _ rfl rfl e3 rfl ?_
        apply hK
        refine ⟨v33, v34, .agg #[.float .f64 zh, .float .f64 zl], v36, v37, v38, .pointer (some ⟨b, 0, none⟩), .pointer (some ⟨b', 0, none⟩), ?_, below_putD hB e2 _ _, by simpa using l0, by simpa using l1, fun _ => rfl, by simpa using l3, by simpa using l4, by simpa using l5, ?_, ?_, fun _ => by simpa using p6, by simpa using l9⟩
        · simp only [Act.put, List.setIfInBounds_toArray, List.set_cons_zero, List.set_cons_succ]
        · intro h
          exact ⟨b, rfl, e2, by simpa using e3.put zh zl, fun _ => by simpa using Ne.symm hne⟩
        · intro h
          exact ⟨b', rfl, f2, by simpa using f3.otherD (Ne.symm hne)⟩
      · obtain rfl := Option.some.inj ho
        have p6 : L 6 = true := hpre ⟨6, .phase⟩ (by simp) rfl
        have p5 : L 5 = true := hpre ⟨5, .data⟩ (by simp) rfl
        have p7 : L 7 = true := hpre ⟨7, .data⟩ (by simp) rfl
        obtain rfl := l5 p5
        obtain ⟨b, rfl, e2, e3, e4⟩ := l6 p6
        obtain ⟨b', rfl, f2, f3⟩ := l7 p7
        have hne : b ≠ b' := by
          intro e
          subst e
          exact e4 p7 rfl
        refine wpOp_by ho rfl (fun K hK => ?_)
        subst ea
        simp only [Act.put, List.setIfInBounds_toArray, List.set_cons_zero, List.set_cons_succ]
        refine wp_store_acc (.tmp 14) (.tmp 38) rfl b' T (accC _) rfl rfl f3 (accC_size _) rfl ?_
        apply hK
        refine ⟨v33, v34, v35, v36, v37, .agg (accC T), .pointer (some ⟨b, 0, none⟩), .pointer (some ⟨b', 0, none⟩), ?_, below_putB hB f2 _, by simpa using l0, by simpa using l1, by simpa using l2, by simpa using l3, by simpa using l4, fun _ => rfl, ?_, ?_, by simpa using l8, fun _ => by simpa using p7⟩
        · simp only [Act.put, List.setIfInBounds_toArray, List.set_cons_zero, List.set_cons_succ]
        · intro h
          exact ⟨b, rfl, e2, by simpa using e3.other hne _, fun _ => by simpa using Ne.symm hne⟩
        · intro h
          exact ⟨b', rfl, f2, by simpa using f3.put T⟩
    · rintro L a' w' ⟨v33, v34, v35, v36, v37, v38, v13, v14, rfl, hB, l0, l1, l2, l3, l4, l5, l6, l7, l8, l9⟩ hall
      obtain ⟨b, rfl, e2, e3, _⟩ := l6 (hall 6 (by decide))
      obtain ⟨b', rfl, f2, f3⟩ := l7 (hall 7 (by decide))
      rw [if_pos (hall 8 (by decide)), if_pos (hall 8 (by decide))] at e3
      rw [if_pos (hall 9 (by decide))] at f3
      simp only [Act.put, List.setIfInBounds_toArray, List.set_cons_zero, List.set_cons_succ]
      go_wp2_with fail
      go_meet
      exact ⟨b, b', rfl, rfl, e3, f3, kB.out.trans (hB.mono kB.out.size)⟩
  case rest =>
    obtain ⟨bz, bp, rfl, rfl, hZ, hP, hB1⟩ := hcut
    clear HX HY fx fy kB HW eT U
    go_upto_region 6 with fail
    have HZ := hide hZ
    have HP := hide hP
    have KB := hide hB1
    clear hZ hP hB1
    refine wp_region_from (J := fun a0 L a' w' => ∃ v39 v40 v41 v42 v43 v44 v45 v46 v47 v8, a' = (((((((((a0.put (some 39) v39).put (some 40) v40).put (some 41) v41).put (some 42) v42).put (some 43) v43).put (some 44) v44).put (some 45) v45).put (some 46) v46).put (some 47) v47).put (some 8) v8 ∧ Below wc.heap.size wc w' ∧ (L 0 = true → v39 = .agg #[.float .f64 zh, .float .f64 zl]) ∧ (L 1 = true → v40 = .bool true) ∧ (L 2 = true → v41 = .bool true) ∧ (L 3 = true → v42 = .agg #[.float .f64 zh, .float .f64 zl]) ∧ (L 4 = true → v43 = .agg (accC (av zh + av zl))) ∧ (L 5 = true → v44 = .agg (accC T)) ∧ (L 6 = true → v45 = .agg (accC T)) ∧ (L 7 = true → v46 = .bool true) ∧ (L 8 = true → v47 = .bool true) ∧ (L 9 = true → v8 = .bool true)) (by kernel_rfl) (by kernel_rfl) ?_ ?_ ?_
    · obtain ⟨v1, v2, v3, v4, v5, v6, v7, v8, v9, v10, e⟩ := put_self10 _ 39 40 41 42 43 44 45 46 47 8
      refine ⟨v1, v2, v3, v4, v5, v6, v7, v8, v9, v10, e, (Below.refl _ _).drew, ?_, ?_, ?_, ?_, ?_, ?_, ?_, ?_, ?_, ?_⟩ <;> (intro h; cases h)
    · go_light
      rintro L a' w' i o ⟨v39, v40, v41, v42, v43, v44, v45, v46, v47, v8, ea, hB, l0, l1, l2, l3, l4, l5, l6, l7, l8, l9⟩ ho hL hpre
      have hi : i < 10 := (Array.getElem?_eq_some_iff.1 ho).1
      have cs : i = 0 ∨ i = 1 ∨ i = 2 ∨ i = 3 ∨ i = 4 ∨ i = 5 ∨ i = 6 ∨ i = 7 ∨ i = 8 ∨ i = 9 := by omega
      rcases cs with rfl | rfl | rfl | rfl | rfl | rfl | rfl | rfl | rfl | rfl
      · obtain rfl := Option.some.inj ho
        refine wpOp_by ho rfl (fun K hK => ?_)
        subst ea
        have c0 := (HZ.out.below hB HZ.out.lt).c0
        have c1 := (HZ.out.below hB HZ.out.lt).c1
        go_simp
        apply hK
        refine ⟨.agg #[.float .f64 zh, .float .f64 zl], v40, v41, v42, v43, v44, v45, v46, v47, v8, ?_, hB, fun _ => rfl, by simpa using l1, by simpa using l2, by simpa using l3, by simpa using l4, by simpa using l5, by simpa using l6, by simpa using l7, by simpa using l8, by simpa using l9⟩
        simp only [Act.put, List.setIfInBounds_toArray, List.set_cons_zero, List.set_cons_succ]
      · obtain rfl := Option.some.inj ho
        have p0 : L 0 = true := hpre ⟨0, .data⟩ (by simp) rfl
        obtain rfl := l0 p0
        refine wpOp_by ho rfl (fun K hK => ?_)
        subst ea
        go_simp
        refine (normalDD_true zh zl tt (fin_lt fz.out.1) fz.out.1 (fin_lt fz.out.2) fz.out.2 NM.out.1 NM.out.2 _).mono ?_
        rintro r x ⟨rfl, hx⟩
        apply hK
        refine ⟨.agg #[.float .f64 zh, .float .f64 zl], .bool true, v41, v42, v43, v44, v45, v46, v47, v8, ?_, belowT hB hx, fun _ => rfl, fun _ => rfl, by simpa using l2, by simpa using l3, by simpa using l4, by simpa using l5, by simpa using l6, by simpa using l7, by simpa using l8, by simpa using l9⟩
        simp only [Act.put, List.setIfInBounds_toArray, List.set_cons_zero, List.set_cons_succ]
      · obtain rfl := Option.some.inj ho
        have p1 : L 1 = true := hpre ⟨1, .data⟩ (by simp) rfl
        obtain rfl := l1 p1
        refine wpOp_by ho rfl (fun K hK => ?_)
        subst ea
        go_simp
        apply hK
        refine ⟨v39, .bool true, .bool true, v42, v43, v44, v45, v46, v47, v8, ?_, hB, by simpa using l0, fun _ => rfl, fun _ => rfl, by simpa using l3, by simpa using l4, by simpa using l5, by simpa using l6, by simpa using l7, by simpa using l8, by simpa using l9⟩
        simp only [Act.put, List.setIfInBounds_toArray, List.set_cons_zero, List.set_cons_succ]
      · obtain rfl := Option.some.inj ho
        have p2 : L 2 = true := hpre ⟨2, .guard⟩ (by simp) rfl
        obtain rfl := l2 p2
        refine wpOp_open ho (wanted_of 2 41 rfl rfl (by subst ea; simp only [Act.put, List.setIfInBounds_toArray, List.set_cons_zero, List.set_cons_succ, List.getElem?_toArray, List.getElem?_cons_succ, List.getElem?_cons_zero])) (fun K hK => ?_)
        subst ea
        have c0 := (HZ.out.below hB HZ.out.lt).c0
        have c1 := (HZ.out.below hB HZ.out.lt).c1
        go_simp
        apply hK
        refine ⟨v39, v40, .bool true, .agg #[.float .f64 zh, .float .f64 zl], v43, v44, v45, v46, v47, v8, ?_, hB, by simpa using l0, by simpa using l1, fun _ => rfl, fun _ => rfl, by simpa using l4, by simpa using l5, by simpa using l6, by simpa using l7, by simpa using l8, by simpa using l9⟩
        simp only [Act.put, List.setIfInBounds_toArray, List.set_cons_zero, List.set_cons_succ]
      · obtain rfl := Option.some.inj ho
        have p2 : L 2 = true := hpre ⟨2, .guard⟩ (by simp) rfl
        obtain rfl := l2 p2
        have p3 : L 3 = true := hpre ⟨3, .data⟩ (by simp) rfl
        obtain rfl := l3 p3
        refine wpOp_open ho (wanted_of 2 41 rfl rfl (by subst ea; simp only [Act.put, List.setIfInBounds_toArray, List.set_cons_zero, List.set_cons_succ, List.getElem?_toArray, List.getElem?_cons_succ, List.getElem?_cons_zero])) (fun K hK => ?_)
        subst ea
        go_simp
        refine (accDD_any zh zl (fin_lt fz.out.1) fz.out.1 (fin_lt fz.out.2) fz.out.2 _).mono ?_
        rintro r x ⟨rfl, hx⟩
        apply hK
        refine ⟨v39, v40, .bool true, .agg #[.float .f64 zh, .float .f64 zl], .agg (accC (av zh + av zl)), v44, v45, v46, v47, v8, ?_, belowT hB hx, by simpa using l0, by simpa using l1, fun _ => rfl, fun _ => rfl, fun _ => rfl, by simpa using l5, by simpa using l6, by simpa using l7, by simpa using l8, by simpa using l9⟩
        simp only [Act.put, List.setIfInBounds_toArray, List.set_cons_zero, List.set_cons_succ]
      · obtain rfl := Option.some.inj ho
        have p2 : L 2 = true := hpre ⟨2, .guard⟩ (by simp) rfl
        obtain rfl := l2 p2
        refine wpOp_open ho (wanted_of 2 41 rfl rfl (by subst ea; simp only [Act.put, List.setIfInBounds_toArray, List.set_cons_zero, List.set_cons_succ, List.getElem?_toArray, List.getElem?_cons_succ, List.getElem?_cons_zero])) (fun K hK => ?_)
        subst ea
        simp only [Act.put, List.setIfInBounds_toArray, List.set_cons_zero, List.set_cons_succ]
        refine wp_load_acc (.tmp 14) rfl bp T rfl (HP.out.below hB HP.out.lt) 44 rfl ?_
        apply hK
        refine ⟨v39, v40, .bool true, v42, v43, .agg (accC T), v45, v46, v47, v8, ?_, hB, by simpa using l0, by simpa using l1, fun _ => rfl, by simpa using l3, by simpa using l4, fun _ => rfl, by simpa using l6, by simpa using l7, by simpa using l8, by simpa using l9⟩
        simp only [Act.put, List.setIfInBounds_toArray, List.set_cons_zero, List.set_cons_succ]
      · obtain rfl := Option.some.inj ho
        have p2 : L 2 = true := hpre ⟨2, .guard⟩ (by simp) rfl
        obtain rfl := l2 p2
        refine wpOp_open ho (wanted_of 2 41 rfl rfl (by subst ea; simp only [Act.put, List.setIfInBounds_toArray, List.set_cons_zero, List.set_cons_succ, List.getElem?_toArray, List.getElem?_cons_succ, List.getElem?_cons_zero])) (fun K hK => ?_)
        subst ea
        simp only [Act.put, List.setIfInBounds_toArray, List.set_cons_zero, List.set_cons_succ]
        refine wp_load_acc (.tmp 14) rfl bp T rfl (HP.out.below hB HP.out.lt) 45 rfl ?_
        apply hK
        refine ⟨v39, v40, .bool true, v42, v43, v44, .agg (accC T), v46, v47, v8, ?_, hB, by simpa using l0, by simpa using l1, fun _ => rfl, by simpa using l3, by simpa using l4, by simpa using l5, fun _ => rfl, by simpa using l7, by simpa using l8, by simpa using l9⟩
        simp only [Act.put, List.setIfInBounds_toArray, List.set_cons_zero, List.set_cons_succ]
      · obtain rfl := Option.some.inj ho
        have p2 : L 2 = true := hpre ⟨2, .guard⟩ (by simp) rfl
        obtain rfl := l2 p2
        have p4 : L 4 = true := hpre ⟨4, .data⟩ (by simp) rfl
        obtain rfl := l4 p4
        have p5 : L 5 = true := hpre ⟨5, .data⟩ (by simp) rfl
        obtain rfl := l5 p5
        have p6 : L 6 = true := hpre ⟨6, .data⟩ (by simp) rfl
        obtain rfl := l6 p6
        refine wpOp_open ho (wanted_of 2 41 rfl rfl (by subst ea; simp only [Act.put, List.setIfInBounds_toArray, List.set_cons_zero, List.set_cons_succ, List.getElem?_toArray, List.getElem?_cons_succ, List.getElem?_cons_zero])) (fun K hK => ?_)
        subst ea
        go_simp
        refine (relativeTo_103 (av zh + av zl) T T FN.out _).mono ?_
        rintro r x ⟨rfl, hx⟩
        apply hK
        refine ⟨v39, v40, .bool true, v42, .agg (accC (av zh + av zl)), .agg (accC T), .agg (accC T), .bool true, v47, v8, ?_, belowT hB hx, by simpa using l0, by simpa using l1, fun _ => rfl, by simpa using l3, fun _ => rfl, fun _ => rfl, fun _ => rfl, fun _ => rfl, by simpa using l8, by simpa using l9⟩
        simp only [Act.put, List.setIfInBounds_toArray, List.set_cons_zero, List.set_cons_succ]
      · obtain rfl := Option.some.inj ho
        have p2 : L 2 = true := hpre ⟨2, .data⟩ (by simp) rfl
        obtain rfl := l2 p2
        have p7 : L 7 = true := hpre ⟨7, .data⟩ (by simp) rfl
        obtain rfl := l7 p7
        refine wpOp_by ho rfl (fun K hK => ?_)
        subst ea
        go_simp
        apply hK
        refine ⟨v39, v40, .bool true, v42, v43, v44, v45, .bool true, .bool true, v8, ?_, hB, by simpa using l0, by simpa using l1, fun _ => rfl, by simpa using l3, by simpa using l4, by simpa using l5, by simpa using l6, fun _ => rfl, fun _ => rfl, by simpa using l9⟩
        simp only [Act.put, List.setIfInBounds_toArray, List.set_cons_zero, List.set_cons_succ]
      · obtain rfl := Option.some.inj ho
        have p8 : L 8 = true := hpre ⟨8, .data⟩ (by simp) rfl
        obtain rfl := l8 p8
        refine wpOp_by ho rfl (fun K hK => ?_)
        subst ea
        go_simp
        apply hK
        refine ⟨v39, v40, v41, v42, v43, v44, v45, v46, .bool true, .bool true, ?_, hB, by simpa using l0, by simpa using l1, by simpa using l2, by simpa using l3, by simpa using l4, by simpa using l5, by simpa using l6, by simpa using l7, fun _ => rfl, fun _ => rfl⟩
        simp only [Act.put, List.setIfInBounds_toArray, List.set_cons_zero, List.set_cons_succ]
    · rintro L a' w' ⟨v39, v40, v41, v42, v43, v44, v45, v46, v47, v8, rfl, hB, l0, l1, l2, l3, l4, l5, l6, l7, l8, l9⟩ hall
      obtain rfl := l9 (hall 9 (by decide))
      simp only [Act.put, List.setIfInBounds_toArray, List.set_cons_zero, List.set_cons_succ]
      go_wp2_with fail
      go_ret
      exact ⟨rfl, KB.out.trans (hB.mono KB.out.size)⟩
end Go.Proofs.Ygctac
