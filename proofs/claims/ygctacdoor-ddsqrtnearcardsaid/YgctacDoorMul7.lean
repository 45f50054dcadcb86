/-
  THE WALK of law.DDMulNear.
-/
import Derived.Test.YgctacDoorMul6
import Derived.Test.YgctacDoorMul2
import Derived.Test.YgctacDoorAddNearW
namespace Go.Proofs.YgctacDoor
open Go.RowKit
open Fp (fv rnd)
set_option linter.unusedVariables false
set_option linter.unusedSimpArgs false
set_option linter.unnecessarySimpa false

theorem put_self8 (a : Act) (t1 t2 t3 t4 t5 t6 t7 t8 : Nat) : ∃ v1 v2 v3 v4 v5 v6 v7 v8, a = (((((((a.put (some t1) v1).put (some t2) v2).put (some t3) v3).put (some t4) v4).put (some t5) v5).put (some t6) v6).put (some t7) v7).put (some t8) v8 := by
  obtain ⟨v1, v2, v3, v4, v5, v6, e⟩ := put_self6 a t1 t2 t3 t4 t5 t6
  obtain ⟨v7, h7⟩ := put_self a t7
  obtain ⟨v8, h8⟩ := put_self a t8
  exact ⟨v1, v2, v3, v4, v5, v6, v7, v8, by rw [← e, h7, h8]⟩
theorem put_self10 (a : Act) (t1 t2 t3 t4 t5 t6 t7 t8 t9 t10 : Nat) : ∃ v1 v2 v3 v4 v5 v6 v7 v8 v9 v10, a = (((((((((a.put (some t1) v1).put (some t2) v2).put (some t3) v3).put (some t4) v4).put (some t5) v5).put (some t6) v6).put (some t7) v7).put (some t8) v8).put (some t9) v9).put (some t10) v10 := by
  obtain ⟨v1, v2, v3, v4, v5, v6, v7, v8, e⟩ := put_self8 a t1 t2 t3 t4 t5 t6 t7 t8
  obtain ⟨v9, h9⟩ := put_self a t9
  obtain ⟨v10, h10⟩ := put_self a t10
  exact ⟨v1, v2, v3, v4, v5, v6, v7, v8, v9, v10, by rw [← e, h9, h10]⟩

/-- An operation whose guard stands open is carried out. -/
theorem wpOp_open {P : Program} {ops : Array Oper} {Q : Exit → Act → World → Prop} {i : Nat} {o : Oper} {K0 : Act → World → Prop} {a : Act} {w : World} (ho : ops[i]? = some o) (hw : Region.wanted o (yielded ops a.tmps) = true)
    (h : ∀ K : Act → World → Prop, (∀ a₁ w₁, K0 a₁ w₁ → K a₁ w₁) → o.wp P a w K Q) : wpOp P ops Q i K0 a w := by
  unfold wpOp
  rw [ho]
  simp only [hw, if_true]
  exact Or.inl (h K0 (fun _ _ h => h))

theorem wanted_of {ops : Array Oper} {o : Oper} {tmps : Array Value} (j t : Nat) (hg : o.guard = some (j, true)) (hd : (ops[j]?).bind (·.dst) = some t) (hv : tmps[t]? = some (.bool true)) : Region.wanted o (yielded ops tmps) = true := by
  unfold Region.wanted
  rw [hg]
  simp [yielded, hd, hv]

/-- A twofold number in its block. -/
def DDBlk (w : World) (b x y : Nat) : Prop := w.heap[b]? = some (.cells #[.float .f64 x, .float .f64 y] 25 (0, 0))
def putD (w : World) (b x y : Nat) : World := { w with heap := w.heap.setIfInBounds b (.cells #[.float .f64 x, .float .f64 y] 25 (0, 0)) }
theorem putD_heap (w : World) (b x y k : Nat) (h : k ≠ b) : (putD w b x y).heap[k]? = w.heap[k]? := by
  simp only [putD, Array.getElem?_setIfInBounds]
  rw [if_neg (by omega)]
theorem putD_size (w : World) (b x y : Nat) : (putD w b x y).heap.size = w.heap.size := by simp [putD]
theorem DDBlk.lt {w : World} {b x y : Nat} (h : DDBlk w b x y) : b < w.heap.size := by
  unfold DDBlk at h
  exact (Array.getElem?_eq_some_iff.1 h).1
theorem DDBlk.put {w : World} {b x y : Nat} (h : DDBlk w b x y) (x' y' : Nat) : DDBlk (putD w b x' y') b x' y' := by
  have := h.lt
  simp [DDBlk, putD, this]
theorem DDBlk.block {w w' : World} {b x y : Nat} (h : DDBlk w b x y) (e : w'.heap[b]? = w.heap[b]?) : DDBlk w' b x y := e.trans h
theorem DDBlk.new (w : World) (x y : Nat) : DDBlk (w.alloc (.cells #[.float .f64 x, .float .f64 y] 25)) w.heap.size x y := heap_alloc_last _ _
theorem DDBlk.alloc {w : World} {b x y : Nat} (h : DDBlk w b x y) (o : Obj) : DDBlk (w.alloc o) b x y := h.block (heap_alloc_old _ _ _ h.lt)
theorem DDBlk.below {w w' : World} {b x y B : Nat} (h : DDBlk w b x y) (hb : Below B w w') (hB : b < B) : DDBlk w' b x y := h.block (hb.block b hB)
theorem DDBlk.other {w : World} {b x y c : Nat} (h : DDBlk w b x y) (hc : b ≠ c) (C : Array Value) : DDBlk (putB w c C) b x y := h.block (putB_heap _ _ _ _ hc)
theorem DDBlk.c0 {w : World} {b x y : Nat} (h : DDBlk w b x y) : w.cell? ⟨b, 0, none⟩ = some (.float .f64 x) := by rw [World.cell?, h]; rfl
theorem DDBlk.c1 {w : World} {b x y : Nat} (h : DDBlk w b x y) : w.cell? ⟨b, 1, none⟩ = some (.float .f64 y) := by rw [World.cell?, h]; rfl
theorem AccAt.otherD {w : World} {b c x y : Nat} {n : Int} (h : AccAt w b n) (hc : b ≠ c) : AccAt (putD w c x y) b n := (putD_heap w c x y b hc).trans h
theorem below_putD {B : Nat} {a w : World} (h : Below B a w) {b : Nat} (hp : B ≤ b) (x y : Nat) : Below B a (putD w b x y) :=
  h.trans ⟨rfl, rfl, rfl, by rw [putD_size]; exact Nat.le_refl _, fun k hk => putD_heap _ _ _ _ _ (by omega)⟩
theorem size82 : (Tacg.prog.info? 25).map (·.size) = some 2 := by kernel_rfl

theorem wp_store_dd {op : Oper} {a : Act} {w : World} {K : Act → World → Prop} {Q : Exit → Act → World → Prop} (x y : Operand) (ho : op.op = .store 25 x y)
    (b p q p0 q0 : Nat) (hx : a.eval x = .pointer (some ⟨b, 0, none⟩)) (hy : a.eval y = .agg #[.float .f64 p, .float .f64 q]) (hb : DDBlk w b p0 q0) (hd : op.dst = none)
    (h : K a (putD w b p q)) : op.wp Tacg.prog a w K Q := by
  have ht : w.there b 0 (#[Value.float .f64 p, .float .f64 q] : Array Value).size := cells_there (C := #[.float .f64 p0, .float .f64 q0]) hb
  refine wp_store_mid (P := Tacg.prog) 25 x y ho b 0 #[.float .f64 p, .float .f64 q] hx hy ht size82 (by simp [Value.oneCell']) ?_
  rw [setCells_whole w b _ #[.float .f64 p, .float .f64 q] 25 hb rfl, hd]
  exact h

theorem relativeTo_103 (g m o : Int) (hc : cmpW (absW (g + -m) * 2 ^ 103) (absW o + av slackP * 2 ^ 103) ≤ 0) (w : World) :
    Calls Tacg.prog 8 #[.agg (accC g), .agg (accC m), .agg (accC o), .int .u16 103] w fun r w' => r = .returned (.bool true) ∧ Below w.heap.size w w' :=
  relativeTo_any g m o 103 (show 103 < 65536 by decide) hc w

end Go.Proofs.YgctacDoor
