/-
  An accumulator by value: loaded, stored, boxed, handed back.
-/
import Derived.Test.YgctacAddF
namespace Go.Proofs.Ygctac
open Go.RowKit
open Fp (fv)
set_option linter.unusedVariables false
set_option linter.unusedSimpArgs false

theorem zero67 : Tacg.zeroCells67 = accC 0 := by kernel_rfl
theorem heap_alloc_last (w : World) (o : Obj) : (w.alloc o).heap[w.heap.size]? = some o := by
  show (w.heap.push o)[w.heap.size]? = some o
  simp
theorem heap_alloc_old (w : World) (o : Obj) (k : Nat) (h : k < w.heap.size) : (w.alloc o).heap[k]? = w.heap[k]? := by
  show (w.heap.push o)[k]? = _
  rw [Array.getElem?_push, if_neg (by omega)]
theorem size_alloc (w : World) (o : Obj) : (w.alloc o).heap.size = w.heap.size + 1 := by
  show (w.heap.push o).size = _
  simp
theorem accAt_new (w : World) : AccAt (w.alloc (.cells Tacg.zeroCells67 67)) w.heap.size 0 := by
  unfold AccAt
  rw [heap_alloc_last, zero67]
theorem AccAt.alloc {w : World} {b : Nat} {n : Int} (h : AccAt w b n) (o : Obj) : AccAt (w.alloc o) b n := by
  have := h.lt
  unfold AccAt at *
  rw [heap_alloc_old _ _ _ this, h]
theorem AccAt.below {w w' : World} {b B : Nat} {n : Int} (h : AccAt w b n) (hb : Below B w w') (hB : b < B) : AccAt w' b n := (hb.block b hB).trans h
theorem below_putB {B : Nat} {a w : World} (h : Below B a w) {b : Nat} (hp : B ≤ b) (C : Array Value) : Below B a (putB w b C) :=
  h.trans ⟨rfl, rfl, rfl, by rw [putB_size]; exact Nat.le_refl _, fun k hk => putB_heap _ _ _ _ (by omega)⟩
theorem below_drewN {B : Nat} {a w : World} (h : Below B a w) (n : Nat) : Below B a (w.drewN n) := ⟨h.os, h.tape, h.output, h.size, h.block⟩
theorem size67 : (Tacg.prog.info? 67).map (·.size) = some 68 := by kernel_rfl

theorem accC_one (n : Int) : (accC n).all (·.oneCell') = true := by
  rw [Array.all_eq_true_iff_forall_mem]
  intro v hv
  simp only [accC, List.mem_toArray, List.mem_map] at hv
  obtain ⟨x, _, rfl⟩ := hv
  rfl

theorem loadVar_acc {w : World} {b : Nat} {n : Int} (h : AccAt w b n) : (loadVar 67 ⟨b, 0, none⟩).run Tacg.prog w = .ok (.agg (accC n)) w := by
  have := run_loadVar_mid (P := Tacg.prog) w b 0 67 (accC n).toList _ h.range Tacg.underlying67 rfl (by rw [size67]; simp [accC_size])
  simpa using this

theorem load_acc {w : World} {b : Nat} {n : Int} (h : AccAt w b n) : (Instr.loadAt 67 (.pointer (some ⟨b, 0, none⟩))).run Tacg.prog w = .ok (.agg (accC n)) w := by
  simp only [Instr.loadAt, Instr.sureAddr, Sem.run_bind, Sem.run_pure, Result.andThen_ok, loadVar_acc h]

theorem storeVar_acc {w : World} {b : Nat} {C : Array Value} (h : w.heap[b]? = some (.cells C 67 (0, 0))) (hC : C.size = 68) (n : Int) :
    (storeVar 67 ⟨b, 0, none⟩ (.agg (accC n))).run Tacg.prog w = .ok () (putB w b (accC n)) := by
  have ht : w.there b 0 (accC n).size := by rw [accC_size, ← hC]; exact cells_there h
  have := run_storeVar_mid (P := Tacg.prog) w b 0 67 (accC n) ht (by rw [size67, accC_size]) (accC_one n)
  rw [this, setCells_whole w b C (accC n) 67 h (by rw [hC, accC_size])]
  rfl

/-- In the walk. -/
theorem wpList_load_acc {ops : Array Oper} {rest : List Oper} {op : Oper} {a : Act} {w : World} {Q : Exit → Act → World → Prop} (hgd : op.guard = none) (x : Operand) (ho : op.op = .load 67 x)
    (b : Nat) (n : Int) (hx : a.eval x = .pointer (some ⟨b, 0, none⟩)) (hA : AccAt w b n)
    (h : wpList Tacg.prog ops Q rest (a.put op.dst (.agg (accC n))) w) : wpList Tacg.prog ops Q (op :: rest) a w := by
  have := wpList_load_mid (P := Tacg.prog) (ops := ops) (rest := rest) (op := op) (a := a) (w := w) (Q := Q) hgd 67 x ho b 0 hx (accC n).toList _ hA.range Tacg.underlying67 rfl (by rw [size67]; simp [accC_size])
  exact this (by simpa using h)

theorem wpList_store_acc {ops : Array Oper} {rest : List Oper} {op : Oper} {a : Act} {w : World} {Q : Exit → Act → World → Prop} (hgd : op.guard = none) (x y : Operand) (ho : op.op = .store 67 x y)
    (b : Nat) (n : Int) (C : Array Value) (hx : a.eval x = .pointer (some ⟨b, 0, none⟩)) (hy : a.eval y = .agg (accC n)) (hb : w.heap[b]? = some (.cells C 67 (0, 0))) (hC : C.size = 68)
    (h : wpList Tacg.prog ops Q rest (a.put op.dst undef) (putB w b (accC n))) : wpList Tacg.prog ops Q (op :: rest) a w := by
  have ht : w.there b 0 (accC n).size := by rw [accC_size, ← hC]; exact cells_there hb
  have := wpList_store_mid (P := Tacg.prog) (ops := ops) (rest := rest) (op := op) (a := a) (w := w) (Q := Q) hgd 67 x y ho b 0 (accC n) hx hy ht (by rw [size67, accC_size]) (accC_one n)
  refine this ?_
  rw [setCells_whole w b C (accC n) 67 hb (by rw [hC, accC_size])]
  exact h

/-- A result that lies in memory. -/
theorem results_cell1 {fn : Func} {p : Tmp} {ty : TypeId} (h : fn.results = #[.cell p ty]) (tmps : Array Value) (P : Program) (w : World) (a : Addr) (v : Value)
    (ha : tmps.getD p undef = .pointer (some a)) (hl : (loadVar ty a).run P w = .ok v w) : (results fn tmps).run P w = .ok v w := by
  simp only [results, h]
  simp only [List.mapM_toArray, List.mapM_cons, List.mapM_nil, Sem.run_bind, Result.andThen, ha, asAddr, hl, Sem.run_pure]
  simp [Sem.run_bind, Result.andThen, hl]

set_option maxRecDepth 100000 in
set_option maxHeartbeats 1000000 in
theorem accOf_any (p : Nat) (hp : p < 18446744073709551616) (hf : Fp.Fin p) (w : World) :
    Calls Tacg.prog 135 #[.float .f64 p] w fun r w' => r = .returned (.agg (accC (av p))) ∧ Below w.heap.size w w' := by
  have h0 : AccAt ((w.alloc (.cells Tacg.zeroCells67 67)).alloc (.cells Tacg.zeroCells67 67)) (w.heap.size + 1) 0 := by
    have := accAt_new (w.alloc (.cells Tacg.zeroCells67 67))
    rwa [size_alloc] at this
  have h00 : ((w.alloc (.cells Tacg.zeroCells67 67)).alloc (.cells Tacg.zeroCells67 67)).heap[w.heap.size]? = some (.cells Tacg.zeroCells67 67 (0, 0)) := by
    rw [heap_alloc_old _ _ _ (by rw [size_alloc]; omega), heap_alloc_last]
  have hB : Below w.heap.size w ((w.alloc (.cells Tacg.zeroCells67 67)).alloc (.cells Tacg.zeroCells67 67)) :=
    ((Below.refl _ _).alloc (Nat.le_refl _) _).alloc (by rw [size_alloc]; omega) _
  go_enter Tacg.func135, Tacg.ntmps135
  go_wp2_with fail
  generalize (w.alloc (.cells Tacg.zeroCells67 67)).alloc (.cells Tacg.zeroCells67 67) = W at *
  refine (addFloat_any _ p 0 hp hf _ h0).mono ?_
  rintro e w' ⟨rfl, d, rfl⟩
  rw [Int.zero_add]
  have h1 := (h0.put (av p)).drewN d
  have hb : ((putB W (w.heap.size + 1) (accC (av p))).drewN d).heap[w.heap.size]? = some (.cells Tacg.zeroCells67 67 (0, 0)) := by
    rw [drewN_heap, putB_heap _ _ _ _ (by omega), h00]
  have hB1 : Below w.heap.size w ((putB W (w.heap.size + 1) (accC (av p))).drewN d) := below_drewN (below_putB hB (by omega) _) d
  generalize (putB W (w.heap.size + 1) (accC (av p))).drewN d = W1 at *
  go_wp2_with (first | (refine wpList_load_acc rfl _ rfl _ _ rfl h1 ?_) | (refine wpList_store_acc rfl _ _ rfl _ _ _ rfl rfl hb (by rw [zero67, accC_size]) ?_))
  refine bodyPost_ret (results_cell1 (by rfl) _ _ _ ⟨w.heap.size, 0, none⟩ (.agg (accC (av p))) rfl (loadVar_acc ?_)) rfl ⟨rfl, below_putB hB1 (Nat.le_refl _) _⟩
  exact putB_same _ _ _ (by have := hB1.size; have := h1.lt; omega)

set_option maxRecDepth 100000 in
set_option maxHeartbeats 1000000 in
theorem accSum_any (p q : Nat) (hp : p < 18446744073709551616) (hf : Fp.Fin p) (hq : q < 18446744073709551616) (hg : Fp.Fin q) (w : World) :
    Calls Tacg.prog 68 #[.float .f64 p, .float .f64 q] w fun r w' => r = .returned (.agg (accC (av p + av q))) ∧ Below w.heap.size w w' := by
  go_enter Tacg.func68, Tacg.ntmps68
  go_wp2_with fail
  refine (accOf_any p hp hf _).mono ?_
  rintro e W ⟨rfl, hW⟩
  rw [size_alloc] at hW
  have hB : Below w.heap.size w W := ((Below.refl _ _).alloc (Nat.le_refl _) _).trans (hW.mono (by omega))
  have h00 : W.heap[w.heap.size]? = some (.cells Tacg.zeroCells67 67 (0, 0)) := by
    rw [hW.block _ (by omega), heap_alloc_last]
  have hs : w.heap.size < W.heap.size := by have := hW.size; rw [size_alloc] at this; omega
  clear hW
  go_wp2_with (first | (refine wpList_store_acc rfl _ _ rfl _ _ Tacg.zeroCells67 rfl rfl (heap_alloc_last _ _) (by rw [zero67, accC_size]) ?_))
  have hN : Below W.heap.size W (W.alloc (.cells Tacg.zeroCells67 67)) := (Below.refl _ _).alloc (Nat.le_refl _) _
  have h0 : AccAt (putB (W.alloc (.cells Tacg.zeroCells67 67)) W.heap.size (accC (av p))) W.heap.size (av p) := (accAt_new W).put _
  have h01 : (putB (W.alloc (.cells Tacg.zeroCells67 67)) W.heap.size (accC (av p))).heap[w.heap.size]? = some (.cells Tacg.zeroCells67 67 (0, 0)) := by
    rw [putB_heap _ _ _ _ (by omega), heap_alloc_old _ _ _ hs, h00]
  have hB1 : Below w.heap.size w (putB (W.alloc (.cells Tacg.zeroCells67 67)) W.heap.size (accC (av p))) :=
    below_putB (hB.alloc (by omega) _) (by omega) _
  generalize putB (W.alloc (.cells Tacg.zeroCells67 67)) W.heap.size (accC (av p)) = W1 at *
  refine (addFloat_any _ q (av p) hq hg _ h0).mono ?_
  rintro e w' ⟨rfl, d, rfl⟩
  have h1 := (h0.put (av p + av q)).drewN d
  have hb : ((putB W1 W.heap.size (accC (av p + av q))).drewN d).heap[w.heap.size]? = some (.cells Tacg.zeroCells67 67 (0, 0)) := by
    rw [drewN_heap, putB_heap _ _ _ _ (by omega), h01]
  have hB2 : Below w.heap.size w ((putB W1 W.heap.size (accC (av p + av q))).drewN d) := below_drewN (below_putB hB1 (by omega) _) d
  generalize (putB W1 W.heap.size (accC (av p + av q))).drewN d = W2 at *
  go_wp2_with (first | (refine wpList_load_acc rfl _ rfl _ _ rfl h1 ?_) | (refine wpList_store_acc rfl _ _ rfl _ _ _ rfl rfl hb (by rw [zero67, accC_size]) ?_))
  refine bodyPost_ret (results_cell1 (by rfl) _ _ _ ⟨w.heap.size, 0, none⟩ (.agg (accC (av p + av q))) rfl (loadVar_acc ?_)) rfl ⟨rfl, below_putB hB2 (Nat.le_refl _) _⟩
  exact putB_same _ _ _ (by have := h1.lt; omega)

/-- A twofold number: two floats in a row. -/
def ddV (hi lo : Nat) : Value := .agg #[.float .f64 hi, .float .f64 lo]

set_option maxRecDepth 100000 in
set_option maxHeartbeats 1000000 in
theorem accDD_any (p q : Nat) (hp : p < 18446744073709551616) (hf : Fp.Fin p) (hq : q < 18446744073709551616) (hg : Fp.Fin q) (w : World) :
    Calls Tacg.prog 54 #[.agg #[.float .f64 p, .float .f64 q]] w fun r w' => r = .returned (.agg (accC (av p + av q))) ∧ Below w.heap.size w w' := by
  go_enter Tacg.func54, Tacg.ntmps54
  go_wp2_with fail
  refine (accSum_any p q hp hf hq hg _).mono ?_
  rintro e W ⟨rfl, hW⟩
  simp only [size_alloc] at hW
  have hB : Below w.heap.size w W := (((Below.refl _ _).alloc (Nat.le_refl _) _).alloc (by rw [size_alloc]; omega) _).trans (hW.mono (by omega))
  have h00 : W.heap[w.heap.size + 1]? = some (.cells Tacg.zeroCells67 67 (0, 0)) := by
    rw [hW.block _ (by omega), ← size_alloc, heap_alloc_last]
  have hs : w.heap.size + 1 < W.heap.size := by have := hW.size; simp only [size_alloc] at this; omega
  clear hW
  go_wp2_with (first | (refine wpList_store_acc rfl _ _ rfl _ _ Tacg.zeroCells67 rfl rfl h00 (by rw [zero67, accC_size]) ?_))
  refine bodyPost_ret (results_cell1 (by rfl) _ _ _ ⟨w.heap.size + 1, 0, none⟩ (.agg (accC (av p + av q))) rfl (loadVar_acc ?_)) rfl ⟨rfl, below_putB hB (by omega) _⟩
  exact putB_same _ _ _ hs
end Go.Proofs.Ygctac
