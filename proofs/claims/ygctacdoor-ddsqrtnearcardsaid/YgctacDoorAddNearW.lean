/-
  THE WALK of law.DDAddNear.
-/
import Derived.Test.YgctacDoorAddFin
import Derived.Deep.RegionHeld3
import Derived.Test.YgctacDoorInv
import Derived.Deep.Light
import Derived.Deep.DeepCutAuto
namespace Go.Proofs.YgctacDoor
open Go.RowKit
open Fp (fv rnd)
set_option linter.unusedVariables false
set_option linter.unusedSimpArgs false
set_option linter.unnecessarySimpa false

theorem cell_new0 (w : World) (x y : Value) (t : TypeId) : (w.alloc (.cells #[x, y] t)).cell? ⟨w.heap.size, 0, none⟩ = some x := by
  rw [World.cell?, heap_alloc_last]; rfl
theorem cell_new1 (w : World) (x y : Value) (t : TypeId) : (w.alloc (.cells #[x, y] t)).cell? ⟨w.heap.size, 1, none⟩ = some y := by
  rw [World.cell?, heap_alloc_last]; rfl
theorem cell_alloc {w : World} {a : Addr} {v : Value} (o : Obj) (h : w.cell? a = some v) : (w.alloc o).cell? a = some v := by
  have hb := World.block_lt_of_cell? w a h
  rw [World.cell?_of_block (w := w) (heap_alloc_old w o a.block hb), h]
theorem belowT {w x y : World} (h : Below w.heap.size w x) (k : Below x.heap.size x y) : Below w.heap.size w y := h.trans (k.mono h.size)

theorem there_below {w w' : World} (h : Below w.heap.size w w') {b n : Nat} (ht : w.there b 0 n) : w'.there b 0 n := by
  intro j hj
  obtain ⟨h1, h2⟩ := ht j hj
  obtain ⟨u, hu⟩ := Option.isSome_iff_exists.1 h1
  have hb := World.block_lt_of_cell? w _ hu
  exact ⟨by rw [h.cell hb]; exact h1, by rw [h.frozen hb]; exact h2⟩
theorem there_alloc {w : World} (o : Obj) {b n : Nat} (ht : w.there b 0 n) : (w.alloc o).there b 0 n := World.there_alloc ht o
theorem there_new (w : World) : (w.alloc (.cells Tacg.zeroCells33 33)).there w.heap.size 0 68 := by
  have := cells_there (heap_alloc_last w (.cells Tacg.zeroCells33 33 (0, 0)))
  rwa [show Tacg.zeroCells33.size = 68 from by rw [zero67, accC_size]] at this
theorem there_new1 (w : World) (o : Obj) : ((w.alloc o).alloc (.cells Tacg.zeroCells33 33)).there (w.heap.size + 1) 0 68 := by
  have := there_new (w.alloc o)
  rwa [size_alloc] at this
theorem one_map (n : Int) : ∀ v ∈ (toW n).map (Value.int .u64), v.oneCell' = true := by
  intro v hv
  obtain ⟨x, _, rfl⟩ := List.mem_map.1 hv
  rfl
theorem len_map (n : Int) : ((toW n).map (Value.int .u64)).length = 68 := by simp [toW_length]

/-- The store of a whole accumulator, as one operation. -/
theorem wp_store_acc {op : Oper} {a : Act} {w : World} {K : Act → World → Prop} {Q : Exit → Act → World → Prop} (x y : Operand) (ho : op.op = .store 33 x y)
    (b : Nat) (n : Int) (C : Array Value) (hx : a.eval x = .pointer (some ⟨b, 0, none⟩)) (hy : a.eval y = .agg (accC n)) (hb : w.heap[b]? = some (.cells C 33 (0, 0))) (hC : C.size = 68) (hd : op.dst = none)
    (h : K a (putB w b (accC n))) : op.wp Tacg.prog a w K Q := by
  have ht : w.there b 0 (accC n).size := by rw [accC_size, ← hC]; exact cells_there hb
  refine wp_store_mid (P := Tacg.prog) 33 x y ho b 0 (accC n) hx hy ht (by rw [size67, accC_size]) (accC_one n) ?_
  rw [setCells_whole w b C (accC n) 33 hb (by rw [hC, accC_size]), hd]
  exact h

theorem wp_load_acc {op : Oper} {a : Act} {w : World} {K : Act → World → Prop} {Q : Exit → Act → World → Prop} (x : Operand) (ho : op.op = .load 33 x)
    (b : Nat) (n : Int) (hx : a.eval x = .pointer (some ⟨b, 0, none⟩)) (hA : AccAt w b n) (d : Tmp) (hd : op.dst = some d)
    (h : K (a.put (some d) (.agg (accC n))) w) : op.wp Tacg.prog a w K Q := by
  refine wp_load_mid (P := Tacg.prog) 33 x ho b 0 hx (accC n).toList _ hA.range Tacg.underlying33 rfl (by rw [size67]; simp [accC_size]) ?_
  rw [hd]
  simpa using h

end Go.Proofs.YgctacDoor
