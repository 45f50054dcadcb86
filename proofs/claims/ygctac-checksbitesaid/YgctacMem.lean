/-
  AN ACCUMULATOR IN MEMORY: a block of 68 words. What a load, a store, one cell's store make of it.
-/
import Derived.Test.YgctacWords
import Derived.WalkKit
import Derived.Deep.MidRow
import Derived.Deep.Draws
import Derived.Below
namespace Go.Proofs.Ygctac
open Go.RowKit

/-- Block b holds the cells C (of type 67), and nothing else has turned. -/
def putB (w : World) (b : Nat) (C : Array Value) : World := { w with heap := w.heap.setIfInBounds b (.cells C 67 (0, 0)) }

/-- Block b is an accumulator that holds n. -/
def AccAt (w : World) (b : Nat) (n : Int) : Prop := w.heap[b]? = some (.cells (accC n) 67 (0, 0))

theorem putB_heap (w : World) (b : Nat) (C : Array Value) (k : Nat) (h : k ≠ b) : (putB w b C).heap[k]? = w.heap[k]? := by
  simp only [putB, Array.getElem?_setIfInBounds]
  rw [if_neg (by omega)]
theorem putB_size (w : World) (b : Nat) (C : Array Value) : (putB w b C).heap.size = w.heap.size := by simp [putB]
theorem putB_same (w : World) (b : Nat) (C : Array Value) (h : b < w.heap.size) : (putB w b C).heap[b]? = some (.cells C 67 (0, 0)) := by
  simp [putB, h]
theorem putB_putB (w : World) (b : Nat) (C D : Array Value) : putB (putB w b C) b D = putB w b D := by
  simp [putB]
theorem putB_drewN (w : World) (b : Nat) (C : Array Value) (n : Nat) : putB (w.drewN n) b C = (putB w b C).drewN n := rfl
theorem putB_drew (w : World) (b : Nat) (C : Array Value) : putB w.drew b C = (putB w b C).drew := rfl
theorem drewN_drewN (w : World) (n m : Nat) : (w.drewN n).drewN m = w.drewN (n + m) := by simp [World.drewN, Nat.add_assoc]
theorem drewN_heap (w : World) (n : Nat) : (w.drewN n).heap = w.heap := rfl
theorem drew_is (w : World) : w.drew = w.drewN 1 := rfl

theorem AccAt.lt {w : World} {b : Nat} {n : Int} (h : AccAt w b n) : b < w.heap.size := by
  unfold AccAt at h
  rcases Nat.lt_or_ge b w.heap.size with h' | h'
  · exact h'
  · rw [Array.getElem?_eq_none h'] at h; cases h
theorem AccAt.put {w : World} {b : Nat} {n : Int} (h : AccAt w b n) (m : Int) : AccAt (putB w b (accC m)) b m := putB_same w b _ h.lt
theorem AccAt.drewN {w : World} {b : Nat} {n : Int} (h : AccAt w b n) (k : Nat) : AccAt (w.drewN k) b n := h
theorem AccAt.other {w : World} {b c : Nat} {n : Int} (h : AccAt w b n) (hc : b ≠ c) (C : Array Value) : AccAt (putB w c C) b n := (putB_heap w c C b hc).trans h
theorem AccAt.put_self {w : World} {b : Nat} {n : Int} (h : AccAt w b n) : putB w b (accC n) = w := by
  have hb := h.lt
  unfold AccAt at h
  have : w.heap.setIfInBounds b (.cells (accC n) 67 (0, 0)) = w.heap := by
    apply Array.ext_getElem?
    intro i
    rw [Array.getElem?_setIfInBounds]
    by_cases e : b = i
    · subst e; rw [if_pos rfl, if_pos hb, h]
    · rw [if_neg e]
  unfold putB
  rw [this]

theorem AccAt.cell {w : World} {b : Nat} {n : Int} (h : AccAt w b n) (i : Nat) (hi : i < 68) : w.cell? ⟨b, i, none⟩ = some (.int .u64 (wd n i)) := by
  unfold AccAt at h
  simp [World.cell?, h, accC_get n i hi]
theorem AccAt.frozen {w : World} {b : Nat} {n : Int} (h : AccAt w b n) (i : Nat) : w.frozen? ⟨b, i, none⟩ = false := by
  unfold AccAt at h
  simp [World.frozen?, h]

/-- One word's store. -/
theorem AccAt.setCell {w : World} {b : Nat} {n : Int} (h : AccAt w b n) (i : Nat) (v : Int) (hv0 : 0 ≤ v) (hv : v < 18446744073709551616) :
    w.setCell ⟨b, i, none⟩ (.int .u64 v) = putB w b (accC (n + (v - wd n i) * 2 ^ (64 * i))) := by
  have hb := h.lt
  unfold AccAt at h
  unfold World.setCell putB
  congr 1
  apply Array.ext_getElem?
  intro k
  rw [Array.getElem?_modify, Array.getElem?_setIfInBounds]
  by_cases e : b = k
  · subst e
    simp only [if_pos, hb, h, Option.map_some]
    rw [← accC_set n v i hv0 hv]
    simp
  · rw [if_neg e, if_neg e]

theorem AccAt.setCell_d {w : World} {b : Nat} {n : Int} (h : AccAt w b n) (i : Nat) (v : Int) (hv0 : 0 ≤ v) (hv : v < 18446744073709551616) (d : Nat) :
    (w.drewN d).setCell ⟨b, i, none⟩ (.int .u64 v) = (putB w b (accC (n + (v - wd n i) * 2 ^ (64 * i)))).drewN d :=
  (h.drewN d).setCell i v hv0 hv
theorem AccAt.setCell_pd {w : World} {b : Nat} {C : Array Value} {n : Int} (h : AccAt (putB w b C) b n) (i : Nat) (v : Int) (hv0 : 0 ≤ v) (hv : v < 18446744073709551616) (d : Nat) :
    ((putB w b C).drewN d).setCell ⟨b, i, none⟩ (.int .u64 v) = (putB w b (accC (n + (v - wd n i) * 2 ^ (64 * i)))).drewN d := by
  rw [h.setCell_d i v hv0 hv d, putB_putB]

/-- The whole is loaded. -/
theorem AccAt.range {w : World} {b : Nat} {n : Int} (h : AccAt w b n) : w.rangeAt b 0 (accC n).toList := fun j v hv => by
  have hj : j < 68 := by
    have := (List.getElem?_eq_some_iff.1 hv).1
    simpa [accC_size] using this
  rw [Nat.zero_add, h.cell j hj, ← hv, Array.getElem?_toList, accC_get n j hj]

theorem cells_there {w : World} {b : Nat} {C : Array Value} {t : TypeId} (h : w.heap[b]? = some (.cells C t (0, 0))) : w.there b 0 C.size := fun j hj => by
  simp [World.cell?, World.frozen?, h, hj]

theorem heap_set_same (w : World) (b : Nat) (o : Obj) (h : w.heap[b]? = some o) : w.heap.setIfInBounds b o = w.heap := by
  apply Array.ext_getElem?
  intro i
  rw [Array.getElem?_setIfInBounds]
  by_cases e : b = i
  · subst e
    rcases Nat.lt_or_ge b w.heap.size with h' | h'
    · rw [if_pos rfl, if_pos h', h]
    · rw [Array.getElem?_eq_none h'] at h; cases h
  · rw [if_neg e]

theorem setCell_block (w : World) (b o : Nat) (v : Value) (C : Array Value) (t : TypeId) (fr : Nat × Nat) (h : w.heap[b]? = some (.cells C t fr)) :
    w.setCell ⟨b, o, none⟩ v = { w with heap := w.heap.setIfInBounds b (.cells (C.setIfInBounds o v) t fr) } := by
  have hb : b < w.heap.size := by
    rcases Nat.lt_or_ge b w.heap.size with h' | h'
    · exact h'
    · rw [Array.getElem?_eq_none h'] at h; cases h
  unfold World.setCell
  congr 1
  apply Array.ext_getElem?
  intro k
  rw [Array.getElem?_modify, Array.getElem?_setIfInBounds]
  by_cases e : b = k
  · subst e; rw [if_pos rfl, if_pos rfl, if_pos hb, h]; rfl
  · rw [if_neg e, if_neg e]

theorem setCells_lists (b : Nat) (t : TypeId) : ∀ (l pre rest : List Value) (w : World), w.heap[b]? = some (.cells (pre ++ rest).toArray t (0, 0)) → rest.length = l.length →
    w.setCells b pre.length l = { w with heap := w.heap.setIfInBounds b (.cells (pre ++ l).toArray t (0, 0)) }
  | [], pre, rest, w, h, hl => by
    have : rest = [] := by simpa using hl
    subst this
    rw [heap_set_same w b _ h]; rfl
  | v :: l, pre, [], w, h, hl => by simp at hl
  | v :: l, pre, r :: rest, w, h, hl => by
    have hb : b < w.heap.size := by
      rcases Nat.lt_or_ge b w.heap.size with h' | h'
      · exact h'
      · rw [Array.getElem?_eq_none h'] at h; cases h
    have e1 : (pre ++ r :: rest).toArray.setIfInBounds pre.length v = (pre ++ [v] ++ rest).toArray := by
      simp [List.setIfInBounds_toArray]
    rw [World.setCells, setCell_block w b pre.length v _ t (0, 0) h, e1]
    have e2 : pre.length + 1 = (pre ++ [v]).length := by simp
    rw [e2, setCells_lists b t l (pre ++ [v]) rest _ (by simp [hb]) (by simpa using hl)]
    simp

theorem setCells_whole (w : World) (b : Nat) (C D : Array Value) (t : TypeId) (h : w.heap[b]? = some (.cells C t (0, 0))) (hs : C.size = D.size) :
    w.setCells b 0 D.toList = { w with heap := w.heap.setIfInBounds b (.cells D t (0, 0)) } := by
  have := setCells_lists b t D.toList [] C.toList w (by simpa using h) (by simpa using hs)
  simpa using this
end Go.Proofs.Ygctac
