/-
  A machine that owns its memory; appending one value.
-/
import Derived.Test.YgctacKm10
import Derived.Laws.AppendOwn
namespace Go.Proofs.Ygctac
open Go.RowKit
set_option linter.unusedVariables false
set_option linter.unusedSimpArgs false

/-- A slice over a row of its own. -/
def RowO (W : World) (e : TypeId) (v : Value) (n : Nat) (X : Nat → Value) : Prop :=
  (v = .slice none 0 0 ∧ n = 0) ∨ ∃ g c C, v = .slice (some ⟨g, 0, none⟩) n c ∧ n ≤ c ∧ W.heap[g]? = some (.cells C e (0, 0)) ∧ C.size = c ∧ ∀ i, i < n → C[i]? = some (X i)
theorem RowO.slice {W : World} {e : TypeId} {v : Value} {n : Nat} {X : Nat → Value} (h : RowO W e v n X) : ∃ p c, v = .slice p n c := by
  rcases h with ⟨h, rfl⟩ | ⟨g, c, C, h, _⟩
  · exact ⟨none, 0, h⟩
  · exact ⟨_, _, h⟩
theorem RowO.moved {W W' : World} {e : TypeId} {v : Value} {n : Nat} {X : Nat → Value} (h : RowO W e v n X) (hb : ∀ (b : Nat) (C : Array Value), v.ownBlock = some b → W.heap[b]? = some (.cells C e (0, 0)) → W'.heap[b]? = some (.cells C e (0, 0))) : RowO W' e v n X := by
  rcases h with h | ⟨g, c, C, rfl, h2, h3, h4⟩
  · exact .inl h
  · exact .inr ⟨g, c, C, rfl, h2, hb g C rfl h3, h4⟩
theorem RowO.cut {W : World} {e : TypeId} {p : Option Addr} {n c m : Nat} {X : Nat → Value} (h : RowO W e (.slice p n c) n X) (hm : m ≤ n) : RowO W e (.slice p m c) m X := by
  rcases h with ⟨h, rfl⟩ | ⟨g, c', C, h1, h2, h3, h4, h5⟩
  · cases h
    obtain rfl : m = 0 := by omega
    exact .inl ⟨rfl, rfl⟩
  · cases h1
    exact .inr ⟨g, c, C, rfl, by omega, h3, h4, fun i hi => h5 i (by omega)⟩
theorem RowO.congr {W : World} {e : TypeId} {v : Value} {n : Nat} {X Y : Nat → Value} (h : RowO W e v n X) (hx : ∀ i, i < n → X i = Y i) : RowO W e v n Y := by
  rcases h with h | ⟨g, c, C, h1, h2, h3, h4, h5⟩
  · exact .inl h
  · exact .inr ⟨g, c, C, h1, h2, h3, h4, fun i hi => by rw [h5 i hi, hx i hi]⟩
def listX (n : Nat) (X : Nat → Value) : List Value := (List.range n).map X
theorem listX_length (n : Nat) (X : Nat → Value) : (listX n X).length = n := by simp [listX]
theorem listX_get (n : Nat) (X : Nat → Value) (j : Nat) (h : j < n) : (listX n X)[j]? = some (X j) := by simp [listX, h]

theorem append_one (W : World) (t ty e : TypeId) (z : Value) (bytes : Nat) (ht : Tacg.prog.underlying t = some (.slice e)) (hinfo : (Tacg.prog.info? e).map (fun i => (i.zero, i.size, i.bytes)) = some (some z, 1, bytes)) (hz1 : z.cells.size = 1) (hby : bytes ≤ 281474976710656)
    (v : Value) (n : Nat) (X : Nat → Value) (h : RowO W e v n X) (hn : n * bytes ≤ 140737488355328) (hn2 : n ≤ 140737488355328) (a : Addr) (y : Value) (hy : W.cell? (a.add 0) = some y) (h1 : y.oneCell' = true) :
    ∃ v' w', (Builtin.append_ #[t, t] ty #[v, .slice (some a) 1 1]).run Tacg.prog W = .ok v' w' ∧ RowO w' e v' (n + 1) (fun i => if i = n then y else X i) ∧ W.grownBy w' v.ownBlock ∧ (v'.ownBlock = v.ownBlock ∨ ∃ g, v'.ownBlock = some g ∧ W.heap.size ≤ g) := by
  obtain ⟨i, hi, hz, hsz, hb⟩ := info_parts hinfo
  have hnews : ∀ j u, ([y] : List Value)[j]? = some u → W.cell? (a.add j) = some u := by
    intro j u hu
    match j, hu with
    | 0, hu => simp at hu; subst hu; exact hy
    | j + 1, hu => simp at hu
  have hl : ([y] : List Value).length = 1 * i.size := by rw [hsz]; rfl
  rcases h with ⟨rfl, rfl⟩ | ⟨g, c, C, rfl, hnc, hg, hC, hX⟩
  · have hr := run_append_nil (P := Tacg.prog) W t ty e i z ht hi hz a 1 1 [y] hl hnews (by decide) (by decide) (by rw [hb]; omega)
    refine ⟨_, _, hr, .inr ⟨W.heap.size, _, _, rfl, grownCap_ge W 1 0 e, heap_alloc_new W.drew _, ?_, fun j hj => ?_⟩, ⟨rfl, rfl, rfl, by simp, fun k hk _ => heap_alloc_old W.drew _ hk⟩, .inr ⟨W.heap.size, rfl, Nat.le_refl _⟩⟩
    · have := grownCap_ge W 1 0 e
      simp only [Array.size_append, size_zeroCells, hz1]
      simp
      omega
    · obtain rfl : j = 0 := by omega
      rw [Array.getElem?_append_left (by simp)]
      rfl
  · by_cases hroom : n + 1 ≤ c
    · have hr := run_append_room (P := Tacg.prog) W t ty e i ht hi g n c C hg a 1 1 [y] hl hnews (by simp [h1]) hroom (by rw [hsz]; simp; omega)
      refine ⟨_, _, hr, .inr ⟨g, c, _, rfl, hroom, setRow_heap W g C _ e _ hg, ?_, fun j hj => ?_⟩, ⟨rfl, rfl, rfl, by simp, fun k _ hk => setRow_other W g k _ (fun e => hk (by simp [Value.ownBlock, e]))⟩, .inl rfl⟩
      · rw [hsz]
        simp only [List.size_toArray, List.length_append, List.length_take, List.length_drop, Array.length_toList, List.length_cons, List.length_nil]
        omega
      · rw [hsz, Nat.mul_one]
        have hlt : (C.toList.take n).length = n := by simp; omega
        by_cases c1 : j = n
        · subst c1
          simp only [if_true]
          rw [show ((List.take j C.toList ++ [y] ++ List.drop (j + [y].length) C.toList).toArray)[j]? = (List.take j C.toList ++ [y] ++ List.drop (j + [y].length) C.toList)[j]? by simp]
          rw [List.append_assoc, List.getElem?_append_right (by omega), hlt]
          simp
        · simp only [c1, if_false]
          rw [show ((List.take n C.toList ++ [y] ++ List.drop (n + [y].length) C.toList).toArray)[j]? = (List.take n C.toList ++ [y] ++ List.drop (n + [y].length) C.toList)[j]? by simp]
          rw [List.append_assoc, List.getElem?_append_left (by omega), List.getElem?_take, if_pos (by omega)]
          have := hX j (by omega)
          simpa using this
    · obtain rfl : c = n := by omega
      have holds : ∀ j u, (listX c X)[j]? = some u → W.cell? ((⟨g, 0, none⟩ : Addr).add j) = some u := by
        intro j u hu
        have hj : j < c := by
          have := (List.getElem?_eq_some_iff.1 hu).1
          simpa [listX_length] using this
        rw [listX_get c X j hj] at hu
        obtain rfl := Option.some.inj hu
        rw [add_none, Nat.zero_add]
        exact cell_of hg (hX j hj)
      have hr := run_append_grow (P := Tacg.prog) W t ty e i z ht hi hz ⟨g, 0, none⟩ c c (listX c X) (by rw [listX_length, hsz, Nat.mul_one]) holds a 1 1 [y] hl hnews (by omega) (by omega) (growslice_fits_succ (by rw [hb]; exact hn) (by rw [hb]; exact hby))
      refine ⟨_, _, hr, .inr ⟨W.heap.size, _, _, rfl, grownCap_ge W (c + 1) c e, heap_alloc_new W.drew _, ?_, fun j hj => ?_⟩, ⟨rfl, rfl, rfl, by simp, fun k hk _ => heap_alloc_old W.drew _ hk⟩, .inr ⟨W.heap.size, rfl, Nat.le_refl _⟩⟩
      · have := grownCap_ge W (c + 1) c e
        simp only [Array.size_append, size_zeroCells, hz1, List.size_toArray, listX_length]
        simp
        omega
      · by_cases c1 : j = c
        · subst c1
          simp only [if_true]
          rw [Array.getElem?_append_left (by simp [listX_length]), Array.getElem?_append_right (by simp [listX_length])]
          simp [listX_length]
        · simp only [c1, if_false]
          rw [Array.getElem?_append_left (by simp [listX_length]; omega), Array.getElem?_append_left (by simp [listX_length]; omega)]
          have := listX_get c X j (by omega)
          simpa using this
end Go.Proofs.Ygctac
