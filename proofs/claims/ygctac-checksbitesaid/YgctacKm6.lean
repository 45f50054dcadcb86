/-
  law.ownMachine (made by tools/gen_km6.py).
-/
import Derived.Test.YgctacKm5
import Derived.Test.YgctacInv
namespace Go.Proofs.Ygctac
open Go.RowKit
set_option linter.unusedVariables false
set_option linter.unusedSimpArgs false

/-- The copied entries: the stack's value sv, n cells, the first i of them written. -/
def CpRow (w W : World) (sv : Value) (n i : Nat) (S : Nat → Ent) (G : Nat → Nat) : Prop :=
  (sv = .slice none 0 0 ∧ n = 0) ∨ ∃ sb, sv = .slice (some ⟨sb, 0, none⟩) n n ∧ w.heap.size ≤ sb ∧ ∃ C : Array Value, W.heap[sb]? = some (.cells C 23 (0, 0)) ∧ C.size = n ∧ (∀ j, j < i → C[j]? = some (vOf (cp (S j) (G j)))) ∧ ∀ j, i ≤ j → j < n → C[j]? = some (.slice none 0 0)
structure OM (w W : World) (x r og n i : Nat) (sv v u : Value) (S : Nat → Ent) (G : Nat → Nat) : Prop where
  inb : W.heap[x]? = some (.cells #[v, u] 34 (0, 0))
  res : W.heap[r]? = some (.cells #[.slice none 0 0, .slice none 0 0] 34 (0, 0))
  own : W.heap[og]? = some (.cells #[sv, .slice none 0 0] 34 (0, 0))
  row : CpRow w W sv n i S G
  below : Below w.heap.size w W
  ents : ∀ j, j < i → ∀ e, S j = some e → w.heap.size ≤ G j ∧ OwnRow W (G j) e.l e.f
  dist : ∀ j k, j < k → k < i → ∀ e e', S j = some e → S k = some e' → G j < G k
theorem heap_lt {w : World} {b : Nat} {o : Obj} (h : w.heap[b]? = some o) : b < w.heap.size := (Array.getElem?_eq_some_iff.1 h).1
theorem type_ne {w : World} {a b : Nat} {C C' : Array Value} {t t' : TypeId} (h : w.heap[a]? = some (.cells C t (0, 0))) (h' : w.heap[b]? = some (.cells C' t' (0, 0))) (ht : t ≠ t') : a ≠ b := by
  intro e
  subst e
  rw [h] at h'
  injection h' with h'
  injection h' with _ h'
  exact ht h'
theorem OM.after {w W W' : World} {x r og n i : Nat} {sv v u : Value} {S : Nat → Ent} {G : Nat → Nat} (h : OM w W x r og n i sv v u S G) (hb : Below W.heap.size W W') : OM w W' x r og n i sv v u S G := by
  refine ⟨(hb.block _ (heap_lt h.inb)).trans h.inb, (hb.block _ (heap_lt h.res)).trans h.res, (hb.block _ (heap_lt h.own)).trans h.own, ?_, h.below.trans (hb.mono h.below.size), fun j hj e he => ?_, h.dist⟩
  · rcases h.row with h0 | ⟨sb, h1, h2, C, h3, h4⟩
    · exact .inl h0
    · exact .inr ⟨sb, h1, h2, C, (hb.block _ (heap_lt h3)).trans h3, h4⟩
  · have := h.ents j hj e he
    exact ⟨this.1, this.2.below hb this.2.lt⟩
theorem OM.set {w W W' : World} {x r og n i : Nat} {sb : Nat} {v u : Value} {S : Nat → Ent} {G : Nat → Nat} {g : Nat} (h : OM w W x r og n i (.slice (some ⟨sb, 0, none⟩) n n) v u S G) (hi : i < n) (hb : Below W.heap.size W W') (hg : W.heap.size ≤ g) (hc : CpOk W' (S i) g) :
    OM w (W'.setCell ⟨sb, i, none⟩ (vOf (cp (S i) g))) x r og n (i + 1) (.slice (some ⟨sb, 0, none⟩) n n) v u S (fun j => if j = i then g else G j) := by
  have h' := h.after hb
  rcases h'.row with ⟨h0, _⟩ | ⟨sb', h1, h2, C, h3, h4, h5, h6⟩
  · cases h0
  · cases h1
    have nx := type_ne h'.inb h3 (by decide)
    have nr := type_ne h'.res h3 (by decide)
    have no := type_ne h'.own h3 (by decide)
    have ows : ∀ k l f, OwnRow W' k l f → OwnRow (W'.setCell ⟨sb, i, none⟩ (vOf (cp (S i) g))) k l f := by
      rintro k l f ⟨D, d1, d2⟩
      have nk := type_ne d1 h3 (by decide)
      exact ⟨D, by rw [Below.heap_setCell _ _ _ _ nk]; exact d1, d2⟩
    refine ⟨by rw [Below.heap_setCell _ _ _ _ nx]; exact h'.inb, by rw [Below.heap_setCell _ _ _ _ nr]; exact h'.res, by rw [Below.heap_setCell _ _ _ _ no]; exact h'.own, .inr ⟨sb, rfl, h2, C.setIfInBounds i (vOf (cp (S i) g)), heap_setCell_same W' sb i C 23 _ h3, by simp [h4], fun j hj => ?_, fun j hj hn => ?_⟩, h'.below.setCell (p := ⟨sb, i, none⟩) h2 _, fun j hj e he => ?_, fun j k hjk hk e e' he he' => ?_⟩
    · by_cases c : j = i
      · subst c; simp [h4, hi]
      · simp only [c, if_false]
        rw [Array.getElem?_setIfInBounds_ne (by omega)]
        exact h5 j (by omega)
    · rw [Array.getElem?_setIfInBounds_ne (by omega)]
      exact h6 j (by omega) hn
    · by_cases c : j = i
      · subst c
        simp only [if_true]
        exact ⟨Nat.le_trans h.below.size hg, ows _ _ _ (hc e he)⟩
      · simp only [c, if_false]
        have := h'.ents j (by omega) e he
        exact ⟨this.1, ows _ _ _ this.2⟩
    · by_cases c : k = i
      · subst c
        simp only [show j ≠ k by omega, if_false, if_true]
        exact Nat.lt_of_lt_of_le (h.ents j hjk e he).2.lt hg
      · simp only [c, show j ≠ i by omega, if_false]
        exact h.dist j k hjk (by omega) e e' he he'
theorem cell_of {w : World} {b i : Nat} {C : Array Value} {t : TypeId} {v : Value} (h : w.heap[b]? = some (.cells C t (0, 0))) (hc : C[i]? = some v) : w.cell? ⟨b, i, none⟩ = some v := by
  rw [World.cell?, h]
  exact hc
theorem frozen_of {w : World} {b : Nat} {C : Array Value} {t : TypeId} (h : w.heap[b]? = some (.cells C t (0, 0))) (i : Nat) : w.frozen? ⟨b, i, none⟩ = false := by
  rw [World.frozen?, h]
  simp
theorem put_self9 (a : Act) (t1 t2 t3 t4 t5 t6 t7 t8 t9 : Nat) : ∃ v1 v2 v3 v4 v5 v6 v7 v8 v9, a = ((((((((a.put (some t1) v1).put (some t2) v2).put (some t3) v3).put (some t4) v4).put (some t5) v5).put (some t6) v6).put (some t7) v7).put (some t8) v8).put (some t9) v9 := by
  obtain ⟨v1, h1⟩ := put_self a t1
  obtain ⟨v2, h2⟩ := put_self a t2
  obtain ⟨v3, h3⟩ := put_self a t3
  obtain ⟨v4, h4⟩ := put_self a t4
  obtain ⟨v5, h5⟩ := put_self a t5
  obtain ⟨v6, h6⟩ := put_self a t6
  obtain ⟨v7, h7⟩ := put_self a t7
  obtain ⟨v8, h8⟩ := put_self a t8
  obtain ⟨v9, h9⟩ := put_self a t9
  exact ⟨v1, v2, v3, v4, v5, v6, v7, v8, v9, by rw [h1, h2, h3, h4, h5, h6, h7, h8, h9]⟩
theorem cells_mach34 {w : World} {b : Nat} {x y : Value} (h0 : w.cell? ⟨b, 0, none⟩ = some x) (h1 : w.cell? ⟨b, 1, none⟩ = some y) : (loadVar 34 ⟨b, 0, none⟩).run Tacg.prog w = .ok (.agg #[x, y]) w := by
  have hr : w.rangeAt b 0 [x, y] := by
    intro j v hv
    match j, hv with
    | 0, hv => simpa [h0] using hv
    | 1, hv => simpa [h1] using hv
    | j + 2, hv => simp at hv
  exact run_loadVar_mid (P := Tacg.prog) w b 0 34 [x, y] _ hr Tacg.underlying34 rfl (by kernel_rfl)
/-- The stack of a machine that has been copied. -/
def OwnSt (B : Nat) (W : World) (sv : Value) (n : Nat) (S : Nat → Ent) (G : Nat → Nat) : Prop :=
  ((sv = .slice none 0 0 ∧ n = 0) ∨ ∃ sb, sv = .slice (some ⟨sb, 0, none⟩) n n ∧ B ≤ sb ∧ ∃ C : Array Value, W.heap[sb]? = some (.cells C 23 (0, 0)) ∧ C.size = n ∧ ∀ j, j < n → C[j]? = some (vOf (cp (S j) (G j)))) ∧
  (∀ j, j < n → ∀ e, S j = some e → B ≤ G j ∧ OwnRow W (G j) e.l e.f) ∧ ∀ j k, j < k → k < n → ∀ e e', S j = some e → S k = some e' → G j < G k
def OwnOu (B : Nat) (W : World) (uv : Value) (k : Nat) (Q : Nat → Int) : Prop :=
  (uv = .slice none 0 0 ∧ k = 0) ∨ ∃ ob, uv = .slice (some ⟨ob, 0, none⟩) k k ∧ B ≤ ob ∧ ∃ C : Array Value, W.heap[ob]? = some (.cells C 92 (0, 0)) ∧ C.size = k ∧ ∀ j, j < k → C[j]? = some (.int .i8 (Q j))
theorem OwnSt.after {B : Nat} {W W' : World} {sv : Value} {n : Nat} {S : Nat → Ent} {G : Nat → Nat} (h : OwnSt B W sv n S G) (hb : Below W.heap.size W W') : OwnSt B W' sv n S G := by
  refine ⟨?_, fun j hj e he => ?_, h.2.2⟩
  · rcases h.1 with h0 | ⟨sb, h1, h2, C, h3, h4⟩
    · exact .inl h0
    · exact .inr ⟨sb, h1, h2, C, (hb.block _ (heap_lt h3)).trans h3, h4⟩
  · have := h.2.1 j hj e he
    exact ⟨this.1, this.2.below hb this.2.lt⟩
theorem OwnOu.after {B : Nat} {W W' : World} {uv : Value} {k : Nat} {Q : Nat → Int} (h : OwnOu B W uv k Q) (hb : Below W.heap.size W W') : OwnOu B W' uv k Q := by
  rcases h with h0 | ⟨sb, h1, h2, C, h3, h4⟩
  · exact .inl h0
  · exact .inr ⟨sb, h1, h2, C, (hb.block _ (heap_lt h3)).trans h3, h4⟩
theorem OM.st {w W : World} {x r og n : Nat} {sv v u : Value} {S : Nat → Ent} {G : Nat → Nat} (h : OM w W x r og n n sv v u S G) : OwnSt w.heap.size W sv n S G := by
  refine ⟨?_, h.ents, h.dist⟩
  rcases h.row with h0 | ⟨sb, h1, h2, C, h3, h4, h5, _⟩
  · exact .inl h0
  · exact .inr ⟨sb, h1, h2, C, h3, h4, h5⟩
/-- A write into a block of another type. -/
theorem OwnSt.set34 {B : Nat} {W : World} {sv : Value} {n b : Nat} {S : Nat → Ent} {G : Nat → Nat} {C : Array Value} (h : OwnSt B W sv n S G) (hb : W.heap[b]? = some (.cells C 34 (0, 0))) (i : Nat) (y : Value) : OwnSt B (W.setCell ⟨b, i, none⟩ y) sv n S G := by
  refine ⟨?_, fun j hj e he => ?_, h.2.2⟩
  · rcases h.1 with h0 | ⟨sb, h1, h2, C', h3, h4⟩
    · exact .inl h0
    · exact .inr ⟨sb, h1, h2, C', by rw [Below.heap_setCell _ _ _ _ (type_ne h3 hb (by decide))]; exact h3, h4⟩
  · obtain ⟨h1, D, d1, d2⟩ := h.2.1 j hj e he
    exact ⟨h1, D, by rw [Below.heap_setCell _ _ _ _ (type_ne d1 hb (by decide))]; exact d1, d2⟩
theorem OwnOu.set34 {B : Nat} {W : World} {uv : Value} {k b : Nat} {Q : Nat → Int} {C : Array Value} (h : OwnOu B W uv k Q) (hb : W.heap[b]? = some (.cells C 34 (0, 0))) (i : Nat) (y : Value) : OwnOu B (W.setCell ⟨b, i, none⟩ y) uv k Q := by
  rcases h with h0 | ⟨sb, h1, h2, C', h3, h4⟩
  · exact .inl h0
  · exact .inr ⟨sb, h1, h2, C', by rw [Below.heap_setCell _ _ _ _ (type_ne h3 hb (by decide))]; exact h3, h4⟩
def outL (k : Nat) (Q : Nat → Int) : List Value := (List.range k).map fun i => .int .i8 (Q i)
theorem outL_length (k : Nat) (Q : Nat → Int) : (outL k Q).length = k := by simp [outL]
theorem outL_get (k : Nat) (Q : Nat → Int) (j : Nat) (h : j < k) : (outL k Q)[j]? = some (.int .i8 (Q j)) := by simp [outL, h]
theorem outL_one (k : Nat) (Q : Nat → Int) : ∀ v ∈ outL k Q, v.oneCell' = true := by
  intro v hv
  simp only [outL, List.mem_map] at hv
  obtain ⟨i, _, rfl⟩ := hv
  rfl
theorem made_out (k : Nat) : madeCells #[.int .i8 0] k = (outL k fun _ => 0).toArray := by
  apply Array.ext_getElem?
  intro i
  by_cases h : i < k
  · rw [show (outL k fun _ => 0).toArray[i]? = (outL k fun _ => 0)[i]? by simp, outL_get k _ i h]
    simp [madeCells, h, Nat.mod_one]
  · rw [show (outL k fun _ => 0).toArray[i]? = (outL k fun _ => 0)[i]? by simp]
    rw [List.getElem?_eq_none (by rw [outL_length]; omega), Array.getElem?_eq_none (by simp [madeCells]; omega)]
theorem size92 : (Tacg.prog.info? 92).map (·.size) = some 1 := by kernel_rfl

theorem set_ne {w : World} {a b : Addr} {u v : Value} (h : b.block ≠ a.block) (hc : w.cell? b = some u) : (w.setCell a v).cell? b = some u := by
  rw [World.cell?_setCell_other (h := fun e => h (by rw [e]))]; exact hc
theorem set_no {w : World} {g i j : Nat} {u v : Value} (h : j ≠ i) (hc : w.cell? ⟨g, j, none⟩ = some u) : (w.setCell ⟨g, i, none⟩ v).cell? ⟨g, j, none⟩ = some u := by
  rw [World.cell?_setCell_other (h := fun e => h (by injection e with e1 e2; exact e2.symm))]; exact hc
theorem set_same {w : World} {a : Addr} {u v : Value} (hc : w.cell? a = some u) : (w.setCell a v).cell? a = some v := World.cell?_setCell_same _ _ _ hc
theorem OwnSt.moved {B : Nat} {W W' : World} {sv : Value} {n : Nat} {S : Nat → Ent} {G : Nat → Nat} (h : OwnSt B W sv n S G) (hb : ∀ (b : Nat) (C : Array Value) (t : TypeId), W.heap[b]? = some (.cells C t (0, 0)) → t ≠ 34 → W'.heap[b]? = some (.cells C t (0, 0))) : OwnSt B W' sv n S G := by
  refine ⟨?_, fun j hj e he => ?_, h.2.2⟩
  · rcases h.1 with h0 | ⟨sb, h1, h2, C, h3, h4⟩
    · exact .inl h0
    · exact .inr ⟨sb, h1, h2, C, hb _ _ _ h3 (by decide), h4⟩
  · obtain ⟨h1, D, d1, d2⟩ := h.2.1 j hj e he
    exact ⟨h1, D, hb _ _ _ d1 (by decide), d2⟩
/-- What ownMachine hands back. -/
def OwnR (w : World) (n : Nat) (S : Nat → Ent) (k : Nat) (Q : Nat → Int) (rr : Ending) (w' : World) : Prop :=
  ∃ sv uv G, rr = .returned (.agg #[sv, uv]) ∧ OwnSt w.heap.size w' sv n S G ∧ OwnOu w.heap.size w' uv k Q ∧ Below w.heap.size w w'
/-- A value that reads as an entry, or an empty slice at whatever place. -/
def EntV (w : World) (v : Value) (x : Ent) : Prop := (v = vOf x ∧ EntOk w x) ∨ ∃ a e, v = .slice (some a) 0 0 ∧ x = some e ∧ e.l = 0
theorem EntV.below {w w' : World} {v : Value} {x : Ent} (h : EntV w v x) (hb : Below w.heap.size w w') : EntV w' v x := by
  rcases h with ⟨h1, h2⟩ | h
  · exact .inl ⟨h1, h2.below hb⟩
  · exact .inr h
/-- A stack whose entries may be empty slices at whatever places. -/
def StV (W : World) (p : Option Addr) (n c : Nat) (V : Nat → Value) (S : Nat → Ent) : Prop :=
  (p = none ∧ n = 0 ∧ c = 0) ∨ ∃ sb so, p = some ⟨sb, so, none⟩ ∧ n ≤ c ∧ (∀ i, i < n → W.cell? ⟨sb, so + i, none⟩ = some (V i)) ∧ ∀ i, i < n → EntV W (V i) (S i)
theorem StV.at {W : World} {p : Option Addr} {n c : Nat} {V : Nat → Value} {S : Nat → Ent} (h : StV W p n c V S) {i : Nat} (hi : i < n) : ∃ sb so, p = some ⟨sb, so, none⟩ ∧ W.cell? ⟨sb, so + i, none⟩ = some (V i) ∧ EntV W (V i) (S i) := by
  rcases h with ⟨_, h, _⟩ | ⟨sb, so, h1, h2, h3, h4⟩
  · omega
  · exact ⟨sb, so, h1, h3 i hi, h4 i hi⟩
theorem StV.below {W W' : World} {p : Option Addr} {n c : Nat} {V : Nat → Value} {S : Nat → Ent} (h : StV W p n c V S) (hb : Below W.heap.size W W') : StV W' p n c V S := by
  rcases h with h | ⟨sb, so, h1, h2, h3, h4⟩
  · exact .inl h
  · refine .inr ⟨sb, so, h1, h2, fun i hi => ?_, fun i hi => (h4 i hi).below hb⟩
    have hc := h3 i hi
    rw [hb.cell (World.block_lt_of_cell? W _ hc), hc]
theorem StP.stv {W : World} {p : Option Addr} {n c : Nat} {S : Nat → Ent} (h : StP W p n c S) : StV W p n c (fun i => vOf (S i)) S := by
  rcases h with h | ⟨sb, so, h1, h2, h3, h4⟩
  · exact .inl h
  · exact .inr ⟨sb, so, h1, h2, h3, fun i hi => .inl ⟨rfl, h4 i hi⟩⟩
set_option maxRecDepth 100000 in
theorem ownNat_e (a : Addr) (w : World) : Calls Tacg.prog 20 #[.slice (some a) 0 0] w fun r w' => r = .returned (.slice (some ⟨w.heap.size, 0, none⟩) 0 0) ∧ OwnRow w' w.heap.size 0 (fun _ => 0) ∧ Below w.heap.size w w' := by
  have rm : ∀ w : World, (Instr.makeSlice 23 (.int .i64 0) (.int .i64 0)).run Tacg.prog w = .ok (.slice (some ⟨w.heap.size, 0, none⟩) 0 0) (w.alloc (.cells (rowL 0 fun _ => 0).toArray 5)) := make23 0 (by omega)
  go_enter Tacg.func20, Tacg.ntmps20
  go_wp2_with (refine wpList_copy_splice rfl (.tmp 9) (.tmp 10) 23 22 rfl 5 Tacg.underlying23 size5 _ _ 0 0 0 0 rfl rfl w.heap.size 0 (rowL 0 fun _ => 0) 5 (alloc_last _ _) (rowL 0 fun _ => 0) (by rw [rowL_length]; exact (Nat.min_self 0).symm) (fun hh => absurd hh (by simp [rowL_length])) (by simp [rowL_length]) (rowL_one _ _) w.heap.size w ((Below.refl _ _).alloc (Nat.le_refl _) _) (Nat.le_refl _) ?_; intro w2 hg2 hb2)
  go_ret
  refine ⟨rfl, ?_, hb2⟩
  have := hg2.out
  rw [splice_whole _ _ (by simp [rowL_length])] at this
  exact RowAt.own this
theorem ownNat_v {v : Value} {x : Ent} {w : World} (h : EntV w v x) : Calls Tacg.prog 20 #[v] w fun r w' => r = .returned (vOf (cp x w.heap.size)) ∧ CpOk w' x w.heap.size ∧ Below w.heap.size w w' := by
  rcases h with ⟨rfl, h⟩ | ⟨a, e, rfl, rfl, h0⟩
  · exact ownNat_any x w h
  · refine (ownNat_e a w).mono ?_
    rintro r w' ⟨rfl, hR, hB⟩
    refine ⟨?_, fun e' he' => ?_, hB⟩
    · simp only [cp, Option.map_some, vOf, h0]
    · cases he'
      rw [h0]
      exact hR.congr (fun i hi => absurd hi (by omega))
theorem vOf_slice (x : Ent) : ∃ p l c, vOf x = .slice p l c := by
  cases x <;> exact ⟨_, _, _, rfl⟩
theorem om_new (w : World) (v u : Value) (n : Nat) (S : Nat → Ent) : OM w ((((w.alloc (.cells #[v, u] 34)).alloc (.cells #[.slice none 0 0, .slice none 0 0] 34)).alloc (.cells #[.slice (some ⟨w.heap.size + 1 + 1 + 1, 0, none⟩) n n, .slice none 0 0] 34)).alloc (.cells (madeCells #[.slice none 0 0] n) 23)) w.heap.size (w.heap.size + 1) (w.heap.size + 1 + 1) n 0 (.slice (some ⟨w.heap.size + 1 + 1 + 1, 0, none⟩) n n) v u S (fun _ => 0) := by
  generalize hw1 : w.alloc (.cells #[v, u] 34) = w1
  have s1 : w1.heap.size = w.heap.size + 1 := by rw [← hw1, size_al]
  have b1 : Below w.heap.size w w1 := by rw [← hw1]; exact (Below.refl _ w).alloc (Nat.le_refl _) _
  have a1 : w1.heap[w.heap.size]? = some (.cells #[v, u] 34) := by rw [← hw1]; exact alloc_last _ _
  generalize hw2 : w1.alloc (.cells #[.slice none 0 0, .slice none 0 0] 34) = w2
  have s2 : w2.heap.size = w.heap.size + 1 + 1 := by rw [← hw2, size_al, s1]
  have b2 : Below w1.heap.size w1 w2 := by rw [← hw2]; exact (Below.refl _ w1).alloc (Nat.le_refl _) _
  have a2 : w2.heap[w.heap.size + 1]? = some (.cells #[.slice none 0 0, .slice none 0 0] 34) := by rw [← hw2, ← s1]; exact alloc_last _ _
  generalize hw3 : w2.alloc (.cells #[.slice (some ⟨w.heap.size + 1 + 1 + 1, 0, none⟩) n n, .slice none 0 0] 34) = w3
  have s3 : w3.heap.size = w.heap.size + 1 + 1 + 1 := by rw [← hw3, size_al, s2]
  have b3 : Below w2.heap.size w2 w3 := by rw [← hw3]; exact (Below.refl _ w2).alloc (Nat.le_refl _) _
  have a3 : w3.heap[w.heap.size + 1 + 1]? = some (.cells #[.slice (some ⟨w.heap.size + 1 + 1 + 1, 0, none⟩) n n, .slice none 0 0] 34) := by rw [← hw3, ← s2]; exact alloc_last _ _
  have b4 : Below w3.heap.size w3 (w3.alloc (.cells (madeCells #[.slice none 0 0] n) 23)) := (Below.refl _ w3).alloc (Nat.le_refl _) _
  have a4 : (w3.alloc (.cells (madeCells #[.slice none 0 0] n) 23)).heap[w.heap.size + 1 + 1 + 1]? = some (.cells (madeCells #[.slice none 0 0] n) 23) := by rw [← s3]; exact alloc_last _ _
  refine ⟨?_, ?_, ?_, .inr ⟨w.heap.size + 1 + 1 + 1, rfl, by omega, _, a4, by simp [madeCells], fun j hj => absurd hj (by omega), fun j _ hj => by simp [madeCells, hj, Nat.mod_one]⟩, ?_, fun j hj => absurd hj (by omega), fun j k _ hk => absurd hk (by omega)⟩
  · rw [b4.block _ (by omega), b3.block _ (by omega), b2.block _ (by omega), a1]
  · rw [b4.block _ (by omega), b3.block _ (by omega), a2]
  · rw [b4.block _ (by omega), a3]
  · exact b1.trans ((b2.mono (by omega)).trans ((b3.mono (by omega)).trans (b4.mono (by omega))))
theorem om_new0 (w : World) (v u : Value) (S : Nat → Ent) : OM w (((w.alloc (.cells #[v, u] 34)).alloc (.cells #[.slice none 0 0, .slice none 0 0] 34)).alloc (.cells #[.slice none 0 0, .slice none 0 0] 34)) w.heap.size (w.heap.size + 1) (w.heap.size + 1 + 1) 0 0 (.slice none 0 0) v u S (fun _ => 0) := by
  generalize hw1 : w.alloc (.cells #[v, u] 34) = w1
  have s1 : w1.heap.size = w.heap.size + 1 := by rw [← hw1, size_al]
  have b1 : Below w.heap.size w w1 := by rw [← hw1]; exact (Below.refl _ w).alloc (Nat.le_refl _) _
  have a1 : w1.heap[w.heap.size]? = some (.cells #[v, u] 34) := by rw [← hw1]; exact alloc_last _ _
  generalize hw2 : w1.alloc (.cells #[.slice none 0 0, .slice none 0 0] 34) = w2
  have s2 : w2.heap.size = w.heap.size + 1 + 1 := by rw [← hw2, size_al, s1]
  have b2 : Below w1.heap.size w1 w2 := by rw [← hw2]; exact (Below.refl _ w1).alloc (Nat.le_refl _) _
  have a2 : w2.heap[w.heap.size + 1]? = some (.cells #[.slice none 0 0, .slice none 0 0] 34) := by rw [← hw2, ← s1]; exact alloc_last _ _
  have b3 : Below w2.heap.size w2 (w2.alloc (.cells #[.slice none 0 0, .slice none 0 0] 34)) := (Below.refl _ w2).alloc (Nat.le_refl _) _
  have a3 : (w2.alloc (.cells #[.slice none 0 0, .slice none 0 0] 34)).heap[w.heap.size + 1 + 1]? = some (.cells #[.slice none 0 0, .slice none 0 0] 34) := by rw [← s2]; exact alloc_last _ _
  refine ⟨?_, ?_, a3, .inl ⟨rfl, rfl⟩, ?_, fun j hj => absurd hj (by omega), fun j k _ hk => absurd hk (by omega)⟩
  · rw [b3.block _ (by omega), b2.block _ (by omega), a1]
  · rw [b3.block _ (by omega), a2]
  · exact b1.trans ((b2.mono (by omega)).trans (b3.mono (by omega)))
theorem om_row {w W : World} {x r og n i sb : Nat} {v u : Value} {S : Nat → Ent} {G : Nat → Nat} (h : OM w W x r og n i (.slice (some ⟨sb, 0, none⟩) n n) v u S G) : ∃ C : Array Value, W.heap[sb]? = some (.cells C 23 (0, 0)) ∧ C.size = n ∧ (∀ j, j < i → C[j]? = some (vOf (cp (S j) (G j)))) ∧ ∀ j, i ≤ j → j < n → C[j]? = some (.slice none 0 0) := by
  rcases h.row with ⟨h0, _⟩ | ⟨sb', h1, _, h2⟩
  · cases h0
  · cases h1; exact h2

end Go.Proofs.Ygctac
