/-
  Towards law.biteMachine: calc.Step whatever the operation; the hurts of a machine.
-/
import Derived.Test.YgctacKt0
import Derived.Test.YgctacKt1
import Derived.Test.YgctacKt2
import Derived.Test.YgctacKt3
import Derived.Test.YgctacKt4
import Derived.Test.YgctacKt5
import Derived.Test.YgctacKt6
import Derived.Test.YgctacKt7
import Derived.Test.YgctacKt8
namespace Go.Proofs.Ygctac
open Go.RowKit
set_option linter.unusedVariables false
set_option linter.unusedSimpArgs false

theorem step_good (Z : Nat → Prop) (mb : Nat) (eng K : Int) (he0 : 0 ≤ eng) (hK0 : 0 ≤ K) (xa : Ent) (va : Value) (v u : Value) (n : Nat) (S : Nat → Ent) (k : Nat) (Q : Nat → Int) (W : World) (h : MO W Z mb v u n S k Q) (hn : n ≤ 16) (hA : allN n S = true) (hk : k ≤ 140737488355328)
    (hd : EntV W va xa) :
    Calls Tacg.prog 23 #[.int .u8 eng, .pointer (some ⟨mb, 0, none⟩), .agg #[.int .u8 K, va]] W fun r w' => GoodR Z W mb k Q r w' := by
  have hsm : ∀ i, i < n → ∀ e, S i = some e → e.l < 140737488355328 := fun i hi e he => by
    have := (h.st.ent i hi e he).2.2.2.1
    omega
  by_cases c : 3 < eng ∨ 8 < K
  · exact step_none Z eng K hK0 c mb v u va n S k Q W h hn hA
  · obtain ⟨e, rfl⟩ := Int.eq_ofNat_of_zero_le he0
    have he : e ≤ 3 := by omega
    rcases (show K = 0 ∨ K = 1 ∨ K = 2 ∨ K = 3 ∨ K = 4 ∨ K = 5 ∨ K = 6 ∨ K = 7 ∨ K = 8 by omega) with rfl | rfl | rfl | rfl | rfl | rfl | rfl | rfl | rfl
    · exact step_0 Z mb e he xa va v u n S k Q W h hn hA hk hd hsm
    · exact step_1 Z mb e he xa va v u n S k Q W h hn hA hk hd hsm
    · exact step_2 Z mb e he xa va v u n S k Q W h hn hA hk hd hsm
    · exact step_3 Z mb e he xa va v u n S k Q W h hn hA hk hd hsm
    · exact step_4 Z mb e he xa va v u n S k Q W h hn hA hk hd hsm
    · exact step_5 Z mb e he xa va v u n S k Q W h hn hA hk hd hsm
    · exact step_6 Z mb e he xa va v u n S k Q W h hn hA hk hd hsm
    · exact step_7 Z mb e he xa va v u n S k Q W h hn hA hk hd hsm
    · exact step_8 Z mb e he xa va v u n S k Q W h hn hA hk hd hsm

/-- The blocks from B on. -/
def From (B : Nat) : Nat → Prop := fun b => B ≤ b
theorem KZ.under {B : Nat} {W W' : World} (h : KZ (From B) W W') (hB : B ≤ W.heap.size) : Below B W W' :=
  ⟨h.os, h.tape, h.output, h.size, fun b hb => h.block b (Nat.lt_of_lt_of_le hb hB) (Nat.not_le.2 hb)⟩
/-- A machine that has just been made. -/
theorem mo_new (w : World) (S : Nat → Ent) (Q : Nat → Int) : MO (w.alloc (.cells #[.slice none 0 0, .slice none 0 0] 34)) (From w.heap.size) w.heap.size (.slice none 0 0) (.slice none 0 0) 0 S 0 Q := by
  refine ⟨alloc_last _ _, Nat.le_refl _, ⟨.inl ⟨rfl, rfl⟩, fun g hg => by (cases hg), fun i hi => absurd hi (by omega), fun i j hi => absurd hi (by omega)⟩, ⟨.inl ⟨rfl, rfl⟩, fun g hg => by (cases hg)⟩, fun b hb => ?_⟩
  rw [size_al] at hb
  show w.heap.size ≤ b
  omega

/-- A script: the operations' kinds and arguments. -/
def ScV (W : World) (p : Option Addr) (n c : Nat) (K : Nat → Nat) (V : Nat → Value) (X : Nat → Ent) : Prop :=
  (p = none ∧ n = 0 ∧ c = 0) ∨ ∃ sb so, p = some ⟨sb, so, none⟩ ∧ n ≤ c ∧ ∀ i, i < n → W.cell? ⟨sb, so + i * 2, none⟩ = some (.int .u8 (K i)) ∧ W.cell? ⟨sb, so + i * 2 + 1, none⟩ = some (V i) ∧ EntV W (V i) (X i)
theorem ScV.at {W : World} {p : Option Addr} {n c : Nat} {K : Nat → Nat} {V : Nat → Value} {X : Nat → Ent} (h : ScV W p n c K V X) {i : Nat} (hi : i < n) : ∃ sb so, p = some ⟨sb, so, none⟩ ∧ W.cell? ⟨sb, so + i * 2, none⟩ = some (.int .u8 (K i)) ∧ W.cell? ⟨sb, so + i * 2 + 1, none⟩ = some (V i) ∧ EntV W (V i) (X i) := by
  rcases h with ⟨_, h, _⟩ | ⟨sb, so, h1, h2, h3⟩
  · omega
  · exact ⟨sb, so, h1, h3 i hi⟩
theorem EntV.under {B : Nat} {w w' : World} {v : Value} {x : Ent} (h : EntV w v x) (hB : w.heap.size ≤ B) (hb : Below B w w') : EntV w' v x := h.below (hb.mono hB)
theorem ScV.below {W W' : World} {p : Option Addr} {n c : Nat} {K : Nat → Nat} {V : Nat → Value} {X : Nat → Ent} (h : ScV W p n c K V X) (hb : Below W.heap.size W W') : ScV W' p n c K V X := by
  rcases h with h | ⟨sb, so, h1, h2, h3⟩
  · exact .inl h
  · refine .inr ⟨sb, so, h1, h2, fun i hi => ?_⟩
    obtain ⟨c1, c2, c3⟩ := h3 i hi
    exact ⟨by rw [hb.cell (World.block_lt_of_cell? W _ c1), c1], by rw [hb.cell (World.block_lt_of_cell? W _ c2), c2], c3.below hb⟩
theorem ScV.cut {W : World} {p : Option Addr} {n c m : Nat} {K : Nat → Nat} {V : Nat → Value} {X : Nat → Ent} (h : ScV W p n c K V X) (hm : m < n) : ScV W p m m K V X := by
  rcases h with h | ⟨sb, so, h1, h2, h3⟩
  · omega
  · exact .inr ⟨sb, so, h1, Nat.le_refl _, fun i hi => h3 i (by omega)⟩
theorem cells_op36 {w : World} {b o : Nat} {x y : Value} (h0 : w.cell? ⟨b, o, none⟩ = some x) (h1 : w.cell? ⟨b, o + 1, none⟩ = some y) : (loadVar 36 ⟨b, o, none⟩).run Tacg.prog w = .ok (.agg #[x, y]) w := by
  have hr : w.rangeAt b o [x, y] := by
    intro j v hv
    match j, hv with
    | 0, hv => simpa [h0] using hv
    | 1, hv => simpa [h1] using hv
    | j + 2, hv => simp at hv
  exact run_loadVar_mid (P := Tacg.prog) w b o 36 [x, y] _ hr Tacg.underlying36 rfl (by kernel_rfl)

/-- The stack with one entry put at another's place. -/
theorem StO.put {W W' : World} {Z : Nat → Prop} {p : Option Addr} {n c at' : Nat} {S : Nat → Ent} {x : Ent} (h : StO W Z (.slice p n c) n S) (ha : at' < n) (hb : Below W.heap.size W W') (hx : EntOk W' x) (hpl : ∀ e, x = some e → ∃ D, W'.heap[e.b]? = some (.cells D 5 (0, 0))) :
    ∃ sb, p = some ⟨sb, 0, none⟩ ∧ (∃ C, W'.heap[sb]? = some (.cells C 23 (0, 0)) ∧ at' < C.size) ∧ Z sb ∧ StP (W'.setCell ⟨sb, at', none⟩ (vOf x)) p n c (fun i => if i = at' then x else S i) ∧ AllPlain (W'.setCell ⟨sb, at', none⟩ (vOf x)) n (fun i => if i = at' then x else S i) := by
  rcases h.row with ⟨_, h0⟩ | ⟨g, c', C, h1, h2, h3, h4, h5⟩
  · omega
  cases h1
  have g3 := (hb.block _ (heap_lt h3)).trans h3
  have n5 : ∀ {k l f}, OwnRow W k l f → OwnRow (W'.setCell ⟨g, at', none⟩ (vOf x)) k l f := by
    rintro k l f ⟨D, d1, d2⟩
    have d1' := (hb.block _ (heap_lt d1)).trans d1
    exact ⟨D, by rw [Below.heap_setCell _ _ _ _ (type_ne d1' g3 (by decide))]; exact d1', d2⟩
  have pl : ∀ {b}, Plain W' b → Plain (W'.setCell ⟨g, at', none⟩ (vOf x)) b := by
    rintro b ⟨D, t, d1⟩
    by_cases e : b = g
    · subst e
      rw [g3] at d1
      cases d1
      exact ⟨_, _, heap_setCell_same W' b at' C 23 _ g3⟩
    · exact ⟨D, t, by rw [Below.heap_setCell _ _ _ _ e]; exact d1⟩
  refine ⟨g, rfl, ⟨C, g3, by omega⟩, h.zv g rfl, .inr ⟨g, 0, rfl, h2, fun i hi => ?_, fun i hi e he => ?_⟩, fun i hi e he => ?_⟩
  · rw [Nat.zero_add]
    refine cell_of (heap_setCell_same W' g at' C 23 _ g3) ?_
    by_cases e : i = at'
    · subst e
      simp only [if_true]
      rw [Array.getElem?_setIfInBounds_self_of_lt (by omega)]
    · simp only [e, if_false]
      rw [Array.getElem?_setIfInBounds_ne (by omega)]
      exact h5 i hi
  · by_cases c1 : i = at'
    · simp only [c1, if_true] at he
      obtain ⟨a1, a2, a3, a4⟩ := hx e he
      refine ⟨a1, a2, a3, fun j hj => ?_⟩
      have a5 := a4 j hj
      rw [World.cell?_setCell_other (h := fun ee => ?_)]
      · exact a5
      · injection ee with e1 e2
        obtain ⟨D, d1⟩ := hpl e he
        exact type_ne d1 g3 (by decide) e1.symm
    · simp only [c1, if_false] at he
      have he' := h.ent i hi e he
      exact ⟨by rw [he'.2.2.1]; exact Nat.le_refl _, by have := he'.2.2.2.1; omega, he'.2.2.2.2.1, by rw [he'.2.1]; exact (n5 he'.2.2.2.2.2).cells⟩
  · by_cases c1 : i = at'
    · simp only [c1, if_true] at he
      obtain ⟨D, d1⟩ := hpl e he
      exact pl ⟨D, 5, d1⟩
    · simp only [c1, if_false] at he
      obtain ⟨_, _, _, _, _, D, d1, _⟩ := h.ent i hi e he
      exact pl ⟨D, 5, (hb.block _ (heap_lt d1)).trans d1⟩
end Go.Proofs.Ygctac
