/-
  A machine that owns its memory: put, push, replace.
-/
import Derived.Test.YgctacKm11
namespace Go.Proofs.Ygctac
open Go.RowKit
set_option linter.unusedVariables false
set_option linter.unusedSimpArgs false

/-- Of the blocks that were, those of Z alone may have changed. -/
structure KZ (Z : Nat → Prop) (W W' : World) : Prop where
  os : W'.os = W.os
  tape : W'.tape = W.tape
  output : W'.output = W.output
  size : W.heap.size ≤ W'.heap.size
  block : ∀ b, b < W.heap.size → ¬ Z b → W'.heap[b]? = W.heap[b]?
theorem KZ.refl (Z : Nat → Prop) (W : World) : KZ Z W W := ⟨rfl, rfl, rfl, Nat.le_refl _, fun _ _ _ => rfl⟩
theorem KZ.trans {Z : Nat → Prop} {W W1 W2 : World} (h : KZ Z W W1) (h' : KZ Z W1 W2) : KZ Z W W2 :=
  ⟨h'.os.trans h.os, h'.tape.trans h.tape, h'.output.trans h.output, Nat.le_trans h.size h'.size, fun b hb hz => (h'.block b (Nat.lt_of_lt_of_le hb h.size) hz).trans (h.block b hb hz)⟩
theorem KZ.of {Z : Nat → Prop} {W W' : World} (h : Below W.heap.size W W') : KZ Z W W' := ⟨h.os, h.tape, h.output, h.size, fun b hb _ => h.block b hb⟩
theorem KZ.set {Z : Nat → Prop} {W W' : World} (h : KZ Z W W') {a : Addr} (ha : Z a.block) (v : Value) : KZ Z W (W'.setCell a v) := by
  have hb := (Below.refl 0 W').setCell (p := a) (Nat.zero_le _) v
  refine ⟨hb.os.trans h.os, hb.tape.trans h.tape, hb.output.trans h.output, Nat.le_trans h.size hb.size, fun b h1 h2 => ?_⟩
  rw [Below.heap_setCell _ _ _ _ (fun e => h2 (by rw [e]; exact ha))]
  exact h.block b h1 h2
theorem KZ.grown {Z : Nat → Prop} {W W1 W2 : World} {row : Option Nat} (h : KZ Z W W1) (hg : W1.grownBy W2 row) (hr : ∀ g, row = some g → Z g) : KZ Z W W2 :=
  ⟨hg.os.trans h.os, hg.tape.trans h.tape, hg.output.trans h.output, Nat.le_trans h.size hg.size, fun b h1 h2 => (hg.block b (Nat.lt_of_lt_of_le h1 h.size) (fun e => h2 (hr b e.symm))).trans (h.block b h1 h2)⟩

/-- A number in memory of one's own. -/
def EO (W : World) (Z : Nat → Prop) (e : En) : Prop := Z e.b ∧ e.o = 0 ∧ e.c = e.l ∧ e.l ≤ 2000 ∧ Dg e.f e.l ∧ OwnRow W e.b e.l e.f
structure StO (W : World) (Z : Nat → Prop) (v : Value) (n : Nat) (S : Nat → Ent) : Prop where
  row : RowO W 23 v n fun i => vOf (S i)
  zv : ∀ g, v.ownBlock = some g → Z g
  ent : ∀ i, i < n → ∀ e, S i = some e → EO W Z e
  dis : ∀ i j, i < n → j < n → i ≠ j → ∀ e e', S i = some e → S j = some e' → e.b ≠ e'.b
structure OuO (W : World) (Z : Nat → Prop) (u : Value) (k : Nat) (Q : Nat → Int) : Prop where
  row : RowO W 92 u k fun i => .int .i8 (Q i)
  zu : ∀ g, u.ownBlock = some g → Z g
structure MO (W : World) (Z : Nat → Prop) (mb : Nat) (v u : Value) (n : Nat) (S : Nat → Ent) (k : Nat) (Q : Nat → Int) : Prop where
  cell : W.heap[mb]? = some (.cells #[v, u] 34 (0, 0))
  zm : Z mb
  st : StO W Z v n S
  ou : OuO W Z u k Q
  fresh : ∀ b, W.heap.size ≤ b → Z b
/-- Blocks of type t stay. -/
def Keeps (W W' : World) (t : TypeId) : Prop := ∀ (b : Nat) (C : Array Value), W.heap[b]? = some (.cells C t (0, 0)) → W'.heap[b]? = some (.cells C t (0, 0))
theorem EO.moved {W W' : World} {Z : Nat → Prop} {e : En} (h : EO W Z e) (hk : Keeps W W' 5) : EO W' Z e := by
  obtain ⟨h1, h2, h3, h4, h5, C, c1, c2⟩ := h
  exact ⟨h1, h2, h3, h4, h5, C, hk _ _ c1, c2⟩
theorem StO.moved {W W' : World} {Z : Nat → Prop} {v : Value} {n : Nat} {S : Nat → Ent} (h : StO W Z v n S) (h5 : Keeps W W' 5) (h23 : Keeps W W' 23) : StO W' Z v n S :=
  ⟨h.row.moved (fun b C _ hb => h23 b C hb), h.zv, fun i hi e he => (h.ent i hi e he).moved h5, h.dis⟩
theorem OuO.moved {W W' : World} {Z : Nat → Prop} {u : Value} {k : Nat} {Q : Nat → Int} (h : OuO W Z u k Q) (h92 : Keeps W W' 92) : OuO W' Z u k Q :=
  ⟨h.row.moved (fun b C _ hb => h92 b C hb), h.zu⟩
theorem Keeps.below {W W' : World} (h : Below W.heap.size W W') (t : TypeId) : Keeps W W' t := fun b C hb => (h.block b (heap_lt hb)).trans hb
theorem Keeps.trans {W W1 W2 : World} {t : TypeId} (h : Keeps W W1 t) (h' : Keeps W1 W2 t) : Keeps W W2 t := fun b C hb => h' b C (h b C hb)
theorem Keeps.set {W : World} {t t' : TypeId} {a : Addr} {C : Array Value} (ha : W.heap[a.block]? = some (.cells C t' (0, 0))) (ht : t ≠ t') (v : Value) : Keeps W (W.setCell a v) t := fun b D hb => by
  rw [Below.heap_setCell _ _ _ _ (type_ne hb ha ht)]; exact hb
theorem Keeps.grown {W W' : World} {t t' : TypeId} {v : Value} {n : Nat} {X : Nat → Value} (hg : W.grownBy W' v.ownBlock) (h : RowO W t' v n X) (ht : t ≠ t') : Keeps W W' t := fun b D hb => by
  rw [hg.block b (heap_lt hb) ?_]; exact hb
  intro e
  rcases h with ⟨rfl, _⟩ | ⟨g, c, C, rfl, _, h3, _⟩
  · cases e
  · injection e with e
    simp only at e
    exact type_ne hb h3 ht e
theorem MO.after {W W' : World} {Z : Nat → Prop} {mb : Nat} {v u : Value} {n : Nat} {S : Nat → Ent} {k : Nat} {Q : Nat → Int} (h : MO W Z mb v u n S k Q) (hb : Below W.heap.size W W') : MO W' Z mb v u n S k Q :=
  ⟨(hb.block _ (heap_lt h.cell)).trans h.cell, h.zm, h.st.moved (Keeps.below hb 5) (Keeps.below hb 23), h.ou.moved (Keeps.below hb 92), fun b hb' => h.fresh b (Nat.le_trans hb.size hb')⟩
theorem MO.drewN {W : World} {Z : Nat → Prop} {mb : Nat} {v u : Value} {n : Nat} {S : Nat → Ent} {k d : Nat} {Q : Nat → Int} (h : MO W Z mb v u n S k Q) : MO (W.drewN d) Z mb v u n S k Q :=
  h.after (below_dN (Below.refl _ _) d)

def PutR (Z : Nat → Prop) (W : World) (mb : Nat) (v : Value) (n : Nat) (S : Nat → Ent) (k : Nat) (Q : Nat → Int) (r : Ending) (w' : World) : Prop :=
  r = .returned (.tuple #[]) ∧ ∃ u', MO w' Z mb v u' n S k Q ∧ KZ Z W w' ∧ Keeps W w' 5
def PushR (Z : Nat → Prop) (W : World) (mb : Nat) (u : Value) (n : Nat) (S : Nat → Ent) (k : Nat) (Q : Nat → Int) (r : Ending) (w' : World) : Prop :=
  r = .returned (.tuple #[]) ∧ ∃ v', MO w' Z mb v' u n S k Q ∧ KZ Z W w'

set_option maxRecDepth 100000 in
set_option maxHeartbeats 1000000 in
theorem put_any (Z : Nat → Prop) (mb : Nat) (z : Int) (v u : Value) (n : Nat) (S : Nat → Ent) (k : Nat) (Q : Nat → Int) (W : World) (h : MO W Z mb v u n S k Q) (hk : k ≤ 140737488355328) :
    Calls Tacg.prog 80 #[.pointer (some ⟨mb, 0, none⟩), .int .i8 z] W fun r w' => PutR Z W mb v n S (k + 1) (fun i => if i = k then z else Q i) r w' := by
  have hA : Below W.heap.size W (W.alloc (.cells #[.int .i8 z] 92)) := (Below.refl _ _).alloc (Nat.le_refl _) _
  have h1 := h.after hA
  obtain ⟨u', w2, hr, hR, hG, hB⟩ := append_one (W.alloc (.cells #[.int .i8 z] 92)) 32 32 92 (.int .i8 0) 1 Tacg.underlying32 info92 rfl (by decide) u k _ h1.ou.row (by omega) hk ⟨W.heap.size, 0, none⟩ (.int .i8 z) (cell_of (alloc_last _ _) rfl) rfl
  have k5 : Keeps (W.alloc (.cells #[.int .i8 z] 92)) w2 5 := Keeps.grown hG h1.ou.row (by decide)
  have k23 : Keeps (W.alloc (.cells #[.int .i8 z] 92)) w2 23 := Keeps.grown hG h1.ou.row (by decide)
  have k34 : Keeps (W.alloc (.cells #[.int .i8 z] 92)) w2 34 := Keeps.grown hG h1.ou.row (by decide)
  have c2 := k34 _ _ h1.cell
  have HF : Hid (MO (w2.setCell ⟨mb, 1, none⟩ u') Z mb v u' n S (k + 1) (fun i => if i = k then z else Q i) ∧ KZ Z W (w2.setCell ⟨mb, 1, none⟩ u') ∧ Keeps W (w2.setCell ⟨mb, 1, none⟩ u') 5) := by
    have hs := (KZ.of (Z := Z) hA).grown hG h.ou.zu
    have hset : ∀ t, t ≠ 34 → Keeps w2 (w2.setCell ⟨mb, 1, none⟩ u') t := fun t ht => Keeps.set (a := ⟨mb, 1, none⟩) c2 ht u'
    refine hide ⟨⟨heap_setCell_same w2 mb 1 _ 34 _ c2, h.zm, (h1.st.moved k5 k23).moved (hset 5 (by decide)) (hset 23 (by decide)), ⟨(hR.congr (fun i hi => ?_)).moved (fun b C _ hb => hset 92 (by decide) b C hb), fun g hg => ?_⟩, fun b hb => ?_⟩, hs.set (a := ⟨mb, 1, none⟩) h.zm _, ((Keeps.below hA 5).trans k5).trans (hset 5 (by decide))⟩
    · by_cases e : i = k <;> simp [e]
    · rcases hB with hB | ⟨g', hg', hle⟩
      · rw [hB] at hg; exact h.ou.zu g hg
      · rw [hg'] at hg; cases hg
        exact h.fresh _ (Nat.le_trans hA.size hle)
    · exact h.fresh b (Nat.le_trans hs.size (Nat.le_trans ((Below.refl 0 w2).setCell (p := ⟨mb, 1, none⟩) (Nat.zero_le _) u').size hb))
  obtain ⟨p0, c0, rfl⟩ := h.ou.row.slice
  obtain ⟨p1, c1, rfl⟩ := hR.slice
  have m0 := cell_of h.cell (i := 1) rfl
  have m1 := cell_of h1.cell (i := 1) rfl
  have m2 := cell_of c2 (i := 1) rfl
  have f2 := frozen_of c2 1
  clear h h1 hA hR hG hB k5 k23 k34 c2
  go_enter Tacg.func80, Tacg.ntmps80
  have HR := hide hr
  clear hr
  go_wp2_with (at_builtin; refine wpList_append_run rfl (.tmp 8) (.tmp 10) 32 rfl rfl rfl HR.out ?_)
  go_end0
  exact ⟨rfl, _, HF.out⟩
end Go.Proofs.Ygctac
