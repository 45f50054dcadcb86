/-
  law.alone.
-/
import Derived.Test.YgctacKm18
namespace Go.Proofs.Ygctac
open Go.RowKit
set_option linter.unusedVariables false
set_option linter.unusedSimpArgs false

/-- All that alone looks at: the machine at mb, the copy at kb, the argument and its copy; entry H, where there is one, is turned. -/
structure AL (W : World) (Z : Nat → Prop) (mb kb g g' n c : Nat) (u u' : Value) (S : Nat → Ent) (G : Nat → Nat) (xa : Ent) (ga : Nat) (H : Option Nat) : Prop where
  mac : ∃ C, W.heap[mb]? = some (.cells C 34 (0, 0)) ∧ C[0]? = some (.slice (some ⟨g, 0, none⟩) n c)
  row : ∃ C, W.heap[g]? = some (.cells C 23 (0, 0)) ∧ ∀ i, i < n → C[i]? = some (vOf (S i))
  kac : ∃ C, W.heap[kb]? = some (.cells C 34 (0, 0)) ∧ C[0]? = some (.slice (some ⟨g', 0, none⟩) n n)
  kow : ∃ C, W.heap[g']? = some (.cells C 23 (0, 0)) ∧ ∀ i, i < n → C[i]? = some (vOf (cp (S i) (G i)))
  ent : ∀ i, i < n → ∀ e, S i = some e → Z e.b ∧ e.o = 0 ∧ e.c = e.l ∧ e.l ≤ 140737488355328 ∧ Dg e.f e.l ∧ OwnRow W e.b e.l (if H = some i then fl e.f else e.f)
  dis : ∀ i j, i < n → j < n → i ≠ j → ∀ e e', S i = some e → S j = some e' → e.b ≠ e'.b
  ken : ∀ i, i < n → ∀ e, S i = some e → OwnRow W (G i) e.l e.f ∧ ∀ j, j < n → ∀ e', S j = some e' → G i ≠ e'.b
  arg : ∀ e, xa = some e → OwnRow W e.b e.l e.f ∧ OwnRow W ga e.l e.f ∧ e.o = 0 ∧ e.c = e.l ∧ e.l ≤ 140737488355328 ∧ Dg e.f e.l ∧ ∀ j, j < n → ∀ e', S j = some e' → e.b ≠ e'.b ∧ ga ≠ e'.b
theorem own_oth {W W' : World} {b g l : Nat} {f : Nat → Int} (h : OwnRow W b l f) (ho : Oth g W W') (hne : b ≠ g) : OwnRow W' b l f := by
  obtain ⟨C, c1, c2⟩ := h
  exact ⟨C, (ho.block b hne).trans c1, c2⟩
theorem cells_oth {W W' : World} {b g : Nat} {C : Array Value} {t : TypeId} {l : Nat} {f : Nat → Int} (h : W.heap[b]? = some (.cells C t (0, 0))) (ho : Oth g W W') (hr : OwnRow W g l f) (ht : t ≠ 5) : W'.heap[b]? = some (.cells C t (0, 0)) := by
  obtain ⟨D, d1, _⟩ := hr
  rw [ho.block b (type_ne h d1 ht)]
  exact h
theorem AL.turn {W W' : World} {Z : Nat → Prop} {mb kb g g' n c : Nat} {u u' : Value} {S : Nat → Ent} {G : Nat → Nat} {xa : Ent} {ga : Nat} {H H' : Option Nat} {i : Nat} {e : En} (h : AL W Z mb kb g g' n c u u' S G xa ga H) (hi : i < n) (he : S i = some e) (ho : Oth e.b W W') (hr : OwnRow W' e.b e.l (if H' = some i then fl e.f else e.f)) (hH : ∀ j, j ≠ i → (H = some j ↔ H' = some j)) : AL W' Z mb kb g g' n c u u' S G xa ga H' := by
  have hrow := (h.ent i hi e he).2.2.2.2.2
  refine ⟨?_, ?_, ?_, ?_, fun j hj e' he' => ?_, h.dis, fun j hj e' he' => ?_, fun e' he' => ?_⟩
  · obtain ⟨C, c1, c2⟩ := h.mac; exact ⟨C, cells_oth c1 ho hrow (by decide), c2⟩
  · obtain ⟨C, c1, c2⟩ := h.row; exact ⟨C, cells_oth c1 ho hrow (by decide), c2⟩
  · obtain ⟨C, c1, c2⟩ := h.kac; exact ⟨C, cells_oth c1 ho hrow (by decide), c2⟩
  · obtain ⟨C, c1, c2⟩ := h.kow; exact ⟨C, cells_oth c1 ho hrow (by decide), c2⟩
  · obtain ⟨a1, a2, a3, a4, a5, a6⟩ := h.ent j hj e' he'
    refine ⟨a1, a2, a3, a4, a5, ?_⟩
    by_cases cj : j = i
    · subst cj
      rw [he] at he'
      cases he'
      exact hr
    · have := own_oth a6 ho (h.dis j i hj hi cj e' e he' he)
      by_cases ch : H = some j
      · rw [if_pos ch] at this
        rw [if_pos ((hH j cj).1 ch)]
        exact this
      · rw [if_neg ch] at this
        rw [if_neg (fun hh => ch ((hH j cj).2 hh))]
        exact this
  · have := h.ken j hj e' he'
    exact ⟨own_oth this.1 ho (this.2 i hi e he), this.2⟩
  · obtain ⟨a1, a2, a3, a4, a5, a6, a7⟩ := h.arg e' he'
    exact ⟨own_oth a1 ho (a7 i hi e he).1, own_oth a2 ho (a7 i hi e he).2, a3, a4, a5, a6, a7⟩
theorem AL.drewN {W : World} {Z : Nat → Prop} {mb kb g g' n c d : Nat} {u u' : Value} {S : Nat → Ent} {G : Nat → Nat} {xa : Ent} {ga : Nat} {H : Option Nat} (h : AL W Z mb kb g g' n c u u' S G xa ga H) : AL (W.drewN d) Z mb kb g g' n c u u' S G xa ga H :=
  ⟨h.mac, h.row, h.kac, h.kow, h.ent, h.dis, h.ken, h.arg⟩
theorem AL.same {W : World} {Z : Nat → Prop} {mb kb g g' n c : Nat} {u u' : Value} {S : Nat → Ent} {G : Nat → Nat} {xa : Ent} {ga : Nat} {H : Option Nat} (h : AL W Z mb kb g g' n c u u' S G xa ga H) {j : Nat} (hj : j < n) (hH : H ≠ some j) (d : Nat) :
    Calls Tacg.prog 42 #[vOf (S j), vOf (cp (S j) (G j))] (W.drewN d) fun r w' => r = .returned (.bool true) ∧ ∃ k, w' = (W.drewN d).drewN k := by
  refine sameNat_ent _ _ (SameV.cp _ _) (W.drewN d) (fun e he => ?_) (fun e he => ?_)
  · obtain ⟨a1, a2, a3, a4, a5, a6⟩ := h.ent j hj e he
    rw [if_neg hH] at a6
    exact ⟨by rw [a3]; exact Nat.le_refl _, a4, a5, by rw [a2]; exact a6.cells⟩
  · cases hS : S j with
    | none => rw [hS] at he; cases he
    | some e0 =>
      rw [hS] at he
      cases he
      obtain ⟨a1, a2, a3, a4, a5, a6⟩ := h.ent j hj e0 hS
      exact ⟨Nat.le_refl _, a4, a5, (h.ken j hj e0 hS).1.cells⟩
theorem AL.args {W : World} {Z : Nat → Prop} {mb kb g g' n c : Nat} {u u' : Value} {S : Nat → Ent} {G : Nat → Nat} {xa : Ent} {ga : Nat} {H : Option Nat} (h : AL W Z mb kb g g' n c u u' S G xa ga H) :
    Calls Tacg.prog 41 #[vOf xa, vOf (cp xa ga)] W fun r w' => r = .returned (.bool true) ∧ ∃ k, w' = W.drewN k := by
  cases xa with
  | none => exact sameDigits_none none none 0 0 W
  | some e =>
    obtain ⟨a1, a2, a3, a4, a5, a6, a7⟩ := h.arg e rfl
    obtain ⟨b, o, l, cc, f⟩ := e
    simp only at a1 a2 a3 a4 a5 a6
    subst a3
    exact sameDigits_some b 0 cc ga 0 l l f a5 W a1.cells a2.cells
def AloneR (Z : Nat → Prop) (W : World) (r : Ending) (w' : World) : Prop := r = .returned (.bool true) ∧ KZ Z W w'
theorem KZ.oth {Z : Nat → Prop} {W W1 W2 : World} {g : Nat} (h : KZ Z W W1) (ho : Oth g W1 W2) (hz : Z g) : KZ Z W W2 :=
  ⟨ho.os.trans h.os, ho.tape.trans h.tape, ho.output.trans h.output, by rw [ho.size]; exact h.size, fun b hb hn => (ho.block b (fun e => hn (by rw [e]; exact hz))).trans (h.block b hb hn)⟩
theorem KZ.dN {Z : Nat → Prop} {W W1 : World} (h : KZ Z W W1) (d : Nat) : KZ Z W (W1.drewN d) := ⟨h.os, h.tape, h.output, h.size, h.block⟩
end Go.Proofs.Ygctac
