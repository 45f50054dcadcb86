/-
  law.ownNat, law.ownMachine.
-/
import Derived.Test.YgctacKm4
import Derived.Deep.Light
namespace Go.Proofs.Ygctac
open Go.RowKit
set_option linter.unusedVariables false
set_option linter.unusedSimpArgs false

/-- The copy, at block g. -/
def cp (x : Ent) (g : Nat) : Ent := x.map fun e => ⟨g, 0, e.l, e.l, e.f⟩
/-- Such a copy stands, from block B on. -/
def CpOk (W : World) (x : Ent) (g : Nat) : Prop := ∀ e, x = some e → OwnRow W g e.l e.f

@[simp, go_sem] theorem eqNil22 (w : World) (a : Option Addr) (n c : Nat) : (binOp .eql 22 (.slice a n c) (.slice none 0 0)).run Tacg.prog w = .ok (.bool a.isNone) w := Lib.run_eql_slice_nil w _ _ _ _ _ _ _ Tacg.underlying22

set_option maxRecDepth 100000 in
theorem ownNat_any (x : Ent) (w : World) (h : EntOk w x) : Calls Tacg.prog 20 #[vOf x] w fun r w' => r = .returned (vOf (cp x w.heap.size)) ∧ CpOk w' x w.heap.size ∧ Below w.heap.size w w' := by
  cases x with
  | none =>
    show Calls Tacg.prog 20 #[.slice none 0 0] w _
    go_enter Tacg.func20, Tacg.ntmps20
    go_wp2
    go_ret
    exact ⟨rfl, fun e he => by (cases he), Below.refl _ _⟩
  | some e =>
    obtain ⟨b, o, l, c, f⟩ := e
    obtain ⟨h1, h2, h3, h4⟩ := h _ rfl
    simp only at h1 h2 h3 h4
    have rm := make23 l h2
    have HC := hide (show ∀ j v, (rowL l f)[j]? = some v → (w.alloc (.cells (rowL l fun _ => 0).toArray 5)).cell? ((⟨b, o, none⟩ : Addr).add j) = some v by
      intro j v hv
      have hj : j < l := by
        have := (List.getElem?_eq_some_iff.1 hv).1
        simpa [rowL_length] using this
      rw [rowL_get l f j hj] at hv
      obtain rfl := Option.some.inj hv
      rw [add_none]
      exact cell_alloc' _ (h4 j hj))
    clear h4 h3
    show Calls Tacg.prog 20 #[.slice (some ⟨b, o, none⟩) l c] w _
    go_enter Tacg.func20, Tacg.ntmps20
    go_wp2_with (refine wpList_copy_splice rfl (.tmp 9) (.tmp 10) 23 22 rfl 5 Tacg.underlying23 size5 _ _ l l l c rfl rfl w.heap.size 0 (rowL l fun _ => 0) 5 (alloc_last _ _) (rowL l f) (by rw [rowL_length]; exact (Nat.min_self l).symm) (fun _ => ⟨rfl, ⟨b, o, none⟩, rfl, HC.out⟩) (by simp [rowL_length]) (rowL_one _ _) w.heap.size w ((Below.refl _ _).alloc (Nat.le_refl _) _) (Nat.le_refl _) ?_; intro w2 hg2 hb2)
    go_ret
    refine ⟨rfl, fun e he => ?_, hb2⟩
    cases he
    have := hg2.out
    rw [splice_whole _ _ (by simp [rowL_length])] at this
    exact RowAt.own this

theorem info23 : (Tacg.prog.info? 23).map (fun i => (i.zero, i.size, i.bytes)) = some (some (.slice none 0 0), 1, 24) := by kernel_rfl
theorem info92 : (Tacg.prog.info? 92).map (fun i => (i.zero, i.size, i.bytes)) = some (some (.int .i8 0), 1, 1) := by kernel_rfl
theorem make31 (n : Nat) (hn : n ≤ 17) (w : World) : (Instr.makeSlice 31 (.int .i64 (n : Int)) (.int .i64 (n : Int))).run Tacg.prog w = .ok (.slice (some ⟨w.heap.size, 0, none⟩) n n) (w.alloc (.cells (madeCells #[.slice none 0 0] n) 23)) :=
  run_make_row' (P := Tacg.prog) 31 23 (.slice none 0 0) 24 Tacg.underlying31 info23 rfl .i64 .i64 n (by omega) (by omega) w
theorem make32 (n : Nat) (hn : n ≤ 140737488355328) (w : World) : (Instr.makeSlice 32 (.int .i64 (n : Int)) (.int .i64 (n : Int))).run Tacg.prog w = .ok (.slice (some ⟨w.heap.size, 0, none⟩) n n) (w.alloc (.cells (madeCells #[.int .i8 0] n) 92)) :=
  run_make_row' (P := Tacg.prog) 32 92 (.int .i8 0) 1 Tacg.underlying32 info92 rfl .i64 .i64 n (by omega) (by omega) w

end Go.Proofs.Ygctac
