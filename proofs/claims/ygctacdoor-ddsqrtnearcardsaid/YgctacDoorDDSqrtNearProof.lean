/-
  THE PROOF OF 'Rows.DDSqrtNearCardSaid' ('fftlab/law.DDSqrtNear'): the row, and the tied card.
-/
import Derived.Test.YgctacDoorRows
import Derived.Test.YgctacDoorCards
import Derived.Test.YgctacDoorTie
import Derived.Test.YgctacDoorSq7
import Derived.WalkKit
import Derived.ProofKit
import Derived.OpenShut
import Derived.ChangeVars
import Derived.JoinedOf
import Derived.LaidLaws
import Derived.LaidHandle
import Derived.Lib.LaidTab
import Derived.Stop.Joined
import Derived.SevenTiedAt
namespace Go.Proofs.YgctacDoor.dDSqrtNear
open Go.ChangeShapes Go.WideShapes Go.ChangeAt Go.RowKit
set_option linter.unusedVariables false

theorem own : ownKnob Tacg.prog.godebug = none := by kernel_rfl
theorem gB : Tacg.prog.globalNamed "math/bits.deBruijn64tab" = some 1 := by kernel_rfl
theorem gBType : (Tacg.prog.globals[1]?).map (·.type) = some 72 := by kernel_rfl
theorem cells5 : Tacg.prog.cellsOf 5 = 1 := by kernel_rfl
theorem cells72 : Tacg.prog.cellsOf 72 = 64 := by kernel_rfl

/-- The table's numbers. -/
def tab : List Int := [0, 1, 56, 2, 57, 49, 28, 3, 61, 58, 42, 50, 38, 29, 17, 4, 62, 47, 59, 36, 45, 43, 51, 22, 53, 39, 33, 30, 24, 18, 12, 5, 63, 55, 48, 27, 60, 41, 37, 16, 46, 35, 44, 21, 52, 32, 23, 11, 54, 26, 40, 15, 34, 20, 31, 10, 25, 14, 19, 9, 13, 8, 7, 6]
theorem tab_is : (Rows.laid_math_bits_deBruijn64tab : DataW Unit) = Lib.tabData .u8 tab := rfl

/-- What the row's condition gives the walk: the table's first cell. -/
theorem cell_of_laid {W : World} (h : laidMetH Tacg.prog Rows.dDSqrtNearRow.laid W) : W.cell? ⟨1, 0, none⟩ = some (.int .u8 0) := by
  have h' : laidMet Tacg.prog [("math/bits.deBruijn64tab", Lib.tabData .u8 tab)] W := h
  have := (Lib.tabIs_of_head gB gBType Tacg.underlying72 Tacg.underlying5 cells5 cells72 h').cell gB 0 (by decide)
  simpa [tab] using this

/-- The table laid into a world. -/
def layTab (w : World) : World := { w with heap := w.heap.modify 1 fun
  | .cells _ t frozen => .cells (tab.map fun z => Value.int .u8 z).toArray t frozen
  | o => o }
theorem world_met (os : Os) (args : Array Value) : laidMetH Tacg.prog Rows.dDSqrtNearRow.laid ((layTab (World.holding Tacg.prog os ⟨#[], #[], []⟩)).forCall (fun _ _ => 0) ⟨#[], args, []⟩).memory := by
  have h : laidMet Tacg.prog [("math/bits.deBruijn64tab", Lib.tabData .u8 tab)] ((layTab (World.holding Tacg.prog os ⟨#[], #[], []⟩)).forCall (fun _ _ => 0) ⟨#[], args, []⟩).memory :=
    laidMet_of_run' 8 (by kernel_rfl) (by kernel_rfl)
  exact h

theorem walk (a0 : Int) (a1 : Int) (w0 : (Lit.int .u64 a0).wf = true) (w1 : (Lit.int .u64 a1).wf = true) (w : World) (hg : w.cell? ⟨1, 0, none⟩ = some (.int .u8 0)) :
    Calls Tacg.prog 3 #[.int .u64 a0, .int .u64 a1] w fun e w' => e = .returned (.bool true) ∧ Below w.heap.size w w' := by
  obtain ⟨l0, u0⟩ := bounds_u64 w0
  obtain ⟨l1, u1⟩ := bounds_u64 w1
  obtain ⟨a, rfl⟩ := Int.eq_ofNat_of_zero_le l0
  obtain ⟨b, rfl⟩ := Int.eq_ofNat_of_zero_le l1
  exact ddSqrtNear_any a b (by omega) (by omega) w hg

set_option maxRecDepth 100000 in
theorem lifted (os : Os) (started : os.Started) (H : Type) (enc : TypeId × Value → H) :
    ReturnsInHanded {} Tacg.checked os 3 .any (fun w args => (Rows.dDSqrtNearSpec.pre enc Tacg.prog Tacg.f3 [] false w args ∧ laidMetH Tacg.prog Rows.dDSqrtNearRow.laid w) ∧ sizedMet enc Tacg.prog Tacg.f3 (OpenSpec.ofChange Rows.dDSqrtNearSpec) false w args)
      (Rows.dDSqrtNearSpec.post enc Tacg.prog Tacg.f3 false true false false) := by
  refine returnsInHanded_of_change_and (C := Tacg.checked) (X := fun w _ => laidMetH Tacg.prog Rows.dDSqrtNearRow.laid w) (fun _ _ _ hh h => h.of_heap hh) own started (by kernel_rfl) Tacg.func3
    (ChangeSpec.witness_at (enc := enc) (C := Tacg.checked) (os := os) (X := fun w _ => laidMetH Tacg.prog Rows.dDSqrtNearRow.laid w) false (layTab (World.holding Tacg.prog os ⟨#[], #[], []⟩)) #[.int .u64 0, .int .u64 0] 8 rfl (by kernel_rfl) (by kernel_rfl) (by kernel_rfl) (by kernel_rfl) (by kernel_rfl) (world_met os _)) ?_
  intro W base args ds gs before hval0 hW _ _ hL _
  have hval : ∀ (j : Nat) t v, Tacg.f3.params[j]? = some t → args[j]? = some v → Value.okWide Tacg.prog W .any base t v := hval0
  have hW' := hW
  obtain ⟨p, q, hA0, hV, rfl, hfz, hnd⟩ := hW
  have hA : DataW.TrodAll enc Tacg.prog W 0 (fun _ => true) true Tacg.f3.params.toList args.toList ds p := hA0
  rw [Tacg.params3] at hA hval
  obtain ⟨v0, vs0, d0, ds0, p0, q0, hargs, rfl, rfl, h0, r0⟩ := trodAll_cons hA
  obtain ⟨v1, vs1, d1, ds1, p1, q1, rfl, rfl, rfl, h1, r1⟩ := trodAll_cons r0
  obtain ⟨rfl, rfl, rfl⟩ := trodAll_nil r1
  obtain rfl : args = #[v0, v1] := by cases args; simp_all
  obtain ⟨rfl, rfl⟩ := trodVars_none hV
  obtain ⟨a0, rfl, rfl, rfl, w0⟩ := open_int Tacg.underlying22 (hval 0 22 v0 rfl rfl) h0
  obtain ⟨a1, rfl, rfl, rfl, w1⟩ := open_int Tacg.underlying22 (hval 1 22 v1 rfl rfl) h1
  clear hA0 hval0
  simp only [List.append_nil] at hW'
  refine (walk a0 a1 w0 w1 W (cell_of_laid hL)).mono fun e W' ⟨he, bel⟩ => ?_
  subst he
  exact ⟨_, rfl, _, _, _, [], [], [], hW', trodAll_mk1 (shut_bool Tacg.underlying4 _), (trodAll_cons_mk (shut_int Tacg.underlying22 w0) (trodAll_cons_mk (shut_int Tacg.underlying22 w1) trodAll_mk0)), rfl, bel.frame _, fun h => by cases h⟩

theorem over : Rows.dDSqrtNearRow.holds Tacg.pinned (OpenSpec.ofChange Rows.dDSqrtNearSpec) :=
  OpenClaim.holds_of_wide 3 Tacg.f3 rfl rfl rfl rfl rfl rfl rfl ⟨rfl, rfl, rfl, rfl, rfl⟩ rfl rfl rfl rfl rfl (by kernel_rfl) Tacg.func3 (by kernel_rfl)
    (of_decide_eq_true (by kernel_rfl)) (by unfold Func.isWrapper; first | (rw [if_pos (by decide +kernel)]; kernel_rfl) | (rw [if_neg (by decide +kernel)]; exact ⟨rfl, rfl⟩))
    (fun os started H enc _ => lifted os started H enc)

/-- ████ THE STATEMENT: the tied card ████ -/
theorem proved : Rows.DDSqrtNearCardSaid :=
  Claim7.holds_tied_plain_at .later [] [.data] true (true, "8ab4df81b9456f91005809b2c4296a765e5e156b8006b21df6d86c57cfd120d5") false
    over (fun _ h => by cases h) (by kernel_rfl) (fun _ h => by cases h) dDSqrtNear_row_tie rfl ⟨rfl, rfl⟩ (by kernel_rfl) rfl
    (fun f fn hf hfn => by
      obtain rfl : f = 3 := Option.some.inj ((show Tacg.prog.funcNamed "fftlab/law.DDSqrtNear" = some 3 by kernel_rfl).symm.trans hf) |>.symm
      obtain rfl : fn = Tacg.f3 := (Option.some.inj (Tacg.func3.symm.trans hfn)).symm
      exact ⟨by kernel_rfl, fun j t ht => by
        rw [Tacg.params3] at ht
        have h3 : t = 22 := by
          rcases j with _ | _ | j
          · simpa using ht.symm
          · simpa using ht.symm
          · simp at ht
        subst h3
        exact (show Tacg.prog.wantsStandIn 22 = false by kernel_rfl)⟩)
    (by kernel_rfl)
#print axioms proved
end Go.Proofs.YgctacDoor.dDSqrtNear
