/-
  THE PROOF OF 'Rows.DDDivNearSaid' ('fftlab/law.DDDivNear'), after the guide's shell for that function.
  The walk's hole is filled by YgctacDiv4.lean; the end is given limb by limb over 'Below'.
-/
import Derived.Test.YgctacRows
import Derived.Test.YgctacDiv4
import Derived.WalkKit
import Derived.ProofKit
import Derived.OpenShut
import Derived.ShutString
namespace Go.Proofs.Ygctac.dDDivNear
open Go.ChangeShapes Go.WideShapes Go.ChangeAt Go.RowKit
open Go.ChangeMaps (open_string shut_string)
set_option linter.unusedVariables false      -- a walk need not use every 'w<i>' (that an integer argument fits its kind)

theorem own : ownKnob Tacg.prog.godebug = none := by kernel_rfl

/-! ### STEP 1: THE WALK: the Go text returns true, and writes nothing that was there. -/
theorem walk (a0 : Int) (a1 : Int) (a2 : Int) (a3 : Int) (w0 : (Lit.int .u64 a0).wf = true) (w1 : (Lit.int .u64 a1).wf = true) (w2 : (Lit.int .u64 a2).wf = true) (w3 : (Lit.int .u64 a3).wf = true) (w : World) :
    Calls Tacg.prog 11 #[.int .u64 a0, .int .u64 a1, .int .u64 a2, .int .u64 a3] w fun e w' => e = .returned (.bool true) ∧ Below w.heap.size w w' := by
  obtain ⟨l0, u0⟩ := bounds_u64 w0
  obtain ⟨a, rfl⟩ := Int.eq_ofNat_of_zero_le l0
  obtain ⟨l1, u1⟩ := bounds_u64 w1
  obtain ⟨b, rfl⟩ := Int.eq_ofNat_of_zero_le l1
  obtain ⟨l2, u2⟩ := bounds_u64 w2
  obtain ⟨c, rfl⟩ := Int.eq_ofNat_of_zero_le l2
  obtain ⟨l3, u3⟩ := bounds_u64 w3
  obtain ⟨d, rfl⟩ := Int.eq_ofNat_of_zero_le l3
  exact ddDivNear_any a b c d (by omega) (by omega) (by omega) (by omega) w

/-! ### THE ROW's STEP: WRITTEN OUT: LEAVE IT -/
set_option maxRecDepth 100000 in
theorem lifted (os : Os) (started : os.Started) (H : Type) (enc : TypeId × Value → H) :
    ReturnsInHanded {} Tacg.checked os 11 .any (Rows.dDDivNearSpec.pre6 enc Tacg.prog Tacg.f11 Rows.dDDivNearRow.domain false) (Rows.dDDivNearSpec.post enc Tacg.prog Tacg.f11 false true false false) := by
  refine returnsInHanded_of_change (C := Tacg.checked) own started (by kernel_rfl) Tacg.func11
    (ChangeSpec.witness6 (enc := enc) (C := Tacg.checked) false ⟨#[], #[.int .u64 0, .int .u64 0, .int .u64 0, .int .u64 0], []⟩ 8 (by kernel_rfl) (by kernel_rfl) (by kernel_rfl) (by kernel_rfl)) ?_
  intro W base args ds gs before hval0 hW hcnd _
  have hval : ∀ (j : Nat) t v, Tacg.f11.params[j]? = some t → args[j]? = some v → Value.okWide Tacg.prog W .any base t v := hval0
  have hW' := hW
  obtain ⟨p, q, hA0, hV, rfl, hfz, hnd⟩ := hW
  have hA : DataW.TrodAll enc Tacg.prog W 0 (fun _ => true) true Tacg.f11.params.toList args.toList ds p := hA0
  rw [Tacg.params11] at hA hval
  obtain ⟨v0, vs0, d0, ds0, p0, q0, hargs, rfl, rfl, h0, r0⟩ := trodAll_cons hA
  obtain ⟨v1, vs1, d1, ds1, p1, q1, rfl, rfl, rfl, h1, r1⟩ := trodAll_cons r0
  obtain ⟨v2, vs2, d2, ds2, p2, q2, rfl, rfl, rfl, h2, r2⟩ := trodAll_cons r1
  obtain ⟨v3, vs3, d3, ds3, p3, q3, rfl, rfl, rfl, h3, r3⟩ := trodAll_cons r2
  obtain ⟨rfl, rfl, rfl⟩ := trodAll_nil r3
  obtain rfl : args = #[v0, v1, v2, v3] := by cases args; simp_all
  obtain ⟨rfl, rfl⟩ := trodVars_none hV
  obtain ⟨a0, rfl, rfl, rfl, w0⟩ := open_int Tacg.underlying65 (hval 0 65 v0 rfl rfl) h0
  obtain ⟨a1, rfl, rfl, rfl, w1⟩ := open_int Tacg.underlying65 (hval 1 65 v1 rfl rfl) h1
  obtain ⟨a2, rfl, rfl, rfl, w2⟩ := open_int Tacg.underlying65 (hval 2 65 v2 rfl rfl) h2
  obtain ⟨a3, rfl, rfl, rfl, w3⟩ := open_int Tacg.underlying65 (hval 3 65 v3 rfl rfl) h3
  clear hA0 hval0
  simp only [List.append_nil] at hW'
  refine (walk a0 a1 a2 a3 w0 w1 w2 w3 W).mono fun e W' ⟨he, bel⟩ => ?_
  subst he
  exact ⟨_, rfl, _, _, _, [], [], [], hW', trodAll_mk1 (shut_bool Tacg.underlying4 _), (trodAll_cons_mk (shut_int Tacg.underlying65 w0) (trodAll_cons_mk (shut_int Tacg.underlying65 w1) (trodAll_cons_mk (shut_int Tacg.underlying65 w2) (trodAll_cons_mk (shut_int Tacg.underlying65 w3) trodAll_mk0)))), rfl, bel.frame _, fun h => by cases h⟩

theorem over : Rows.dDDivNearRow.holds Tacg.pinned (OpenSpec.ofChange Rows.dDDivNearSpec) :=
  OpenClaim.holds_of_wide 11 Tacg.f11 rfl rfl rfl rfl rfl rfl rfl ⟨rfl, rfl, rfl, rfl, rfl⟩ rfl rfl rfl rfl rfl (by kernel_rfl) Tacg.func11 (by kernel_rfl)
    (of_decide_eq_true (by kernel_rfl)) (by unfold Func.isWrapper; first | (rw [if_pos (by decide +kernel)]; kernel_rfl) | (rw [if_neg (by decide +kernel)]; exact ⟨rfl, rfl⟩))
    (fun os started H enc _ => lifted os started H enc)

/-- ████ THE STATEMENT ████ -/
theorem proved : Rows.DDDivNearSaid :=
  over
#print axioms proved
end Go.Proofs.Ygctac.dDDivNear
