/-
  THE PROOF OF 'Rows.EmptyIsNilSaid' ('fftlab/law.EmptyIsNil'), after the guide's shell for that function.
  The walk's hole is filled by YgctacEmpty.lean; the input's size by the form's reach.
-/
import Derived.Test.YgctacRows
import Derived.Test.YgctacEmpty
import Derived.SizedLaws
import Derived.WalkKit
import Derived.ProofKit
import Derived.OpenShut
import Derived.ShutString
import Derived.ChangeOld
import Derived.Below
namespace Go.Proofs.Ygctac.emptyIsNil
open Go.ChangeShapes Go.WideShapes Go.ChangeAt Go.RowKit
open Go.ChangeMaps (open_string shut_string)
set_option linter.unusedVariables false

theorem own : ownKnob Tacg.prog.godebug = none := by kernel_rfl
theorem laidOut : laidOutB Tacg.prog = true := by kernel_rfl

/-- WHAT THE WALK IS TOLD OF A SLICE OF INTEGERS THAT CAME IN: it is nil; or it leads to a row of 'cap' cells, the numbers 'zs' (the first 'len' are its elements, the rest its spare room), each fitting its kind. -/
def IsRow (k : IntKind) (w : World) (a : Option Addr) (len cap : Nat) (zs : List Int) : Prop :=
  (a = none ∧ len = 0 ∧ cap = 0 ∧ zs = []) ∨
  ∃ x, a = some x ∧ len ≤ cap ∧ cap ≤ maxLen ∧ zs.length = cap ∧ (∀ i, i < zs.length → w.cell? (x.add i) = some (.int k (zs.getD i 0))) ∧ ∀ n ∈ zs, (Lit.int k n).wf = true

/-! ### STEP 1: THE WALK: the Go text returns true, and writes nothing that was there. -/
theorem walk (a0 : Option Addr) (len0 cap0 : Nat) (z0 : List Int) (w : World) (w0 : IsRow .u8 w a0 len0 cap0 z0) (hz : cap0 ≤ 140737488355328) :
    Calls Tacg.prog 6 #[.slice a0 len0 cap0] w fun e w' => e = .returned (.bool true) ∧ Below w.heap.size w w' := by
  refine emptyIsNil_any a0 len0 cap0 w ?_ ?_
  · rcases w0 with ⟨rfl, rfl, rfl, rfl⟩ | ⟨x, rfl, h1, h2, h3, h4, h5⟩
    · exact .inl ⟨⟨none, rfl⟩, rfl⟩
    · rcases Nat.eq_zero_or_pos cap0 with rfl | hp
      · obtain rfl : len0 = 0 := by omega
        exact .inl ⟨⟨some x, rfl⟩, rfl⟩
      · have hx := h4 0 (by omega)
        have hs : x.spot = none := by
          have h := hx
          rw [show x.add 0 = x from rfl, World.cell?] at h
          cases hb : x.spot with
          | none => rfl
          | some q =>
            rw [hb] at h
            split at h
            · simp at h
            · cases h
        obtain ⟨b, o, sp⟩ := x
        obtain rfl : sp = none := hs
        refine .inr ⟨b, o, cap0, fun i => z0.getD i 0, rfl, h1, hz, fun i hi => ?_, fun i hi => ?_⟩
        · have hm : z0.getD i 0 ∈ z0 := by
            have hl : i < z0.length := by omega
            simp [List.getD, hl]
          have := h5 _ hm
          simp only [Lit.wf, Bool.and_eq_true, decide_eq_true_eq] at this
          have e1 : IntKind.u8.min = 0 := rfl
          have e2 : IntKind.u8.max = 255 := rfl
          show 0 ≤ z0.getD i 0 ∧ z0.getD i 0 < 256
          omega
        · have := h4 i (by omega)
          rwa [add_none] at this
  · rcases w0 with ⟨rfl, rfl, rfl, rfl⟩ | ⟨x, rfl, h1, h2, h3, h4, h5⟩
    · omega
    · omega

/-! ### THE ROW's STEP: WRITTEN OUT: LEAVE IT -/
set_option maxRecDepth 100000 in
theorem lifted (os : Os) (started : os.Started) (H : Type) (enc : TypeId × Value → H) :
    ReturnsInHanded {} Tacg.checked os 6 .any (Rows.emptyIsNilSpec.pre6 enc Tacg.prog Tacg.f6 Rows.emptyIsNilRow.domain false) (Rows.emptyIsNilSpec.post enc Tacg.prog Tacg.f6 false true false false) := by
  refine returnsInHanded_of_change_sized (C := Tacg.checked) own started (by kernel_rfl) Tacg.func6
    (ChangeSpec.witness6 (enc := enc) (C := Tacg.checked) false ⟨#[], #[.slice none 0 0], []⟩ 8 (by kernel_rfl) (by kernel_rfl) (by kernel_rfl) (by kernel_rfl)) ?_
  intro W base args ds gs before hval0 hW hcnd hsz0 _
  have hsz : (DataW.weightsEach Tacg.prog (Tacg.f6.params.toList ++ Rows.emptyIsNilSpec.plain.varTypes Tacg.prog) (ds ++ gs)).all (· ≤ reachBytes) = true := hsz0
  have hval : ∀ (j : Nat) t v, Tacg.f6.params[j]? = some t → args[j]? = some v → Value.okWide Tacg.prog W .any base t v := hval0
  have hW' := hW
  obtain ⟨p, q, hA0, hV, rfl, hfz, hnd⟩ := hW
  have hA : DataW.TrodAll enc Tacg.prog W 0 (fun _ => true) true Tacg.f6.params.toList args.toList ds p := hA0
  rw [Tacg.params6] at hA hval hsz
  obtain ⟨v0, vs0, d0, ds0, p0, q0, hargs, rfl, rfl, h0, r0⟩ := trodAll_cons hA
  obtain ⟨rfl, rfl, rfl⟩ := trodAll_nil r0
  obtain rfl : args = #[v0] := by cases args; simp_all
  obtain ⟨rfl, rfl⟩ := trodVars_none hV
  obtain ⟨a0, len0, cap0, rfl⟩ := okWide_slice Tacg.underlying22 (hval 0 22 v0 rfl rfl)
  have k0 := h0
  have lt0 : ∀ x ∈ p0, x.block < W.heap.size := by obtain ⟨m, hm⟩ := k0; exact DataW.trod_lt m _ _ _ hm
  obtain ⟨z0, w0, hz0⟩ : ∃ zs, IsRow .u8 W a0 len0 cap0 zs ∧ cap0 ≤ 140737488355328 := by
    obtain ⟨fuel, hf⟩ := h0
    rcases open_ints Tacg.underlying22 Tacg.underlying5 (by kernel_rfl) hf with ⟨hcs, _⟩ | ⟨x, l, c, zs, hcs, _, hl, hm, hz, hd, hcell, hwz⟩
    · simp [Value.cells] at hcs
      obtain ⟨rfl, rfl, rfl⟩ := hcs
      exact ⟨[], .inl ⟨rfl, rfl, rfl, rfl⟩, by omega⟩
    · simp [Value.cells] at hcs
      obtain ⟨rfl, rfl, rfl⟩ := hcs
      have hlen : zs.length = cap0 := by simpa using hz
      have hd0 : d0 = .slice (lits .u8 (zs.take len0)) (lits .u8 (zs.drop len0)) := congrArg Prod.fst hd
      subst hd0
      have hs := sized_slice hsz (j := 0) (t := 22) (e := 5) rfl rfl Tacg.underlying22
      have hb : Tacg.prog.bytesOf 5 = 1 := by kernel_rfl
      have hr := reachBytes_lt
      rw [hb] at hs
      simp [lits] at hs
      exact ⟨zs, .inr ⟨_, rfl, hl, hm, hlen, hcell, hwz⟩, by omega⟩
  clear hA0 hval0
  refine (walk a0 len0 cap0 z0 W w0 hz0).mono fun e W' ⟨he, bel⟩ => ?_
  subst he
  exact ⟨_, rfl, _, _, _, [], _, [], hW', trodAll_mk1 (shut_bool Tacg.underlying4 _), (trodAll_cons_mk (Below.trod laidOut (by kernel_rfl) (of_decide_eq_true (by kernel_rfl)) k0 bel lt0) trodAll_mk0), rfl, bel.frame _, fun h => by cases h⟩

theorem over : Rows.emptyIsNilRow.holds Tacg.pinned (OpenSpec.ofChange Rows.emptyIsNilSpec) :=
  OpenClaim.holds_of_wide 6 Tacg.f6 rfl rfl rfl rfl rfl rfl rfl ⟨rfl, rfl, rfl, rfl, rfl⟩ rfl rfl rfl rfl rfl (by kernel_rfl) Tacg.func6 (by kernel_rfl)
    (of_decide_eq_true (by kernel_rfl)) (by unfold Func.isWrapper; first | (rw [if_pos (by decide +kernel)]; kernel_rfl) | (rw [if_neg (by decide +kernel)]; exact ⟨rfl, rfl⟩))
    (fun os started H enc _ => lifted os started H enc)

/-- ████ THE STATEMENT ████ -/
theorem proved : Rows.EmptyIsNilSaid := over
#print axioms proved
end Go.Proofs.Ygctac.emptyIsNil
