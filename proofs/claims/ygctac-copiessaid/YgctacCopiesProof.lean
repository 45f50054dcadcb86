/-
  THE PROOF OF 'Rows.CopiesSaid' ('fftlab/law.Copies'), after the guide's shell for that function.
  The walk's hole is filled by YgctacCopies.lean; the input's size by the form's reach.
-/
import Derived.Test.YgctacRows
import Derived.Test.YgctacCopies
import Derived.SizedLaws
import Derived.WalkKit
import Derived.ProofKit
import Derived.OpenShut
import Derived.ShutString
import Derived.ChangeOld
import Derived.Below
namespace Go.Proofs.Ygctac.copies
open Go.ChangeShapes Go.WideShapes Go.ChangeAt Go.RowKit
open Go.ChangeMaps (open_string shut_string)
set_option linter.unusedVariables false

theorem own : ownKnob Tacg.prog.godebug = none := by kernel_rfl
theorem laidOut : laidOutB Tacg.prog = true := by kernel_rfl

/-- WHAT THE WALK IS TOLD OF A SLICE OF INTEGERS THAT CAME IN: it is nil; or it leads to a row of 'cap' cells, the numbers 'zs' (the first 'len' are its elements, the rest its spare room), each fitting its kind. -/
def IsRow (k : IntKind) (w : World) (a : Option Addr) (len cap : Nat) (zs : List Int) : Prop :=
  (a = none ∧ len = 0 ∧ cap = 0 ∧ zs = []) ∨
  ∃ x, a = some x ∧ len ≤ cap ∧ cap ≤ maxLen ∧ zs.length = cap ∧ (∀ i, i < zs.length → w.cell? (x.add i) = some (.int k (zs.getD i 0))) ∧ ∀ n ∈ zs, (Lit.int k n).wf = true

/-! ### STEP 1: THE WALK: the Go text returns true, and writes nothing that was there. -/
theorem walk (a0 : Option Addr) (len0 cap0 : Nat) (z0 : List Int) (a1 : Int) (a2 : Int) (w : World) (w0 : IsRow .u8 w a0 len0 cap0 z0) (hz : cap0 ≤ 140737488355328) (w1 : (Lit.int .u8 a1).wf = true) (w2 : (Lit.int .u16 a2).wf = true) :
    Calls Tacg.prog 7 #[.slice a0 len0 cap0, .int .u8 a1, .int .u16 a2] w fun e w' => e = .returned (.bool true) ∧ Below w.heap.size w w' := by
  simp only [Lit.wf, Bool.and_eq_true, decide_eq_true_eq] at w1 w2
  have e1 : IntKind.u8.min = 0 := rfl
  have e2 : IntKind.u8.max = 255 := rfl
  have e3 : IntKind.u16.min = 0 := rfl
  have e4 : IntKind.u16.max = 65535 := rfl
  obtain ⟨k, rfl⟩ := Int.eq_ofNat_of_zero_le (show 0 ≤ a1 by omega)
  obtain ⟨i, rfl⟩ := Int.eq_ofNat_of_zero_le (show 0 ≤ a2 by omega)
  have hd : len0 ≤ 140737488355328 ∧ ∃ f : Nat → Int, (∀ i, i < len0 → 0 ≤ f i ∧ f i < 256) ∧ Dig w (.slice a0 len0 cap0) len0 f := by
    rcases w0 with ⟨rfl, rfl, rfl, rfl⟩ | ⟨x, rfl, h1, h2, h3, h4, h5⟩
    · exact ⟨by omega, fun _ => 0, fun i hi => absurd hi (by omega), .inl ⟨⟨none, rfl⟩, rfl⟩⟩
    · rcases Nat.eq_zero_or_pos cap0 with rfl | hp
      · obtain rfl : len0 = 0 := by omega
        exact ⟨by omega, fun _ => 0, fun i hi => absurd hi (by omega), .inl ⟨⟨some x, rfl⟩, rfl⟩⟩
      · have hx := h4 0 (by omega)
        have hs : x.spot = none := by
          have h := hx
          rw [show x.add 0 = x from rfl, World.cell?] at h
          cases hb : x.spot with
          | none => rfl
          | some q =>
            rw [hb] at h
            split at h
            · simp at h
            · cases h
        obtain ⟨b, o, sp⟩ := x
        obtain rfl : sp = none := hs
        refine ⟨by omega, fun i => z0.getD i 0, fun i hi => ?_, .inr ⟨b, o, cap0, rfl, h1, fun i hi => ?_⟩⟩
        · have hm : z0.getD i 0 ∈ z0 := by
            have hl : i < z0.length := by omega
            simp [List.getD, hl]
          have := h5 _ hm
          simp only [Lit.wf, Bool.and_eq_true, decide_eq_true_eq] at this
          show 0 ≤ z0.getD i 0 ∧ z0.getD i 0 < 256
          omega
        · have := h4 i (by omega)
          rwa [add_none] at this
  obtain ⟨hn, f, hf, hD⟩ := hd
  exact copies_any hn hf k (by omega) i (by omega) w hD

/-! ### THE ROW's STEP: WRITTEN OUT: LEAVE IT -/
set_option maxRecDepth 100000 in
theorem lifted (os : Os) (started : os.Started) (H : Type) (enc : TypeId × Value → H) :
    ReturnsInHanded {} Tacg.checked os 7 .any (Rows.copiesSpec.pre6 enc Tacg.prog Tacg.f7 Rows.copiesRow.domain false) (Rows.copiesSpec.post enc Tacg.prog Tacg.f7 false true false false) := by
  refine returnsInHanded_of_change_sized (C := Tacg.checked) own started (by kernel_rfl) Tacg.func7
    (ChangeSpec.witness6 (enc := enc) (C := Tacg.checked) false ⟨#[], #[.slice none 0 0, .int .u8 0, .int .u16 0], []⟩ 8 (by kernel_rfl) (by kernel_rfl) (by kernel_rfl) (by kernel_rfl)) ?_
  intro W base args ds gs before hval0 hW hcnd hsz0 _
  have hsz : (DataW.weightsEach Tacg.prog (Tacg.f7.params.toList ++ Rows.copiesSpec.plain.varTypes Tacg.prog) (ds ++ gs)).all (· ≤ reachBytes) = true := hsz0
  have hval : ∀ (j : Nat) t v, Tacg.f7.params[j]? = some t → args[j]? = some v → Value.okWide Tacg.prog W .any base t v := hval0
  have hW' := hW
  obtain ⟨p, q, hA0, hV, rfl, hfz, hnd⟩ := hW
  have hA : DataW.TrodAll enc Tacg.prog W 0 (fun _ => true) true Tacg.f7.params.toList args.toList ds p := hA0
  rw [Tacg.params7] at hA hval hsz
  obtain ⟨v0, vs0, d0, ds0, p0, q0, hargs, rfl, rfl, h0, r0⟩ := trodAll_cons hA
  obtain ⟨v1, vs1, d1, ds1, p1, q1, rfl, rfl, rfl, h1, r1⟩ := trodAll_cons r0
  obtain ⟨v2, vs2, d2, ds2, p2, q2, rfl, rfl, rfl, h2, r2⟩ := trodAll_cons r1
  obtain ⟨rfl, rfl, rfl⟩ := trodAll_nil r2
  obtain rfl : args = #[v0, v1, v2] := by cases args; simp_all
  obtain ⟨rfl, rfl⟩ := trodVars_none hV
  obtain ⟨a0, len0, cap0, rfl⟩ := okWide_slice Tacg.underlying22 (hval 0 22 v0 rfl rfl)
  have k0 := h0
  have lt0 : ∀ x ∈ p0, x.block < W.heap.size := by obtain ⟨m, hm⟩ := k0; exact DataW.trod_lt m _ _ _ hm
  obtain ⟨z0, w0, hz0⟩ : ∃ zs, IsRow .u8 W a0 len0 cap0 zs ∧ cap0 ≤ 140737488355328 := by
    obtain ⟨fuel, hf⟩ := h0
    rcases open_ints Tacg.underlying22 Tacg.underlying5 (by kernel_rfl) hf with ⟨hcs, _⟩ | ⟨x, l, c, zs, hcs, _, hl, hm, hz, hd, hcell, hwz⟩
    · simp [Value.cells] at hcs
      obtain ⟨rfl, rfl, rfl⟩ := hcs
      exact ⟨[], .inl ⟨rfl, rfl, rfl, rfl⟩, by omega⟩
    · simp [Value.cells] at hcs
      obtain ⟨rfl, rfl, rfl⟩ := hcs
      have hlen : zs.length = cap0 := by simpa using hz
      have hd0 : d0 = .slice (lits .u8 (zs.take len0)) (lits .u8 (zs.drop len0)) := congrArg Prod.fst hd
      subst hd0
      have hs := sized_slice hsz (j := 0) (t := 22) (e := 5) rfl rfl Tacg.underlying22
      have hb : Tacg.prog.bytesOf 5 = 1 := by kernel_rfl
      have hr := reachBytes_lt
      rw [hb] at hs
      simp [lits] at hs
      exact ⟨zs, .inr ⟨_, rfl, hl, hm, hlen, hcell, hwz⟩, by omega⟩
  obtain ⟨a1, rfl, rfl, rfl, w1⟩ := open_int Tacg.underlying5 (hval 1 5 v1 rfl rfl) h1
  obtain ⟨a2, rfl, rfl, rfl, w2⟩ := open_int Tacg.underlying60 (hval 2 60 v2 rfl rfl) h2
  clear hA0 hval0
  refine (walk a0 len0 cap0 z0 a1 a2 W w0 hz0 w1 w2).mono fun e W' ⟨he, bel⟩ => ?_
  subst he
  exact ⟨_, rfl, _, _, _, [], _, [], hW', trodAll_mk1 (shut_bool Tacg.underlying4 _), (trodAll_cons_mk (Below.trod laidOut (by kernel_rfl) (of_decide_eq_true (by kernel_rfl)) k0 bel lt0) (trodAll_cons_mk (shut_int Tacg.underlying5 w1) (trodAll_cons_mk (shut_int Tacg.underlying60 w2) trodAll_mk0))), rfl, bel.frame _, fun h => by cases h⟩

theorem over : Rows.copiesRow.holds Tacg.pinned (OpenSpec.ofChange Rows.copiesSpec) :=
  OpenClaim.holds_of_wide 7 Tacg.f7 rfl rfl rfl rfl rfl rfl rfl ⟨rfl, rfl, rfl, rfl, rfl⟩ rfl rfl rfl rfl rfl (by kernel_rfl) Tacg.func7 (by kernel_rfl)
    (of_decide_eq_true (by kernel_rfl)) (by unfold Func.isWrapper; first | (rw [if_pos (by decide +kernel)]; kernel_rfl) | (rw [if_neg (by decide +kernel)]; exact ⟨rfl, rfl⟩))
    (fun os started H enc _ => lifted os started H enc)

/-- ████ THE STATEMENT ████ -/
theorem proved : Rows.CopiesSaid := over
#print axioms proved
end Go.Proofs.Ygctac.copies
