/-
  No cell of these rows narrows 'for every input' (looked for: loops, veiled, ifaces, maps, wideKeys, modest, calm, conditions, laid).
  DERIVED. THE GIVEN ROWS OF THIS SEAT. 10 by the template 'for every input the law returns true; each argument reads behind the call as it read before'; 0 by the template 'total and deterministic' (their statements: YgctacTotals.lean).
  GIVEN WITH THE SEED: the statements are not yours to turn. If you find one false, say at which input.
  Laid BY PROGRAM, IN A SANDBOX (cutbox-rows.mjs): the forced cells as the released guide's own fill.sh prints them over the translation 93f6d6e2e325b5b5… (all of the seat's roots in one cut). By AI agents, Wed Nov 11 2026. No macro, syntax, notation, axiom, sorry.
-/
import Derived.Test.YgctacChecked
import GoSem.Claim
import GoSem.ClaimJoined
import GoSem.ClaimMapViews
import Derived.JoinedTies
import Derived.KernelRfl
namespace Go.Proofs.Ygctac
/- THE CELL 'sum', in the pinned program and in every row, IS THE sha256 OF THE DUMP (.gsa) THAT YgctacProg.lean LOADS. Nothing in Lean hashes anything: it is a label: what it is worth is what the hold of that sum in a sandbox is worth. -/
noncomputable def Tacg.pinned : Pinned := { name := "ygctac", sum := "93f6d6e2e325b5b5e2979bf0933b6b5a96dfe87946bbd035798a64720cb02dd0", checked := Tacg.checked }
namespace Rows
def none {H : Type} : Left H := { results := [], args := [] }

/-- 'law.KaratsubaCut': WHATEVER THE INPUT: true; the input reads as it did. -/
def karatsubaCutSpec : ChangeSpec := { name := "karatsubaCut", fn := fun _ => fun
  | [d1, d2, d3, d4] => { results := [.lit (.bool true)], args := [d1, d2, d3, d4] }
  | _ => none }
def karatsubaCutRow : OpenClaim := { program := "ygctac", sum := "93f6d6e2e325b5b5e2979bf0933b6b5a96dfe87946bbd035798a64720cb02dd0", func := "fftlab/law.KaratsubaCut", spec := "karatsubaCut", recurses := true, apart := false }
def KaratsubaCutSaid : Prop := karatsubaCutRow.holds Tacg.pinned (OpenSpec.ofChange karatsubaCutSpec)

/-- ITS FALSE NEIGHBOUR: 'it returns false'. Refute it at one input. -/
def karatsubaCutWrong : ChangeSpec := { name := "karatsubaCut", fn := fun _ => fun
  | [d1, d2, d3, d4] => { results := [.lit (.bool false)], args := [d1, d2, d3, d4] }
  | _ => none }
def KaratsubaCutWrongFalsely : Prop := karatsubaCutRow.holds Tacg.pinned (OpenSpec.ofChange karatsubaCutWrong)

/-- 'law.StepKeeps': WHATEVER THE INPUT: true; the input reads as it did. -/
def stepKeepsSpec : ChangeSpec := { name := "stepKeeps", fn := fun _ => fun
  | [d1, d2, d3] => { results := [.lit (.bool true)], args := [d1, d2, d3] }
  | _ => none }
def stepKeepsRow : OpenClaim := { program := "ygctac", sum := "93f6d6e2e325b5b5e2979bf0933b6b5a96dfe87946bbd035798a64720cb02dd0", func := "fftlab/law.StepKeeps", spec := "stepKeeps", recurses := true, apart := false }
def StepKeepsSaid : Prop := stepKeepsRow.holds Tacg.pinned (OpenSpec.ofChange stepKeepsSpec)

/-- ITS FALSE NEIGHBOUR: 'it returns false'. Refute it at one input. -/
def stepKeepsWrong : ChangeSpec := { name := "stepKeeps", fn := fun _ => fun
  | [d1, d2, d3] => { results := [.lit (.bool false)], args := [d1, d2, d3] }
  | _ => none }
def StepKeepsWrongFalsely : Prop := stepKeepsRow.holds Tacg.pinned (OpenSpec.ofChange stepKeepsWrong)

/-- 'law.ChecksBite': WHATEVER THE INPUT: true; the input reads as it did. -/
def checksBiteSpec : ChangeSpec := { name := "checksBite", fn := fun _ => fun
  | [d1, d2, d3] => { results := [.lit (.bool true)], args := [d1, d2, d3] }
  | _ => none }
def checksBiteRow : OpenClaim := { program := "ygctac", sum := "93f6d6e2e325b5b5e2979bf0933b6b5a96dfe87946bbd035798a64720cb02dd0", func := "fftlab/law.ChecksBite", spec := "checksBite", inPlace := ["math.Float64frombits", "math.Float64bits", "math/bits.Sub64", "math/bits.Add64"], recurses := true, apart := false }
def ChecksBiteSaid : Prop := checksBiteRow.holds Tacg.pinned (OpenSpec.ofChange checksBiteSpec)

/-- ITS FALSE NEIGHBOUR: 'it returns false'. Refute it at one input. -/
def checksBiteWrong : ChangeSpec := { name := "checksBite", fn := fun _ => fun
  | [d1, d2, d3] => { results := [.lit (.bool false)], args := [d1, d2, d3] }
  | _ => none }
def ChecksBiteWrongFalsely : Prop := checksBiteRow.holds Tacg.pinned (OpenSpec.ofChange checksBiteWrong)

/-- 'law.EmptyIsNil': WHATEVER THE INPUT: true; the input reads as it did. -/
def emptyIsNilSpec : ChangeSpec := { name := "emptyIsNil", fn := fun _ => fun
  | [d] => { results := [.lit (.bool true)], args := [d] }
  | _ => none }
def emptyIsNilRow : OpenClaim := { program := "ygctac", sum := "93f6d6e2e325b5b5e2979bf0933b6b5a96dfe87946bbd035798a64720cb02dd0", func := "fftlab/law.EmptyIsNil", spec := "emptyIsNil", recurses := true, apart := false }
def EmptyIsNilSaid : Prop := emptyIsNilRow.holds Tacg.pinned (OpenSpec.ofChange emptyIsNilSpec)

/-- ITS FALSE NEIGHBOUR: 'it returns false'. Refute it at one input. -/
def emptyIsNilWrong : ChangeSpec := { name := "emptyIsNil", fn := fun _ => fun
  | [d] => { results := [.lit (.bool false)], args := [d] }
  | _ => none }
def EmptyIsNilWrongFalsely : Prop := emptyIsNilRow.holds Tacg.pinned (OpenSpec.ofChange emptyIsNilWrong)

/-- 'law.Copies': WHATEVER THE INPUT: true; the input reads as it did. -/
def copiesSpec : ChangeSpec := { name := "copies", fn := fun _ => fun
  | [d1, d2, d3] => { results := [.lit (.bool true)], args := [d1, d2, d3] }
  | _ => none }
def copiesRow : OpenClaim := { program := "ygctac", sum := "93f6d6e2e325b5b5e2979bf0933b6b5a96dfe87946bbd035798a64720cb02dd0", func := "fftlab/law.Copies", spec := "copies", inPlace := ["math.Float64bits"], recurses := true, apart := false }
def CopiesSaid : Prop := copiesRow.holds Tacg.pinned (OpenSpec.ofChange copiesSpec)

/-- ITS FALSE NEIGHBOUR: 'it returns false'. Refute it at one input. -/
def copiesWrong : ChangeSpec := { name := "copies", fn := fun _ => fun
  | [d1, d2, d3] => { results := [.lit (.bool false)], args := [d1, d2, d3] }
  | _ => none }
def CopiesWrongFalsely : Prop := copiesRow.holds Tacg.pinned (OpenSpec.ofChange copiesWrong)

/-- 'law.NoChange': WHATEVER THE INPUT: true; the input reads as it did. -/
def noChangeSpec : ChangeSpec := { name := "noChange", fn := fun _ => fun
  | [d1, d2, d3, d4] => { results := [.lit (.bool true)], args := [d1, d2, d3, d4] }
  | _ => none }
def noChangeRow : OpenClaim := { program := "ygctac", sum := "93f6d6e2e325b5b5e2979bf0933b6b5a96dfe87946bbd035798a64720cb02dd0", func := "fftlab/law.NoChange", spec := "noChange", inPlace := ["math.Float64frombits", "math.Float64bits", "math/bits.Sub64", "math/bits.Add64"], apart := false }
def NoChangeSaid : Prop := noChangeRow.holds Tacg.pinned (OpenSpec.ofChange noChangeSpec)

/-- ITS FALSE NEIGHBOUR: 'it returns false'. Refute it at one input. -/
def noChangeWrong : ChangeSpec := { name := "noChange", fn := fun _ => fun
  | [d1, d2, d3, d4] => { results := [.lit (.bool false)], args := [d1, d2, d3, d4] }
  | _ => none }
def NoChangeWrongFalsely : Prop := noChangeRow.holds Tacg.pinned (OpenSpec.ofChange noChangeWrong)

/-- 'law.DDAddNear': WHATEVER THE INPUT: true; the input reads as it did. -/
def dDAddNearSpec : ChangeSpec := { name := "dDAddNear", fn := fun _ => fun
  | [d1, d2, d3, d4] => { results := [.lit (.bool true)], args := [d1, d2, d3, d4] }
  | _ => none }
def dDAddNearRow : OpenClaim := { program := "ygctac", sum := "93f6d6e2e325b5b5e2979bf0933b6b5a96dfe87946bbd035798a64720cb02dd0", func := "fftlab/law.DDAddNear", spec := "dDAddNear", inPlace := ["math.Float64frombits", "math.Float64bits", "math/bits.Sub64", "math/bits.Add64"], apart := false }
def DDAddNearSaid : Prop := dDAddNearRow.holds Tacg.pinned (OpenSpec.ofChange dDAddNearSpec)

/-- ITS FALSE NEIGHBOUR: 'it returns false'. Refute it at one input. -/
def dDAddNearWrong : ChangeSpec := { name := "dDAddNear", fn := fun _ => fun
  | [d1, d2, d3, d4] => { results := [.lit (.bool false)], args := [d1, d2, d3, d4] }
  | _ => none }
def DDAddNearWrongFalsely : Prop := dDAddNearRow.holds Tacg.pinned (OpenSpec.ofChange dDAddNearWrong)

/-- 'law.DDMulNear': WHATEVER THE INPUT: true; the input reads as it did. -/
def dDMulNearSpec : ChangeSpec := { name := "dDMulNear", fn := fun _ => fun
  | [d1, d2, d3, d4] => { results := [.lit (.bool true)], args := [d1, d2, d3, d4] }
  | _ => none }
def dDMulNearRow : OpenClaim := { program := "ygctac", sum := "93f6d6e2e325b5b5e2979bf0933b6b5a96dfe87946bbd035798a64720cb02dd0", func := "fftlab/law.DDMulNear", spec := "dDMulNear", inPlace := ["math.Float64frombits", "math.Float64bits", "math/bits.Sub64", "math/bits.Add64"], apart := false }
def DDMulNearSaid : Prop := dDMulNearRow.holds Tacg.pinned (OpenSpec.ofChange dDMulNearSpec)

/-- ITS FALSE NEIGHBOUR: 'it returns false'. Refute it at one input. -/
def dDMulNearWrong : ChangeSpec := { name := "dDMulNear", fn := fun _ => fun
  | [d1, d2, d3, d4] => { results := [.lit (.bool false)], args := [d1, d2, d3, d4] }
  | _ => none }
def DDMulNearWrongFalsely : Prop := dDMulNearRow.holds Tacg.pinned (OpenSpec.ofChange dDMulNearWrong)

/-- 'law.DDDivNear': WHATEVER THE INPUT: true; the input reads as it did. -/
def dDDivNearSpec : ChangeSpec := { name := "dDDivNear", fn := fun _ => fun
  | [d1, d2, d3, d4] => { results := [.lit (.bool true)], args := [d1, d2, d3, d4] }
  | _ => none }
def dDDivNearRow : OpenClaim := { program := "ygctac", sum := "93f6d6e2e325b5b5e2979bf0933b6b5a96dfe87946bbd035798a64720cb02dd0", func := "fftlab/law.DDDivNear", spec := "dDDivNear", inPlace := ["math.Float64frombits", "math.Float64bits", "math/bits.Sub64", "math/bits.Add64"], apart := false }
def DDDivNearSaid : Prop := dDDivNearRow.holds Tacg.pinned (OpenSpec.ofChange dDDivNearSpec)

/-- ITS FALSE NEIGHBOUR: 'it returns false'. Refute it at one input. -/
def dDDivNearWrong : ChangeSpec := { name := "dDDivNear", fn := fun _ => fun
  | [d1, d2, d3, d4] => { results := [.lit (.bool false)], args := [d1, d2, d3, d4] }
  | _ => none }
def DDDivNearWrongFalsely : Prop := dDDivNearRow.holds Tacg.pinned (OpenSpec.ofChange dDDivNearWrong)

/-- 'law.DDNormal': WHATEVER THE INPUT: true; the input reads as it did. -/
def dDNormalSpec : ChangeSpec := { name := "dDNormal", fn := fun _ => fun
  | [d1, d2] => { results := [.lit (.bool true)], args := [d1, d2] }
  | _ => none }
def dDNormalRow : OpenClaim := { program := "ygctac", sum := "93f6d6e2e325b5b5e2979bf0933b6b5a96dfe87946bbd035798a64720cb02dd0", func := "fftlab/law.DDNormal", spec := "dDNormal", inPlace := ["math.Float64frombits", "math.Float64bits", "math/bits.Sub64", "math/bits.Add64"], apart := false }
def DDNormalSaid : Prop := dDNormalRow.holds Tacg.pinned (OpenSpec.ofChange dDNormalSpec)

/-- ITS FALSE NEIGHBOUR: 'it returns false'. Refute it at one input. -/
def dDNormalWrong : ChangeSpec := { name := "dDNormal", fn := fun _ => fun
  | [d1, d2] => { results := [.lit (.bool false)], args := [d1, d2] }
  | _ => none }
def DDNormalWrongFalsely : Prop := dDNormalRow.holds Tacg.pinned (OpenSpec.ofChange dDNormalWrong)

end Rows
end Go.Proofs.Ygctac
