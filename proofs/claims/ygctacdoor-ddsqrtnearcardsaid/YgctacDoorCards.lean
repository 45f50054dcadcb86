/-
  DERIVED. GIVEN WITH THE SEED: THE CARDS: each row of YgctacDoorRows.lean that lists a variable, with what it lists TIED to the program's text (the seventh form; the later family's looks); each row that meets fmt, with fmt's text TOLD by the authors' own Lean function (tested against real Go, not proved from fmt's source: count such statements apart). THE CARD IS WHAT COUNTS. Prove the row's statement (the work); the ties are given (YgctacDoorTie.lean); close each card by the builder's one call (the guide's Derived/Test/ToyasCard.lean, 'card_holds'). Laid BY PROGRAM, IN A SANDBOX (cutbox-door.mjs). By AI agents, Wed Nov 11 2026. No macro, syntax, notation, axiom, sorry.
-/
import Derived.Test.YgctacDoorRows
import GoSem.ClaimSeven
namespace Go.Proofs.YgctacDoor
namespace Rows

/-- THE TIED CARD OF 'law.DDSqrtNear'. -/
def dDSqrtNearCard : Claim7 := { stood := { row := dDSqrtNearRow, standIns := [], harness := (true, "8ab4df81b9456f91005809b2c4296a765e5e156b8006b21df6d86c57cfd120d5"), looks := false }, kinds := [], alts := [], laidByText := true, laidKinds := [.data], laidTests := true, laidLooks := .later }
def DDSqrtNearCardSaid : Prop := Claim7.holds Tacg.pinned (.plain (OpenSpec.ofChange dDSqrtNearSpec)) dDSqrtNearCard
end Rows
end Go.Proofs.YgctacDoor
