/-
  DERIVED. GIVEN WITH THE SEED: THE CARDS: each row of YtleefjclfljknabGreatDoorRows.lean that lists a variable, with what it lists TIED to the program's text (the seventh form; the later family's looks); each row that meets fmt, with fmt's text TOLD by the authors' own Lean function (tested against real Go, not proved from fmt's source: count such statements apart). THE CARD IS WHAT COUNTS. Prove the row's statement (the work); the ties are given (YtleefjclfljknabGreatDoorTie.lean); close each card by the builder's one call (the guide's Derived/Test/ToyasCard.lean, 'card_holds'). Laid BY PROGRAM, IN A SANDBOX (cutbox-door.mjs). By AI agents, Wed Nov 11 2026. No macro, syntax, notation, axiom, sorry.
-/
import Derived.Test.YtleefjclfljknabGreatDoorRows
import GoSem.ClaimSeven
namespace Go.Proofs.YtleefjclfljknabGreatDoor
namespace Rows

/-- THE TIED CARD OF 'reliquarylaw25.BlsKnown'. -/
def blsKnownCard : Claim7 := { stood := { row := blsKnownRow, standIns := [], harness := (true, "5f7b4ccfa22fa9ea71cb34da08694fe3efe745febdfa17e217581e39da3fd345"), looks := false }, kinds := [], alts := [], laidByText := true, laidKinds := [.data], laidTests := true, laidLooks := .later }
def BlsKnownCardSaid : Prop := Claim7.holds Tryz.pinned (.plain (OpenSpec.ofChange blsKnownSpec)) blsKnownCard

/-- THE SECOND FORM's CARD OF 'reliquarylaw25.BlsKnown'. -/
def blsKnownUptoCard : Claim7 := { stood := { row := blsKnownUptoRow, standIns := [], harness := (true, "5f7b4ccfa22fa9ea71cb34da08694fe3efe745febdfa17e217581e39da3fd345"), looks := false }, kinds := [], alts := [], laidByText := true, laidKinds := [.data], laidTests := true, laidLooks := .later }
def BlsKnownUptoCardSaid : Prop := Claim7.holds Tryz.pinned (.plain (OpenSpec.upto blsKnownSpec)) blsKnownUptoCard
end Rows
end Go.Proofs.YtleefjclfljknabGreatDoor
