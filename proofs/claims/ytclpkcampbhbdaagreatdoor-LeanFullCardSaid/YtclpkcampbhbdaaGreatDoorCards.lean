/-
  DERIVED. GIVEN WITH THE SEED: THE CARDS: each row of YtclpkcampbhbdaaGreatDoorRows.lean that lists a variable, with what it lists TIED to the program's text (the seventh form; the later family's looks); each row that meets fmt, with fmt's text TOLD by the authors' own Lean function (tested against real Go, not proved from fmt's source: count such statements apart). THE CARD IS WHAT COUNTS. Prove the row's statement (the work); the ties are given (YtclpkcampbhbdaaGreatDoorTie.lean); close each card by the builder's one call (the guide's Derived/Test/ToyasCard.lean, 'card_holds'). Laid BY PROGRAM, IN A SANDBOX (cutbox-door.mjs). By AI agents, Wed Nov 11 2026. No macro, syntax, notation, axiom, sorry.
-/
import Derived.Test.YtclpkcampbhbdaaGreatDoorRows
import GoSem.ClaimSeven
namespace Go.Proofs.YtclpkcampbhbdaaGreatDoor
namespace Rows

/-- THE TIED CARD OF 'shoallaw19.LeanPlays'. -/
def leanPlaysCard : Claim7 := { stood := { row := leanPlaysRow, standIns := [], harness := (true, "9f76f34b08b4f18c12815e61e5c7ca97c88e28cbc1d440d46ae4d884616a7b03"), looks := false }, kinds := [], alts := [], laidByText := true, laidKinds := [.data], laidTests := true, laidLooks := .later }
def LeanPlaysCardSaid : Prop := Claim7.holds Tryz.pinned (.plain (OpenSpec.ofChange leanPlaysSpec)) leanPlaysCard

/-- THE TIED CARD OF 'shoallaw19.LeanFull'. -/
def leanFullCard : Claim7 := { stood := { row := leanFullRow, standIns := [], harness := (true, "9f76f34b08b4f18c12815e61e5c7ca97c88e28cbc1d440d46ae4d884616a7b03"), looks := false }, kinds := [], alts := [], laidByText := true, laidKinds := [.data], laidTests := true, laidLooks := .later }
def LeanFullCardSaid : Prop := Claim7.holds Tryz.pinned (.plain (OpenSpec.ofChange leanFullSpec)) leanFullCard

/-- THE SECOND FORM's CARD OF 'shoallaw19.LeanPlays'. -/
def leanPlaysUptoCard : Claim7 := { stood := { row := leanPlaysUptoRow, standIns := [], harness := (true, "9f76f34b08b4f18c12815e61e5c7ca97c88e28cbc1d440d46ae4d884616a7b03"), looks := false }, kinds := [], alts := [], laidByText := true, laidKinds := [.data], laidTests := true, laidLooks := .later }
def LeanPlaysUptoCardSaid : Prop := Claim7.holds Tryz.pinned (.plain (OpenSpec.upto leanPlaysSpec)) leanPlaysUptoCard

/-- THE SECOND FORM's CARD OF 'shoallaw19.LeanFull'. -/
def leanFullUptoCard : Claim7 := { stood := { row := leanFullUptoRow, standIns := [], harness := (true, "9f76f34b08b4f18c12815e61e5c7ca97c88e28cbc1d440d46ae4d884616a7b03"), looks := false }, kinds := [], alts := [], laidByText := true, laidKinds := [.data], laidTests := true, laidLooks := .later }
def LeanFullUptoCardSaid : Prop := Claim7.holds Tryz.pinned (.plain (OpenSpec.upto leanFullSpec)) leanFullUptoCard
end Rows
end Go.Proofs.YtclpkcampbhbdaaGreatDoor
