/-
  DERIVED. GIVEN WITH THE SEED: THE CARDS: each row of YtdkegbcnlgghgaaDoorRows.lean that lists a variable, with what it lists TIED to the program's text (the seventh form; the later family's looks); each row that meets fmt, with fmt's text TOLD by the authors' own Lean function (tested against real Go, not proved from fmt's source: count such statements apart). THE CARD IS WHAT COUNTS. Prove the row's statement (the work); the ties are given (YtdkegbcnlgghgaaDoorTie.lean); close each card by the builder's one call (the guide's Derived/Test/ToyasCard.lean, 'card_holds'). Laid BY PROGRAM, IN A SANDBOX (cutbox-door.mjs). By AI agents, Wed Nov 11 2026. No macro, syntax, notation, axiom, sorry.
-/
import Derived.Test.YtdkegbcnlgghgaaDoorRows
import GoSem.ClaimSeven
namespace Go.Proofs.YtdkegbcnlgghgaaDoor
namespace Rows

/-- THE TIED CARD OF 'shoallaw22.FanPlays'. -/
def fanPlaysCard : Claim7 := { stood := { row := fanPlaysRow, standIns := [], harness := (true, "80b6fd1f81767db5b4c56926af94b3c7fd586115e51e1bbb1adf109d1cb10522"), looks := false }, kinds := [], alts := [], laidByText := true, laidKinds := [.data], laidTests := true, laidLooks := .later }
def FanPlaysCardSaid : Prop := Claim7.holds Tryd.pinned (.plain (OpenSpec.ofChange fanPlaysSpec)) fanPlaysCard

/-- THE TIED CARD OF 'shoallaw22.FanNone'. -/
def fanNoneCard : Claim7 := { stood := { row := fanNoneRow, standIns := [], harness := (true, "80b6fd1f81767db5b4c56926af94b3c7fd586115e51e1bbb1adf109d1cb10522"), looks := false }, kinds := [], alts := [], laidByText := true, laidKinds := [.data], laidTests := true, laidLooks := .later }
def FanNoneCardSaid : Prop := Claim7.holds Tryd.pinned (.plain (OpenSpec.ofChange fanNoneSpec)) fanNoneCard

/-- THE TIED CARD OF 'shoallaw22.FanKnown'. -/
def fanKnownCard : Claim7 := { stood := { row := fanKnownRow, standIns := [], harness := (true, "80b6fd1f81767db5b4c56926af94b3c7fd586115e51e1bbb1adf109d1cb10522"), looks := false }, kinds := [], alts := [], laidByText := true, laidKinds := [.data], laidTests := true, laidLooks := .later }
def FanKnownCardSaid : Prop := Claim7.holds Tryd.pinned (.plain (OpenSpec.ofChange fanKnownSpec)) fanKnownCard

/-- THE SECOND FORM's CARD OF 'shoallaw22.FanPlays'. -/
def fanPlaysUptoCard : Claim7 := { stood := { row := fanPlaysUptoRow, standIns := [], harness := (true, "80b6fd1f81767db5b4c56926af94b3c7fd586115e51e1bbb1adf109d1cb10522"), looks := false }, kinds := [], alts := [], laidByText := true, laidKinds := [.data], laidTests := true, laidLooks := .later }
def FanPlaysUptoCardSaid : Prop := Claim7.holds Tryd.pinned (.plain (OpenSpec.upto fanPlaysSpec)) fanPlaysUptoCard

/-- THE SECOND FORM's CARD OF 'shoallaw22.FanNone'. -/
def fanNoneUptoCard : Claim7 := { stood := { row := fanNoneUptoRow, standIns := [], harness := (true, "80b6fd1f81767db5b4c56926af94b3c7fd586115e51e1bbb1adf109d1cb10522"), looks := false }, kinds := [], alts := [], laidByText := true, laidKinds := [.data], laidTests := true, laidLooks := .later }
def FanNoneUptoCardSaid : Prop := Claim7.holds Tryd.pinned (.plain (OpenSpec.upto fanNoneSpec)) fanNoneUptoCard

/-- THE SECOND FORM's CARD OF 'shoallaw22.FanKnown'. -/
def fanKnownUptoCard : Claim7 := { stood := { row := fanKnownUptoRow, standIns := [], harness := (true, "80b6fd1f81767db5b4c56926af94b3c7fd586115e51e1bbb1adf109d1cb10522"), looks := false }, kinds := [], alts := [], laidByText := true, laidKinds := [.data], laidTests := true, laidLooks := .later }
def FanKnownUptoCardSaid : Prop := Claim7.holds Tryd.pinned (.plain (OpenSpec.upto fanKnownSpec)) fanKnownUptoCard
end Rows
end Go.Proofs.YtdkegbcnlgghgaaDoor
