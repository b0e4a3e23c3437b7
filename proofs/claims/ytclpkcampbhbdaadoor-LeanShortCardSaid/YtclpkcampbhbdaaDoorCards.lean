/-
  DERIVED. GIVEN WITH THE SEED: THE CARDS: each row of YtclpkcampbhbdaaDoorRows.lean that lists a variable, with what it lists TIED to the program's text (the seventh form; the later family's looks); each row that meets fmt, with fmt's text TOLD by the authors' own Lean function (tested against real Go, not proved from fmt's source: count such statements apart). THE CARD IS WHAT COUNTS. Prove the row's statement (the work); the ties are given (YtclpkcampbhbdaaDoorTie.lean); close each card by the builder's one call (the guide's Derived/Test/ToyasCard.lean, 'card_holds'). Laid BY PROGRAM, IN A SANDBOX (cutbox-door.mjs). By AI agents, Wed Nov 11 2026. No macro, syntax, notation, axiom, sorry.
-/
import Derived.Test.YtclpkcampbhbdaaDoorRows
import GoSem.ClaimSeven
namespace Go.Proofs.YtclpkcampbhbdaaDoor
namespace Rows

/-- THE TIED CARD OF 'shoallaw20.OrderSays'. -/
def orderSaysCard : Claim7 := { stood := { row := orderSaysRow, standIns := [], harness := (true, "4ed41d02c22ffe6b8bfde97640b17a145927e504f1e82f59878186122b407eeb"), looks := true }, kinds := [], alts := [], laidByText := true, laidKinds := [.data], laidTests := true, laidLooks := .later }
def OrderSaysCardSaid : Prop := Claim7.holds Tryd.pinned (.plain (OpenSpec.ofChange orderSaysSpec)) orderSaysCard

/-- THE TIED CARD OF 'shoallaw19.LeanShort'. -/
def leanShortCard : Claim7 := { stood := { row := leanShortRow, standIns := [], harness := (true, "4ed41d02c22ffe6b8bfde97640b17a145927e504f1e82f59878186122b407eeb"), looks := true }, kinds := [], alts := [], laidByText := true, laidKinds := [.data], laidTests := true, laidLooks := .later }
def LeanShortCardSaid : Prop := Claim7.holds Tryd.pinned (.plain (OpenSpec.ofChange leanShortSpec)) leanShortCard

/-- THE TIED CARD OF 'shoallaw19.LeanKnown'. -/
def leanKnownCard : Claim7 := { stood := { row := leanKnownRow, standIns := [], harness := (true, "4ed41d02c22ffe6b8bfde97640b17a145927e504f1e82f59878186122b407eeb"), looks := true }, kinds := [], alts := [], laidByText := true, laidKinds := [.data], laidTests := true, laidLooks := .later }
def LeanKnownCardSaid : Prop := Claim7.holds Tryd.pinned (.plain (OpenSpec.ofChange leanKnownSpec)) leanKnownCard

/-- THE TIED CARD OF 'shoallaw19.LeanOrder'. -/
def leanOrderCard : Claim7 := { stood := { row := leanOrderRow, standIns := [], harness := (true, "4ed41d02c22ffe6b8bfde97640b17a145927e504f1e82f59878186122b407eeb"), looks := true }, kinds := [], alts := [], laidByText := true, laidKinds := [.data], laidTests := true, laidLooks := .later }
def LeanOrderCardSaid : Prop := Claim7.holds Tryd.pinned (.plain (OpenSpec.ofChange leanOrderSpec)) leanOrderCard

/-- THE TIED CARD OF 'shoallaw19.LeanLogs'. -/
def leanLogsCard : Claim7 := { stood := { row := leanLogsRow, standIns := [], harness := (true, "4ed41d02c22ffe6b8bfde97640b17a145927e504f1e82f59878186122b407eeb"), looks := true }, kinds := [], alts := [], laidByText := true, laidKinds := [.data], laidTests := true, laidLooks := .later }
def LeanLogsCardSaid : Prop := Claim7.holds Tryd.pinned (.plain (OpenSpec.ofChange leanLogsSpec)) leanLogsCard

/-- THE SECOND FORM's CARD OF 'shoallaw20.OrderSays'. -/
def orderSaysUptoCard : Claim7 := { stood := { row := orderSaysUptoRow, standIns := [], harness := (true, "4ed41d02c22ffe6b8bfde97640b17a145927e504f1e82f59878186122b407eeb"), looks := true }, kinds := [], alts := [], laidByText := true, laidKinds := [.data], laidTests := true, laidLooks := .later }
def OrderSaysUptoCardSaid : Prop := Claim7.holds Tryd.pinned (.plain (OpenSpec.upto orderSaysSpec)) orderSaysUptoCard

/-- THE SECOND FORM's CARD OF 'shoallaw19.LeanShort'. -/
def leanShortUptoCard : Claim7 := { stood := { row := leanShortUptoRow, standIns := [], harness := (true, "4ed41d02c22ffe6b8bfde97640b17a145927e504f1e82f59878186122b407eeb"), looks := true }, kinds := [], alts := [], laidByText := true, laidKinds := [.data], laidTests := true, laidLooks := .later }
def LeanShortUptoCardSaid : Prop := Claim7.holds Tryd.pinned (.plain (OpenSpec.upto leanShortSpec)) leanShortUptoCard

/-- THE SECOND FORM's CARD OF 'shoallaw19.LeanKnown'. -/
def leanKnownUptoCard : Claim7 := { stood := { row := leanKnownUptoRow, standIns := [], harness := (true, "4ed41d02c22ffe6b8bfde97640b17a145927e504f1e82f59878186122b407eeb"), looks := true }, kinds := [], alts := [], laidByText := true, laidKinds := [.data], laidTests := true, laidLooks := .later }
def LeanKnownUptoCardSaid : Prop := Claim7.holds Tryd.pinned (.plain (OpenSpec.upto leanKnownSpec)) leanKnownUptoCard

/-- THE SECOND FORM's CARD OF 'shoallaw19.LeanOrder'. -/
def leanOrderUptoCard : Claim7 := { stood := { row := leanOrderUptoRow, standIns := [], harness := (true, "4ed41d02c22ffe6b8bfde97640b17a145927e504f1e82f59878186122b407eeb"), looks := true }, kinds := [], alts := [], laidByText := true, laidKinds := [.data], laidTests := true, laidLooks := .later }
def LeanOrderUptoCardSaid : Prop := Claim7.holds Tryd.pinned (.plain (OpenSpec.upto leanOrderSpec)) leanOrderUptoCard

/-- THE SECOND FORM's CARD OF 'shoallaw19.LeanLogs'. -/
def leanLogsUptoCard : Claim7 := { stood := { row := leanLogsUptoRow, standIns := [], harness := (true, "4ed41d02c22ffe6b8bfde97640b17a145927e504f1e82f59878186122b407eeb"), looks := true }, kinds := [], alts := [], laidByText := true, laidKinds := [.data], laidTests := true, laidLooks := .later }
def LeanLogsUptoCardSaid : Prop := Claim7.holds Tryd.pinned (.plain (OpenSpec.upto leanLogsSpec)) leanLogsUptoCard
end Rows
end Go.Proofs.YtclpkcampbhbdaaDoor
