/-
  NARROWER THAN 'FOR EVERY INPUT', by the rows' own cells (each row's printed sentence says how): OrderSays: laid · LeanShort: laid · LeanKnown: laid · LeanOrder: laid · LeanLogs: laid.
  DERIVED. THE GIVEN ROWS OF THIS SEAT. 5 by the template 'for every input the law returns true; each argument reads behind the call as it read before'; 0 by the template 'total and deterministic' (their statements: YtclpkcampbhbdaaDoorTotals.lean).
  GIVEN WITH THE SEED: the statements are not yours to turn. If you find one false, say at which input.
  Laid BY PROGRAM, IN A SANDBOX (cutbox-rows.mjs): the forced cells as the released guide's own fill.sh prints them over the translation 370a58ffab2d9770… (all of the seat's roots in one cut). By AI agents, Wed Nov 11 2026. No macro, syntax, notation, axiom, sorry.
-/
import Derived.Test.YtclpkcampbhbdaaDoorChecked
import GoSem.Claim
import GoSem.ClaimJoined
import GoSem.ClaimMapViews
import Derived.JoinedTies
import Derived.KernelRfl
namespace Go.Proofs.YtclpkcampbhbdaaDoor
/- THE CELL 'sum', in the pinned program and in every row, IS THE sha256 OF THE DUMP (.gsa) THAT YtclpkcampbhbdaaDoorProg.lean LOADS. Nothing in Lean hashes anything: it is a label: what it is worth is what the hold of that sum in a sandbox is worth. -/
noncomputable def Tryd.pinned : Pinned := { name := "ytclpkcampbhbdaadoor", sum := "370a58ffab2d9770966f31675ef4d96d599c715f00424aa42a732de598acf3d0", checked := Tryd.checked }
namespace Rows
def none {H : Type} : Left H := { results := [], args := [] }

/- WHAT THE LISTED PACKAGE-LEVEL VARIABLES READ AS WHEN THE CALL BEGINS. Each datum BY PROGRAM (the guide's laid-datum.mjs) off the statement by which the dump's own 'gosem.cut.vars' lays the variable. In a bare row this is a premise. The card (YtclpkcampbhbdaaDoorCards.lean) ties it to the program's text. -/
def laid_math_bits_deBruijn64tab {H : Type} : DataW H := .agg [.lit (.int .u8 0), .lit (.int .u8 1), .lit (.int .u8 56), .lit (.int .u8 2), .lit (.int .u8 57), .lit (.int .u8 49), .lit (.int .u8 28), .lit (.int .u8 3), .lit (.int .u8 61), .lit (.int .u8 58), .lit (.int .u8 42), .lit (.int .u8 50), .lit (.int .u8 38), .lit (.int .u8 29), .lit (.int .u8 17), .lit (.int .u8 4), .lit (.int .u8 62), .lit (.int .u8 47), .lit (.int .u8 59), .lit (.int .u8 36), .lit (.int .u8 45), .lit (.int .u8 43), .lit (.int .u8 51), .lit (.int .u8 22), .lit (.int .u8 53), .lit (.int .u8 39), .lit (.int .u8 33), .lit (.int .u8 30), .lit (.int .u8 24), .lit (.int .u8 18), .lit (.int .u8 12), .lit (.int .u8 5), .lit (.int .u8 63), .lit (.int .u8 55), .lit (.int .u8 48), .lit (.int .u8 27), .lit (.int .u8 60), .lit (.int .u8 41), .lit (.int .u8 37), .lit (.int .u8 16), .lit (.int .u8 46), .lit (.int .u8 35), .lit (.int .u8 44), .lit (.int .u8 21), .lit (.int .u8 52), .lit (.int .u8 32), .lit (.int .u8 23), .lit (.int .u8 11), .lit (.int .u8 54), .lit (.int .u8 26), .lit (.int .u8 40), .lit (.int .u8 15), .lit (.int .u8 34), .lit (.int .u8 20), .lit (.int .u8 31), .lit (.int .u8 10), .lit (.int .u8 25), .lit (.int .u8 14), .lit (.int .u8 19), .lit (.int .u8 9), .lit (.int .u8 13), .lit (.int .u8 8), .lit (.int .u8 7), .lit (.int .u8 6)]

/-- 'shoallaw20.OrderSays': WHATEVER THE INPUT: true; the input reads as it did. -/
def orderSaysSpec : ChangeSpec := { name := "orderSays", fn := fun _ => fun
  | [d1, d2, d3, d4, d5] => { results := [.lit (.bool true)], args := [d1, d2, d3, d4, d5] }
  | _ => none }
def orderSaysRow : OpenClaim := { program := "ytclpkcampbhbdaadoor", sum := "370a58ffab2d9770966f31675ef4d96d599c715f00424aa42a732de598acf3d0", func := "shoal/shoallaw20.OrderSays", spec := "orderSays", inPlace := ["slices.overlaps[shoal/trim.Entry]"], unfollowed := true, recurses := true, named := ["math/bits.deBruijn64tab"], apart := false, laid := [("math/bits.deBruijn64tab", laid_math_bits_deBruijn64tab)] }
def OrderSaysSaid : Prop := orderSaysRow.holds Tryd.pinned (OpenSpec.ofChange orderSaysSpec)

/-- ITS FALSE NEIGHBOUR: 'it returns false'. Refute it at one input. -/
def orderSaysWrong : ChangeSpec := { name := "orderSays", fn := fun _ => fun
  | [d1, d2, d3, d4, d5] => { results := [.lit (.bool false)], args := [d1, d2, d3, d4, d5] }
  | _ => none }
def OrderSaysWrongFalsely : Prop := orderSaysRow.holds Tryd.pinned (OpenSpec.ofChange orderSaysWrong)

/-- 'shoallaw19.LeanShort': WHATEVER THE INPUT: true; the input reads as it did. -/
def leanShortSpec : ChangeSpec := { name := "leanShort", fn := fun _ => fun
  | [d1, d2] => { results := [.lit (.bool true)], args := [d1, d2] }
  | _ => none }
def leanShortRow : OpenClaim := { program := "ytclpkcampbhbdaadoor", sum := "370a58ffab2d9770966f31675ef4d96d599c715f00424aa42a732de598acf3d0", func := "shoal/shoallaw19.LeanShort", spec := "leanShort", inPlace := ["slices.overlaps[shoal/trim.Entry]"], unfollowed := true, recurses := true, named := ["math/bits.deBruijn64tab"], apart := false, laid := [("math/bits.deBruijn64tab", laid_math_bits_deBruijn64tab)] }
def LeanShortSaid : Prop := leanShortRow.holds Tryd.pinned (OpenSpec.ofChange leanShortSpec)

/-- ITS FALSE NEIGHBOUR: 'it returns false'. Refute it at one input. -/
def leanShortWrong : ChangeSpec := { name := "leanShort", fn := fun _ => fun
  | [d1, d2] => { results := [.lit (.bool false)], args := [d1, d2] }
  | _ => none }
def LeanShortWrongFalsely : Prop := leanShortRow.holds Tryd.pinned (OpenSpec.ofChange leanShortWrong)

/-- 'shoallaw19.LeanKnown': WHATEVER THE INPUT: true; the input reads as it did. -/
def leanKnownSpec : ChangeSpec := { name := "leanKnown", fn := fun _ => fun
  | [] => { results := [.lit (.bool true)], args := [] }
  | _ => none }
def leanKnownRow : OpenClaim := { program := "ytclpkcampbhbdaadoor", sum := "370a58ffab2d9770966f31675ef4d96d599c715f00424aa42a732de598acf3d0", func := "shoal/shoallaw19.LeanKnown", spec := "leanKnown", inPlace := ["slices.overlaps[shoal/trim.Entry]"], unfollowed := true, recurses := true, named := ["math/bits.deBruijn64tab"], apart := false, laid := [("math/bits.deBruijn64tab", laid_math_bits_deBruijn64tab)] }
def LeanKnownSaid : Prop := leanKnownRow.holds Tryd.pinned (OpenSpec.ofChange leanKnownSpec)

/-- ITS FALSE NEIGHBOUR: 'it returns false'. Refute it at one input. -/
def leanKnownWrong : ChangeSpec := { name := "leanKnown", fn := fun _ => fun
  | [] => { results := [.lit (.bool false)], args := [] }
  | _ => none }
def LeanKnownWrongFalsely : Prop := leanKnownRow.holds Tryd.pinned (OpenSpec.ofChange leanKnownWrong)

/-- 'shoallaw19.LeanOrder': WHATEVER THE INPUT: true; the input reads as it did. -/
def leanOrderSpec : ChangeSpec := { name := "leanOrder", fn := fun _ => fun
  | [d1, d2, d3, d4, d5] => { results := [.lit (.bool true)], args := [d1, d2, d3, d4, d5] }
  | _ => none }
def leanOrderRow : OpenClaim := { program := "ytclpkcampbhbdaadoor", sum := "370a58ffab2d9770966f31675ef4d96d599c715f00424aa42a732de598acf3d0", func := "shoal/shoallaw19.LeanOrder", spec := "leanOrder", inPlace := ["slices.overlaps[shoal/trim.Entry]"], unfollowed := true, recurses := true, named := ["math/bits.deBruijn64tab"], apart := false, laid := [("math/bits.deBruijn64tab", laid_math_bits_deBruijn64tab)] }
def LeanOrderSaid : Prop := leanOrderRow.holds Tryd.pinned (OpenSpec.ofChange leanOrderSpec)

/-- ITS FALSE NEIGHBOUR: 'it returns false'. Refute it at one input. -/
def leanOrderWrong : ChangeSpec := { name := "leanOrder", fn := fun _ => fun
  | [d1, d2, d3, d4, d5] => { results := [.lit (.bool false)], args := [d1, d2, d3, d4, d5] }
  | _ => none }
def LeanOrderWrongFalsely : Prop := leanOrderRow.holds Tryd.pinned (OpenSpec.ofChange leanOrderWrong)

/-- 'shoallaw19.LeanLogs': WHATEVER THE INPUT: true; the input reads as it did. -/
def leanLogsSpec : ChangeSpec := { name := "leanLogs", fn := fun _ => fun
  | [d1, d2] => { results := [.lit (.bool true)], args := [d1, d2] }
  | _ => none }
def leanLogsRow : OpenClaim := { program := "ytclpkcampbhbdaadoor", sum := "370a58ffab2d9770966f31675ef4d96d599c715f00424aa42a732de598acf3d0", func := "shoal/shoallaw19.LeanLogs", spec := "leanLogs", inPlace := ["slices.overlaps[shoal/trim.Entry]"], unfollowed := true, recurses := true, named := ["math/bits.deBruijn64tab"], apart := false, laid := [("math/bits.deBruijn64tab", laid_math_bits_deBruijn64tab)] }
def LeanLogsSaid : Prop := leanLogsRow.holds Tryd.pinned (OpenSpec.ofChange leanLogsSpec)

/-- ITS FALSE NEIGHBOUR: 'it returns false'. Refute it at one input. -/
def leanLogsWrong : ChangeSpec := { name := "leanLogs", fn := fun _ => fun
  | [d1, d2] => { results := [.lit (.bool false)], args := [d1, d2] }
  | _ => none }
def LeanLogsWrongFalsely : Prop := leanLogsRow.holds Tryd.pinned (OpenSpec.ofChange leanLogsWrong)

/- THE SECOND FORM. 'bulk': how many values and letters a reading holds, each counted each time it is reached (what is shared counts as often as it is met; a slice's spare places count too). A statement '..UptoSaid' is the law's where the arguments, and the package variables that the reading takes, are together of bulk at most 1048576: NARROWER than '..Said'. Prove '..Said' where nothing that the law and all that it calls make is longer than what came in: it says more and counts as full. Else prove '..UptoSaid'. A law counts once. -/
mutual
def uptoBulk {H : Type} : DataW H → Nat
  | .lit (.string bytes) => bytes.length + 1
  | .lit _ => 1
  | .nil => 1
  | .ptr d => uptoBulk d + 1
  | .slice elems spare => uptoBulkAll elems + uptoBulkAll spare + 1
  | .agg parts => uptoBulkAll parts + 1
  | .iface _ d => uptoBulk d + 1
  | .map entries => uptoBulkEntries entries + 1
  | .held _ => 1
def uptoBulkAll {H : Type} : List (DataW H) → Nat
  | [] => 0
  | d :: r => uptoBulk d + uptoBulkAll r
def uptoBulkEntries {H : Type} : List (Lit × DataW H) → Nat
  | [] => 0
  | x :: r => uptoBulkEntry x + uptoBulkEntries r
def uptoBulkEntry {H : Type} : Lit × DataW H → Nat
  | (.string bytes, d) => bytes.length + uptoBulk d + 1
  | (_, d) => uptoBulk d + 1
 end
def uptoSmall : (H : Type) → List (DataW H) → Bool := fun _ ds => decide (uptoBulkAll ds ≤ 1048576)
def OpenSpec.upto (s : _root_.Go.ChangeSpec) : _root_.Go.OpenSpec := { _root_.Go.OpenSpec.ofChange s with cond := some uptoSmall }

/-- 'shoallaw20.OrderSays', WHERE WHAT IT READS IS OF BULK AT MOST 1048576: true; the input reads as it did. -/
def orderSaysUptoRow : OpenClaim := { program := "ytclpkcampbhbdaadoor", sum := "370a58ffab2d9770966f31675ef4d96d599c715f00424aa42a732de598acf3d0", func := "shoal/shoallaw20.OrderSays", spec := "orderSays", inPlace := ["slices.overlaps[shoal/trim.Entry]"], unfollowed := true, recurses := true, named := ["math/bits.deBruijn64tab"], apart := false, laid := [("math/bits.deBruijn64tab", laid_math_bits_deBruijn64tab)], narrowed := true }
def OrderSaysUptoSaid : Prop := orderSaysUptoRow.holds Tryd.pinned (OpenSpec.upto orderSaysSpec)

/-- 'shoallaw19.LeanShort', WHERE WHAT IT READS IS OF BULK AT MOST 1048576: true; the input reads as it did. -/
def leanShortUptoRow : OpenClaim := { program := "ytclpkcampbhbdaadoor", sum := "370a58ffab2d9770966f31675ef4d96d599c715f00424aa42a732de598acf3d0", func := "shoal/shoallaw19.LeanShort", spec := "leanShort", inPlace := ["slices.overlaps[shoal/trim.Entry]"], unfollowed := true, recurses := true, named := ["math/bits.deBruijn64tab"], apart := false, laid := [("math/bits.deBruijn64tab", laid_math_bits_deBruijn64tab)], narrowed := true }
def LeanShortUptoSaid : Prop := leanShortUptoRow.holds Tryd.pinned (OpenSpec.upto leanShortSpec)

/-- 'shoallaw19.LeanKnown', WHERE WHAT IT READS IS OF BULK AT MOST 1048576: true; the input reads as it did. -/
def leanKnownUptoRow : OpenClaim := { program := "ytclpkcampbhbdaadoor", sum := "370a58ffab2d9770966f31675ef4d96d599c715f00424aa42a732de598acf3d0", func := "shoal/shoallaw19.LeanKnown", spec := "leanKnown", inPlace := ["slices.overlaps[shoal/trim.Entry]"], unfollowed := true, recurses := true, named := ["math/bits.deBruijn64tab"], apart := false, laid := [("math/bits.deBruijn64tab", laid_math_bits_deBruijn64tab)], narrowed := true }
def LeanKnownUptoSaid : Prop := leanKnownUptoRow.holds Tryd.pinned (OpenSpec.upto leanKnownSpec)

/-- 'shoallaw19.LeanOrder', WHERE WHAT IT READS IS OF BULK AT MOST 1048576: true; the input reads as it did. -/
def leanOrderUptoRow : OpenClaim := { program := "ytclpkcampbhbdaadoor", sum := "370a58ffab2d9770966f31675ef4d96d599c715f00424aa42a732de598acf3d0", func := "shoal/shoallaw19.LeanOrder", spec := "leanOrder", inPlace := ["slices.overlaps[shoal/trim.Entry]"], unfollowed := true, recurses := true, named := ["math/bits.deBruijn64tab"], apart := false, laid := [("math/bits.deBruijn64tab", laid_math_bits_deBruijn64tab)], narrowed := true }
def LeanOrderUptoSaid : Prop := leanOrderUptoRow.holds Tryd.pinned (OpenSpec.upto leanOrderSpec)

/-- 'shoallaw19.LeanLogs', WHERE WHAT IT READS IS OF BULK AT MOST 1048576: true; the input reads as it did. -/
def leanLogsUptoRow : OpenClaim := { program := "ytclpkcampbhbdaadoor", sum := "370a58ffab2d9770966f31675ef4d96d599c715f00424aa42a732de598acf3d0", func := "shoal/shoallaw19.LeanLogs", spec := "leanLogs", inPlace := ["slices.overlaps[shoal/trim.Entry]"], unfollowed := true, recurses := true, named := ["math/bits.deBruijn64tab"], apart := false, laid := [("math/bits.deBruijn64tab", laid_math_bits_deBruijn64tab)], narrowed := true }
def LeanLogsUptoSaid : Prop := leanLogsUptoRow.holds Tryd.pinned (OpenSpec.upto leanLogsSpec)

end Rows
end Go.Proofs.YtclpkcampbhbdaaDoor
