/-
  No cell of these rows narrows 'for every input' (looked for: loops, veiled, ifaces, maps, wideKeys, modest, calm, conditions, laid).
  DERIVED. THE GIVEN ROWS OF THIS SEAT. 7 by the template 'for every input the law returns true; each argument reads behind the call as it read before'; 0 by the template 'total and deterministic' (their statements: YtclpkcampbhbdaaTotals.lean).
  GIVEN WITH THE SEED: the statements are not yours to turn. If you find one false, say at which input.
  Laid BY PROGRAM, IN A SANDBOX (cutbox-rows.mjs): the forced cells as the released guide's own fill.sh prints them over the translation 744b47eda89bfe73… (all of the seat's roots in one cut). By AI agents, Wed Nov 11 2026. No macro, syntax, notation, axiom, sorry.
-/
import Derived.Test.YtclpkcampbhbdaaChecked
import GoSem.Claim
import GoSem.ClaimJoined
import GoSem.ClaimMapViews
import Derived.JoinedTies
import Derived.KernelRfl
namespace Go.Proofs.Ytclpkcampbhbdaa
/- THE CELL 'sum', in the pinned program and in every row, IS THE sha256 OF THE DUMP (.gsa) THAT YtclpkcampbhbdaaProg.lean LOADS. Nothing in Lean hashes anything: it is a label: what it is worth is what the hold of that sum in a sandbox is worth. -/
noncomputable def Try.pinned : Pinned := { name := "ytclpkcampbhbdaa", sum := "744b47eda89bfe7340559f354cd808ebd3b416054097e35179e2170d0a185455", checked := Try.checked }
namespace Rows
def none {H : Type} : Left H := { results := [], args := [] }

/-- 'shoallaw20.OrderKnown': WHATEVER THE INPUT: true; the input reads as it did. -/
def orderKnownSpec : ChangeSpec := { name := "orderKnown", fn := fun _ => fun
  | [] => { results := [.lit (.bool true)], args := [] }
  | _ => none }
def orderKnownRow : OpenClaim := { program := "ytclpkcampbhbdaa", sum := "744b47eda89bfe7340559f354cd808ebd3b416054097e35179e2170d0a185455", func := "shoal/shoallaw20.OrderKnown", spec := "orderKnown", unfollowed := true, recurses := true, apart := false }
def OrderKnownSaid : Prop := orderKnownRow.holds Try.pinned (OpenSpec.ofChange orderKnownSpec)

/-- ITS FALSE NEIGHBOUR: 'it returns false'. Refute it at one input. -/
def orderKnownWrong : ChangeSpec := { name := "orderKnown", fn := fun _ => fun
  | [] => { results := [.lit (.bool false)], args := [] }
  | _ => none }
def OrderKnownWrongFalsely : Prop := orderKnownRow.holds Try.pinned (OpenSpec.ofChange orderKnownWrong)

/-- 'shoallaw18.TrimJoins': WHATEVER THE INPUT: true; the input reads as it did. -/
def trimJoinsSpec : ChangeSpec := { name := "trimJoins", fn := fun _ => fun
  | [d1, d2] => { results := [.lit (.bool true)], args := [d1, d2] }
  | _ => none }
def trimJoinsRow : OpenClaim := { program := "ytclpkcampbhbdaa", sum := "744b47eda89bfe7340559f354cd808ebd3b416054097e35179e2170d0a185455", func := "shoal/shoallaw18.TrimJoins", spec := "trimJoins", unfollowed := true, recurses := true, apart := false }
def TrimJoinsSaid : Prop := trimJoinsRow.holds Try.pinned (OpenSpec.ofChange trimJoinsSpec)

/-- ITS FALSE NEIGHBOUR: 'it returns false'. Refute it at one input. -/
def trimJoinsWrong : ChangeSpec := { name := "trimJoins", fn := fun _ => fun
  | [d1, d2] => { results := [.lit (.bool false)], args := [d1, d2] }
  | _ => none }
def TrimJoinsWrongFalsely : Prop := trimJoinsRow.holds Try.pinned (OpenSpec.ofChange trimJoinsWrong)

/-- 'shoallaw18.TrimPurges': WHATEVER THE INPUT: true; the input reads as it did. -/
def trimPurgesSpec : ChangeSpec := { name := "trimPurges", fn := fun _ => fun
  | [d] => { results := [.lit (.bool true)], args := [d] }
  | _ => none }
def trimPurgesRow : OpenClaim := { program := "ytclpkcampbhbdaa", sum := "744b47eda89bfe7340559f354cd808ebd3b416054097e35179e2170d0a185455", func := "shoal/shoallaw18.TrimPurges", spec := "trimPurges", unfollowed := true, recurses := true, apart := false }
def TrimPurgesSaid : Prop := trimPurgesRow.holds Try.pinned (OpenSpec.ofChange trimPurgesSpec)

/-- ITS FALSE NEIGHBOUR: 'it returns false'. Refute it at one input. -/
def trimPurgesWrong : ChangeSpec := { name := "trimPurges", fn := fun _ => fun
  | [d] => { results := [.lit (.bool false)], args := [d] }
  | _ => none }
def TrimPurgesWrongFalsely : Prop := trimPurgesRow.holds Try.pinned (OpenSpec.ofChange trimPurgesWrong)

/-- 'shoallaw18.TrimLess': WHATEVER THE INPUT: true; the input reads as it did. -/
def trimLessSpec : ChangeSpec := { name := "trimLess", fn := fun _ => fun
  | [d1, d2, d3] => { results := [.lit (.bool true)], args := [d1, d2, d3] }
  | _ => none }
def trimLessRow : OpenClaim := { program := "ytclpkcampbhbdaa", sum := "744b47eda89bfe7340559f354cd808ebd3b416054097e35179e2170d0a185455", func := "shoal/shoallaw18.TrimLess", spec := "trimLess", unfollowed := true, recurses := true, apart := false }
def TrimLessSaid : Prop := trimLessRow.holds Try.pinned (OpenSpec.ofChange trimLessSpec)

/-- ITS FALSE NEIGHBOUR: 'it returns false'. Refute it at one input. -/
def trimLessWrong : ChangeSpec := { name := "trimLess", fn := fun _ => fun
  | [d1, d2, d3] => { results := [.lit (.bool false)], args := [d1, d2, d3] }
  | _ => none }
def TrimLessWrongFalsely : Prop := trimLessRow.holds Try.pinned (OpenSpec.ofChange trimLessWrong)

/-- 'shoallaw18.TrimBytes': WHATEVER THE INPUT: true; the input reads as it did. -/
def trimBytesSpec : ChangeSpec := { name := "trimBytes", fn := fun _ => fun
  | [d1, d2] => { results := [.lit (.bool true)], args := [d1, d2] }
  | _ => none }
def trimBytesRow : OpenClaim := { program := "ytclpkcampbhbdaa", sum := "744b47eda89bfe7340559f354cd808ebd3b416054097e35179e2170d0a185455", func := "shoal/shoallaw18.TrimBytes", spec := "trimBytes", unfollowed := true, recurses := true, apart := false }
def TrimBytesSaid : Prop := trimBytesRow.holds Try.pinned (OpenSpec.ofChange trimBytesSpec)

/-- ITS FALSE NEIGHBOUR: 'it returns false'. Refute it at one input. -/
def trimBytesWrong : ChangeSpec := { name := "trimBytes", fn := fun _ => fun
  | [d1, d2] => { results := [.lit (.bool false)], args := [d1, d2] }
  | _ => none }
def TrimBytesWrongFalsely : Prop := trimBytesRow.holds Try.pinned (OpenSpec.ofChange trimBytesWrong)

/-- 'shoallaw18.TrimSays': WHATEVER THE INPUT: true; the input reads as it did. -/
def trimSaysSpec : ChangeSpec := { name := "trimSays", fn := fun _ => fun
  | [d1, d2, d3, d4, d5] => { results := [.lit (.bool true)], args := [d1, d2, d3, d4, d5] }
  | _ => none }
def trimSaysRow : OpenClaim := { program := "ytclpkcampbhbdaa", sum := "744b47eda89bfe7340559f354cd808ebd3b416054097e35179e2170d0a185455", func := "shoal/shoallaw18.TrimSays", spec := "trimSays", inPlace := ["slices.overlaps[shoal/trim.Entry]"], unfollowed := true, recurses := true, apart := false }
def TrimSaysSaid : Prop := trimSaysRow.holds Try.pinned (OpenSpec.ofChange trimSaysSpec)

/-- ITS FALSE NEIGHBOUR: 'it returns false'. Refute it at one input. -/
def trimSaysWrong : ChangeSpec := { name := "trimSays", fn := fun _ => fun
  | [d1, d2, d3, d4, d5] => { results := [.lit (.bool false)], args := [d1, d2, d3, d4, d5] }
  | _ => none }
def TrimSaysWrongFalsely : Prop := trimSaysRow.holds Try.pinned (OpenSpec.ofChange trimSaysWrong)

/-- 'shoallaw18.TrimKnown': WHATEVER THE INPUT: true; the input reads as it did. -/
def trimKnownSpec : ChangeSpec := { name := "trimKnown", fn := fun _ => fun
  | [] => { results := [.lit (.bool true)], args := [] }
  | _ => none }
def trimKnownRow : OpenClaim := { program := "ytclpkcampbhbdaa", sum := "744b47eda89bfe7340559f354cd808ebd3b416054097e35179e2170d0a185455", func := "shoal/shoallaw18.TrimKnown", spec := "trimKnown", inPlace := ["slices.overlaps[shoal/trim.Entry]"], unfollowed := true, recurses := true, apart := false }
def TrimKnownSaid : Prop := trimKnownRow.holds Try.pinned (OpenSpec.ofChange trimKnownSpec)

/-- ITS FALSE NEIGHBOUR: 'it returns false'. Refute it at one input. -/
def trimKnownWrong : ChangeSpec := { name := "trimKnown", fn := fun _ => fun
  | [] => { results := [.lit (.bool false)], args := [] }
  | _ => none }
def TrimKnownWrongFalsely : Prop := trimKnownRow.holds Try.pinned (OpenSpec.ofChange trimKnownWrong)

/- THE SECOND FORM. 'bulk': how many values and letters a reading holds, each counted each time it is reached (what is shared counts as often as it is met; a slice's spare places count too). A statement '..UptoSaid' is the law's where the arguments, and the package variables that the reading takes, are together of bulk at most 1048576: NARROWER than '..Said'. Prove '..Said' where nothing that the law and all that it calls make is longer than what came in: it says more and counts as full. Else prove '..UptoSaid'. A law counts once. -/
mutual
def uptoBulk {H : Type} : DataW H → Nat
  | .lit (.string bytes) => bytes.length + 1
  | .lit _ => 1
  | .nil => 1
  | .ptr d => uptoBulk d + 1
  | .slice elems spare => uptoBulkAll elems + uptoBulkAll spare + 1
  | .agg parts => uptoBulkAll parts + 1
  | .iface _ d => uptoBulk d + 1
  | .map entries => uptoBulkEntries entries + 1
  | .held _ => 1
def uptoBulkAll {H : Type} : List (DataW H) → Nat
  | [] => 0
  | d :: r => uptoBulk d + uptoBulkAll r
def uptoBulkEntries {H : Type} : List (Lit × DataW H) → Nat
  | [] => 0
  | x :: r => uptoBulkEntry x + uptoBulkEntries r
def uptoBulkEntry {H : Type} : Lit × DataW H → Nat
  | (.string bytes, d) => bytes.length + uptoBulk d + 1
  | (_, d) => uptoBulk d + 1
 end
def uptoSmall : (H : Type) → List (DataW H) → Bool := fun _ ds => decide (uptoBulkAll ds ≤ 1048576)
def OpenSpec.upto (s : _root_.Go.ChangeSpec) : _root_.Go.OpenSpec := { _root_.Go.OpenSpec.ofChange s with cond := some uptoSmall }

/-- 'shoallaw20.OrderKnown', WHERE WHAT IT READS IS OF BULK AT MOST 1048576: true; the input reads as it did. -/
def orderKnownUptoRow : OpenClaim := { program := "ytclpkcampbhbdaa", sum := "744b47eda89bfe7340559f354cd808ebd3b416054097e35179e2170d0a185455", func := "shoal/shoallaw20.OrderKnown", spec := "orderKnown", unfollowed := true, recurses := true, apart := false, narrowed := true }
def OrderKnownUptoSaid : Prop := orderKnownUptoRow.holds Try.pinned (OpenSpec.upto orderKnownSpec)

/-- 'shoallaw18.TrimJoins', WHERE WHAT IT READS IS OF BULK AT MOST 1048576: true; the input reads as it did. -/
def trimJoinsUptoRow : OpenClaim := { program := "ytclpkcampbhbdaa", sum := "744b47eda89bfe7340559f354cd808ebd3b416054097e35179e2170d0a185455", func := "shoal/shoallaw18.TrimJoins", spec := "trimJoins", unfollowed := true, recurses := true, apart := false, narrowed := true }
def TrimJoinsUptoSaid : Prop := trimJoinsUptoRow.holds Try.pinned (OpenSpec.upto trimJoinsSpec)

/-- 'shoallaw18.TrimPurges', WHERE WHAT IT READS IS OF BULK AT MOST 1048576: true; the input reads as it did. -/
def trimPurgesUptoRow : OpenClaim := { program := "ytclpkcampbhbdaa", sum := "744b47eda89bfe7340559f354cd808ebd3b416054097e35179e2170d0a185455", func := "shoal/shoallaw18.TrimPurges", spec := "trimPurges", unfollowed := true, recurses := true, apart := false, narrowed := true }
def TrimPurgesUptoSaid : Prop := trimPurgesUptoRow.holds Try.pinned (OpenSpec.upto trimPurgesSpec)

/-- 'shoallaw18.TrimLess', WHERE WHAT IT READS IS OF BULK AT MOST 1048576: true; the input reads as it did. -/
def trimLessUptoRow : OpenClaim := { program := "ytclpkcampbhbdaa", sum := "744b47eda89bfe7340559f354cd808ebd3b416054097e35179e2170d0a185455", func := "shoal/shoallaw18.TrimLess", spec := "trimLess", unfollowed := true, recurses := true, apart := false, narrowed := true }
def TrimLessUptoSaid : Prop := trimLessUptoRow.holds Try.pinned (OpenSpec.upto trimLessSpec)

/-- 'shoallaw18.TrimBytes', WHERE WHAT IT READS IS OF BULK AT MOST 1048576: true; the input reads as it did. -/
def trimBytesUptoRow : OpenClaim := { program := "ytclpkcampbhbdaa", sum := "744b47eda89bfe7340559f354cd808ebd3b416054097e35179e2170d0a185455", func := "shoal/shoallaw18.TrimBytes", spec := "trimBytes", unfollowed := true, recurses := true, apart := false, narrowed := true }
def TrimBytesUptoSaid : Prop := trimBytesUptoRow.holds Try.pinned (OpenSpec.upto trimBytesSpec)

/-- 'shoallaw18.TrimSays', WHERE WHAT IT READS IS OF BULK AT MOST 1048576: true; the input reads as it did. -/
def trimSaysUptoRow : OpenClaim := { program := "ytclpkcampbhbdaa", sum := "744b47eda89bfe7340559f354cd808ebd3b416054097e35179e2170d0a185455", func := "shoal/shoallaw18.TrimSays", spec := "trimSays", inPlace := ["slices.overlaps[shoal/trim.Entry]"], unfollowed := true, recurses := true, apart := false, narrowed := true }
def TrimSaysUptoSaid : Prop := trimSaysUptoRow.holds Try.pinned (OpenSpec.upto trimSaysSpec)

/-- 'shoallaw18.TrimKnown', WHERE WHAT IT READS IS OF BULK AT MOST 1048576: true; the input reads as it did. -/
def trimKnownUptoRow : OpenClaim := { program := "ytclpkcampbhbdaa", sum := "744b47eda89bfe7340559f354cd808ebd3b416054097e35179e2170d0a185455", func := "shoal/shoallaw18.TrimKnown", spec := "trimKnown", inPlace := ["slices.overlaps[shoal/trim.Entry]"], unfollowed := true, recurses := true, apart := false, narrowed := true }
def TrimKnownUptoSaid : Prop := trimKnownUptoRow.holds Try.pinned (OpenSpec.upto trimKnownSpec)

end Rows
end Go.Proofs.Ytclpkcampbhbdaa
