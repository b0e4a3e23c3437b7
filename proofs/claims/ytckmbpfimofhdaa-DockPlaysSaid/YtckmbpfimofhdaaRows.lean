/-
  No cell of these rows narrows 'for every input' (looked for: loops, veiled, ifaces, maps, wideKeys, modest, calm, conditions, laid).
  DERIVED. THE GIVEN ROWS OF THIS SEAT. 4 by the template 'for every input the law returns true; each argument reads behind the call as it read before'; 0 by the template 'total and deterministic' (their statements: YtckmbpfimofhdaaTotals.lean).
  GIVEN WITH THE SEED: the statements are not yours to turn. If you find one false, say at which input.
  Laid BY PROGRAM, IN A SANDBOX (cutbox-rows.mjs): the forced cells as the released guide's own fill.sh prints them over the translation c6d89955af0e5f65… (all of the seat's roots in one cut). By AI agents, Wed Nov 11 2026. No macro, syntax, notation, axiom, sorry.
-/
import Derived.Test.YtckmbpfimofhdaaChecked
import GoSem.Claim
import GoSem.ClaimJoined
import GoSem.ClaimMapViews
import Derived.JoinedTies
import Derived.KernelRfl
namespace Go.Proofs.Ytckmbpfimofhdaa
/- THE CELL 'sum', in the pinned program and in every row, IS THE sha256 OF THE DUMP (.gsa) THAT YtckmbpfimofhdaaProg.lean LOADS. Nothing in Lean hashes anything: it is a label: what it is worth is what the hold of that sum in a sandbox is worth. -/
noncomputable def Try.pinned : Pinned := { name := "ytckmbpfimofhdaa", sum := "c6d89955af0e5f65fca5fa6fff9fc7a331a0596aadd4ae590198e484e01c8c72", checked := Try.checked }
namespace Rows
def none {H : Type} : Left H := { results := [], args := [] }

/-- 'shoallaw13.DockKnown': WHATEVER THE INPUT: true; the input reads as it did. -/
def dockKnownSpec : ChangeSpec := { name := "dockKnown", fn := fun _ => fun
  | [] => { results := [.lit (.bool true)], args := [] }
  | _ => none }
def dockKnownRow : OpenClaim := { program := "ytckmbpfimofhdaa", sum := "c6d89955af0e5f65fca5fa6fff9fc7a331a0596aadd4ae590198e484e01c8c72", func := "shoal/shoallaw13.DockKnown", spec := "dockKnown", unfollowed := true, recurses := true, apart := false }
def DockKnownSaid : Prop := dockKnownRow.holds Try.pinned (OpenSpec.ofChange dockKnownSpec)

/-- ITS FALSE NEIGHBOUR: 'it returns false'. Refute it at one input. -/
def dockKnownWrong : ChangeSpec := { name := "dockKnown", fn := fun _ => fun
  | [] => { results := [.lit (.bool false)], args := [] }
  | _ => none }
def DockKnownWrongFalsely : Prop := dockKnownRow.holds Try.pinned (OpenSpec.ofChange dockKnownWrong)

/-- 'shoallaw13.DockPlays': WHATEVER THE INPUT: true; the input reads as it did. -/
def dockPlaysSpec : ChangeSpec := { name := "dockPlays", fn := fun _ => fun
  | [d1, d2] => { results := [.lit (.bool true)], args := [d1, d2] }
  | _ => none }
def dockPlaysRow : OpenClaim := { program := "ytckmbpfimofhdaa", sum := "c6d89955af0e5f65fca5fa6fff9fc7a331a0596aadd4ae590198e484e01c8c72", func := "shoal/shoallaw13.DockPlays", spec := "dockPlays", unfollowed := true, recurses := true, apart := false }
def DockPlaysSaid : Prop := dockPlaysRow.holds Try.pinned (OpenSpec.ofChange dockPlaysSpec)

/-- ITS FALSE NEIGHBOUR: 'it returns false'. Refute it at one input. -/
def dockPlaysWrong : ChangeSpec := { name := "dockPlays", fn := fun _ => fun
  | [d1, d2] => { results := [.lit (.bool false)], args := [d1, d2] }
  | _ => none }
def DockPlaysWrongFalsely : Prop := dockPlaysRow.holds Try.pinned (OpenSpec.ofChange dockPlaysWrong)

/-- 'shoallaw13.DockOrder': WHATEVER THE INPUT: true; the input reads as it did. -/
def dockOrderSpec : ChangeSpec := { name := "dockOrder", fn := fun _ => fun
  | [d1, d2, d3] => { results := [.lit (.bool true)], args := [d1, d2, d3] }
  | _ => none }
def dockOrderRow : OpenClaim := { program := "ytckmbpfimofhdaa", sum := "c6d89955af0e5f65fca5fa6fff9fc7a331a0596aadd4ae590198e484e01c8c72", func := "shoal/shoallaw13.DockOrder", spec := "dockOrder", unfollowed := true, recurses := true, apart := false }
def DockOrderSaid : Prop := dockOrderRow.holds Try.pinned (OpenSpec.ofChange dockOrderSpec)

/-- ITS FALSE NEIGHBOUR: 'it returns false'. Refute it at one input. -/
def dockOrderWrong : ChangeSpec := { name := "dockOrder", fn := fun _ => fun
  | [d1, d2, d3] => { results := [.lit (.bool false)], args := [d1, d2, d3] }
  | _ => none }
def DockOrderWrongFalsely : Prop := dockOrderRow.holds Try.pinned (OpenSpec.ofChange dockOrderWrong)

/-- 'shoallaw13.DockAll': WHATEVER THE INPUT: true; the input reads as it did. -/
def dockAllSpec : ChangeSpec := { name := "dockAll", fn := fun _ => fun
  | [d1, d2] => { results := [.lit (.bool true)], args := [d1, d2] }
  | _ => none }
def dockAllRow : OpenClaim := { program := "ytckmbpfimofhdaa", sum := "c6d89955af0e5f65fca5fa6fff9fc7a331a0596aadd4ae590198e484e01c8c72", func := "shoal/shoallaw13.DockAll", spec := "dockAll", unfollowed := true, recurses := true, apart := false }
def DockAllSaid : Prop := dockAllRow.holds Try.pinned (OpenSpec.ofChange dockAllSpec)

/-- ITS FALSE NEIGHBOUR: 'it returns false'. Refute it at one input. -/
def dockAllWrong : ChangeSpec := { name := "dockAll", fn := fun _ => fun
  | [d1, d2] => { results := [.lit (.bool false)], args := [d1, d2] }
  | _ => none }
def DockAllWrongFalsely : Prop := dockAllRow.holds Try.pinned (OpenSpec.ofChange dockAllWrong)

/- THE SECOND FORM. 'bulk': how many values and letters a reading holds, each counted each time it is reached (what is shared counts as often as it is met; a slice's spare places count too). A statement '..UptoSaid' is the law's where the arguments, and the package variables that the reading takes, are together of bulk at most 1048576: NARROWER than '..Said'. Prove '..Said' where nothing that the law and all that it calls make is longer than what came in: it says more and counts as full. Else prove '..UptoSaid'. A law counts once. -/
mutual
def uptoBulk {H : Type} : DataW H → Nat
  | .lit (.string bytes) => bytes.length + 1
  | .lit _ => 1
  | .nil => 1
  | .ptr d => uptoBulk d + 1
  | .slice elems spare => uptoBulkAll elems + uptoBulkAll spare + 1
  | .agg parts => uptoBulkAll parts + 1
  | .iface _ d => uptoBulk d + 1
  | .map entries => uptoBulkEntries entries + 1
  | .held _ => 1
def uptoBulkAll {H : Type} : List (DataW H) → Nat
  | [] => 0
  | d :: r => uptoBulk d + uptoBulkAll r
def uptoBulkEntries {H : Type} : List (Lit × DataW H) → Nat
  | [] => 0
  | x :: r => uptoBulkEntry x + uptoBulkEntries r
def uptoBulkEntry {H : Type} : Lit × DataW H → Nat
  | (.string bytes, d) => bytes.length + uptoBulk d + 1
  | (_, d) => uptoBulk d + 1
 end
def uptoSmall : (H : Type) → List (DataW H) → Bool := fun _ ds => decide (uptoBulkAll ds ≤ 1048576)
def OpenSpec.upto (s : _root_.Go.ChangeSpec) : _root_.Go.OpenSpec := { _root_.Go.OpenSpec.ofChange s with cond := some uptoSmall }

/-- 'shoallaw13.DockKnown', WHERE WHAT IT READS IS OF BULK AT MOST 1048576: true; the input reads as it did. -/
def dockKnownUptoRow : OpenClaim := { program := "ytckmbpfimofhdaa", sum := "c6d89955af0e5f65fca5fa6fff9fc7a331a0596aadd4ae590198e484e01c8c72", func := "shoal/shoallaw13.DockKnown", spec := "dockKnown", unfollowed := true, recurses := true, apart := false, narrowed := true }
def DockKnownUptoSaid : Prop := dockKnownUptoRow.holds Try.pinned (OpenSpec.upto dockKnownSpec)

/-- 'shoallaw13.DockPlays', WHERE WHAT IT READS IS OF BULK AT MOST 1048576: true; the input reads as it did. -/
def dockPlaysUptoRow : OpenClaim := { program := "ytckmbpfimofhdaa", sum := "c6d89955af0e5f65fca5fa6fff9fc7a331a0596aadd4ae590198e484e01c8c72", func := "shoal/shoallaw13.DockPlays", spec := "dockPlays", unfollowed := true, recurses := true, apart := false, narrowed := true }
def DockPlaysUptoSaid : Prop := dockPlaysUptoRow.holds Try.pinned (OpenSpec.upto dockPlaysSpec)

/-- 'shoallaw13.DockOrder', WHERE WHAT IT READS IS OF BULK AT MOST 1048576: true; the input reads as it did. -/
def dockOrderUptoRow : OpenClaim := { program := "ytckmbpfimofhdaa", sum := "c6d89955af0e5f65fca5fa6fff9fc7a331a0596aadd4ae590198e484e01c8c72", func := "shoal/shoallaw13.DockOrder", spec := "dockOrder", unfollowed := true, recurses := true, apart := false, narrowed := true }
def DockOrderUptoSaid : Prop := dockOrderUptoRow.holds Try.pinned (OpenSpec.upto dockOrderSpec)

/-- 'shoallaw13.DockAll', WHERE WHAT IT READS IS OF BULK AT MOST 1048576: true; the input reads as it did. -/
def dockAllUptoRow : OpenClaim := { program := "ytckmbpfimofhdaa", sum := "c6d89955af0e5f65fca5fa6fff9fc7a331a0596aadd4ae590198e484e01c8c72", func := "shoal/shoallaw13.DockAll", spec := "dockAll", unfollowed := true, recurses := true, apart := false, narrowed := true }
def DockAllUptoSaid : Prop := dockAllUptoRow.holds Try.pinned (OpenSpec.upto dockAllSpec)

end Rows
end Go.Proofs.Ytckmbpfimofhdaa
