/-
  No cell of these rows narrows 'for every input' (looked for: loops, veiled, ifaces, maps, wideKeys, modest, calm, conditions, laid).
  DERIVED. THE GIVEN ROWS OF THIS SEAT. 9 by the template 'for every input the law returns true; each argument reads behind the call as it read before'; 0 by the template 'total and deterministic' (their statements: YtjabdgplgjhieaaTotals.lean).
  GIVEN WITH THE SEED: the statements are not yours to turn. If you find one false, say at which input.
  Laid BY PROGRAM, IN A SANDBOX (cutbox-rows.mjs): the forced cells as the released guide's own fill.sh prints them over the translation cffcda0e77f331fa… (all of the seat's roots in one cut). By AI agents, Wed Nov 11 2026. No macro, syntax, notation, axiom, sorry.
-/
import Derived.Test.YtjabdgplgjhieaaChecked
import GoSem.Claim
import GoSem.ClaimJoined
import GoSem.ClaimMapViews
import Derived.JoinedTies
import Derived.KernelRfl
namespace Go.Proofs.Ytjabdgplgjhieaa
/- THE CELL 'sum', in the pinned program and in every row, IS THE sha256 OF THE DUMP (.gsa) THAT YtjabdgplgjhieaaProg.lean LOADS. Nothing in Lean hashes anything: it is a label: what it is worth is what the hold of that sum in a sandbox is worth. -/
noncomputable def Try.pinned : Pinned := { name := "ytjabdgplgjhieaa", sum := "cffcda0e77f331fa163fd2ab1d2e8dee432d26b53d974c12ea97cc371410d257", checked := Try.checked }
namespace Rows
def none {H : Type} : Left H := { results := [], args := [] }

/-- 'shoallaw15.VecOrder': WHATEVER THE INPUT: true; the input reads as it did. -/
def vecOrderSpec : ChangeSpec := { name := "vecOrder", fn := fun _ => fun
  | [d1, d2, d3] => { results := [.lit (.bool true)], args := [d1, d2, d3] }
  | _ => none }
def vecOrderRow : OpenClaim := { program := "ytjabdgplgjhieaa", sum := "cffcda0e77f331fa163fd2ab1d2e8dee432d26b53d974c12ea97cc371410d257", func := "shoal/shoallaw15.VecOrder", spec := "vecOrder", apart := false }
def VecOrderSaid : Prop := vecOrderRow.holds Try.pinned (OpenSpec.ofChange vecOrderSpec)

/-- ITS FALSE NEIGHBOUR: 'it returns false'. Refute it at one input. -/
def vecOrderWrong : ChangeSpec := { name := "vecOrder", fn := fun _ => fun
  | [d1, d2, d3] => { results := [.lit (.bool false)], args := [d1, d2, d3] }
  | _ => none }
def VecOrderWrongFalsely : Prop := vecOrderRow.holds Try.pinned (OpenSpec.ofChange vecOrderWrong)

/-- 'shoallaw15.VecUps': WHATEVER THE INPUT: true; the input reads as it did. -/
def vecUpsSpec : ChangeSpec := { name := "vecUps", fn := fun _ => fun
  | [d] => { results := [.lit (.bool true)], args := [d] }
  | _ => none }
def vecUpsRow : OpenClaim := { program := "ytjabdgplgjhieaa", sum := "cffcda0e77f331fa163fd2ab1d2e8dee432d26b53d974c12ea97cc371410d257", func := "shoal/shoallaw15.VecUps", spec := "vecUps", apart := false }
def VecUpsSaid : Prop := vecUpsRow.holds Try.pinned (OpenSpec.ofChange vecUpsSpec)

/-- ITS FALSE NEIGHBOUR: 'it returns false'. Refute it at one input. -/
def vecUpsWrong : ChangeSpec := { name := "vecUps", fn := fun _ => fun
  | [d] => { results := [.lit (.bool false)], args := [d] }
  | _ => none }
def VecUpsWrongFalsely : Prop := vecUpsRow.holds Try.pinned (OpenSpec.ofChange vecUpsWrong)

/-- 'shoallaw15.VecKnown': WHATEVER THE INPUT: true; the input reads as it did. -/
def vecKnownSpec : ChangeSpec := { name := "vecKnown", fn := fun _ => fun
  | [] => { results := [.lit (.bool true)], args := [] }
  | _ => none }
def vecKnownRow : OpenClaim := { program := "ytjabdgplgjhieaa", sum := "cffcda0e77f331fa163fd2ab1d2e8dee432d26b53d974c12ea97cc371410d257", func := "shoal/shoallaw15.VecKnown", spec := "vecKnown", apart := false }
def VecKnownSaid : Prop := vecKnownRow.holds Try.pinned (OpenSpec.ofChange vecKnownSpec)

/-- ITS FALSE NEIGHBOUR: 'it returns false'. Refute it at one input. -/
def vecKnownWrong : ChangeSpec := { name := "vecKnown", fn := fun _ => fun
  | [] => { results := [.lit (.bool false)], args := [] }
  | _ => none }
def VecKnownWrongFalsely : Prop := vecKnownRow.holds Try.pinned (OpenSpec.ofChange vecKnownWrong)

/-- 'shoallaw15.VecSays': WHATEVER THE INPUT: true; the input reads as it did. -/
def vecSaysSpec : ChangeSpec := { name := "vecSays", fn := fun _ => fun
  | [d1, d2, d3] => { results := [.lit (.bool true)], args := [d1, d2, d3] }
  | _ => none }
def vecSaysRow : OpenClaim := { program := "ytjabdgplgjhieaa", sum := "cffcda0e77f331fa163fd2ab1d2e8dee432d26b53d974c12ea97cc371410d257", func := "shoal/shoallaw15.VecSays", spec := "vecSays", apart := false }
def VecSaysSaid : Prop := vecSaysRow.holds Try.pinned (OpenSpec.ofChange vecSaysSpec)

/-- ITS FALSE NEIGHBOUR: 'it returns false'. Refute it at one input. -/
def vecSaysWrong : ChangeSpec := { name := "vecSays", fn := fun _ => fun
  | [d1, d2, d3] => { results := [.lit (.bool false)], args := [d1, d2, d3] }
  | _ => none }
def VecSaysWrongFalsely : Prop := vecSaysRow.holds Try.pinned (OpenSpec.ofChange vecSaysWrong)

/-- 'shoallaw15.VecJoins': WHATEVER THE INPUT: true; the input reads as it did. -/
def vecJoinsSpec : ChangeSpec := { name := "vecJoins", fn := fun _ => fun
  | [d1, d2, d3] => { results := [.lit (.bool true)], args := [d1, d2, d3] }
  | _ => none }
def vecJoinsRow : OpenClaim := { program := "ytjabdgplgjhieaa", sum := "cffcda0e77f331fa163fd2ab1d2e8dee432d26b53d974c12ea97cc371410d257", func := "shoal/shoallaw15.VecJoins", spec := "vecJoins", apart := false }
def VecJoinsSaid : Prop := vecJoinsRow.holds Try.pinned (OpenSpec.ofChange vecJoinsSpec)

/-- ITS FALSE NEIGHBOUR: 'it returns false'. Refute it at one input. -/
def vecJoinsWrong : ChangeSpec := { name := "vecJoins", fn := fun _ => fun
  | [d1, d2, d3] => { results := [.lit (.bool false)], args := [d1, d2, d3] }
  | _ => none }
def VecJoinsWrongFalsely : Prop := vecJoinsRow.holds Try.pinned (OpenSpec.ofChange vecJoinsWrong)

/-- 'shoallaw16.MatUps': WHATEVER THE INPUT: true; the input reads as it did. -/
def matUpsSpec : ChangeSpec := { name := "matUps", fn := fun _ => fun
  | [d1, d2, d3] => { results := [.lit (.bool true)], args := [d1, d2, d3] }
  | _ => none }
def matUpsRow : OpenClaim := { program := "ytjabdgplgjhieaa", sum := "cffcda0e77f331fa163fd2ab1d2e8dee432d26b53d974c12ea97cc371410d257", func := "shoal/shoallaw16.MatUps", spec := "matUps", unfollowed := true, recurses := true, apart := false }
def MatUpsSaid : Prop := matUpsRow.holds Try.pinned (OpenSpec.ofChange matUpsSpec)

/-- ITS FALSE NEIGHBOUR: 'it returns false'. Refute it at one input. -/
def matUpsWrong : ChangeSpec := { name := "matUps", fn := fun _ => fun
  | [d1, d2, d3] => { results := [.lit (.bool false)], args := [d1, d2, d3] }
  | _ => none }
def MatUpsWrongFalsely : Prop := matUpsRow.holds Try.pinned (OpenSpec.ofChange matUpsWrong)

/-- 'shoallaw16.MatJoins': WHATEVER THE INPUT: true; the input reads as it did. -/
def matJoinsSpec : ChangeSpec := { name := "matJoins", fn := fun _ => fun
  | [d1, d2, d3] => { results := [.lit (.bool true)], args := [d1, d2, d3] }
  | _ => none }
def matJoinsRow : OpenClaim := { program := "ytjabdgplgjhieaa", sum := "cffcda0e77f331fa163fd2ab1d2e8dee432d26b53d974c12ea97cc371410d257", func := "shoal/shoallaw16.MatJoins", spec := "matJoins", unfollowed := true, recurses := true, apart := false }
def MatJoinsSaid : Prop := matJoinsRow.holds Try.pinned (OpenSpec.ofChange matJoinsSpec)

/-- ITS FALSE NEIGHBOUR: 'it returns false'. Refute it at one input. -/
def matJoinsWrong : ChangeSpec := { name := "matJoins", fn := fun _ => fun
  | [d1, d2, d3] => { results := [.lit (.bool false)], args := [d1, d2, d3] }
  | _ => none }
def MatJoinsWrongFalsely : Prop := matJoinsRow.holds Try.pinned (OpenSpec.ofChange matJoinsWrong)

/-- 'shoallaw16.MatKnown': WHATEVER THE INPUT: true; the input reads as it did. -/
def matKnownSpec : ChangeSpec := { name := "matKnown", fn := fun _ => fun
  | [] => { results := [.lit (.bool true)], args := [] }
  | _ => none }
def matKnownRow : OpenClaim := { program := "ytjabdgplgjhieaa", sum := "cffcda0e77f331fa163fd2ab1d2e8dee432d26b53d974c12ea97cc371410d257", func := "shoal/shoallaw16.MatKnown", spec := "matKnown", unfollowed := true, recurses := true, apart := false }
def MatKnownSaid : Prop := matKnownRow.holds Try.pinned (OpenSpec.ofChange matKnownSpec)

/-- ITS FALSE NEIGHBOUR: 'it returns false'. Refute it at one input. -/
def matKnownWrong : ChangeSpec := { name := "matKnown", fn := fun _ => fun
  | [] => { results := [.lit (.bool false)], args := [] }
  | _ => none }
def MatKnownWrongFalsely : Prop := matKnownRow.holds Try.pinned (OpenSpec.ofChange matKnownWrong)

/-- 'shoallaw16.MatSays': WHATEVER THE INPUT: true; the input reads as it did. -/
def matSaysSpec : ChangeSpec := { name := "matSays", fn := fun _ => fun
  | [d1, d2, d3, d4, d5, d6] => { results := [.lit (.bool true)], args := [d1, d2, d3, d4, d5, d6] }
  | _ => none }
def matSaysRow : OpenClaim := { program := "ytjabdgplgjhieaa", sum := "cffcda0e77f331fa163fd2ab1d2e8dee432d26b53d974c12ea97cc371410d257", func := "shoal/shoallaw16.MatSays", spec := "matSays", unfollowed := true, recurses := true, apart := false }
def MatSaysSaid : Prop := matSaysRow.holds Try.pinned (OpenSpec.ofChange matSaysSpec)

/-- ITS FALSE NEIGHBOUR: 'it returns false'. Refute it at one input. -/
def matSaysWrong : ChangeSpec := { name := "matSays", fn := fun _ => fun
  | [d1, d2, d3, d4, d5, d6] => { results := [.lit (.bool false)], args := [d1, d2, d3, d4, d5, d6] }
  | _ => none }
def MatSaysWrongFalsely : Prop := matSaysRow.holds Try.pinned (OpenSpec.ofChange matSaysWrong)

/- THE SECOND FORM. 'bulk': how many values and letters a reading holds, each counted each time it is reached (what is shared counts as often as it is met; a slice's spare places count too). A statement '..UptoSaid' is the law's where the arguments, and the package variables that the reading takes, are together of bulk at most 1048576: NARROWER than '..Said'. Prove '..Said' where nothing that the law and all that it calls make is longer than what came in: it says more and counts as full. Else prove '..UptoSaid'. A law counts once. -/
mutual
def uptoBulk {H : Type} : DataW H → Nat
  | .lit (.string bytes) => bytes.length + 1
  | .lit _ => 1
  | .nil => 1
  | .ptr d => uptoBulk d + 1
  | .slice elems spare => uptoBulkAll elems + uptoBulkAll spare + 1
  | .agg parts => uptoBulkAll parts + 1
  | .iface _ d => uptoBulk d + 1
  | .map entries => uptoBulkEntries entries + 1
  | .held _ => 1
def uptoBulkAll {H : Type} : List (DataW H) → Nat
  | [] => 0
  | d :: r => uptoBulk d + uptoBulkAll r
def uptoBulkEntries {H : Type} : List (Lit × DataW H) → Nat
  | [] => 0
  | x :: r => uptoBulkEntry x + uptoBulkEntries r
def uptoBulkEntry {H : Type} : Lit × DataW H → Nat
  | (.string bytes, d) => bytes.length + uptoBulk d + 1
  | (_, d) => uptoBulk d + 1
 end
def uptoSmall : (H : Type) → List (DataW H) → Bool := fun _ ds => decide (uptoBulkAll ds ≤ 1048576)
def OpenSpec.upto (s : _root_.Go.ChangeSpec) : _root_.Go.OpenSpec := { _root_.Go.OpenSpec.ofChange s with cond := some uptoSmall }

/-- 'shoallaw15.VecOrder', WHERE WHAT IT READS IS OF BULK AT MOST 1048576: true; the input reads as it did. -/
def vecOrderUptoRow : OpenClaim := { program := "ytjabdgplgjhieaa", sum := "cffcda0e77f331fa163fd2ab1d2e8dee432d26b53d974c12ea97cc371410d257", func := "shoal/shoallaw15.VecOrder", spec := "vecOrder", apart := false, narrowed := true }
def VecOrderUptoSaid : Prop := vecOrderUptoRow.holds Try.pinned (OpenSpec.upto vecOrderSpec)

/-- 'shoallaw15.VecUps', WHERE WHAT IT READS IS OF BULK AT MOST 1048576: true; the input reads as it did. -/
def vecUpsUptoRow : OpenClaim := { program := "ytjabdgplgjhieaa", sum := "cffcda0e77f331fa163fd2ab1d2e8dee432d26b53d974c12ea97cc371410d257", func := "shoal/shoallaw15.VecUps", spec := "vecUps", apart := false, narrowed := true }
def VecUpsUptoSaid : Prop := vecUpsUptoRow.holds Try.pinned (OpenSpec.upto vecUpsSpec)

/-- 'shoallaw15.VecKnown', WHERE WHAT IT READS IS OF BULK AT MOST 1048576: true; the input reads as it did. -/
def vecKnownUptoRow : OpenClaim := { program := "ytjabdgplgjhieaa", sum := "cffcda0e77f331fa163fd2ab1d2e8dee432d26b53d974c12ea97cc371410d257", func := "shoal/shoallaw15.VecKnown", spec := "vecKnown", apart := false, narrowed := true }
def VecKnownUptoSaid : Prop := vecKnownUptoRow.holds Try.pinned (OpenSpec.upto vecKnownSpec)

/-- 'shoallaw15.VecSays', WHERE WHAT IT READS IS OF BULK AT MOST 1048576: true; the input reads as it did. -/
def vecSaysUptoRow : OpenClaim := { program := "ytjabdgplgjhieaa", sum := "cffcda0e77f331fa163fd2ab1d2e8dee432d26b53d974c12ea97cc371410d257", func := "shoal/shoallaw15.VecSays", spec := "vecSays", apart := false, narrowed := true }
def VecSaysUptoSaid : Prop := vecSaysUptoRow.holds Try.pinned (OpenSpec.upto vecSaysSpec)

/-- 'shoallaw15.VecJoins', WHERE WHAT IT READS IS OF BULK AT MOST 1048576: true; the input reads as it did. -/
def vecJoinsUptoRow : OpenClaim := { program := "ytjabdgplgjhieaa", sum := "cffcda0e77f331fa163fd2ab1d2e8dee432d26b53d974c12ea97cc371410d257", func := "shoal/shoallaw15.VecJoins", spec := "vecJoins", apart := false, narrowed := true }
def VecJoinsUptoSaid : Prop := vecJoinsUptoRow.holds Try.pinned (OpenSpec.upto vecJoinsSpec)

/-- 'shoallaw16.MatUps', WHERE WHAT IT READS IS OF BULK AT MOST 1048576: true; the input reads as it did. -/
def matUpsUptoRow : OpenClaim := { program := "ytjabdgplgjhieaa", sum := "cffcda0e77f331fa163fd2ab1d2e8dee432d26b53d974c12ea97cc371410d257", func := "shoal/shoallaw16.MatUps", spec := "matUps", unfollowed := true, recurses := true, apart := false, narrowed := true }
def MatUpsUptoSaid : Prop := matUpsUptoRow.holds Try.pinned (OpenSpec.upto matUpsSpec)

/-- 'shoallaw16.MatJoins', WHERE WHAT IT READS IS OF BULK AT MOST 1048576: true; the input reads as it did. -/
def matJoinsUptoRow : OpenClaim := { program := "ytjabdgplgjhieaa", sum := "cffcda0e77f331fa163fd2ab1d2e8dee432d26b53d974c12ea97cc371410d257", func := "shoal/shoallaw16.MatJoins", spec := "matJoins", unfollowed := true, recurses := true, apart := false, narrowed := true }
def MatJoinsUptoSaid : Prop := matJoinsUptoRow.holds Try.pinned (OpenSpec.upto matJoinsSpec)

/-- 'shoallaw16.MatKnown', WHERE WHAT IT READS IS OF BULK AT MOST 1048576: true; the input reads as it did. -/
def matKnownUptoRow : OpenClaim := { program := "ytjabdgplgjhieaa", sum := "cffcda0e77f331fa163fd2ab1d2e8dee432d26b53d974c12ea97cc371410d257", func := "shoal/shoallaw16.MatKnown", spec := "matKnown", unfollowed := true, recurses := true, apart := false, narrowed := true }
def MatKnownUptoSaid : Prop := matKnownUptoRow.holds Try.pinned (OpenSpec.upto matKnownSpec)

/-- 'shoallaw16.MatSays', WHERE WHAT IT READS IS OF BULK AT MOST 1048576: true; the input reads as it did. -/
def matSaysUptoRow : OpenClaim := { program := "ytjabdgplgjhieaa", sum := "cffcda0e77f331fa163fd2ab1d2e8dee432d26b53d974c12ea97cc371410d257", func := "shoal/shoallaw16.MatSays", spec := "matSays", unfollowed := true, recurses := true, apart := false, narrowed := true }
def MatSaysUptoSaid : Prop := matSaysUptoRow.holds Try.pinned (OpenSpec.upto matSaysSpec)

end Rows
end Go.Proofs.Ytjabdgplgjhieaa
