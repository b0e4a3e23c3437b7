/-
  No cell of these rows narrows 'for every input' (looked for: loops, veiled, ifaces, maps, wideKeys, modest, calm, conditions, laid).
  DERIVED. THE GIVEN ROWS OF THIS SEAT. 11 by the template 'for every input the law returns true; each argument reads behind the call as it read before'; 0 by the template 'total and deterministic' (their statements: YtkiigdhlnfpebaaTotals.lean).
  GIVEN WITH THE SEED: the statements are not yours to turn. If you find one false, say at which input.
  Laid BY PROGRAM, IN A SANDBOX (cutbox-rows.mjs): the forced cells as the released guide's own fill.sh prints them over the translation 6251e4e7d23f9e91… (all of the seat's roots in one cut). By AI agents, Wed Nov 11 2026. No macro, syntax, notation, axiom, sorry.
-/
import Derived.Test.YtkiigdhlnfpebaaChecked
import GoSem.Claim
import GoSem.ClaimJoined
import GoSem.ClaimMapViews
import Derived.JoinedTies
import Derived.KernelRfl
namespace Go.Proofs.Ytkiigdhlnfpebaa
/- THE CELL 'sum', in the pinned program and in every row, IS THE sha256 OF THE DUMP (.gsa) THAT YtkiigdhlnfpebaaProg.lean LOADS. Nothing in Lean hashes anything: it is a label: what it is worth is what the hold of that sum in a sandbox is worth. -/
noncomputable def Try.pinned : Pinned := { name := "ytkiigdhlnfpebaa", sum := "6251e4e7d23f9e919172149837fa8ed125af8edb338aef96593216038ec90550", checked := Try.checked }
namespace Rows
def none {H : Type} : Left H := { results := [], args := [] }

/-- 'shoallaw13.DockOld': WHATEVER THE INPUT: true; the input reads as it did. -/
def dockOldSpec : ChangeSpec := { name := "dockOld", fn := fun _ => fun
  | [d1, d2, d3] => { results := [.lit (.bool true)], args := [d1, d2, d3] }
  | _ => none }
def dockOldRow : OpenClaim := { program := "ytkiigdhlnfpebaa", sum := "6251e4e7d23f9e919172149837fa8ed125af8edb338aef96593216038ec90550", func := "shoal/shoallaw13.DockOld", spec := "dockOld", apart := false }
def DockOldSaid : Prop := dockOldRow.holds Try.pinned (OpenSpec.ofChange dockOldSpec)

/-- ITS FALSE NEIGHBOUR: 'it returns false'. Refute it at one input. -/
def dockOldWrong : ChangeSpec := { name := "dockOld", fn := fun _ => fun
  | [d1, d2, d3] => { results := [.lit (.bool false)], args := [d1, d2, d3] }
  | _ => none }
def DockOldWrongFalsely : Prop := dockOldRow.holds Try.pinned (OpenSpec.ofChange dockOldWrong)

/-- 'shoallaw3.LebSizes': WHATEVER THE INPUT: true; the input reads as it did. -/
def lebSizesSpec : ChangeSpec := { name := "lebSizes", fn := fun _ => fun
  | [d] => { results := [.lit (.bool true)], args := [d] }
  | _ => none }
def lebSizesRow : OpenClaim := { program := "ytkiigdhlnfpebaa", sum := "6251e4e7d23f9e919172149837fa8ed125af8edb338aef96593216038ec90550", func := "shoal/shoallaw3.LebSizes", spec := "lebSizes", apart := false }
def LebSizesSaid : Prop := lebSizesRow.holds Try.pinned (OpenSpec.ofChange lebSizesSpec)

/-- ITS FALSE NEIGHBOUR: 'it returns false'. Refute it at one input. -/
def lebSizesWrong : ChangeSpec := { name := "lebSizes", fn := fun _ => fun
  | [d] => { results := [.lit (.bool false)], args := [d] }
  | _ => none }
def LebSizesWrongFalsely : Prop := lebSizesRow.holds Try.pinned (OpenSpec.ofChange lebSizesWrong)

/-- 'shoallaw3.LebCuts': WHATEVER THE INPUT: true; the input reads as it did. -/
def lebCutsSpec : ChangeSpec := { name := "lebCuts", fn := fun _ => fun
  | [d1, d2] => { results := [.lit (.bool true)], args := [d1, d2] }
  | _ => none }
def lebCutsRow : OpenClaim := { program := "ytkiigdhlnfpebaa", sum := "6251e4e7d23f9e919172149837fa8ed125af8edb338aef96593216038ec90550", func := "shoal/shoallaw3.LebCuts", spec := "lebCuts", apart := false }
def LebCutsSaid : Prop := lebCutsRow.holds Try.pinned (OpenSpec.ofChange lebCutsSpec)

/-- ITS FALSE NEIGHBOUR: 'it returns false'. Refute it at one input. -/
def lebCutsWrong : ChangeSpec := { name := "lebCuts", fn := fun _ => fun
  | [d1, d2] => { results := [.lit (.bool false)], args := [d1, d2] }
  | _ => none }
def LebCutsWrongFalsely : Prop := lebCutsRow.holds Try.pinned (OpenSpec.ofChange lebCutsWrong)

/-- 'shoallaw3.LebKnown': WHATEVER THE INPUT: true; the input reads as it did. -/
def lebKnownSpec : ChangeSpec := { name := "lebKnown", fn := fun _ => fun
  | [] => { results := [.lit (.bool true)], args := [] }
  | _ => none }
def lebKnownRow : OpenClaim := { program := "ytkiigdhlnfpebaa", sum := "6251e4e7d23f9e919172149837fa8ed125af8edb338aef96593216038ec90550", func := "shoal/shoallaw3.LebKnown", spec := "lebKnown", apart := false }
def LebKnownSaid : Prop := lebKnownRow.holds Try.pinned (OpenSpec.ofChange lebKnownSpec)

/-- ITS FALSE NEIGHBOUR: 'it returns false'. Refute it at one input. -/
def lebKnownWrong : ChangeSpec := { name := "lebKnown", fn := fun _ => fun
  | [] => { results := [.lit (.bool false)], args := [] }
  | _ => none }
def LebKnownWrongFalsely : Prop := lebKnownRow.holds Try.pinned (OpenSpec.ofChange lebKnownWrong)

/-- 'shoallaw3.LebSays': WHATEVER THE INPUT: true; the input reads as it did. -/
def lebSaysSpec : ChangeSpec := { name := "lebSays", fn := fun _ => fun
  | [d1, d2] => { results := [.lit (.bool true)], args := [d1, d2] }
  | _ => none }
def lebSaysRow : OpenClaim := { program := "ytkiigdhlnfpebaa", sum := "6251e4e7d23f9e919172149837fa8ed125af8edb338aef96593216038ec90550", func := "shoal/shoallaw3.LebSays", spec := "lebSays", apart := false }
def LebSaysSaid : Prop := lebSaysRow.holds Try.pinned (OpenSpec.ofChange lebSaysSpec)

/-- ITS FALSE NEIGHBOUR: 'it returns false'. Refute it at one input. -/
def lebSaysWrong : ChangeSpec := { name := "lebSays", fn := fun _ => fun
  | [d1, d2] => { results := [.lit (.bool false)], args := [d1, d2] }
  | _ => none }
def LebSaysWrongFalsely : Prop := lebSaysRow.holds Try.pinned (OpenSpec.ofChange lebSaysWrong)

/-- 'shoallaw3.LebBack': WHATEVER THE INPUT: true; the input reads as it did. -/
def lebBackSpec : ChangeSpec := { name := "lebBack", fn := fun _ => fun
  | [d1, d2] => { results := [.lit (.bool true)], args := [d1, d2] }
  | _ => none }
def lebBackRow : OpenClaim := { program := "ytkiigdhlnfpebaa", sum := "6251e4e7d23f9e919172149837fa8ed125af8edb338aef96593216038ec90550", func := "shoal/shoallaw3.LebBack", spec := "lebBack", apart := false }
def LebBackSaid : Prop := lebBackRow.holds Try.pinned (OpenSpec.ofChange lebBackSpec)

/-- ITS FALSE NEIGHBOUR: 'it returns false'. Refute it at one input. -/
def lebBackWrong : ChangeSpec := { name := "lebBack", fn := fun _ => fun
  | [d1, d2] => { results := [.lit (.bool false)], args := [d1, d2] }
  | _ => none }
def LebBackWrongFalsely : Prop := lebBackRow.holds Try.pinned (OpenSpec.ofChange lebBackWrong)

/-- 'shoallaw5.PaneCuts': WHATEVER THE INPUT: true; the input reads as it did. -/
def paneCutsSpec : ChangeSpec := { name := "paneCuts", fn := fun _ => fun
  | [d1, d2] => { results := [.lit (.bool true)], args := [d1, d2] }
  | _ => none }
def paneCutsRow : OpenClaim := { program := "ytkiigdhlnfpebaa", sum := "6251e4e7d23f9e919172149837fa8ed125af8edb338aef96593216038ec90550", func := "shoal/shoallaw5.PaneCuts", spec := "paneCuts", apart := false }
def PaneCutsSaid : Prop := paneCutsRow.holds Try.pinned (OpenSpec.ofChange paneCutsSpec)

/-- ITS FALSE NEIGHBOUR: 'it returns false'. Refute it at one input. -/
def paneCutsWrong : ChangeSpec := { name := "paneCuts", fn := fun _ => fun
  | [d1, d2] => { results := [.lit (.bool false)], args := [d1, d2] }
  | _ => none }
def PaneCutsWrongFalsely : Prop := paneCutsRow.holds Try.pinned (OpenSpec.ofChange paneCutsWrong)

/-- 'shoallaw8.FrameKnown': WHATEVER THE INPUT: true; the input reads as it did. -/
def frameKnownSpec : ChangeSpec := { name := "frameKnown", fn := fun _ => fun
  | [] => { results := [.lit (.bool true)], args := [] }
  | _ => none }
def frameKnownRow : OpenClaim := { program := "ytkiigdhlnfpebaa", sum := "6251e4e7d23f9e919172149837fa8ed125af8edb338aef96593216038ec90550", func := "shoal/shoallaw8.FrameKnown", spec := "frameKnown", apart := false }
def FrameKnownSaid : Prop := frameKnownRow.holds Try.pinned (OpenSpec.ofChange frameKnownSpec)

/-- ITS FALSE NEIGHBOUR: 'it returns false'. Refute it at one input. -/
def frameKnownWrong : ChangeSpec := { name := "frameKnown", fn := fun _ => fun
  | [] => { results := [.lit (.bool false)], args := [] }
  | _ => none }
def FrameKnownWrongFalsely : Prop := frameKnownRow.holds Try.pinned (OpenSpec.ofChange frameKnownWrong)

/-- 'shoallaw8.FrameSays': WHATEVER THE INPUT: true; the input reads as it did. -/
def frameSaysSpec : ChangeSpec := { name := "frameSays", fn := fun _ => fun
  | [d1, d2] => { results := [.lit (.bool true)], args := [d1, d2] }
  | _ => none }
def frameSaysRow : OpenClaim := { program := "ytkiigdhlnfpebaa", sum := "6251e4e7d23f9e919172149837fa8ed125af8edb338aef96593216038ec90550", func := "shoal/shoallaw8.FrameSays", spec := "frameSays", apart := false }
def FrameSaysSaid : Prop := frameSaysRow.holds Try.pinned (OpenSpec.ofChange frameSaysSpec)

/-- ITS FALSE NEIGHBOUR: 'it returns false'. Refute it at one input. -/
def frameSaysWrong : ChangeSpec := { name := "frameSays", fn := fun _ => fun
  | [d1, d2] => { results := [.lit (.bool false)], args := [d1, d2] }
  | _ => none }
def FrameSaysWrongFalsely : Prop := frameSaysRow.holds Try.pinned (OpenSpec.ofChange frameSaysWrong)

/-- 'shoallaw8.FrameCuts': WHATEVER THE INPUT: true; the input reads as it did. -/
def frameCutsSpec : ChangeSpec := { name := "frameCuts", fn := fun _ => fun
  | [d1, d2, d3] => { results := [.lit (.bool true)], args := [d1, d2, d3] }
  | _ => none }
def frameCutsRow : OpenClaim := { program := "ytkiigdhlnfpebaa", sum := "6251e4e7d23f9e919172149837fa8ed125af8edb338aef96593216038ec90550", func := "shoal/shoallaw8.FrameCuts", spec := "frameCuts", apart := false }
def FrameCutsSaid : Prop := frameCutsRow.holds Try.pinned (OpenSpec.ofChange frameCutsSpec)

/-- ITS FALSE NEIGHBOUR: 'it returns false'. Refute it at one input. -/
def frameCutsWrong : ChangeSpec := { name := "frameCuts", fn := fun _ => fun
  | [d1, d2, d3] => { results := [.lit (.bool false)], args := [d1, d2, d3] }
  | _ => none }
def FrameCutsWrongFalsely : Prop := frameCutsRow.holds Try.pinned (OpenSpec.ofChange frameCutsWrong)

/-- 'shoallaw8.FrameTold': WHATEVER THE INPUT: true; the input reads as it did. -/
def frameToldSpec : ChangeSpec := { name := "frameTold", fn := fun _ => fun
  | [d1, d2] => { results := [.lit (.bool true)], args := [d1, d2] }
  | _ => none }
def frameToldRow : OpenClaim := { program := "ytkiigdhlnfpebaa", sum := "6251e4e7d23f9e919172149837fa8ed125af8edb338aef96593216038ec90550", func := "shoal/shoallaw8.FrameTold", spec := "frameTold", apart := false }
def FrameToldSaid : Prop := frameToldRow.holds Try.pinned (OpenSpec.ofChange frameToldSpec)

/-- ITS FALSE NEIGHBOUR: 'it returns false'. Refute it at one input. -/
def frameToldWrong : ChangeSpec := { name := "frameTold", fn := fun _ => fun
  | [d1, d2] => { results := [.lit (.bool false)], args := [d1, d2] }
  | _ => none }
def FrameToldWrongFalsely : Prop := frameToldRow.holds Try.pinned (OpenSpec.ofChange frameToldWrong)

/- THE SECOND FORM. 'bulk': how many values and letters a reading holds, each counted each time it is reached (what is shared counts as often as it is met; a slice's spare places count too). A statement '..UptoSaid' is the law's where the arguments, and the package variables that the reading takes, are together of bulk at most 1048576: NARROWER than '..Said'. Prove '..Said' where nothing that the law and all that it calls make is longer than what came in: it says more and counts as full. Else prove '..UptoSaid'. A law counts once. -/
mutual
def uptoBulk {H : Type} : DataW H → Nat
  | .lit (.string bytes) => bytes.length + 1
  | .lit _ => 1
  | .nil => 1
  | .ptr d => uptoBulk d + 1
  | .slice elems spare => uptoBulkAll elems + uptoBulkAll spare + 1
  | .agg parts => uptoBulkAll parts + 1
  | .iface _ d => uptoBulk d + 1
  | .map entries => uptoBulkEntries entries + 1
  | .held _ => 1
def uptoBulkAll {H : Type} : List (DataW H) → Nat
  | [] => 0
  | d :: r => uptoBulk d + uptoBulkAll r
def uptoBulkEntries {H : Type} : List (Lit × DataW H) → Nat
  | [] => 0
  | x :: r => uptoBulkEntry x + uptoBulkEntries r
def uptoBulkEntry {H : Type} : Lit × DataW H → Nat
  | (.string bytes, d) => bytes.length + uptoBulk d + 1
  | (_, d) => uptoBulk d + 1
 end
def uptoSmall : (H : Type) → List (DataW H) → Bool := fun _ ds => decide (uptoBulkAll ds ≤ 1048576)
def OpenSpec.upto (s : _root_.Go.ChangeSpec) : _root_.Go.OpenSpec := { _root_.Go.OpenSpec.ofChange s with cond := some uptoSmall }

/-- 'shoallaw13.DockOld', WHERE WHAT IT READS IS OF BULK AT MOST 1048576: true; the input reads as it did. -/
def dockOldUptoRow : OpenClaim := { program := "ytkiigdhlnfpebaa", sum := "6251e4e7d23f9e919172149837fa8ed125af8edb338aef96593216038ec90550", func := "shoal/shoallaw13.DockOld", spec := "dockOld", apart := false, narrowed := true }
def DockOldUptoSaid : Prop := dockOldUptoRow.holds Try.pinned (OpenSpec.upto dockOldSpec)

/-- 'shoallaw3.LebSizes', WHERE WHAT IT READS IS OF BULK AT MOST 1048576: true; the input reads as it did. -/
def lebSizesUptoRow : OpenClaim := { program := "ytkiigdhlnfpebaa", sum := "6251e4e7d23f9e919172149837fa8ed125af8edb338aef96593216038ec90550", func := "shoal/shoallaw3.LebSizes", spec := "lebSizes", apart := false, narrowed := true }
def LebSizesUptoSaid : Prop := lebSizesUptoRow.holds Try.pinned (OpenSpec.upto lebSizesSpec)

/-- 'shoallaw3.LebCuts', WHERE WHAT IT READS IS OF BULK AT MOST 1048576: true; the input reads as it did. -/
def lebCutsUptoRow : OpenClaim := { program := "ytkiigdhlnfpebaa", sum := "6251e4e7d23f9e919172149837fa8ed125af8edb338aef96593216038ec90550", func := "shoal/shoallaw3.LebCuts", spec := "lebCuts", apart := false, narrowed := true }
def LebCutsUptoSaid : Prop := lebCutsUptoRow.holds Try.pinned (OpenSpec.upto lebCutsSpec)

/-- 'shoallaw3.LebKnown', WHERE WHAT IT READS IS OF BULK AT MOST 1048576: true; the input reads as it did. -/
def lebKnownUptoRow : OpenClaim := { program := "ytkiigdhlnfpebaa", sum := "6251e4e7d23f9e919172149837fa8ed125af8edb338aef96593216038ec90550", func := "shoal/shoallaw3.LebKnown", spec := "lebKnown", apart := false, narrowed := true }
def LebKnownUptoSaid : Prop := lebKnownUptoRow.holds Try.pinned (OpenSpec.upto lebKnownSpec)

/-- 'shoallaw3.LebSays', WHERE WHAT IT READS IS OF BULK AT MOST 1048576: true; the input reads as it did. -/
def lebSaysUptoRow : OpenClaim := { program := "ytkiigdhlnfpebaa", sum := "6251e4e7d23f9e919172149837fa8ed125af8edb338aef96593216038ec90550", func := "shoal/shoallaw3.LebSays", spec := "lebSays", apart := false, narrowed := true }
def LebSaysUptoSaid : Prop := lebSaysUptoRow.holds Try.pinned (OpenSpec.upto lebSaysSpec)

/-- 'shoallaw3.LebBack', WHERE WHAT IT READS IS OF BULK AT MOST 1048576: true; the input reads as it did. -/
def lebBackUptoRow : OpenClaim := { program := "ytkiigdhlnfpebaa", sum := "6251e4e7d23f9e919172149837fa8ed125af8edb338aef96593216038ec90550", func := "shoal/shoallaw3.LebBack", spec := "lebBack", apart := false, narrowed := true }
def LebBackUptoSaid : Prop := lebBackUptoRow.holds Try.pinned (OpenSpec.upto lebBackSpec)

/-- 'shoallaw5.PaneCuts', WHERE WHAT IT READS IS OF BULK AT MOST 1048576: true; the input reads as it did. -/
def paneCutsUptoRow : OpenClaim := { program := "ytkiigdhlnfpebaa", sum := "6251e4e7d23f9e919172149837fa8ed125af8edb338aef96593216038ec90550", func := "shoal/shoallaw5.PaneCuts", spec := "paneCuts", apart := false, narrowed := true }
def PaneCutsUptoSaid : Prop := paneCutsUptoRow.holds Try.pinned (OpenSpec.upto paneCutsSpec)

/-- 'shoallaw8.FrameKnown', WHERE WHAT IT READS IS OF BULK AT MOST 1048576: true; the input reads as it did. -/
def frameKnownUptoRow : OpenClaim := { program := "ytkiigdhlnfpebaa", sum := "6251e4e7d23f9e919172149837fa8ed125af8edb338aef96593216038ec90550", func := "shoal/shoallaw8.FrameKnown", spec := "frameKnown", apart := false, narrowed := true }
def FrameKnownUptoSaid : Prop := frameKnownUptoRow.holds Try.pinned (OpenSpec.upto frameKnownSpec)

/-- 'shoallaw8.FrameSays', WHERE WHAT IT READS IS OF BULK AT MOST 1048576: true; the input reads as it did. -/
def frameSaysUptoRow : OpenClaim := { program := "ytkiigdhlnfpebaa", sum := "6251e4e7d23f9e919172149837fa8ed125af8edb338aef96593216038ec90550", func := "shoal/shoallaw8.FrameSays", spec := "frameSays", apart := false, narrowed := true }
def FrameSaysUptoSaid : Prop := frameSaysUptoRow.holds Try.pinned (OpenSpec.upto frameSaysSpec)

/-- 'shoallaw8.FrameCuts', WHERE WHAT IT READS IS OF BULK AT MOST 1048576: true; the input reads as it did. -/
def frameCutsUptoRow : OpenClaim := { program := "ytkiigdhlnfpebaa", sum := "6251e4e7d23f9e919172149837fa8ed125af8edb338aef96593216038ec90550", func := "shoal/shoallaw8.FrameCuts", spec := "frameCuts", apart := false, narrowed := true }
def FrameCutsUptoSaid : Prop := frameCutsUptoRow.holds Try.pinned (OpenSpec.upto frameCutsSpec)

/-- 'shoallaw8.FrameTold', WHERE WHAT IT READS IS OF BULK AT MOST 1048576: true; the input reads as it did. -/
def frameToldUptoRow : OpenClaim := { program := "ytkiigdhlnfpebaa", sum := "6251e4e7d23f9e919172149837fa8ed125af8edb338aef96593216038ec90550", func := "shoal/shoallaw8.FrameTold", spec := "frameTold", apart := false, narrowed := true }
def FrameToldUptoSaid : Prop := frameToldUptoRow.holds Try.pinned (OpenSpec.upto frameToldSpec)

end Rows
end Go.Proofs.Ytkiigdhlnfpebaa
