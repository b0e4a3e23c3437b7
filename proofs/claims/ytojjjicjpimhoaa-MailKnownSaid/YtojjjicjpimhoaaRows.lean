/-
  No cell of these rows narrows 'for every input' (looked for: loops, veiled, ifaces, maps, wideKeys, modest, calm, conditions, laid).
  DERIVED. THE GIVEN ROWS OF THIS SEAT. 14 by the template 'for every input the law returns true; each argument reads behind the call as it read before'; 0 by the template 'total and deterministic' (their statements: YtojjjicjpimhoaaTotals.lean).
  GIVEN WITH THE SEED: the statements are not yours to turn. If you find one false, say at which input.
  Laid BY PROGRAM, IN A SANDBOX (cutbox-rows.mjs): the forced cells as the released guide's own fill.sh prints them over the translation 55ab71666abd9820… (all of the seat's roots in one cut). By AI agents, Wed Nov 11 2026. No macro, syntax, notation, axiom, sorry.
-/
import Derived.Test.YtojjjicjpimhoaaChecked
import GoSem.Claim
import GoSem.ClaimJoined
import GoSem.ClaimMapViews
import Derived.JoinedTies
import Derived.KernelRfl
namespace Go.Proofs.Ytojjjicjpimhoaa
/- THE CELL 'sum', in the pinned program and in every row, IS THE sha256 OF THE DUMP (.gsa) THAT YtojjjicjpimhoaaProg.lean LOADS. Nothing in Lean hashes anything: it is a label: what it is worth is what the hold of that sum in a sandbox is worth. -/
noncomputable def Try.pinned : Pinned := { name := "ytojjjicjpimhoaa", sum := "55ab71666abd9820557c2877cfdb4c9d345502c4edae696ae60e3db5ade3230c", checked := Try.checked }
namespace Rows
def none {H : Type} : Left H := { results := [], args := [] }

/-- 'shoallaw17.FullStamps': WHATEVER THE INPUT: true; the input reads as it did. -/
def fullStampsSpec : ChangeSpec := { name := "fullStamps", fn := fun _ => fun
  | [d1, d2, d3] => { results := [.lit (.bool true)], args := [d1, d2, d3] }
  | _ => none }
def fullStampsRow : OpenClaim := { program := "ytojjjicjpimhoaa", sum := "55ab71666abd9820557c2877cfdb4c9d345502c4edae696ae60e3db5ade3230c", func := "shoal/shoallaw17.FullStamps", spec := "fullStamps", unfollowed := true, recurses := true, apart := false }
def FullStampsSaid : Prop := fullStampsRow.holds Try.pinned (OpenSpec.ofChange fullStampsSpec)

/-- ITS FALSE NEIGHBOUR: 'it returns false'. Refute it at one input. -/
def fullStampsWrong : ChangeSpec := { name := "fullStamps", fn := fun _ => fun
  | [d1, d2, d3] => { results := [.lit (.bool false)], args := [d1, d2, d3] }
  | _ => none }
def FullStampsWrongFalsely : Prop := fullStampsRow.holds Try.pinned (OpenSpec.ofChange fullStampsWrong)

/-- 'shoallaw17.FullKnown': WHATEVER THE INPUT: true; the input reads as it did. -/
def fullKnownSpec : ChangeSpec := { name := "fullKnown", fn := fun _ => fun
  | [] => { results := [.lit (.bool true)], args := [] }
  | _ => none }
def fullKnownRow : OpenClaim := { program := "ytojjjicjpimhoaa", sum := "55ab71666abd9820557c2877cfdb4c9d345502c4edae696ae60e3db5ade3230c", func := "shoal/shoallaw17.FullKnown", spec := "fullKnown", unfollowed := true, recurses := true, apart := false }
def FullKnownSaid : Prop := fullKnownRow.holds Try.pinned (OpenSpec.ofChange fullKnownSpec)

/-- ITS FALSE NEIGHBOUR: 'it returns false'. Refute it at one input. -/
def fullKnownWrong : ChangeSpec := { name := "fullKnown", fn := fun _ => fun
  | [] => { results := [.lit (.bool false)], args := [] }
  | _ => none }
def FullKnownWrongFalsely : Prop := fullKnownRow.holds Try.pinned (OpenSpec.ofChange fullKnownWrong)

/-- 'shoallaw17.FullPlays': WHATEVER THE INPUT: true; the input reads as it did. -/
def fullPlaysSpec : ChangeSpec := { name := "fullPlays", fn := fun _ => fun
  | [d1, d2, d3] => { results := [.lit (.bool true)], args := [d1, d2, d3] }
  | _ => none }
def fullPlaysRow : OpenClaim := { program := "ytojjjicjpimhoaa", sum := "55ab71666abd9820557c2877cfdb4c9d345502c4edae696ae60e3db5ade3230c", func := "shoal/shoallaw17.FullPlays", spec := "fullPlays", unfollowed := true, recurses := true, apart := false }
def FullPlaysSaid : Prop := fullPlaysRow.holds Try.pinned (OpenSpec.ofChange fullPlaysSpec)

/-- ITS FALSE NEIGHBOUR: 'it returns false'. Refute it at one input. -/
def fullPlaysWrong : ChangeSpec := { name := "fullPlays", fn := fun _ => fun
  | [d1, d2, d3] => { results := [.lit (.bool false)], args := [d1, d2, d3] }
  | _ => none }
def FullPlaysWrongFalsely : Prop := fullPlaysRow.holds Try.pinned (OpenSpec.ofChange fullPlaysWrong)

/-- 'shoallaw17.FullOrder': WHATEVER THE INPUT: true; the input reads as it did. -/
def fullOrderSpec : ChangeSpec := { name := "fullOrder", fn := fun _ => fun
  | [d1, d2, d3, d4, d5] => { results := [.lit (.bool true)], args := [d1, d2, d3, d4, d5] }
  | _ => none }
def fullOrderRow : OpenClaim := { program := "ytojjjicjpimhoaa", sum := "55ab71666abd9820557c2877cfdb4c9d345502c4edae696ae60e3db5ade3230c", func := "shoal/shoallaw17.FullOrder", spec := "fullOrder", unfollowed := true, recurses := true, apart := false }
def FullOrderSaid : Prop := fullOrderRow.holds Try.pinned (OpenSpec.ofChange fullOrderSpec)

/-- ITS FALSE NEIGHBOUR: 'it returns false'. Refute it at one input. -/
def fullOrderWrong : ChangeSpec := { name := "fullOrder", fn := fun _ => fun
  | [d1, d2, d3, d4, d5] => { results := [.lit (.bool false)], args := [d1, d2, d3, d4, d5] }
  | _ => none }
def FullOrderWrongFalsely : Prop := fullOrderRow.holds Try.pinned (OpenSpec.ofChange fullOrderWrong)

/-- 'shoallaw17.FullKnows': WHATEVER THE INPUT: true; the input reads as it did. -/
def fullKnowsSpec : ChangeSpec := { name := "fullKnows", fn := fun _ => fun
  | [d1, d2] => { results := [.lit (.bool true)], args := [d1, d2] }
  | _ => none }
def fullKnowsRow : OpenClaim := { program := "ytojjjicjpimhoaa", sum := "55ab71666abd9820557c2877cfdb4c9d345502c4edae696ae60e3db5ade3230c", func := "shoal/shoallaw17.FullKnows", spec := "fullKnows", unfollowed := true, recurses := true, apart := false }
def FullKnowsSaid : Prop := fullKnowsRow.holds Try.pinned (OpenSpec.ofChange fullKnowsSpec)

/-- ITS FALSE NEIGHBOUR: 'it returns false'. Refute it at one input. -/
def fullKnowsWrong : ChangeSpec := { name := "fullKnows", fn := fun _ => fun
  | [d1, d2] => { results := [.lit (.bool false)], args := [d1, d2] }
  | _ => none }
def FullKnowsWrongFalsely : Prop := fullKnowsRow.holds Try.pinned (OpenSpec.ofChange fullKnowsWrong)

/-- 'shoallaw5.PaneCuts': WHATEVER THE INPUT: true; the input reads as it did. -/
def paneCutsSpec : ChangeSpec := { name := "paneCuts", fn := fun _ => fun
  | [d1, d2] => { results := [.lit (.bool true)], args := [d1, d2] }
  | _ => none }
def paneCutsRow : OpenClaim := { program := "ytojjjicjpimhoaa", sum := "55ab71666abd9820557c2877cfdb4c9d345502c4edae696ae60e3db5ade3230c", func := "shoal/shoallaw5.PaneCuts", spec := "paneCuts", apart := false }
def PaneCutsSaid : Prop := paneCutsRow.holds Try.pinned (OpenSpec.ofChange paneCutsSpec)

/-- ITS FALSE NEIGHBOUR: 'it returns false'. Refute it at one input. -/
def paneCutsWrong : ChangeSpec := { name := "paneCuts", fn := fun _ => fun
  | [d1, d2] => { results := [.lit (.bool false)], args := [d1, d2] }
  | _ => none }
def PaneCutsWrongFalsely : Prop := paneCutsRow.holds Try.pinned (OpenSpec.ofChange paneCutsWrong)

/-- 'shoallaw5.PaneReads': WHATEVER THE INPUT: true; the input reads as it did. -/
def paneReadsSpec : ChangeSpec := { name := "paneReads", fn := fun _ => fun
  | [d1, d2, d3] => { results := [.lit (.bool true)], args := [d1, d2, d3] }
  | _ => none }
def paneReadsRow : OpenClaim := { program := "ytojjjicjpimhoaa", sum := "55ab71666abd9820557c2877cfdb4c9d345502c4edae696ae60e3db5ade3230c", func := "shoal/shoallaw5.PaneReads", spec := "paneReads", inPlace := ["math.Float64frombits", "math.Float64bits"], apart := false }
def PaneReadsSaid : Prop := paneReadsRow.holds Try.pinned (OpenSpec.ofChange paneReadsSpec)

/-- ITS FALSE NEIGHBOUR: 'it returns false'. Refute it at one input. -/
def paneReadsWrong : ChangeSpec := { name := "paneReads", fn := fun _ => fun
  | [d1, d2, d3] => { results := [.lit (.bool false)], args := [d1, d2, d3] }
  | _ => none }
def PaneReadsWrongFalsely : Prop := paneReadsRow.holds Try.pinned (OpenSpec.ofChange paneReadsWrong)

/-- 'shoallaw5.PaneFloats': WHATEVER THE INPUT: true; the input reads as it did. -/
def paneFloatsSpec : ChangeSpec := { name := "paneFloats", fn := fun _ => fun
  | [d] => { results := [.lit (.bool true)], args := [d] }
  | _ => none }
def paneFloatsRow : OpenClaim := { program := "ytojjjicjpimhoaa", sum := "55ab71666abd9820557c2877cfdb4c9d345502c4edae696ae60e3db5ade3230c", func := "shoal/shoallaw5.PaneFloats", spec := "paneFloats", inPlace := ["math.Float64bits", "math.Float64frombits"], apart := false }
def PaneFloatsSaid : Prop := paneFloatsRow.holds Try.pinned (OpenSpec.ofChange paneFloatsSpec)

/-- ITS FALSE NEIGHBOUR: 'it returns false'. Refute it at one input. -/
def paneFloatsWrong : ChangeSpec := { name := "paneFloats", fn := fun _ => fun
  | [d] => { results := [.lit (.bool false)], args := [d] }
  | _ => none }
def PaneFloatsWrongFalsely : Prop := paneFloatsRow.holds Try.pinned (OpenSpec.ofChange paneFloatsWrong)

/-- 'shoallaw5.PaneWrites': WHATEVER THE INPUT: true; the input reads as it did. -/
def paneWritesSpec : ChangeSpec := { name := "paneWrites", fn := fun _ => fun
  | [d] => { results := [.lit (.bool true)], args := [d] }
  | _ => none }
def paneWritesRow : OpenClaim := { program := "ytojjjicjpimhoaa", sum := "55ab71666abd9820557c2877cfdb4c9d345502c4edae696ae60e3db5ade3230c", func := "shoal/shoallaw5.PaneWrites", spec := "paneWrites", inPlace := ["math.Float64bits", "math.Float64frombits"], apart := false }
def PaneWritesSaid : Prop := paneWritesRow.holds Try.pinned (OpenSpec.ofChange paneWritesSpec)

/-- ITS FALSE NEIGHBOUR: 'it returns false'. Refute it at one input. -/
def paneWritesWrong : ChangeSpec := { name := "paneWrites", fn := fun _ => fun
  | [d] => { results := [.lit (.bool false)], args := [d] }
  | _ => none }
def PaneWritesWrongFalsely : Prop := paneWritesRow.holds Try.pinned (OpenSpec.ofChange paneWritesWrong)

/-- 'shoallaw5.PaneKnown': WHATEVER THE INPUT: true; the input reads as it did. -/
def paneKnownSpec : ChangeSpec := { name := "paneKnown", fn := fun _ => fun
  | [] => { results := [.lit (.bool true)], args := [] }
  | _ => none }
def paneKnownRow : OpenClaim := { program := "ytojjjicjpimhoaa", sum := "55ab71666abd9820557c2877cfdb4c9d345502c4edae696ae60e3db5ade3230c", func := "shoal/shoallaw5.PaneKnown", spec := "paneKnown", inPlace := ["math.Float64bits", "math.Float64frombits"], apart := false }
def PaneKnownSaid : Prop := paneKnownRow.holds Try.pinned (OpenSpec.ofChange paneKnownSpec)

/-- ITS FALSE NEIGHBOUR: 'it returns false'. Refute it at one input. -/
def paneKnownWrong : ChangeSpec := { name := "paneKnown", fn := fun _ => fun
  | [] => { results := [.lit (.bool false)], args := [] }
  | _ => none }
def PaneKnownWrongFalsely : Prop := paneKnownRow.holds Try.pinned (OpenSpec.ofChange paneKnownWrong)

/-- 'shoallaw7.MailSays': WHATEVER THE INPUT: true; the input reads as it did. -/
def mailSaysSpec : ChangeSpec := { name := "mailSays", fn := fun _ => fun
  | [d1, d2] => { results := [.lit (.bool true)], args := [d1, d2] }
  | _ => none }
def mailSaysRow : OpenClaim := { program := "ytojjjicjpimhoaa", sum := "55ab71666abd9820557c2877cfdb4c9d345502c4edae696ae60e3db5ade3230c", func := "shoal/shoallaw7.MailSays", spec := "mailSays", inPlace := ["math.Float64bits", "math.Float64frombits"], apart := false }
def MailSaysSaid : Prop := mailSaysRow.holds Try.pinned (OpenSpec.ofChange mailSaysSpec)

/-- ITS FALSE NEIGHBOUR: 'it returns false'. Refute it at one input. -/
def mailSaysWrong : ChangeSpec := { name := "mailSays", fn := fun _ => fun
  | [d1, d2] => { results := [.lit (.bool false)], args := [d1, d2] }
  | _ => none }
def MailSaysWrongFalsely : Prop := mailSaysRow.holds Try.pinned (OpenSpec.ofChange mailSaysWrong)

/-- 'shoallaw7.MailBack': WHATEVER THE INPUT: true; the input reads as it did. -/
def mailBackSpec : ChangeSpec := { name := "mailBack", fn := fun _ => fun
  | [d1, d2] => { results := [.lit (.bool true)], args := [d1, d2] }
  | _ => none }
def mailBackRow : OpenClaim := { program := "ytojjjicjpimhoaa", sum := "55ab71666abd9820557c2877cfdb4c9d345502c4edae696ae60e3db5ade3230c", func := "shoal/shoallaw7.MailBack", spec := "mailBack", inPlace := ["math.Float64bits", "math.Float64frombits"], apart := false }
def MailBackSaid : Prop := mailBackRow.holds Try.pinned (OpenSpec.ofChange mailBackSpec)

/-- ITS FALSE NEIGHBOUR: 'it returns false'. Refute it at one input. -/
def mailBackWrong : ChangeSpec := { name := "mailBack", fn := fun _ => fun
  | [d1, d2] => { results := [.lit (.bool false)], args := [d1, d2] }
  | _ => none }
def MailBackWrongFalsely : Prop := mailBackRow.holds Try.pinned (OpenSpec.ofChange mailBackWrong)

/-- 'shoallaw7.MailKinds': WHATEVER THE INPUT: true; the input reads as it did. -/
def mailKindsSpec : ChangeSpec := { name := "mailKinds", fn := fun _ => fun
  | [d] => { results := [.lit (.bool true)], args := [d] }
  | _ => none }
def mailKindsRow : OpenClaim := { program := "ytojjjicjpimhoaa", sum := "55ab71666abd9820557c2877cfdb4c9d345502c4edae696ae60e3db5ade3230c", func := "shoal/shoallaw7.MailKinds", spec := "mailKinds", inPlace := ["math.Float64bits", "math.Float64frombits"], apart := false }
def MailKindsSaid : Prop := mailKindsRow.holds Try.pinned (OpenSpec.ofChange mailKindsSpec)

/-- ITS FALSE NEIGHBOUR: 'it returns false'. Refute it at one input. -/
def mailKindsWrong : ChangeSpec := { name := "mailKinds", fn := fun _ => fun
  | [d] => { results := [.lit (.bool false)], args := [d] }
  | _ => none }
def MailKindsWrongFalsely : Prop := mailKindsRow.holds Try.pinned (OpenSpec.ofChange mailKindsWrong)

/-- 'shoallaw7.MailKnown': WHATEVER THE INPUT: true; the input reads as it did. -/
def mailKnownSpec : ChangeSpec := { name := "mailKnown", fn := fun _ => fun
  | [] => { results := [.lit (.bool true)], args := [] }
  | _ => none }
def mailKnownRow : OpenClaim := { program := "ytojjjicjpimhoaa", sum := "55ab71666abd9820557c2877cfdb4c9d345502c4edae696ae60e3db5ade3230c", func := "shoal/shoallaw7.MailKnown", spec := "mailKnown", inPlace := ["math.Float64bits", "math.Float64frombits"], apart := false }
def MailKnownSaid : Prop := mailKnownRow.holds Try.pinned (OpenSpec.ofChange mailKnownSpec)

/-- ITS FALSE NEIGHBOUR: 'it returns false'. Refute it at one input. -/
def mailKnownWrong : ChangeSpec := { name := "mailKnown", fn := fun _ => fun
  | [] => { results := [.lit (.bool false)], args := [] }
  | _ => none }
def MailKnownWrongFalsely : Prop := mailKnownRow.holds Try.pinned (OpenSpec.ofChange mailKnownWrong)

/- THE SECOND FORM. 'bulk': how many values and letters a reading holds, each counted each time it is reached (what is shared counts as often as it is met; a slice's spare places count too). A statement '..UptoSaid' is the law's where the arguments, and the package variables that the reading takes, are together of bulk at most 1048576: NARROWER than '..Said'. Prove '..Said' where nothing that the law and all that it calls make is longer than what came in: it says more and counts as full. Else prove '..UptoSaid'. A law counts once. -/
mutual
def uptoBulk {H : Type} : DataW H → Nat
  | .lit (.string bytes) => bytes.length + 1
  | .lit _ => 1
  | .nil => 1
  | .ptr d => uptoBulk d + 1
  | .slice elems spare => uptoBulkAll elems + uptoBulkAll spare + 1
  | .agg parts => uptoBulkAll parts + 1
  | .iface _ d => uptoBulk d + 1
  | .map entries => uptoBulkEntries entries + 1
  | .held _ => 1
def uptoBulkAll {H : Type} : List (DataW H) → Nat
  | [] => 0
  | d :: r => uptoBulk d + uptoBulkAll r
def uptoBulkEntries {H : Type} : List (Lit × DataW H) → Nat
  | [] => 0
  | x :: r => uptoBulkEntry x + uptoBulkEntries r
def uptoBulkEntry {H : Type} : Lit × DataW H → Nat
  | (.string bytes, d) => bytes.length + uptoBulk d + 1
  | (_, d) => uptoBulk d + 1
 end
def uptoSmall : (H : Type) → List (DataW H) → Bool := fun _ ds => decide (uptoBulkAll ds ≤ 1048576)
def OpenSpec.upto (s : _root_.Go.ChangeSpec) : _root_.Go.OpenSpec := { _root_.Go.OpenSpec.ofChange s with cond := some uptoSmall }

/-- 'shoallaw17.FullStamps', WHERE WHAT IT READS IS OF BULK AT MOST 1048576: true; the input reads as it did. -/
def fullStampsUptoRow : OpenClaim := { program := "ytojjjicjpimhoaa", sum := "55ab71666abd9820557c2877cfdb4c9d345502c4edae696ae60e3db5ade3230c", func := "shoal/shoallaw17.FullStamps", spec := "fullStamps", unfollowed := true, recurses := true, apart := false, narrowed := true }
def FullStampsUptoSaid : Prop := fullStampsUptoRow.holds Try.pinned (OpenSpec.upto fullStampsSpec)

/-- 'shoallaw17.FullKnown', WHERE WHAT IT READS IS OF BULK AT MOST 1048576: true; the input reads as it did. -/
def fullKnownUptoRow : OpenClaim := { program := "ytojjjicjpimhoaa", sum := "55ab71666abd9820557c2877cfdb4c9d345502c4edae696ae60e3db5ade3230c", func := "shoal/shoallaw17.FullKnown", spec := "fullKnown", unfollowed := true, recurses := true, apart := false, narrowed := true }
def FullKnownUptoSaid : Prop := fullKnownUptoRow.holds Try.pinned (OpenSpec.upto fullKnownSpec)

/-- 'shoallaw17.FullPlays', WHERE WHAT IT READS IS OF BULK AT MOST 1048576: true; the input reads as it did. -/
def fullPlaysUptoRow : OpenClaim := { program := "ytojjjicjpimhoaa", sum := "55ab71666abd9820557c2877cfdb4c9d345502c4edae696ae60e3db5ade3230c", func := "shoal/shoallaw17.FullPlays", spec := "fullPlays", unfollowed := true, recurses := true, apart := false, narrowed := true }
def FullPlaysUptoSaid : Prop := fullPlaysUptoRow.holds Try.pinned (OpenSpec.upto fullPlaysSpec)

/-- 'shoallaw17.FullOrder', WHERE WHAT IT READS IS OF BULK AT MOST 1048576: true; the input reads as it did. -/
def fullOrderUptoRow : OpenClaim := { program := "ytojjjicjpimhoaa", sum := "55ab71666abd9820557c2877cfdb4c9d345502c4edae696ae60e3db5ade3230c", func := "shoal/shoallaw17.FullOrder", spec := "fullOrder", unfollowed := true, recurses := true, apart := false, narrowed := true }
def FullOrderUptoSaid : Prop := fullOrderUptoRow.holds Try.pinned (OpenSpec.upto fullOrderSpec)

/-- 'shoallaw17.FullKnows', WHERE WHAT IT READS IS OF BULK AT MOST 1048576: true; the input reads as it did. -/
def fullKnowsUptoRow : OpenClaim := { program := "ytojjjicjpimhoaa", sum := "55ab71666abd9820557c2877cfdb4c9d345502c4edae696ae60e3db5ade3230c", func := "shoal/shoallaw17.FullKnows", spec := "fullKnows", unfollowed := true, recurses := true, apart := false, narrowed := true }
def FullKnowsUptoSaid : Prop := fullKnowsUptoRow.holds Try.pinned (OpenSpec.upto fullKnowsSpec)

/-- 'shoallaw5.PaneCuts', WHERE WHAT IT READS IS OF BULK AT MOST 1048576: true; the input reads as it did. -/
def paneCutsUptoRow : OpenClaim := { program := "ytojjjicjpimhoaa", sum := "55ab71666abd9820557c2877cfdb4c9d345502c4edae696ae60e3db5ade3230c", func := "shoal/shoallaw5.PaneCuts", spec := "paneCuts", apart := false, narrowed := true }
def PaneCutsUptoSaid : Prop := paneCutsUptoRow.holds Try.pinned (OpenSpec.upto paneCutsSpec)

/-- 'shoallaw5.PaneReads', WHERE WHAT IT READS IS OF BULK AT MOST 1048576: true; the input reads as it did. -/
def paneReadsUptoRow : OpenClaim := { program := "ytojjjicjpimhoaa", sum := "55ab71666abd9820557c2877cfdb4c9d345502c4edae696ae60e3db5ade3230c", func := "shoal/shoallaw5.PaneReads", spec := "paneReads", inPlace := ["math.Float64frombits", "math.Float64bits"], apart := false, narrowed := true }
def PaneReadsUptoSaid : Prop := paneReadsUptoRow.holds Try.pinned (OpenSpec.upto paneReadsSpec)

/-- 'shoallaw5.PaneFloats', WHERE WHAT IT READS IS OF BULK AT MOST 1048576: true; the input reads as it did. -/
def paneFloatsUptoRow : OpenClaim := { program := "ytojjjicjpimhoaa", sum := "55ab71666abd9820557c2877cfdb4c9d345502c4edae696ae60e3db5ade3230c", func := "shoal/shoallaw5.PaneFloats", spec := "paneFloats", inPlace := ["math.Float64bits", "math.Float64frombits"], apart := false, narrowed := true }
def PaneFloatsUptoSaid : Prop := paneFloatsUptoRow.holds Try.pinned (OpenSpec.upto paneFloatsSpec)

/-- 'shoallaw5.PaneWrites', WHERE WHAT IT READS IS OF BULK AT MOST 1048576: true; the input reads as it did. -/
def paneWritesUptoRow : OpenClaim := { program := "ytojjjicjpimhoaa", sum := "55ab71666abd9820557c2877cfdb4c9d345502c4edae696ae60e3db5ade3230c", func := "shoal/shoallaw5.PaneWrites", spec := "paneWrites", inPlace := ["math.Float64bits", "math.Float64frombits"], apart := false, narrowed := true }
def PaneWritesUptoSaid : Prop := paneWritesUptoRow.holds Try.pinned (OpenSpec.upto paneWritesSpec)

/-- 'shoallaw5.PaneKnown', WHERE WHAT IT READS IS OF BULK AT MOST 1048576: true; the input reads as it did. -/
def paneKnownUptoRow : OpenClaim := { program := "ytojjjicjpimhoaa", sum := "55ab71666abd9820557c2877cfdb4c9d345502c4edae696ae60e3db5ade3230c", func := "shoal/shoallaw5.PaneKnown", spec := "paneKnown", inPlace := ["math.Float64bits", "math.Float64frombits"], apart := false, narrowed := true }
def PaneKnownUptoSaid : Prop := paneKnownUptoRow.holds Try.pinned (OpenSpec.upto paneKnownSpec)

/-- 'shoallaw7.MailSays', WHERE WHAT IT READS IS OF BULK AT MOST 1048576: true; the input reads as it did. -/
def mailSaysUptoRow : OpenClaim := { program := "ytojjjicjpimhoaa", sum := "55ab71666abd9820557c2877cfdb4c9d345502c4edae696ae60e3db5ade3230c", func := "shoal/shoallaw7.MailSays", spec := "mailSays", inPlace := ["math.Float64bits", "math.Float64frombits"], apart := false, narrowed := true }
def MailSaysUptoSaid : Prop := mailSaysUptoRow.holds Try.pinned (OpenSpec.upto mailSaysSpec)

/-- 'shoallaw7.MailBack', WHERE WHAT IT READS IS OF BULK AT MOST 1048576: true; the input reads as it did. -/
def mailBackUptoRow : OpenClaim := { program := "ytojjjicjpimhoaa", sum := "55ab71666abd9820557c2877cfdb4c9d345502c4edae696ae60e3db5ade3230c", func := "shoal/shoallaw7.MailBack", spec := "mailBack", inPlace := ["math.Float64bits", "math.Float64frombits"], apart := false, narrowed := true }
def MailBackUptoSaid : Prop := mailBackUptoRow.holds Try.pinned (OpenSpec.upto mailBackSpec)

/-- 'shoallaw7.MailKinds', WHERE WHAT IT READS IS OF BULK AT MOST 1048576: true; the input reads as it did. -/
def mailKindsUptoRow : OpenClaim := { program := "ytojjjicjpimhoaa", sum := "55ab71666abd9820557c2877cfdb4c9d345502c4edae696ae60e3db5ade3230c", func := "shoal/shoallaw7.MailKinds", spec := "mailKinds", inPlace := ["math.Float64bits", "math.Float64frombits"], apart := false, narrowed := true }
def MailKindsUptoSaid : Prop := mailKindsUptoRow.holds Try.pinned (OpenSpec.upto mailKindsSpec)

/-- 'shoallaw7.MailKnown', WHERE WHAT IT READS IS OF BULK AT MOST 1048576: true; the input reads as it did. -/
def mailKnownUptoRow : OpenClaim := { program := "ytojjjicjpimhoaa", sum := "55ab71666abd9820557c2877cfdb4c9d345502c4edae696ae60e3db5ade3230c", func := "shoal/shoallaw7.MailKnown", spec := "mailKnown", inPlace := ["math.Float64bits", "math.Float64frombits"], apart := false, narrowed := true }
def MailKnownUptoSaid : Prop := mailKnownUptoRow.holds Try.pinned (OpenSpec.upto mailKnownSpec)

end Rows
end Go.Proofs.Ytojjjicjpimhoaa
