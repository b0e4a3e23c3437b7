/-
  No cell of these rows narrows 'for every input' (looked for: loops, veiled, ifaces, maps, wideKeys, modest, calm, conditions, laid).
  DERIVED. THE GIVEN ROWS OF THIS SEAT. 4 by the template 'for every input the law returns true; each argument reads behind the call as it read before'; 0 by the template 'total and deterministic' (their statements: YtdkegbcnlgghgaaTotals.lean).
  GIVEN WITH THE SEED: the statements are not yours to turn. If you find one false, say at which input.
  Laid BY PROGRAM, IN A SANDBOX (cutbox-rows.mjs): the forced cells as the released guide's own fill.sh prints them over the translation 908fdde202c99fbd… (all of the seat's roots in one cut). By AI agents, Wed Nov 11 2026. No macro, syntax, notation, axiom, sorry.
-/
import Derived.Test.YtdkegbcnlgghgaaChecked
import GoSem.Claim
import GoSem.ClaimJoined
import GoSem.ClaimMapViews
import Derived.JoinedTies
import Derived.KernelRfl
namespace Go.Proofs.Ytdkegbcnlgghgaa
/- THE CELL 'sum', in the pinned program and in every row, IS THE sha256 OF THE DUMP (.gsa) THAT YtdkegbcnlgghgaaProg.lean LOADS. Nothing in Lean hashes anything: it is a label: what it is worth is what the hold of that sum in a sandbox is worth. -/
noncomputable def Try.pinned : Pinned := { name := "ytdkegbcnlgghgaa", sum := "908fdde202c99fbd1f3a6c17ec1a93afee3e79eb23e92080bfe97a41f90d2575", checked := Try.checked }
namespace Rows
def none {H : Type} : Left H := { results := [], args := [] }

/-- 'shoallaw14.TieKnown': WHATEVER THE INPUT: true; the input reads as it did. -/
def tieKnownSpec : ChangeSpec := { name := "tieKnown", fn := fun _ => fun
  | [] => { results := [.lit (.bool true)], args := [] }
  | _ => none }
def tieKnownRow : OpenClaim := { program := "ytdkegbcnlgghgaa", sum := "908fdde202c99fbd1f3a6c17ec1a93afee3e79eb23e92080bfe97a41f90d2575", func := "shoal/shoallaw14.TieKnown", spec := "tieKnown", unfollowed := true, recurses := true, apart := false }
def TieKnownSaid : Prop := tieKnownRow.holds Try.pinned (OpenSpec.ofChange tieKnownSpec)

/-- ITS FALSE NEIGHBOUR: 'it returns false'. Refute it at one input. -/
def tieKnownWrong : ChangeSpec := { name := "tieKnown", fn := fun _ => fun
  | [] => { results := [.lit (.bool false)], args := [] }
  | _ => none }
def TieKnownWrongFalsely : Prop := tieKnownRow.holds Try.pinned (OpenSpec.ofChange tieKnownWrong)

/-- 'shoallaw14.TieBoth': WHATEVER THE INPUT: true; the input reads as it did. -/
def tieBothSpec : ChangeSpec := { name := "tieBoth", fn := fun _ => fun
  | [d1, d2] => { results := [.lit (.bool true)], args := [d1, d2] }
  | _ => none }
def tieBothRow : OpenClaim := { program := "ytdkegbcnlgghgaa", sum := "908fdde202c99fbd1f3a6c17ec1a93afee3e79eb23e92080bfe97a41f90d2575", func := "shoal/shoallaw14.TieBoth", spec := "tieBoth", unfollowed := true, recurses := true, apart := false }
def TieBothSaid : Prop := tieBothRow.holds Try.pinned (OpenSpec.ofChange tieBothSpec)

/-- ITS FALSE NEIGHBOUR: 'it returns false'. Refute it at one input. -/
def tieBothWrong : ChangeSpec := { name := "tieBoth", fn := fun _ => fun
  | [d1, d2] => { results := [.lit (.bool false)], args := [d1, d2] }
  | _ => none }
def TieBothWrongFalsely : Prop := tieBothRow.holds Try.pinned (OpenSpec.ofChange tieBothWrong)

/-- 'shoallaw14.TieCarries': WHATEVER THE INPUT: true; the input reads as it did. -/
def tieCarriesSpec : ChangeSpec := { name := "tieCarries", fn := fun _ => fun
  | [d1, d2, d3, d4] => { results := [.lit (.bool true)], args := [d1, d2, d3, d4] }
  | _ => none }
def tieCarriesRow : OpenClaim := { program := "ytdkegbcnlgghgaa", sum := "908fdde202c99fbd1f3a6c17ec1a93afee3e79eb23e92080bfe97a41f90d2575", func := "shoal/shoallaw14.TieCarries", spec := "tieCarries", unfollowed := true, recurses := true, apart := false }
def TieCarriesSaid : Prop := tieCarriesRow.holds Try.pinned (OpenSpec.ofChange tieCarriesSpec)

/-- ITS FALSE NEIGHBOUR: 'it returns false'. Refute it at one input. -/
def tieCarriesWrong : ChangeSpec := { name := "tieCarries", fn := fun _ => fun
  | [d1, d2, d3, d4] => { results := [.lit (.bool false)], args := [d1, d2, d3, d4] }
  | _ => none }
def TieCarriesWrongFalsely : Prop := tieCarriesRow.holds Try.pinned (OpenSpec.ofChange tieCarriesWrong)

/-- 'shoallaw14.TiePlays': WHATEVER THE INPUT: true; the input reads as it did. -/
def tiePlaysSpec : ChangeSpec := { name := "tiePlays", fn := fun _ => fun
  | [d1, d2, d3] => { results := [.lit (.bool true)], args := [d1, d2, d3] }
  | _ => none }
def tiePlaysRow : OpenClaim := { program := "ytdkegbcnlgghgaa", sum := "908fdde202c99fbd1f3a6c17ec1a93afee3e79eb23e92080bfe97a41f90d2575", func := "shoal/shoallaw14.TiePlays", spec := "tiePlays", unfollowed := true, recurses := true, apart := false }
def TiePlaysSaid : Prop := tiePlaysRow.holds Try.pinned (OpenSpec.ofChange tiePlaysSpec)

/-- ITS FALSE NEIGHBOUR: 'it returns false'. Refute it at one input. -/
def tiePlaysWrong : ChangeSpec := { name := "tiePlays", fn := fun _ => fun
  | [d1, d2, d3] => { results := [.lit (.bool false)], args := [d1, d2, d3] }
  | _ => none }
def TiePlaysWrongFalsely : Prop := tiePlaysRow.holds Try.pinned (OpenSpec.ofChange tiePlaysWrong)

/- THE SECOND FORM. 'bulk': how many values and letters a reading holds, each counted each time it is reached (what is shared counts as often as it is met; a slice's spare places count too). A statement '..UptoSaid' is the law's where the arguments, and the package variables that the reading takes, are together of bulk at most 1048576: NARROWER than '..Said'. Prove '..Said' where nothing that the law and all that it calls make is longer than what came in: it says more and counts as full. Else prove '..UptoSaid'. A law counts once. -/
mutual
def uptoBulk {H : Type} : DataW H → Nat
  | .lit (.string bytes) => bytes.length + 1
  | .lit _ => 1
  | .nil => 1
  | .ptr d => uptoBulk d + 1
  | .slice elems spare => uptoBulkAll elems + uptoBulkAll spare + 1
  | .agg parts => uptoBulkAll parts + 1
  | .iface _ d => uptoBulk d + 1
  | .map entries => uptoBulkEntries entries + 1
  | .held _ => 1
def uptoBulkAll {H : Type} : List (DataW H) → Nat
  | [] => 0
  | d :: r => uptoBulk d + uptoBulkAll r
def uptoBulkEntries {H : Type} : List (Lit × DataW H) → Nat
  | [] => 0
  | x :: r => uptoBulkEntry x + uptoBulkEntries r
def uptoBulkEntry {H : Type} : Lit × DataW H → Nat
  | (.string bytes, d) => bytes.length + uptoBulk d + 1
  | (_, d) => uptoBulk d + 1
 end
def uptoSmall : (H : Type) → List (DataW H) → Bool := fun _ ds => decide (uptoBulkAll ds ≤ 1048576)
def OpenSpec.upto (s : _root_.Go.ChangeSpec) : _root_.Go.OpenSpec := { _root_.Go.OpenSpec.ofChange s with cond := some uptoSmall }

/-- 'shoallaw14.TieKnown', WHERE WHAT IT READS IS OF BULK AT MOST 1048576: true; the input reads as it did. -/
def tieKnownUptoRow : OpenClaim := { program := "ytdkegbcnlgghgaa", sum := "908fdde202c99fbd1f3a6c17ec1a93afee3e79eb23e92080bfe97a41f90d2575", func := "shoal/shoallaw14.TieKnown", spec := "tieKnown", unfollowed := true, recurses := true, apart := false, narrowed := true }
def TieKnownUptoSaid : Prop := tieKnownUptoRow.holds Try.pinned (OpenSpec.upto tieKnownSpec)

/-- 'shoallaw14.TieBoth', WHERE WHAT IT READS IS OF BULK AT MOST 1048576: true; the input reads as it did. -/
def tieBothUptoRow : OpenClaim := { program := "ytdkegbcnlgghgaa", sum := "908fdde202c99fbd1f3a6c17ec1a93afee3e79eb23e92080bfe97a41f90d2575", func := "shoal/shoallaw14.TieBoth", spec := "tieBoth", unfollowed := true, recurses := true, apart := false, narrowed := true }
def TieBothUptoSaid : Prop := tieBothUptoRow.holds Try.pinned (OpenSpec.upto tieBothSpec)

/-- 'shoallaw14.TieCarries', WHERE WHAT IT READS IS OF BULK AT MOST 1048576: true; the input reads as it did. -/
def tieCarriesUptoRow : OpenClaim := { program := "ytdkegbcnlgghgaa", sum := "908fdde202c99fbd1f3a6c17ec1a93afee3e79eb23e92080bfe97a41f90d2575", func := "shoal/shoallaw14.TieCarries", spec := "tieCarries", unfollowed := true, recurses := true, apart := false, narrowed := true }
def TieCarriesUptoSaid : Prop := tieCarriesUptoRow.holds Try.pinned (OpenSpec.upto tieCarriesSpec)

/-- 'shoallaw14.TiePlays', WHERE WHAT IT READS IS OF BULK AT MOST 1048576: true; the input reads as it did. -/
def tiePlaysUptoRow : OpenClaim := { program := "ytdkegbcnlgghgaa", sum := "908fdde202c99fbd1f3a6c17ec1a93afee3e79eb23e92080bfe97a41f90d2575", func := "shoal/shoallaw14.TiePlays", spec := "tiePlays", unfollowed := true, recurses := true, apart := false, narrowed := true }
def TiePlaysUptoSaid : Prop := tiePlaysUptoRow.holds Try.pinned (OpenSpec.upto tiePlaysSpec)

end Rows
end Go.Proofs.Ytdkegbcnlgghgaa
