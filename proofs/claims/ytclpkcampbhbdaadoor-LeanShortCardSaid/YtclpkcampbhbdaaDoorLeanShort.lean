/- The law LeanShort: the abstract machine answers 'true' at every argument, and the machine is sound; the row, and its tied card. -/
import Derived.Test.YtclpkcampbhbdaaDoorRows
import Derived.Test.YtclpkcampbhbdaaDoorCards
import Derived.Test.YtclpkcampbhbdaaDoorTie
import Derived.Test.YtclpkcampbhbdaaDoorKF
import Derived.WalkKit
import Derived.ProofKit
import Derived.LaidMore
import Derived.OpenShut
import Derived.ShutString
import Derived.Stop.Joined
import Derived.Lib.LaidTab
import Derived.SevenTiedAt
namespace Go.Proofs.YtclpkcampbhbdaaDoor.leanShort
open Go Go.ChangeShapes Go.WideShapes Go.ChangeAt Go.RowKit
set_option linter.unusedVariables false

theorem own : ownKnob Tryd.prog.godebug = none := by kernel_rfl
theorem mixed : Tryd.prog.follows .mixedOrders = true := by kernel_rfl
theorem laid : laidOutB Tryd.prog = true := by kernel_rfl
abbrev tabL : List (String × DataW Unit) := [("math/bits.deBruijn64tab", Rows.laid_math_bits_deBruijn64tab)]
theorem simple : [3,50].all (Go.Am.simpleT Tryd.prog 8) = true := by kernel_rfl
theorem stay : [3,50].all (fun t => Tryd.prog.readableRec t && decide (t < Tryd.prog.types.size)) = true := by kernel_rfl
theorem door_met (os : Os) (args : Array Value) : laidMetH Tryd.prog tabL ((World.doorLaid Tryd.prog 14 os).forCall (fun _ _ => 0) ⟨#[], args, []⟩).memory :=
  laidMetH_of_parts3 (fuel := 8) (laidMet_of_run' 8 (by kernel_rfl) (by kernel_rfl)) (by kernel_rfl) (by kernel_rfl)
theorem gTab : Tryd.prog.globalNamed "math/bits.deBruijn64tab" = some 0 := by kernel_rfl
/-- the table is where the machine wants it -/
theorem glob {W : World} (h : laidMetH Tryd.prog tabL W) : Go.Am.GlobW Tryd.prog W.heap.size W := by
  rw [MakeChecks.laidMetH_plain _ _ _ (by kernel_rfl)] at h
  have hT := Lib.tabIs_of_head (k := .u8) (zs := Lib.deBruijn64tab.map fun (z : Nat) => (z : Int)) (rest := []) gTab (t := 144) (by kernel_rfl) Tryd.underlying144 Tryd.underlying5 (by kernel_rfl) (by kernel_rfl) h
  intro g cs e
  cases e
  have hc : ∀ i, i < 64 → W.cell? ⟨0, i, Option.none⟩ = some (.int .u8 ((Lib.deBruijn64tab.map fun (z : Nat) => (z : Int)).getD i 0)) := fun i hi => hT.cell gTab i (by rw [List.length_map]; exact hi)
  refine ⟨?_, fun i v hi => ?_⟩
  · refine Classical.byContradiction fun hn => ?_
    have h0 := hc 0 (by omega)
    have hz : W.heap[0]? = Option.none := Array.getElem?_eq_none (by omega)
    simp [World.cell?, hz] at h0
  · have hlt : i < 64 := by
      have := (List.getElem?_eq_some_iff.1 hi).1
      rw [List.length_map] at this
      exact this
    rw [hc i hlt]
    rw [List.getElem?_map] at hi
    rw [List.getD_eq_getElem?_getD, List.getElem?_map]
    cases hx : Lib.deBruijn64tab[i]? with
    | none => rw [hx] at hi; cases hi
    | some z => rw [hx] at hi; cases hi; rfl

set_option maxRecDepth 100000 in
theorem lifted (os : Os) (started : os.Started) (H : Type) (enc : TypeId × Value → H) :
    ReturnsInHanded {} Tryd.checked os 4 .any (fun w args => (Rows.leanShortSpec.pre enc Tryd.prog Tryd.f4 [] false w args ∧ laidMetH Tryd.prog tabL w) ∧ sizedMet enc Tryd.prog Tryd.f4 (OpenSpec.ofChange Rows.leanShortSpec) false w args)
      (Rows.leanShortSpec.post enc Tryd.prog Tryd.f4 false true false false) := by
  refine returnsInHanded_of_change_and (C := Tryd.checked) (X := fun w _ => laidMetH Tryd.prog tabL w) (fun _ _ _ hh h => h.of_heap hh) own started (by kernel_rfl) Tryd.func4
    (ChangeSpec.witness_shaped (enc := enc) (C := Tryd.checked) (os := os) (X := fun w _ => laidMetH Tryd.prog tabL w) false (World.doorLaid Tryd.prog 14 os) #[.int .i64 0, .slice none 0 0] 8 rfl (World.shaped_of_RefB (by kernel_rfl) (by kernel_rfl)) (by kernel_rfl) (by kernel_rfl) (by kernel_rfl) (door_met os _)) ?_
  intro W base args ds gs before hval0 hW _ _ hL _
  have hW' := hW
  obtain ⟨p, q, hA0, hV, rfl, hfz, hnd⟩ := hW
  have hA : DataW.TrodAll enc Tryd.prog W 0 (fun _ => true) true Tryd.f4.params.toList args.toList ds p := hA0
  rw [Tryd.params4] at hA
  obtain ⟨rfl, rfl⟩ := trodVars_none hV
  have hlt : ∀ x ∈ p, x.block < W.heap.size := fun x hx => hW'.lt x (by simp [hx])
  refine (Go.Am.law_calls mixed (ts := [3,50]) simple (fun j t v ht hv => hval0 j t v (by rw [Tryd.params4]; simpa using ht) (by simpa using hv)) hA (glob hL) Go.Am.law_LeanShort).mono fun e W' ⟨he, bel⟩ => ?_
  subst he
  have st := Go.Am.args_stay laid bel stay hA hlt
  obtain ⟨d0, d1, rfl⟩ : ∃ d0 d1, ds = [d0, d1] := match ds, Go.Am.trodAll_len hA with | [d0, d1], _ => ⟨d0, d1, rfl⟩
  exact ⟨_, rfl, _, _, _, [], _, [], hW', trodAll_mk1 (shut_bool Tryd.underlying4 _), st, rfl, bel.frame _, fun h => by cases h⟩

theorem over : Rows.leanShortRow.holds Tryd.pinned (OpenSpec.ofChange Rows.leanShortSpec) :=
  OpenClaim.holds_of_wide 4 Tryd.f4 rfl rfl rfl rfl rfl rfl rfl ⟨rfl, rfl, rfl, rfl, rfl⟩ rfl rfl rfl rfl rfl (by kernel_rfl) Tryd.func4 (by kernel_rfl)
    (of_decide_eq_true (by kernel_rfl)) (by unfold Func.isWrapper; first | (rw [if_pos (by decide +kernel)]; kernel_rfl) | (rw [if_neg (by decide +kernel)]; exact ⟨rfl, rfl⟩))
    (fun os started H enc _ => lifted os started H enc)
theorem proved : Rows.LeanShortCardSaid :=
  Claim7.holds_tied_plain_at .later [] [.data] true (true, "4ed41d02c22ffe6b8bfde97640b17a145927e504f1e82f59878186122b407eeb") true
    over (fun _ h => by cases h) (by kernel_rfl) (fun _ h => by cases h) leanShort_row_tie rfl ⟨rfl, rfl⟩ (by kernel_rfl) rfl
    (fun f fn hf hfn => by
      obtain rfl : f = 4 := Option.some.inj ((show Tryd.prog.funcNamed "shoal/shoallaw19.LeanShort" = some 4 by kernel_rfl).symm.trans hf) |>.symm
      obtain rfl : fn = Tryd.f4 := (Option.some.inj (Tryd.func4.symm.trans hfn)).symm
      exact ⟨by kernel_rfl, fun j t ht => by
        rw [Tryd.params4] at ht
        have hm : t ∈ [3,50] := by simpa using Array.mem_of_getElem? ht
        have hall : ([3,50].all fun u => !Tryd.prog.wantsStandIn u) = true := by kernel_rfl
        exact (show Tryd.prog.wantsStandIn t = false by simpa using List.all_eq_true.1 hall t hm)⟩)
    (by kernel_rfl)
end Go.Proofs.YtclpkcampbhbdaaDoor.leanShort
namespace Go.Proofs.YtclpkcampbhbdaaDoor
/-- The law, under a short name, for the claim. -/
theorem leanShort_holds : Rows.LeanShortCardSaid := leanShort.proved
end Go.Proofs.YtclpkcampbhbdaaDoor
