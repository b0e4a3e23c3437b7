/- The law LeanFull: the abstract machine answers 'true' at every argument, and the machine is sound; the row, and its tied card. -/
import Derived.Test.YtclpkcampbhbdaaGreatDoorRows
import Derived.Test.YtclpkcampbhbdaaGreatDoorCards
import Derived.Test.YtclpkcampbhbdaaGreatDoorTie
import Derived.Test.YtclpkcampbhbdaaGreatDoorKH
import Derived.WalkKit
import Derived.ProofKit
import Derived.LaidMore
import Derived.OpenShut
import Derived.ShutString
import Derived.Stop.Joined
import Derived.Lib.LaidTab
import Derived.SevenTiedAt
namespace Go.Proofs.YtclpkcampbhbdaaGreatDoor.leanFull
open Go Go.ChangeShapes Go.WideShapes Go.ChangeAt Go.RowKit
set_option linter.unusedVariables false

theorem own : ownKnob Tryz.prog.godebug = none := by kernel_rfl
theorem mixed : Tryz.prog.follows .mixedOrders = true := by kernel_rfl
theorem laid : laidOutB Tryz.prog = true := by kernel_rfl
abbrev tabL : List (String × DataW Unit) := [("math/bits.deBruijn64tab", Rows.laid_math_bits_deBruijn64tab)]
theorem simple : [3,54].all (Go.Am.simpleT Tryz.prog 8) = true := by kernel_rfl
theorem stay : [3,54].all (fun t => Tryz.prog.readableRec t && decide (t < Tryz.prog.types.size)) = true := by kernel_rfl
theorem door_met (os : Os) (args : Array Value) : laidMetH Tryz.prog tabL ((World.doorLaid Tryz.prog 14 os).forCall (fun _ _ => 0) ⟨#[], args, []⟩).memory :=
  laidMetH_of_parts3 (fuel := 8) (laidMet_of_run' 8 (by kernel_rfl) (by kernel_rfl)) (by kernel_rfl) (by kernel_rfl)
theorem gTab : Tryz.prog.globalNamed "math/bits.deBruijn64tab" = some 0 := by kernel_rfl
/-- the table is where the machine wants it -/
theorem glob {W : World} (h : laidMetH Tryz.prog tabL W) : Go.Am.GlobW Tryz.prog W.heap.size W := by
  rw [MakeChecks.laidMetH_plain _ _ _ (by kernel_rfl)] at h
  have hT := Lib.tabIs_of_head (k := .u8) (zs := Lib.deBruijn64tab.map fun (z : Nat) => (z : Int)) (rest := []) gTab (t := 174) (by kernel_rfl) Tryz.underlying174 Tryz.underlying5 (by kernel_rfl) (by kernel_rfl) h
  intro g cs e
  cases e
  have hc : ∀ i, i < 64 → W.cell? ⟨0, i, Option.none⟩ = some (.int .u8 ((Lib.deBruijn64tab.map fun (z : Nat) => (z : Int)).getD i 0)) := fun i hi => hT.cell gTab i (by rw [List.length_map]; exact hi)
  refine ⟨?_, fun i v hi => ?_⟩
  · refine Classical.byContradiction fun hn => ?_
    have h0 := hc 0 (by omega)
    have hz : W.heap[0]? = Option.none := Array.getElem?_eq_none (by omega)
    simp [World.cell?, hz] at h0
  · have hlt : i < 64 := by
      have := (List.getElem?_eq_some_iff.1 hi).1
      rw [List.length_map] at this
      exact this
    rw [hc i hlt]
    rw [List.getElem?_map] at hi
    rw [List.getD_eq_getElem?_getD, List.getElem?_map]
    cases hx : Lib.deBruijn64tab[i]? with
    | none => rw [hx] at hi; cases hi
    | some z => rw [hx] at hi; cases hi; rfl

set_option maxRecDepth 100000 in
theorem lifted (os : Os) (started : os.Started) (H : Type) (enc : TypeId × Value → H) :
    ReturnsInHanded {} Tryz.checked os 4 .any (fun w args => (Rows.leanFullSpec.pre enc Tryz.prog Tryz.f4 [] false w args ∧ laidMetH Tryz.prog tabL w) ∧ sizedMet enc Tryz.prog Tryz.f4 (OpenSpec.ofChange Rows.leanFullSpec) false w args)
      (Rows.leanFullSpec.post enc Tryz.prog Tryz.f4 false true false false) := by
  refine returnsInHanded_of_change_and (C := Tryz.checked) (X := fun w _ => laidMetH Tryz.prog tabL w) (fun _ _ _ hh h => h.of_heap hh) own started (by kernel_rfl) Tryz.func4
    (ChangeSpec.witness_shaped (enc := enc) (C := Tryz.checked) (os := os) (X := fun w _ => laidMetH Tryz.prog tabL w) false (World.doorLaid Tryz.prog 14 os) #[.int .i64 0, .slice none 0 0] 8 rfl (World.shaped_of_RefB (by kernel_rfl) (by kernel_rfl)) (by kernel_rfl) (by kernel_rfl) (by kernel_rfl) (door_met os _)) ?_
  intro W base args ds gs before hval0 hW _ _ hL _
  have hW' := hW
  obtain ⟨p, q, hA0, hV, rfl, hfz, hnd⟩ := hW
  have hA : DataW.TrodAll enc Tryz.prog W 0 (fun _ => true) true Tryz.f4.params.toList args.toList ds p := hA0
  rw [Tryz.params4] at hA
  obtain ⟨rfl, rfl⟩ := trodVars_none hV
  have hlt : ∀ x ∈ p, x.block < W.heap.size := fun x hx => hW'.lt x (by simp [hx])
  refine (Go.Am.law_calls mixed (ts := [3,54]) simple (fun j t v ht hv => hval0 j t v (by rw [Tryz.params4]; simpa using ht) (by simpa using hv)) hA (glob hL) Go.Am.law_LeanFull).mono fun e W' ⟨he, bel⟩ => ?_
  subst he
  have st := Go.Am.args_stay laid bel stay hA hlt
  obtain ⟨d0, d1, rfl⟩ : ∃ d0 d1, ds = [d0, d1] := match ds, Go.Am.trodAll_len hA with | [d0, d1], _ => ⟨d0, d1, rfl⟩
  exact ⟨_, rfl, _, _, _, [], _, [], hW', trodAll_mk1 (shut_bool Tryz.underlying4 _), st, rfl, bel.frame _, fun h => by cases h⟩

theorem over : Rows.leanFullRow.holds Tryz.pinned (OpenSpec.ofChange Rows.leanFullSpec) :=
  OpenClaim.holds_of_wide 4 Tryz.f4 rfl rfl rfl rfl rfl rfl rfl ⟨rfl, rfl, rfl, rfl, rfl⟩ rfl rfl rfl rfl rfl (by kernel_rfl) Tryz.func4 (by kernel_rfl)
    (of_decide_eq_true (by kernel_rfl)) (by unfold Func.isWrapper; first | (rw [if_pos (by decide +kernel)]; kernel_rfl) | (rw [if_neg (by decide +kernel)]; exact ⟨rfl, rfl⟩))
    (fun os started H enc _ => lifted os started H enc)
theorem proved : Rows.LeanFullCardSaid :=
  Claim7.holds_tied_plain_at .later [] [.data] true (true, "9f76f34b08b4f18c12815e61e5c7ca97c88e28cbc1d440d46ae4d884616a7b03") false
    over (fun _ h => by cases h) (by kernel_rfl) (fun _ h => by cases h) leanFull_row_tie rfl ⟨rfl, rfl⟩ (by kernel_rfl) rfl
    (fun f fn hf hfn => by
      obtain rfl : f = 4 := Option.some.inj ((show Tryz.prog.funcNamed "shoal/shoallaw19.LeanFull" = some 4 by kernel_rfl).symm.trans hf) |>.symm
      obtain rfl : fn = Tryz.f4 := (Option.some.inj (Tryz.func4.symm.trans hfn)).symm
      exact ⟨by kernel_rfl, fun j t ht => by
        rw [Tryz.params4] at ht
        have hm : t ∈ [3,54] := by simpa using Array.mem_of_getElem? ht
        have hall : ([3,54].all fun u => !Tryz.prog.wantsStandIn u) = true := by kernel_rfl
        exact (show Tryz.prog.wantsStandIn t = false by simpa using List.all_eq_true.1 hall t hm)⟩)
    (by kernel_rfl)
end Go.Proofs.YtclpkcampbhbdaaGreatDoor.leanFull
namespace Go.Proofs.YtclpkcampbhbdaaGreatDoor
/-- The law, under a short name, for the claim. -/
theorem leanFull_holds : Rows.LeanFullCardSaid := leanFull.proved
end Go.Proofs.YtclpkcampbhbdaaGreatDoor
