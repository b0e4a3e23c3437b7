/- The law FanKnown: the abstract machine answers 'true' at every argument, and the machine is sound; the row, and its tied card. -/
import Derived.Test.YtdkegbcnlgghgaaDoorRows
import Derived.Test.YtdkegbcnlgghgaaDoorCards
import Derived.Test.YtdkegbcnlgghgaaDoorTie
import Derived.Test.YtdkegbcnlgghgaaDoorKD
import Derived.WalkKit
import Derived.ProofKit
import Derived.LaidMore
import Derived.OpenShut
import Derived.ShutString
import Derived.Stop.Joined
import Derived.Lib.LaidTab
import Derived.SevenTiedAt
namespace Go.Proofs.YtdkegbcnlgghgaaDoor.fanKnown
open Go Go.ChangeShapes Go.WideShapes Go.ChangeAt Go.RowKit
set_option linter.unusedVariables false

theorem own : ownKnob Tryd.prog.godebug = none := by kernel_rfl
theorem mixed : Tryd.prog.follows .mixedOrders = true := by kernel_rfl
theorem laid : laidOutB Tryd.prog = true := by kernel_rfl
abbrev tabL : List (String × DataW Unit) := [("math/bits.deBruijn64tab", Rows.laid_math_bits_deBruijn64tab)]
theorem door_met (os : Os) (args : Array Value) : laidMetH Tryd.prog tabL ((World.doorLaid Tryd.prog 14 os).forCall (fun _ _ => 0) ⟨#[], args, []⟩).memory :=
  laidMetH_of_parts3 (fuel := 8) (laidMet_of_run' 8 (by kernel_rfl) (by kernel_rfl)) (by kernel_rfl) (by kernel_rfl)
theorem gTab : Tryd.prog.globalNamed "math/bits.deBruijn64tab" = some 0 := by kernel_rfl
/-- the table is where the machine wants it -/
theorem glob {W : World} (h : laidMetH Tryd.prog tabL W) : Go.Am.GlobW Tryd.prog W.heap.size W := by
  rw [MakeChecks.laidMetH_plain _ _ _ (by kernel_rfl)] at h
  have hT := Lib.tabIs_of_head (k := .u8) (zs := Lib.deBruijn64tab.map fun (z : Nat) => (z : Int)) (rest := []) gTab (t := 144) (by kernel_rfl) Tryd.underlying144 Tryd.underlying5 (by kernel_rfl) (by kernel_rfl) h
  intro g cs e
  cases e
  have hc : ∀ i, i < 64 → W.cell? ⟨0, i, Option.none⟩ = some (.int .u8 ((Lib.deBruijn64tab.map fun (z : Nat) => (z : Int)).getD i 0)) := fun i hi => hT.cell gTab i (by rw [List.length_map]; exact hi)
  refine ⟨?_, fun i v hi => ?_⟩
  · refine Classical.byContradiction fun hn => ?_
    have h0 := hc 0 (by omega)
    have hz : W.heap[0]? = Option.none := Array.getElem?_eq_none (by omega)
    simp [World.cell?, hz] at h0
  · have hlt : i < 64 := by
      have := (List.getElem?_eq_some_iff.1 hi).1
      rw [List.length_map] at this
      exact this
    rw [hc i hlt]
    rw [List.getElem?_map] at hi
    rw [List.getD_eq_getElem?_getD, List.getElem?_map]
    cases hx : Lib.deBruijn64tab[i]? with
    | none => rw [hx] at hi; cases hi
    | some z => rw [hx] at hi; cases hi; rfl

set_option maxRecDepth 100000 in
theorem lifted (os : Os) (started : os.Started) (H : Type) (enc : TypeId × Value → H) :
    ReturnsInHanded {} Tryd.checked os 5 .any (fun w args => (Rows.fanKnownSpec.pre enc Tryd.prog Tryd.f5 [] false w args ∧ laidMetH Tryd.prog tabL w) ∧ sizedMet enc Tryd.prog Tryd.f5 (OpenSpec.ofChange Rows.fanKnownSpec) false w args)
      (Rows.fanKnownSpec.post enc Tryd.prog Tryd.f5 false true false false) := by
  refine returnsInHanded_of_change_and (C := Tryd.checked) (X := fun w _ => laidMetH Tryd.prog tabL w) (fun _ _ _ hh h => h.of_heap hh) own started (by kernel_rfl) Tryd.func5
    (ChangeSpec.witness_shaped (enc := enc) (C := Tryd.checked) (os := os) (X := fun w _ => laidMetH Tryd.prog tabL w) false (World.doorLaid Tryd.prog 14 os) #[] 8 rfl (World.shaped_of_RefB (by kernel_rfl) (by kernel_rfl)) (by kernel_rfl) (by kernel_rfl) (by kernel_rfl) (door_met os _)) ?_
  intro W base args ds gs before hval0 hW _ _ hL _
  have hW' := hW
  obtain ⟨p, q, hA0, hV, rfl, hfz, hnd⟩ := hW
  have hA : DataW.TrodAll enc Tryd.prog W 0 (fun _ => true) true Tryd.f5.params.toList args.toList ds p := hA0
  rw [Tryd.params5] at hA
  obtain ⟨rfl, rfl⟩ := trodVars_none hV
  obtain ⟨e1, rfl, rfl⟩ := trodAll_none hA
  obtain rfl : args = #[] := by cases args; simp_all
  clear hA0 hval0
  refine (Go.Am.calls_closed mixed Go.Am.t_FanKnown W (glob hL)).mono fun e W' ⟨he, bel⟩ => ?_
  subst he
  exact ⟨_, rfl, _, _, _, [], _, [], hW', trodAll_mk1 (shut_bool Tryd.underlying4 _), trodAll_mk0, rfl, bel.frame _, fun h => by cases h⟩

theorem over : Rows.fanKnownRow.holds Tryd.pinned (OpenSpec.ofChange Rows.fanKnownSpec) :=
  OpenClaim.holds_of_wide 5 Tryd.f5 rfl rfl rfl rfl rfl rfl rfl ⟨rfl, rfl, rfl, rfl, rfl⟩ rfl rfl rfl rfl rfl (by kernel_rfl) Tryd.func5 (by kernel_rfl)
    (of_decide_eq_true (by kernel_rfl)) (by unfold Func.isWrapper; first | (rw [if_pos (by decide +kernel)]; kernel_rfl) | (rw [if_neg (by decide +kernel)]; exact ⟨rfl, rfl⟩))
    (fun os started H enc _ => lifted os started H enc)
theorem proved : Rows.FanKnownCardSaid :=
  Claim7.holds_tied_plain_at .later [] [.data] true (true, "80b6fd1f81767db5b4c56926af94b3c7fd586115e51e1bbb1adf109d1cb10522") false
    over (fun _ h => by cases h) (by kernel_rfl) (fun _ h => by cases h) fanKnown_row_tie rfl ⟨rfl, rfl⟩ (by kernel_rfl) rfl
    (fun f fn hf hfn => by
      obtain rfl : f = 5 := Option.some.inj ((show Tryd.prog.funcNamed "shoal/shoallaw22.FanKnown" = some 5 by kernel_rfl).symm.trans hf) |>.symm
      obtain rfl : fn = Tryd.f5 := (Option.some.inj (Tryd.func5.symm.trans hfn)).symm
      exact ⟨by kernel_rfl, fun j t ht => by
        rw [Tryd.params5] at ht
        simp at ht⟩)
    (by kernel_rfl)
end Go.Proofs.YtdkegbcnlgghgaaDoor.fanKnown
namespace Go.Proofs.YtdkegbcnlgghgaaDoor
/-- The law, under a short name, for the claim. -/
theorem fanKnown_holds : Rows.FanKnownCardSaid := fanKnown.proved
end Go.Proofs.YtdkegbcnlgghgaaDoor
