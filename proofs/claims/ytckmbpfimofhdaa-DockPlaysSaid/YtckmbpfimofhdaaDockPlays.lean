/- The law DockPlays: the abstract machine answers 'true' at every argument, and the machine is sound. -/
import Derived.Test.YtckmbpfimofhdaaRows
import Derived.Test.YtckmbpfimofhdaaKE
import Derived.WalkKit
import Derived.ProofKit
import Derived.OpenShut
import Derived.ShutString
import Derived.ChangeOld
import Derived.SizedLaws
namespace Go.Proofs.Ytckmbpfimofhdaa.dockPlays
open Go.ChangeShapes Go.WideShapes Go.ChangeAt Go.RowKit
set_option linter.unusedVariables false

theorem own : ownKnob Try.prog.godebug = none := by kernel_rfl
theorem mixed : Try.prog.follows .mixedOrders = true := by kernel_rfl
theorem laid : laidOutB Try.prog = true := by kernel_rfl
theorem simple : [3,36].all (Go.Am.simpleT Try.prog 8) = true := by kernel_rfl
theorem stay : [3,36].all (fun t => Try.prog.readableRec t && decide (t < Try.prog.types.size)) = true := by kernel_rfl

set_option maxRecDepth 100000 in
theorem lifted (os : Os) (started : os.Started) (H : Type) (enc : TypeId × Value → H) :
    ReturnsInHanded {} Try.checked os 4 .any (Rows.dockPlaysSpec.pre6 enc Try.prog Try.f4 Rows.dockPlaysRow.domain false) (Rows.dockPlaysSpec.post enc Try.prog Try.f4 false true false false) := by
  refine returnsInHanded_of_change_sized (C := Try.checked) own started (by kernel_rfl) Try.func4
    (ChangeSpec.witness6 (enc := enc) (C := Try.checked) false ⟨#[], #[.int .i64 0, .slice none 0 0], []⟩ 8 (by kernel_rfl) (by kernel_rfl) (by kernel_rfl) (by kernel_rfl)) ?_
  intro W base args ds gs before hval0 hW hcnd hsz0 _
  have hW' := hW
  obtain ⟨p, q, hA0, hV, rfl, hfz, hnd⟩ := hW
  have hA : DataW.TrodAll enc Try.prog W 0 (fun _ => true) true Try.f4.params.toList args.toList ds p := hA0
  rw [Try.params4] at hA
  obtain ⟨rfl, rfl⟩ := trodVars_none hV
  have hsz : (DataW.weightsEach Try.prog [3,36] ds).all (· ≤ reachBytes) = true := by
    have h : (DataW.weightsEach Try.prog (Try.f4.params.toList ++ Rows.dockPlaysSpec.plain.varTypes Try.prog) (ds ++ [])).all (· ≤ reachBytes) = true := hsz0
    rw [Try.params4, show Rows.dockPlaysSpec.plain.varTypes Try.prog = [] from rfl] at h
    simpa only [List.append_nil] using h
  have hlt : ∀ x ∈ p, x.block < W.heap.size := fun x hx => hW'.lt x (by simp [hx])
  refine (Go.Am.law_calls mixed (ts := [3,36]) simple (fun j t v ht hv => hval0 j t v (by rw [Try.params4]; simpa using ht) (by simpa using hv)) hA hsz (Go.Am.GlobW.none rfl _ _) Go.Am.law_DockPlays).mono fun e W' ⟨he, bel⟩ => ?_
  subst he
  have st := Go.Am.args_stay laid bel stay hA hlt
  obtain ⟨d0, d1, rfl⟩ : ∃ d0 d1, ds = [d0, d1] := match ds, Go.Am.trodAll_len hA with | [d0, d1], _ => ⟨d0, d1, rfl⟩
  exact ⟨_, rfl, _, _, _, [], _, [], hW', trodAll_mk1 (shut_bool Try.underlying4 _), st, rfl, bel.frame _, fun h => by cases h⟩

theorem over : Rows.dockPlaysRow.holds Try.pinned (OpenSpec.ofChange Rows.dockPlaysSpec) :=
  OpenClaim.holds_of_wide 4 Try.f4 rfl rfl rfl rfl rfl rfl rfl ⟨rfl, rfl, rfl, rfl, rfl⟩ rfl rfl rfl rfl rfl (by kernel_rfl) Try.func4 (by kernel_rfl)
    (of_decide_eq_true (by kernel_rfl)) (by unfold Func.isWrapper; first | (rw [if_pos (by decide +kernel)]; kernel_rfl) | (rw [if_neg (by decide +kernel)]; exact ⟨rfl, rfl⟩))
    (fun os started H enc _ => lifted os started H enc)

theorem proved : Rows.DockPlaysSaid := over
end Go.Proofs.Ytckmbpfimofhdaa.dockPlays
namespace Go.Proofs.Ytckmbpfimofhdaa
/-- The law, under a short name, for the claim. -/
theorem dockPlays_holds : Rows.DockPlaysSaid := dockPlays.proved
end Go.Proofs.Ytckmbpfimofhdaa
