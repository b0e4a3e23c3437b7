/- The abstract machine: a call from the world of a row. -/
import Derived.Test.YtkiigdhlnfpebaaAm17
import Derived.Below
namespace Go.Am
open Go.RowKit
variable {P : Program}

theorem evC_of_evalN {k : Nat} {f : FuncId} {args : Array Value} {h : Heap} {v : Value} {h' : Heap} (he : evalN P k f args h = some (v, h')) : evC P f args h = some (v, h') :=
  evC_iff.2 ⟨k, he⟩

/-- A call that the machine answers with 'true', from blocks none of which is the call's own. -/
theorem calls_true (hm : P.follows .mixedOrders = true) {f : FuncId} {args args' : Array Value} {h h' : Heap} {E : Env} {W : World}
    (he : evC P f args h = some (.bool true, h')) (hR : Rel P W.heap.size E h W) (hA : ARel E args args') (hF : ∀ b, h.blks.length ≤ b → E b = none) :
    Calls P f args' W fun e W' => e = .returned (.bool true) ∧ Below W.heap.size W W' := by
  refine (evC_sound hm W.heap.size f args h _ _ E W args' he hR hA (fun b hb _ => hF b hb)).mono fun e W' ⟨v', E', h1, h2, h3⟩ => ?_
  cases h3
  refine ⟨h1, h2.fr.os, h2.fr.tape, h2.fr.output, h2.fr.size, fun c hc => h2.fr.blk c hc fun ⟨b, k, l, hk, hl, ho, _, e⟩ => ?_⟩
  have := hR.low b k l hk hl ho
  omega
def noE : Env := fun _ => none
theorem rel_none (W : World) : Rel P W.heap.size noE ⟨[], []⟩ W :=
  ⟨fun _ _ _ _ h => (by cases h), fun _ _ _ _ h => (by cases h), fun _ _ _ _ h => (by cases h), fun _ _ h => (by cases h), fun _ _ _ _ _ _ _ _ h => (by cases h), Nat.le_refl _⟩
/-- a closed law, by the machine's own run -/
def trueIn (P : Program) (k : Nat) (f : FuncId) : Bool := match evalN P k f #[] ⟨[], []⟩ with | some (.bool true, _) => true | _ => false
theorem calls_closed (hm : P.follows .mixedOrders = true) {k : Nat} {f : FuncId} (h : trueIn P k f = true) (W : World) :
    Calls P f #[] W fun e W' => e = .returned (.bool true) ∧ Below W.heap.size W W' := by
  unfold trueIn at h
  split at h
  · rename_i h' he
    exact calls_true hm (evC_of_evalN he) (rel_none W) ARel.nil fun _ _ => rfl
  · cases h
end Go.Am
