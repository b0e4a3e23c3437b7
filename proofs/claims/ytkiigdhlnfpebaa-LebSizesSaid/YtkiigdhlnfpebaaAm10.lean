/- The abstract machine: every operation. -/
import Derived.Test.YtkiigdhlnfpebaaAm9
set_option linter.unusedSimpArgs false
set_option linter.unusedVariables false
namespace Go.Am
variable {P : Program} {base : Nat} {E : Env} {h : Heap} {w : World}

def EvSound (P : Program) (base : Nat) (ev : Ev) : Prop := ∀ f args h v h' E w args', ev f args h = some (v, h') → Rel P base E h w → ARel E args args' → Free E h h' →
  Calls P f args' w fun e w' => ∃ v' E', e = .returned v' ∧ Post P base E h w E' h' w' ∧ VR E' v v'
def EvGrow (ev : Ev) : Prop := ∀ f args h v h', ev f args h = some (v, h') → Grow h h'

/-- what is owed of a result -/
def UponK (P : Program) (K : Value → World → Prop) : Result Next → Prop
  | .ok (.value v) w => K v w
  | .ok .skip w => K undef w
  | .ok (.enter f args) w => Calls P f args w fun e w' => ∃ v, e = .returned v ∧ K v w'
  | _ => False
theorem UponK.wp {K : Value → World → Prop} {o : Oper} {a : Act} {next : Act → World → Prop} {Q : Exit → Act → World → Prop} (hK : ∀ v w, K v w → next (a.put o.dst v) w) {w : World} (h : UponK P K ((execOp a.eval o).run P w)) : o.wp P a w next Q := by
  unfold Oper.wp
  generalize (execOp a.eval o).run P w = r at h
  cases r with
  | halt x w' => exact h.elim
  | ok n w' =>
    cases n with
    | value v => exact hK _ _ h
    | skip => exact hK _ _ h
    | enter f args =>
      show Calls P f args w' _
      refine Calls.mono h ?_
      rintro e w2 ⟨v, rfl, hv⟩
      exact hK _ _ hv
    | _ => exact h.elim
def OpOk (P : Program) (base : Nat) (E : Env) (h : Heap) (w : World) (o : Oper) (ρ : Operand → Value) (v : Value) (h' : Heap) : Prop :=
  ∀ (K : Value → World → Prop), (∀ E' w' v', Post P base E h w E' h' w' → VR E' v v' → K v' w') → UponK P K ((execOp ρ o).run P w)
theorem OpOk.value {o : Oper} {ρ : Operand → Value} {v v' : Value} {h' : Heap} {E' : Env} {w' : World} (hr : (execOp ρ o).run P w = .ok (.value v') w') (hp : Post P base E h w E' h' w') (hv : VR E' v v') : OpOk P base E h w o ρ v h' := by
  intro K hk
  rw [hr]
  exact hk _ _ _ hp hv
theorem OpOk.skip {o : Oper} {ρ : Operand → Value} {h' : Heap} {E' : Env} {w' : World} (hr : (execOp ρ o).run P w = .ok .skip w') (hp : Post P base E h w E' h' w') : OpOk P base E h w o ρ undef h' := by
  intro K hk
  rw [hr]
  exact hk _ _ _ hp VR.undef

theorem evalO_rel {T : Array Value} {a : Act} (hT : ARel E T a.tmps) {x : Operand} (hc : constOk x = true) : VR E (evalO T x) (a.eval x) := by
  cases x with
  | tmp t => exact hT.getD t
  | const v => exact VR.of_ground hc
  | global g => cases hc
  | func f => exact .func rfl (fun i h => by simp at h) rfl (fun i h => by simp at h)
theorem args_rel {T : Array Value} {ρ : Operand → Value} {l : Array Operand} (hx : ∀ x, x ∈ l → VR E (evalO T x) (ρ x)) : ARel E (l.map (evalO T)) (l.map ρ) := by
  refine ⟨by simp, fun i h1 h2 => ?_⟩
  simp at h1
  simp only [Array.getElem_map]
  exact hx _ (Array.getElem_mem h1)
theorem parts_rel {T : Array Value} {ρ : Operand → Value} {l : Array (Nat × Operand)} (hx : ∀ x ∈ l.toList, VR E (evalO T x.2) (ρ x.2)) : PRel E (l.map fun x => (x.1, evalO T x.2)).toList (l.map fun (i, x) => (i, ρ x)).toList := by
  refine ⟨by simp, fun i x hxx => ?_⟩
  simp only [Array.toList_map, List.getElem?_map, Option.map_eq_some_iff] at hxx ⊢
  obtain ⟨y, hy, rfl⟩ := hxx
  exact ⟨ρ y.2, ⟨y, hy, rfl⟩, hx y (List.mem_of_getElem? hy)⟩
theorem opt_rel {T : Array Value} {ρ : Operand → Value} {x : Option Operand} (hx : ∀ y, x = some y → VR E (evalO T y) (ρ y)) : ORel E (x.map (evalO T)) (x.map ρ) := by
  cases x with
  | none => trivial
  | some y => exact hx y rfl

theorem lenV_run (hR : Rel P base E h w) {ts : Array TypeId} {t0 t2 : TypeId} {x x' v : Value} (h0 : ts[0]? = some t0) (hv : lenV P t0 x h = some v) (hx : VR E x x') : ∃ v', (Builtin.len_ ts t2 #[x']).run P w = .ok v' w ∧ VR E v v' := by
  unfold lenV at hv
  split at hv
  · rename_i elem a n c hu
    simp only [Option.some.injEq] at hv
    subst hv
    have : ∃ a' c', x' = .slice a' n c' := by cases hx <;> exact ⟨_, _, rfl⟩
    obtain ⟨a', c', rfl⟩ := this
    exact ⟨_, by simp [Builtin.len_, h0, run_under hu, goInt], .int _ _⟩
  · rename_i s hu
    simp only [Option.some.injEq] at hv
    subst hv
    cases hx
    exact ⟨_, by simp [Builtin.len_, h0, run_under hu, goInt], .int _ _⟩
  · rename_i n elem hu
    simp only [Option.some.injEq] at hv
    subst hv
    refine ⟨_, ?_, .int _ _⟩
    simp only [Builtin.len_, h0, List.getElem?_toArray, List.getElem?_cons_zero, Sem.run_bind, run_under hu, Result.andThen_ok, Sem.run_pure, goInt]
  · rename_i kt et r hu
    cases hx with
    | map hl =>
    cases hm : mapOf? h r with
    | none => simp [hm] at hv
    | some es =>
      simp only [hm, Option.map_some, Option.some.injEq] at hv
      subst hv
      obtain ⟨es', clock, h4, h5⟩ := map_read hR hm hl
      exact ⟨_, by simp [Builtin.len_, h0, run_under hu, run_getObj_map h4, goInt, h5.1], .int _ _⟩
  · cases hv
theorem args1 {x : Value} {args args' : Array Value} (h : args.toList = [x]) (hr : ARel E args args') : ∃ x', args' = #[x'] ∧ VR E x x' := by
  have h2 := hr.list
  rw [h] at h2
  obtain ⟨x', h3, h4⟩ := h2.2 0 x rfl
  refine ⟨x', ?_, h4⟩
  have hl := h2.1
  apply Array.ext'
  cases hq : args'.toList with
  | nil => simp [hq] at h3
  | cons y r =>
    rw [hq] at h3 hl
    simp at h3 hl
    subst h3
    simp [hl]
theorem args2 {x y : Value} {args args' : Array Value} (h : args.toList = [x, y]) (hr : ARel E args args') : ∃ x' y', args' = #[x', y'] ∧ VR E x x' ∧ VR E y y' := by
  have h2 := hr.list
  rw [h] at h2
  obtain ⟨x', h3, h4⟩ := h2.2 0 x rfl
  obtain ⟨y', h5, h6⟩ := h2.2 1 y rfl
  refine ⟨x', y', ?_, h4, h6⟩
  have hl := h2.1
  apply Array.ext'
  cases hq : args'.toList with
  | nil => simp [hq] at h3
  | cons p r =>
    rw [hq] at h3 h5 hl
    cases r with
    | nil => simp at hl
    | cons q r =>
      simp at h3 h5 hl
      subst h3 h5
      simp [hl]
theorem args_ground {args args' : Array Value} (hr : ARel E args args') (hg : args.all ground = true) : args' = args := by
  apply Array.ext hr.1.symm
  intro i h1 h2
  exact (hr.2 i h2 h1).ground_eq (arr_all hg i h2)

theorem builtinV_run (hR : Rel P base E h w) {b : Builtin} {ts : Array TypeId} {t2 : TypeId} {cs : Array Bool} {args args' : Array Value} {v : Value} {h' : Heap} (hfree : Free E h h') (hv : builtinV P b ts args h = some (v, h')) (ha : ARel E args args') :
    ∃ E' w' v', (builtin b ts t2 cs args').run P w = .ok (.value v') w' ∧ Post P base E h w E' h' w' ∧ VR E' v v' := by
  unfold builtinV at hv
  split at hv
  · rename_i x t ha0 ht
    obtain ⟨x', rfl, hx⟩ := args1 ha0 ha
    cases hl : lenV P t x h with
    | none => simp [hl] at hv
    | some u =>
      simp only [hl, Option.map_some, Option.some.injEq, Prod.mk.injEq] at hv
      obtain ⟨rfl, rfl⟩ := hv
      obtain ⟨v', g1, g2⟩ := lenV_run (t2 := t2) hR ht hl hx
      exact ⟨E, w, v', by simp [builtin, g1], Post.refl hR, g2⟩
  · rename_i s x t ha0 ht
    obtain ⟨s', x', rfl, hs, hx⟩ := args2 ha0 ha
    obtain ⟨E', w', v', g1, g2, g3⟩ := appendV_run (t2 := t2) hR ht hfree hv hs hx
    exact ⟨E', w', v', by simp [builtin, g1], g2, g3⟩
  · rename_i m k t ha0 ht
    obtain ⟨m', k', rfl, hm, hk⟩ := args2 ha0 ha
    cases hl : deleteV P t m k h with
    | none => simp [hl] at hv
    | some h1 =>
      simp only [hl, Option.map_some, Option.some.injEq, Prod.mk.injEq] at hv
      obtain ⟨rfl, rfl⟩ := hv
      obtain ⟨w', g1, g2⟩ := deleteV_run (t2 := t2) hR ht hl hm hk
      exact ⟨E, w', .tuple #[], by simp [builtin, g1], g2, VR.undef⟩
  · rename_i hg0
    split at hv
    · rename_i hg
      rw [show args' = args from args_ground ha (by simpa using hg)]
      cases hp : pureV P (Builtin.min_ ts 0 args) with
      | none => simp [hp] at hv
      | some u =>
        simp only [hp, Option.map_some, Option.some.injEq, Prod.mk.injEq] at hv
        obtain ⟨rfl, rfl⟩ := hv
        have := (pureV_run (E := E) hp).1 w
        exact ⟨E, w, u, by simp only [builtin]; rw [show Builtin.min_ ts t2 args = Builtin.min_ ts 0 args from rfl]; simp [this], Post.refl hR, (pureV_run hp).2⟩
    · cases hv
  · split at hv
    · rename_i hg
      rw [show args' = args from args_ground ha (by simpa using hg)]
      cases hp : pureV P (Builtin.max_ ts 0 args) with
      | none => simp [hp] at hv
      | some u =>
        simp only [hp, Option.map_some, Option.some.injEq, Prod.mk.injEq] at hv
        obtain ⟨rfl, rfl⟩ := hv
        have := (pureV_run (E := E) hp).1 w
        exact ⟨E, w, u, by simp only [builtin]; rw [show Builtin.max_ ts t2 args = Builtin.max_ ts 0 args from rfl]; simp [this], Post.refl hR, (pureV_run hp).2⟩
    · cases hv
  · cases hv
theorem builtinV_grow {b : Builtin} {ts : Array TypeId} {args : Array Value} {v : Value} {h' : Heap} (hv : builtinV P b ts args h = some (v, h')) : Grow h h' := by
  unfold builtinV at hv
  split at hv
  · obtain ⟨u, _, hu⟩ := Option.map_eq_some_iff.1 hv
    cases hu; exact Grow.refl _
  · exact appendV_grow hv
  · rename_i m k t _ _
    obtain ⟨u, hd, hu⟩ := Option.map_eq_some_iff.1 hv
    cases hu
    unfold deleteV at hd
    split at hd
    · split at hd
      · rename_i hm
        split at hd
        · obtain ⟨f, _, hf⟩ := Option.map_eq_some_iff.1 hd
          split at hf <;> (subst hf; exact map_grow hm)
        · cases hd
      · cases hd
    · cases hd
  · split at hv
    · obtain ⟨u, _, hu⟩ := Option.map_eq_some_iff.1 hv
      cases hu; exact Grow.refl _
    · cases hv
  · split at hv
    · obtain ⟨u, _, hu⟩ := Option.map_eq_some_iff.1 hv
      cases hu; exact Grow.refl _
    · cases hv
  · cases hv
end Go.Am
