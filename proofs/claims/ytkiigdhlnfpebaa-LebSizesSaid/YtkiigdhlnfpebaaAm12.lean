/- The abstract machine: regions in the text's order, code, calls. -/
import Derived.Test.YtkiigdhlnfpebaaAm11
import Derived.LoopN
set_option linter.unusedSimpArgs false
set_option linter.unusedVariables false
namespace Go.Am
variable {P : Program} {base : Nat} {E : Env} {h : Heap} {w : World}

theorem ARel.get? {T A : Array Value} (hT : ARel E T A) (d : Nat) : (T[d]? = none ∧ A[d]? = none) ∨ (∃ v v', T[d]? = some v ∧ A[d]? = some v' ∧ VR E v v') := by
  by_cases hd : d < T.size
  · have hd' : d < A.size := hT.1 ▸ hd
    exact .inr ⟨T[d], A[d], by simp [hd], by simp [hd'], hT.2 d hd hd'⟩
  · have hd' : ¬ d < A.size := hT.1 ▸ hd
    exact .inl ⟨by simp [hd], by simp [hd']⟩
theorem yielded_rel {ops : Array Oper} {T A : Array Value} (hT : ARel E T A) (j : Nat) : yielded ops T j = yielded ops A j := by
  unfold yielded
  cases hd : (ops[j]?).bind (·.dst) with
  | none => rfl
  | some d =>
    simp only [Option.bind_some]
    rcases hT.get? d with ⟨h1, h2⟩ | ⟨v, v', h1, h2, h3⟩
    · rw [h1, h2]
    · rw [h1, h2]
      cases h3 <;> rfl
theorem wanted_rel {ops : Array Oper} {T A : Array Value} (hT : ARel E T A) (o : Oper) : Region.wanted o (yielded ops T) = Region.wanted o (yielded ops A) := by
  unfold Region.wanted
  cases o.guard with
  | none => rfl
  | some g => obtain ⟨j, b⟩ := g; simp only [yielded_rel hT]
theorem put_rel {T : Array Value} {a : Act} (hT : ARel E T a.tmps) (dst : Option Tmp) {v v' : Value} (hv : VR E v v') : ARel E (putT T dst v) (a.put dst v').tmps := by
  cases dst with
  | none => exact hT
  | some d => exact hT.set d hv
theorem put_defers (a : Act) (dst : Option Tmp) (v : Value) : (a.put dst v).defers = a.defers := by cases dst <;> rfl
theorem plainOk_at {ops : Array Oper} (hp : plainOk ops = true) {i : Nat} {o : Oper} (ho : ops[i]? = some o) : o.op.operands.all constOk = true := by
  unfold plainOk at hp
  rw [Array.all_eq_true'] at hp
  exact hp o (Array.mem_of_getElem? ho)

theorem stepAt_grow {ev : Ev} (hev : EvGrow ev) {ops : Array Oper} {i : Nat} {s s' : St} (hs : stepAt P ev ops i s = some s') : Grow s.h s'.h := by
  unfold stepAt at hs
  split at hs
  · cases hs; exact Grow.refl _
  · split at hs
    · obtain ⟨r, h1, h2⟩ := Option.map_eq_some_iff.1 hs
      subst h2
      exact doOp_grow hev h1
    · cases hs; exact Grow.refl _
theorem stepAt_ok {ev : Ev} (hev : EvSound P base ev) {ops : Array Oper} (hp : plainOk ops = true) {i : Nat} {s s' : St} (hs : stepAt P ev ops i s = some s') (hR : Rel P base E s.h w) {a : Act} (hT : ARel E s.T a.tmps) (hfree : Free E s.h s'.h)
    {K : Act → World → Prop} {Q : Exit → Act → World → Prop} (hK : ∀ E' w' a', Post P base E s.h w E' s'.h w' → ARel E' s'.T a'.tmps → a'.defers = a.defers → K a' w') : wpOp P ops Q i K a w := by
  unfold stepAt at hs
  unfold wpOp
  split at hs
  · rename_i ho
    cases hs
    rw [ho]
    exact hK E w a (Post.refl hR) hT rfl
  · rename_i o ho
    rw [ho]
    simp only [← wanted_rel hT]
    split at hs
    · rename_i hw
      rw [if_pos hw]
      obtain ⟨r, h1, h2⟩ := Option.map_eq_some_iff.1 hs
      subst h2
      left
      have hc := plainOk_at hp ho
      rw [Array.all_eq_true'] at hc
      refine UponK.wp (K := fun v w => K (a.put o.dst v) w) (fun v w h => h) (doOp_ok hev hR (ρ := a.eval) (fun x hm => evalO_rel hT (hc x hm)) hfree h1 _ fun E' w' v' hpost hv => ?_)
      exact hK E' w' _ hpost (put_rel (hT.mono hpost.ext) _ hv) (put_defers _ _ _)
    · rename_i hw
      rw [if_neg hw]
      cases hs
      exact hK E w _ (Post.refl hR) (put_rel hT _ VR.undef) (put_defers _ _ _)

theorem runList_grow {ev : Ev} (hev : EvGrow ev) {ops : Array Oper} : ∀ (l : List Nat) {s s' : St}, runList P ev ops l s = some s' → Grow s.h s'.h
  | [], s, s', h => by cases h; exact Grow.refl _
  | i :: l, s, s', h => by
    unfold runList at h
    obtain ⟨s1, h1, h2⟩ := Option.bind_eq_some_iff.1 h
    exact (stepAt_grow hev h1).trans (runList_grow hev l h2)
theorem runList_ok {ev : Ev} (hg : EvGrow ev) (hev : EvSound P base ev) {ops : Array Oper} (hp : plainOk ops = true) : ∀ (l : List Nat) {s s' : St} {E : Env} {w : World} {a : Act}, runList P ev ops l s = some s' → Rel P base E s.h w → ARel E s.T a.tmps → Free E s.h s'.h →
    ∀ {Q : Exit → Act → World → Prop}, (∀ E' w' a', Post P base E s.h w E' s'.h w' → ARel E' s'.T a'.tmps → a'.defers = a.defers → Q .normal a' w') → wpOps P ops Q l a w
  | [], s, s', E, w, a, h, hR, hT, hfree, Q, hQ => by
    cases h
    exact hQ E w a (Post.refl hR) hT rfl
  | i :: l, s, s', E, w, a, h, hR, hT, hfree, Q, hQ => by
    unfold runList at h
    obtain ⟨s1, h1, h2⟩ := Option.bind_eq_some_iff.1 h
    have g1 := stepAt_grow hg h1
    have g2 := runList_grow hg l h2
    rw [wpOps_cons]
    refine stepAt_ok hev hp h1 hR hT (hfree.left g2) fun E1 w1 a1 p1 hT1 hd1 => ?_
    refine runList_ok hg hev hp l h2 p1.rel hT1 (hfree.right p1 g1) fun E2 w2 a2 p2 hT2 hd2 => ?_
    exact hQ E2 w2 a2 (p1.trans p2 g1 g2 hfree) hT2 (hd2.trans hd1)

def RunOk (P : Program) (base : Nat) (run : Run) (c : Code) : Prop := ∀ (s : St) (e : Ex) (s' : St) (E : Env) (w : World) (a : Act), run s = some (e, s') → Rel P base E s.h w → ARel E s.T a.tmps → Free E s.h s'.h →
  ∀ (Q : Exit → Act → World → Prop), (∀ E' w' a', Post P base E s.h w E' s'.h w' → ARel E' s'.T a'.tmps → a'.defers = a.defers → Q (match e with | .normal => .normal | .ret => .ret | .exit id => .exit id) a' w') → c.wp P Q a w
def RunGrow (run : Run) : Prop := ∀ s e s', run s = some (e, s') → Grow s.h s'.h
def Ex.to : Ex → Exit
  | .normal => .normal
  | .ret => .ret
  | .exit id => .exit id

theorem stepD_grow {ev : Ev} (hev : EvGrow ev) {ops : Array Oper} {B : Array Nat} {i : Nat} {d d' : DSt} (hs : stepD P ev ops B i d = some d') : Grow d.s.h d'.s.h := by
  unfold stepD at hs
  obtain ⟨s', h1, h2⟩ := Option.map_eq_some_iff.1 hs
  subst h2
  have g := stepAt_grow hev h1
  obtain ⟨m, h3, h4⟩ := g.mods
  simp only [List.append_nil] at h3
  exact ⟨g.len, g.old, ⟨m, by simp only [h3], h4⟩, g.fresh⟩
theorem runListD_grow {ev : Ev} (hev : EvGrow ev) {ops : Array Oper} {B : Array Nat} : ∀ (l : List Nat) {d d' : DSt}, runListD P ev ops B l d = some d' → Grow d.s.h d'.s.h
  | [], d, d', h => by cases h; exact Grow.refl _
  | i :: l, d, d', h => by
    unfold runListD at h
    obtain ⟨d1, h1, h2⟩ := Option.bind_eq_some_iff.1 h
    exact (stepD_grow hev h1).trans (runListD_grow hev l h2)
theorem regionV_grow {ev : Ev} (hev : EvGrow ev) {ops : Array Oper} {draw : Bool} {s s' : St} (h : regionV P ev ops draw s = some s') : Grow s.h s'.h := by
  unfold regionV at h
  split at h
  · split at h
    · split at h
      · split at h
        · rename_i d hd
          split at h
          · cases h; exact runListD_grow hev _ hd
          · cases h
        · cases h
      · cases h
    · exact runList_grow hev _ h
  · cases h

/-- what is owed for a region that draws -/
def DrawOk (P : Program) (base : Nat) : Prop := ∀ (ev : Ev), EvGrow ev → EvSound P base ev → ∀ (id : Nat) (ops : Array Oper) (s s' : St) (E : Env) (w : World) (a : Act), plainOk ops = true → drawOk P ops (Region.before ops) = true →
  regionV P ev ops true s = some s' → Rel P base E s.h w → ARel E s.T a.tmps → Free E s.h s'.h →
  ∀ (Q : Exit → Act → World → Prop), (∀ E' w' a', Post P base E s.h w E' s'.h w' → ARel E' s'.T a'.tmps → a'.defers = a.defers → Q .normal a' w') → (Code.region id ops true).wp P Q a w

theorem loopN_grow {f : Run} (hf : RunGrow f) : ∀ k, RunGrow (loopN k f)
  | 0, s, e, s', h => by cases h
  | k + 1, s, e, s', h => by
    unfold loopN at h
    obtain ⟨r, h1, h2⟩ := Option.bind_eq_some_iff.1 h
    obtain ⟨e1, s1⟩ := r
    have g1 := hf _ _ _ h1
    cases e1 with
    | normal => exact g1.trans (loopN_grow hf k _ _ _ h2)
    | ret => cases h2; exact g1
    | exit id => cases h2; exact g1
theorem runCode_grow {ev : Ev} (hev : EvGrow ev) (k : Nat) : ∀ (c : Code), RunGrow (runCode P ev (loopN k) c) := by
  intro c
  induction c with
  | skip => intro s e s' h; cases h; exact Grow.refl _
  | label l => intro s e s' h; cases h; exact Grow.refl _
  | ret => intro s e s' h; cases h; exact Grow.refl _
  | exit id => intro s e s' h; cases h; exact Grow.refl _
  | region id ops draw =>
    intro s e s' h
    unfold runCode at h
    obtain ⟨s1, h1, h2⟩ := Option.map_eq_some_iff.1 h
    cases h2
    exact regionV_grow hev h1
  | seq x y ihx ihy =>
    intro s e s' h
    unfold runCode at h
    obtain ⟨r, h1, h2⟩ := Option.bind_eq_some_iff.1 h
    obtain ⟨e1, s1⟩ := r
    have g1 := ihx _ _ _ h1
    cases e1 with
    | normal => exact g1.trans (ihy _ _ _ h2)
    | ret => cases h2; exact g1
    | exit id => cases h2; exact g1
  | cond c x y ihx ihy =>
    intro s e s' h
    unfold runCode at h
    split at h
    · split at h
      · exact ihx _ _ _ h
      · exact ihy _ _ _ h
      · cases h
    · cases h
  | block id c ih =>
    intro s e s' h
    unfold runCode at h
    obtain ⟨r, h1, h2⟩ := Option.map_eq_some_iff.1 h
    obtain ⟨e1, s1⟩ := r
    cases h2
    exact ih _ _ _ h1
  | loop c ih =>
    intro s e s' h
    unfold runCode at h
    exact loopN_grow ih k _ _ _ h
  | _ => intro s e s' h; cases h

theorem loopN_ok {f : Run} {c : Code} (hg : RunGrow f) (hf : RunOk P base f c) : ∀ k (s : St) (e : Ex) (s' : St) (E : Env) (w : World) (a : Act), loopN k f s = some (e, s') → Rel P base E s.h w → ARel E s.T a.tmps → Free E s.h s'.h →
    ∀ (Q : Exit → Act → World → Prop), (∀ E' w' a', Post P base E s.h w E' s'.h w' → ARel E' s'.T a'.tmps → a'.defers = a.defers → Q (match e with | .normal => .normal | .ret => .ret | .exit id => .exit id) a' w') → Code.rounds P c Q k a w
  | 0, s, e, s', E, w, a, h, _, _, _, Q, _ => by cases h
  | k + 1, s, e, s', E, w, a, h, hR, hT, hfree, Q, hQ => by
    unfold loopN at h
    obtain ⟨r, h1, h2⟩ := Option.bind_eq_some_iff.1 h
    obtain ⟨e1, s1⟩ := r
    have g1 := hg _ _ _ h1
    rw [rounds_succ]
    cases e1 with
    | normal =>
      have g2 := loopN_grow hg k _ _ _ h2
      refine hf s .normal s1 E w a h1 hR hT (hfree.left g2) _ fun E1 w1 a1 p1 hT1 hd1 => ?_
      show Code.rounds P c Q k a1 w1
      exact loopN_ok hg hf k s1 e s' E1 w1 a1 h2 p1.rel hT1 (hfree.right p1 g1) Q fun E2 w2 a2 p2 hT2 hd2 => hQ E2 w2 a2 (p1.trans p2 g1 g2 hfree) hT2 (hd2.trans hd1)
    | ret => cases h2; exact hf s .ret s1 E w a h1 hR hT hfree _ hQ
    | exit id => cases h2; exact hf s (.exit id) s1 E w a h1 hR hT hfree _ hQ

theorem runCode_ok (hdraw : DrawOk P base) {ev : Ev} (hg : EvGrow ev) (hev : EvSound P base ev) (k : Nat) : ∀ (c : Code), RunOk P base (runCode P ev (loopN k) c) c := by
  intro c
  induction c with
  | skip => intro s e s' E w a h hR hT hf Q hQ; cases h; exact wp_skip (hQ E w a (Post.refl hR) hT rfl)
  | label l => intro s e s' E w a h hR hT hf Q hQ; cases h; exact wp_label (hQ E w a (Post.refl hR) hT rfl)
  | ret => intro s e s' E w a h hR hT hf Q hQ; cases h; exact wp_ret (hQ E w a (Post.refl hR) hT rfl)
  | exit id => intro s e s' E w a h hR hT hf Q hQ; cases h; exact wp_exit (hQ E w a (Post.refl hR) hT rfl)
  | region id ops draw =>
    intro s e s' E w a h hR hT hf Q hQ
    unfold runCode at h
    obtain ⟨s1, h1, h2⟩ := Option.map_eq_some_iff.1 h
    cases h2
    cases draw with
    | false =>
      unfold regionV at h1
      split at h1
      · rename_i hp
        exact wp_region (runList_ok hg hev hp _ h1 hR hT hf hQ)
      · cases h1
    | true =>
      have h1' := h1
      unfold regionV at h1'
      split at h1'
      · rename_i hp
        rw [if_pos rfl] at h1'
        split at h1'
        · rename_i hd
          exact hdraw ev hg hev id ops s s' E w a hp hd h1 hR hT hf Q hQ
        · cases h1'
      · cases h1'
  | seq x y ihx ihy =>
    intro s e s' E w a h hR hT hf Q hQ
    unfold runCode at h
    obtain ⟨r, h1, h2⟩ := Option.bind_eq_some_iff.1 h
    obtain ⟨e1, s1⟩ := r
    have g1 := runCode_grow hg k x _ _ _ h1
    refine wp_seq ?_
    cases e1 with
    | normal =>
      have g2 := runCode_grow hg k y _ _ _ h2
      refine ihx s .normal s1 E w a h1 hR hT (hf.left g2) _ fun E1 w1 a1 p1 hT1 hd1 => ?_
      show y.wp P Q a1 w1
      exact ihy s1 e s' E1 w1 a1 h2 p1.rel hT1 (hf.right p1 g1) Q fun E2 w2 a2 p2 hT2 hd2 => hQ E2 w2 a2 (p1.trans p2 g1 g2 hf) hT2 (hd2.trans hd1)
    | ret => cases h2; exact ihx s .ret s1 E w a h1 hR hT hf _ hQ
    | exit id => cases h2; exact ihx s (.exit id) s1 E w a h1 hR hT hf _ hQ
  | cond c x y ihx ihy =>
    intro s e s' E w a h hR hT hf Q hQ
    unfold runCode at h
    split at h
    · rename_i hc
      have hr := evalO_rel hT hc
      split at h
      · rename_i hv
        rw [hv] at hr
        generalize hq : a.eval c = q at hr
        cases hr
        exact wp_cond_true hq (ihx s e s' E w a h hR hT hf Q hQ)
      · rename_i hv
        rw [hv] at hr
        generalize hq : a.eval c = q at hr
        cases hr
        exact wp_cond_false hq (ihy s e s' E w a h hR hT hf Q hQ)
      · cases h
    · cases h
  | block id c ih =>
    intro s e s' E w a h hR hT hf Q hQ
    unfold runCode at h
    obtain ⟨r, h1, h2⟩ := Option.map_eq_some_iff.1 h
    obtain ⟨e1, s1⟩ := r
    cases h2
    refine wp_block (ih s e1 s1 E w a h1 hR hT hf _ fun E1 w1 a1 p1 hT1 hd1 => ?_)
    have := hQ E1 w1 a1 p1 hT1 hd1
    cases e1 with
    | normal => exact this
    | ret => exact this
    | exit i =>
      show Exit.inBlock id Q (.exit i) a1 w1
      simp only [Exit.inBlock]
      simp only [Ex.inBlock] at this
      split
      · rename_i hi; rw [if_pos hi] at this; exact this
      · rename_i hi; rw [if_neg hi] at this; exact this
  | loop c ih =>
    intro s e s' E w a h hR hT hf Q hQ
    unfold runCode at h
    exact wp_loop_rounds k (loopN_ok (runCode_grow hg k c) ih k s e s' E w a h hR hT hf Q hQ)
  | _ => intro s e s' E w a h; cases h

/-! ### calls -/
theorem Heap.mods_irrel {h : Heap} (m : List Nat) (hR : Rel P base E h w) : Rel P base E { h with mods := m } w := ⟨hR.blk, hR.low, hR.ro, hR.bnd, hR.inj, hR.base⟩
theorem callBody_grow {ev : Ev} (hev : EvGrow ev) (k : Nat) : EvGrow (callBody P ev (loopN k)) := by
  intro f args h v h' hv
  unfold callBody at hv
  split at hv
  · rename_i fn hfn
    split at hv
    · rename_i c hc
      have key : ∀ e s, runCode P ev (loopN k) c ⟨args ++ Array.replicate (fn.ntmps - args.size) undef, { h with mods := [] }⟩ = some (e, s) → (resultsV P fn s).map (fun v => (v, ({ s.h with mods := s.h.mods.filter (· < h.blks.length) ++ h.mods } : Heap))) = some (v, h') → Grow h h' := by
        intro e s hr hm
        obtain ⟨u, _, hu⟩ := Option.map_eq_some_iff.1 hm
        cases hu
        have g := runCode_grow hev k c _ _ _ hr
        obtain ⟨m, h3, h4⟩ := g.mods
        simp only [List.append_nil] at h3
        refine ⟨g.len, g.old, ⟨_, rfl, fun b hb hn => ?_⟩, g.fresh⟩
        have : b ∉ m := fun hm => hn (by rw [h3]; simp [hm, hb])
        exact h4 b hb this
      split at hv
      · rename_i s hr; exact key _ _ hr hv
      · rename_i s hr; exact key _ _ hr hv
      · cases hv
    · cases hv
  · cases hv
def resRun (A : Array Value) : ResultVar → Sem Value
  | .tmp t => pure (A.getD t undef)
  | .cell a t => do loadVar t (← asAddr (A.getD a undef))
theorem results_eq (fn : Func) (A : Array Value) : results fn A = (do
    let vs ← fn.results.mapM (resRun A)
    pure (if h : vs.size = 1 then vs[0] else .tuple vs)) := by
  unfold results
  have : (fun x => match x with
    | ResultVar.tmp t => (pure (A.getD t undef) : Sem Value)
    | ResultVar.cell a t => do loadVar t (← asAddr (A.getD a undef))) = resRun A := by
    funext x; cases x <;> rfl
  rw [← this]
  rfl
theorem resOne_run (hR : Rel P base E h w) {T A : Array Value} (hT : ARel E T A) : ∀ (l : List ResultVar) (vs : List Value), l.mapM (resOne P ⟨T, h⟩) = some vs →
    ∃ vs', (l.mapM (resRun A)).run P w = .ok vs' w ∧ LRel E vs vs'
  | [], vs, h => by simp at h; subst h; exact ⟨[], by simp, rfl, fun i v hv => by simp at hv⟩
  | x :: l, vs, h => by
    simp only [List.mapM_cons, Option.bind_eq_bind, Option.bind_eq_some_iff, Option.pure_def, Option.some.injEq] at h
    obtain ⟨v0, h0, vs0, h1, rfl⟩ := h
    obtain ⟨vs', h2, h3⟩ := resOne_run hR hT l vs0 h1
    have hx : ∃ v', (resRun A x).run P w = .ok v' w ∧ VR E v0 v' := by
      cases x with
      | tmp t => simp only [resOne, Option.some.injEq] at h0; subst h0; exact ⟨_, rfl, hT.getD t⟩
      | cell a t =>
        simp only [resOne] at h0
        obtain ⟨v', g1, g2⟩ := loadV_run hR h0 (hT.getD a)
        refine ⟨v', ?_, g2⟩
        have hp := hT.getD a
        unfold loadV at h0
        split at h0
        · rename_i b o hb
          rw [hb] at hp
          obtain ⟨l, hl, hp'⟩ := hp.ptr_inv
          simp only [resRun]
          rw [hp'] at g1 ⊢
          simpa [Instr.loadAt, Instr.sureAddr, asAddr] using g1
        · cases h0
    obtain ⟨v', g1, g2⟩ := hx
    refine ⟨v' :: vs', ?_, by simp [h3.1], fun i v hv => ?_⟩
    · simp only [List.mapM_cons, Sem.run_bind, g1, Result.andThen_ok, h2, Sem.run_pure]
    · cases i with
      | zero => simp at hv; subst hv; exact ⟨v', rfl, g2⟩
      | succ i => simpa using h3.2 i v (by simpa using hv)
theorem resultsV_run (hR : Rel P base E h w) {fn : Func} {T A : Array Value} {v : Value} (hv : resultsV P fn ⟨T, h⟩ = some v) (hT : ARel E T A) : ∃ v', (results fn A).run P w = .ok v' w ∧ VR E v v' := by
  have hrun : ∀ vs', (fn.results.toList.mapM (resRun A)).run P w = .ok vs' w → (results fn A).run P w = .ok (if h : vs'.toArray.size = 1 then vs'.toArray[0] else .tuple vs'.toArray) w := by
    intro vs' hm
    rw [results_eq]
    simp only [Sem.run_bind, Array.mapM_eq_mapM_toList, Sem.run_map]
    rw [hm]
    rfl
  unfold resultsV at hv
  split at hv
  · rename_i v0 hm
    obtain ⟨vs', h1, h2⟩ := resOne_run hR hT _ _ hm
    simp only [Option.some.injEq] at hv
    subst hv
    obtain ⟨v', h3, h4⟩ := h2.2 0 v0 rfl
    have hl := h2.1
    cases vs' with
    | nil => simp at h3
    | cons y r =>
      simp at h3 hl
      subst h3 hl
      exact ⟨y, by rw [hrun _ h1]; simp, h4⟩
  · rename_i vs hne hm
    obtain ⟨vs', h1, h2⟩ := resOne_run hR hT _ _ hm
    simp only [Option.some.injEq] at hv
    subst hv
    refine ⟨.tuple vs'.toArray, ?_, .tuple h2.arr.1 h2.arr.2⟩
    rw [hrun _ h1]
    have : ¬ vs'.toArray.size = 1 := by
      have e := h2.1
      intro h1'
      simp at h1'
      rw [← e] at h1'
      obtain ⟨x, hx⟩ := List.length_eq_one_iff.1 h1'
      exact hne x hx
    rw [dif_neg this]
  · cases hv

theorem enter_rel {args args' : Array Value} (ha : ARel E args args') (n : Nat) : ARel E (args ++ Array.replicate (n - args.size) undef) (args' ++ Array.replicate (n - args'.size) undef) := by
  rw [ha.1]
  exact ha.append ⟨rfl, fun i h1 h2 => by simp only [Array.getElem_replicate]; exact VR.undef⟩

theorem callBody_ok (hdraw : DrawOk P base) {ev : Ev} (hg : EvGrow ev) (hev : EvSound P base ev) (k : Nat) : EvSound P base (callBody P ev (loopN k)) := by
  intro f args h v h' E w args' hv hR ha hfree
  unfold callBody at hv
  split at hv
  · rename_i fn hfn
    split at hv
    · rename_i c hc
      have key : ∀ (e : Ex) (s : St), (e = .normal ∨ e = .ret) → runCode P ev (loopN k) c ⟨args ++ Array.replicate (fn.ntmps - args.size) undef, { h with mods := [] }⟩ = some (e, s) → (resultsV P fn s).map (fun v => (v, ({ s.h with mods := s.h.mods.filter (· < h.blks.length) ++ h.mods } : Heap))) = some (v, h') →
          Calls P f args' w fun e w' => ∃ v' E', e = .returned v' ∧ Post P base E h w E' h' w' ∧ VR E' v v' := by
        intro e s he hr hm
        obtain ⟨u, hu1, hu⟩ := Option.map_eq_some_iff.1 hm
        cases hu
        refine calls_of_wp hfn hc ?_
        refine runCode_ok hdraw hg hev k c _ e s E w _ hr (Heap.mods_irrel [] hR) (enter_rel ha _) hfree _ fun E' w' a' p hT hd => ?_
        obtain ⟨v', h1, h2⟩ := resultsV_run p.rel hu1 hT
        have hp : Post P base E h w E' { s.h with mods := s.h.mods.filter (· < h.blks.length) ++ h.mods } w' := ⟨p.ext, p.dom, Heap.mods_irrel _ p.rel, ⟨p.fr.os, p.fr.tape, p.fr.output, p.fr.size, p.fr.blk⟩, p.orig⟩
        rcases he with rfl | rfl
        · exact ⟨hd, v', h1, v', E', rfl, hp, h2⟩
        · exact ⟨hd, v', h1, v', E', rfl, hp, h2⟩
      split at hv
      · rename_i s hr; exact key _ _ (.inl rfl) hr hv
      · rename_i s hr; exact key _ _ (.inr rfl) hr hv
      · cases hv
    · cases hv
  · cases hv

theorem evalN_grow : ∀ k, EvGrow (evalN P k)
  | 0 => fun _ _ _ _ _ h => by cases h
  | k + 1 => callBody_grow (evalN_grow k) k
theorem evalN_ok (hdraw : DrawOk P base) : ∀ k, EvSound P base (evalN P k)
  | 0 => fun _ _ _ _ _ _ _ _ h => by cases h
  | k + 1 => callBody_ok hdraw (evalN_grow k) (evalN_ok hdraw k) k
end Go.Am
