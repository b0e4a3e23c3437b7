/- The abstract machine: an operation of its own is one of the model's. -/
import Derived.Test.YtkiigdhlnfpebaaAm10
set_option linter.unusedSimpArgs false
set_option linter.unusedVariables false
namespace Go.Am
variable {P : Program} {base : Nat} {E : Env} {h : Heap} {w : World}

theorem storeV_grow {t : TypeId} {x v : Value} {h' : Heap} (hs : storeV P t x v h = some h') : Grow h h' := by
  unfold storeV at hs
  split at hs
  · split at hs
    · split at hs
      · exact storeN_grow hs
      · cases hs
    · cases hs
  · cases hs
theorem mapUpdateV_grow {t : TypeId} {m k v : Value} {h' : Heap} (hd : mapUpdateV P t m k v h = some h') : Grow h h' := by
  unfold mapUpdateV at hd
  split at hd
  · split at hd
    · rename_i hm
      split at hd
      · obtain ⟨f, _, hf⟩ := Option.map_eq_some_iff.1 hd
        split at hf <;> (subst hf; exact map_grow hm)
      · cases hd
    · cases hd
  · cases hd
theorem convV_grow {s d : TypeId} {x v : Value} {h' : Heap} (hv : convV P s d x h = some (v, h')) : Grow h h' := by
  unfold convV at hv
  split at hv
  · split at hv
    · simp only [Option.some.injEq, Prod.mk.injEq] at hv; rw [← hv.2]; exact Grow.refl _
    · cases hv
  · split at hv
    · obtain ⟨u, _, hu⟩ := Option.map_eq_some_iff.1 hv
      cases hu; exact Grow.refl _
    · cases hv
  · split at hv
    · simp only [Option.some.injEq, Prod.mk.injEq] at hv; rw [← hv.2]; exact (Grow.new _ _ _ (by simp [Body.kind]))
    · cases hv
  · split at hv
    · rename_i hb
      split at hv
      · simp only [Option.some.injEq, Prod.mk.injEq] at hv; rw [← hv.2]; exact Grow.put hb trivial _ rfl
      · cases hv
    · cases hv
  · cases hv
  · cases hv
  · split at hv
    · obtain ⟨u, _, hu⟩ := Option.map_eq_some_iff.1 hv
      cases hu; exact Grow.refl _
    · cases hv
theorem buildSliceV_grow {t : TypeId} {n : Nat} {p : Array (Nat × Value)} {v : Value} {h' : Heap} (hv : buildSliceV P t n p h = some (v, h')) : Grow h h' := by
  unfold buildSliceV at hv
  split at hv
  · split at hv
    · split at hv
      · obtain ⟨u, _, hu⟩ := Option.map_eq_some_iff.1 hv
        cases hu; exact (Grow.new _ _ _ (by simp [Body.kind]))
      · cases hv
    · cases hv
  · cases hv
theorem makeSliceV_grow {t : TypeId} {l c v : Value} {h' : Heap} (hv : makeSliceV P t l c h = some (v, h')) : Grow h h' := by
  unfold makeSliceV at hv
  split at hv
  · split at hv
    · split at hv
      · simp only [Option.some.injEq, Prod.mk.injEq] at hv; rw [← hv.2]; exact (Grow.new _ _ _ (by simp [Body.kind]))
      · cases hv
    · cases hv
  · cases hv
theorem callV_grow {ev : Ev} (hev : EvGrow ev) {f : Value} {args : Array Value} {v : Value} {h' : Heap} (hv : callV P ev f args h = some (v, h')) : Grow h h' := by
  unfold callV at hv
  split at hv
  · split at hv
    · split at hv
      · cases hv
      · split at hv
        · obtain ⟨u, _, hu⟩ := Option.map_eq_some_iff.1 hv
          cases hu; exact Grow.refl _
        · exact hev _ _ _ _ _ hv
    · cases hv
  · cases hv
theorem doOp_grow {ev : Ev} (hev : EvGrow ev) {o : Oper} {T : Array Value} {v : Value} {h' : Heap} (hv : doOp P ev o T h = some (v, h')) : Grow h h' := by
  have pmap : ∀ {u : Option Value}, (u.map fun v => (v, h)) = some (v, h') → Grow h h' := fun hu => by
    obtain ⟨_, _, e⟩ := Option.map_eq_some_iff.1 hu
    cases e; exact Grow.refl _
  have umap : ∀ {u : Option Heap}, (∀ h1, u = some h1 → Grow h h1) → (u.map fun h' => (undef, h')) = some (v, h') → Grow h h' := fun hh hu => by
    obtain ⟨h1, h2, e⟩ := Option.map_eq_some_iff.1 hu
    cases e; exact hh _ h2
  unfold doOp at hv
  simp only at hv
  split at hv
  all_goals first
    | exact pmap hv
    | (cases hv; exact Grow.refl _)
    | (cases hv; done)
    | exact convV_grow hv
    | exact buildSliceV_grow hv
    | exact makeSliceV_grow hv
    | exact umap (fun _ hs => storeV_grow hs) hv
    | exact umap (fun _ hs => mapUpdateV_grow hs) hv
    | skip
  · split at hv
    · cases hv; exact Grow.refl _
    · cases hv
  · unfold allocV at hv
    split at hv
    · split at hv
      · cases hv; exact (Grow.new _ _ _ (by simp [Body.kind]))
      · cases hv
    · cases hv
  · unfold boxV at hv
    split at hv
    · cases hv; exact (Grow.new _ _ _ (by simp [Body.kind]))
    · cases hv
  · cases hv; exact (Grow.new _ _ _ (by simp [Body.kind]))
  · split at hv
    · exact builtinV_grow hv
    · exact callV_grow hev hv
    · cases hv

theorem OpOk.call {o : Oper} {ρ : Operand → Value} {v : Value} {h' : Heap} {f : FuncId} {args' : Array Value} (hr : (execOp ρ o).run P w = .ok (.enter f args') w)
    (hc : Calls P f args' w fun e w' => ∃ v' E', e = .returned v' ∧ Post P base E h w E' h' w' ∧ VR E' v v') : OpOk P base E h w o ρ v h' := by
  intro K hk
  rw [hr]
  show Calls P f args' w _
  refine hc.mono ?_
  rintro e w' ⟨v', E', rfl, hp, hv⟩
  exact ⟨v', rfl, hk _ _ _ hp hv⟩

theorem callV_ok {ev : Ev} (hev : EvSound P base ev) (hR : Rel P base E h w) {o : Oper} {ρ : Operand → Value} {c : Call} {f : Operand} (ho : o.op = .call c) (hcal : c.callee = .value f) {fv : Value} {args : Array Value} (hf : VR E fv (ρ f)) (ha : ARel E args (c.args.map ρ)) {v : Value} {h' : Heap}
    (hfree : Free E h h') (hv : callV P ev fv args h = some (v, h')) : OpOk P base E h w o ρ v h' := by
  unfold callV at hv
  split at hv
  · rename_i fid first captured
    generalize hfe : ρ f = fe at hf
    cases hf with
    | func e1 e2 e3 e4 =>
    rename_i first' captured'
    have hall : ARel E (first ++ args ++ captured) (first' ++ c.args.map ρ ++ captured') := (ARel.append ⟨e1, e2⟩ ha).append ⟨e3, e4⟩
    split at hv
    · rename_i fn hfn
      split at hv
      · cases hv
      · rename_i hnum
        have hres : (resolve ρ c o.type).run P w = .ok { target := .fn (.func fid) captured', args := first' ++ c.args.map ρ } w := by
          unfold resolve
          simp only [hcal, hfe, Deferred.ofValue]
          rfl
        have hexec : (execOp ρ o).run P w = (callFunc fid (first' ++ c.args.map ρ ++ captured')).run P w := by
          unfold execOp
          simp only [ho, Sem.run_bind, hres, Result.andThen_ok]
          rfl
        split at hv
        · rename_i hbody
          cases he : externV P fn (first ++ args ++ captured) with
          | none => rw [he] at hv; cases hv
          | some u =>
            simp only [he, Option.map_some, Option.some.injEq, Prod.mk.injEq] at hv
            obtain ⟨rfl, rfl⟩ := hv
            unfold externV at he
            split at he
            · rename_i hc
              simp only [Bool.and_eq_true] at hc
              split at he
              · rename_i e hfind
                have hg := args_ground hall hc.1
                have hnone : Extern.findNext fn = none := by simpa using hc.2
                refine OpOk.value (v' := u) (E' := E) (w' := w) ?_ (Post.refl hR) (pureV_run he).2
                rw [hexec, hg]
                simp only [callFunc, Sem.run_bind, run_program, Result.andThen_ok, hfn]
                rw [if_neg (by simpa using hnum)]
                simp only [hbody, if_true, Sem.run_bind, run_mark, Result.andThen_ok, hnone, hfind]
                simp only [Sem.run_bind, (pureV_run (E := E) he).1 w, Result.andThen_ok, Sem.run_pure]
              · cases he
            · cases he
        · rename_i hbody
          refine OpOk.call (f := fid) (args' := first' ++ c.args.map ρ ++ captured') ?_ (hev _ _ _ _ _ _ _ _ hv hR hall hfree)
          rw [hexec]
          simp only [callFunc, Sem.run_bind, run_program, Result.andThen_ok, hfn]
          rw [if_neg (by simpa using hnum), if_neg hbody]
          rfl
    · cases hv
  · cases hv

theorem doOp_ok {ev : Ev} (hev : EvSound P base ev) (hR : Rel P base E h w) {o : Oper} {T : Array Value} {ρ : Operand → Value} (hx : ∀ x, x ∈ o.op.operands → VR E (evalO T x) (ρ x)) {v : Value} {h' : Heap} (hfree : Free E h h')
    (hd : doOp P ev o T h = some (v, h')) : OpOk P base E h w o ρ v h' := by
  have new : ∀ {h' : Heap}, h'.blks.length = h.blks.length + 1 → Free E h h' → E h.blks.length = none := fun hl hf => hf _ (Nat.le_refl _) (by omega)
  -- a value, of nothing but values
  have pure' : ∀ {u : Option Value} {s : Sem Value}, (execOp ρ o = do pure (.value (← s))) → (u.map fun v => (v, h)) = some (v, h') → (∀ v, u = some v → ∃ v', s.run P w = .ok v' w ∧ VR E v v') → OpOk P base E h w o ρ v h' := by
    intro u s he hu hh
    obtain ⟨v0, h1, e⟩ := Option.map_eq_some_iff.1 hu
    simp only [Prod.mk.injEq] at e
    obtain ⟨rfl, rfl⟩ := e
    obtain ⟨v', h2, h3⟩ := hh _ h1
    exact OpOk.value (by rw [he]; simp [h2]) (Post.refl hR) h3
  have made : ∀ {s : Sem Value}, (execOp ρ o = do pure (.value (← s))) → (∃ E' w' v', s.run P w = .ok v' w' ∧ Post P base E h w E' h' w' ∧ VR E' v v') → OpOk P base E h w o ρ v h' := by
    rintro s he ⟨E', w', v', h1, h2, h3⟩
    exact OpOk.value (by rw [he]; simp [h1]) h2 h3
  unfold doOp at hd
  simp only at hd
  unfold execOp at pure' made
  split at hd
  · rename_i x ho
    simp only [ho] at pure' made hx
    simp only [Op.operands] at hx
    simp only [Option.some.injEq, Prod.mk.injEq] at hd
    obtain ⟨rfl, rfl⟩ := hd
    exact OpOk.value (by unfold execOp; simp only [ho]; rfl) (Post.refl hR) (hx x (by simp))
  · rename_i x ho
    simp only [ho] at pure' made hx
    simp only [Op.operands] at hx
    simp only [Option.some.injEq, Prod.mk.injEq] at hd
    obtain ⟨rfl, rfl⟩ := hd
    exact OpOk.value (by unfold execOp; simp only [ho]; rfl) (Post.refl hR) (hx x (by simp))
  · rename_i c x y ho
    simp only [ho] at pure' made hx
    simp only [Op.operands] at hx
    have hcv := hx c (by simp)
    split at hd
    · rename_i t ht
      rw [ht] at hcv
      simp only [Option.some.injEq, Prod.mk.injEq] at hd
      obtain ⟨rfl, rfl⟩ := hd
      generalize hq : ρ c = q at hcv
      cases hcv
      refine OpOk.value (v' := if t then ρ x else ρ y) (E' := E) (w' := w) ?_ (Post.refl hR) ?_
      · unfold execOp; simp only [ho, hq, asBool]; cases t <;> rfl
      · cases t
        · exact hx y (by simp)
        · exact hx x (by simp)
    · cases hd
  · rename_i t ho
    simp only [ho] at pure' made hx
    simp only [Op.operands] at hx
    unfold allocV at hd
    split at hd
    · rename_i z n hz hn
      split at hd
      · rename_i hg
        simp only [Option.some.injEq, Prod.mk.injEq] at hd
        obtain ⟨rfl, rfl⟩ := hd
        obtain ⟨E', w', a', h1, h2, h3⟩ := newV_run hR (new (by simp [newV, Heap.new_len]) hfree) hn (VR.of_ground (E := E) hg)
        exact made rfl ⟨E', w', _, by simp [Instr.alloc, run_zeroT hz, h1], h2, h3⟩
      · cases hd
    · cases hd
  · rename_i t x ho
    simp only [ho] at pure' made hx
    simp only [Op.operands] at hx
    unfold boxV at hd
    split at hd
    · rename_i n hn
      simp only [Option.some.injEq, Prod.mk.injEq] at hd
      obtain ⟨rfl, rfl⟩ := hd
      obtain ⟨E', w', a', h1, h2, h3⟩ := newV_run hR (new (by simp [newV, Heap.new_len]) hfree) hn (hx x (by simp))
      exact made rfl ⟨E', w', _, by simp [Instr.box, h1], h2, h3⟩
    · cases hd
  · rename_i t parts ho
    simp only [ho] at pure' made hx
    simp only [Op.operands] at hx
    refine pure' rfl hd fun v0 hv0 => ?_
    obtain ⟨v', h1, h2⟩ := buildV_run hv0 (parts_rel (fun y hm => hx y.2 (by simp; exact ⟨y.1, by simpa using hm⟩)))
    exact ⟨v', h1 w, h2⟩
  · rename_i t len parts ho
    simp only [ho] at pure' made hx
    simp only [Op.operands] at hx
    have hl : h'.blks.length = h.blks.length + 1 := by
      unfold buildSliceV at hd
      split at hd
      · split at hd
        · split at hd
          · obtain ⟨u, _, hu⟩ := Option.map_eq_some_iff.1 hd
            cases hu; exact Heap.new_len _ _ _
          · cases hd
        · cases hd
      · cases hd
    exact made rfl (buildSliceV_run hR (new hl hfree) hd (parts_rel (fun y hm => hx y.2 (by simp; exact ⟨y.1, by simpa using hm⟩))))
  · rename_i t x ho
    simp only [ho] at pure' made hx
    simp only [Op.operands] at hx
    exact pure' rfl hd fun v0 hv0 => loadV_run hR hv0 (hx x (by simp))
  · rename_i t x y ho
    simp only [ho] at pure' made hx
    simp only [Op.operands] at hx
    obtain ⟨h1, h2, e⟩ := Option.map_eq_some_iff.1 hd
    simp only [Prod.mk.injEq] at e
    obtain ⟨rfl, rfl⟩ := e
    obtain ⟨w', h3, h4⟩ := storeV_run hR h2 (hx x (by simp)) (hx y (by simp))
    exact OpOk.skip (by unfold execOp; simp only [ho]; simp [h3]) h4
  · rename_i x ho
    simp only [ho] at pure' made hx
    simp only [Op.operands] at hx
    obtain ⟨v0, h1, e⟩ := Option.map_eq_some_iff.1 hd
    simp only [Prod.mk.injEq] at e
    obtain ⟨rfl, rfl⟩ := e
    have hxx := hx x (by simp)
    obtain ⟨rfl, h2⟩ := nilCheckV_run h1 hxx
    refine OpOk.value (v' := ρ x) (E' := E) (w' := w) ?_ (Post.refl hR) hxx
    unfold execOp
    simp only [ho]
    rcases h2 with ⟨q, hq⟩ | ⟨f, fs, cs, hq⟩ <;> simp [hq]
  · rename_i op t x y t2 ho
    simp only [ho] at pure' made hx
    simp only [Op.operands] at hx
    refine pure' rfl hd fun v0 hv0 => ?_
    obtain ⟨v', h1, h2⟩ := binV_run hv0 (hx x (by simp)) (hx y (by simp))
    exact ⟨v', h1 w, h2⟩
  · rename_i op t x ho
    simp only [ho] at pure' made hx
    simp only [Op.operands] at hx
    refine pure' rfl hd fun v0 hv0 => ?_
    obtain ⟨v', h1, h2⟩ := unV_run hv0 (hx x (by simp))
    exact ⟨v', h1 w, h2⟩
  · rename_i s d x ho
    simp only [ho] at pure' made hx
    simp only [Op.operands] at hx
    exact made rfl (convV_run hR hfree hd (hx x (by simp)))
  · rename_i t x ho
    simp only [ho] at pure' made hx
    simp only [Op.operands] at hx
    refine pure' rfl hd fun v0 hv0 => ?_
    obtain ⟨v', h1, h2⟩ := makeInterfaceV_run hv0 (hx x (by simp))
    exact ⟨v', h1 w, h2⟩
  · rename_i fn first captured ho
    simp only [ho] at pure' made hx
    simp only [Op.operands] at hx
    simp only [Option.some.injEq, Prod.mk.injEq] at hd
    obtain ⟨rfl, rfl⟩ := hd
    have h1 := args_rel (l := first) (fun x hm => hx x (by simp [hm]))
    have h2 := args_rel (l := captured) (fun x hm => hx x (by simp [hm]))
    exact OpOk.value (v' := .func fn (first.map ρ) (captured.map ρ)) (E' := E) (w' := w) (by unfold execOp; simp only [ho]; rfl) (Post.refl hR) (.func h1.1 h1.2 h2.1 h2.2)
  · rename_i t ho
    simp only [ho] at pure' made hx
    simp only [Op.operands] at hx
    simp only [Option.some.injEq] at hd
    obtain ⟨rfl, rfl⟩ : (makeMapV h).1 = v ∧ (makeMapV h).2 = h' := by rw [hd]; exact ⟨rfl, rfl⟩
    exact made rfl (makeMapV_run hR (new (Heap.new_len _ _ _) hfree) t)
  · rename_i t l c ho
    simp only [ho] at pure' made hx
    simp only [Op.operands] at hx
    have hl : h'.blks.length = h.blks.length + 1 := by
      unfold makeSliceV at hd
      split at hd
      · split at hd
        · split at hd
          · simp only [Option.some.injEq, Prod.mk.injEq] at hd; rw [← hd.2]; exact Heap.new_len _ _ _
          · cases hd
        · cases hd
      · cases hd
    exact made rfl (makeSliceV_run hR (new hl hfree) hd (hx l (by simp)) (hx c (by simp)))
  · rename_i t x lo hi mx ho
    simp only [ho] at pure' made hx
    simp only [Op.operands] at hx
    refine pure' rfl hd fun v0 hv0 => ?_
    exact sliceV_run hR hv0 (hx x (by simp)) (opt_rel fun y hy => hx y (by simp [hy])) (opt_rel fun y hy => hx y (by simp [hy])) (opt_rel fun y hy => hx y (by simp [hy]))
  · rename_i t x f ho
    simp only [ho] at pure' made hx
    simp only [Op.operands] at hx
    refine pure' rfl hd fun v0 hv0 => ?_
    obtain ⟨v', h1, h2⟩ := fieldAddrV_run hv0 (hx x (by simp))
    exact ⟨v', h1 w, h2⟩
  · rename_i t x f ho
    simp only [ho] at pure' made hx
    simp only [Op.operands] at hx
    refine pure' rfl hd fun v0 hv0 => ?_
    obtain ⟨v', h1, h2⟩ := fieldV_run hv0 (hx x (by simp))
    exact ⟨v', h1 w, h2⟩
  · rename_i t x i ho
    simp only [ho] at pure' made hx
    simp only [Op.operands] at hx
    refine pure' rfl hd fun v0 hv0 => ?_
    obtain ⟨v', h1, h2⟩ := indexAddrV_run hv0 (hx x (by simp)) (hx i (by simp))
    exact ⟨v', h1 w, h2⟩
  · rename_i t x i ho
    simp only [ho] at pure' made hx
    simp only [Op.operands] at hx
    refine pure' rfl hd fun v0 hv0 => ?_
    obtain ⟨v', h1, h2⟩ := indexV_run hv0 (hx x (by simp)) (hx i (by simp))
    exact ⟨v', h1 w, h2⟩
  · rename_i t m k ok ho
    simp only [ho] at pure' made hx
    simp only [Op.operands] at hx
    exact pure' rfl hd fun v0 hv0 => lookupV_run hR hv0 (hx m (by simp)) (hx k (by simp))
  · rename_i t m k x ho
    simp only [ho] at pure' made hx
    simp only [Op.operands] at hx
    obtain ⟨h1, h2, e⟩ := Option.map_eq_some_iff.1 hd
    simp only [Prod.mk.injEq] at e
    obtain ⟨rfl, rfl⟩ := e
    obtain ⟨w', h3, h4⟩ := mapUpdateV_run hR h2 (hx m (by simp)) (hx k (by simp)) (hx x (by simp))
    exact OpOk.skip (by unfold execOp; simp only [ho]; simp [h3]) h4
  · rename_i x t a2 ok ho
    simp only [ho] at pure' made hx
    simp only [Op.operands] at hx
    refine pure' rfl hd fun v0 hv0 => ?_
    obtain ⟨v', h1, h2⟩ := typeAssertV_run hv0 (hx x (by simp))
    exact ⟨v', h1 w, h2⟩
  · rename_i x i ho
    simp only [ho] at pure' made hx
    simp only [Op.operands] at hx
    refine pure' rfl hd fun v0 hv0 => ?_
    obtain ⟨v', h1, h2⟩ := extractV_run hv0 (hx x (by simp))
    exact ⟨v', h1 w, h2⟩
  · rename_i c ho
    simp only [ho] at pure' made hx
    simp only [Op.operands] at hx
    have hargs := args_rel (l := c.args) (fun x hm => hx x (by simp [Call.operands, hm]))
    split at hd
    · rename_i b hb
      obtain ⟨E', w', v', h1, h2, h3⟩ := builtinV_run (t2 := o.type) (cs := c.args.map fun | .const _ => true | _ => false) hR hfree hd hargs
      refine OpOk.value (v' := v') ?_ h2 h3
      unfold execOp resolve
      simp only [ho, hb, Sem.run_bind, Sem.run_pure, Result.andThen_ok, invoke]
      exact h1
    · rename_i f hf
      exact callV_ok hev hR ho hf (hx f (by simp [Call.operands, hf])) hargs hfree hd
    · cases hd
  · cases hd
end Go.Am
