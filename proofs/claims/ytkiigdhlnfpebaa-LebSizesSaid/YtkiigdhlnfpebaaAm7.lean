/- The abstract machine: maps, append, copy, clear. -/
import Derived.Test.YtkiigdhlnfpebaaAm6
set_option linter.unusedSimpArgs false
set_option linter.unusedVariables false
namespace Go.Am
variable {P : Program} {base : Nat} {E : Env} {h : Heap} {w : World}

theorem isIntT_eq {t : TypeId} (ht : isIntT P t = true) : ∃ k, P.underlying t = some (.int k) := by
  unfold isIntT at ht
  split at ht
  · exact ⟨_, by assumption⟩
  · cases ht
def ERel (E : Env) (es : List (Value × Value)) (es' : Array MapEntry) : Prop := es.length = es'.size ∧ ∀ (i : Nat) e e', es[i]? = some e → es'[i]? = some e' → VR E e.1 e'.key ∧ VR E e.2 e'.val
theorem findInt_run {kd : IntKind} {k : IntKind} {n : Int} : ∀ (es : List (Value × Value)) (es' : List MapEntry) (i : Nat) {r : Option (Nat × Value)}, es.length = es'.length →
    (∀ (j : Nat) e e', es[j]? = some e → es'[j]? = some e' → VR E e.1 e'.key ∧ VR E e.2 e'.val) → findInt k n es i = some r →
    (r = none ∧ Instr.findNow (.int kd) (.int k n) es' i = some none) ∨
    (∃ j v v', r = some (i + j, v) ∧ Instr.findNow (.int kd) (.int k n) es' i = some (some (i + j, v')) ∧ VR E v v' ∧ j < es.length ∧ (es'[j]?).map (·.key) = some (.int k n))
  | [], es', i, r, hl, hr, hf => by
    have : es' = [] := List.length_eq_zero_iff.1 (by simpa using hl.symm)
    subst this
    simp [findInt] at hf
    subst hf
    exact .inl ⟨rfl, rfl⟩
  | (x, v) :: es, es', i, r, hl, hr, hf => by
    cases es' with
    | nil => simp at hl
    | cons e' es' =>
      obtain ⟨h1, h2⟩ := hr 0 (x, v) e' rfl rfl
      cases x with
      | int k' m =>
        have hk : e'.key = .int k' m := by
          generalize e'.key = q at h1
          cases h1; rfl
        simp only [findInt] at hf
        split at hf
        · rename_i hkk
          subst hkk
          split at hf
          · rename_i hnm
            subst hnm
            simp only [Option.some.injEq] at hf
            subst hf
            refine .inr ⟨0, v, e'.val, rfl, ?_, h2, by simp, by simp [hk]⟩
            simp [Instr.findNow, Instr.sameNow, hk]
          · rename_i hnm
            have hb : (n == m) = false := by simpa using hnm
            have step : Instr.findNow (.int kd) (.int k n) (e' :: es') i = Instr.findNow (.int kd) (.int k n) es' (i + 1) := by
              simp [Instr.findNow, Instr.sameNow, hk, hb]
            rcases findInt_run (kd := kd) es es' (i + 1) (by simpa using hl) (fun j e e1 he he1 => hr (j + 1) e e1 (by simpa using he) (by simpa using he1)) hf with ⟨g1, g2⟩ | ⟨j, u, u', g1, g2, g3, g4, g5⟩
            · exact .inl ⟨g1, by rw [step]; exact g2⟩
            · exact .inr ⟨j + 1, u, u', by rw [g1]; congr 2; omega, by rw [step, g2]; congr 3; omega, g3, by simp; omega, by simpa using g5⟩
        · cases hf
      | _ => simp [findInt] at hf

theorem mapOf_inv {b : Nat} {es : List (Value × Value)} (hm : mapOf? h b = some es) : ∃ ty, h.blks[b]? = some ⟨.map es, ty, true⟩ := by
  unfold mapOf? at hm
  split at hm
  · simp only [Option.some.injEq] at hm
    subst hm
    exact ⟨_, by assumption⟩
  · cases hm
theorem map_read (hR : Rel P base E h w) {b : Nat} {l : Loc} {es : List (Value × Value)} (hm : mapOf? h b = some es) (hl : E b = some l) : ∃ es' clock, w.heap[l.cb]? = some (.map es' clock) ∧ ERel E es es' := by
  obtain ⟨ty, hk⟩ := mapOf_inv hm
  obtain ⟨es', clock, h1, h2, h3⟩ := hR.blk b _ l hk hl
  exact ⟨es', clock, h1, h2, h3⟩
theorem run_getObj_map {c : Nat} {es' : Array MapEntry} {clock : Nat} (hh : w.heap[c]? = some (.map es' clock)) : (getObj c).run P w = .ok (.map es' clock) w := by
  unfold getObj; unfold Sem.run; rw [hh]; rfl
theorem run_setObj_map {c : Nat} {es' : Array MapEntry} {clock : Nat} (hh : w.heap[c]? = some (.map es' clock)) (o : Obj) : (setObj c o).run P w = .ok () { w with heap := w.heap.setIfInBounds c o } := by
  unfold setObj; unfold Sem.run; rw [hh]; rfl
theorem run_checkKey_int {kt : TypeId} {k : IntKind} {n : Int} {kd : IntKind} (hk : P.underlying kt = some (.int kd)) (b : Bool) (w : World) : (Instr.checkKey b 10000 kt (.int k n)).run P w = .ok () w := by
  rw [show (10000 : Nat) = Nat.succ 9999 from rfl]
  unfold Instr.checkKey
  simp only [Sem.run_bind, run_under hk, Result.andThen_ok]
  rfl
theorem run_findKey {kt : TypeId} {k : IntKind} {n : Int} {kd : IntKind} {es : List MapEntry} {r : Option (Nat × Value)} (hk : P.underlying kt = some (.int kd)) (hf : Instr.findNow (.int kd) (.int k n) es 0 = some r) (w : World) : (Instr.findKey kt (.int k n) es).run P w = .ok r w := by
  simp [Instr.findKey, run_under hk, hf]

theorem lookupV_run (hR : Rel P base E h w) {t : TypeId} {m m' key key' v : Value} {ok : Bool} (hv : lookupV P t m key ok h = some v) (hm : VR E m m') (hk : VR E key key') :
    ∃ v', (Instr.lookup t m' key' ok).run P w = .ok v' w ∧ VR E v v' := by
  unfold lookupV at hv
  split at hv
  · rename_i kt et r k n h1
    obtain rfl := hk.int_inv
    cases hm with
    | map hl =>
    split at hv
    · rename_i es z h2 h3
      split at hv
      · rename_i hc
        simp only [Bool.and_eq_true] at hc
        obtain ⟨kd, hkd⟩ := isIntT_eq hc.1
        obtain ⟨es', clock, h4, h5⟩ := map_read hR h2 hl
        cases hf : findInt k n es 0 with
        | none => simp [hf] at hv
        | some f =>
          simp only [hf, Option.map_some, Option.some.injEq] at hv
          have hlist := findInt_run (E := E) (kd := kd) es es'.toList 0 (by simpa using h5.1) (fun j e e' he he' => h5.2 j e e' he (by simpa using he')) hf
          rcases hlist with ⟨rfl, g2⟩ | ⟨j, u, u', rfl, g2, g3, g4, g5⟩
          · refine ⟨if ok then .tuple #[z, .bool false] else z, ?_, ?_⟩
            · simp [Instr.lookup, run_under h1, run_getObj_map h4, run_checkKey_int hkd, run_findKey hkd g2, run_zeroT h3]
            · rw [← hv]
              cases ok
              · exact VR.of_ground hc.2
              · exact tuple2 (VR.of_ground hc.2) (.bool false)
          · refine ⟨if ok then .tuple #[u', .bool true] else u', ?_, ?_⟩
            · simp [Instr.lookup, run_under h1, run_getObj_map h4, run_checkKey_int hkd, run_findKey hkd g2]
            · rw [← hv]
              cases ok
              · exact g3
              · exact tuple2 g3 (.bool true)
      · cases hv
    · cases hv
  · cases hv

theorem wrote_set (w : World) (c : Nat) (o : Obj) : Wrote c w { w with heap := w.heap.setIfInBounds c o } :=
  ⟨rfl, rfl, rfl, by simp, fun x hx => by simp [Array.getElem?_setIfInBounds, Ne.symm hx]⟩
theorem map_put (hR : Rel P base E h w) {b : Nat} {l : Loc} {es es1 : List (Value × Value)} (hm : mapOf? h b = some es) (hl : E b = some l) {es' es1' : Array MapEntry} {clock : Nat} (hh : w.heap[l.cb]? = some (.map es' clock)) (clock1 : Nat) (hr : ERel E es1 es1') :
    Post P base E h w E (h.put b (.map es1)) { w with heap := w.heap.setIfInBounds l.cb (.map es1' clock1) } := by
  obtain ⟨ty, hk⟩ := mapOf_inv hm
  refine Post.put hR hk hl rfl trivial _ (wrote_set w l.cb _) ⟨es1', clock1, ?_, hr.1, hr.2⟩
  have := (Array.getElem?_eq_some_iff.1 hh).1
  simp [Array.getElem?_setIfInBounds, this]
theorem map_grow {b : Nat} {es es1 : List (Value × Value)} (hm : mapOf? h b = some es) : Grow h (h.put b (.map es1)) := by
  obtain ⟨ty, hk⟩ := mapOf_inv hm
  exact Grow.put hk trivial _ rfl

theorem mapUpdateV_run (hR : Rel P base E h w) {t : TypeId} {m m' key key' v v' : Value} {h' : Heap} (hv : mapUpdateV P t m key v h = some h') (hm : VR E m m') (hk : VR E key key') (hvv : VR E v v') :
    ∃ w', (Instr.mapUpdate t m' key' v').run P w = .ok () w' ∧ Post P base E h w E h' w' := by
  unfold mapUpdateV at hv
  split at hv
  · rename_i kt et r k n h1
    obtain rfl := hk.int_inv
    cases hm with
    | map hl =>
    split at hv
    · rename_i es h2
      split at hv
      · rename_i hc
        obtain ⟨kd, hkd⟩ := isIntT_eq hc
        obtain ⟨es', clock, h4, h5⟩ := map_read hR h2 hl
        cases hf : findInt k n es 0 with
        | none => simp [hf] at hv
        | some f =>
          simp only [hf, Option.map_some, Option.some.injEq] at hv
          have hlist := findInt_run (E := E) (kd := kd) es es'.toList 0 (by simpa using h5.1) (fun j e e' he he' => h5.2 j e e' he (by simpa using he')) hf
          rcases hlist with ⟨rfl, g2⟩ | ⟨j, u, u', rfl, g2, g3, g4, g5⟩
          · subst hv
            refine ⟨_, ?_, map_put hR h2 hl h4 (es1' := es'.push { key := .int k n, val := v', born := clock }) (clock + 1) ⟨by simp [h5.1], fun i e e' he he' => ?_⟩⟩
            · simp [Instr.mapUpdate, run_under h1, run_getObj_map h4, run_checkKey_int hkd, run_findKey hkd g2, run_setObj_map h4]
            · rcases Nat.lt_or_ge i es.length with hi | hi
              · rw [List.getElem?_append_left hi] at he
                rw [Array.getElem?_push, if_neg (by have := h5.1; omega)] at he'
                exact h5.2 i e e' he he'
              · rw [List.getElem?_append_right hi] at he
                have : i - es.length = 0 := by have := (List.getElem?_eq_some_iff.1 he).1; simp at this; omega
                rw [this] at he
                simp at he
                rw [Array.getElem?_push, if_pos (by have := h5.1; omega)] at he'
                simp at he'
                subst he he'
                exact ⟨.int _ _, hvv⟩
          · simp only [Nat.zero_add] at hv g2
            subst hv
            simp only [Array.getElem?_toList] at g5
            have hkey : ∀ w, (Instr.keyThatStays (((es'[j]?).map (·.key)).getD (.int k n)) (.int k n)).run P w = .ok (.int k n) w := fun w => by
              rw [g5]
              have : Instr.sameBits 10000 (.int k n) (.int k n) = true := by rw [show (10000 : Nat) = 9999 + 1 from rfl]; simp [Instr.sameBits]
              simp [Instr.keyThatStays, this]
            refine ⟨_, ?_, map_put hR h2 hl h4 (es1' := es'.modify j fun e => { e with key := .int k n, val := v' }) clock ⟨by simp [h5.1], fun i e e' he he' => ?_⟩⟩
            · simp only [Instr.mapUpdate, Sem.run_bind, run_under h1, Result.andThen_ok, run_getObj_map h4, run_checkKey_int hkd, run_findKey hkd g2, hkey, run_setObj_map h4]
            · by_cases hij : j = i
              · subst hij
                have hj' : j < es'.size := by rw [← h5.1]; exact g4
                rw [List.getElem?_set_self g4] at he
                rw [Array.getElem?_modify] at he'
                simp [hj'] at he he'
                subst he he'
                exact ⟨.int _ _, hvv⟩
              · rw [List.getElem?_set_ne hij] at he
                rw [Array.getElem?_modify, if_neg hij] at he'
                exact h5.2 i e e' he he'
      · cases hv
    · cases hv
  · cases hv

theorem deleteV_run (hR : Rel P base E h w) {t t2 : TypeId} {m m' key key' : Value} {h' : Heap} {ts : Array TypeId} (ht : ts[0]? = some t) (hv : deleteV P t m key h = some h') (hm : VR E m m') (hk : VR E key key') :
    ∃ w', (Builtin.delete_ ts t2 #[m', key']).run P w = .ok (.tuple #[]) w' ∧ Post P base E h w E h' w' := by
  unfold deleteV at hv
  split at hv
  · rename_i kt et r k n h1
    obtain rfl := hk.int_inv
    cases hm with
    | map hl =>
    split at hv
    · rename_i es h2
      split at hv
      · rename_i hc
        obtain ⟨kd, hkd⟩ := isIntT_eq hc
        obtain ⟨es', clock, h4, h5⟩ := map_read hR h2 hl
        cases hf : findInt k n es 0 with
        | none => simp [hf] at hv
        | some f =>
          simp only [hf, Option.map_some, Option.some.injEq] at hv
          have hlist := findInt_run (E := E) (kd := kd) es es'.toList 0 (by simpa using h5.1) (fun j e e' he he' => h5.2 j e e' he (by simpa using he')) hf
          rcases hlist with ⟨rfl, g2⟩ | ⟨j, u, u', rfl, g2, g3, g4, g5⟩
          · subst hv
            refine ⟨_, ?_, map_put hR h2 hl h4 (es1' := es') clock h5⟩
            simp [Builtin.delete_, ht, run_under h1, run_getObj_map h4, run_checkKey_int hkd, run_findKey hkd g2, run_setObj_map h4]
          · simp only [Nat.zero_add] at hv g2
            subst hv
            have hj' : j < es'.size := by rw [← h5.1]; exact g4
            refine ⟨_, ?_, map_put hR h2 hl h4 (es1' := es'.eraseIdxIfInBounds j) clock ⟨?_, fun i e e' he he' => ?_⟩⟩
            · simp [Builtin.delete_, ht, run_under h1, run_getObj_map h4, run_checkKey_int hkd, run_findKey hkd g2, run_setObj_map h4]
            · rw [List.length_eraseIdx_of_lt g4, Array.eraseIdxIfInBounds, dif_pos hj', Array.size_eraseIdx, h5.1]
            · have e1 : (es'.eraseIdxIfInBounds j)[i]? = (es'.toList.eraseIdx j)[i]? := by
                rw [← Array.getElem?_toList, Array.eraseIdxIfInBounds, dif_pos hj', Array.toList_eraseIdx]
              rw [e1] at he'
              rw [List.getElem?_eraseIdx] at he he'
              split at he
              · rename_i hlt; rw [if_pos hlt] at he'; exact h5.2 i e e' he (by simpa using he')
              · rename_i hlt; rw [if_neg hlt] at he'; exact h5.2 (i + 1) e e' he (by simpa using he')
      · cases hv
    · cases hv
  · cases hv

theorem makeMapV_run (hR : Rel P base E h w) (hf : E h.blks.length = none) (t : TypeId) :
    ∃ E' w' v', (Instr.makeMap t none).run P w = .ok v' w' ∧ Post P base E h w E' (makeMapV h).2 w' ∧ VR E' (makeMapV h).1 v' := by
  refine ⟨E.upd h.blks.length ⟨w.heap.size, 0, 0, 0⟩, { w with heap := w.heap.push (.map #[] 0) }, .map (some w.heap.size), by simp [Instr.makeMap], ?_, .map (l := ⟨w.heap.size, 0, 0, 0⟩) (Env.upd_same _ _ _)⟩
  exact Post.new hR hf (.map []) 0 ⟨w.heap.size, 0, 0, 0⟩ rfl (pushed w (.map #[] 0) w.drawn) ⟨#[], 0, by simp, rfl, fun i e e' he => by simp at he⟩
end Go.Am
