/- The abstract machine: more of its operations. -/
import Derived.Test.YtkiigdhlnfpebaaAm3
import Derived.Laws.BytesString
set_option linter.unusedSimpArgs false
set_option linter.unusedVariables false
namespace Go.Am
variable {P : Program} {base : Nat} {E : Env} {h : Heap} {w : World}

/-! ### structs and arrays as values -/
theorem ARel.extract {a a' : Array Value} (hr : ARel E a a') (i j : Nat) : ARel E (a.extract i j) (a'.extract i j) := by
  refine ⟨by simp [hr.1], fun k h1 h2 => ?_⟩
  simp only [Array.getElem_extract]
  exact hr.2 _ _ _
theorem partV_run {t : TypeId} {cs cs' : Array Value} {off : Nat} {v : Value} (hv : partV P t cs off = some v) (hr : ARel E cs cs') : ∃ v', (∀ w, (part t cs' off).run P w = .ok v' w) ∧ VR E v v' := by
  unfold partV at hv
  split at hv
  · rename_i n h1 h2
    simp at hv; subst hv
    exact ⟨_, fun w => by simp [part, run_isAggT h1, run_sizeT h2], .agg (hr.extract _ _).1 (hr.extract _ _).2⟩
  · rename_i h1
    obtain ⟨hi, rfl⟩ := Array.getElem?_eq_some_iff.1 hv
    have hi' : off < cs'.size := hr.1 ▸ hi
    exact ⟨cs'[off], fun w => by simp [part, run_isAggT h1, hi'], hr.2 off hi hi'⟩
  · cases hv
theorem VR.agg_inv {cs : Array Value} {x' : Value} (h : VR E (.agg cs) x') : ∃ cs', x' = .agg cs' ∧ ARel E cs cs' := by
  cases h with
  | agg hs h => exact ⟨_, rfl, hs, h⟩
theorem VR.int_inv {k : IntKind} {n : Int} {x' : Value} (h : VR E (.int k n) x') : x' = .int k n := by cases h; rfl
theorem natOf?_inv {x x' : Value} {i : Nat} (hx : natOf? x = some i) (h : VR E x x') : ∃ k, x' = .int k i := by
  unfold natOf? at hx
  split at hx
  · split at hx
    · simp at hx; rw [h.int_inv]; rename_i k n hn; exact ⟨k, by rw [← hx]; congr 1; omega⟩
    · cases hx
  · cases hx

theorem fieldV_run {t : TypeId} {x x' : Value} {f : Nat} {v : Value} (hv : fieldV P t x f = some v) (hx : VR E x x') : ∃ v', (∀ w, (Instr.field t x' f).run P w = .ok v' w) ∧ VR E v v' := by
  unfold fieldV at hv
  split at hv
  · rename_i fields cs h1
    obtain ⟨cs', rfl, hr⟩ := hx.agg_inv
    split at hv
    · rename_i fd hf
      obtain ⟨v', h2, h3⟩ := partV_run hv hr
      exact ⟨v', fun w => by simp [Instr.field, run_under h1, hf, asAgg, h2], h3⟩
    · cases hv
  · cases hv
theorem indexV_run {t : TypeId} {x x' i i' : Value} {v : Value} (hv : indexV P t x i = some v) (hx : VR E x x') (hi : VR E i i') : ∃ v', (∀ w, (Instr.index t x' i').run P w = .ok v' w) ∧ VR E v v' := by
  unfold indexV at hv
  split at hv
  · rename_i s n h1 h2
    obtain ⟨k, rfl⟩ := natOf?_inv h2 hi
    cases hx
    cases hb : s[n]? with
    | none => simp [hb] at hv
    | some b =>
      simp [hb] at hv; subst hv
      refine ⟨_, fun w => ?_, .int _ _⟩
      simp only [Instr.index, asIntOf, Sem.run_bind, Sem.run_pure, Result.andThen_ok, run_under h1]
      simp [hb]
  · rename_i len elem cs n h1 h2
    obtain ⟨k, rfl⟩ := natOf?_inv h2 hi
    obtain ⟨cs', rfl, hr⟩ := hx.agg_inv
    split at hv
    · rename_i size h3
      split at hv
      · rename_i hlt
        obtain ⟨v', h4, h5⟩ := partV_run hv hr
        refine ⟨v', fun w => ?_, h5⟩
        simp only [Instr.index, asIntOf, Sem.run_bind, Sem.run_pure, Result.andThen_ok, run_under h1]
        simp [hlt, run_sizeT h3, h4]
      · cases hv
    · cases hv
  · cases hv
theorem extractV_run {x x' : Value} {i : Nat} {v : Value} (hv : extractV x i = some v) (hx : VR E x x') : ∃ v', (∀ w, (Instr.extract x' i).run P w = .ok v' w) ∧ VR E v v' := by
  unfold extractV at hv
  split at hv
  · rename_i vs
    cases hx with
    | tuple hs hr =>
      obtain ⟨hi, rfl⟩ := Array.getElem?_eq_some_iff.1 hv
      rename_i cs'
      have hi' : i < cs'.size := hs ▸ hi
      exact ⟨cs'[i], fun w => by simp [Instr.extract, hi'], hr i hi hi'⟩
  · cases hv
theorem makeInterfaceV_run {t : TypeId} {x x' v : Value} (hv : makeInterfaceV P t x = some v) (hx : VR E x x') : ∃ v', (∀ w, (Instr.makeInterface t x').run P w = .ok v' w) ∧ VR E v v' := by
  unfold makeInterfaceV at hv
  split at hv
  · cases hv
  · rename_i d hnd hd
    simp at hv; subst hv
    refine ⟨.iface t x', fun w => ?_, .iface hx⟩
    simp only [Instr.makeInterface, Sem.run_bind, run_under hd, Result.andThen_ok]
    cases d <;> first | rfl | exact absurd hd (hnd _)
  · cases hv
theorem tuple2 {v v' u u' : Value} (h : VR E v v') (k : VR E u u') : VR E (.tuple #[v, u]) (.tuple #[v', u']) := .tuple rfl fun i h1 h2 => by
  simp at h1
  rcases i with _ | _ | i
  · exact h
  · exact k
  · omega
theorem typeAssertV_run {t a : TypeId} {x x' v : Value} {ok : Bool} (hv : typeAssertV P x a ok = some v) (hx : VR E x x') : ∃ v', (∀ w, (Instr.typeAssert x' t a ok).run P w = .ok v' w) ∧ VR E v v' := by
  unfold typeAssertV at hv
  split at hv
  · cases hv
  · rename_i d hnd hd
    cases hx
    split at hv
    · rename_i hok
      subst hok
      cases hz : zeroT P a with
      | none => simp [hz] at hv
      | some z =>
        simp [hz] at hv
        obtain ⟨hg, rfl⟩ := hv
        refine ⟨.tuple #[z, .bool false], fun w => ?_, tuple2 (VR.of_ground hg) (.bool false)⟩
        simp only [Instr.typeAssert, Sem.run_bind, run_under hd, Result.andThen_ok]
        cases d <;> first | (simp [run_zeroT hz]; done) | exact absurd hd (hnd _)
    · cases hv
  · rename_i d t' u hnd hd
    cases hx with
    | iface hx =>
    rename_i u'
    split at hv
    · rename_i e
      subst e
      simp at hv
      subst hv
      cases ok
      · refine ⟨u', fun w => ?_, by simpa using hx⟩
        simp only [Instr.typeAssert, Sem.run_bind, run_under hd, Result.andThen_ok]
        cases d <;> first | (simp; done) | exact absurd hd (hnd _)
      · refine ⟨.tuple #[u', .bool true], fun w => ?_, by simpa using tuple2 hx (.bool true)⟩
        simp only [Instr.typeAssert, Sem.run_bind, run_under hd, Result.andThen_ok]
        cases d <;> first | (simp; done) | exact absurd hd (hnd _)
    · rename_i hne
      split at hv
      · rename_i hok
        subst hok
        cases hz : zeroT P a with
        | none => simp [hz] at hv
        | some z =>
          simp [hz] at hv
          obtain ⟨hg, rfl⟩ := hv
          refine ⟨.tuple #[z, .bool false], fun w => ?_, tuple2 (VR.of_ground hg) (.bool false)⟩
          simp only [Instr.typeAssert, Sem.run_bind, run_under hd, Result.andThen_ok]
          cases d <;> first | (simp [run_zeroT hz, hne]; done) | exact absurd hd (hnd _)
      · cases hv
  · cases hv

def PRel (E : Env) (p p' : List (Nat × Value)) : Prop := p.length = p'.length ∧ ∀ (i : Nat) x, p[i]? = some x → ∃ v', p'[i]? = some (x.1, v') ∧ VR E x.2 v'
theorem PRel.cons {i : Nat} {v : Value} {p p' : List (Nat × Value)} (hr : PRel E ((i, v) :: p) p') : ∃ v' q', p' = (i, v') :: q' ∧ VR E v v' ∧ PRel E p q' := by
  obtain ⟨v', hv, hrv⟩ := hr.2 0 (i, v) rfl
  cases p' with
  | nil => simp at hv
  | cons x q =>
    simp at hv; subst hv
    exact ⟨v', q, rfl, hrv, by have := hr.1; simpa using this, fun j x hx => by simpa using hr.2 (j + 1) x (by simpa using hx)⟩
theorem ARel.fill_one (off : Nat) : ∀ (vs vs' : List Value) (k : Nat) {cs cs' : Array Value}, LRel E vs vs' → ARel E cs cs' →
    ARel E ((vs.zipIdx k).foldl (fun cs (x : Value × Nat) => cs.setIfInBounds (off + x.2) x.1) cs) ((vs'.zipIdx k).foldl (fun cs (x : Value × Nat) => cs.setIfInBounds (off + x.2) x.1) cs')
  | [], vs', k, cs, cs', hv, hc => by
    have : vs' = [] := List.length_eq_zero_iff.1 (by have := hv.1; simpa using this.symm)
    subst this; exact hc
  | v :: r, vs', k, cs, cs', hv, hc => by
    obtain ⟨v', hv', hrv⟩ := hv.2 0 v rfl
    cases vs' with
    | nil => simp at hv'
    | cons x q =>
      simp at hv'; subst hv'
      simp only [List.zipIdx_cons, List.foldl_cons]
      exact ARel.fill_one off r q (k + 1) ⟨by have := hv.1; simpa using this, fun j x hx => by simpa using hv.2 (j + 1) x (by simpa using hx)⟩ (hc.set _ hrv)
theorem fill_run (place : Nat → Option (Nat × Nat)) : ∀ (p p' : List (Nat × Value)) {cs cs' r : Array Value}, PRel E p p' → ARel E cs cs' → Instr.fill place cs p = some r →
    ∃ r', Instr.fill place cs' p' = some r' ∧ ARel E r r'
  | [], p', cs, cs', r, hp, hc, hf => by
    have : p' = [] := List.length_eq_zero_iff.1 (by have := hp.1; simpa using this.symm)
    subst this
    simp [Instr.fill] at hf; subst hf
    exact ⟨cs', rfl, hc⟩
  | (i, v) :: p, p', cs, cs', r, hp, hc, hf => by
    obtain ⟨v', q', rfl, hv, hp'⟩ := hp.cons
    simp only [Instr.fill] at hf ⊢
    cases hpl : place i with
    | none => simp only [hpl] at hf; cases hf
    | some x =>
      obtain ⟨off, size⟩ := x
      simp only [hpl] at hf ⊢
      have e1 := (ARel.cells hv).1
      rw [← e1, ← hc.1]
      split at hf
      · cases hf
      · rename_i hcond
        rw [if_neg hcond]
        refine fill_run place p q' hp' ?_ hf
        have := ARel.fill_one off v.cells.toList v'.cells.toList 0 (ARel.cells hv).list hc
        simpa only [← Array.foldl_toList, Array.toList_zipIdx] using this

theorem placesOf_run : ∀ (fs : List Field) {l : List (Nat × Nat)}, placesOf P fs = some l → ∀ w, (fs.mapM fun f => (do pure (f.offset, ← sizeOf f.type) : Sem (Nat × Nat))).run P w = .ok l w
  | [], l, h, w => by simp [placesOf] at h; subst h; simp
  | f :: fs, l, h, w => by
    simp only [placesOf] at h
    split at h
    · rename_i n l' h1 h2
      simp at h; subst h
      simp only [List.mapM_cons, Sem.run_bind, Sem.run_pure, run_sizeT h1, Result.andThen_ok, placesOf_run fs h2 w]
    · cases h
theorem ground_cells {v : Value} (hg : ground v = true) : ARel E v.cells v.cells := ARel.cells (VR.of_ground hg)
theorem buildV_run {t : TypeId} {p p' : Array (Nat × Value)} {v : Value} (hv : buildV P t p = some v) (hp : PRel E p.toList p'.toList) : ∃ v', (∀ w, (Instr.build t p').run P w = .ok v' w) ∧ VR E v v' := by
  unfold buildV at hv
  split at hv
  · rename_i z fields h1 h2
    split at hv
    · rename_i places h3
      split at hv
      · rename_i hg
        cases hf : Instr.fill (places.toArray[·]?) z.cells p.toList with
        | none => rw [hf] at hv; cases hv
        | some cs =>
          rw [hf] at hv; simp only [Option.map_some, Option.some.injEq] at hv; subst hv
          obtain ⟨cs', hf', hr⟩ := fill_run (E := E) (places.toArray[·]?) p.toList p'.toList hp (ground_cells hg) hf
          refine ⟨.agg cs', fun w => ?_, .agg hr.1 hr.2⟩
          have hm := placesOf_run fields.toList h3 w
          simp only [Instr.build, Sem.run_bind, run_zeroT h1, run_under h2, Result.andThen_ok, Array.mapM_eq_mapM_toList, Sem.run_map, hm]
          simp only [hf', Sem.run_pure]
      · cases hv
    · cases hv
  · rename_i z len elem h1 h2
    split at hv
    · rename_i size h3
      split at hv
      · rename_i hg
        cases hf : Instr.fill (fun i => some (i * size, size)) z.cells p.toList with
        | none => rw [hf] at hv; cases hv
        | some cs =>
          rw [hf] at hv; simp only [Option.map_some, Option.some.injEq] at hv; subst hv
          obtain ⟨cs', hf', hr⟩ := fill_run (E := E) (fun i => some (i * size, size)) p.toList p'.toList hp (ground_cells hg) hf
          refine ⟨.agg cs', fun w => ?_, .agg hr.1 hr.2⟩
          simp only [Instr.build, Sem.run_bind, run_zeroT h1, run_under h2, Result.andThen_ok, run_sizeT h3]
          simp only [hf', Sem.run_pure]
      · cases hv
    · cases hv
  · cases hv

/-! ### new rows -/
theorem range_zero_rel {z : Value} (hg : ground z = true) (hz : 0 < z.cells.size) (n : Nat) : ARel E ((Array.range n).map (z.cells[· % z.cells.size]!)) ((Array.range n).map (z.cells[· % z.cells.size]!)) := by
  refine ⟨rfl, fun i h1 h2 => ?_⟩
  simp at h1
  have hlt : i % z.cells.size < z.cells.size := Nat.mod_lt _ hz
  simp only [Array.getElem_map, Array.getElem_range]
  have e : z.cells[i % z.cells.size]! = z.cells[i % z.cells.size] := getElem!_pos z.cells (i % z.cells.size) hlt
  rw [e]
  exact (ground_cells (E := E) hg).2 _ hlt hlt
theorem VR.new_slice {E : Env} {b n c c' : Nat} {l : Loc} (hl : E b = some l) (hs : l.s = 0) (hc : c = UNK ∨ c = c' ∧ c ≠ UNK) (hn : n ≤ c') (hb : c = UNK → c' * l.es ≤ l.sz) : VR E (.slice (some ⟨b, 0, none⟩) n c) (.slice (some ⟨l.cb, 0, none⟩) n c') := by
  have := VR.slice (E := E) (b := b) (o := 0) hl hc hn (by rw [hs]; simpa using hb)
  rw [hs] at this
  simpa using this
theorem lt_UNK {c : Nat} (h : c < 2 ^ 62) : c ≠ UNK := by unfold UNK; omega

theorem buildSliceV_run (hR : Rel P base E h w) (hf : E h.blks.length = none) {t : TypeId} {len : Nat} {p p' : Array (Nat × Value)} {v : Value} {h' : Heap} (hv : buildSliceV P t len p h = some (v, h')) (hp : PRel E p.toList p'.toList) :
    ∃ E' w' v', (Instr.buildSlice t len p').run P w = .ok v' w' ∧ Post P base E h w E' h' w' ∧ VR E' v v' := by
  unfold buildSliceV at hv
  split at hv
  · rename_i elem h1
    split at hv
    · rename_i size z h2 h3
      split at hv
      · rename_i hc
        obtain ⟨c1, c2, c3, c4⟩ := hc
        cases hfl : Instr.fill (fun i => some (i * size, size)) ((Array.range (len * size)).map (z.cells[· % z.cells.size]!)) p.toList with
        | none => simp [hfl] at hv
        | some cs =>
          simp [hfl] at hv
          obtain ⟨rfl, rfl⟩ := hv
          obtain ⟨cs', hf', hr⟩ := fill_run (E := E) (fun i => some (i * size, size)) p.toList p'.toList hp (range_zero_rel c4 (by omega) _) hfl
          have hsz : cs'.size = len * size := by
            have key : ∀ (p : List (Nat × Value)) (cs r : Array Value), Instr.fill (fun i => some (i * size, size)) cs p = some r → r.size = cs.size := by
              intro p
              induction p with
              | nil => intro cs r h; simp [Instr.fill] at h; rw [← h]
              | cons x p ih =>
                intro cs r h
                obtain ⟨i, v⟩ := x
                simp only [Instr.fill] at h
                split at h
                · cases h
                · rw [ih _ _ h]
                  have : ∀ (l : List (Value × Nat)) (off : Nat) (cs : Array Value), (l.foldl (fun cs (x : Value × Nat) => cs.setIfInBounds (off + x.2) x.1) cs).size = cs.size := by
                    intro l off
                    induction l with
                    | nil => intro cs; rfl
                    | cons y l ih => intro cs; simp [ih]
                  simpa only [← Array.foldl_toList, Array.toList_zipIdx] using this _ _ _
            rw [key _ _ _ hf']; simp
          refine ⟨_, { w with heap := w.heap.push (.cells cs' elem) }, .slice (some ⟨w.heap.size, 0, none⟩) len len, ?_, row_new (rest := []) hR hf h2 hr.list _ (pushed w (.cells cs' elem) w.drawn) 0 0 (by simp) (by simp), ?_⟩
          · have hle : ¬ (len * size > 2 ^ 24) := by omega
            by_cases h0 : len * size = 0
            · have e0 : len = 0 := by rcases Nat.mul_eq_zero.1 h0 with h | h <;> omega
              have e1 : ∀ g : Nat → Value, (Array.range (len * size)).map g = #[] := fun g => by simp [h0]
              rw [e1] at hf'
              simp only [Instr.buildSlice, Sem.run_bind, run_under h1, run_sizeT h2, Result.andThen_ok]
              simp [hle, h0, newRow]
              have e2 : ∀ g : Nat → Value, (Array.range 0).map g = #[] := fun g => by simp
              rw [e2, hf']
              simp
            · simp only [Instr.buildSlice, Sem.run_bind, run_under h1, run_sizeT h2, Result.andThen_ok]
              simp [hle, h0, run_zeroT h3, hf', newRow]
          · refine VR.new_slice (l := ⟨w.heap.size, 0, cs'.toList.length + ([] : List Value).length, size⟩) (Env.upd_same _ _ _) rfl (.inr ⟨rfl, lt_UNK ?_⟩) (Nat.le_refl _) (fun _ => by simp [hsz])
            have : len ≤ len * size := Nat.le_mul_of_pos_right _ c2
            omega
      · cases hv
    · cases hv
  · cases hv
end Go.Am
