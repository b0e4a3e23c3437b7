/- The abstract machine: each operation of its own is one of the model's. -/
import Derived.Test.YtkiigdhlnfpebaaAm2
import Derived.Laws.Cells
set_option linter.unusedSimpArgs false
set_option linter.unusedVariables false
namespace Go.Am
variable {P : Program} {base : Nat} {E : Env} {h : Heap} {w : World}

theorem run_sizeT {t : TypeId} {n : Nat} (hn : sizeT P t = some n) (w : World) : (sizeOf t).run P w = .ok n w := by
  unfold sizeT at hn
  cases hi : P.info? t with
  | none => simp [hi] at hn
  | some i => simp [hi] at hn; simp [sizeOf, typeInfo, hi, hn]
theorem run_zeroT {t : TypeId} {z : Value} (hn : zeroT P t = some z) (w : World) : (zeroValue t).run P w = .ok z w := by
  unfold zeroT at hn
  cases hi : P.info? t with
  | none => simp [hi] at hn
  | some i => simp [hi] at hn; simp [zeroValue, typeInfo, hi, hn]
theorem run_bytesT {t : TypeId} {n : Nat} (hn : bytesT P t = some n) (w : World) : ∃ i, (typeInfo t).run P w = .ok i w ∧ i.bytes = n := by
  unfold bytesT at hn
  cases hi : P.info? t with
  | none => simp [hi] at hn
  | some i => simp [hi] at hn; exact ⟨i, by simp [typeInfo, hi], hn⟩
theorem run_under {t : TypeId} {d : TypeDesc} (hn : P.underlying t = some d) (w : World) : (underlying t).run P w = .ok d w := by
  simp [underlying, hn]
theorem run_isAggT {t : TypeId} {b : Bool} (hn : isAggT P t = some b) (w : World) : (isAgg t).run P w = .ok b w := by
  unfold isAggT at hn
  cases hi : P.underlying t with
  | none => simp [hi] at hn
  | some d =>
    simp only [hi] at hn
    cases d <;> simp at hn <;> subst hn <;> simp [isAgg, run_under hi]

theorem add_none (b o i : Nat) : (⟨b, o, none⟩ : Addr).add i = ⟨b, o + i, none⟩ := by
  unfold Addr.add; split <;> simp_all

theorem VR.ptr_inv {x' : Value} {b o : Nat} (h : VR E (.pointer (some ⟨b, o, none⟩)) x') : ∃ l, E b = some l ∧ x' = .pointer (some ⟨l.cb, l.s + o, none⟩) := by
  cases h with
  | ptr h => exact ⟨_, h, rfl⟩

/-! ### reading -/
theorem cells_read (hR : Rel P base E h w) {b : Nat} {l : Loc} {cs : List Value} (hc : h.cells? b = some cs) (hl : E b = some l) (i : Nat) (v : Value) (hv : cs[i]? = some v) : ∃ v', w.cell? ⟨l.cb, l.s + i, none⟩ = some v' ∧ VR E v v' := by
  unfold Heap.cells? at hc
  cases hk : h.blks[b]? with
  | none => simp [hk] at hc
  | some k =>
    obtain ⟨body, ty, own⟩ := k
    simp only [hk] at hc
    cases body with
    | cells c => simp at hc; subst hc; exact (hR.blk b _ l hk hl).2.1 i v hv
    | _ => simp at hc
theorem load1_read (hR : Rel P base E h w) {b o : Nat} {l : Loc} {v : Value} (hc : h.load1 b o = some v) (hl : E b = some l) : ∃ v', w.cell? ⟨l.cb, l.s + o, none⟩ = some v' ∧ VR E v v' := by
  unfold Heap.load1 at hc
  cases hk : h.cells? b with
  | none => simp [hk] at hc
  | some cs => simp [hk] at hc; exact cells_read hR hk hl o v hc
theorem loadN_len {h : Heap} {b o n : Nat} {cs : List Value} (hc : h.loadN b o n = some cs) : cs.length = n := by
  unfold Heap.loadN at hc
  cases hk : h.cells? b with
  | none => simp [hk] at hc
  | some c =>
    simp only [hk] at hc
    split at hc
    · simp at hc; subst hc; simp; omega
    · cases hc
theorem loadN_read (hR : Rel P base E h w) {b o n : Nat} {l : Loc} {cs : List Value} (hc : h.loadN b o n = some cs) (hl : E b = some l) :
    ∃ cs' : List Value, LRel E cs cs' ∧ ∀ (j : Nat) v', cs'[j]? = some v' → w.cell? ⟨l.cb, l.s + (o + j), none⟩ = some v' := by
  have hall : ∀ (j : Nat) v, cs[j]? = some v → ∃ v', w.cell? ⟨l.cb, l.s + (o + j), none⟩ = some v' ∧ VR E v v' := by
    unfold Heap.loadN at hc
    cases hk : h.cells? b with
    | none => simp [hk] at hc
    | some c =>
      simp only [hk] at hc
      split at hc
      · simp at hc; subst hc
        intro j v hv
        rw [List.getElem?_take] at hv
        split at hv
        · rw [List.getElem?_drop] at hv; exact cells_read hR hk hl (o + j) v hv
        · cases hv
      · cases hc
  clear hc
  have key : ∀ (cs : List Value) (o : Nat), (∀ (j : Nat) v, cs[j]? = some v → ∃ v', w.cell? ⟨l.cb, l.s + (o + j), none⟩ = some v' ∧ VR E v v') →
      ∃ cs' : List Value, LRel E cs cs' ∧ ∀ (j : Nat) v', cs'[j]? = some v' → w.cell? ⟨l.cb, l.s + (o + j), none⟩ = some v' := by
    intro cs
    induction cs with
    | nil => exact fun _ _ => ⟨[], ⟨rfl, fun i v hv => by simp at hv⟩, fun i v hv => by simp at hv⟩
    | cons c cs ih =>
      intro o hall
      obtain ⟨v0, h0, r0⟩ := hall 0 c rfl
      obtain ⟨cs', hr, hc⟩ := ih (o + 1) fun j v hv => by
        have := hall (j + 1) v (by simpa using hv)
        rwa [show o + (j + 1) = o + 1 + j by omega] at this
      refine ⟨v0 :: cs', ⟨by simp [hr.1], fun i v hv => ?_⟩, fun i v hv => ?_⟩
      · cases i with
        | zero => simp at hv; subst hv; exact ⟨v0, rfl, r0⟩
        | succ i => simpa using hr.2 i v (by simpa using hv)
      · cases i with
        | zero => simp at hv; subst hv; simpa using h0
        | succ i => rw [show o + (i + 1) = o + 1 + i by omega]; exact hc i v (by simpa using hv)
  exact key cs o hall
theorem run_loadN (hR : Rel P base E h w) {b o n : Nat} {l : Loc} {cs : List Value} (hc : h.loadN b o n = some cs) (hl : E b = some l) :
    ∃ cs' : List Value, LRel E cs cs' ∧ cs'.length = n ∧ (loadCells ⟨l.cb, l.s + o, none⟩ n).run P w = .ok cs'.toArray w := by
  obtain ⟨cs', hr, hcell⟩ := loadN_read hR hc hl
  have hlen := loadN_len hc
  have hn : cs'.length = n := by rw [← hr.1]; exact hlen
  refine ⟨cs', hr, hn, ?_⟩
  subst hn
  refine run_loadCells_list w _ cs' fun j v hv => ?_
  rw [add_none, Nat.add_assoc]; exact hcell j v hv

theorem LRel.arr {cs cs' : List Value} (hr : LRel E cs cs') : ARel E cs.toArray cs'.toArray := by
  refine ⟨by simpa using hr.1, fun i h1 h2 => ?_⟩
  simp at h1 h2
  obtain ⟨v', hv', hr'⟩ := hr.2 i cs[i] (List.getElem?_eq_getElem h1)
  rw [List.getElem?_eq_getElem h2] at hv'
  simp at hv' ⊢
  rw [hv']; exact hr'
theorem ARel.list {a a' : Array Value} (hr : ARel E a a') : LRel E a.toList a'.toList := by
  refine ⟨by simpa using hr.1, fun i v hv => ?_⟩
  obtain ⟨hi, rfl⟩ := List.getElem?_eq_some_iff.1 hv
  simp at hi
  have hi' : i < a'.size := hr.1 ▸ hi
  exact ⟨a'[i], by simp [hi'], by simpa using hr.2 i hi hi'⟩
theorem VR.aggL {cs cs' : List Value} (hr : LRel E cs cs') : VR E (.agg cs.toArray) (.agg cs'.toArray) := .agg hr.arr.1 hr.arr.2

theorem loadV_run (hR : Rel P base E h w) {t : TypeId} {x x' v : Value} (hv : loadV P t x h = some v) (hx : VR E x x') : ∃ v', (Instr.loadAt t x').run P w = .ok v' w ∧ VR E v v' := by
  unfold loadV at hv
  split at hv
  · rename_i b o
    obtain ⟨l, hl, rfl⟩ := hx.ptr_inv
    split at hv
    · rename_i n h1 h2
      cases hc : h.loadN b o n with
      | none => simp [hc] at hv
      | some cs =>
        simp [hc] at hv; subst hv
        obtain ⟨cs', hr, hn, hrun⟩ := run_loadN hR hc hl
        exact ⟨.agg cs'.toArray, by simp [Instr.loadAt, Instr.sureAddr, loadVar, run_isAggT h1, run_sizeT h2, hrun], VR.aggL hr⟩
    · rename_i h1
      obtain ⟨v', hc, hr⟩ := load1_read hR hv hl
      exact ⟨v', by simp [Instr.loadAt, Instr.sureAddr, loadVar, run_isAggT h1, hc], hr⟩
    · cases hv
  · cases hv

/-! ### writing -/
theorem setCells_block (b : Nat) : ∀ (vs : List Value) (o : Nat) (w : World) {c : Array Value} {e : TypeId} {fr : Nat × Nat}, w.heap[b]? = some (.cells c e fr) →
    ∃ c', (w.setCells b o vs).heap[b]? = some (.cells c' e fr) ∧ c'.size = c.size
  | [], _, _, c, _, _, h => ⟨c, h, rfl⟩
  | v :: r, o, w, c, e, fr, h => by
    have h1 : (w.setCell ⟨b, o, none⟩ v).heap[b]? = some (.cells (c.setIfInBounds o v) e fr) := by
      simp [World.setCell, Array.getElem?_modify, h]
    obtain ⟨c', h2, h3⟩ := setCells_block b r (o + 1) _ h1
    exact ⟨c', h2, by simpa using h3⟩
theorem setCells_far (b : Nat) : ∀ (vs : List Value) (o : Nat) (w : World), Wrote b w (w.setCells b o vs)
  | [], _, w => ⟨rfl, rfl, rfl, rfl, fun _ _ => rfl⟩
  | v :: r, o, w => by
    have ih := setCells_far b r (o + 1) (w.setCell ⟨b, o, none⟩ v)
    refine ⟨ih.os, ih.tape, ih.output, by rw [World.setCells, ih.size]; simp [World.setCell], fun c hc => ?_⟩
    rw [World.setCells, ih.blk c hc]
    simp only [World.setCell, Array.getElem?_modify]
    rw [if_neg (Ne.symm hc)]

theorem storeN_run (hR : Rel P base E h w) {b o : Nat} {vs vs' : List Value} {h' : Heap} {l : Loc} (hs : h.storeN b o vs = some h') (hl : E b = some l) (hv : LRel E vs vs') (h1 : vs.all Value.oneCell' = true) :
    ∃ w', (storeCells ⟨l.cb, l.s + o, none⟩ vs').run P w = .ok () w' ∧ Post P base E h w E h' w' := by
  unfold Heap.storeN at hs
  split at hs
  · rename_i cs ty hk
    split at hs
    · rename_i hle
      simp only [Option.some.injEq] at hs
      subst hs
      have hblk := hR.blk b _ l hk hl
      obtain ⟨c, e, lo, hi, hheap, hsz, hes, hfz⟩ := hblk.2.2 rfl
      have hcell : ∀ j, j < vs'.length → (w.cell? ⟨l.cb, l.s + o + j, none⟩).isSome = true := fun j hj => by
        have hj' : j < vs.length := hv.1 ▸ hj
        obtain ⟨v', hv', _⟩ := hblk.2.1 (o + j) cs[o + j] (List.getElem?_eq_getElem (by omega))
        rw [← Nat.add_assoc] at hv'
        simp [hv']
      have hbnd : ∀ j, j < vs'.length → l.s + o + j < c.size := fun j hj => by
        have := hcell j hj
        simp only [World.cell?, hheap] at this
        simp at this
        omega
      have hfz' : ∀ j, j < vs'.length → w.frozen? ⟨l.cb, l.s + o + j, none⟩ = false := fun j hj => by
        have := hbnd j hj
        simp only [World.frozen?, hheap]
        simp
        omega
      have h1' : ∀ v ∈ vs', v.oneCell' = true := fun v hm => by
        obtain ⟨j, hj, rfl⟩ := List.getElem_of_mem hm
        have hj' : j < vs.length := hv.1 ▸ hj
        obtain ⟨v', hv', hr⟩ := hv.2 j vs[j] (List.getElem?_eq_getElem hj')
        rw [List.getElem?_eq_getElem hj] at hv'
        simp at hv'
        rw [hv', hr.oneCell]
        exact List.all_eq_true.1 h1 _ (List.getElem_mem hj')
      refine ⟨w.setCells l.cb (l.s + o) vs', ?_, ?_⟩
      · have := run_storeCells_cells (P := P) l.cb (l.s + o) vs' 0 w (by simpa using hcell) (by simpa using hfz') h1'
        simpa using this
      · refine Post.put hR hk hl rfl trivial _ (setCells_far _ _ _ _) ⟨hblk.1, fun i v hi' => ?_, fun _ => ?_⟩
        · -- what stands in the cell now
          by_cases hin : o ≤ i ∧ i < o + vs.length
          · have hj : i - o < vs.length := by omega
            have e1 : (List.take o cs ++ vs ++ List.drop (o + vs.length) cs)[i]? = vs[i - o]? := by
              rw [List.getElem?_append_left (by simp; omega), List.getElem?_append_right (by simp; omega)]
              congr 1; simp; omega
            rw [e1] at hi'
            obtain ⟨v', hv', hr⟩ := hv.2 (i - o) v hi'
            have hj' : i - o < vs'.length := hv.1 ▸ hj
            have := World.cell?_setCells_in l.cb vs' (l.s + o) w hcell (i - o) hj'
            rw [show l.s + o + (i - o) = l.s + i by omega] at this
            rw [List.getElem?_eq_getElem hj'] at hv'
            exact ⟨v', by rw [this]; exact hv', hr⟩
          · have e1 : (List.take o cs ++ vs ++ List.drop (o + vs.length) cs)[i]? = cs[i]? := by
              rcases Nat.lt_or_ge i o with h2 | h2
              · rw [List.append_assoc, List.getElem?_append_left (by simp; omega), List.getElem?_take, if_pos h2]
              · rw [List.getElem?_append_right (by simp; omega), List.getElem?_drop]
                congr 1; simp; omega
            rw [e1] at hi'
            obtain ⟨v', hv', hr⟩ := hblk.2.1 i v hi'
            refine ⟨v', ?_, hr⟩
            rw [World.cell?_setCells_out l.cb vs' (l.s + o) w _ (fun _ _ => by simp only; rw [← hv.1]; omega)]
            exact hv'
        · obtain ⟨c', hb', hs'⟩ := setCells_block l.cb vs' (l.s + o) w hheap
          exact ⟨c', e, lo, hi, hb', by rw [hs', hsz], hes, hfz⟩
    · cases hs
  · cases hs

theorem storeN_grow {b o : Nat} {vs : List Value} {h' : Heap} (hs : h.storeN b o vs = some h') : Grow h h' := by
  unfold Heap.storeN at hs
  split at hs
  · rename_i cs ty hk
    split at hs
    · simp at hs; subst hs; exact Grow.put hk trivial _ rfl
    · cases hs
  · cases hs

theorem storeV_run (hR : Rel P base E h w) {t : TypeId} {x x' v v' : Value} {h' : Heap} (hs : storeV P t x v h = some h') (hx : VR E x x') (hv : VR E v v') :
    ∃ w', (Instr.storeAt t x' v').run P w = .ok () w' ∧ Post P base E h w E h' w' := by
  unfold storeV at hs
  split at hs
  · rename_i b o
    obtain ⟨l, hl, rfl⟩ := hx.ptr_inv
    split at hs
    · rename_i n hn
      split at hs
      · rename_i hc
        obtain ⟨w', hw, hp⟩ := storeN_run hR hs hl (ARel.cells hv).list (by simpa using hc.2)
        refine ⟨w', ?_, hp⟩
        have hsz : v'.cells.size = n := by rw [← (ARel.cells hv).1]; exact hc.1
        simp [Instr.storeAt, Instr.sureAddr, storeVar, run_sizeT hn, hsz, hw]
      · cases hs
    · cases hs
  · cases hs

/-! ### new blocks -/
theorem pushed (w : World) (o : Obj) (n : Nat) : Pushed w { w with heap := w.heap.push o, drawn := n } :=
  ⟨rfl, rfl, rfl, by simp, fun c hc => by simp only [Array.getElem?_push]; rw [if_neg (by omega)]⟩
theorem pushed_get (w : World) (o : Obj) : (w.heap.push o)[w.heap.size]? = some o := by simp
/-- a new row: the cells known, and others behind them -/
theorem row_new (hR : Rel P base E h w) (hf : E h.blks.length = none) {ty : TypeId} {cs cs' rest : List Value} {es : Nat} (hes : sizeT P ty = some es) (hr : LRel E cs cs') (w' : World) (hw : Pushed w w') (lo hi : Nat)
    (hh : w'.heap[w.heap.size]? = some (.cells (cs' ++ rest).toArray ty (lo, hi))) (hfz : lo = hi ∨ cs'.length + rest.length ≤ lo) :
    Post P base E h w (E.upd h.blks.length ⟨w.heap.size, 0, cs'.length + rest.length, es⟩) (h.new (.cells cs) ty) w' := by
  refine Post.new hR hf (.cells cs) ty ⟨w.heap.size, 0, cs'.length + rest.length, es⟩ rfl hw ⟨hes, fun i v hv => ?_, fun _ => ⟨_, ty, lo, hi, hh, by simp, hes, hfz⟩⟩
  obtain ⟨v', hv', hrv⟩ := hr.2 i v hv
  refine ⟨v', ?_, hrv⟩
  simp only [World.cell?, hh]
  have hi' := (List.getElem?_eq_some_iff.1 hv').1
  simp [List.getElem?_append_left hi', hv']

theorem newV_run (hR : Rel P base E h w) (hf : E h.blks.length = none) {t : TypeId} {v v' : Value} {es : Nat} (hes : sizeT P t = some es) (hv : VR E v v') :
    ∃ E' w' a, (newVar t v').run P w = .ok a w' ∧ Post P base E h w E' (newV t v.cells.toList h).2 w' ∧ VR E' (newV t v.cells.toList h).1 (.pointer (some a)) := by
  refine ⟨_, _, _, rfl, row_new (rest := []) hR hf hes (ARel.cells hv).list _ (pushed w (.cells v'.cells t) w.drawn) 0 0 (by simp) (by simp), ?_⟩
  have : VR (E.upd h.blks.length ⟨w.heap.size, 0, v'.cells.toList.length + ([] : List Value).length, es⟩) (.pointer (some ⟨h.blks.length, 0, none⟩)) (.pointer (some ⟨w.heap.size, 0 + 0, none⟩)) := .ptr (Env.upd_same _ _ _)
  exact this
theorem newV_grow (t : TypeId) (cs : List Value) (h : Heap) : Grow h (newV t cs h).2 := (Grow.new _ _ _ (by simp [Body.kind]))
end Go.Am
