/- The abstract machine: append, copy, clear, the builtins. -/
import Derived.Test.YtkiigdhlnfpebaaAm8
set_option linter.unusedSimpArgs false
set_option linter.unusedVariables false
namespace Go.Am
variable {P : Program} {base : Nat} {E : Env} {h : Heap} {w : World}

theorem append_stays {ts : Array TypeId} {t0 t2 elem : TypeId} {size bytes : Nat} {z x' : Value} {n sLen c' : Nat} {base' : Option Addr} {news' : List Value} {w' : World} (h0 : ts[0]? = some t0) (hu : P.underlying t0 = some (.slice elem))
    (hs : sizeT P elem = some size) (hb : bytesT P elem = some bytes) (hz : zeroT P elem = some z) (hpos : 0 < size)
    (hn : News P w ts size bytes z x' n news') (hfit : sLen + n ≤ c') (hst : ∀ a', base' = some a' → (storeCells (a'.add (sLen * size)) news').run P w = .ok () w') (hnone : base' = none → w' = w) :
    (Builtin.append_ ts t2 #[.slice base' sLen c', x']).run P w = .ok (.slice base' (sLen + n) c') w' := by
  obtain ⟨i, h8, hbytes⟩ := typeInfo_any hb
  cases hn with
  | zeros g1 g2 g3 g4 g5 g6 =>
    subst g3
    have g6' : Builtin.zeroCells z.cells n = news'.toArray := by rw [g6]
    have c1' : n * i.bytes ≤ 281474976710656 := by rw [h8]; exact g4
    have hle : ¬ (281474976710656 < (n : Int) * (i.bytes : Int)) := by rw [← Int.natCast_mul]; generalize n * i.bytes = q at c1'; omega
    have hle' : ¬ ((n : Int) * (i.bytes : Int) > 2 ^ 48) := hle
    have hneg : ¬ ((n : Int) < 0) := by omega
    have happ : (if n * size = 0 then pure #[] else do pure (Builtin.zeroCells (← zeroValue elem).cells n) : Sem (Array Value)).run P w = .ok news'.toArray w := by
      by_cases h0 : n * size = 0
      · have : n = 0 := by rcases Nat.mul_eq_zero.1 h0 with h | h <;> omega
        subst this
        have e3 : Builtin.zeroCells z.cells 0 = #[] := by unfold Builtin.zeroCells; rw [Nat.zero_mul]; exact map_range0 _
        rw [← g6', e3]
        simp
      · simp [h0, run_zeroT hz, g6']
    simp only [Builtin.append_, h0, g1, List.getElem?_toArray, List.getElem?_cons_zero, List.getElem?_cons_succ, Sem.run_bind, run_under hu, run_under g2, Result.andThen_ok, run_sizeT hs, Sem.run_pure, if_true, asInt, asIntOf, wrap_nat g5]
    rw [if_neg hneg]
    simp only [Sem.run_bind, hbytes, Result.andThen_ok]
    rw [if_neg hle']
    simp only [Sem.run_bind, Sem.run_pure, Result.andThen_ok, Int.toNat_natCast]
    rw [if_pos hfit]
    simp only [Sem.run_bind, Bool.not_true, Bool.false_eq_true, if_false]
    rw [happ]
    cases base' with
    | none => obtain rfl := hnone rfl; simp only [Result.andThen_ok, Sem.run_pure]
    | some a' => simp only [Result.andThen_ok, Sem.run_bind, hst a' rfl, Sem.run_pure]
  | look g1 g2 g3 g4 g5 =>
    rename_i t1 d
    have g5' := g5 w.drawn
    have run : ∀ d, P.underlying t1 = some d → isIntD d = false → (Builtin.append_ ts t2 #[.slice base' sLen c', x']).run P w = .ok (.slice base' (sLen + n) c') w' := by
      intro d g2 g3
      cases d
      case int => simp [isIntD] at g3
      all_goals
        simp only [Builtin.append_, h0, g1, List.getElem?_toArray, List.getElem?_cons_zero, List.getElem?_cons_succ, Sem.run_bind, run_under hu, run_under g2, Result.andThen_ok, run_sizeT hs, Sem.run_pure]
        simp only [Bool.false_eq_true, if_false, Sem.run_bind, g4, Result.andThen_ok]
        rw [if_pos hfit]
        simp only [Sem.run_bind, Bool.not_false, if_true]
        rw [show ({ w with drawn := w.drawn } : World) = w from rfl] at g5'
        rw [g5']
        cases base' with
        | none => obtain rfl := hnone rfl; simp only [Result.andThen_ok, Sem.run_pure]
        | some a' => simp only [Result.andThen_ok, Sem.run_bind, hst a' rfl, Sem.run_pure]
    exact run d g2 g3

theorem Post.kill (hR : Rel P base E h w) {b : Nat} {k : Blk} {l : Loc} (hk : h.blks[b]? = some k) (hl : E b = some l) (ho : k.own = true) (hv : k.live) (hes : sizeT P k.ty = some l.es) : Post P base E h w E (h.put b .dead) w :=
  Post.put hR hk hl ho hv .dead ⟨rfl, rfl, rfl, rfl, fun _ _ => rfl⟩ hes
theorem Post.kill_none (hR : Rel P base E h w) {b : Nat} (hb : E b = none) : Post P base E h w E (h.put b .dead) w := by
  have hget : ∀ x l, E x = some l → (h.put b .dead).blks[x]? = h.blks[x]? := fun x l hl => Heap.put_other (fun e => by rw [e, hb] at hl; cases hl) _
  refine ⟨Ext.refl _, fun x h0 hn => absurd h0 hn, ⟨fun x y l hx hl => ?_, fun x y l hx hl => ?_, fun x y l hx hl => ?_, hR.bnd, fun x x2 y y2 l l2 hx hx2 hl hl2 => ?_, hR.base⟩, Fr.refl _ _ _, fun x y l h0 h1 => by rw [h0] at h1; cases h1⟩
  · rw [hget x l hl] at hx; exact hR.blk x y l hx hl
  · rw [hget x l hl] at hx; exact hR.low x y l hx hl
  · rw [hget x l hl] at hx; exact hR.ro x y l hx hl
  · rw [hget x l hl] at hx; rw [hget x2 l2 hl2] at hx2; exact hR.inj x x2 y y2 l l2 hx hx2 hl hl2
theorem LRel.append {a a' b b' : List Value} (h1 : LRel E a a') (h2 : LRel E b b') : LRel E (a ++ b) (a' ++ b') := by
  refine ⟨by simp [h1.1, h2.1], fun i v hv => ?_⟩
  rcases Nat.lt_or_ge i a.length with hi | hi
  · rw [List.getElem?_append_left hi] at hv
    rw [List.getElem?_append_left (by rw [← h1.1]; exact hi)]
    exact h1.2 i v hv
  · rw [List.getElem?_append_right hi] at hv
    rw [List.getElem?_append_right (by rw [← h1.1]; exact hi), ← h1.1]
    exact h2.2 _ v hv
theorem LRel.mono {E' : Env} (hE : Ext E E') {a a' : List Value} (h1 : LRel E a a') : LRel E' a a' := ⟨h1.1, fun i v hv => let ⟨v', a, b⟩ := h1.2 i v hv; ⟨v', a, b.mono hE⟩⟩
theorem LRel.all_one {vs vs' : List Value} (hv : LRel E vs vs') (h1 : vs.all Value.oneCell' = true) : ∀ v ∈ vs', v.oneCell' = true := fun v hm => by
  obtain ⟨j, hj, rfl⟩ := List.getElem_of_mem hm
  have hj' : j < vs.length := hv.1 ▸ hj
  obtain ⟨v', hv', hr⟩ := hv.2 j vs[j] (List.getElem?_eq_getElem hj')
  rw [List.getElem?_eq_getElem hj] at hv'
  simp at hv'
  rw [hv', hr.oneCell]
  exact List.all_eq_true.1 h1 _ (List.getElem_mem hj')

theorem appendV_run (hR : Rel P base E h w) {ts : Array TypeId} {t0 t2 : TypeId} {s s' x x' v : Value} {h' : Heap} (h0 : ts[0]? = some t0) (hfree : Free E h h') (hv : appendV P t0 ts[1]? s x h = some (v, h')) (hss : VR E s s') (hx : VR E x x') :
    ∃ E' w' v', (Builtin.append_ ts t2 #[s', x']).run P w = .ok v' w' ∧ Post P base E h w E' h' w' ∧ VR E' v v' := by
  unfold appendV at hv
  split at hv
  · rename_i elem base0 sLen sCap hu
    split at hv
    · rename_i size bytes z hs hb hz
      split at hv
      · rename_i n news hnv
        split at hv
        · rename_i hc
          obtain ⟨hpos, hzs, hg, hbig, hlt, hone⟩ := hc
          obtain ⟨news', hN, hnr, hnl⟩ := newsV_run hR (x' := x') hpos hzs hg hnv hx
          have hnl' : news'.length = n * size := by rw [← hnr.1]; exact hnl
          split at hv
          · -- nothing is appended
            rename_i hn0
            subst hn0
            simp only [Option.some.injEq, Prod.mk.injEq] at hv
            obtain ⟨rfl, rfl⟩ := hv
            have hnil : news' = [] := by simpa using hnl'
            subst hnil
            have stay : ∀ (a' : Option Addr) c', sLen ≤ c' → (Builtin.append_ ts t2 #[.slice a' sLen c', x']).run P w = .ok (.slice a' sLen c') w := fun a' c' hle => by
              have := append_stays (P := P) (t2 := t2) (w' := w) (base' := a') h0 hu hs hb hz hpos hN (sLen := sLen) (c' := c') (by omega) (fun _ _ => by simp [storeCells]) (fun _ => rfl)
              simpa using this
            cases base0 with
            | some a =>
              obtain ⟨b, o, sp⟩ := a
              cases hss with
              | slice e1 e2 e3 e4 => exact ⟨E, w, _, stay _ _ e3, Post.refl hR, .slice e1 e2 e3 e4⟩
              | sliceEmpty e => exact ⟨E, w, _, stay _ _ (Nat.le_refl _), Post.refl hR, .sliceEmpty e⟩
            | none =>
              cases hss
              exact ⟨E, w, _, stay none 0 (Nat.le_refl _), Post.refl hR, .sliceNil⟩
          · rename_i hn0
            -- a row that moves, of a heap h1 that has as many blocks as h
            have moves : ∀ (h1 : Heap), Rel P base E h1 w → h1.blks.length = h.blks.length → E h.blks.length = none → ∀ (base' : Option Addr) (c' : Nat) (old old' : List Value), LRel E old old' → old.length = sLen * size → c' < sLen + n →
                (∀ k, (Builtin.firstCells size sLen (.slice base' sLen c')).run P { w with drawn := k } = .ok old'.toArray { w with drawn := k }) →
                ∃ E' w' v', (Builtin.append_ ts t2 #[.slice base' sLen c', x']).run P w = .ok v' w' ∧ Post P base E h1 w E' (h1.new (.cells (old ++ news)) elem) w' ∧ VR E' (.slice (some ⟨h.blks.length, 0, none⟩) (sLen + n) UNK) v' := by
              intro h1 hR1 hlen hfr base' c' old old' hor hol hlt' hold
              obtain ⟨cap, w', rest, g1, g2, g3, g4, g5⟩ := append_moves (t2 := t2) hR h0 hu hs hb hz hpos hzs hN hbig hlt hlt' hold (by rw [← hor.1]; exact hol) hnl'
              have hp := row_new (cs := old ++ news) (cs' := old' ++ news') (rest := rest) hR1 (by rw [hlen]; exact hfr) hs (hor.append hnr) w' g3 0 0 g4 (.inl rfl)
              refine ⟨_, w', _, g2, hp, ?_⟩
              rw [hlen, g5]
              exact VR.new_slice (l := ⟨w.heap.size, 0, cap * size, size⟩) (Env.upd_same _ _ _) rfl (.inl rfl) g1 (fun _ => Nat.le_refl _)
            split at hv
            · -- the capacity is not known
              rename_i hU
              subst hU
              split at hv
              · rename_i b o
                split at hv
                · rename_i cs ty hk
                  split at hv
                  · rename_i hty
                    obtain ⟨rfl, hle⟩ := hty
                    simp only [Option.some.injEq, Prod.mk.injEq] at hv
                    obtain ⟨rfl, rfl⟩ := hv
                    have hfr : E h.blks.length = none := hfree _ (Nat.le_refl _) (by rw [Heap.new_len, Heap.put_len]; omega)
                    have kill : ∀ l, E b = some l → ∀ (base' : Option Addr) (c' : Nat) (old' : List Value), LRel E ((cs.drop o).take (sLen * size)) old' → c' < sLen + n →
                        (∀ k, (Builtin.firstCells size sLen (.slice base' sLen c')).run P { w with drawn := k } = .ok old'.toArray { w with drawn := k }) →
                        ∃ E' w' v', (Builtin.append_ ts t2 #[.slice base' sLen c', x']).run P w = .ok v' w' ∧ Post P base E h w E' ((h.put b .dead).new (.cells ((cs.drop o).take (sLen * size) ++ news)) ty) w' ∧ VR E' (.slice (some ⟨h.blks.length, 0, none⟩) (sLen + n) UNK) v' := by
                      intro l hl base' c' old' hor hlt' hold
                      have pk := Post.kill hR hk hl rfl trivial (hR.blk b _ l hk hl).1
                      obtain ⟨E', w', v', q1, q2, q3⟩ := moves (h.put b .dead) pk.rel (Heap.put_len _ _ _) hfr base' c' _ old' hor (by simp; omega) hlt' hold
                      exact ⟨E', w', v', q1, pk.trans q2 (Grow.put hk trivial _ rfl) (Grow.new _ _ _ (by simp [Body.kind])) (by intro x hx hx'; exact hfree x hx hx'), q3⟩
                    have hload : h.loadN b o (sLen * size) = some ((cs.drop o).take (sLen * size)) := by
                      unfold Heap.loadN Heap.cells?
                      simp only [hk]
                      rw [if_pos hle]
                    rcases hss.slice_inv with ⟨l, c', e1, e2, e3, e4, rfl⟩ | ⟨rfl, e2, a', rfl⟩
                    · obtain ⟨old', hor, hol, hold⟩ := run_loadNk hR hload e1
                      rcases Nat.lt_or_ge c' (sLen + n) with hlt' | hfit
                      · exact kill l e1 _ c' old' hor hlt' (fun k => by simp only [Builtin.firstCells]; exact hold k)
                      · -- in place
                        have hblk := hR.blk b _ l hk e1
                        have hes : l.es = size := by have := hblk.1; simp only at this; rw [hs] at this; simpa using this.symm
                        obtain ⟨c, e, lo, hi, hheap, hsz, _, hfz⟩ := hblk.2.2 rfl
                        have hb4 := e4 rfl
                        rw [hes] at hb4
                        have hroom : l.s + o + sLen * size + n * size ≤ c.size := by
                          have : (sLen + n) * size ≤ c' * size := Nat.mul_le_mul_right _ hfit
                          rw [Nat.add_mul] at this
                          omega
                        have hcell : ∀ j, j < news'.length → (w.cell? ⟨l.cb, l.s + o + sLen * size + j, none⟩).isSome = true := fun j hj => by
                          simp only [World.cell?, hheap]
                          simp
                          omega
                        have hfz' : ∀ j, j < news'.length → w.frozen? ⟨l.cb, l.s + o + sLen * size + j, none⟩ = false := fun j hj => by
                          have : l.s + o + sLen * size + j < l.sz := by rw [← hsz]; omega
                          simp only [World.frozen?, hheap]
                          simp
                          omega
                        have hst := run_storeCells_cells (P := P) l.cb (l.s + o + sLen * size) news' 0 w (by simpa using hcell) (by simpa using hfz') (hnr.all_one hone)
                        rw [Nat.add_zero] at hst
                        refine ⟨_, w.setCells l.cb (l.s + o + sLen * size) news', _, append_stays (t2 := t2) h0 hu hs hb hz hpos hN hfit (fun a' ha' => by cases ha'; rw [add_none]; exact hst) (fun h => by cases h),
                          Post.alias hR hfr hk e1 rfl trivial hblk.1 _ _ ⟨l.cb, l.s + o, l.sz, size⟩ rfl (setCells_far _ _ _ _) ⟨hs, fun i v hi' => ?_, fun _ => ?_⟩, ?_⟩
                        · -- what stands in the cells now
                          have htk : ((cs.drop o).take (sLen * size)).length = sLen * size := loadN_len hload
                          rcases Nat.lt_or_ge i (sLen * size) with h2 | h2
                          · rw [List.getElem?_append_left (by omega), List.getElem?_take, if_pos h2, List.getElem?_drop] at hi'
                            obtain ⟨v', hv', hr⟩ := hblk.2.1 (o + i) v hi'
                            refine ⟨v', ?_, hr⟩
                            rw [World.cell?_setCells_out l.cb news' _ w _ (fun _ _ => by simp only; omega)]
                            rw [Nat.add_assoc]; exact hv'
                          · rw [List.getElem?_append_right (by omega), htk] at hi'
                            obtain ⟨v', hv', hr⟩ := hnr.2 _ v hi'
                            have hj' := (List.getElem?_eq_some_iff.1 hv').1
                            have := World.cell?_setCells_in l.cb news' (l.s + o + sLen * size) w hcell (i - sLen * size) hj'
                            rw [show l.s + o + sLen * size + (i - sLen * size) = l.s + o + i by omega] at this
                            rw [List.getElem?_eq_getElem hj'] at hv'
                            exact ⟨v', by simp only; rw [this]; exact hv', hr⟩
                        · obtain ⟨c2, hb', hs'⟩ := setCells_block l.cb news' (l.s + o + sLen * size) w hheap
                          exact ⟨c2, e, lo, hi, hb', by rw [hs', hsz], hs, hfz⟩
                        · have := VR.slice (E := E.upd h.blks.length ⟨l.cb, l.s + o, l.sz, size⟩) (b := h.blks.length) (o := 0) (n := sLen + n) (c := UNK) (c' := c') (Env.upd_same _ _ _) (.inl rfl) hfit (fun _ => by simpa using hb4)
                          simpa using this
                    · -- it has no room at all: its address says nothing
                      have pk : Post P base E h w E (h.put b .dead) w := by
                        cases hb2 : E b with
                        | none => exact Post.kill_none hR hb2
                        | some l => exact Post.kill hR hk hb2 rfl trivial (hR.blk b _ l hk hb2).1
                      obtain ⟨E', w', v', q1, q2, q3⟩ := moves (h.put b .dead) pk.rel (Heap.put_len _ _ _) hfr (some a') 0 [] [] ⟨rfl, fun i v hv => by simp at hv⟩ (by simp) (by omega) (fun k => by simp [Builtin.firstCells, loadCells, loadCellsFrom])
                      refine ⟨E', w', v', q1, ?_, q3⟩
                      have := pk.trans q2 (Grow.put hk trivial _ rfl) (Grow.new _ _ _ (by simp [Body.kind])) (by intro x hx hx'; exact hfree x hx (by simpa using hx'))
                      simpa using this
                  · cases hv
                · cases hv
              · cases hv
            · rename_i hU
              split at hv
              · -- known, and there is room
                rename_i hfit
                split at hv
                · rename_i b o
                  cases hst0 : h.storeN b (o + sLen * size) news with
                  | none => simp [hst0] at hv
                  | some h1 =>
                    simp only [hst0, Option.map_some, Option.some.injEq, Prod.mk.injEq] at hv
                    obtain ⟨rfl, rfl⟩ := hv
                    rcases hss.slice_inv with ⟨l, c', e1, e2, e3, e4, rfl⟩ | ⟨rfl, e2, a', rfl⟩
                    · obtain rfl : sCap = c' := by
                        rcases e2 with e | ⟨e, _⟩
                        · exact absurd e hU
                        · exact e
                      obtain ⟨w', g1, g2⟩ := storeN_run hR hst0 e1 hnr hone
                      refine ⟨E, w', _, append_stays (t2 := t2) h0 hu hs hb hz hpos hN hfit (fun a' ha' => by cases ha'; rw [add_none, Nat.add_assoc]; exact g1) (fun h => by cases h), g2, .slice e1 e2 hfit e4⟩
                    · rcases e2 with e | e
                      · exact absurd e hU
                      · omega
                · cases hv
              · rename_i hnfit
                split at hv
                · rename_i b o
                  cases hl : h.loadN b o (sLen * size) with
                  | none => simp [hl] at hv
                  | some old =>
                    simp only [hl, Option.map_some, Option.some.injEq, Prod.mk.injEq] at hv
                    obtain ⟨rfl, rfl⟩ := hv
                    have hfr : E h.blks.length = none := hfree _ (Nat.le_refl _) (by rw [Heap.new_len]; omega)
                    rcases hss.slice_inv with ⟨l, c', e1, e2, e3, e4, rfl⟩ | ⟨rfl, e2, a', rfl⟩
                    · obtain rfl : sCap = c' := by
                        rcases e2 with e | ⟨e, _⟩
                        · exact absurd e hU
                        · exact e
                      obtain ⟨old', hor, hol, hold⟩ := run_loadNk hR hl e1
                      exact moves h hR rfl hfr _ sCap old old' hor (loadN_len hl) (by omega) (fun k => by simp only [Builtin.firstCells]; exact hold k)
                    · have : old = [] := by have := loadN_len hl; simpa using this
                      subst this
                      exact moves h hR rfl hfr _ 0 [] [] ⟨rfl, fun i v hv => by simp at hv⟩ (by simp) (by omega) (fun k => by simp [Builtin.firstCells, loadCells, loadCellsFrom])
                · split at hv
                  · rename_i hs0
                    subst hs0
                    simp only [Option.some.injEq, Prod.mk.injEq] at hv
                    obtain ⟨rfl, rfl⟩ := hv
                    have hfr : E h.blks.length = none := hfree _ (Nat.le_refl _) (by rw [Heap.new_len]; omega)
                    cases hss
                    have := moves h hR rfl hfr none 0 [] [] ⟨rfl, fun i v hv => by simp at hv⟩ (by simp) (by omega) (fun k => by simp [Builtin.firstCells])
                    simpa using this
                  · cases hv
                · cases hv
        · cases hv
      · cases hv
    · cases hv
  · cases hv

theorem appendV_grow {t0 : TypeId} {t1 : Option TypeId} {s x v : Value} {h' : Heap} (hv : appendV P t0 t1 s x h = some (v, h')) : Grow h h' := by
  unfold appendV at hv
  split at hv
  · split at hv
    · split at hv
      · split at hv
        · split at hv
          · simp only [Option.some.injEq, Prod.mk.injEq] at hv
            rw [← hv.2]; exact Grow.refl _
          · split at hv
            · split at hv
              · split at hv
                · rename_i hk
                  split at hv
                  · simp only [Option.some.injEq, Prod.mk.injEq] at hv
                    rw [← hv.2]; exact Grow.alias hk trivial rfl _ _ (by simp [Body.kind])
                  · cases hv
                · cases hv
              · cases hv
            · split at hv
              · split at hv
                · rename_i n news _ _ _ _ _ _ b o
                  cases hst0 : h.storeN b (o + _ * _) news with
                  | none => rw [hst0] at hv; cases hv
                  | some h1 =>
                    rw [hst0] at hv
                    simp only [Option.map_some, Option.some.injEq, Prod.mk.injEq] at hv
                    rw [← hv.2]; exact storeN_grow hst0
                · cases hv
              · split at hv
                · rename_i b o
                  cases hl : h.loadN b o (_ * _) with
                  | none => rw [hl] at hv; cases hv
                  | some old =>
                    rw [hl] at hv
                    simp only [Option.map_some, Option.some.injEq, Prod.mk.injEq] at hv
                    rw [← hv.2]; exact (Grow.new _ _ _ (by simp [Body.kind]))
                · split at hv
                  · simp only [Option.some.injEq, Prod.mk.injEq] at hv
                    rw [← hv.2]; exact (Grow.new _ _ _ (by simp [Body.kind]))
                  · cases hv
                · cases hv
        · cases hv
      · cases hv
    · cases hv
  · cases hv

end Go.Am
