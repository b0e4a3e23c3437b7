/- The abstract machine: append, copy, clear. -/
import Derived.Test.YtkiigdhlnfpebaaAm7
set_option linter.unusedSimpArgs false
set_option linter.unusedVariables false
namespace Go.Am
variable {P : Program} {base : Nat} {E : Env} {h : Heap} {w : World}

theorem Rel.drawn (hR : Rel P base E h w) (k : Nat) : Rel P base E h { w with drawn := k } :=
  ⟨fun b x l hk hl => (hR.blk b x l hk hl).congr (Ext.refl _) rfl, hR.low, hR.ro, hR.bnd, hR.inj, hR.base⟩
theorem wrap_nat {l : Nat} (h : l < 2 ^ 62) : IntKind.i64.wrap (l : Int) = l := by unfold IntKind.wrap; simp [IntKind.signed, IntKind.bits]; omega

theorem map_range0 (g : Nat → Value) : (Array.range 0).map g = #[] := by simp
theorem zeroCells_rel {z : Value} (hg : ground z = true) (hz : 0 < z.cells.size) (n : Nat) : ARel E (Builtin.zeroCells z.cells n) (Builtin.zeroCells z.cells n) := by
  unfold Builtin.zeroCells; exact range_zero_rel hg hz _
theorem zeroCells_size (z : Array Value) (n : Nat) : (Builtin.zeroCells z n).size = n * z.size := by simp [Builtin.zeroCells]

theorem run_loadNk (hR : Rel P base E h w) {b o n : Nat} {l : Loc} {cs : List Value} (hc : h.loadN b o n = some cs) (hl : E b = some l) :
    ∃ cs' : List Value, LRel E cs cs' ∧ cs'.length = n ∧ ∀ k, (loadCells ⟨l.cb, l.s + o, none⟩ n).run P { w with drawn := k } = .ok cs'.toArray { w with drawn := k } := by
  obtain ⟨cs', hr, hcell⟩ := loadN_read hR hc hl
  have hlen := loadN_len hc
  have hn : cs'.length = n := by rw [← hr.1]; exact hlen
  refine ⟨cs', hr, hn, fun k => ?_⟩
  subst hn
  refine run_loadCells_list { w with drawn := k } _ cs' fun j v hv => ?_
  rw [add_none, Nat.add_assoc]; exact hcell j v hv
def isIntD : TypeDesc → Bool
  | .int _ => true
  | _ => false
theorem isIntD_match {d : TypeDesc} (h : isIntD d = false) : (match d with | .int _ => true | _ => false) = false := by
  cases d <;> first | rfl | simp [isIntD] at h
/-- the parts of an append that look at what is appended -/
inductive News (P : Program) (w : World) (ts : Array TypeId) (size bytes : Nat) (z x' : Value) (n : Nat) (news' : List Value) : Prop
  | zeros {t1 : TypeId} {kd k : IntKind} : ts[1]? = some t1 → P.underlying t1 = some (.int kd) → x' = .int k n → n * bytes ≤ 2 ^ 48 → n < 2 ^ 62 → news' = (Builtin.zeroCells z.cells n).toList → News P w ts size bytes z x' n news'
  | look {t1 : TypeId} {d : TypeDesc} : ts[1]? = some t1 → P.underlying t1 = some d → isIntD d = false → (∀ w, (Builtin.lenOf x').run P w = .ok n w) →
      (∀ k, (Builtin.firstCells size n x').run P { w with drawn := k } = .ok news'.toArray { w with drawn := k }) → News P w ts size bytes z x' n news'

theorem newsV_run (hR : Rel P base E h w) {ts : Array TypeId} {size bytes : Nat} {z x x' : Value} {n : Nat} {news : List Value} (hpos : 0 < size) (hzs : z.cells.size = size) (hg : ground z = true)
    (hv : newsV P size bytes z ts[1]? x h = some (n, news)) (hx : VR E x x') : ∃ news', News P w ts size bytes z x' n news' ∧ LRel E news news' ∧ news.length = n * size := by
  unfold newsV at hv
  cases ht : ts[1]? with
  | none => simp [ht] at hv
  | some t1 =>
    simp only [ht, Option.bind_some] at hv
    split at hv
    · rename_i k x0 hd
      split at hv
      · rename_i l hl
        split at hv
        · rename_i hc
          obtain ⟨c1, c2⟩ := hc
          simp only [Option.some.injEq, Prod.mk.injEq] at hv
          obtain ⟨rfl, rfl⟩ := hv
          obtain ⟨k1, rfl⟩ := natOf?_inv hl hx
          exact ⟨_, .zeros ht hd rfl c1 c2 rfl, (zeroCells_rel hg (by omega) _).list, by rw [Array.length_toList, zeroCells_size, hzs]⟩
        · cases hv
      · cases hv
    · rename_i d b o n0 c hnd hd
      cases hl : h.loadN b o (n0 * size) with
      | none => simp [hl] at hv
      | some cs =>
        simp only [hl, Option.map_some, Option.some.injEq, Prod.mk.injEq] at hv
        obtain ⟨rfl, rfl⟩ := hv
        have hzf : isIntD d = false := by
          cases d <;> first | rfl | exact absurd rfl (hnd _)
        rcases hx.slice_inv with ⟨lc, c', e1, e2, e3, e4, rfl⟩ | ⟨rfl, _, a', rfl⟩
        · obtain ⟨cs', hr, hn, hrun⟩ := run_loadNk hR hl e1
          exact ⟨cs', .look ht hd hzf (fun w => by simp [Builtin.lenOf]) (fun k => by simp only [Builtin.firstCells]; exact hrun k), hr, loadN_len hl⟩
        · have := loadN_len hl
          have : cs = [] := by simpa using this
          subst this
          exact ⟨[], .look ht hd hzf (fun w => by simp [Builtin.lenOf]) (fun k => by simp [Builtin.firstCells, loadCells, loadCellsFrom]), ⟨rfl, fun i v hv => by simp at hv⟩, by simp⟩
    · rename_i d n0 c hnd hd
      split at hv
      · rename_i hc
        obtain ⟨rfl, rfl⟩ := hc
        simp only [Option.some.injEq, Prod.mk.injEq] at hv
        obtain ⟨rfl, rfl⟩ := hv
        cases hx
        have hzf : isIntD d = false := by
          cases d <;> first | rfl | exact absurd rfl (hnd _)
        exact ⟨[], .look ht hd hzf (fun w => by simp [Builtin.lenOf]) (fun k => by simp [Builtin.firstCells]), ⟨rfl, fun i v hv => by simp at hv⟩, by simp⟩
      · cases hv
    · rename_i d s hnd hd
      split at hv
      · rename_i hc
        subst hc
        simp only [Option.some.injEq, Prod.mk.injEq] at hv
        obtain ⟨rfl, rfl⟩ := hv
        cases hx
        have hzf : isIntD d = false := by
          cases d <;> first | rfl | exact absurd rfl (hnd _)
        refine ⟨toBytes s, .look ht hd hzf (fun w => by simp [Builtin.lenOf]) (fun k => ?_), LRel.refl_ground (toBytes_ground s), by rw [toBytes_len]; omega⟩
        have : s.extract 0 s.size = s := by simp
        simp [Builtin.firstCells, this, toBytes]
        exact Array.ext' (by simp)
      · cases hv
    · cases hv

theorem growBy_le (need : Nat) : ∀ (r c : Nat), c ≤ need + need / 4 + 192 → Builtin.growBy need r c ≤ need + need / 4 + 192
  | 0, c, h => h
  | r + 1, c, h => by
    unfold Builtin.growBy
    split
    · exact h
    · exact growBy_le need r _ (by omega)
theorem next_le {need old : Nat} (h : old < need) : Builtin.nextslicecap need old ≤ 2 * need + 192 := by
  unfold Builtin.nextslicecap
  split
  · omega
  · split
    · omega
    · have := growBy_le need 4 old (by omega); omega

theorem typeInfo_any {t : TypeId} {bytes : Nat} (hb : bytesT P t = some bytes) : ∃ i : TypeInfo, i.bytes = bytes ∧ ∀ w, (typeInfo t).run P w = .ok i w := by
  unfold bytesT at hb
  cases hi : P.info? t with
  | none => simp [hi] at hb
  | some i => simp [hi] at hb; exact ⟨i, hb, fun w => by simp [typeInfo, hi]⟩
/-- the row moves: nothing that was is written -/
theorem append_moves (hR : Rel P base E h w) {ts : Array TypeId} {t0 t2 elem : TypeId} {size bytes : Nat} {z x' : Value} {n sLen c' : Nat} {base' : Option Addr} {news' old' : List Value} (h0 : ts[0]? = some t0) (hu : P.underlying t0 = some (.slice elem))
    (hs : sizeT P elem = some size) (hb : bytesT P elem = some bytes) (hz : zeroT P elem = some z) (hpos : 0 < size) (hzs : z.cells.size = size)
    (hn : News P w ts size bytes z x' n news') (hbig : (2 * (sLen + n) + 192) * bytes ≤ 2 ^ 48) (hlt : sLen + n < 2 ^ 62) (hc : c' < sLen + n)
    (hold : ∀ k, (Builtin.firstCells size sLen (.slice base' sLen c')).run P { w with drawn := k } = .ok old'.toArray { w with drawn := k }) (hol : old'.length = sLen * size) (hnl : news'.length = n * size) :
    ∃ (cap : Nat) (w' : World) (rest : List Value), sLen + n ≤ cap ∧ (Builtin.append_ ts t2 #[.slice base' sLen c', x']).run P w = .ok (.slice (some ⟨w.heap.size, 0, none⟩) (sLen + n) cap) w' ∧ Pushed w w' ∧
      w'.heap[w.heap.size]? = some (.cells ((old' ++ news') ++ rest).toArray elem (0, 0)) ∧ (old' ++ news').length + rest.length = cap * size := by
  obtain ⟨i, h8, hbytes⟩ := typeInfo_any hb
  let q : Question := .appendCap (sLen + n) c' elem
  let cap := q.cut (w.tape w.drawn q)
  have hcap : sLen + n ≤ cap := cut_ge _
  let w1 : World := { w with drawn := w.drawn + 1 }
  let rest := (Builtin.zeroCells z.cells (cap - (sLen + n))).toList
  have hnext : ¬ (Builtin.nextslicecap (sLen + n) c' * i.bytes > 2 ^ 48) := by
    rw [h8]
    have := Nat.mul_le_mul_right bytes (next_le hc)
    omega
  have hmax : ¬ (((sLen + n : Nat) : Int) > IntKind.i64.max) := by
    have : IntKind.i64.max = 9223372036854775807 := rfl
    omega
  have hfit : ¬ (sLen + n ≤ c') := by omega
  have hq : ∀ w : World, (choose q).run P w = .ok (q.cut (w.tape w.drawn q)) { w with drawn := w.drawn + 1 } := fun w => by rw [run_choose]; rfl
  have hold' := hold (w.drawn + 1)
  refine ⟨cap, { w1 with heap := w1.heap.push (.cells (old'.toArray ++ news'.toArray ++ Builtin.zeroCells z.cells (cap - (sLen + n))) elem) }, rest, hcap, ?_, pushed w _ _, ?_, ?_⟩
  · cases hn with
    | zeros g1 g2 g3 g4 g5 g6 =>
      subst g3
      have g6' : Builtin.zeroCells z.cells n = news'.toArray := by rw [g6]
      have c1' : n * i.bytes ≤ 281474976710656 := by rw [h8]; exact g4
      have hle : ¬ (281474976710656 < (n : Int) * (i.bytes : Int)) := by rw [← Int.natCast_mul]; generalize n * i.bytes = q at c1'; omega
      have hle' : ¬ ((n : Int) * (i.bytes : Int) > 2 ^ 48) := hle
      have hneg : ¬ ((n : Int) < 0) := by omega
      have happ : (if n * size = 0 then pure #[] else do pure (Builtin.zeroCells (← zeroValue elem).cells n) : Sem (Array Value)).run P w1 = .ok news'.toArray w1 := by
        by_cases h0 : n * size = 0
        · have : n = 0 := by rcases Nat.mul_eq_zero.1 h0 with h | h <;> omega
          subst this
          have e3 : Builtin.zeroCells z.cells 0 = #[] := by unfold Builtin.zeroCells; rw [Nat.zero_mul]; exact map_range0 _
          rw [← g6', e3]
          simp
        · simp [h0, run_zeroT hz, g6']
      simp only [Builtin.append_, h0, g1, List.getElem?_toArray, List.getElem?_cons_zero, List.getElem?_cons_succ, Sem.run_bind, run_under hu, run_under g2, Result.andThen_ok, run_sizeT hs, Sem.run_pure, if_true, asInt, asIntOf, wrap_nat g5]
      rw [if_neg hneg]
      simp only [Sem.run_bind, hbytes, Result.andThen_ok]
      rw [if_neg hle']
      simp only [Sem.run_bind, Sem.run_pure, Result.andThen_ok, Int.toNat_natCast]
      rw [if_neg hfit]
      simp only [Sem.run_bind, hbytes, Result.andThen_ok]
      rw [if_neg (fun h => hmax h.1)]
      simp only [Sem.run_bind, hbytes, Result.andThen_ok]
      rw [if_neg hnext]
      simp only [Sem.run_bind, hbytes, Result.andThen_ok, run_choose, Question.forced, Bool.false_eq_true, if_false, run_askRoom, hold']
      simp only [Bool.not_true, Bool.false_eq_true, if_false]
      rw [happ]
      simp only [Result.andThen_ok, run_zeroT hz, newRow, Sem.run_bind, run_newObj, Sem.run_pure]
      rfl
    | look g1 g2 g3 g4 g5 =>
      rename_i t1 d
      have g5' := g5 (w.drawn + 1)
      have run : ∀ d, P.underlying t1 = some d → isIntD d = false → (Builtin.append_ ts t2 #[.slice base' sLen c', x']).run P w = .ok (.slice (some ⟨w.heap.size, 0, none⟩) (sLen + n) cap) { w1 with heap := w1.heap.push (.cells (old'.toArray ++ news'.toArray ++ Builtin.zeroCells z.cells (cap - (sLen + n))) elem) } := by
        intro d g2 g3
        cases d
        case int => simp [isIntD] at g3
        all_goals
          simp only [Builtin.append_, h0, g1, List.getElem?_toArray, List.getElem?_cons_zero, List.getElem?_cons_succ, Sem.run_bind, run_under hu, run_under g2, Result.andThen_ok, run_sizeT hs, Sem.run_pure]
          simp only [Bool.false_eq_true, if_false, Sem.run_bind, g4, Result.andThen_ok]
          rw [if_neg hfit]
          simp only [Sem.run_bind, hbytes, Result.andThen_ok]
          rw [if_neg (fun h => hmax h.1)]
          simp only [Sem.run_bind, hbytes, Result.andThen_ok]
          rw [if_neg hnext]
          simp only [Sem.run_bind, hbytes, Result.andThen_ok, run_choose, Question.forced, Bool.false_eq_true, if_false, run_askRoom, hold']
          simp only [Bool.not_false, if_true]
          rw [g5']
          simp only [Result.andThen_ok, run_zeroT hz, newRow, Sem.run_bind, run_newObj, Sem.run_pure]
          rfl
      exact run d g2 g3
  · have : (((old' ++ news') ++ rest).toArray : Array Value) = old'.toArray ++ news'.toArray ++ Builtin.zeroCells z.cells (cap - (sLen + n)) := by
      apply Array.ext'
      simp [rest]
    rw [this]
    exact pushed_get w _
  · have : rest.length = (cap - (sLen + n)) * size := by simp only [rest]; rw [Array.length_toList, zeroCells_size, hzs]
    rw [List.length_append, hol, hnl, this, ← Nat.add_mul, ← Nat.add_mul]
    congr 1
    omega
end Go.Am
