/- The abstract machine: places, tests, conversions. -/
import Derived.Test.YtkiigdhlnfpebaaAm5
set_option linter.unusedSimpArgs false
set_option linter.unusedVariables false
namespace Go.Am
variable {P : Program} {base : Nat} {E : Env} {h : Heap} {w : World}

theorem fieldAddrV_run {t : TypeId} {x x' v : Value} {f : Nat} (hv : fieldAddrV P t x f = some v) (hx : VR E x x') : ∃ v', (∀ w, (Instr.fieldAt t x' f).run P w = .ok v' w) ∧ VR E v v' := by
  unfold fieldAddrV at hv
  split at hv
  · rename_i b o fields h1
    obtain ⟨l, hl, rfl⟩ := hx.ptr_inv
    split at hv
    · rename_i fd hf
      split at hv
      · rename_i n h2
        split at hv
        · cases hv
        · rename_i hn
          simp only [Option.some.injEq] at hv
          subst hv
          refine ⟨_, fun w => ?_, .ptr hl⟩
          simp only [Instr.fieldAt, Sem.run_bind, run_under h1, Result.andThen_ok, hf, Instr.sureAddr, Sem.run_pure, fieldPlace, run_sizeT h2]
          rw [if_neg hn]
          simp [add_none, Nat.add_assoc]
      · cases hv
    · cases hv
  · cases hv
theorem indexAddrV_run {t : TypeId} {x x' i i' v : Value} (hv : indexAddrV P t x i = some v) (hx : VR E x x') (hi : VR E i i') : ∃ v', (∀ w, (Instr.indexAt t x' i').run P w = .ok v' w) ∧ VR E v v' := by
  unfold indexAddrV at hv
  split at hv
  · rename_i elem b o len cap n h1 h2
    obtain ⟨k, rfl⟩ := natOf?_inv h2 hi
    split at hv
    · rename_i size h3
      split at hv
      · rename_i hlt
        simp only [Option.some.injEq] at hv
        subst hv
        rcases hx.slice_inv with ⟨l, c', e1, e2, e3, e4, rfl⟩ | ⟨rfl, _⟩
        · refine ⟨_, fun w => ?_, .ptr e1⟩
          simp only [Instr.indexAt, asIntOf, Sem.run_bind, Sem.run_pure, Result.andThen_ok, run_under h1]
          simp [hlt, run_sizeT h3, add_none, Nat.add_assoc]
        · omega
      · cases hv
    · cases hv
  · rename_i len elem b o n h1 h2
    obtain ⟨k, rfl⟩ := natOf?_inv h2 hi
    split at hv
    · rename_i size h3
      split at hv
      · rename_i hlt
        simp only [Option.some.injEq] at hv
        subst hv
        obtain ⟨l, hl, rfl⟩ := hx.ptr_inv
        refine ⟨_, fun w => ?_, .ptr hl⟩
        simp only [Instr.indexAt, asIntOf, Sem.run_bind, Sem.run_pure, Result.andThen_ok, run_under h1, Instr.sureAddr]
        simp [hlt, run_sizeT h3, add_none, Nat.add_assoc]
      · cases hv
    · cases hv
  · cases hv
theorem pureV_run {s : Sem Value} {v : Value} (hv : pureV P s = some v) : (∀ w, s.run P w = .ok v w) ∧ VR E v v := by
  unfold pureV at hv
  split at hv
  · rename_i u hu
    split at hv
    · rename_i hg
      simp only [Option.some.injEq] at hv
      subst hv
      exact ⟨fun w => pureRun_run hu w, VR.of_ground hg⟩
    · cases hv
  · cases hv
theorem run_equalIn_nil {t : TypeId} {x y x' y' : Value} {d : TypeDesc} {b : Bool} (hd : P.underlying t = some d) (hn : nilEq d x y = some b) (hx : VR E x x') (hy : VR E y y') (k : Nat) (w : World) :
    (Op.equalIn (k + 1) t x' y').run P w = .ok b w := by
  unfold nilEq at hn
  split at hn
  all_goals first
    | (cases hn; done)
    | (simp only [Option.some.injEq] at hn; subst hn; cases hx <;> cases hy <;> first | (simp [Op.equalIn, run_under hd]; done) | (exfalso; simp_all; done))
theorem eqGuard_nil {t : TypeId} {x y x' y' : Value} {d : TypeDesc} {b : Bool} {op : BinOp} {xo yo : Operand} (hn : nilEq d x y = some b) (hx : VR E x x') (hy : VR E y y') (w : World) :
    (eqGuard op t xo yo x' y').run P w = .ok () w := by
  unfold nilEq at hn
  split at hn
  all_goals first
    | (cases hn; done)
    | (cases hx <;> cases hy <;> cases op <;> simp [eqGuard]; done)
theorem binV_run {t : TypeId} {x y x' y' v : Value} {op : BinOp} {xo yo : Operand} (hv : binV P op t xo yo x y = some v) (hx : VR E x x') (hy : VR E y y') :
    ∃ v', (∀ w, (do eqGuard op t xo yo x' y'; Go.binOp op t x' y' : Sem Value).run P w = .ok v' w) ∧ VR E v v' := by
  unfold binV at hv
  split at hv
  · rename_i hg
    simp only [Bool.and_eq_true] at hg
    obtain rfl := hx.ground_eq hg.1
    obtain rfl := hy.ground_eq hg.2
    exact ⟨v, (pureV_run (E := E) hv).1, (pureV_run hv).2⟩
  · cases hd : P.underlying t with
    | none => simp [hd] at hv
    | some d =>
      simp only [hd, Option.bind_some] at hv
      cases hn : nilEq d x y with
      | none => simp [hn] at hv
      | some b =>
        have key : ∀ w, (Op.equal t x' y').run P w = .ok b w := fun w => run_equalIn_nil hd hn hx hy 9999 w
        have shape : ∀ (o : BinOp), (o = .eql ∨ o = .neq) → ∀ w, (Go.binOp o t x' y').run P w = .ok (.bool (if o = .eql then b else !b)) w := by
          intro o ho w
          unfold nilEq at hn
          split at hn
          all_goals first
            | (cases hn; done)
            | (rcases ho with rfl | rfl <;> cases hx <;> cases hy <;> simp [Go.binOp, key]; done)
        simp only [hn] at hv
        split at hv
        · simp only [Option.some.injEq] at hv
          subst hv
          rename_i e; simp only [Option.some.injEq] at e; subst e
          exact ⟨_, fun w => by simp only [Sem.run_bind, eqGuard_nil hn hx hy, Result.andThen_ok, shape .eql (.inl rfl)]; rfl, .bool _⟩
        · simp only [Option.some.injEq] at hv
          subst hv
          rename_i e; simp only [Option.some.injEq] at e; subst e
          exact ⟨_, fun w => by simp only [Sem.run_bind, eqGuard_nil hn hx hy, Result.andThen_ok, shape .neq (.inr rfl)]; rfl, .bool _⟩
        · cases hv
theorem unV_run {x x' v : Value} {op : UnOp} (hv : unV P op x = some v) (hx : VR E x x') : ∃ v', (∀ w, (Op.unary op x').run P w = .ok v' w) ∧ VR E v v' := by
  unfold unV at hv
  split at hv
  · rename_i hg
    obtain rfl := hx.ground_eq hg
    exact ⟨v, (pureV_run (E := E) hv).1, (pureV_run hv).2⟩
  · cases hv
theorem nilCheckV_run {x x' v : Value} (hv : nilCheckV x = some v) (hx : VR E x x') : v = x ∧ ((∃ a, x' = .pointer (some a)) ∨ (∃ f fs cs, x' = .func (.func f) fs cs)) := by
  unfold nilCheckV at hv
  split at hv
  · simp only [Option.some.injEq] at hv
    cases hx
    exact ⟨hv.symm, .inl ⟨_, rfl⟩⟩
  · simp only [Option.some.injEq] at hv
    cases hx
    exact ⟨hv.symm, .inr ⟨_, _, _, rfl⟩⟩
  · cases hv

/-! ### bytes and strings -/
theorem bytesOf_eq : ∀ {cs : List Value} {l : List UInt8}, bytesOf? cs = some l → ∃ ns : List Int, cs = ns.map (Value.int .u8) ∧ l = ns.map fun n => UInt8.ofNat n.toNat
  | [], l, h => by simp [bytesOf?] at h; subst h; exact ⟨[], rfl, rfl⟩
  | v :: cs, l, h => by
    unfold bytesOf? at h
    split at h
    · rename_i e; cases e
    · rename_i n cs' e
      cases e
      cases h2 : bytesOf? cs with
      | none => simp [h2] at h
      | some r =>
        simp [h2] at h
        obtain ⟨ns, h3, h4⟩ := bytesOf_eq h2
        exact ⟨n :: ns, by simp [h3], by rw [← h, h4]; rfl⟩
    · cases h
theorem foldl_push (ns : List Int) : ∀ (s : ByteArray), ns.foldl (fun r n => r.push (UInt8.ofNat n.toNat)) s = ⟨s.data ++ (ns.map fun n => UInt8.ofNat n.toNat).toArray⟩ := by
  induction ns with
  | nil => intro s; simp
  | cons n ns ih => intro s; simp only [List.foldl_cons, ih]; simp [ByteArray.push]
theorem LRel.ground_eq {cs cs' : List Value} (hr : LRel E cs cs') (hg : ∀ v ∈ cs, ground v = true) : cs' = cs := by
  apply List.ext_getElem?
  intro i
  by_cases hi : i < cs.length
  · obtain ⟨v', hv', hrv⟩ := hr.2 i cs[i] (List.getElem?_eq_getElem hi)
    rw [hv', List.getElem?_eq_getElem hi, hrv.ground_eq (hg _ (List.getElem_mem hi))]
  · rw [List.getElem?_eq_none (by rw [← hr.1]; omega), List.getElem?_eq_none (by omega)]
theorem isByteT_eq {e : TypeId} (h : isByteT P e = true) : P.underlying e = some (.int .u8) := by
  unfold isByteT at h
  split at h
  · assumption
  · cases h
theorem LRel.refl_ground {cs : List Value} (hg : ∀ v ∈ cs, ground v = true) : LRel E cs cs :=
  ⟨rfl, fun i v hv => ⟨v, hv, VR.of_ground (hg v (List.mem_of_getElem? hv))⟩⟩
theorem toBytes_ground (s : ByteArray) : ∀ v ∈ toBytes s, ground v = true := by
  intro v hv
  unfold toBytes at hv
  obtain ⟨b, _, rfl⟩ := List.mem_map.1 hv
  rfl
theorem toBytes_len (s : ByteArray) : (toBytes s).length = s.size := by unfold toBytes; rw [List.length_map, Array.length_toList]; rfl

theorem cut_ge {need old : Nat} {e : TypeId} (t : Nat) : need ≤ (Question.appendCap need old e).cut t := Nat.le_add_right _ _
theorem freeze_new (w : World) (arr : Array Value) (e : TypeId) (n : Nat) : ({ w with heap := w.heap.push (.cells arr e) } : World).freeze ⟨w.heap.size, n, none⟩ 1 = { w with heap := w.heap.push (.cells arr e (n, n + 1)) } := by
  have : (w.heap.push (.cells arr e)).modify w.heap.size (fun o => match o with
      | .cells c elem (lo, hi) => .cells c elem (if lo == hi then (n, n + 1) else (min lo n, max hi (n + 1)))
      | o => o) = w.heap.push (.cells arr e (n, n + 1)) := by
    apply Array.ext
    · simp
    · intro i h1 h2
      simp only [Array.getElem_modify]
      by_cases hi : w.heap.size = i
      · subst hi; simp
      · rw [if_neg hi]
        have : i < w.heap.size := by simp at h2; omega
        rw [Array.getElem_push_lt this, Array.getElem_push_lt this]
  unfold World.freeze
  rw [if_neg (by omega)]
  simp only
  rw [← this]
  rfl
theorem run_stringToBytes (e : TypeId) (s : ByteArray) (w : World) : ∃ (cap : Nat) (w' : World), s.size ≤ cap ∧ (Conv.stringToBytes e s).run P w = .ok (.slice (some ⟨w.heap.size, 0, none⟩) s.size cap) w' ∧ Pushed w w' ∧
    w'.heap[w.heap.size]? = some (.cells (toBytes s ++ List.replicate (cap - s.size) (Value.int .u8 0)).toArray e (cap, cap + 1)) := by
  let cap := (Question.appendCap s.size 0 e).cut (w.tape w.drawn (.appendCap s.size 0 e))
  have hcap : s.size ≤ cap := cut_ge _
  let arr : Array Value := (s.data.map fun b => .int .u8 b.toNat) ++ Array.replicate (cap - s.size) (.int .u8 0)
  have hsz : arr.size = cap := by
    have : s.data.size = s.size := rfl
    simp [arr, this]; omega
  have harr : (toBytes s ++ List.replicate (cap - s.size) (Value.int .u8 0)).toArray = arr := by
    apply Array.ext'
    simp [arr, toBytes]
  let w1 : World := { w with drawn := w.drawn + 1 }
  refine ⟨cap, { w1 with heap := w.heap.push (.cells arr e (cap, cap + 1)) }, hcap, ?_, pushed w _ _, ?_⟩
  · have hf := freeze_new w1 arr e cap
    have hsh : ({ w1 with heap := w1.heap.push (.cells arr e) } : World).shape? w.heap.size = some (e, arr.size) := by
      have : (w.heap.push (.cells arr e))[w.heap.size]? = some (.cells arr e) := pushed_get w _
      simp only [World.shape?]
      rw [show w1.heap = w.heap from rfl, this]
    simp only [Conv.stringToBytes, Sem.run_bind, run_choose, Question.forced, newRow, run_newObj, Sem.run_pure, markStringish, run_shape, run_freeze, Result.andThen_ok]
    simp only [Bool.false_eq_true, if_false, Result.andThen_ok]
    change Result.andThen (Sem.run P (match ({ w1 with heap := w1.heap.push (.cells arr e) } : World).shape? w.heap.size with
      | some (_, n) => freeze ⟨w.heap.size, n, none⟩ 1
      | _ => pure ()) { w1 with heap := w1.heap.push (.cells arr e) }) _ = _
    rw [hsh]
    simp only [run_freeze, Result.andThen_ok, hsz]
    rw [show (⟨w.heap.size, cap, none⟩ : Addr) = ⟨w1.heap.size, cap, none⟩ from rfl, hf]
  · rw [harr]; exact pushed_get w _
theorem run_markStr {src e : TypeId} (h1 : P.underlying src = some (.slice e)) (h2 : P.underlying e = some (.int .u8)) {w : World} {b o n c : Nat} {cs : Array Value} {t : TypeId} {lo hi : Nat} (hh : w.heap[b]? = some (.cells cs t (lo, hi))) :
    (Go.convert src src (.slice (some ⟨b, o, none⟩) n c)).run P w = .ok (.slice (some ⟨b, o, none⟩) n c) (w.freeze ⟨b, cs.size, none⟩ 1) := by
  have hsh : w.shape? b = some (t, cs.size) := by unfold World.shape?; rw [hh]
  simp [Go.convert, run_under h1, run_under h2, markStringish, hsh]
theorem freeze_get {w : World} {b : Nat} {cs : Array Value} {t : TypeId} {lo hi : Nat} (hh : w.heap[b]? = some (.cells cs t (lo, hi))) :
    (w.freeze ⟨b, cs.size, none⟩ 1).heap[b]? = some (.cells cs t (if lo == hi then (cs.size, cs.size + 1) else (min lo cs.size, max hi (cs.size + 1)))) := by
  unfold World.freeze
  rw [if_neg (by omega)]
  simp [Array.getElem?_modify, hh]
theorem freeze_wrote (w : World) (b n : Nat) : Wrote b w (w.freeze ⟨b, n, none⟩ 1) := by
  unfold World.freeze
  rw [if_neg (by omega)]
  refine ⟨rfl, rfl, rfl, by simp, fun c hc => ?_⟩
  simp [Array.getElem?_modify, Ne.symm hc]
theorem convV_run (hR : Rel P base E h w) {src dst : TypeId} {x x' v : Value} {h' : Heap} (hfree : Free E h h') (hv : convV P src dst x h = some (v, h')) (hx : VR E x x') :
    ∃ E' w' v', (Go.convert src dst x').run P w = .ok v' w' ∧ Post P base E h w E' h' w' ∧ VR E' v v' := by
  unfold convV at hv
  split at hv
  · rename_i e n c h1 h2
    split at hv
    · rename_i hc
      obtain ⟨c1, rfl, rfl⟩ := hc
      simp only [Option.some.injEq, Prod.mk.injEq] at hv
      obtain ⟨rfl, rfl⟩ := hv
      cases hx
      exact ⟨E, w, .string .empty, by simp [Go.convert, run_under h1, run_under h2, run_under (isByteT_eq c1), Conv.bytesToString], Post.refl hR, .string _⟩
    · cases hv
  · rename_i e b o n c h1 h2
    split at hv
    · rename_i c1
      cases hl : h.loadN b o n with
      | none => simp [hl] at hv
      | some cs =>
        simp only [hl, Option.bind_some] at hv
        cases hb : bytesOf? cs with
        | none => simp [hb] at hv
        | some l =>
          simp only [hb, Option.map_some, Option.some.injEq, Prod.mk.injEq] at hv
          obtain ⟨rfl, rfl⟩ := hv
          obtain ⟨ns, rfl, rfl⟩ := bytesOf_eq hb
          have hconv : ∀ a' n' c', (Go.convert src dst (.slice a' n' c')).run P w = (Conv.bytesToString (.slice a' n' c')).run P w := fun a' n' c' =>
            run_convert_bytes_string w src dst e a' n' c' h1 (isByteT_eq c1) h2
          have fin : ∀ (a' : Addr) (c' : Nat), (loadCells a' n).run P w = .ok (ns.map (Value.int .u8)).toArray w → (Go.convert src dst (.slice (some a') n c')).run P w = .ok (.string ⟨(ns.map fun n => UInt8.ofNat n.toNat).toArray⟩) w := fun a' c' hrun => by
            rw [hconv, run_bytesToString w a' n c' ns hrun, foldl_push]
            have e0 : ByteArray.empty.data = #[] := rfl
            rw [e0]; simp
          refine ⟨E, w, .string ⟨(ns.map fun n => UInt8.ofNat n.toNat).toArray⟩, ?_, Post.refl hR, .string _⟩
          rcases hx.slice_inv with ⟨lc, c', e1, e2, e3, e4, rfl⟩ | ⟨rfl, _, a', rfl⟩
          · obtain ⟨cs', hr, hn, hrun⟩ := run_loadN hR hl e1
            rw [hr.ground_eq (fun v hv => by obtain ⟨i, _, rfl⟩ := List.mem_map.1 hv; rfl)] at hrun
            exact fin _ _ hrun
          · have := loadN_len hl
            have hns : ns = [] := by simpa using this
            subst hns
            exact fin _ _ (by simp [loadCells, loadCellsFrom])
    · cases hv
  · rename_i e s h1 h2
    split at hv
    · rename_i hc
      obtain ⟨c1, c2⟩ := hc
      simp only [Option.some.injEq, Prod.mk.injEq] at hv
      obtain ⟨rfl, rfl⟩ := hv
      cases hx
      have hfr : E h.blks.length = none := hfree _ (Nat.le_refl _) (by rw [Heap.new_len]; omega)
      obtain ⟨cap, w', g1, g2, g3, g4⟩ := run_stringToBytes (P := P) e s w
      have hlen : (toBytes s).length + (List.replicate (cap - s.size) (Value.int .u8 0)).length = cap := by rw [toBytes_len]; simp; omega
      refine ⟨_, w', _, ?_, row_new hR hfr c2 (LRel.refl_ground (toBytes_ground s)) w' g3 cap (cap + 1) g4 (.inr (by rw [hlen]; exact Nat.le_refl _)),
        VR.new_slice (l := ⟨w.heap.size, 0, _, 1⟩) (c' := cap) (Env.upd_same _ _ _) rfl (.inl rfl) g1 (fun _ => by rw [hlen]; exact Nat.le_of_eq (Nat.mul_one cap))⟩
      simp only [Go.convert, Sem.run_bind, run_under h1, run_under h2, Result.andThen_ok, run_under (isByteT_eq c1)]
      exact g2
    · cases hv
  · rename_i e1 e b o n c h1 h2
    split at hv
    · rename_i cs ty hb
      split at hv
      · rename_i hc
        obtain ⟨rfl, c1, c2⟩ := hc
        simp only [Option.some.injEq, Prod.mk.injEq] at hv
        obtain ⟨rfl, rfl⟩ := hv
        rcases hx.slice_inv with ⟨lc, c', e1, e2, e3, e4, rfl⟩ | ⟨rfl, _, a', rfl⟩
        · have hblk := hR.blk b _ lc hb e1
          obtain ⟨hes, hcells, hown⟩ := hblk
          obtain ⟨cs', t, lo, hi, hh, hsz, hes', hfz⟩ := hown rfl
          refine ⟨E, w.freeze ⟨lc.cb, cs'.size, none⟩ 1, _, run_markStr h2 (isByteT_eq c1) hh, ?_, hx⟩
          refine Post.put hR hb e1 rfl trivial (.cells cs) (freeze_wrote w lc.cb cs'.size) ⟨hes, fun i v hv => ?_, fun _ => ?_⟩
          · obtain ⟨v', h3, h4⟩ := hcells i v hv
            refine ⟨v', ?_, h4⟩
            simp only [World.cell?, freeze_get hh, hh] at h3 ⊢
            exact h3
          · refine ⟨cs', t, _, _, (by rw [freeze_get hh]), hsz, hes', ?_⟩
            by_cases hlh : lo = hi
            · simp [hlh]; omega
            · simp [hlh]
              have := hfz.resolve_left hlh
              omega
        · exact absurd rfl c2
      · cases hv
    · cases hv
  · cases hv
  · cases hv
  · split at hv
    · rename_i hg
      have e := hx.ground_eq hg
      rw [← e] at hv
      cases hp : pureV P (Go.convert src dst x') with
      | none => simp [hp] at hv
      | some u =>
        simp only [hp, Option.map_some, Option.some.injEq, Prod.mk.injEq] at hv
        obtain ⟨rfl, rfl⟩ := hv
        exact ⟨E, w, u, (pureV_run (E := E) hp).1 w, Post.refl hR, (pureV_run hp).2⟩
    · cases hv
end Go.Am
