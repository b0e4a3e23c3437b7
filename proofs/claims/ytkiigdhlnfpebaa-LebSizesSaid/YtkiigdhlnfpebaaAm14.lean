/- The abstract machine: what an operation that is no effect looks at. -/
import Derived.Test.YtkiigdhlnfpebaaAm13
set_option linter.unusedSimpArgs false
set_option linter.unusedVariables false
namespace Go.Am
variable {P : Program} {base : Nat}

/-- a block whose content is not to be looked at -/
def fade (k : Blk) : Blk := { k with body := match k.body with | .cells _ => .dead | .dead => .dead | _ => .gone }
theorem fade_live (k : Blk) : ¬ (fade k).live := by
  obtain ⟨body, ty, own⟩ := k
  cases body <;> exact fun h => h
def star (R : List Nat) (h : Heap) : Heap := { blks := h.blks.mapIdx fun b k => if b ∈ R then k else fade k, mods := [] }
theorem star_len (R : List Nat) (h : Heap) : (star R h).blks.length = h.blks.length := by simp [star]
theorem star_get (R : List Nat) (h : Heap) (b : Nat) : (star R h).blks[b]? = (h.blks[b]?).map fun k => if b ∈ R then k else fade k := by simp [star]
theorem star_es (R : List Nat) (h : Heap) (b : Nat) : esOf P (star R h) b = esOf P h b := by
  unfold esOf
  rw [star_get]
  cases hb : h.blks[b]? with
  | none => rfl
  | some k =>
    obtain ⟨body, ty, own⟩ := k
    simp only [Option.map_some]
    by_cases hR : b ∈ R
    · rw [if_pos hR]
    · rw [if_neg hR]
      cases body <;> rfl

theorem cells_congr {h hs : Heap} {b : Nat} (hb : hs.blks[b]? = h.blks[b]?) : hs.cells? b = h.cells? b := by unfold Heap.cells?; rw [hb]
theorem loadN_congr {h hs : Heap} {b o n : Nat} (hb : hs.blks[b]? = h.blks[b]?) : hs.loadN b o n = h.loadN b o n := by unfold Heap.loadN; rw [cells_congr hb]
theorem load1_congr {h hs : Heap} {b o : Nat} (hb : hs.blks[b]? = h.blks[b]?) : hs.load1 b o = h.load1 b o := by unfold Heap.load1; rw [cells_congr hb]
theorem mapOf_congr {h hs : Heap} {b : Nat} (hb : hs.blks[b]? = h.blks[b]?) : mapOf? hs b = mapOf? h b := by unfold mapOf?; rw [hb]

theorem isStrT_of {t : TypeId} (h : P.underlying t = some .string) : isStrT P t = true := by unfold isStrT; rw [h]
theorem isSliceT_of {t e : TypeId} (h : P.underlying t = some (.slice e)) : isSliceT P t = true := by unfold isSliceT; rw [h]
theorem isSliceT_str {t : TypeId} (h : P.underlying t = some .string) : isSliceT P t = false := by unfold isSliceT; rw [h]
theorem isStrT_slice {t e : TypeId} (h : P.underlying t = some (.slice e)) : isStrT P t = false := by unfold isStrT; rw [h]

/-- the same over another heap that has as many blocks, and what is read -/
theorem doOp_star {ev : Ev} {o : Oper} {T : Array Value} {h hs h1 : Heap} {v : Value} (hc : clsOf P o.op ≠ .e) (hd : doOp P ev o T h = some (v, h1)) (hlen : hs.blks.length = h.blks.length)
    (hread : clsOf P o.op = .l → ∀ r ∈ readOf o.op T, hs.blks[r]? = h.blks[r]?) (hes : ∀ b, esOf P hs b = esOf P h b) :
    ∃ h1s, doOp P ev o T hs = some (v, h1s) ∧ ((clsOf P o.op ≠ .a ∧ h1 = h ∧ h1s = hs) ∨ (clsOf P o.op = .a ∧ ∃ body ty, h1 = h.new body ty ∧ h1s = hs.new body ty ∧ body.kind ≠ 2)) := by
  obtain ⟨dst, op, type, pos, after, guard⟩ := o
  have pmap : ∀ {u us : Option Value}, us = u → (u.map fun v => (v, h)) = some (v, h1) → ((us.map fun v => (v, hs)) = some (v, hs) ∧ h1 = h) := fun e hu => by
    obtain ⟨v0, h0, e0⟩ := Option.map_eq_some_iff.1 hu
    cases e0
    exact ⟨by rw [e, h0]; rfl, rfl⟩
  cases op <;> simp only [doOp] at hd ⊢ <;> simp only [clsOf] at hc hread ⊢
  case move x => cases hd; exact ⟨hs, rfl, .inl ⟨by simp, rfl, rfl⟩⟩
  case assign x => cases hd; exact ⟨hs, rfl, .inl ⟨by simp, rfl, rfl⟩⟩
  case pick c x y =>
    split at hd
    · rename_i t ht; cases hd; exact ⟨hs, rfl, .inl ⟨by simp, rfl, rfl⟩⟩
    · cases hd
  case alloc t =>
    unfold allocV at hd ⊢
    split at hd
    · split at hd
      · cases hd
        rename_i hg
        exact ⟨_, by rw [if_pos hg, newV, hlen], .inr ⟨trivial, _, _, rfl, rfl, by simp [Body.kind]⟩⟩
      · cases hd
    · cases hd
  case box t x =>
    unfold boxV at hd ⊢
    split at hd
    · cases hd
      exact ⟨_, by rw [newV, hlen], .inr ⟨trivial, _, _, rfl, rfl, by simp [Body.kind]⟩⟩
    · cases hd
  case build t parts => have := pmap rfl hd; exact ⟨hs, this.1, .inl ⟨by simp, this.2, rfl⟩⟩
  case buildSlice t len parts =>
    unfold buildSliceV at hd ⊢
    split at hd
    · split at hd
      · split at hd
        · rename_i hcond
          obtain ⟨u, hu, e⟩ := Option.map_eq_some_iff.1 hd
          cases e
          exact ⟨_, by rw [if_pos hcond, hu, hlen]; rfl, .inr ⟨trivial, _, _, rfl, rfl, by simp [Body.kind]⟩⟩
        · cases hd
      · cases hd
    · cases hd
  case load t x =>
    have e : loadV P t (evalO T x) hs = loadV P t (evalO T x) h := by
      have hr := hread trivial
      simp only [readOf] at hr
      unfold loadV
      split
      · rename_i b o hb
        rw [hb] at hr
        have hb' := hr b (by simp)
        simp only [loadN_congr hb', load1_congr hb']
      · rfl
    have := pmap e hd
    exact ⟨hs, this.1, .inl ⟨by simp, this.2, rfl⟩⟩
  case store => exact absurd rfl hc
  case nilCheck x => have := pmap rfl hd; exact ⟨hs, this.1, .inl ⟨by simp, this.2, rfl⟩⟩
  case binOp => have := pmap rfl hd; exact ⟨hs, this.1, .inl ⟨by simp, this.2, rfl⟩⟩
  case unOp => have := pmap rfl hd; exact ⟨hs, this.1, .inl ⟨by simp, this.2, rfl⟩⟩
  case convert s d x =>
    unfold convV at hd ⊢
    split at hd
    · rename_i e n c h1' h2' hx
      simp only [isStrT_of h2', isSliceT_of h1', isSliceT_str h2', isStrT_slice h1', Bool.and_self, Bool.and_false, Bool.false_eq_true, if_false, if_true] at hc hread ⊢
      split at hd
      · rename_i hcond
        cases hd
        exact ⟨hs, by rw [if_pos hcond], .inl ⟨by simp, rfl, rfl⟩⟩
      · cases hd
    · rename_i e b o n c h1' h2' hx
      simp only [isStrT_of h2', isSliceT_of h1', isSliceT_str h2', isStrT_slice h1', Bool.and_self, Bool.and_false, Bool.false_eq_true, if_false, if_true] at hc hread ⊢
      have hr := hread trivial
      simp only [readOf, hx] at hr
      split at hd
      · rename_i hcond
        rw [if_pos hcond, loadN_congr (hr b (by simp))]
        obtain ⟨u, hu, e⟩ := Option.map_eq_some_iff.1 hd
        cases e
        exact ⟨hs, by rw [hu]; rfl, .inl ⟨by simp, rfl, rfl⟩⟩
      · cases hd
    · rename_i e s0 h1' h2' hx
      simp only [isStrT_of h1', isSliceT_of h2', isSliceT_str h1', isStrT_slice h2', Bool.and_self, Bool.and_false, Bool.false_eq_true, if_false, if_true] at hc hread ⊢
      split at hd
      · rename_i hcond
        cases hd
        exact ⟨_, by rw [if_pos hcond, hlen], .inr ⟨trivial, _, _, rfl, rfl, by simp [Body.kind]⟩⟩
      · cases hd
    · rename_i h1' h2' hx
      simp only [isStrT_slice h1', isStrT_slice h2', isSliceT_of h1', Bool.false_and, Bool.and_false, Bool.true_or, Bool.false_eq_true, if_false, if_true] at hc
      exact absurd rfl hc
    · cases hd
    · cases hd
    · rename_i g1 g2 g3 g4 g5 g6
      split at hd
      · rename_i hg
        obtain ⟨u, hu, e⟩ := Option.map_eq_some_iff.1 hd
        cases e
        refine ⟨hs, by rw [if_pos hg, hu]; rfl, .inl ⟨?_, rfl, rfl⟩⟩
        have hf : (isStrT P s && isSliceT P d) = false := by
          cases h1 : isStrT P s with
          | false => rfl
          | true =>
            cases h2 : isSliceT P d with
            | false => rfl
            | true =>
              unfold isStrT at h1
              unfold isSliceT at h2
              split at h1
              · rename_i e1
                split at h2
                · rename_i e2; first | exact (g6 _ e1 e2).elim | exact (g5 _ e1 e2).elim | exact (g4 _ e1 e2).elim | exact (g3 _ e1 e2).elim | exact (g2 _ e1 e2).elim
                · cases h2
              · cases h1
        rw [hf]
        simp only [Bool.false_eq_true, if_false]
        split
        · simp
        · split <;> simp
      · cases hd
  case makeInterface => have := pmap rfl hd; exact ⟨hs, this.1, .inl ⟨by simp, this.2, rfl⟩⟩
  case makeFunc => cases hd; exact ⟨hs, rfl, .inl ⟨by simp, rfl, rfl⟩⟩
  case makeMap t r =>
    cases r with
    | none => cases hd; exact ⟨(makeMapV hs).2, by simp [makeMapV, hlen], .inr ⟨trivial, _, _, rfl, rfl, by simp [Body.kind]⟩⟩
    | some r => cases hd
  case makeSlice t l c =>
    unfold makeSliceV at hd ⊢
    split at hd
    · split at hd
      · split at hd
        · rename_i hcond
          cases hd
          exact ⟨_, by rw [if_pos hcond, hlen], .inr ⟨trivial, _, _, rfl, rfl, by simp [Body.kind]⟩⟩
        · cases hd
      · cases hd
    · cases hd
  case slice t x lo hi mx =>
    have e : sliceV P t (evalO T x) (lo.map (evalO T)) (hi.map (evalO T)) (mx.map (evalO T)) hs = sliceV P t (evalO T x) (lo.map (evalO T)) (hi.map (evalO T)) (mx.map (evalO T)) h := by
      unfold sliceV
      simp only [hes]
    have := pmap e hd
    exact ⟨hs, this.1, .inl ⟨by simp, this.2, rfl⟩⟩
  case fieldAddr => have := pmap rfl hd; exact ⟨hs, this.1, .inl ⟨by simp, this.2, rfl⟩⟩
  case field => have := pmap rfl hd; exact ⟨hs, this.1, .inl ⟨by simp, this.2, rfl⟩⟩
  case indexAddr => have := pmap rfl hd; exact ⟨hs, this.1, .inl ⟨by simp, this.2, rfl⟩⟩
  case index => have := pmap rfl hd; exact ⟨hs, this.1, .inl ⟨by simp, this.2, rfl⟩⟩
  case lookup t m k ok =>
    have e : lookupV P t (evalO T m) (evalO T k) ok hs = lookupV P t (evalO T m) (evalO T k) ok h := by
      have hr := hread trivial
      simp only [readOf] at hr
      unfold lookupV
      split
      · rename_i kt et r k n h1 h2 h3
        rw [h2] at hr
        rw [mapOf_congr (hr r (by simp))]
      · rfl
    have := pmap e hd
    exact ⟨hs, this.1, .inl ⟨by simp, this.2, rfl⟩⟩
  case mapUpdate => exact absurd rfl hc
  case typeAssert => have := pmap rfl hd; exact ⟨hs, this.1, .inl ⟨by simp, this.2, rfl⟩⟩
  case extract => have := pmap rfl hd; exact ⟨hs, this.1, .inl ⟨by simp, this.2, rfl⟩⟩
  case call c =>
    obtain ⟨callee, args, ts⟩ := c
    cases callee with
    | value f => simp at hc
    | invoke r m => simp at hc
    | builtin b =>
      simp only at hd hc hread ⊢
      unfold builtinV at hd ⊢
      split at hd
      · rename_i x t ha ht
        simp only [ha, ht]
        have hgd : ts.getD 0 0 = t := by simp [ht]
        simp only [hgd] at hc hread ⊢
        have e : lenV P t x hs = lenV P t x h := by
          unfold lenV
          split
          · rfl
          · rfl
          · rfl
          · rename_i kt et r hu
            have hm : isMapT P t = true := by unfold isMapT; rw [hu]
            rw [if_pos hm] at hread
            have hr := hread rfl
            simp only [readOf] at hr
            have hx : (args.map (evalO T)).toList = [.map (some r)] := ha
            have := hr r (by
              simp only [Array.toList_map] at hx
              simp only [List.mem_flatten, List.mem_map]
              refine ⟨[r], ?_, by simp⟩
              cases hq : args.toList with
              | nil => rw [hq] at hx; simp at hx
              | cons y ys => rw [hq] at hx; simp at hx; exact ⟨y, by simp, by rw [hx.1]⟩)
            rw [mapOf_congr this]
          · rfl
        have := pmap e hd
        exact ⟨hs, this.1, .inl ⟨by split <;> simp, this.2, rfl⟩⟩
      · simp at hc
      · simp at hc
      · split at hd
        · rename_i hg
          rw [if_pos hg]
          have := pmap rfl hd
          exact ⟨hs, this.1, .inl ⟨by simp, this.2, rfl⟩⟩
        · cases hd
      · split at hd
        · rename_i hg
          rw [if_pos hg]
          have := pmap rfl hd
          exact ⟨hs, this.1, .inl ⟨by simp, this.2, rfl⟩⟩
        · cases hd
      · cases hd
  all_goals (cases hd; done)
end Go.Am
