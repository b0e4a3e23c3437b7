/- The abstract machine: a region that draws its order comes to what the text's order comes to. -/
import Derived.Test.YtkiigdhlnfpebaaAm15
set_option linter.unusedSimpArgs false
set_option linter.unusedVariables false
namespace Go.Am
variable {P : Program} {base : Nat}

/-- the tmps -/
def CutT (N : Nat) (ops : Array Oper) (S : Nat → Prop) (t m : Nat) : Prop := m ≤ N ∧ (∀ i, i < m → (ops.getD i default).dst = some t → S i) ∧ (∀ i, m ≤ i → i < N → (ops.getD i default).dst = some t → ¬ S i)
theorem putT_same {T : Array Value} {t : Nat} {v : Value} (h : t < T.size) : (putT T (some t) v).getD t undef = v := by simp [putT, h]
theorem putT_far {T : Array Value} {d : Option Tmp} {t : Nat} {v : Value} (h : d ≠ some t) : (putT T d v).getD t undef = T.getD t undef := by
  cases d with
  | none => rfl
  | some d =>
    have hne : d ≠ t := fun e => h (by rw [e])
    simp [putT, Array.getElem?_setIfInBounds_ne hne]
theorem putT_size {T : Array Value} {d : Option Tmp} {v : Value} : (putT T d v).size = T.size := by cases d <;> simp [putT]
theorem putT_out {T : Array Value} {d : Option Tmp} {t : Nat} {v : Value} (h : T.size ≤ t) : (putT T d v).getD t undef = undef := by
  have : (putT T d v).size ≤ t := by rw [putT_size]; exact h
  simp [Array.getElem?_eq_none this]
theorem put_eq (a : Act) (d : Option Tmp) (v : Value) : (a.put d v).tmps = putT a.tmps d v := by cases d <;> rfl

structure Inv (P : Program) (base : Nat) (N : Nat) (ops : Array Oper) (Hh : Nat → Heap) (TT : Nat → Array Value) (M : Nat → List Nat) (E0 : Env) (w0 : World) (d0 : List Deferred) (S : Nat → Prop) (E : Env) (w : World) (a : Act) : Prop where
  heaps : InvH P base N Hh M E0 w0 S E w
  size : a.tmps.size = (TT 0).size
  tmps : ∀ t m, CutT N ops S t m → VR E ((TT m).getD t undef) (a.tmps.getD t undef)
  defers : a.defers = d0
  closed : Closed ops S

theorem star_rel {N : Nat} {Hh : Nat → Heap} {M : Nat → List Nat} {E0 : Env} {w0 : World} {S : Nat → Prop} {E : Env} {w : World} (hI : InvH P base N Hh M E0 w0 S E w) {i : Nat} (hi : i < N) (R : List Nat) (hRc : ∀ r, r ∈ R → r < (Hh i).blks.length → E r ≠ none → Cut N Hh M S r i) :
    Rel P base E (star R (Hh i)) w := by
  have hg : ∀ b k, (star R (Hh i)).blks[b]? = some k → ∃ k0, (Hh i).blks[b]? = some k0 ∧ ((b ∈ R ∧ k = k0) ∨ (b ∉ R ∧ k = fade k0)) := by
    intro b k hk
    rw [star_get] at hk
    obtain ⟨k0, h1, h2⟩ := Option.map_eq_some_iff.1 hk
    refine ⟨k0, h1, ?_⟩
    by_cases hb : b ∈ R
    · rw [if_pos hb] at h2; exact .inl ⟨hb, h2.symm⟩
    · rw [if_neg hb] at h2; exact .inr ⟨hb, h2.symm⟩
  have hlive : ∀ b k, (star R (Hh i)).blks[b]? = some k → k.live → (Hh i).blks[b]? = some k ∧ b ∈ R := by
    intro b k hk hv
    obtain ⟨k0, h1, h2⟩ := hg b k hk
    rcases h2 with ⟨hb, rfl⟩ | ⟨hb, rfl⟩
    · exact ⟨h1, hb⟩
    · exact absurd hv (fade_live _)
  refine ⟨fun b k l hk hl => ?_, fun b k l hk hl ho => ?_, fun b k l hk hl ho => ?_, hI.bnd, fun b b2 k k2 l l2 hk hk2 hl hl2 ho ho2 hv hv2 hc => ?_, hI.base⟩
  · obtain ⟨k0, h1, h2⟩ := hg b k hk
    rcases h2 with ⟨hb, rfl⟩ | ⟨hb, rfl⟩
    · exact hI.cur b l i k hl (hRc b hb (List.getElem?_eq_some_iff.1 h1).1 (by rw [hl]; simp)) h1
    · have hs := (hI.sta b l i k0 hl (by omega) h1).1
      obtain ⟨body, ty, own⟩ := k0
      cases body with
      | cells cs => exact hs.resolve_left (by simp [Body.kind])
      | dead => exact hs.resolve_left (by simp [Body.kind])
      | map es => exact trivial
      | gone => exact trivial
  · obtain ⟨k0, h1, h2⟩ := hg b k hk
    have hs := (hI.sta b l i k0 hl (by omega) h1).2.1
    rcases h2 with ⟨hb, rfl⟩ | ⟨hb, rfl⟩
    · exact hs ho
    · exact hs ho
  · obtain ⟨k0, h1, h2⟩ := hg b k hk
    have hs := (hI.sta b l i k0 hl (by omega) h1).2.2
    rcases h2 with ⟨hb, rfl⟩ | ⟨hb, rfl⟩
    · exact hs ho
    · exact hs ho
  · obtain ⟨h1, h2⟩ := hlive b k hk hv
    obtain ⟨h3, h4⟩ := hlive b2 k2 hk2 hv2
    exact hI.inj b b2 l l2 i i k k2 hl hl2 (hRc b h2 (List.getElem?_eq_some_iff.1 h1).1 (by rw [hl]; simp)) (hRc b2 h4 (List.getElem?_eq_some_iff.1 h3).1 (by rw [hl2]; simp)) h1 h3 ho ho2 hv hv2 hc

theorem drawn_ok (hm : P.follows .mixedOrders = true) : DrawOk P base := by
  intro ev hg hev id ops s s' E0 w a0 hpl hdr hr hR hT hfree Q hQ
  refine wp_region_any hm ?_
  -- the text's run
  obtain ⟨d, hd, hchk, hs'⟩ : ∃ d, runListD P ev ops (Region.before ops) (List.range ops.size) ⟨s, [], []⟩ = some d ∧ (d.reads.all fun b => !d.ms.contains b) = true ∧ d.s = s' := by
    unfold regionV at hr
    rw [if_pos hpl, if_pos rfl, if_pos hdr] at hr
    split at hr
    · rename_i d hd
      split at hr
      · rename_i hc; cases hr; exact ⟨d, hd, hc, rfl⟩
      · cases hr
    · cases hr
  rw [List.range_eq_range'] at hd
  obtain ⟨tr, tr0, trN, htr⟩ := trace_of ops.size 0 hd
  rw [Nat.zero_add] at trN
  generalize hN : ops.size = N at *
  have htr' : ∀ j, j < N → stepD P ev ops (Region.before ops) j (tr j) = some (tr (j + 1)) := fun j hj => htr j (Nat.zero_le _) (by omega)
  clear htr hd hr
  let Hh : Nat → Heap := fun j => (tr j).s.h
  let TT : Nat → Array Value := fun j => (tr j).s.T
  let M : Nat → List Nat := fun j => match stepAt P ev ops j ⟨TT j, { Hh j with mods := [] }⟩ with | some s' => s'.h.mods | none => []
  have hst : ∀ j, j < N → ∃ s1, stepAt P ev ops j ⟨TT j, { Hh j with mods := [] }⟩ = some s1 ∧ TT (j + 1) = s1.T ∧ (Hh (j + 1)).blks = s1.h.blks ∧ M j = s1.h.mods ∧
      (tr (j + 1)).reads = (if floats P ops (Region.before ops) .e j = true ∧ Region.wanted (ops.getD j default) (yielded ops (TT j)) = true then (if clsOf P (opAt ops j) = .l then readOf (opAt ops j) (TT j) else if clsOf P (opAt ops j) = .a then [(Hh j).blks.length] else []) else []) ++ (tr j).reads ∧
      (tr (j + 1)).ms = (if clsOf P (opAt ops j) = .e ∧ (floats P ops (Region.before ops) .l j = true ∨ floats P ops (Region.before ops) .a j = true) then M j else []) ++ (tr j).ms := by
    intro j hj
    obtain ⟨s1, h1, h2, h3, h4, h5⟩ := stepD_inv (htr' j hj)
    have hM : M j = s1.h.mods := by simp only [M, TT, Hh, h1]
    exact ⟨s1, h1, h2, h3, hM, h4, by rw [hM]; exact h5⟩
  have t : Trace N Hh M := ⟨fun j hj => by
    obtain ⟨s1, h1, h2, h3, h4, _⟩ := hst j hj
    have g := stepAt_grow hg h1
    have : ({ Hh (j + 1) with mods := M j } : Heap) = s1.h := by
      show (⟨(Hh (j + 1)).blks, M j⟩ : Heap) = s1.h
      rw [h3, h4]
    rw [this]; exact g⟩
  -- the static looks
  have hget : ∀ j, j < N → ops[j]? = some (ops.getD j default) := fun j hj => by
    have : j < ops.size := by omega
    simp [this]
  have hback : ∀ i o, ops[i]? = some o → ∀ e ∈ o.after, Region.binds .any e = true → e.on < i := by
    intro i o ho e he hb
    unfold drawOk at hdr
    simp only [Bool.and_eq_true, List.all_eq_true, List.mem_range] at hdr
    have hi : i < ops.size := (Array.getElem?_eq_some_iff.1 ho).1
    have h1 := hdr.1 i hi
    have : ops.getD i default = o := by simp [Array.getD_eq_getD_getElem?, ho]
    rw [this, Array.all_eq_true'] at h1
    have := h1 e he
    simp [hb] at this
    exact this
  have hpair : ∀ i j, i < N → j < N → i ≠ j → (bef ops i j = true ∨ bef ops j i = true) ∨ (Oper.apart ops (ops.getD i default) (ops.getD j default) = true ∧ ¬ (clsOf P (opAt ops i) = .e ∧ clsOf P (opAt ops j) = .e)) := by
    intro i j hi hj hne
    unfold drawOk at hdr
    simp only [Bool.and_eq_true, List.all_eq_true, List.mem_range] at hdr
    have h1 := hdr.2 i (by omega) j (by omega)
    unfold cmpB at h1
    simp only [Bool.or_eq_true, beq_iff_eq, Bool.and_eq_true, Bool.not_eq_true', Bool.and_eq_false_iff, beq_eq_false_iff_ne] at h1
    rcases h1 with (h1 | h1) | h1
    · exact absurd h1 hne
    · exact .inl h1
    · refine .inr ⟨h1.1, fun h2 => ?_⟩
      rcases h1.2 with h3 | h3
      · exact h3 h2.1
      · exact h3 h2.2
  have hfl : ∀ i j c, i < N → j < N → i ≠ j → clsOf P (opAt ops j) = c → ¬ (bef ops i j = true ∨ bef ops j i = true) → floats P ops (Region.before ops) c i = true := by
    intro i j c hi hj hne hc hn
    unfold floats
    rw [List.any_eq_true]
    refine ⟨j, List.mem_range.2 (by omega), ?_⟩
    simp only [Bool.and_eq_true, bne_iff_ne, ne_eq, beq_iff_eq, Bool.not_eq_true']
    refine ⟨⟨hne, hc⟩, ?_⟩
    unfold cmpB
    cases hb : (((Region.before ops).getD i 0).testBit j || ((Region.before ops).getD j 0).testBit i) with
    | false => rfl
    | true => exact absurd (by simpa [bef] using hb) hn
  -- what floating operations read is not what floating effects modify
  have mono : ∀ i j, i ≤ j → j ≤ N → (∀ b, b ∈ (tr i).reads → b ∈ (tr j).reads) ∧ (∀ b, b ∈ (tr i).ms → b ∈ (tr j).ms) := by
    intro i j
    induction j with
    | zero => intro h1 _; have : i = 0 := by omega
              subst this; exact ⟨fun _ h => h, fun _ h => h⟩
    | succ j ih =>
      intro h1 h2
      rcases Nat.eq_or_lt_of_le h1 with e | e
      · subst e; exact ⟨fun _ h => h, fun _ h => h⟩
      · obtain ⟨g1, g2⟩ := ih (by omega) (by omega)
        obtain ⟨s1, _, _, _, _, h3, h4⟩ := hst j (by omega)
        exact ⟨fun b hb => by rw [h3]; exact List.mem_append_right _ (g1 b hb), fun b hb => by rw [h4]; exact List.mem_append_right _ (g2 b hb)⟩
  have clash : ∀ i j b, i < N → j < N → floats P ops (Region.before ops) .e i = true → Region.wanted (ops.getD i default) (yielded ops (TT i)) = true →
      (clsOf P (opAt ops i) = .l ∧ b ∈ readOf (opAt ops i) (TT i) ∨ clsOf P (opAt ops i) = .a ∧ b = (Hh i).blks.length) → clsOf P (opAt ops j) = .e → (floats P ops (Region.before ops) .l j = true ∨ floats P ops (Region.before ops) .a j = true) → b ∈ M j → False := by
    intro i j b hi hj h1 h2 h3 h4 h5 h6
    obtain ⟨_, _, _, _, _, g1, _⟩ := hst i hi
    obtain ⟨_, _, _, _, _, _, g2⟩ := hst j hj
    have r1 : b ∈ (tr (i + 1)).reads := by
      rw [g1, if_pos ⟨h1, h2⟩]
      refine List.mem_append_left _ ?_
      rcases h3 with ⟨h3, h3'⟩ | ⟨h3, rfl⟩
      · rw [if_pos h3]; exact h3'
      · rw [if_neg (by rw [h3]; simp), if_pos h3]; simp
    have r2 : b ∈ (tr (j + 1)).ms := by
      rw [g2, if_pos ⟨h4, h5⟩]
      exact List.mem_append_left _ h6
    have r3 := (mono (i + 1) N (by omega) (Nat.le_refl _)).1 b r1
    have r4 := (mono (j + 1) N (by omega) (Nat.le_refl _)).2 b r2
    rw [trN] at r3 r4
    rw [List.all_eq_true] at hchk
    have := hchk b r3
    simp at this
    exact this r4
  -- an operation that is no effect modifies nothing
  have quiet : ∀ i, i < N → clsOf P (opAt ops i) ≠ .e → M i = [] ∧ ((Hh (i + 1)).blks.length ≠ (Hh i).blks.length → clsOf P (opAt ops i) = .a ∧ (Hh (i + 1)).blks.length = (Hh i).blks.length + 1 ∧ Region.wanted (ops.getD i default) (yielded ops (TT i)) = true) := by
    intro i hi hc
    obtain ⟨s1, h1, h2, h3, h4, _⟩ := hst i hi
    unfold stepAt at h1
    rw [hget i hi] at h1
    simp only at h1
    split at h1
    · rename_i hw
      obtain ⟨r, h5, h6⟩ := Option.map_eq_some_iff.1 h1
      subst h6
      obtain ⟨_, _, hcase⟩ := doOp_star (hs := { Hh i with mods := [] }) hc h5 rfl (fun _ _ _ => rfl) (fun _ => rfl)
      rcases hcase with ⟨g1, g2, _⟩ | ⟨g1, body, ty, g2, _⟩
      · have e1 : r.2 = { Hh i with mods := [] } := g2
        rw [h4, h3]
        simp only [e1]
        exact ⟨trivial, fun h => absurd rfl h⟩
      · have e1 : r.2 = Heap.new { Hh i with mods := [] } body ty := g2
        rw [h4, h3]
        simp only [e1]
        refine ⟨rfl, fun _ => ⟨g1, Heap.new_len _ _ _, hw⟩⟩
    · cases h1
      exact ⟨h4, fun h => absurd (by rw [h3]) h⟩
  have hfreeN : Free E0 (Hh 0) (Hh N) := by
    intro b hb hb'
    refine hfree b ?_ ?_
    · have : Hh 0 = s.h := by simp only [Hh, tr0]
      rw [← this]; exact hb
    · have : Hh N = s'.h := by simp only [Hh, trN, hs']
      rw [← this]; exact hb'
  have hTT : ∀ j, j < N → ∃ v, TT (j + 1) = putT (TT j) (ops.getD j default).dst v := by
    intro j hj
    obtain ⟨s1, h1, h2, _⟩ := hst j hj
    unfold stepAt at h1
    rw [hget j hj] at h1
    simp only at h1
    split at h1
    · obtain ⟨r, _, h6⟩ := Option.map_eq_some_iff.1 h1
      subst h6
      exact ⟨_, h2⟩
    · cases h1
      exact ⟨_, h2⟩
  have hTsize : ∀ j, j ≤ N → (TT j).size = (TT 0).size := by
    intro j
    induction j with
    | zero => intro _; rfl
    | succ j ih =>
      intro hj
      obtain ⟨v, hv⟩ := hTT j (by omega)
      rw [hv, putT_size]; exact ih (by omega)
  have hTstill : ∀ t0 i j, i ≤ j → j ≤ N → (∀ k, i ≤ k → k < j → (ops.getD k default).dst ≠ some t0) → (TT j).getD t0 undef = (TT i).getD t0 undef := by
    intro t0 i j
    induction j with
    | zero => intro h1 _ _; have : i = 0 := by omega
              subst this; rfl
    | succ j ih =>
      intro h1 h2 h3
      rcases Nat.eq_or_lt_of_le h1 with e | e
      · subst e; rfl
      · obtain ⟨v, hv⟩ := hTT j (by omega)
        rw [hv, putT_far (h3 j (by omega) (by omega))]
        exact ih (by omega) (by omega) (fun k h4 h5 => h3 k h4 (by omega))
  -- the whole
  suffices main : ∀ (fuel : Nat) (listed : Array Bool) (E : Env) (w1 : World) (a : Act), listed.size = N → cntU listed N ≤ fuel → Inv P base N ops Hh TT M E0 w a0.defers (fun j => listed.getD j false = true) E w1 a → wpAny P .any ops Q fuel listed a w1 by
    refine main N (Array.replicate N false) E0 _ a0 (by simp) (cntU_le _ _) ?_
    have hS : ∀ j, ¬ ((Array.replicate N false).getD j false = true) := fun j => by
      by_cases hj : j < N <;> simp [hj]
    have c0 : ∀ b m, Cut N Hh M (fun j => (Array.replicate N false).getD j false = true) b m → (Hh m).blks[b]? = (Hh 0).blks[b]? := fun b m hc =>
      t.stills (Nat.zero_le _) hc.le fun k _ h2 ht => hS k (hc.done k h2 ht)
    have h00 : Hh 0 = s.h := by simp only [Hh, tr0]
    have hR' : Rel P base E0 (Hh 0) w := by rw [h00]; exact hR
    refine ⟨⟨Ext.refl _, fun b hb => .inl hb, fun b l m k hl hc hk => ?_, fun b l m k hl hm' hk => ?_, fun b b2 l l2 m m2 k k2 hl hl2 hc hc2 hk hk2 => ?_, hR.bnd, hR.base, ⟨rfl, rfl, rfl, Nat.le_refl _, fun _ _ _ => rfl⟩, fun b m k l h0 h1 => by rw [h0] at h1; cases h1⟩, ?_, fun t0 m hc => ?_, rfl, fun j o ho hj => absurd hj (hS j)⟩
    · rw [c0 b m hc] at hk
      exact (hR'.blk b k l hk hl).congr (Ext.refl _) rfl
    · have hlt : b < (Hh 0).blks.length := by
        rcases Nat.lt_or_ge b (Hh 0).blks.length with h | h
        · exact h
        · have hb := (List.getElem?_eq_some_iff.1 hk).1
          have := hfreeN b h (Nat.lt_of_lt_of_le hb (t.lens hm' (Nat.le_refl _)))
          rw [hl] at this; cases this
      have hk0 : (Hh 0).blks[b]? = some (Hh 0).blks[b] := List.getElem?_eq_getElem hlt
      have hs := t.same (Nat.zero_le _) hm' hk0 hk
      refine ⟨?_, fun ho => hR'.low b _ l hk0 hl (by rw [← hs.1]; exact ho), fun ho => hR'.ro b _ l hk0 hl (by rw [← hs.1]; exact ho)⟩
      have hb := hR'.blk b _ l hk0 hl
      rw [hs.2.1, hs.2.2]
      unfold BlkR at hb
      split at hb
      · exact .inr hb.1
      · rename_i e; left; rw [e]; simp [Body.kind]
      · exact .inr hb
      · rename_i e; left; rw [e]; simp [Body.kind]
    · rw [c0 b m hc] at hk
      rw [c0 b2 m2 hc2] at hk2
      exact hR'.inj b b2 k k2 l l2 hk hk2 hl hl2
    · have : TT 0 = s.T := by simp only [TT, tr0]
      rw [this]; exact hT.1.symm
    · rw [hTstill t0 0 m (Nat.zero_le _) hc.1 (fun k _ h2 h3 => hS k (hc.2.1 k h2 h3))]
      have : TT 0 = s.T := by simp only [TT, tr0]
      rw [this]; exact hT.getD t0
  intro fuel
  -- when all are done
  have finish : ∀ (listed : Array Bool) (E : Env) (w1 : World) (a : Act), (∀ j, j < N → listed.getD j false = true) → Inv P base N ops Hh TT M E0 w a0.defers (fun j => listed.getD j false = true) E w1 a → Q .normal a w1 := by
    intro listed E w1 a hall hI
    have hcut : ∀ b, Cut N Hh M (fun j => listed.getD j false = true) b N := fun b => ⟨Nat.le_refl _, fun i hi _ => hall i hi, fun i h1 h2 => by omega⟩
    have hNh : Hh N = s'.h := by simp only [Hh, trN, hs']
    have hNT : TT N = s'.T := by simp only [TT, trN, hs']
    have h00 : Hh 0 = s.h := by simp only [Hh, tr0]
    refine hQ E w1 a ⟨hI.heaps.ext, fun b h0 h1 => ?_, ?_, ?_, fun b k l h0 hl hk ho hv => ?_⟩ ⟨?_, fun i h1 h2 => ?_⟩ hI.defers
    · rcases hI.heaps.dom b h1 with h | ⟨i, hi, _, h3, h4⟩
      · exact absurd h0 h
      · rw [← h00, ← hNh]
        exact ⟨Nat.le_trans (t.lens (Nat.zero_le i) (by omega)) h3, Nat.lt_of_lt_of_le h4 (t.lens (by omega) (Nat.le_refl _))⟩
    · rw [← hNh]
      exact ⟨fun b k l hk hl => hI.heaps.cur b l N k hl (hcut b) hk, fun b k l hk hl => (hI.heaps.sta b l N k hl (Nat.le_refl _) hk).2.1, fun b k l hk hl => (hI.heaps.sta b l N k hl (Nat.le_refl _) hk).2.2, hI.heaps.bnd,
        fun b b2 k k2 l l2 hk hk2 hl hl2 => hI.heaps.inj b b2 l l2 N N k k2 hl hl2 (hcut b) (hcut b2) hk hk2, hI.heaps.base⟩
    · rw [← h00]; exact hI.heaps.fr
    · rw [← hNh] at hk
      rw [← h00]
      exact hI.heaps.orig b N k l h0 hl (hcut b) hk ho hv
    · rw [← hNT, hTsize N (Nat.le_refl _), hI.size]
    · have := hI.tmps i N ⟨Nat.le_refl _, fun j hj _ => hall j hj, fun j h1 h2 => by omega⟩
      rw [hNT] at this
      simpa [Array.getD, h1, h2] using this
  have ready_nil : ∀ (listed : Array Bool), listed.size = N → Region.ready .any ops listed = [] → ∀ j, j < N → listed.getD j false = true := by
    intro listed hsz hnil j
    induction j using Nat.strongRecOn with
    | _ j ih =>
      intro hj
      cases hb : listed.getD j false with
      | true => rfl
      | false =>
        exfalso
        have hjt : listed.getD j true = false := by
          have : j < listed.size := by omega
          simpa [this] using hb
        have : j ∈ Region.ready .any ops listed := mem_ready.2 ⟨hjt, _, hget j hj, fun e he heb => by
          have hlt := hback j _ (hget j hj) e he heb
          exact ih e.on hlt (by omega)⟩
        rw [hnil] at this
        cases this
  induction fuel with
  | zero =>
    intro listed E w1 a hsz hcnt hI
    have hall : ∀ j, j < N → listed.getD j false = true := fun j hj => by
      have := cntU_zero (by omega : cntU listed N = 0) j hj
      have hlt : j < listed.size := by omega
      simpa [hlt] using this
    refine ⟨?_, finish listed E w1 a hall hI⟩
    cases hr : Region.ready .any ops listed with
    | nil => rfl
    | cons i r =>
      have hi : i ∈ Region.ready .any ops listed := by rw [hr]; simp
      obtain ⟨h1, o, ho, _⟩ := mem_ready.1 hi
      have hiN : i < N := by have := (Array.getElem?_eq_some_iff.1 ho).1; omega
      have h2 := hall i hiN
      have hlt : i < listed.size := by omega
      simp [hlt] at h1 h2
      rw [h1] at h2; cases h2
  | succ fuel ih =>
    intro listed E w1 a hsz hcnt hI
    refine ⟨fun hnil => finish listed E w1 a (ready_nil listed hsz hnil) hI, fun i hi => ?_⟩
    obtain ⟨hun, o, ho, hpre⟩ := mem_ready.1 hi
    have hiN : i < N := by have := (Array.getElem?_eq_some_iff.1 ho).1; omega
    have hod : ops.getD i default = o := by simp [Array.getD_eq_getD_getElem?, ho]
    have hopAt : opAt ops i = o.op := by unfold opAt; rw [hod]
    generalize hSd : (fun j => listed.getD j false = true) = S at hI
    have hS : ∀ j, S j ↔ listed.getD j false = true := fun j => by rw [← hSd]
    have hiS : ¬ S i := by
      rw [hS]
      have hlt : i < listed.size := by omega
      simp [hlt] at hun ⊢
      exact hun
    have hpre' : ∀ e ∈ o.after, Region.binds .any e = true → S e.on := fun e he hb => (hS _).2 (hpre e he hb)
    -- those in an order with i: done if ahead of it, not done if behind it
    have ahead : ∀ j, j < N → j ≠ i → (bef ops i j = true ∨ bef ops j i = true) → (S j ↔ j < i) := by
      intro j hj hne hb
      constructor
      · intro hSj
        rcases hb with hb | hb
        · exact bef_lt hback i hb
        · exact absurd (bef_closed hback hI.closed j hSj hb) hiS
      · intro hlt
        rcases hb with hb | hb
        · exact bef_ready hback hI.closed ho hpre' hb
        · have := bef_lt hback j hb; omega
    -- the tmps that i looks at
    have hlook : ∀ t0, t0 ∈ o.looksAt ops → VR E ((TT i).getD t0 undef) (a.tmps.getD t0 undef) := by
      intro t0 ht0
      have cmp : ∀ j, j < N → j ≠ i → (ops.getD j default).dst = some t0 → (bef ops i j = true ∨ bef ops j i = true) := by
        intro j hj hne hdst
        rcases hpair i j hiN hj (Ne.symm hne) with h | ⟨h, _⟩
        · exact h
        · rw [hod] at h
          exact absurd ht0 ((Oper.apart_spec h).2.2 t0 hdst)
      refine hI.tmps t0 i ⟨by omega, fun j hj hdst => ?_, fun j h1 h2 hdst => ?_⟩
      · exact (ahead j (by omega) (by omega) (cmp j (by omega) (by omega) hdst)).2 hj
      · by_cases hji : j = i
        · subst hji; exact hiS
        · intro hSj
          have := (ahead j h2 hji (cmp j h2 hji hdst)).1 hSj
          omega
    have hwanted : Region.wanted o (yielded ops (TT i)) = Region.wanted o (yielded ops a.tmps) := by
      unfold Region.wanted
      cases hgd : o.guard with
      | none => rfl
      | some gw =>
        obtain ⟨g, want⟩ := gw
        have : yielded ops (TT i) g = yielded ops a.tmps g := by
          unfold yielded
          cases hdst : (ops[g]?).bind (·.dst) with
          | none => rfl
          | some t0 =>
            simp only [Option.bind_some]
            have hv := hlook t0 (by unfold Oper.looksAt; simp [hgd, hdst])
            have hsz2 : (TT i).size = a.tmps.size := by rw [hTsize i (by omega), hI.size]
            by_cases hlt : t0 < (TT i).size
            · have hlt' : t0 < a.tmps.size := by rw [← hsz2]; exact hlt
              simp [Array.getD, hlt, hlt'] at hv
              simp only [Array.getElem?_eq_getElem hlt, Array.getElem?_eq_getElem hlt']
              generalize (TT i)[t0] = x at hv
              generalize a.tmps[t0] = y at hv
              cases hv <;> rfl
            · have hlt' : ¬ t0 < a.tmps.size := by rw [← hsz2]; exact hlt
              simp [hlt, hlt']
        simp only [this]
    have hx : ∀ x, x ∈ o.op.operands → VR E (evalO (TT i) x) (a.eval x) := by
      intro x hxm
      have hc := plainOk_at hpl ho
      rw [Array.all_eq_true'] at hc
      have hcx := hc x hxm
      cases x with
      | tmp t0 => exact hlook t0 (by unfold Oper.looksAt; exact List.mem_append_left _ (List.mem_filterMap.2 ⟨.tmp t0, by simpa using hxm, rfl⟩))
      | const v => exact VR.of_ground hcx
      | global g => cases hcx
      | func f => exact .func rfl (fun i h => by simp at h) rfl (fun i h => by simp at h)
    -- who made a block that is in use
    have made : ∀ b j, j < N → E b ≠ none → (Hh j).blks.length ≤ b → b < (Hh (j + 1)).blks.length → S j := by
      intro b j hj hb h1 h2
      rcases hI.heaps.dom b hb with h | ⟨j', hj', hS', h3, h4⟩
      · exact absurd (hfreeN b (Nat.le_trans (t.lens (Nat.zero_le _) (by omega)) h1) (Nat.lt_of_lt_of_le h2 (t.lens (by omega) (Nat.le_refl _)))) h
      · rw [t.maker hj hj' h1 h2 h3 h4]; exact hS'
    have mods_e : ∀ j b, j < N → b ∈ M j → clsOf P (opAt ops j) = .e := by
      intro j b hj hb
      cases hc : clsOf P (opAt ops j) with
      | e => rfl
      | _ => rw [(quiet j hj (by rw [hc]; simp)).1] at hb; cases hb
    have hfreeE : ∀ b, (Hh i).blks.length ≤ b → b < (Hh (i + 1)).blks.length → E b = none := by
      intro b h1 h2
      cases hb : E b with
      | none => rfl
      | some l => exact absurd (made b i hiN (by rw [hb]; simp) h1 h2) hiS
    -- a block that nobody in another order modifies is as the text has it
    have cutOf : ∀ b, b < (Hh i).blks.length → E b ≠ none → (∀ j, j < N → j ≠ i → b ∈ M j → (bef ops i j = true ∨ bef ops j i = true)) → Cut N Hh M S b i := by
      intro b hb hE hc
      refine ⟨by omega, fun j hj ht => ?_, fun j h1 h2 ht => ?_⟩
      · rcases ht.2 with hm' | hm'
        · exact (ahead j (by omega) (by omega) (hc j (by omega) (by omega) hm')).2 hj
        · exact made b j (by omega) hE hm' ht.1
      · by_cases hji : j = i
        · subst hji; exact hiS
        · intro hSj
          rcases ht.2 with hm' | hm'
          · have := (ahead j h2 hji (hc j h2 hji hm')).1 hSj; omega
          · have := t.lens (i := i) (j := j) h1 (by omega); omega
    obtain ⟨s1, hs1, hT1, hB1, hM1, _, _⟩ := hst i hiN
    -- the step of the tmps
    have stepT : ∀ (E' : Env) (v v' : Value), Ext E E' → TT (i + 1) = putT (TT i) o.dst v → VR E' v v' → ∀ t0 m, CutT N ops (fun j => S j ∨ j = i) t0 m → VR E' ((TT m).getD t0 undef) ((a.put o.dst v').tmps.getD t0 undef) := by
      intro E' v v' hext hTv hv t0 m hc
      rw [put_eq]
      by_cases hw : o.dst = some t0
      · have him : i < m := by
          rcases Nat.lt_or_ge i m with h | h
          · exact h
          · exact absurd (.inr rfl) (hc.2.2 i h hiN (by rw [hod]; exact hw))
        rw [hTstill t0 (i + 1) m him hc.1 (fun k h1 h2 h3 => ?_), hTv, hw]
        · rcases Nat.lt_or_ge t0 (TT i).size with hlt | hge
          · rw [putT_same hlt, putT_same (by rw [hI.size, ← hTsize i (by omega)]; exact hlt)]; exact hv
          · rw [putT_out hge, putT_out (by rw [hI.size, ← hTsize i (by omega)]; exact hge)]; exact VR.undef
        · have hSk : S k := (hc.2.1 k h2 h3).resolve_right (by omega)
          have hkN : k < N := Nat.lt_of_lt_of_le h2 hc.1
          rcases hpair i k hiN hkN (by omega) with h | ⟨h, _⟩
          · have := (ahead k hkN (by omega) h).1 hSk; omega
          · rw [hod] at h
            exact (Oper.apart_spec h).2.1 t0 hw h3
      · rw [putT_far hw]
        refine (hI.tmps t0 m ⟨hc.1, fun j h1 h2 => ?_, fun j h1 h2 h3 h4 => hc.2.2 j h1 h2 h3 (.inl h4)⟩).mono hext
        rcases hc.2.1 j h1 h2 with h | h
        · exact h
        · subst h; rw [hod] at h2; exact absurd h2 hw
    have hS' : (fun j => (listed.setIfInBounds i true).getD j false = true) = fun j => S j ∨ j = i := by
      funext j
      apply propext
      by_cases hji : i = j
      · subst hji
        have hlt : i < listed.size := by omega
        simp [hlt]
      · rw [getD_set_ne false hji, hS]
        constructor
        · exact .inl
        · rintro (h | h)
          · exact h
          · exact absurd h.symm hji
    have closed' : Closed ops (fun j => S j ∨ j = i) := by
      intro j oj hoj hj e he hb
      rcases hj with hj | rfl
      · exact .inl (hI.closed j oj hoj hj e he hb)
      · rw [ho] at hoj; cases hoj
        exact .inl (hpre' e he hb)
    -- and on
    have go : ∀ (hh hh' : Heap) (E' : Env) (w' : World) (v v' : Value), hh.blks.length = (Hh i).blks.length → hh'.blks.length = (Hh (i + 1)).blks.length →
        (∀ (b : Nat) k, hh.blks[b]? = some k → k.live → (Hh i).blks[b]? = some k ∧ (E b ≠ none → Cut N Hh M S b i)) →
        (∀ b, Touch Hh M i b → hh'.blks[b]? = (Hh (i + 1)).blks[b]?) → (∀ b, ¬ Touch Hh M i b → hh'.blks[b]? = hh.blks[b]?) →
        TT (i + 1) = putT (TT i) o.dst v → Post P base E hh w1 E' hh' w' → VR E' v v' → wpAny P .any ops Q fuel (listed.setIfInBounds i true) (a.put o.dst v') w' := by
      intro hh hh' E' w' v v' H1 H1' H2 H5 H6 hTv hp hv
      refine ih (listed.setIfInBounds i true) E' w' _ (by simpa using hsz) ?_ ?_
      · have := cntU_set (listed := listed) (i := i) (by omega) N
        rw [if_pos ⟨hiN, by rw [hun]; simp⟩] at this
        omega
      · rw [hS']
        have hclsTouch : ∀ b, Touch Hh M i b → clsOf P (opAt ops i) = .e ∨ (clsOf P (opAt ops i) = .a ∧ b = (Hh i).blks.length ∧ Region.wanted (ops.getD i default) (yielded ops (TT i)) = true) := by
          intro b ht
          cases hc : clsOf P (opAt ops i) with
          | e => exact .inl rfl
          | _ =>
            have hq := quiet i hiN (by rw [hc]; simp)
            rcases ht.2 with hm' | hm'
            · rw [hq.1] at hm'; cases hm'
            · have h2 := hq.2 (by have := ht.1; omega)
              rw [hc] at h2
              first
                | exact .inr ⟨rfl, by have := ht.1; omega, h2.2.2⟩
                | (exact absurd h2.1 (by simp))
        refine ⟨InvH.step t hfreeN hI.heaps hiN hiS H1 H1' H2 H5 H6 (fun b j ht hSj hij hjN htj => ?_) (fun b ht hE => ?_) hp, ?_, stepT E' v v' hp.ext hTv hv, (put_defers _ _ _).trans hI.defers, closed'⟩
        · -- nobody behind i that is done touches what i touches
          have ncmp : ¬ (bef ops i j = true ∨ bef ops j i = true) := fun h => by
            have := (ahead j hjN (by omega) h).1 hSj; omega
          rcases htj.2 with hmj | hmj
          · have hje := mods_e j b hjN hmj
            rcases hclsTouch b ht with hc | ⟨hc, hb, hw⟩
            · rcases hpair i j hiN hjN (by omega) with h | ⟨_, h⟩
              · exact ncmp h
              · exact h ⟨hc, hje⟩
            · refine clash i j b hiN hjN (hfl i j .e hiN hjN (by omega) hje ncmp) hw (.inr ⟨hc, hb⟩) hje (.inr (hfl j i .a hjN hiN (by omega) hc (fun h => ncmp h.symm))) hmj
          · have := t.lens (i := i + 1) (j := j) (by omega) (by omega)
            have := ht.1
            omega
        · have hlt : b < (Hh i).blks.length := by
            rcases Nat.lt_or_ge b (Hh i).blks.length with h | h
            · exact h
            · exact absurd (hfreeE b h ht.1) hE
          have hbm : b ∈ M i := by
            rcases ht.2 with h | h
            · exact h
            · omega
          have hie := mods_e i b hiN hbm
          refine cutOf b hlt hE fun j hj hne hbj => ?_
          rcases hpair i j hiN hj (Ne.symm hne) with h | ⟨_, h⟩
          · exact h
          · exact absurd ⟨hie, mods_e j b hj hbj⟩ h
        · rw [put_eq, putT_size]; exact hI.size
    unfold wpOp
    rw [ho]
    simp only
    rw [← hwanted]
    unfold stepAt at hs1
    rw [ho] at hs1
    simp only at hs1
    by_cases hw : Region.wanted o (yielded ops (TT i)) = true
    · rw [if_pos hw] at hs1 ⊢
      obtain ⟨r, hdo, hr2⟩ := Option.map_eq_some_iff.1 hs1
      obtain ⟨v, h1⟩ := r
      subst hr2
      left
      by_cases hcls : clsOf P o.op = .e
      · -- an effect: all that is in use is as the text has it
        have hcutE : ∀ b, b < (Hh i).blks.length → E b ≠ none → Cut N Hh M S b i := fun b hb hE => cutOf b hb hE fun j hj hne hbj => by
          rcases hpair i j hiN hj (Ne.symm hne) with h | ⟨_, h⟩
          · exact h
          · exact absurd ⟨by rw [hopAt]; exact hcls, mods_e j b hj hbj⟩ h
        have hrel : Rel P base E { Hh i with mods := [] } w1 :=
          ⟨fun b k l hk hl => hI.heaps.cur b l i k hl (hcutE b (List.getElem?_eq_some_iff.1 hk).1 (by rw [hl]; simp)) hk, fun b k l hk hl => (hI.heaps.sta b l i k hl (by omega) hk).2.1, fun b k l hk hl => (hI.heaps.sta b l i k hl (by omega) hk).2.2, hI.heaps.bnd,
            fun b b2 k k2 l l2 hk hk2 hl hl2 => hI.heaps.inj b b2 l l2 i i k k2 hl hl2 (hcutE b (List.getElem?_eq_some_iff.1 hk).1 (by rw [hl]; simp)) (hcutE b2 (List.getElem?_eq_some_iff.1 hk2).1 (by rw [hl2]; simp)) hk hk2, hI.heaps.base⟩
        refine UponK.wp (K := fun v' w' => wpAny P .any ops Q fuel (listed.setIfInBounds i true) (a.put o.dst v') w') (fun _ _ h => h) (doOp_ok hev hrel hx (fun b hb hb' => hfreeE b hb (by rw [hB1]; exact hb')) hdo _ fun E' w' v' hp hv => ?_)
        refine go { Hh i with mods := [] } h1 E' w' v v' rfl (by rw [hB1]) (fun b k hk hlv => ⟨hk, fun hE => hcutE b (List.getElem?_eq_some_iff.1 hk).1 hE⟩) (fun b _ => by rw [hB1]) (fun b hn => ?_) hT1 hp hv
        have := t.still hiN hn
        rw [hB1] at this
        exact this
      · -- no effect
        have hq := quiet i hiN (by rw [hopAt]; exact hcls)
        let R : List Nat := if clsOf P o.op = .l then readOf o.op (TT i) else []
        have hRc : ∀ r, r ∈ R → r < (Hh i).blks.length → E r ≠ none → Cut N Hh M S r i := by
          intro r hr hlt hE
          by_cases hl : clsOf P o.op = .l
          · simp only [R, if_pos hl] at hr
            refine cutOf r hlt hE fun j hj hne hbj => ?_
            have hje := mods_e j r hj hbj
            rcases Classical.em (bef ops i j = true ∨ bef ops j i = true) with h | h
            · exact h
            · exact (clash i j r hiN hj (hfl i j .e hiN hj (Ne.symm hne) hje h) (by rw [hod]; exact hw) (.inl ⟨by rw [hopAt]; exact hl, by rw [hopAt]; exact hr⟩) hje (.inl (hfl j i .l hj hiN hne (by rw [hopAt]; exact hl) (fun h' => h h'.symm))) hbj).elim
          · simp only [R, if_neg hl] at hr
            cases hr
        obtain ⟨h1s, hds, hcase⟩ := doOp_star (hs := star R (Hh i)) hcls hdo (star_len R (Hh i)) (fun hl r hr => by
            rw [star_get]
            have : r ∈ R := by simp only [R, if_pos hl]; exact hr
            cases hb : (Hh i).blks[r]? with
            | none => simp [hb]
            | some k => simp [hb, this]) (fun b => star_es R (Hh i) b)
        have hrel := star_rel hI.heaps hiN R hRc
        have hlen' : h1s.blks.length = (Hh (i + 1)).blks.length := by
          rw [hB1]
          rcases hcase with ⟨_, g2, g3⟩ | ⟨_, body, ty, g2, g3, _⟩
          · rw [g2, g3]; exact star_len _ _
          · rw [g2, g3, Heap.new_len, Heap.new_len, star_len]
        refine UponK.wp (K := fun v' w' => wpAny P .any ops Q fuel (listed.setIfInBounds i true) (a.put o.dst v') w') (fun _ _ h => h) (doOp_ok hev hrel hx (fun b hb hb' => hfreeE b (by rw [star_len] at hb; exact hb) (by rw [← hlen']; exact hb')) hds _ fun E' w' v' hp hv => ?_)
        refine go (star R (Hh i)) h1s E' w' v v' (star_len _ _) hlen' (fun b k hk hlv => ?_) (fun b ht => ?_) (fun b hn => ?_) hT1 hp hv
        · rw [star_get] at hk
          obtain ⟨k0, hk0, hk1⟩ := Option.map_eq_some_iff.1 hk
          by_cases hb : b ∈ R
          · rw [if_pos hb] at hk1; subst hk1
            exact ⟨hk0, fun hE => hRc b hb (List.getElem?_eq_some_iff.1 hk0).1 hE⟩
          · rw [if_neg hb] at hk1; subst hk1
            exact absurd hlv (fade_live _)
        · rw [hB1]
          rcases hcase with ⟨_, g2, g3⟩ | ⟨_, body, ty, g2, g3, _⟩
          · exfalso
            rcases ht.2 with hm' | hm'
            · rw [hq.1] at hm'; cases hm'
            · have := ht.1
              rw [hB1, g2] at this
              exact absurd this (by show ¬ b < (Hh i).blks.length; omega)
          · have hbl : b = (Hh i).blks.length := by
              rcases ht.2 with hm' | hm'
              · rw [hq.1] at hm'; cases hm'
              · have := ht.1
                rw [hB1, g2, Heap.new_len] at this
                have : b < (Hh i).blks.length + 1 := this
                omega
            rw [g2, g3]
            unfold Heap.new
            simp only
            rw [List.getElem?_append_right (by rw [star_len]; omega), List.getElem?_append_right (by omega), star_len]
        · rcases hcase with ⟨_, g2, g3⟩ | ⟨_, body, ty, g2, g3, _⟩
          · rw [g3]
          · rw [g3]
            have hbl : b ≠ (Hh i).blks.length := fun e => hn ⟨by rw [hB1, g2, Heap.new_len, e]; exact Nat.lt_succ_self _, .inr (by omega)⟩
            rcases Nat.lt_or_ge b (Hh i).blks.length with h | h
            · exact Heap.new_old (by rw [star_len]; exact h)
            · rw [List.getElem?_eq_none (by rw [Heap.new_len, star_len]; omega), List.getElem?_eq_none (by rw [star_len]; omega)]
    · rw [if_neg hw] at hs1 ⊢
      cases hs1
      have hrel := star_rel hI.heaps hiN [] (fun r hr => by cases hr)
      have hlen' : (Hh (i + 1)).blks.length = (Hh i).blks.length := by rw [hB1]
      refine go (star [] (Hh i)) (star [] (Hh i)) E w1 undef undef (star_len _ _) (by rw [star_len, hlen']) (fun b k hk hlv => ?_) (fun b ht => ?_) (fun b hn => rfl) hT1 (Post.refl hrel) VR.undef
      · rw [star_get] at hk
        obtain ⟨k0, hk0, hk1⟩ := Option.map_eq_some_iff.1 hk
        rw [if_neg (by simp)] at hk1; subst hk1
        exact absurd hlv (fade_live _)
      · exfalso
        rcases ht.2 with hm' | hm'
        · rw [hM1] at hm'; cases hm'
        · have := ht.1; omega
end Go.Am
