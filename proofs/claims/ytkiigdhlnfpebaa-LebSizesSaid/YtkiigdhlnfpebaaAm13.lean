/- The abstract machine: regions that draw their order: the trace, and what is known of it. -/
import Derived.Test.YtkiigdhlnfpebaaAm12
set_option linter.unusedSimpArgs false
set_option linter.unusedVariables false
namespace Go.Am
variable {P : Program} {base : Nat}

/-- the text's run of a region, state by state -/
structure Trace (N : Nat) (Hh : Nat → Heap) (M : Nat → List Nat) : Prop where
  g : ∀ i, i < N → Grow { Hh i with mods := [] } { Hh (i + 1) with mods := M i }
section
variable {N : Nat} {Hh : Nat → Heap} {M : Nat → List Nat}
def Touch (Hh : Nat → Heap) (M : Nat → List Nat) (i b : Nat) : Prop := b < (Hh (i + 1)).blks.length ∧ (b ∈ M i ∨ (Hh i).blks.length ≤ b)
theorem Trace.len (t : Trace N Hh M) {i : Nat} (hi : i < N) : (Hh i).blks.length ≤ (Hh (i + 1)).blks.length := (t.g i hi).len
theorem Trace.lens (t : Trace N Hh M) {i : Nat} : ∀ {j : Nat}, i ≤ j → j ≤ N → (Hh i).blks.length ≤ (Hh j).blks.length
  | 0, h, _ => by have : i = 0 := by omega
                  subst this; exact Nat.le_refl _
  | j + 1, h, hj => by
    rcases Nat.eq_or_lt_of_le h with e | e
    · subst e; exact Nat.le_refl _
    · exact Nat.le_trans (t.lens (j := j) (by omega) (by omega)) (t.len (by omega))
theorem Trace.still (t : Trace N Hh M) {i b : Nat} (hi : i < N) (hn : ¬ Touch Hh M i b) : (Hh (i + 1)).blks[b]? = (Hh i).blks[b]? := by
  obtain ⟨d, hd, h⟩ := (t.g i hi).mods
  simp only [List.append_nil] at hd
  rcases Nat.lt_or_ge b (Hh i).blks.length with hb | hb
  · exact h b hb (fun hm => hn ⟨Nat.lt_of_lt_of_le hb (t.len hi), .inl (by rw [hd]; exact hm)⟩)
  · have : (Hh (i + 1)).blks.length ≤ b := by
      rcases Nat.lt_or_ge b (Hh (i + 1)).blks.length with h2 | h2
      · exact absurd ⟨h2, .inr hb⟩ hn
      · exact h2
    rw [List.getElem?_eq_none (by omega), List.getElem?_eq_none (by omega)]
theorem Trace.stills (t : Trace N Hh M) {b i : Nat} : ∀ {j : Nat}, i ≤ j → j ≤ N → (∀ k, i ≤ k → k < j → ¬ Touch Hh M k b) → (Hh j).blks[b]? = (Hh i).blks[b]?
  | 0, h, _, _ => by have : i = 0 := by omega
                     subst this; rfl
  | j + 1, h, hj, hn => by
    rcases Nat.eq_or_lt_of_le h with e | e
    · subst e; rfl
    · rw [t.still (by omega) (hn j (by omega) (by omega)), t.stills (j := j) (by omega) (by omega) (fun k h1 h2 => hn k h1 (by omega))]
/-- a block later on: its flag, type and kind stay; what is dead stays dead -/
theorem Trace.later (t : Trace N Hh M) {b i : Nat} {k : Blk} (hk : (Hh i).blks[b]? = some k) : ∀ {j : Nat}, i ≤ j → j ≤ N → ∃ k', (Hh j).blks[b]? = some k' ∧ (k'.own = k.own ∧ k'.ty = k.ty ∧ k'.body.kind = k.body.kind) ∧ (k'.live → k.live)
  | 0, h, _ => by have : i = 0 := by omega
                  subst this; exact ⟨k, hk, ⟨rfl, rfl, rfl⟩, id⟩
  | j + 1, h, hj => by
    rcases Nat.eq_or_lt_of_le h with e | e
    · subst e; exact ⟨k, hk, ⟨rfl, rfl, rfl⟩, id⟩
    · obtain ⟨k1, h1, h2, h3⟩ := t.later hk (j := j) (by omega) (by omega)
      obtain ⟨k2, h4, h5, h6⟩ := (t.g j (by omega)).old b k1 h1
      exact ⟨k2, h4, ⟨h5.1.trans h2.1, h5.2.1.trans h2.2.1, h5.2.2.trans h2.2.2⟩, h3 ∘ h6⟩
theorem Trace.same (t : Trace N Hh M) {b i j : Nat} {k k' : Blk} (hi : i ≤ N) (hj : j ≤ N) (hk : (Hh i).blks[b]? = some k) (hk' : (Hh j).blks[b]? = some k') : k'.own = k.own ∧ k'.ty = k.ty ∧ k'.body.kind = k.body.kind := by
  rcases Nat.le_total i j with h | h
  · obtain ⟨k2, h1, h2, _⟩ := t.later hk h hj
    rw [hk'] at h1; cases h1; exact h2
  · obtain ⟨k2, h1, h2, _⟩ := t.later hk' h hi
    rw [hk] at h1; cases h1; exact ⟨h2.1.symm, h2.2.1.symm, h2.2.2.symm⟩

/-- a place in the text's run at which block b is as it is now, when the operations S are done -/
structure Cut (N : Nat) (Hh : Nat → Heap) (M : Nat → List Nat) (S : Nat → Prop) (b m : Nat) : Prop where
  le : m ≤ N
  done : ∀ i, i < m → Touch Hh M i b → S i
  todo : ∀ i, m ≤ i → i < N → Touch Hh M i b → ¬ S i
theorem Cut.eq (t : Trace N Hh M) {S : Nat → Prop} {b m m' : Nat} (h : Cut N Hh M S b m) (h' : Cut N Hh M S b m') : (Hh m').blks[b]? = (Hh m).blks[b]? := by
  have key : ∀ {m m' : Nat}, Cut N Hh M S b m → Cut N Hh M S b m' → m ≤ m' → (Hh m').blks[b]? = (Hh m).blks[b]? := fun h h' hle =>
    t.stills hle h'.le fun k h1 h2 ht => h.todo k h1 (Nat.lt_of_lt_of_le h2 h'.le) ht (h'.done k h2 ht)
  rcases Nat.le_total m m' with hle | hle
  · exact key h h' hle
  · exact (key h' h hle).symm

structure InvH (P : Program) (base : Nat) (N : Nat) (Hh : Nat → Heap) (M : Nat → List Nat) (E0 : Env) (w0 : World) (S : Nat → Prop) (E : Env) (w : World) : Prop where
  ext : Ext E0 E
  dom : ∀ b, E b ≠ none → E0 b ≠ none ∨ ∃ i, i < N ∧ S i ∧ (Hh i).blks.length ≤ b ∧ b < (Hh (i + 1)).blks.length
  cur : ∀ (b : Nat) l m k, E b = some l → Cut N Hh M S b m → (Hh m).blks[b]? = some k → BlkR P E k l w
  sta : ∀ (b : Nat) l m k, E b = some l → m ≤ N → (Hh m).blks[b]? = some k → (k.body.kind ≠ 0 ∨ sizeT P k.ty = some l.es) ∧ (k.own = true → base ≤ l.cb) ∧ (k.own = false → l.cb < base)
  inj : ∀ (b b2 : Nat) l l2 m m2 k k2, E b = some l → E b2 = some l2 → Cut N Hh M S b m → Cut N Hh M S b2 m2 → (Hh m).blks[b]? = some k → (Hh m2).blks[b2]? = some k2 → k.own = true → k2.own = true → k.live → k2.live → l.cb = l2.cb → b = b2
  bnd : ∀ (b : Nat) l, E b = some l → l.cb < w.heap.size
  base : base ≤ w.heap.size
  fr : Fr E0 (Hh 0) w0 w
  orig : ∀ (b : Nat) m k l, E0 b = none → E b = some l → Cut N Hh M S b m → (Hh m).blks[b]? = some k → k.own = true → k.live → w0.heap.size ≤ l.cb ∨ Mine E0 (Hh 0) l.cb

/-- which operation made a block -/
theorem Trace.maker (t : Trace N Hh M) {i j b : Nat} (hi : i < N) (hj : j < N) (h1 : (Hh i).blks.length ≤ b) (h2 : b < (Hh (i + 1)).blks.length) (h3 : (Hh j).blks.length ≤ b) (h4 : b < (Hh (j + 1)).blks.length) : i = j := by
  rcases Nat.lt_trichotomy i j with h | h | h
  · have := t.lens (i := i + 1) (j := j) (by omega) (by omega); omega
  · exact h
  · have := t.lens (i := j + 1) (j := i) (by omega) (by omega); omega

theorem InvH.step (t : Trace N Hh M) {E0 : Env} {w0 : World} (hfree : Free E0 (Hh 0) (Hh N)) {S : Nat → Prop} {E : Env} {w : World} (hI : InvH P base N Hh M E0 w0 S E w) {i : Nat} (hi : i < N) (hiS : ¬ S i)
    {hh hh' : Heap} {E' : Env} {w' : World} (H1 : hh.blks.length = (Hh i).blks.length) (H1' : hh'.blks.length = (Hh (i + 1)).blks.length)
    (H2 : ∀ (b : Nat) k, hh.blks[b]? = some k → k.live → (Hh i).blks[b]? = some k ∧ (E b ≠ none → Cut N Hh M S b i))
    (H5 : ∀ b, Touch Hh M i b → hh'.blks[b]? = (Hh (i + 1)).blks[b]?)
    (H6 : ∀ b, ¬ Touch Hh M i b → hh'.blks[b]? = hh.blks[b]?)
    (H7 : ∀ b j, Touch Hh M i b → S j → i < j → j < N → ¬ Touch Hh M j b)
    (H8 : ∀ b, Touch Hh M i b → E b ≠ none → Cut N Hh M S b i)
    (hp : Post P base E hh w E' hh' w') : InvH P base N Hh M E0 w0 (fun j => S j ∨ j = i) E' w' := by
  -- where b is touched by i, it is now as behind i
  have touched : ∀ b m k, Touch Hh M i b → Cut N Hh M (fun j => S j ∨ j = i) b m → (Hh m).blks[b]? = some k → hh'.blks[b]? = some k := by
    intro b m k ht hc hk
    have hm : i < m := by
      rcases Nat.lt_or_ge i m with h | h
      · exact h
      · exact absurd (.inr rfl) (hc.todo i h hi ht)
    rw [H5 b ht, ← t.stills (i := i + 1) (j := m) hm hc.le (fun j h1 h2 htj => ?_)]
    · exact hk
    · rcases hc.done j h2 htj with h | h
      · exact H7 b j ht h h1 (Nat.lt_of_lt_of_le h2 hc.le) htj
      · omega
  have untouched : ∀ b m, ¬ Touch Hh M i b → Cut N Hh M (fun j => S j ∨ j = i) b m → Cut N Hh M S b m := by
    intro b m ht hc
    refine ⟨hc.le, fun j h1 h2 => ?_, fun j h1 h2 h3 h4 => hc.todo j h1 h2 h3 (.inl h4)⟩
    rcases hc.done j h1 h2 with h | h
    · exact h
    · subst h; exact absurd h2 ht
  -- a new number is of a block that i made
  have fresh : ∀ b, E b = none → E' b ≠ none → Touch Hh M i b := fun b h0 h1 => by
    have := hp.dom b h0 h1
    rw [H1, H1'] at this
    exact ⟨this.2, .inr this.1⟩
  -- an old number: how it stood
  have before : ∀ b l m k, E b = some l → Cut N Hh M (fun j => S j ∨ j = i) b m → (Hh m).blks[b]? = some k → k.own = true → k.live → ∃ m0 k0, Cut N Hh M S b m0 ∧ (Hh m0).blks[b]? = some k0 ∧ k0.own = true ∧ k0.live := by
    intro b l m k hl hc hk ho hv
    by_cases ht : Touch Hh M i b
    · have hci := H8 b ht (by rw [hl]; simp)
      have hlt : b < (Hh i).blks.length := by
        rcases Nat.lt_or_ge b (Hh i).blks.length with h | h
        · exact h
        · have hb := (List.getElem?_eq_some_iff.1 hk).1
          -- it was made by i or later
          exfalso
          have : b < (Hh N).blks.length := Nat.lt_of_lt_of_le hb (t.lens hc.le (Nat.le_refl _))
          rcases hI.dom b (by rw [hl]; simp) with h2 | ⟨j, hj, hjS, h3, h4⟩
          · exact h2 (hfree b (Nat.le_trans (t.lens (Nat.zero_le _) (by omega)) h) this)
          · rcases Nat.lt_or_ge j i with h5 | h5
            · have := t.lens (i := j + 1) (j := i) (by omega) (by omega); omega
            · exact hci.todo j h5 hj ⟨h4, .inr h3⟩ hjS
      have hki : (Hh i).blks[b]? = some (Hh i).blks[b] := List.getElem?_eq_getElem hlt
      have him : i ≤ m := by
        rcases Nat.lt_or_ge i m with h | h
        · omega
        · exact absurd (.inr rfl) (hc.todo i h hi ht)
      obtain ⟨k2, h1, h2, h3⟩ := t.later hki him hc.le
      rw [hk] at h1; cases h1
      exact ⟨i, _, hci, hki, by rw [← h2.1]; exact ho, h3 hv⟩
    · exact ⟨m, k, untouched b m ht hc, hk, ho, hv⟩
  have mineback : ∀ c, Mine E hh c → ∃ (b : Nat) (k : Blk) (l : Loc), (Hh i).blks[b]? = some k ∧ hh.blks[b]? = some k ∧ E b = some l ∧ k.own = true ∧ k.live ∧ l.cb = c ∧ Cut N Hh M S b i := by
    rintro c ⟨b, k, l, hk, hl, ho, hv, hc⟩
    have := H2 b k hk hv
    exact ⟨b, k, l, this.1, hk, hl, ho, hv, hc, this.2 (by rw [hl]; simp)⟩
  have mine0 : ∀ c, c < w0.heap.size → Mine E hh c → Mine E0 (Hh 0) c := by
    intro c hc hm
    obtain ⟨b, k, l, hk, _, hl, ho, hv, rfl, hcut⟩ := mineback c hm
    cases h0 : E0 b with
    | none => exact (hI.orig b i k l h0 hl hcut hk ho hv).resolve_left (by omega)
    | some l0 =>
      have := hI.ext b l0 h0
      rw [hl] at this; cases this
      have hlt : b < (Hh 0).blks.length := by
        rcases Nat.lt_or_ge b (Hh 0).blks.length with h | h
        · exact h
        · have hb := (List.getElem?_eq_some_iff.1 hk).1
          have := hfree b h (Nat.lt_of_lt_of_le hb (t.lens (by omega) (Nat.le_refl _)))
          rw [h0] at this; cases this
      obtain ⟨k2, h1, h2, h3⟩ := t.later (List.getElem?_eq_getElem hlt) (Nat.zero_le i) (by omega)
      rw [hk] at h1; cases h1
      exact ⟨b, _, l, List.getElem?_eq_getElem hlt, h0, by rw [← h2.1]; exact ho, h3 hv, rfl⟩
  refine ⟨hI.ext.trans hp.ext, fun b hb => ?_, fun b l m k hl hc hk => ?_, fun b l m k hl hm hk => ?_, fun b b2 l l2 m m2 k k2 hl hl2 hc hc2 hk hk2 ho ho2 hv hv2 hcb => ?_, hp.rel.bnd, hp.rel.base,
    ⟨hp.fr.os.trans hI.fr.os, hp.fr.tape.trans hI.fr.tape, hp.fr.output.trans hI.fr.output, Nat.le_trans hI.fr.size hp.fr.size, fun c hc hm => ?_⟩, fun b m k l h0 hl hc hk ho hv => ?_⟩
  · -- dom
    cases h0 : E b with
    | none =>
      have := hp.dom b h0 hb
      rw [H1, H1'] at this
      exact .inr ⟨i, hi, .inr rfl, this.1, this.2⟩
    | some l =>
      rcases hI.dom b (by rw [h0]; simp) with h | ⟨j, h1, h2, h3⟩
      · exact .inl h
      · exact .inr ⟨j, h1, .inl h2, h3⟩
  · -- cur
    by_cases ht : Touch Hh M i b
    · exact hp.rel.blk b k l (touched b m k ht hc hk) hl
    · have hc' := untouched b m ht hc
      cases h0 : E b with
      | none => exact absurd (fresh b h0 (by rw [hl]; simp)) ht
      | some l0 =>
        have := hp.ext b l0 h0
        rw [hl] at this; cases this
        have hold := hI.cur b l m k h0 hc' hk
        by_cases hm : Mine E hh l.cb
        · obtain ⟨b1, k1, l1, g1, g2, g3, g4, g5, g6, g7⟩ := mineback _ hm
          by_cases hbb : b1 = b
          · subst hbb
            have e1 := Cut.eq t g7 hc'
            rw [g1, hk] at e1
            simp only [Option.some.injEq] at e1
            subst e1
            exact hp.rel.blk b1 k l (by rw [H6 b1 ht]; exact g2) hl
          · by_cases hkv : k.live
            · cases hko : k.own with
              | true => exact absurd (hI.inj b1 b l1 l i m k1 k g3 h0 g7 hc' g1 hk g4 hko g5 hkv g6) hbb
              | false =>
                have h1 := (hI.sta b l m k h0 hc.le hk).2.2 hko
                have h2 := (hI.sta b1 l1 i k1 g3 (by omega) g1).2.1 g4
                omega
            · exact BlkR.of_dead hkv hold
        · exact hold.congr hp.ext (hp.fr.blk _ (hI.bnd b l h0) hm)
  · -- sta
    cases h0 : E b with
    | some l0 =>
      have := hp.ext b l0 h0
      rw [hl] at this; cases this
      exact hI.sta b l m k h0 hm hk
    | none =>
      have ht := fresh b h0 (by rw [hl]; simp)
      have hd := hp.dom b h0 (by rw [hl]; simp)
      have hk1 : hh'.blks[b]? = some hh'.blks[b] := List.getElem?_eq_getElem hd.2
      have hk2 := hk1
      rw [H5 b ht] at hk2
      have hs := t.same (by omega) hm hk2 hk
      refine ⟨?_, fun ho => hp.rel.low b _ l hk1 hl (by rw [← hs.1]; exact ho), fun ho => hp.rel.ro b _ l hk1 hl (by rw [← hs.1]; exact ho)⟩
      have hb := hp.rel.blk b _ l hk1 hl
      rw [hs.2.1, hs.2.2]
      unfold BlkR at hb
      split at hb
      · exact .inr hb.1
      · rename_i e; left; rw [e]; simp [Body.kind]
      · exact .inr hb
      · rename_i e
        have := (t.g i hi).fresh b _ (by rw [← H1]; exact hd.1) hk2
        rw [e] at this
        exact absurd rfl this
  · -- inj
    have inhh : ∀ b m k, Touch Hh M i b → Cut N Hh M (fun j => S j ∨ j = i) b m → (Hh m).blks[b]? = some k → hh'.blks[b]? = some k := touched
    have oldnew : ∀ b b2 l l2 m m2 k k2, E b = none → E' b = some l → E b2 = some l2 → E' b2 = some l2 → Cut N Hh M (fun j => S j ∨ j = i) b m → Cut N Hh M (fun j => S j ∨ j = i) b2 m2 → (Hh m).blks[b]? = some k → (Hh m2).blks[b2]? = some k2 → k.own = true → k2.own = true → k.live → k2.live → l.cb = l2.cb → b = b2 := by
      intro b b2 l l2 m m2 k k2 h0 hl h02 hl2 hc hc2 hk hk2 ho ho2 hv hv2 hcb
      have ht := fresh b h0 (by rw [hl]; simp)
      have hkh := inhh b m k ht hc hk
      rcases hp.orig b k l h0 hl hkh ho hv with h | h
      · have := hI.bnd b2 l2 h02; omega
      · obtain ⟨b1, k1, l1, g1, g2, g3, g4, g5, g6, g7⟩ := mineback _ h
        obtain ⟨m0, k0, q1, q2, q3, q4⟩ := before b2 l2 m2 k2 h02 hc2 hk2 ho2 hv2
        have e := hI.inj b1 b2 l1 l2 i m0 k1 k0 g3 h02 g7 q1 g1 q2 g4 q3 g5 q4 (by rw [g6, hcb])
        subst e
        by_cases ht2 : Touch Hh M i b1
        · exact hp.rel.inj b b1 k k2 l l2 hkh (inhh b1 m2 k2 ht2 hc2 hk2) hl hl2 ho ho2 hv hv2 hcb
        · exact hp.rel.inj b b1 k k1 l l2 hkh (by rw [H6 b1 ht2]; exact g2) hl hl2 ho g4 hv g5 hcb
    cases h0 : E b with
    | some l0 =>
      have := hp.ext b l0 h0
      rw [hl] at this; cases this
      cases h02 : E b2 with
      | some l02 =>
        have := hp.ext b2 l02 h02
        rw [hl2] at this; cases this
        obtain ⟨m0, k0, q1, q2, q3, q4⟩ := before b l m k h0 hc hk ho hv
        obtain ⟨m1, k1, r1, r2, r3, r4⟩ := before b2 l2 m2 k2 h02 hc2 hk2 ho2 hv2
        exact hI.inj b b2 l l2 m0 m1 k0 k1 h0 h02 q1 r1 q2 r2 q3 r3 q4 r4 hcb
      | none => exact (oldnew b2 b l2 l m2 m k2 k h02 hl2 h0 hl hc2 hc hk2 hk ho2 ho hv2 hv hcb.symm).symm
    | none =>
      cases h02 : E b2 with
      | some l02 =>
        have := hp.ext b2 l02 h02
        rw [hl2] at this; cases this
        exact oldnew b b2 l l2 m m2 k k2 h0 hl h02 hl2 hc hc2 hk hk2 ho ho2 hv hv2 hcb
      | none =>
        have ht := fresh b h0 (by rw [hl]; simp)
        have ht2 := fresh b2 h02 (by rw [hl2]; simp)
        exact hp.rel.inj b b2 k k2 l l2 (inhh b m k ht hc hk) (inhh b2 m2 k2 ht2 hc2 hk2) hl hl2 ho ho2 hv hv2 hcb
  · -- frame
    rw [hp.fr.blk c (Nat.lt_of_lt_of_le hc hI.fr.size) (fun h => hm (mine0 c hc h)), hI.fr.blk c hc hm]
  · -- orig
    cases h1 : E b with
    | none =>
      have ht := fresh b h1 (by rw [hl]; simp)
      rcases hp.orig b k l h1 hl (touched b m k ht hc hk) ho hv with h | h
      · exact .inl (Nat.le_trans hI.fr.size h)
      · rcases Nat.lt_or_ge l.cb w0.heap.size with h2 | h2
        · exact .inr (mine0 _ h2 h)
        · exact .inl h2
    | some l0 =>
      have := hp.ext b l0 h1
      rw [hl] at this; cases this
      obtain ⟨m0, k0, q1, q2, q3, q4⟩ := before b l m k h1 hc hk ho hv
      exact hI.orig b m0 k0 l h0 h1 q1 q2 q3 q4
end
end Go.Am
