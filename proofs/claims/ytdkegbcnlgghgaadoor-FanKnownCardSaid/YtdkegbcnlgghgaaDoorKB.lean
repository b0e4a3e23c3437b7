/- The abstract machine, and that it is sound (parts of one text joined). -/
import Derived.Test.YtdkegbcnlgghgaaDoorKA
import Derived.Below
import Derived.Test.YtdkegbcnlgghgaaDoorChecked
import Derived.Lib.TrailingZeros
import Derived.Laws.Strings
import Derived.ChangeSlices
import Derived.Carry
import Derived.WideShapes
import Derived.Laws.Cover2
import Derived.ChangeReads
import Derived.ChangeOld
import Derived.KernelRfl
set_option linter.all false
set_option linter.unusedSimpArgs false
set_option linter.unusedVariables false
namespace Go.Am
variable {P : Program} [Gl P] {base : Nat}

def beforeStep (acc : Array Nat) (o : Oper) : Nat := o.after.foldl (fun s e => if Region.binds .any e then s ||| 2 ^ e.on ||| acc.getD e.on 0 else s) 0
theorem before_eq (ops : Array Oper) : Region.before ops = ops.toList.foldl (fun acc o => acc.push (beforeStep acc o)) #[] := by
  unfold Region.before
  rw [← Array.foldl_toList]
  rfl
theorem beforeStep_bit {acc : Array Nat} {o : Oper} {j : Nat} (h : (beforeStep acc o).testBit j = true) : ∃ e ∈ o.after, Region.binds .any e = true ∧ (j = e.on ∨ (acc.getD e.on 0).testBit j = true) := by
  unfold beforeStep at h
  rw [← Array.foldl_toList] at h
  have key : ∀ (l : List Edge) (s : Nat), (l.foldl (fun s e => if Region.binds .any e then s ||| 2 ^ e.on ||| acc.getD e.on 0 else s) s).testBit j = true →
      s.testBit j = true ∨ ∃ e ∈ l, Region.binds .any e = true ∧ (j = e.on ∨ (acc.getD e.on 0).testBit j = true) := by
    intro l
    induction l with
    | nil => intro s h; exact .inl h
    | cons e l ih =>
      intro s h
      rw [List.foldl_cons] at h
      rcases ih _ h with h1 | ⟨e', h1, h2⟩
      · by_cases hb : Region.binds .any e = true
        · rw [if_pos hb] at h1
          simp only [Nat.testBit_or, Bool.or_eq_true] at h1
          rcases h1 with (h1 | h1) | h1
          · exact .inl h1
          · refine .inr ⟨e, by simp, hb, .inl ?_⟩
            rw [Nat.testBit_two_pow] at h1
            simp at h1
            exact h1.symm
          · exact .inr ⟨e, by simp, hb, .inr h1⟩
        · rw [if_neg hb] at h1; exact .inl h1
      · exact .inr ⟨e', by simp [h1], h2⟩
  rcases key _ _ h with h1 | ⟨e, h1, h2⟩
  · simp at h1
  · exact ⟨e, by simpa using h1, h2⟩
theorem before_spec (l : List Oper) : ∀ (acc : Array Nat), (l.foldl (fun acc o => acc.push (beforeStep acc o)) acc).size = acc.size + l.length ∧
    (∀ i, i < acc.size → (l.foldl (fun acc o => acc.push (beforeStep acc o)) acc)[i]? = acc[i]?) ∧
    ∀ k o, l[k]? = some o → ∃ acc' : Array Nat, acc'.size = acc.size + k ∧ (∀ i, i < acc'.size → (l.foldl (fun acc o => acc.push (beforeStep acc o)) acc)[i]? = acc'[i]?) ∧
      (l.foldl (fun acc o => acc.push (beforeStep acc o)) acc)[acc.size + k]? = some (beforeStep acc' o) := by
  induction l with
  | nil => intro acc; exact ⟨by simp, fun i _ => rfl, fun k o h => by simp at h⟩
  | cons o l ih =>
    intro acc
    obtain ⟨h1, h2, h3⟩ := ih (acc.push (beforeStep acc o))
    simp only [List.foldl_cons]
    have hpre : ∀ i, i < acc.size → (l.foldl (fun acc o => acc.push (beforeStep acc o)) (acc.push (beforeStep acc o)))[i]? = acc[i]? := fun i hi => by
      rw [h2 i (by simp; omega), Array.getElem?_push, if_neg (by omega)]
    refine ⟨by rw [h1]; simp; omega, hpre, fun k o' hk => ?_⟩
    cases k with
    | zero =>
      simp at hk
      subst hk
      exact ⟨acc, by simp, hpre, by rw [h2 _ (by simp)]; simp⟩
    | succ k =>
      obtain ⟨acc', g1, g2, g3⟩ := h3 k o' (by simpa using hk)
      exact ⟨acc', by rw [g1]; simp; omega, g2, by rw [← g3]; congr 1; simp; omega⟩
def bef (ops : Array Oper) (i j : Nat) : Bool := ((Region.before ops).getD i 0).testBit j
theorem bef_step {ops : Array Oper} (hback : ∀ i o, ops[i]? = some o → ∀ e ∈ o.after, Region.binds .any e = true → e.on < i) {i j : Nat} (h : bef ops i j = true) :
    ∃ o, ops[i]? = some o ∧ ∃ e ∈ o.after, Region.binds .any e = true ∧ e.on < i ∧ (j = e.on ∨ bef ops e.on j = true) := by
  unfold bef at h
  rw [before_eq] at h
  obtain ⟨h1, h2, h3⟩ := before_spec ops.toList #[]
  have hi : i < ops.size := by
    rcases Nat.lt_or_ge i ops.size with h4 | h4
    · exact h4
    · rw [Array.getD_eq_getD_getElem?, Array.getElem?_eq_none (by rw [h1]; simpa using h4)] at h
      simp at h
  obtain ⟨acc', g1, g2, g3⟩ := h3 i ops[i] (by simp [hi])
  simp only [List.size_toArray, List.length_nil, Nat.zero_add] at g1 g3
  rw [Array.getD_eq_getD_getElem?, g3, Option.getD_some] at h
  obtain ⟨e, he, hb, hj⟩ := beforeStep_bit h
  have hlt := hback i ops[i] (by simp [hi]) e he hb
  refine ⟨ops[i], by simp [hi], e, he, hb, hlt, hj.imp id fun hj => ?_⟩
  unfold bef
  rw [before_eq, Array.getD_eq_getD_getElem?, g2 e.on (by rw [g1]; exact hlt), ← Array.getD_eq_getD_getElem?]
  exact hj
theorem bef_lt {ops : Array Oper} (hback : ∀ i o, ops[i]? = some o → ∀ e ∈ o.after, Region.binds .any e = true → e.on < i) : ∀ (i : Nat) {j : Nat}, bef ops i j = true → j < i := by
  intro i
  induction i using Nat.strongRecOn with
  | _ i ih =>
    intro j h
    obtain ⟨o, ho, e, he, hb, hlt, hj⟩ := bef_step hback h
    rcases hj with rfl | hj
    · exact hlt
    · exact Nat.lt_trans (ih e.on hlt hj) hlt
def Closed (ops : Array Oper) (S : Nat → Prop) : Prop := ∀ i o, ops[i]? = some o → S i → ∀ e ∈ o.after, Region.binds .any e = true → S e.on
theorem bef_closed {ops : Array Oper} (hback : ∀ i o, ops[i]? = some o → ∀ e ∈ o.after, Region.binds .any e = true → e.on < i) {S : Nat → Prop} (hS : Closed ops S) : ∀ (i : Nat) {j : Nat}, S i → bef ops i j = true → S j := by
  intro i
  induction i using Nat.strongRecOn with
  | _ i ih =>
    intro j hi h
    obtain ⟨o, ho, e, he, hb, hlt, hj⟩ := bef_step hback h
    have := hS i o ho hi e he hb
    rcases hj with rfl | hj
    · exact this
    · exact ih e.on hlt this hj
theorem bef_ready {ops : Array Oper} (hback : ∀ i o, ops[i]? = some o → ∀ e ∈ o.after, Region.binds .any e = true → e.on < i) {S : Nat → Prop} (hS : Closed ops S) {i : Nat} {o : Oper} (ho : ops[i]? = some o) (hr : ∀ e ∈ o.after, Region.binds .any e = true → S e.on) {j : Nat} (h : bef ops i j = true) : S j := by
  obtain ⟨o', ho', e, he, hb, hlt, hj⟩ := bef_step hback h
  rw [ho] at ho'; cases ho'
  rcases hj with rfl | hj
  · exact hr e he hb
  · exact bef_closed hback hS e.on (hr e he hb) hj

def cntU (listed : Array Bool) : Nat → Nat
  | 0 => 0
  | n + 1 => cntU listed n + (if listed.getD n true = true then 0 else 1)
theorem cntU_zero {listed : Array Bool} : ∀ {n : Nat}, cntU listed n = 0 → ∀ j, j < n → listed.getD j true = true
  | n + 1, h, j, hj => by
    unfold cntU at h
    rcases Nat.lt_or_ge j n with h1 | h1
    · exact cntU_zero (by omega) j h1
    · have : j = n := by omega
      subst this
      by_cases hb : listed.getD j true = true
      · exact hb
      · rw [if_neg hb] at h; omega
theorem cntU_set {listed : Array Bool} {i : Nat} (hi : i < listed.size) : ∀ (n : Nat), cntU (listed.setIfInBounds i true) n + (if i < n ∧ listed.getD i true ≠ true then 1 else 0) = cntU listed n
  | 0 => by simp [cntU]
  | n + 1 => by
    have ih := cntU_set hi n
    unfold cntU
    by_cases hn : n = i
    · subst hn
      have e1 : (listed.setIfInBounds n true).getD n true = true := by simp [hi]
      rw [if_pos e1]
      simp only [Nat.lt_irrefl, false_and, if_false, Nat.add_zero] at ih
      by_cases hb : listed.getD n true = true
      · rw [if_pos hb, if_neg (by simp [hb])]; omega
      · rw [if_neg hb, if_pos ⟨by omega, hb⟩]; omega
    · have e1 : (listed.setIfInBounds i true).getD n true = listed.getD n true := getD_set_ne true (Ne.symm hn)
      rw [e1]
      have e2 : (i < n + 1 ∧ listed.getD i true ≠ true) ↔ (i < n ∧ listed.getD i true ≠ true) := by
        constructor <;> rintro ⟨h1, h2⟩ <;> exact ⟨by omega, h2⟩
      simp only [e2]
      omega
theorem cntU_le (listed : Array Bool) : ∀ n, cntU listed n ≤ n
  | 0 => Nat.le_refl _
  | n + 1 => by unfold cntU; have := cntU_le listed n; split <;> omega

theorem trace_of {ev : Ev} {ops : Array Oper} {B : Array Nat} : ∀ (n i : Nat) {d d' : DSt}, runListD P ev ops B (List.range' i n) d = some d' →
    ∃ tr : Nat → DSt, tr i = d ∧ tr (i + n) = d' ∧ ∀ j, i ≤ j → j < i + n → stepD P ev ops B j (tr j) = some (tr (j + 1))
  | 0, i, d, d', h => by cases h; exact ⟨fun _ => d, rfl, rfl, fun j h1 h2 => by omega⟩
  | n + 1, i, d, d', h => by
    rw [List.range'_succ] at h
    unfold runListD at h
    obtain ⟨d1, h1, h2⟩ := Option.bind_eq_some_iff.1 h
    obtain ⟨tr, g1, g2, g3⟩ := trace_of n (i + 1) h2
    refine ⟨fun j => if j = i then d else tr j, by simp, ?_, fun j h3 h4 => ?_⟩
    · simp only
      rw [if_neg (by omega), show i + (n + 1) = i + 1 + n by omega]; exact g2
    · simp only
      by_cases hj : j = i
      · subst hj
        rw [if_pos rfl, if_neg (by omega), g1]; exact h1
      · rw [if_neg hj, if_neg (by omega)]; exact g3 j (by omega) (by omega)
theorem stepD_inv {ev : Ev} {ops : Array Oper} {B : Array Nat} {i : Nat} {d d' : DSt} (h : stepD P ev ops B i d = some d') : ∃ s', stepAt P ev ops i ⟨d.s.T, { d.s.h with mods := [] }⟩ = some s' ∧ d'.s.T = s'.T ∧ d'.s.h.blks = s'.h.blks ∧
    d'.reads = (if floats P ops B .e i = true ∧ Region.wanted (ops.getD i default) (yielded ops d.s.T) = true then (if clsOf P (opAt ops i) = .l then readOf (opAt ops i) d.s.T else if clsOf P (opAt ops i) = .a then [d.s.h.blks.length] else []) else []) ++ d.reads ∧
    d'.ms = (if clsOf P (opAt ops i) = .e ∧ (floats P ops B .l i = true ∨ floats P ops B .a i = true) then s'.h.mods else []) ++ d.ms := by
  unfold stepD at h
  obtain ⟨s', h1, h2⟩ := Option.map_eq_some_iff.1 h
  subst h2
  exact ⟨s', h1, rfl, rfl, rfl, rfl⟩
end Go.Am
set_option linter.unusedSimpArgs false
set_option linter.unusedVariables false
namespace Go.Am
variable {P : Program} [Gl P] {base : Nat}

def CutT (N : Nat) (ops : Array Oper) (S : Nat → Prop) (t m : Nat) : Prop := m ≤ N ∧ (∀ i, i < m → (ops.getD i default).dst = some t → S i) ∧ (∀ i, m ≤ i → i < N → (ops.getD i default).dst = some t → ¬ S i)
theorem putT_same {T : Array Value} {t : Nat} {v : Value} (h : t < T.size) : (putT T (some t) v).getD t undef = v := by simp [putT, h]
theorem putT_far {T : Array Value} {d : Option Tmp} {t : Nat} {v : Value} (h : d ≠ some t) : (putT T d v).getD t undef = T.getD t undef := by
  cases d with
  | none => rfl
  | some d =>
    have hne : d ≠ t := fun e => h (by rw [e])
    simp [putT, Array.getElem?_setIfInBounds_ne hne]
theorem putT_size {T : Array Value} {d : Option Tmp} {v : Value} : (putT T d v).size = T.size := by cases d <;> simp [putT]
theorem putT_out {T : Array Value} {d : Option Tmp} {t : Nat} {v : Value} (h : T.size ≤ t) : (putT T d v).getD t undef = undef := by
  have : (putT T d v).size ≤ t := by rw [putT_size]; exact h
  simp [Array.getElem?_eq_none this]
theorem put_eq (a : Act) (d : Option Tmp) (v : Value) : (a.put d v).tmps = putT a.tmps d v := by cases d <;> rfl

structure Inv (P : Program) (base : Nat) (N : Nat) (ops : Array Oper) (Hh : Nat → Heap) (TT : Nat → Array Value) (M : Nat → List Nat) (E0 : Env) (w0 : World) (d0 : List Deferred) (S : Nat → Prop) (E : Env) (w : World) (a : Act) : Prop where
  heaps : InvH P base N Hh M E0 w0 S E w
  size : a.tmps.size = (TT 0).size
  tmps : ∀ t m, CutT N ops S t m → VR E ((TT m).getD t undef) (a.tmps.getD t undef)
  defers : a.defers = d0
  closed : Closed ops S

theorem star_rel {N : Nat} {Hh : Nat → Heap} {M : Nat → List Nat} {E0 : Env} {w0 : World} {S : Nat → Prop} {E : Env} {w : World} (hI : InvH P base N Hh M E0 w0 S E w) (hG : GlobW P base w) {i : Nat} (hi : i < N) (R : List Nat) (hRc : ∀ r, r ∈ R → r < (Hh i).blks.length → E r ≠ none → Cut N Hh M S r i) :
    Rel P base E (star R (Hh i)) w := by
  have hg : ∀ b k, (star R (Hh i)).blks[b]? = some k → ∃ k0, (Hh i).blks[b]? = some k0 ∧ ((b ∈ R ∧ k = k0) ∨ (b ∉ R ∧ k = fade k0)) := by
    intro b k hk
    rw [star_get] at hk
    obtain ⟨k0, h1, h2⟩ := Option.map_eq_some_iff.1 hk
    refine ⟨k0, h1, ?_⟩
    by_cases hb : b ∈ R
    · rw [if_pos hb] at h2; exact .inl ⟨hb, h2.symm⟩
    · rw [if_neg hb] at h2; exact .inr ⟨hb, h2.symm⟩
  have hlive : ∀ b k, (star R (Hh i)).blks[b]? = some k → k.live → (Hh i).blks[b]? = some k ∧ b ∈ R := by
    intro b k hk hv
    obtain ⟨k0, h1, h2⟩ := hg b k hk
    rcases h2 with ⟨hb, rfl⟩ | ⟨hb, rfl⟩
    · exact ⟨h1, hb⟩
    · exact absurd hv (fade_live _)
  refine ⟨fun b k l hk hl => ?_, fun b k l hk hl ho => ?_, fun b k l hk hl ho => ?_, hI.bnd, fun b b2 k k2 l l2 hk hk2 hl hl2 ho ho2 hv hv2 hc => ?_, hG, hI.base⟩
  · obtain ⟨k0, h1, h2⟩ := hg b k hk
    rcases h2 with ⟨hb, rfl⟩ | ⟨hb, rfl⟩
    · exact hI.cur b l i k hl (hRc b hb (List.getElem?_eq_some_iff.1 h1).1 (by rw [hl]; simp)) h1
    · have hs := (hI.sta b l i k0 hl (by omega) h1).1
      obtain ⟨body, ty, own⟩ := k0
      cases body with
      | cells cs => exact hs.resolve_left (by simp [Body.kind])
      | dead => exact hs.resolve_left (by simp [Body.kind])
      | map es => exact trivial
      | gone => exact trivial
  · obtain ⟨k0, h1, h2⟩ := hg b k hk
    have hs := (hI.sta b l i k0 hl (by omega) h1).2.1
    rcases h2 with ⟨hb, rfl⟩ | ⟨hb, rfl⟩
    · exact hs ho
    · exact hs ho
  · obtain ⟨k0, h1, h2⟩ := hg b k hk
    have hs := (hI.sta b l i k0 hl (by omega) h1).2.2
    rcases h2 with ⟨hb, rfl⟩ | ⟨hb, rfl⟩
    · exact hs ho
    · exact hs ho
  · obtain ⟨h1, h2⟩ := hlive b k hk hv
    obtain ⟨h3, h4⟩ := hlive b2 k2 hk2 hv2
    exact hI.inj b b2 l l2 i i k k2 hl hl2 (hRc b h2 (List.getElem?_eq_some_iff.1 h1).1 (by rw [hl]; simp)) (hRc b2 h4 (List.getElem?_eq_some_iff.1 h3).1 (by rw [hl2]; simp)) h1 h3 ho ho2 hv hv2 hc

theorem drawn_ok (hm : P.follows .mixedOrders = true) : DrawOk P base := by
  intro ev hg hev id ops s s' E0 w a0 hpl hdr hr hR hT hfree Q hQ
  refine wp_region_any hm ?_
  -- the text's run
  obtain ⟨d, hd, hchk, hs'⟩ : ∃ d, runListD P ev ops (Region.before ops) (List.range ops.size) ⟨s, [], []⟩ = some d ∧ (d.reads.all fun b => !d.ms.contains b) = true ∧ d.s = s' := by
    unfold regionV at hr
    rw [if_pos hpl, if_pos rfl, if_pos hdr] at hr
    split at hr
    · rename_i d hd
      split at hr
      · rename_i hc; cases hr; exact ⟨d, hd, hc, rfl⟩
      · cases hr
    · cases hr
  rw [List.range_eq_range'] at hd
  obtain ⟨tr, tr0, trN, htr⟩ := trace_of ops.size 0 hd
  rw [Nat.zero_add] at trN
  generalize hN : ops.size = N at *
  have htr' : ∀ j, j < N → stepD P ev ops (Region.before ops) j (tr j) = some (tr (j + 1)) := fun j hj => htr j (Nat.zero_le _) (by omega)
  clear htr hd hr
  let Hh : Nat → Heap := fun j => (tr j).s.h
  let TT : Nat → Array Value := fun j => (tr j).s.T
  let M : Nat → List Nat := fun j => match stepAt P ev ops j ⟨TT j, { Hh j with mods := [] }⟩ with | some s' => s'.h.mods | none => []
  have hst : ∀ j, j < N → ∃ s1, stepAt P ev ops j ⟨TT j, { Hh j with mods := [] }⟩ = some s1 ∧ TT (j + 1) = s1.T ∧ (Hh (j + 1)).blks = s1.h.blks ∧ M j = s1.h.mods ∧
      (tr (j + 1)).reads = (if floats P ops (Region.before ops) .e j = true ∧ Region.wanted (ops.getD j default) (yielded ops (TT j)) = true then (if clsOf P (opAt ops j) = .l then readOf (opAt ops j) (TT j) else if clsOf P (opAt ops j) = .a then [(Hh j).blks.length] else []) else []) ++ (tr j).reads ∧
      (tr (j + 1)).ms = (if clsOf P (opAt ops j) = .e ∧ (floats P ops (Region.before ops) .l j = true ∨ floats P ops (Region.before ops) .a j = true) then M j else []) ++ (tr j).ms := by
    intro j hj
    obtain ⟨s1, h1, h2, h3, h4, h5⟩ := stepD_inv (htr' j hj)
    have hM : M j = s1.h.mods := by simp only [M, TT, Hh, h1]
    exact ⟨s1, h1, h2, h3, hM, h4, by rw [hM]; exact h5⟩
  have t : Trace N Hh M := ⟨fun j hj => by
    obtain ⟨s1, h1, h2, h3, h4, _⟩ := hst j hj
    have g := stepAt_grow hg h1
    have : ({ Hh (j + 1) with mods := M j } : Heap) = s1.h := by
      show (⟨(Hh (j + 1)).blks, M j⟩ : Heap) = s1.h
      rw [h3, h4]
    rw [this]; exact g⟩
  -- the static looks
  have hget : ∀ j, j < N → ops[j]? = some (ops.getD j default) := fun j hj => by
    have : j < ops.size := by omega
    simp [this]
  have hback : ∀ i o, ops[i]? = some o → ∀ e ∈ o.after, Region.binds .any e = true → e.on < i := by
    intro i o ho e he hb
    unfold drawOk at hdr
    simp only [Bool.and_eq_true, List.all_eq_true, List.mem_range] at hdr
    have hi : i < ops.size := (Array.getElem?_eq_some_iff.1 ho).1
    have h1 := hdr.1 i hi
    have : ops.getD i default = o := by simp [Array.getD_eq_getD_getElem?, ho]
    rw [this, Array.all_eq_true'] at h1
    have := h1 e he
    simp [hb] at this
    exact this
  have hpair : ∀ i j, i < N → j < N → i ≠ j → (bef ops i j = true ∨ bef ops j i = true) ∨ (Oper.apart ops (ops.getD i default) (ops.getD j default) = true ∧ ¬ (clsOf P (opAt ops i) = .e ∧ clsOf P (opAt ops j) = .e)) := by
    intro i j hi hj hne
    unfold drawOk at hdr
    simp only [Bool.and_eq_true, List.all_eq_true, List.mem_range] at hdr
    have h1 := hdr.2 i (by omega) j (by omega)
    unfold cmpB at h1
    simp only [Bool.or_eq_true, beq_iff_eq, Bool.and_eq_true, Bool.not_eq_true', Bool.and_eq_false_iff, beq_eq_false_iff_ne] at h1
    rcases h1 with (h1 | h1) | h1
    · exact absurd h1 hne
    · exact .inl h1
    · refine .inr ⟨h1.1, fun h2 => ?_⟩
      rcases h1.2 with h3 | h3
      · exact h3 h2.1
      · exact h3 h2.2
  have hfl : ∀ i j c, i < N → j < N → i ≠ j → clsOf P (opAt ops j) = c → ¬ (bef ops i j = true ∨ bef ops j i = true) → floats P ops (Region.before ops) c i = true := by
    intro i j c hi hj hne hc hn
    unfold floats
    rw [List.any_eq_true]
    refine ⟨j, List.mem_range.2 (by omega), ?_⟩
    simp only [Bool.and_eq_true, bne_iff_ne, ne_eq, beq_iff_eq, Bool.not_eq_true']
    refine ⟨⟨hne, hc⟩, ?_⟩
    unfold cmpB
    cases hb : (((Region.before ops).getD i 0).testBit j || ((Region.before ops).getD j 0).testBit i) with
    | false => rfl
    | true => exact absurd (by simpa [bef] using hb) hn
  -- what floating operations read is not what floating effects modify
  have mono : ∀ i j, i ≤ j → j ≤ N → (∀ b, b ∈ (tr i).reads → b ∈ (tr j).reads) ∧ (∀ b, b ∈ (tr i).ms → b ∈ (tr j).ms) := by
    intro i j
    induction j with
    | zero => intro h1 _; have : i = 0 := by omega
              subst this; exact ⟨fun _ h => h, fun _ h => h⟩
    | succ j ih =>
      intro h1 h2
      rcases Nat.eq_or_lt_of_le h1 with e | e
      · subst e; exact ⟨fun _ h => h, fun _ h => h⟩
      · obtain ⟨g1, g2⟩ := ih (by omega) (by omega)
        obtain ⟨s1, _, _, _, _, h3, h4⟩ := hst j (by omega)
        exact ⟨fun b hb => by rw [h3]; exact List.mem_append_right _ (g1 b hb), fun b hb => by rw [h4]; exact List.mem_append_right _ (g2 b hb)⟩
  have clash : ∀ i j b, i < N → j < N → floats P ops (Region.before ops) .e i = true → Region.wanted (ops.getD i default) (yielded ops (TT i)) = true →
      (clsOf P (opAt ops i) = .l ∧ b ∈ readOf (opAt ops i) (TT i) ∨ clsOf P (opAt ops i) = .a ∧ b = (Hh i).blks.length) → clsOf P (opAt ops j) = .e → (floats P ops (Region.before ops) .l j = true ∨ floats P ops (Region.before ops) .a j = true) → b ∈ M j → False := by
    intro i j b hi hj h1 h2 h3 h4 h5 h6
    obtain ⟨_, _, _, _, _, g1, _⟩ := hst i hi
    obtain ⟨_, _, _, _, _, _, g2⟩ := hst j hj
    have r1 : b ∈ (tr (i + 1)).reads := by
      rw [g1, if_pos ⟨h1, h2⟩]
      refine List.mem_append_left _ ?_
      rcases h3 with ⟨h3, h3'⟩ | ⟨h3, rfl⟩
      · rw [if_pos h3]; exact h3'
      · rw [if_neg (by rw [h3]; simp), if_pos h3]; simp
    have r2 : b ∈ (tr (j + 1)).ms := by
      rw [g2, if_pos ⟨h4, h5⟩]
      exact List.mem_append_left _ h6
    have r3 := (mono (i + 1) N (by omega) (Nat.le_refl _)).1 b r1
    have r4 := (mono (j + 1) N (by omega) (Nat.le_refl _)).2 b r2
    rw [trN] at r3 r4
    rw [List.all_eq_true] at hchk
    have := hchk b r3
    simp at this
    exact this r4
  -- an operation that is no effect modifies nothing
  have quiet : ∀ i, i < N → clsOf P (opAt ops i) ≠ .e → M i = [] ∧ ((Hh (i + 1)).blks.length ≠ (Hh i).blks.length → clsOf P (opAt ops i) = .a ∧ (Hh (i + 1)).blks.length = (Hh i).blks.length + 1 ∧ Region.wanted (ops.getD i default) (yielded ops (TT i)) = true) := by
    intro i hi hc
    obtain ⟨s1, h1, h2, h3, h4, _⟩ := hst i hi
    unfold stepAt at h1
    rw [hget i hi] at h1
    simp only at h1
    split at h1
    · rename_i hw
      obtain ⟨r, h5, h6⟩ := Option.map_eq_some_iff.1 h1
      subst h6
      obtain ⟨_, _, hcase⟩ := doOp_star (hs := { Hh i with mods := [] }) hc h5 rfl (fun _ _ _ => rfl) (fun _ => rfl)
      rcases hcase with ⟨g1, g2, _⟩ | ⟨g1, body, ty, g2, _⟩
      · have e1 : r.2 = { Hh i with mods := [] } := g2
        rw [h4, h3]
        simp only [e1]
        exact ⟨trivial, fun h => absurd rfl h⟩
      · have e1 : r.2 = Heap.new { Hh i with mods := [] } body ty := g2
        rw [h4, h3]
        simp only [e1]
        refine ⟨rfl, fun _ => ⟨g1, Heap.new_len _ _ _, hw⟩⟩
    · cases h1
      exact ⟨h4, fun h => absurd (by rw [h3]) h⟩
  have hfreeN : Free E0 (Hh 0) (Hh N) := by
    intro b hb hb'
    refine hfree b ?_ ?_
    · have : Hh 0 = s.h := by simp only [Hh, tr0]
      rw [← this]; exact hb
    · have : Hh N = s'.h := by simp only [Hh, trN, hs']
      rw [← this]; exact hb'
  have hTT : ∀ j, j < N → ∃ v, TT (j + 1) = putT (TT j) (ops.getD j default).dst v := by
    intro j hj
    obtain ⟨s1, h1, h2, _⟩ := hst j hj
    unfold stepAt at h1
    rw [hget j hj] at h1
    simp only at h1
    split at h1
    · obtain ⟨r, _, h6⟩ := Option.map_eq_some_iff.1 h1
      subst h6
      exact ⟨_, h2⟩
    · cases h1
      exact ⟨_, h2⟩
  have hTsize : ∀ j, j ≤ N → (TT j).size = (TT 0).size := by
    intro j
    induction j with
    | zero => intro _; rfl
    | succ j ih =>
      intro hj
      obtain ⟨v, hv⟩ := hTT j (by omega)
      rw [hv, putT_size]; exact ih (by omega)
  have hTstill : ∀ t0 i j, i ≤ j → j ≤ N → (∀ k, i ≤ k → k < j → (ops.getD k default).dst ≠ some t0) → (TT j).getD t0 undef = (TT i).getD t0 undef := by
    intro t0 i j
    induction j with
    | zero => intro h1 _ _; have : i = 0 := by omega
              subst this; rfl
    | succ j ih =>
      intro h1 h2 h3
      rcases Nat.eq_or_lt_of_le h1 with e | e
      · subst e; rfl
      · obtain ⟨v, hv⟩ := hTT j (by omega)
        rw [hv, putT_far (h3 j (by omega) (by omega))]
        exact ih (by omega) (by omega) (fun k h4 h5 => h3 k h4 (by omega))
  have hRz : Rel P base E0 (Hh 0) w := by rw [show Hh 0 = s.h by simp only [Hh, tr0]]; exact hR
  -- the whole
  suffices main : ∀ (fuel : Nat) (listed : Array Bool) (E : Env) (w1 : World) (a : Act), listed.size = N → cntU listed N ≤ fuel → Inv P base N ops Hh TT M E0 w a0.defers (fun j => listed.getD j false = true) E w1 a → wpAny P .any ops Q fuel listed a w1 by
    refine main N (Array.replicate N false) E0 _ a0 (by simp) (cntU_le _ _) ?_
    have hS : ∀ j, ¬ ((Array.replicate N false).getD j false = true) := fun j => by
      by_cases hj : j < N <;> simp [hj]
    have c0 : ∀ b m, Cut N Hh M (fun j => (Array.replicate N false).getD j false = true) b m → (Hh m).blks[b]? = (Hh 0).blks[b]? := fun b m hc =>
      t.stills (Nat.zero_le _) hc.le fun k _ h2 ht => hS k (hc.done k h2 ht)
    have h00 : Hh 0 = s.h := by simp only [Hh, tr0]
    have hR' : Rel P base E0 (Hh 0) w := by rw [h00]; exact hR
    refine ⟨⟨Ext.refl _, fun b hb => .inl hb, fun b l m k hl hc hk => ?_, fun b l m k hl hm' hk => ?_, fun b b2 l l2 m m2 k k2 hl hl2 hc hc2 hk hk2 => ?_, hR.bnd, hR.base, ⟨rfl, rfl, rfl, Nat.le_refl _, fun _ _ _ => rfl, dr_le (Nat.le_succ _)⟩, fun b m k l h0 h1 => by rw [h0] at h1; cases h1⟩, ?_, fun t0 m hc => ?_, rfl, fun j o ho hj => absurd hj (hS j)⟩
    · rw [c0 b m hc] at hk
      exact (hR'.blk b k l hk hl).congr (Ext.refl _) rfl
    · have hlt : b < (Hh 0).blks.length := by
        rcases Nat.lt_or_ge b (Hh 0).blks.length with h | h
        · exact h
        · have hb := (List.getElem?_eq_some_iff.1 hk).1
          have := hfreeN b h (Nat.lt_of_lt_of_le hb (t.lens hm' (Nat.le_refl _)))
          rw [hl] at this; cases this
      have hk0 : (Hh 0).blks[b]? = some (Hh 0).blks[b] := List.getElem?_eq_getElem hlt
      have hs := t.same (Nat.zero_le _) hm' hk0 hk
      refine ⟨?_, fun ho => hR'.low b _ l hk0 hl (by rw [← hs.1]; exact ho), fun ho => hR'.ro b _ l hk0 hl (by rw [← hs.1]; exact ho)⟩
      have hb := hR'.blk b _ l hk0 hl
      rw [hs.2.1, hs.2.2]
      unfold BlkR at hb
      split at hb
      · exact .inr hb.1
      · rename_i e; left; rw [e]; simp [Body.kind]
      · exact .inr hb
      · rename_i e; left; rw [e]; simp [Body.kind]
    · rw [c0 b m hc] at hk
      rw [c0 b2 m2 hc2] at hk2
      exact hR'.inj b b2 k k2 l l2 hk hk2 hl hl2
    · have : TT 0 = s.T := by simp only [TT, tr0]
      rw [this]; exact hT.1.symm
    · rw [hTstill t0 0 m (Nat.zero_le _) hc.1 (fun k _ h2 h3 => hS k (hc.2.1 k h2 h3))]
      have : TT 0 = s.T := by simp only [TT, tr0]
      rw [this]; exact hT.getD t0
  intro fuel
  -- when all are done
  have finish : ∀ (listed : Array Bool) (E : Env) (w1 : World) (a : Act), (∀ j, j < N → listed.getD j false = true) → Inv P base N ops Hh TT M E0 w a0.defers (fun j => listed.getD j false = true) E w1 a → Q .normal a w1 := by
    intro listed E w1 a hall hI
    have hcut : ∀ b, Cut N Hh M (fun j => listed.getD j false = true) b N := fun b => ⟨Nat.le_refl _, fun i hi _ => hall i hi, fun i h1 h2 => by omega⟩
    have hNh : Hh N = s'.h := by simp only [Hh, trN, hs']
    have hNT : TT N = s'.T := by simp only [TT, trN, hs']
    have h00 : Hh 0 = s.h := by simp only [Hh, tr0]
    refine hQ E w1 a ⟨hI.heaps.ext, fun b h0 h1 => ?_, ?_, ?_, fun b k l h0 hl hk ho hv => ?_⟩ ⟨?_, fun i h1 h2 => ?_⟩ hI.defers
    · rcases hI.heaps.dom b h1 with h | ⟨i, hi, _, h3, h4⟩
      · exact absurd h0 h
      · rw [← h00, ← hNh]
        exact ⟨Nat.le_trans (t.lens (Nat.zero_le i) (by omega)) h3, Nat.lt_of_lt_of_le h4 (t.lens (by omega) (Nat.le_refl _))⟩
    · rw [← hNh]
      exact ⟨fun b k l hk hl => hI.heaps.cur b l N k hl (hcut b) hk, fun b k l hk hl => (hI.heaps.sta b l N k hl (Nat.le_refl _) hk).2.1, fun b k l hk hl => (hI.heaps.sta b l N k hl (Nat.le_refl _) hk).2.2, hI.heaps.bnd,
        fun b b2 k k2 l l2 hk hk2 hl hl2 => hI.heaps.inj b b2 l l2 N N k k2 hl hl2 (hcut b) (hcut b2) hk hk2, GlobW.fr hRz hI.heaps.fr, hI.heaps.base⟩
    · rw [← h00]; exact hI.heaps.fr
    · rw [← hNh] at hk
      rw [← h00]
      exact hI.heaps.orig b N k l h0 hl (hcut b) hk ho hv
    · rw [← hNT, hTsize N (Nat.le_refl _), hI.size]
    · have := hI.tmps i N ⟨Nat.le_refl _, fun j hj _ => hall j hj, fun j h1 h2 => by omega⟩
      rw [hNT] at this
      simpa [Array.getD, h1, h2] using this
  have ready_nil : ∀ (listed : Array Bool), listed.size = N → Region.ready .any ops listed = [] → ∀ j, j < N → listed.getD j false = true := by
    intro listed hsz hnil j
    induction j using Nat.strongRecOn with
    | _ j ih =>
      intro hj
      cases hb : listed.getD j false with
      | true => rfl
      | false =>
        exfalso
        have hjt : listed.getD j true = false := by
          have : j < listed.size := by omega
          simpa [this] using hb
        have : j ∈ Region.ready .any ops listed := mem_ready.2 ⟨hjt, _, hget j hj, fun e he heb => by
          have hlt := hback j _ (hget j hj) e he heb
          exact ih e.on hlt (by omega)⟩
        rw [hnil] at this
        cases this
  induction fuel with
  | zero =>
    intro listed E w1 a hsz hcnt hI
    have hall : ∀ j, j < N → listed.getD j false = true := fun j hj => by
      have := cntU_zero (by omega : cntU listed N = 0) j hj
      have hlt : j < listed.size := by omega
      simpa [hlt] using this
    refine ⟨?_, finish listed E w1 a hall hI⟩
    cases hr : Region.ready .any ops listed with
    | nil => rfl
    | cons i r =>
      have hi : i ∈ Region.ready .any ops listed := by rw [hr]; simp
      obtain ⟨h1, o, ho, _⟩ := mem_ready.1 hi
      have hiN : i < N := by have := (Array.getElem?_eq_some_iff.1 ho).1; omega
      have h2 := hall i hiN
      have hlt : i < listed.size := by omega
      simp [hlt] at h1 h2
      rw [h1] at h2; cases h2
  | succ fuel ih =>
    intro listed E w1 a hsz hcnt hI
    refine ⟨fun hnil => finish listed E w1 a (ready_nil listed hsz hnil) hI, fun i hi => ?_⟩
    obtain ⟨hun, o, ho, hpre⟩ := mem_ready.1 hi
    have hiN : i < N := by have := (Array.getElem?_eq_some_iff.1 ho).1; omega
    have hod : ops.getD i default = o := by simp [Array.getD_eq_getD_getElem?, ho]
    have hopAt : opAt ops i = o.op := by unfold opAt; rw [hod]
    generalize hSd : (fun j => listed.getD j false = true) = S at hI
    have hS : ∀ j, S j ↔ listed.getD j false = true := fun j => by rw [← hSd]
    have hiS : ¬ S i := by
      rw [hS]
      have hlt : i < listed.size := by omega
      simp [hlt] at hun ⊢
      exact hun
    have hpre' : ∀ e ∈ o.after, Region.binds .any e = true → S e.on := fun e he hb => (hS _).2 (hpre e he hb)
    -- those in an order with i: done if ahead of it, not done if behind it
    have ahead : ∀ j, j < N → j ≠ i → (bef ops i j = true ∨ bef ops j i = true) → (S j ↔ j < i) := by
      intro j hj hne hb
      constructor
      · intro hSj
        rcases hb with hb | hb
        · exact bef_lt hback i hb
        · exact absurd (bef_closed hback hI.closed j hSj hb) hiS
      · intro hlt
        rcases hb with hb | hb
        · exact bef_ready hback hI.closed ho hpre' hb
        · have := bef_lt hback j hb; omega
    -- the tmps that i looks at
    have hlook : ∀ t0, t0 ∈ o.looksAt ops → VR E ((TT i).getD t0 undef) (a.tmps.getD t0 undef) := by
      intro t0 ht0
      have cmp : ∀ j, j < N → j ≠ i → (ops.getD j default).dst = some t0 → (bef ops i j = true ∨ bef ops j i = true) := by
        intro j hj hne hdst
        rcases hpair i j hiN hj (Ne.symm hne) with h | ⟨h, _⟩
        · exact h
        · rw [hod] at h
          exact absurd ht0 ((Oper.apart_spec h).2.2 t0 hdst)
      refine hI.tmps t0 i ⟨by omega, fun j hj hdst => ?_, fun j h1 h2 hdst => ?_⟩
      · exact (ahead j (by omega) (by omega) (cmp j (by omega) (by omega) hdst)).2 hj
      · by_cases hji : j = i
        · subst hji; exact hiS
        · intro hSj
          have := (ahead j h2 hji (cmp j h2 hji hdst)).1 hSj
          omega
    have hwanted : Region.wanted o (yielded ops (TT i)) = Region.wanted o (yielded ops a.tmps) := by
      unfold Region.wanted
      cases hgd : o.guard with
      | none => rfl
      | some gw =>
        obtain ⟨g, want⟩ := gw
        have : yielded ops (TT i) g = yielded ops a.tmps g := by
          unfold yielded
          cases hdst : (ops[g]?).bind (·.dst) with
          | none => rfl
          | some t0 =>
            simp only [Option.bind_some]
            have hv := hlook t0 (by unfold Oper.looksAt; simp [hgd, hdst])
            have hsz2 : (TT i).size = a.tmps.size := by rw [hTsize i (by omega), hI.size]
            by_cases hlt : t0 < (TT i).size
            · have hlt' : t0 < a.tmps.size := by rw [← hsz2]; exact hlt
              simp [Array.getD, hlt, hlt'] at hv
              simp only [Array.getElem?_eq_getElem hlt, Array.getElem?_eq_getElem hlt']
              generalize (TT i)[t0] = x at hv
              generalize a.tmps[t0] = y at hv
              cases hv <;> rfl
            · have hlt' : ¬ t0 < a.tmps.size := by rw [← hsz2]; exact hlt
              simp [hlt, hlt']
        simp only [this]
    have hx : ∀ x, x ∈ o.op.operands → VR E (evalO (TT i) x) (a.eval x) := by
      intro x hxm
      have hc := plainOk_at hpl ho
      rw [Array.all_eq_true'] at hc
      have hcx := hc x hxm
      cases x with
      | tmp t0 => exact hlook t0 (by unfold Oper.looksAt; exact List.mem_append_left _ (List.mem_filterMap.2 ⟨.tmp t0, by simpa using hxm, rfl⟩))
      | const v => exact VR.of_ground hcx
      | global g => cases hcx
      | func f => exact .func rfl (fun i h => by simp at h) rfl (fun i h => by simp at h)
    -- who made a block that is in use
    have made : ∀ b j, j < N → E b ≠ none → (Hh j).blks.length ≤ b → b < (Hh (j + 1)).blks.length → S j := by
      intro b j hj hb h1 h2
      rcases hI.heaps.dom b hb with h | ⟨j', hj', hS', h3, h4⟩
      · exact absurd (hfreeN b (Nat.le_trans (t.lens (Nat.zero_le _) (by omega)) h1) (Nat.lt_of_lt_of_le h2 (t.lens (by omega) (Nat.le_refl _)))) h
      · rw [t.maker hj hj' h1 h2 h3 h4]; exact hS'
    have mods_e : ∀ j b, j < N → b ∈ M j → clsOf P (opAt ops j) = .e := by
      intro j b hj hb
      cases hc : clsOf P (opAt ops j) with
      | e => rfl
      | _ => rw [(quiet j hj (by rw [hc]; simp)).1] at hb; cases hb
    have hfreeE : ∀ b, (Hh i).blks.length ≤ b → b < (Hh (i + 1)).blks.length → E b = none := by
      intro b h1 h2
      cases hb : E b with
      | none => rfl
      | some l => exact absurd (made b i hiN (by rw [hb]; simp) h1 h2) hiS
    -- a block that nobody in another order modifies is as the text has it
    have cutOf : ∀ b, b < (Hh i).blks.length → E b ≠ none → (∀ j, j < N → j ≠ i → b ∈ M j → (bef ops i j = true ∨ bef ops j i = true)) → Cut N Hh M S b i := by
      intro b hb hE hc
      refine ⟨by omega, fun j hj ht => ?_, fun j h1 h2 ht => ?_⟩
      · rcases ht.2 with hm' | hm'
        · exact (ahead j (by omega) (by omega) (hc j (by omega) (by omega) hm')).2 hj
        · exact made b j (by omega) hE hm' ht.1
      · by_cases hji : j = i
        · subst hji; exact hiS
        · intro hSj
          rcases ht.2 with hm' | hm'
          · have := (ahead j h2 hji (hc j h2 hji hm')).1 hSj; omega
          · have := t.lens (i := i) (j := j) h1 (by omega); omega
    obtain ⟨s1, hs1, hT1, hB1, hM1, _, _⟩ := hst i hiN
    -- the step of the tmps
    have stepT : ∀ (E' : Env) (v v' : Value), Ext E E' → TT (i + 1) = putT (TT i) o.dst v → VR E' v v' → ∀ t0 m, CutT N ops (fun j => S j ∨ j = i) t0 m → VR E' ((TT m).getD t0 undef) ((a.put o.dst v').tmps.getD t0 undef) := by
      intro E' v v' hext hTv hv t0 m hc
      rw [put_eq]
      by_cases hw : o.dst = some t0
      · have him : i < m := by
          rcases Nat.lt_or_ge i m with h | h
          · exact h
          · exact absurd (.inr rfl) (hc.2.2 i h hiN (by rw [hod]; exact hw))
        rw [hTstill t0 (i + 1) m him hc.1 (fun k h1 h2 h3 => ?_), hTv, hw]
        · rcases Nat.lt_or_ge t0 (TT i).size with hlt | hge
          · rw [putT_same hlt, putT_same (by rw [hI.size, ← hTsize i (by omega)]; exact hlt)]; exact hv
          · rw [putT_out hge, putT_out (by rw [hI.size, ← hTsize i (by omega)]; exact hge)]; exact VR.undef
        · have hSk : S k := (hc.2.1 k h2 h3).resolve_right (by omega)
          have hkN : k < N := Nat.lt_of_lt_of_le h2 hc.1
          rcases hpair i k hiN hkN (by omega) with h | ⟨h, _⟩
          · have := (ahead k hkN (by omega) h).1 hSk; omega
          · rw [hod] at h
            exact (Oper.apart_spec h).2.1 t0 hw h3
      · rw [putT_far hw]
        refine (hI.tmps t0 m ⟨hc.1, fun j h1 h2 => ?_, fun j h1 h2 h3 h4 => hc.2.2 j h1 h2 h3 (.inl h4)⟩).mono hext
        rcases hc.2.1 j h1 h2 with h | h
        · exact h
        · subst h; rw [hod] at h2; exact absurd h2 hw
    have hS' : (fun j => (listed.setIfInBounds i true).getD j false = true) = fun j => S j ∨ j = i := by
      funext j
      apply propext
      by_cases hji : i = j
      · subst hji
        have hlt : i < listed.size := by omega
        simp [hlt]
      · rw [getD_set_ne false hji, hS]
        constructor
        · exact .inl
        · rintro (h | h)
          · exact h
          · exact absurd h.symm hji
    have closed' : Closed ops (fun j => S j ∨ j = i) := by
      intro j oj hoj hj e he hb
      rcases hj with hj | rfl
      · exact .inl (hI.closed j oj hoj hj e he hb)
      · rw [ho] at hoj; cases hoj
        exact .inl (hpre' e he hb)
    -- and on
    have go : ∀ (hh hh' : Heap) (E' : Env) (w' : World) (v v' : Value), hh.blks.length = (Hh i).blks.length → hh'.blks.length = (Hh (i + 1)).blks.length →
        (∀ (b : Nat) k, hh.blks[b]? = some k → k.live → (Hh i).blks[b]? = some k ∧ (E b ≠ none → Cut N Hh M S b i)) →
        (∀ b, Touch Hh M i b → hh'.blks[b]? = (Hh (i + 1)).blks[b]?) → (∀ b, ¬ Touch Hh M i b → hh'.blks[b]? = hh.blks[b]?) →
        TT (i + 1) = putT (TT i) o.dst v → Post P base E hh w1 E' hh' w' → VR E' v v' → wpAny P .any ops Q fuel (listed.setIfInBounds i true) (a.put o.dst v') w' := by
      intro hh hh' E' w' v v' H1 H1' H2 H5 H6 hTv hp hv
      refine ih (listed.setIfInBounds i true) E' w' _ (by simpa using hsz) ?_ ?_
      · have := cntU_set (listed := listed) (i := i) (by omega) N
        rw [if_pos ⟨hiN, by rw [hun]; simp⟩] at this
        omega
      · rw [hS']
        have hclsTouch : ∀ b, Touch Hh M i b → clsOf P (opAt ops i) = .e ∨ (clsOf P (opAt ops i) = .a ∧ b = (Hh i).blks.length ∧ Region.wanted (ops.getD i default) (yielded ops (TT i)) = true) := by
          intro b ht
          cases hc : clsOf P (opAt ops i) with
          | e => exact .inl rfl
          | _ =>
            have hq := quiet i hiN (by rw [hc]; simp)
            rcases ht.2 with hm' | hm'
            · rw [hq.1] at hm'; cases hm'
            · have h2 := hq.2 (by have := ht.1; omega)
              rw [hc] at h2
              first
                | exact .inr ⟨rfl, by have := ht.1; omega, h2.2.2⟩
                | (exact absurd h2.1 (by simp))
        refine ⟨InvH.step t hfreeN hI.heaps hiN hiS H1 H1' H2 H5 H6 (fun b j ht hSj hij hjN htj => ?_) (fun b ht hE => ?_) hp, ?_, stepT E' v v' hp.ext hTv hv, (put_defers _ _ _).trans hI.defers, closed'⟩
        · -- nobody behind i that is done touches what i touches
          have ncmp : ¬ (bef ops i j = true ∨ bef ops j i = true) := fun h => by
            have := (ahead j hjN (by omega) h).1 hSj; omega
          rcases htj.2 with hmj | hmj
          · have hje := mods_e j b hjN hmj
            rcases hclsTouch b ht with hc | ⟨hc, hb, hw⟩
            · rcases hpair i j hiN hjN (by omega) with h | ⟨_, h⟩
              · exact ncmp h
              · exact h ⟨hc, hje⟩
            · refine clash i j b hiN hjN (hfl i j .e hiN hjN (by omega) hje ncmp) hw (.inr ⟨hc, hb⟩) hje (.inr (hfl j i .a hjN hiN (by omega) hc (fun h => ncmp h.symm))) hmj
          · have := t.lens (i := i + 1) (j := j) (by omega) (by omega)
            have := ht.1
            omega
        · have hlt : b < (Hh i).blks.length := by
            rcases Nat.lt_or_ge b (Hh i).blks.length with h | h
            · exact h
            · exact absurd (hfreeE b h ht.1) hE
          have hbm : b ∈ M i := by
            rcases ht.2 with h | h
            · exact h
            · omega
          have hie := mods_e i b hiN hbm
          refine cutOf b hlt hE fun j hj hne hbj => ?_
          rcases hpair i j hiN hj (Ne.symm hne) with h | ⟨_, h⟩
          · exact h
          · exact absurd ⟨hie, mods_e j b hj hbj⟩ h
        · rw [put_eq, putT_size]; exact hI.size
    unfold wpOp
    rw [ho]
    simp only
    rw [← hwanted]
    unfold stepAt at hs1
    rw [ho] at hs1
    simp only at hs1
    by_cases hw : Region.wanted o (yielded ops (TT i)) = true
    · rw [if_pos hw] at hs1 ⊢
      obtain ⟨r, hdo, hr2⟩ := Option.map_eq_some_iff.1 hs1
      obtain ⟨v, h1⟩ := r
      subst hr2
      left
      by_cases hcls : clsOf P o.op = .e
      · -- an effect: all that is in use is as the text has it
        have hcutE : ∀ b, b < (Hh i).blks.length → E b ≠ none → Cut N Hh M S b i := fun b hb hE => cutOf b hb hE fun j hj hne hbj => by
          rcases hpair i j hiN hj (Ne.symm hne) with h | ⟨_, h⟩
          · exact h
          · exact absurd ⟨by rw [hopAt]; exact hcls, mods_e j b hj hbj⟩ h
        have hrel : Rel P base E { Hh i with mods := [] } w1 :=
          ⟨fun b k l hk hl => hI.heaps.cur b l i k hl (hcutE b (List.getElem?_eq_some_iff.1 hk).1 (by rw [hl]; simp)) hk, fun b k l hk hl => (hI.heaps.sta b l i k hl (by omega) hk).2.1, fun b k l hk hl => (hI.heaps.sta b l i k hl (by omega) hk).2.2, hI.heaps.bnd,
            fun b b2 k k2 l l2 hk hk2 hl hl2 => hI.heaps.inj b b2 l l2 i i k k2 hl hl2 (hcutE b (List.getElem?_eq_some_iff.1 hk).1 (by rw [hl]; simp)) (hcutE b2 (List.getElem?_eq_some_iff.1 hk2).1 (by rw [hl2]; simp)) hk hk2, GlobW.fr hRz hI.heaps.fr, hI.heaps.base⟩
        refine UponK.wp (K := fun v' w' => wpAny P .any ops Q fuel (listed.setIfInBounds i true) (a.put o.dst v') w') (fun _ _ h => h) (doOp_ok hev hrel hx (fun b hb hb' => hfreeE b hb (by rw [hB1]; exact hb')) hdo _ fun E' w' v' hp hv => ?_)
        refine go { Hh i with mods := [] } h1 E' w' v v' rfl (by rw [hB1]) (fun b k hk hlv => ⟨hk, fun hE => hcutE b (List.getElem?_eq_some_iff.1 hk).1 hE⟩) (fun b _ => by rw [hB1]) (fun b hn => ?_) hT1 hp hv
        have := t.still hiN hn
        rw [hB1] at this
        exact this
      · -- no effect
        have hq := quiet i hiN (by rw [hopAt]; exact hcls)
        let R : List Nat := if clsOf P o.op = .l then readOf o.op (TT i) else []
        have hRc : ∀ r, r ∈ R → r < (Hh i).blks.length → E r ≠ none → Cut N Hh M S r i := by
          intro r hr hlt hE
          by_cases hl : clsOf P o.op = .l
          · simp only [R, if_pos hl] at hr
            refine cutOf r hlt hE fun j hj hne hbj => ?_
            have hje := mods_e j r hj hbj
            rcases Classical.em (bef ops i j = true ∨ bef ops j i = true) with h | h
            · exact h
            · exact (clash i j r hiN hj (hfl i j .e hiN hj (Ne.symm hne) hje h) (by rw [hod]; exact hw) (.inl ⟨by rw [hopAt]; exact hl, by rw [hopAt]; exact hr⟩) hje (.inl (hfl j i .l hj hiN hne (by rw [hopAt]; exact hl) (fun h' => h h'.symm))) hbj).elim
          · simp only [R, if_neg hl] at hr
            cases hr
        obtain ⟨h1s, hds, hcase⟩ := doOp_star (hs := star R (Hh i)) hcls hdo (star_len R (Hh i)) (fun hl r hr => by
            rw [star_get]
            have : r ∈ R := by simp only [R, if_pos hl]; exact hr
            cases hb : (Hh i).blks[r]? with
            | none => simp [hb]
            | some k => simp [hb, this]) (fun b => star_es R (Hh i) b)
        have hrel := star_rel hI.heaps (GlobW.fr hRz hI.heaps.fr) hiN R hRc
        have hlen' : h1s.blks.length = (Hh (i + 1)).blks.length := by
          rw [hB1]
          rcases hcase with ⟨_, g2, g3⟩ | ⟨_, body, ty, g2, g3, _⟩
          · rw [g2, g3]; exact star_len _ _
          · rw [g2, g3, Heap.new_len, Heap.new_len, star_len]
        refine UponK.wp (K := fun v' w' => wpAny P .any ops Q fuel (listed.setIfInBounds i true) (a.put o.dst v') w') (fun _ _ h => h) (doOp_ok hev hrel hx (fun b hb hb' => hfreeE b (by rw [star_len] at hb; exact hb) (by rw [← hlen']; exact hb')) hds _ fun E' w' v' hp hv => ?_)
        refine go (star R (Hh i)) h1s E' w' v v' (star_len _ _) hlen' (fun b k hk hlv => ?_) (fun b ht => ?_) (fun b hn => ?_) hT1 hp hv
        · rw [star_get] at hk
          obtain ⟨k0, hk0, hk1⟩ := Option.map_eq_some_iff.1 hk
          by_cases hb : b ∈ R
          · rw [if_pos hb] at hk1; subst hk1
            exact ⟨hk0, fun hE => hRc b hb (List.getElem?_eq_some_iff.1 hk0).1 hE⟩
          · rw [if_neg hb] at hk1; subst hk1
            exact absurd hlv (fade_live _)
        · rw [hB1]
          rcases hcase with ⟨_, g2, g3⟩ | ⟨_, body, ty, g2, g3, _⟩
          · exfalso
            rcases ht.2 with hm' | hm'
            · rw [hq.1] at hm'; cases hm'
            · have := ht.1
              rw [hB1, g2] at this
              exact absurd this (by show ¬ b < (Hh i).blks.length; omega)
          · have hbl : b = (Hh i).blks.length := by
              rcases ht.2 with hm' | hm'
              · rw [hq.1] at hm'; cases hm'
              · have := ht.1
                rw [hB1, g2, Heap.new_len] at this
                have : b < (Hh i).blks.length + 1 := this
                omega
            rw [g2, g3]
            unfold Heap.new
            simp only
            rw [List.getElem?_append_right (by rw [star_len]; omega), List.getElem?_append_right (by omega), star_len]
        · rcases hcase with ⟨_, g2, g3⟩ | ⟨_, body, ty, g2, g3, _⟩
          · rw [g3]
          · rw [g3]
            have hbl : b ≠ (Hh i).blks.length := fun e => hn ⟨by rw [hB1, g2, Heap.new_len, e]; exact Nat.lt_succ_self _, .inr (by omega)⟩
            rcases Nat.lt_or_ge b (Hh i).blks.length with h | h
            · exact Heap.new_old (by rw [star_len]; exact h)
            · rw [List.getElem?_eq_none (by rw [Heap.new_len, star_len]; omega), List.getElem?_eq_none (by rw [star_len]; omega)]
    · rw [if_neg hw] at hs1 ⊢
      cases hs1
      have hrel := star_rel hI.heaps (GlobW.fr hRz hI.heaps.fr) hiN [] (fun r hr => by cases hr)
      have hlen' : (Hh (i + 1)).blks.length = (Hh i).blks.length := by rw [hB1]
      refine go (star [] (Hh i)) (star [] (Hh i)) E w1 undef undef (star_len _ _) (by rw [star_len, hlen']) (fun b k hk hlv => ?_) (fun b ht => ?_) (fun b hn => rfl) hT1 (Post.refl hrel) VR.undef
      · rw [star_get] at hk
        obtain ⟨k0, hk0, hk1⟩ := Option.map_eq_some_iff.1 hk
        rw [if_neg (by simp)] at hk1; subst hk1
        exact absurd hlv (fade_live _)
      · exfalso
        rcases ht.2 with hm' | hm'
        · rw [hM1] at hm'; cases hm'
        · have := ht.1; omega
end Go.Am
set_option linter.unusedSimpArgs false
set_option linter.unusedVariables false
namespace Go.Am
variable {P : Program} {base : Nat}

def EvLe (e e' : Ev) : Prop := ∀ f args h r, e f args h = some r → e' f args h = some r
def RunLe (f g : Run) : Prop := ∀ s r, f s = some r → g s = some r
def LpLe (l l' : Run → Run) : Prop := ∀ f g, RunLe f g → RunLe (l f) (l' g)

theorem callV_mono {e e' : Ev} (he : EvLe e e') {f : Value} {args : Array Value} {h : Heap} {r : Value × Heap} (hd : callV P e f args h = some r) : callV P e' f args h = some r := by
  unfold callV at hd ⊢
  split at hd
  · split at hd
    · split at hd
      · cases hd
      · split at hd
        · rename_i h1 h2 h3 h4
          rw [if_neg h3, if_pos h4]; exact hd
        · rename_i h1 h2 h3 h4
          rw [if_neg h3, if_neg h4]; exact he _ _ _ _ hd
    · cases hd
  · cases hd
theorem doOp_mono {e e' : Ev} (he : EvLe e e') {o : Oper} {T : Array Value} {h : Heap} {r : Value × Heap} (hd : doOp P e o T h = some r) : doOp P e' o T h = some r := by
  unfold doOp at hd ⊢
  simp only at hd ⊢
  split at hd
  all_goals first
    | exact hd
    | (split at hd
       · exact hd
       · exact callV_mono he hd
       · unfold invokeV at hd ⊢
         split at hd
         · obtain ⟨f, h1, h2⟩ := Option.bind_eq_some_iff.1 hd
           rw [h1]; exact callV_mono he h2
         · cases hd)
theorem stepAt_mono {e e' : Ev} (he : EvLe e e') {ops : Array Oper} {i : Nat} {s s' : St} (hs : stepAt P e ops i s = some s') : stepAt P e' ops i s = some s' := by
  unfold stepAt at hs ⊢
  split at hs
  · exact hs
  · split at hs
    · rename_i hw
      rw [if_pos hw]
      obtain ⟨r, h1, h2⟩ := Option.map_eq_some_iff.1 hs
      rw [doOp_mono he h1]; simp [h2]
    · rename_i hw
      rw [if_neg hw]; exact hs
theorem runList_mono {e e' : Ev} (he : EvLe e e') {ops : Array Oper} : ∀ (l : List Nat) {s s' : St}, runList P e ops l s = some s' → runList P e' ops l s = some s'
  | [], _, _, h => h
  | i :: l, s, s', h => by
    unfold runList at h ⊢
    obtain ⟨s1, h1, h2⟩ := Option.bind_eq_some_iff.1 h
    rw [stepAt_mono he h1]; exact runList_mono he l h2
theorem stepD_mono {e e' : Ev} (he : EvLe e e') {ops : Array Oper} {B : Array Nat} {i : Nat} {d d' : DSt} (h : stepD P e ops B i d = some d') : stepD P e' ops B i d = some d' := by
  unfold stepD at h ⊢
  obtain ⟨s1, h1, h2⟩ := Option.map_eq_some_iff.1 h
  rw [stepAt_mono he h1]; simp only [Option.map_some, h2]
theorem runListD_mono {e e' : Ev} (he : EvLe e e') {ops : Array Oper} {B : Array Nat} : ∀ (l : List Nat) {d d' : DSt}, runListD P e ops B l d = some d' → runListD P e' ops B l d = some d'
  | [], _, _, h => h
  | i :: l, s, s', h => by
    unfold runListD at h ⊢
    obtain ⟨s1, h1, h2⟩ := Option.bind_eq_some_iff.1 h
    rw [stepD_mono he h1]; exact runListD_mono he l h2
theorem regionV_mono {e e' : Ev} (he : EvLe e e') {ops : Array Oper} {draw : Bool} {s s' : St} (h : regionV P e ops draw s = some s') : regionV P e' ops draw s = some s' := by
  unfold regionV at h ⊢
  split at h
  · rename_i h1
    rw [if_pos h1]
    split at h
    · rename_i h2
      rw [if_pos h2]
      split at h
      · rename_i h3
        rw [if_pos h3]
        split at h
        · rename_i d hd
          rw [runListD_mono he _ hd]; exact h
        · cases h
      · cases h
    · rename_i h2
      rw [if_neg h2]; exact runList_mono he _ h
  · cases h
theorem runCode_mono {e e' : Ev} (he : EvLe e e') {lp lp' : Run → Run} (hl : LpLe lp lp') : ∀ (c : Code), RunLe (runCode P e lp c) (runCode P e' lp' c) := by
  intro c
  induction c with
  | skip => intro s r h; exact h
  | label l => intro s r h; exact h
  | ret => intro s r h; exact h
  | exit id => intro s r h; exact h
  | region id ops draw =>
    intro s r h
    unfold runCode at h ⊢
    obtain ⟨s1, h1, h2⟩ := Option.map_eq_some_iff.1 h
    rw [regionV_mono he h1]; simp [h2]
  | seq x y ihx ihy =>
    intro s r h
    unfold runCode at h ⊢
    obtain ⟨r1, h1, h2⟩ := Option.bind_eq_some_iff.1 h
    rw [ihx _ _ h1]
    obtain ⟨e1, s1⟩ := r1
    cases e1 with
    | normal => exact ihy _ _ h2
    | ret => exact h2
    | exit id => exact h2
  | cond c x y ihx ihy =>
    intro s r h
    unfold runCode at h ⊢
    split at h
    · rename_i hc
      rw [if_pos hc]
      split at h
      · exact ihx _ _ h
      · exact ihy _ _ h
      · cases h
    · cases h
  | block id c ih =>
    intro s r h
    unfold runCode at h ⊢
    obtain ⟨r1, h1, h2⟩ := Option.map_eq_some_iff.1 h
    rw [ih _ _ h1]; simp [h2]
  | loop c ih =>
    intro s r h
    unfold runCode at h ⊢
    exact hl _ _ ih s r h
  | _ => intro s r h; cases h
theorem loopN_mono : ∀ (k : Nat), LpLe (loopN k) (loopN k)
  | 0, f, g, h, s, r, hs => by cases hs
  | k + 1, f, g, h, s, r, hs => by
    unfold loopN at hs ⊢
    obtain ⟨r1, h1, h2⟩ := Option.bind_eq_some_iff.1 hs
    rw [h _ _ h1]
    obtain ⟨e1, s1⟩ := r1
    cases e1 with
    | normal => exact loopN_mono k f g h _ _ h2
    | ret => exact h2
    | exit id => exact h2
theorem loopN_up : ∀ (k : Nat), LpLe (loopN k) (loopN (k + 1))
  | 0, f, g, h, s, r, hs => by cases hs
  | k + 1, f, g, h, s, r, hs => by
    change (f s).bind (fun r => match r.1 with | .normal => loopN k f r.2 | e => some (e, r.2)) = some r at hs
    change (g s).bind (fun r => match r.1 with | .normal => loopN (k + 1) g r.2 | e => some (e, r.2)) = some r
    obtain ⟨r1, h1, h2⟩ := Option.bind_eq_some_iff.1 hs
    rw [h _ _ h1]
    obtain ⟨e1, s1⟩ := r1
    cases e1 with
    | normal => exact loopN_up k f g h _ _ h2
    | ret => exact h2
    | exit id => exact h2
theorem callBody_mono {e e' : Ev} (he : EvLe e e') {lp lp' : Run → Run} (hl : LpLe lp lp') : EvLe (callBody P e lp) (callBody P e' lp') := by
  intro f args h r hr
  unfold callBody at hr ⊢
  split at hr
  · split at hr
    · split at hr
      · rename_i s1 h1; rw [runCode_mono he hl _ _ _ h1]; exact hr
      · rename_i s1 h1; rw [runCode_mono he hl _ _ _ h1]; exact hr
      · cases hr
    · cases hr
  · cases hr
variable [Xt P]
theorem evalN_up : ∀ k, EvLe (evalN P k) (evalN P (k + 1))
  | 0 => fun f args h r hr => by
    unfold evalN at hr ⊢
    split at hr
    · exact hr
    · cases hr
  | k + 1 => fun f args h r hr => by
    unfold evalN at hr ⊢
    split at hr
    · exact hr
    · exact callBody_mono (evalN_up k) (loopN_up k) f args h r hr
theorem evalN_le {k k' : Nat} (h : k ≤ k') : EvLe (evalN P k) (evalN P k') := by
  induction h with
  | refl => exact fun _ _ _ _ h => h
  | step _ ih => exact fun f a h r hr => evalN_up _ _ _ _ _ (ih f a h r hr)
theorem RunLe.refl (f : Run) : RunLe f f := fun _ _ h => h
theorem loopN_le {k k' : Nat} (h : k ≤ k') : LpLe (loopN k) (loopN k') := by
  induction h with
  | refl => exact loopN_mono k
  | step _ ih => exact fun f g hfg s r hr => loopN_up _ g g (RunLe.refl g) s r (ih f g hfg s r hr)

noncomputable def evC (P : Program) [Xt P] : Ev := fun f args h => open Classical in if hx : ∃ r k, evalN P k f args h = some r then some hx.choose else none
noncomputable def loopL : (Run → Run) := fun f s => open Classical in if hx : ∃ r k, loopN k f s = some r then some hx.choose else none
theorem evC_iff {f : FuncId} {args : Array Value} {h : Heap} {r : Value × Heap} : evC P f args h = some r ↔ ∃ k, evalN P k f args h = some r := by
  unfold evC
  constructor
  · intro hr
    split at hr
    · rename_i hx
      simp only [Option.some.injEq] at hr
      rw [← hr]; exact hx.choose_spec
    · cases hr
  · rintro ⟨k, hk⟩
    have hx : ∃ r k, evalN P k f args h = some r := ⟨r, k, hk⟩
    rw [dif_pos hx]
    obtain ⟨k', hk'⟩ := hx.choose_spec
    have h1 := evalN_le (Nat.le_max_left k k') _ _ _ _ hk
    have h2 := evalN_le (Nat.le_max_right k k') _ _ _ _ hk'
    rw [h1] at h2
    exact h2.symm
theorem loopL_iff {f : Run} {s : St} {r : Ex × St} : loopL f s = some r ↔ ∃ k, loopN k f s = some r := by
  unfold loopL
  constructor
  · intro hr
    split at hr
    · rename_i hx
      simp only [Option.some.injEq] at hr
      rw [← hr]; exact hx.choose_spec
    · cases hr
  · rintro ⟨k, hk⟩
    have hx : ∃ r k, loopN k f s = some r := ⟨r, k, hk⟩
    rw [dif_pos hx]
    obtain ⟨k', hk'⟩ := hx.choose_spec
    have h1 := loopN_le (Nat.le_max_left k k') f f (RunLe.refl f) _ _ hk
    have h2 := loopN_le (Nat.le_max_right k k') f f (RunLe.refl f) _ _ hk'
    rw [h1] at h2
    exact h2.symm
theorem evalN_evC (k : Nat) : EvLe (evalN P k) (evC P) := fun _ _ _ _ h => evC_iff.2 ⟨k, h⟩
theorem loopN_loopL (k : Nat) : LpLe (loopN k) loopL := fun f g hfg s r h => loopL_iff.2 ⟨k, loopN_mono k f g hfg s r h⟩

theorem loopL_eq (f : Run) (s : St) : loopL f s = (f s).bind fun r => match r.1 with
    | .normal => loopL f r.2
    | e => some (e, r.2) := by
  apply Option.ext
  intro r
  rw [loopL_iff]
  constructor
  · rintro ⟨k, hk⟩
    cases k with
    | zero => cases hk
    | succ k =>
      unfold loopN at hk
      obtain ⟨r1, h1, h2⟩ := Option.bind_eq_some_iff.1 hk
      rw [h1]
      obtain ⟨e1, s1⟩ := r1
      cases e1 with
      | normal => exact loopL_iff.2 ⟨k, h2⟩
      | ret => exact h2
      | exit id => exact h2
  · intro h
    obtain ⟨r1, h1, h2⟩ := Option.bind_eq_some_iff.1 h
    obtain ⟨e1, s1⟩ := r1
    cases e1 with
    | normal =>
      obtain ⟨k, hk⟩ := loopL_iff.1 h2
      exact ⟨k + 1, by unfold loopN; rw [h1]; exact hk⟩
    | ret => exact ⟨1, by unfold loopN; rw [h1]; exact h2⟩
    | exit id => exact ⟨1, by unfold loopN; rw [h1]; exact h2⟩

theorem callV_lim {f : Value} {args : Array Value} {h : Heap} {r : Value × Heap} (hd : callV P (evC P) f args h = some r) : ∃ k, callV P (evalN P k) f args h = some r := by
  unfold callV at hd ⊢
  split at hd
  · split at hd
    · split at hd
      · cases hd
      · split at hd
        · rename_i h1 h2 h3 h4
          exact ⟨0, by rw [if_neg h3, if_pos h4]; exact hd⟩
        · rename_i h1 h2 h3 h4
          obtain ⟨k, hk⟩ := evC_iff.1 hd
          exact ⟨k, by rw [if_neg h3, if_neg h4]; exact hk⟩
    · cases hd
  · cases hd
theorem doOp_lim {o : Oper} {T : Array Value} {h : Heap} {r : Value × Heap} (hd : doOp P (evC P) o T h = some r) : ∃ k, doOp P (evalN P k) o T h = some r := by
  unfold doOp at hd ⊢
  simp only at hd ⊢
  split at hd
  all_goals first
    | exact ⟨0, hd⟩
    | (split at hd
       · exact ⟨0, hd⟩
       · exact callV_lim hd
       · unfold invokeV at hd ⊢
         split at hd
         · obtain ⟨f, h1, h2⟩ := Option.bind_eq_some_iff.1 hd
           rw [h1]; exact callV_lim h2
         · cases hd)
theorem stepAt_lim {ops : Array Oper} {i : Nat} {s s' : St} (hs : stepAt P (evC P) ops i s = some s') : ∃ k, stepAt P (evalN P k) ops i s = some s' := by
  unfold stepAt at hs ⊢
  split at hs
  · exact ⟨0, hs⟩
  · split at hs
    · rename_i hw
      obtain ⟨r, h1, h2⟩ := Option.map_eq_some_iff.1 hs
      obtain ⟨k, hk⟩ := doOp_lim h1
      exact ⟨k, by rw [if_pos hw, hk]; simp [h2]⟩
    · rename_i hw
      exact ⟨0, by rw [if_neg hw]; exact hs⟩
theorem runList_lim {ops : Array Oper} : ∀ (l : List Nat) {s s' : St}, runList P (evC P) ops l s = some s' → ∃ k, runList P (evalN P k) ops l s = some s'
  | [], _, _, h => ⟨0, h⟩
  | i :: l, s, s', h => by
    unfold runList at h
    obtain ⟨s1, h1, h2⟩ := Option.bind_eq_some_iff.1 h
    obtain ⟨k1, g1⟩ := stepAt_lim h1
    obtain ⟨k2, g2⟩ := runList_lim l h2
    refine ⟨max k1 k2, ?_⟩
    unfold runList
    rw [stepAt_mono (evalN_le (Nat.le_max_left k1 k2)) g1]
    exact runList_mono (evalN_le (Nat.le_max_right k1 k2)) l g2
theorem runListD_lim {ops : Array Oper} {B : Array Nat} : ∀ (l : List Nat) {d d' : DSt}, runListD P (evC P) ops B l d = some d' → ∃ k, runListD P (evalN P k) ops B l d = some d'
  | [], _, _, h => ⟨0, h⟩
  | i :: l, s, s', h => by
    unfold runListD at h
    obtain ⟨s1, h1, h2⟩ := Option.bind_eq_some_iff.1 h
    have : ∃ k, stepD P (evalN P k) ops B i s = some s1 := by
      unfold stepD at h1 ⊢
      obtain ⟨x, h3, h4⟩ := Option.map_eq_some_iff.1 h1
      obtain ⟨k, hk⟩ := stepAt_lim h3
      exact ⟨k, by rw [hk]; simp only [Option.map_some, h4]⟩
    obtain ⟨k1, g1⟩ := this
    obtain ⟨k2, g2⟩ := runListD_lim l h2
    refine ⟨max k1 k2, ?_⟩
    unfold runListD
    rw [stepD_mono (evalN_le (Nat.le_max_left k1 k2)) g1]
    exact runListD_mono (evalN_le (Nat.le_max_right k1 k2)) l g2
theorem regionV_lim {ops : Array Oper} {draw : Bool} {s s' : St} (h : regionV P (evC P) ops draw s = some s') : ∃ k, regionV P (evalN P k) ops draw s = some s' := by
  unfold regionV at h ⊢
  split at h
  · rename_i h1
    split at h
    · rename_i h2
      split at h
      · rename_i h3
        split at h
        · rename_i d hd
          obtain ⟨k, hk⟩ := runListD_lim _ hd
          exact ⟨k, by rw [if_pos h1, if_pos h2, if_pos h3, hk]; exact h⟩
        · cases h
      · cases h
    · rename_i h2
      obtain ⟨k, hk⟩ := runList_lim _ h
      exact ⟨k, by rw [if_pos h1, if_neg h2]; exact hk⟩
  · cases h
theorem runCode_lim : ∀ (c : Code) (s : St) (r : Ex × St), runCode P (evC P) loopL c s = some r → ∃ k, runCode P (evalN P k) (loopN k) c s = some r := by
  intro c
  induction c with
  | skip => intro s r h; exact ⟨0, h⟩
  | label l => intro s r h; exact ⟨0, h⟩
  | ret => intro s r h; exact ⟨0, h⟩
  | exit id => intro s r h; exact ⟨0, h⟩
  | region id ops draw =>
    intro s r h
    unfold runCode at h
    obtain ⟨s1, h1, h2⟩ := Option.map_eq_some_iff.1 h
    obtain ⟨k, hk⟩ := regionV_lim h1
    exact ⟨k, by unfold runCode; rw [hk]; simp [h2]⟩
  | seq x y ihx ihy =>
    intro s r h
    unfold runCode at h
    obtain ⟨r1, h1, h2⟩ := Option.bind_eq_some_iff.1 h
    obtain ⟨k1, g1⟩ := ihx _ _ h1
    obtain ⟨e1, s1⟩ := r1
    cases e1 with
    | normal =>
      obtain ⟨k2, g2⟩ := ihy _ _ h2
      refine ⟨max k1 k2, ?_⟩
      unfold runCode
      rw [runCode_mono (evalN_le (Nat.le_max_left k1 k2)) (loopN_le (Nat.le_max_left k1 k2)) _ _ _ g1]
      exact runCode_mono (evalN_le (Nat.le_max_right k1 k2)) (loopN_le (Nat.le_max_right k1 k2)) _ _ _ g2
    | ret => exact ⟨k1, by unfold runCode; rw [g1]; exact h2⟩
    | exit id => exact ⟨k1, by unfold runCode; rw [g1]; exact h2⟩
  | cond c x y ihx ihy =>
    intro s r h
    unfold runCode at h
    split at h
    · rename_i hc
      split at h
      · rename_i hv
        obtain ⟨k, hk⟩ := ihx _ _ h
        exact ⟨k, by unfold runCode; rw [if_pos hc, hv]; exact hk⟩
      · rename_i hv
        obtain ⟨k, hk⟩ := ihy _ _ h
        exact ⟨k, by unfold runCode; rw [if_pos hc, hv]; exact hk⟩
      · cases h
    · cases h
  | block id c ih =>
    intro s r h
    unfold runCode at h
    obtain ⟨r1, h1, h2⟩ := Option.map_eq_some_iff.1 h
    obtain ⟨k, hk⟩ := ih _ _ h1
    exact ⟨k, by unfold runCode; rw [hk]; simp [h2]⟩
  | loop c ih =>
    intro s r h
    unfold runCode at h
    obtain ⟨n, hn⟩ := loopL_iff.1 h
    suffices key : ∀ n s r, loopN n (runCode P (evC P) loopL c) s = some r → ∃ k, loopN k (runCode P (evalN P k) (loopN k) c) s = some r by
      obtain ⟨k, hk⟩ := key n s r hn
      exact ⟨k, by unfold runCode; exact hk⟩
    intro n
    induction n with
    | zero => intro s r h; cases h
    | succ n ihn =>
      intro s r h
      unfold loopN at h
      obtain ⟨r1, h1, h2⟩ := Option.bind_eq_some_iff.1 h
      obtain ⟨k1, g1⟩ := ih _ _ h1
      obtain ⟨e1, s1⟩ := r1
      cases e1 with
      | normal =>
        obtain ⟨k2, g2⟩ := ihn _ _ h2
        refine ⟨max k1 k2 + 1, ?_⟩
        unfold loopN
        have m1 : k1 ≤ max k1 k2 + 1 := Nat.le_succ_of_le (Nat.le_max_left k1 k2)
        have m2 : k2 ≤ max k1 k2 := Nat.le_max_right k1 k2
        rw [runCode_mono (evalN_le m1) (loopN_le m1) _ _ _ g1]
        exact loopN_le m2 _ _ (runCode_mono (evalN_le (Nat.le_succ_of_le m2)) (loopN_le (Nat.le_succ_of_le m2)) c) _ _ g2
      | ret => exact ⟨k1 + 1, by unfold loopN; rw [runCode_mono (evalN_le (Nat.le_succ k1)) (loopN_le (Nat.le_succ k1)) _ _ _ g1]; exact h2⟩
      | exit id => exact ⟨k1 + 1, by unfold loopN; rw [runCode_mono (evalN_le (Nat.le_succ k1)) (loopN_le (Nat.le_succ k1)) _ _ _ g1]; exact h2⟩
  | _ => intro s r h; cases h

theorem evC_ext {f : FuncId} {g : Array Value → Heap → Option (Value × Heap)} (hX : Xt.X P f = some g) (args : Array Value) (h : Heap) : evC P f args h = g args h := by
  apply Option.ext
  intro r
  rw [evC_iff]
  constructor
  · rintro ⟨k, hk⟩
    cases k <;> (unfold evalN at hk; rw [hX] at hk; exact hk)
  · intro hr
    exact ⟨0, by unfold evalN; rw [hX]; exact hr⟩
theorem evC_eq (f : FuncId) (args : Array Value) (h : Heap) (hX : Xt.X P f = none := by rfl) : evC P f args h = callBody P (evC P) loopL f args h := by
  apply Option.ext
  intro r
  rw [evC_iff]
  constructor
  · rintro ⟨k, hk⟩
    cases k with
    | zero => unfold evalN at hk; rw [hX] at hk; cases hk
    | succ k =>
      unfold evalN at hk
      rw [hX] at hk
      exact callBody_mono (evalN_evC k) (loopN_loopL k) _ _ _ _ hk
  · intro hr
    have : ∃ k, callBody P (evalN P k) (loopN k) f args h = some r := by
      unfold callBody at hr ⊢
      split at hr
      · split at hr
        · split at hr
          · rename_i s1 h1
            obtain ⟨k, hk⟩ := runCode_lim _ _ _ h1
            exact ⟨k, by rw [hk]; exact hr⟩
          · rename_i s1 h1
            obtain ⟨k, hk⟩ := runCode_lim _ _ _ h1
            exact ⟨k, by rw [hk]; exact hr⟩
          · cases hr
        · cases hr
      · cases hr
    obtain ⟨k, hk⟩ := this
    exact ⟨k + 1, by unfold evalN; rw [hX]; exact hk⟩
theorem evC_sound [Gl P] [XtOk P] (hm : P.follows .mixedOrders = true) (base : Nat) : EvSound P base (evC P) := by
  intro f args h v h' E w args' hv hR ha hf
  obtain ⟨k, hk⟩ := evC_iff.1 hv
  exact evalN_ok (drawn_ok hm) k f args h v h' E w args' hk hR ha hf
end Go.Am
namespace Go.Am
open Go.RowKit
variable {P : Program} [Gl P] [Xt P] [XtOk P]

omit [XtOk P] in
theorem evC_of_evalN {k : Nat} {f : FuncId} {args : Array Value} {h : Heap} {v : Value} {h' : Heap} (he : evalN P k f args h = some (v, h')) : evC P f args h = some (v, h') :=
  evC_iff.2 ⟨k, he⟩

theorem calls_true (hm : P.follows .mixedOrders = true) {f : FuncId} {args args' : Array Value} {h h' : Heap} {E : Env} {W : World}
    (he : evC P f args h = some (.bool true, h')) (hR : Rel P W.heap.size E h W) (hA : ARel E args args') (hF : ∀ b, h.blks.length ≤ b → E b = none) :
    Calls P f args' W fun e W' => e = .returned (.bool true) ∧ Below W.heap.size W W' := by
  refine (evC_sound hm W.heap.size f args h _ _ E W args' he hR hA (fun b hb _ => hF b hb)).mono fun e W' ⟨v', E', h1, h2, h3⟩ => ?_
  cases h3
  refine ⟨h1, h2.fr.os, h2.fr.tape, h2.fr.output, h2.fr.size, fun c hc => h2.fr.blk c hc fun ⟨b, k, l, hk, hl, ho, _, e⟩ => ?_⟩
  have := hR.low b k l hk hl ho
  omega
def noE : Env := fun _ => none
omit [Xt P] [XtOk P] in
theorem rel_none (W : World) (hG : GlobW P W.heap.size W) : Rel P W.heap.size noE ⟨[], []⟩ W :=
  ⟨fun _ _ _ _ h => (by cases h), fun _ _ _ _ h => (by cases h), fun _ _ _ _ h => (by cases h), fun _ _ h => (by cases h), fun _ _ _ _ _ _ _ _ h => (by cases h), hG, Nat.le_refl _⟩
def trueIn (P : Program) [Xt P] (k : Nat) (f : FuncId) : Bool := match evalN P k f #[] ⟨[], []⟩ with | some (.bool true, _) => true | _ => false
theorem calls_closed (hm : P.follows .mixedOrders = true) {k : Nat} {f : FuncId} (h : trueIn P k f = true) (W : World) (hG : GlobW P W.heap.size W) :
    Calls P f #[] W fun e W' => e = .returned (.bool true) ∧ Below W.heap.size W W' := by
  unfold trueIn at h
  split at h
  · rename_i h' he
    exact calls_true hm (evC_of_evalN he) (rel_none W hG) ARel.nil fun _ _ => rfl
  · cases h
end Go.Am
namespace Go.Am
variable {P : Program}

def nm (h : Heap) : Heap := { h with mods := [] }
def am (h' h : Heap) : Heap := { h' with mods := h'.mods ++ h.mods }
@[simp] theorem nm_blks (h : Heap) : (nm h).blks = h.blks := rfl
@[simp] theorem nm_mods (h : Heap) : (nm h).mods = [] := rfl
@[simp] theorem am_blks (h' h : Heap) : (am h' h).blks = h'.blks := rfl
@[simp] theorem am_mods (h' h : Heap) : (am h' h).mods = h'.mods ++ h.mods := rfl
@[simp] theorem am_nm (h : Heap) : am (nm h) h = h := rfl
@[simp] theorem nm_cells? (h : Heap) (b : Nat) : (nm h).cells? b = h.cells? b := rfl
@[simp] theorem nm_loadN (h : Heap) (b o n : Nat) : (nm h).loadN b o n = h.loadN b o n := rfl
@[simp] theorem nm_load1 (h : Heap) (b o : Nat) : (nm h).load1 b o = h.load1 b o := rfl
theorem nm_put (h : Heap) (b : Nat) (body : Body) : am ((nm h).put b body) h = h.put b body := by
  unfold Heap.put
  simp only [nm_blks]
  split <;> rfl
theorem nm_storeN (h : Heap) (b o : Nat) (vs : List Value) : h.storeN b o vs = ((nm h).storeN b o vs).map (am · h) := by
  unfold Heap.storeN
  simp only [nm_blks]
  split
  · split
    · rw [Option.map_some, nm_put]
    · rfl
  · rfl
def MapM (f : Heap → Option (Value × Heap)) : Prop := ∀ h, f h = (f (nm h)).map fun r => (r.1, am r.2 h)
def MapS (f : Heap → Option Heap) : Prop := ∀ h, f h = (f (nm h)).map (am · h)
theorem MapM.same {f : Heap → Option Value} (hf : ∀ h, f h = f (nm h)) : MapM fun h => (f h).map fun v => (v, h) := fun h => by
  simp only []
  rw [hf h]
  cases f (nm h) <;> simp
theorem MapM.ofS {f : Heap → Option Heap} (hf : MapS f) : MapM fun h => (f h).map fun h' => (undef, h') := fun h => by
  simp only []
  rw [hf h]
  cases f (nm h) <;> simp
theorem allocV_m (t : TypeId) : MapM (allocV P t) := fun h => by
  unfold allocV
  split
  · split
    · rfl
    · rfl
  · rfl
theorem boxV_m (t : TypeId) (v : Value) : MapM (boxV P t v) := fun h => by
  unfold boxV
  split <;> rfl
theorem buildSliceV_m (t : TypeId) (n : Nat) (p : Array (Nat × Value)) : MapM (buildSliceV P t n p) := fun h => by
  unfold buildSliceV
  split
  · split
    · split
      · simp only [Option.map_map]; rfl
      · rfl
    · rfl
  · rfl
theorem makeSliceV_m (t : TypeId) (l c : Value) : MapM (makeSliceV P t l c) := fun h => by
  unfold makeSliceV
  split
  · split
    · split <;> rfl
    · rfl
  · rfl
theorem sameV (v : Option Value) (h : Heap) : v.map (fun v => (v, h)) = (v.map fun v => (v, nm h)).map fun r => (r.1, am r.2 h) := by cases v <;> rfl
theorem mapOf_m (h : Heap) (b : Nat) : mapOf? (nm h) b = mapOf? h b := rfl
theorem storeV_m (t : TypeId) (a v : Value) : MapS (storeV P t a v) := fun h => by
  unfold storeV
  split
  · split
    · split
      · exact nm_storeN h _ _ _
      · rfl
    · rfl
  · rfl
theorem convV_m (s d : TypeId) (x : Value) : MapM (convV P s d x) := fun h => by
  unfold convV
  simp only [nm_blks, nm_loadN]
  split
  · split <;> rfl
  · split
    · simp only [Option.map_map]; rfl
    · rfl
  · split
    · rfl
    · rfl
  · split
    · split
      · rw [Option.map_some, nm_put]
      · rfl
    · rfl
  · rfl
  · rfl
  · split
    · simp only [Option.map_map]; rfl
    · rfl
theorem mapUpdateV_m (t : TypeId) (m k v : Value) : MapS (mapUpdateV P t m k v) := fun h => by
  unfold mapUpdateV
  simp only [mapOf_m]
  split
  · split
    · split
      · simp only [Option.map_map]
        congr 1
        funext f
        simp only [Function.comp]
        split <;> rw [nm_put]
      · rfl
    · rfl
  · rfl
theorem deleteV_m (t : TypeId) (m k : Value) : MapS (deleteV P t m k) := fun h => by
  unfold deleteV
  simp only [mapOf_m]
  split
  · split
    · split
      · simp only [Option.map_map]
        congr 1
        funext f
        simp only [Function.comp]
        split <;> rw [nm_put]
      · rfl
    · rfl
  · rfl
theorem newsV_m (a b : Nat) (z : Value) (t : Option TypeId) (x : Value) (h : Heap) : newsV P a b z t x (nm h) = newsV P a b z t x h := rfl
theorem appendV_m (t : TypeId) (t1 : Option TypeId) (s x : Value) : MapM (appendV P t t1 s x) := fun h => by
  unfold appendV
  simp only [newsV_m, nm_blks, nm_loadN]
  split
  · split
    · split
      · split
        · split
          · rfl
          · split
            · split
              · split
                · split
                  · simp only [Option.map_some, Option.some.injEq, Prod.mk.injEq, true_and]
                    rw [← nm_put]
                    rfl
                  · rfl
                · rfl
              · rfl
            · split
              · split
                · rw [nm_storeN]; simp only [Option.map_map]; rfl
                · rfl
              · split
                · simp only [Option.map_map]; rfl
                · split <;> rfl
                · rfl
        · rfl
      · rfl
    · rfl
  · rfl
theorem lenV_m (t : TypeId) (x : Value) (h : Heap) : lenV P t x h = lenV P t x (nm h) := rfl
theorem clearV_m (t : TypeId) (x : Value) (h : Heap) : clearV P t x h = (clearV P t x (nm h)).map (am · h) := by
  unfold clearV
  split
  · split <;> rfl
  · split
    · rfl
    · split
      · split
        · exact nm_storeN _ _ _ _
        · rfl
      · rfl
  · rfl
theorem builtinV_m (b : Builtin) (ts : Array TypeId) (args : Array Value) : MapM (builtinV P b ts args) := fun h => by
  unfold builtinV
  split
  · exact MapM.same (fun h => lenV_m _ _ h) h
  · exact appendV_m _ _ _ _ h
  · rw [deleteV_m _ _ _ h]; simp only [Option.map_map]; rfl
  · split
    · simp only [Option.map_map]; rfl
    · rfl
  · rw [clearV_m _ _ h]; simp only [Option.map_map]; rfl
  · split
    · simp only [Option.map_map]; rfl
    · rfl
  · rfl
def EvMods (ev : Ev) : Prop := ∀ f args, MapM (ev f args)
theorem callV_m {ev : Ev} (hev : EvMods ev) (f : Value) (args : Array Value) : MapM (callV P ev f args) := fun h => by
  unfold callV
  split
  · split
    · split
      · rfl
      · split
        · simp only [Option.map_map]; rfl
        · exact hev _ _ h
    · rfl
  · rfl
theorem invokeV_m {ev : Ev} (hev : EvMods ev) (r : Value) (name : String) (args : Array Value) : MapM (invokeV P ev r name args) := fun h => by
  unfold invokeV
  split
  · cases methodF P _ name with
    | none => rfl
    | some f => exact callV_m (P := P) hev (.func (.func f) #[] #[]) _ h
  · rfl
theorem doOp_m {ev : Ev} (hev : EvMods ev) (o : Oper) (T : Array Value) : MapM (doOp P ev o T) := fun h => by
  unfold doOp
  simp only []
  split
  all_goals first
    | rfl
    | exact allocV_m _ h
    | exact boxV_m _ _ h
    | exact buildSliceV_m _ _ _ h
    | exact makeSliceV_m _ _ _ h
    | exact convV_m _ _ _ h
    | exact MapM.ofS (storeV_m _ _ _) h
    | exact MapM.ofS (mapUpdateV_m _ _ _ _) h
    | exact sameV _ h
    | (split <;> first | rfl | exact builtinV_m _ _ _ h | exact callV_m hev _ _ h | exact invokeV_m hev _ _ _ h)
theorem callBody_m (ev : Ev) (lp : Run → Run) : EvMods (callBody P ev lp) := fun f args h => by
  unfold callBody
  split
  · split
    · simp only [nm]
      split
      · simp only [Option.map_map]; congr 1; funext v; simp [am]; rfl
      · simp only [Option.map_map]; congr 1; funext v; simp [am]; rfl
      · rfl
    · rfl
  · rfl
class XtM (P : Program) [Xt P] : Prop where
  mods : ∀ f g, Xt.X P f = some g → ∀ args, MapM (g args)
theorem evC_m [Xt P] [XtM P] : EvMods (evC P) := fun f args h => by
  cases hX : Xt.X P f with
  | some g => rw [evC_ext hX, evC_ext hX]; exact XtM.mods f g hX args h
  | none =>
    have := callBody_m (P := P) (evC P) loopL f args h
    rw [← evC_eq f _ _ hX, ← evC_eq f _ _ hX] at this
    exact this
end Go.Am
namespace Go.Am
variable {P : Program} {β : Type}

def gd (w : Bool) (v : Option Value) : Option Value := match w with | true => v | false => some undef
def gdV (w : Bool) (v : Value) : Value := match w with | true => v | false => undef
def gdH (w : Bool) (h : Heap) (r : Option (Value × Heap)) : Option (Value × Heap) := match w with | true => r | false => some (undef, h)
def gdS (w : Bool) (h : Heap) (r : Option Heap) : Option Heap := match w with | true => r | false => some h
def yv : Value → Option Bool
  | .bool b => some b
  | _ => none
def wt (x : Value) (b : Bool) : Bool := yv x == some b
def obH (r : Option (Value × Heap)) (k : Value → Heap → Option β) : Option β := match r with | some (v, h) => k v h | none => none
def obR (r : Option (Ex × St)) (k : Ex → St → Option β) : Option β := match r with | some (e, s) => k e s | none => none
def pickV (c a b : Value) : Option Value := match c with | .bool true => some a | .bool false => some b | _ => none
def cnd (c : Value) (a b : Option β) : Option β := match c with | .bool true => a | .bool false => b | _ => none

def len1 (P : Program) (l : List Value) (t : Option TypeId) (h : Heap) : Option Value := match l, t with | [x], some t => lenV P t x h | _, _ => none
theorem builtin_len (ts : Array TypeId) (args : Array Value) (h : Heap) : builtinV P .len ts args h = (len1 P args.toList ts[0]? h).map fun v => (v, h) := by
  unfold builtinV len1
  generalize args.toList = l
  generalize ts[0]? = t
  cases l with
  | nil => rfl
  | cons a l => cases l <;> cases t <;> rfl
def doK (P : Program) (ev : Ev) (w : Bool) (o : Oper) (T : Array Value) (h : Heap) (k : Value → Heap → Option β) : Option β :=
  let ρ := evalO T
  match o.op with
  | .move x | .assign x => k (gdV w (ρ x)) h
  | .pick c a b => (gd w (pickV (ρ c) (ρ a) (ρ b))).bind fun v => k v h
  | .alloc t => obH (gdH w h (allocV P t h)) k
  | .box t x => obH (gdH w h (boxV P t (ρ x) h)) k
  | .build t parts => (gd w (buildV P t (parts.map fun x => (x.1, ρ x.2)))).bind fun v => k v h
  | .buildSlice t len parts => obH (gdH w h (buildSliceV P t len (parts.map fun x => (x.1, ρ x.2)) h)) k
  | .load t a => (gd w (loadV P t (ρ a) h)).bind fun v => k v h
  | .store t a x => (gdS w h (storeV P t (ρ a) (ρ x) h)).bind fun h' => k undef h'
  | .nilCheck x => (gd w (nilCheckV P (ρ x))).bind fun v => k v h
  | .binOp op t x y _ => (gd w (binV P op t x y (ρ x) (ρ y))).bind fun v => k v h
  | .unOp op _ x => (gd w (unV P op (ρ x))).bind fun v => k v h
  | .convert src dst x => obH (gdH w h (convV P src dst (ρ x) h)) k
  | .makeInterface t x => (gd w (makeInterfaceV P t (ρ x))).bind fun v => k v h
  | .makeFunc fn first captured => k (gdV w (.func fn (first.map ρ) (captured.map ρ))) h
  | .makeMap _ none => obH (gdH w h (some (makeMapV h))) k
  | .makeSlice t l c => obH (gdH w h (makeSliceV P t (ρ l) (ρ c) h)) k
  | .slice t x lo hi mx => (gd w (sliceV P t (ρ x) (lo.map ρ) (hi.map ρ) (mx.map ρ) h)).bind fun v => k v h
  | .fieldAddr t x f => (gd w (fieldAddrV P t (ρ x) f)).bind fun v => k v h
  | .field t x f => (gd w (fieldV P t (ρ x) f)).bind fun v => k v h
  | .indexAddr t x i => (gd w (indexAddrV P t (ρ x) (ρ i))).bind fun v => k v h
  | .index t x i => (gd w (indexV P t (ρ x) (ρ i))).bind fun v => k v h
  | .lookup t m key ok => (gd w (lookupV P t (ρ m) (ρ key) ok h)).bind fun v => k v h
  | .mapUpdate t m key v => (gdS w h (mapUpdateV P t (ρ m) (ρ key) (ρ v) h)).bind fun h' => k undef h'
  | .typeAssert x _ asserted ok => (gd w (typeAssertV P (ρ x) asserted ok)).bind fun v => k v h
  | .extract t i => (gd w (extractV (ρ t) i)).bind fun v => k v h
  | .call c => match c.callee with
    | .builtin .len => (gd w (len1 P (c.args.map ρ).toList c.argTypes[0]? h)).bind fun v => k v h
    | .builtin b => obH (gdH w h (builtinV P b c.argTypes (c.args.map ρ) h)) k
    | .value f => obH (gdH w h (callV P ev (ρ f) (c.args.map ρ) h)) k
    | .invoke r name => obH (gdH w h (invokeV P ev (ρ r) name (c.args.map ρ) h)) k
  | _ => obH (gdH w h none) k
def doW (P : Program) (ev : Ev) (w : Bool) (o : Oper) (T : Array Value) (h : Heap) : Option (Value × Heap) := match w with | true => doOp P ev o T h | false => some (undef, h)
theorem obH_bind (r : Option (Value × Heap)) (k : Value → Heap → Option β) : obH r k = r.bind fun r => k r.1 r.2 := by cases r <;> rfl
theorem doK_eq (ev : Ev) (w : Bool) (o : Oper) (T : Array Value) (h : Heap) (k : Value → Heap → Option β) :
    doK P ev w o T h k = obH (doW P ev w o T h) k := by
  have one (v : Option Value) : (gd w v).bind (fun v => k v h) = obH (gdH w h (v.map fun v => (v, h))) k := by
    cases w <;> cases v <;> rfl
  have two (r : Option Heap) : (gdS w h r).bind (fun h' => k undef h') = obH (gdH w h (r.map fun h' => (undef, h'))) k := by
    cases w <;> cases r <;> rfl
  have fall (r : Option (Value × Heap)) (e : doOp P ev o T h = r) : obH (gdH w h r) k = obH (doW P ev w o T h) k := by
    subst e; cases w <;> rfl
  obtain ⟨dst, op, ty, pos, after, guard⟩ := o
  cases op
  case pick c a b =>
    refine (one _).trans (fall _ ?_)
    show (match evalO T c with | .bool t => some (if t then evalO T a else evalO T b, h) | _ => none) = _
    unfold pickV
    cases evalO T c with
    | bool t => cases t <;> rfl
    | _ => rfl
  case move => cases w <;> rfl
  case assign => cases w <;> rfl
  case makeFunc => cases w <;> rfl
  case makeMap t r => cases r <;> exact fall _ rfl
  case call c =>
    obtain ⟨callee, args, argTypes⟩ := c
    cases callee
    case builtin b =>
      cases b
      case len =>
        refine (one _).trans (fall _ ?_)
        exact builtin_len argTypes (args.map (evalO T)) h
      all_goals exact fall _ rfl
    all_goals exact fall _ rfl
  all_goals first
    | exact fall _ rfl
    | exact (one _).trans (fall _ rfl)
    | exact (two _).trans (fall _ rfl)

def opD (ops : Array Oper) (i : Nat) : Oper := ops.getD i default
def wantT (ops : Array Oper) (i : Nat) (T : Array Value) : Bool := Region.wanted (opD ops i) (yielded ops T)
theorem stepAt_doW (ev : Ev) {ops : Array Oper} {i : Nat} (hi : i < ops.size) (s : St) :
    stepAt P ev ops i s = (doW P ev (wantT ops i s.T) (opD ops i) s.T s.h).map fun r => ⟨putT s.T (opD ops i).dst r.1, r.2⟩ := by
  have e : opD ops i = ops[i] := by simp [opD, Array.getD, hi]
  unfold stepAt wantT
  rw [Array.getElem?_eq_getElem hi, e]
  simp only []
  cases Region.wanted ops[i] (yielded ops s.T) <;> rfl
def listK (P : Program) (ev : Ev) (ops : Array Oper) : List Nat → St → (St → Option β) → Option β
  | [], s, k => k s
  | i :: l, s, k => doK P ev (wantT ops i s.T) (opD ops i) s.T s.h fun v h => listK P ev ops l ⟨putT s.T (opD ops i).dst v, h⟩ k
theorem listK_eq (ev : Ev) (ops : Array Oper) (k : St → Option β) : ∀ (l : List Nat) (s : St), (∀ i ∈ l, i < ops.size) → listK P ev ops l s k = (runList P ev ops l s).bind k
  | [], s, _ => rfl
  | i :: l, s, h => by
    unfold listK runList
    rw [doK_eq, obH_bind, stepAt_doW ev (h i (by simp))]
    cases hd : doW P ev (wantT ops i s.T) (opD ops i) s.T s.h with
    | none => rfl
    | some r =>
      simp only [Option.bind_some, Option.map_some]
      exact listK_eq ev ops k l _ fun i hi => h i (by simp [hi])

def rdsOf (P : Program) (ops : Array Oper) (B : Array Nat) (i : Nat) (T : Array Value) (h : Heap) : List Nat :=
  match floats P ops B .e i with
  | true => match clsOf P (opAt ops i), wantT ops i T with
    | .l, true => readOf (opAt ops i) T
    | .a, true => [h.blks.length]
    | _, _ => []
  | false => []
def tellsM (P : Program) (ops : Array Oper) (B : Array Nat) (i : Nat) : Bool :=
  match clsOf P (opAt ops i) with
  | .e => floats P ops B .l i || floats P ops B .a i
  | _ => false
def listDK (P : Program) (ev : Ev) (ops : Array Oper) (B : Array Nat) : List Nat → St → List Nat → List Nat → (St → List Nat → List Nat → Option β) → Option β
  | [], s, r, m, k => k s r m
  | i :: l, s, r, m, k =>
    match tellsM P ops B i with
    | false => doK P ev (wantT ops i s.T) (opD ops i) s.T s.h fun v h => listDK P ev ops B l ⟨putT s.T (opD ops i).dst v, h⟩ (rdsOf P ops B i s.T s.h ++ r) m k
    | true => doK P ev (wantT ops i s.T) (opD ops i) s.T (nm s.h) fun v h => listDK P ev ops B l ⟨putT s.T (opD ops i).dst v, am h s.h⟩ (rdsOf P ops B i s.T s.h ++ r) (h.mods ++ m) k
theorem doW_m {ev : Ev} (hev : EvMods ev) (w : Bool) (o : Oper) (T : Array Value) (h : Heap) : doW P ev w o T h = (doW P ev w o T (nm h)).map fun r => (r.1, am r.2 h) := by
  cases w
  · rfl
  · exact doOp_m hev o T h
theorem listDK_eq {ev : Ev} (hev : EvMods ev) (ops : Array Oper) (B : Array Nat) (k : St → List Nat → List Nat → Option β) : ∀ (l : List Nat) (s : St) (r m : List Nat), (∀ i ∈ l, i < ops.size) →
    listDK P ev ops B l s r m k = (runListD P ev ops B l ⟨s, r, m⟩).bind fun d => k d.s d.reads d.ms
  | [], s, r, m, _ => rfl
  | i :: l, s, r, m, h => by
    unfold listDK runListD stepD
    simp only [doK_eq, obH_bind]
    have hs := stepAt_doW (P := P) ev (h i (by simp)) ⟨s.T, { s.h with mods := [] }⟩
    simp only [] at hs
    rw [hs]
    change _ = ((Option.map _ (Option.map _ (doW P ev (wantT ops i s.T) (opD ops i) s.T (nm s.h)))).bind _).bind _
    have hm := doW_m (P := P) hev (wantT ops i s.T) (opD ops i) s.T s.h
    have hr : ∀ h2 : Heap, (if floats P ops B .e i = true ∧ Region.wanted (ops.getD i default) (yielded ops s.T) = true then (if clsOf P (opAt ops i) = .l then readOf (opAt ops i) s.T else if clsOf P (opAt ops i) = .a then [s.h.blks.length] else []) else []) = rdsOf P ops B i s.T s.h := fun _ => by
      unfold rdsOf wantT opD
      cases floats P ops B .e i <;> cases Region.wanted (ops.getD i default) (yielded ops s.T) <;> cases clsOf P (opAt ops i) <;> rfl
    cases hd : doW P ev (wantT ops i s.T) (opD ops i) s.T (nm s.h) with
    | none =>
      rw [hd] at hm
      rw [hm]
      split <;> rfl
    | some x =>
      rw [hd] at hm
      simp only [Option.map_some] at hm
      rw [hm]
      simp only [Option.bind_some, Option.map_some, hr x.2]
      have hms : (if clsOf P (opAt ops i) = .e ∧ (floats P ops B .l i = true ∨ floats P ops B .a i = true) then x.2.mods else []) = if tellsM P ops B i = true then x.2.mods else [] := by
        unfold tellsM
        cases clsOf P (opAt ops i) <;> cases floats P ops B .l i <;> cases floats P ops B .a i <;> rfl
      rw [hms]
      split
      · rename_i ht
        rw [ht]
        exact listDK_eq hev ops B k l _ _ _ fun i hi => h i (by simp [hi])
      · rename_i ht
        rw [ht]
        exact listDK_eq hev ops B k l _ _ _ fun i hi => h i (by simp [hi])
def chk (r m : List Nat) (x : Option β) : Option β := match r.all (fun b => !m.contains b) with | true => x | false => none
def regionK (P : Program) (ev : Ev) (ops : Array Oper) (draw : Bool) (s : St) (k : St → Option β) : Option β :=
  match plainOk ops, draw with
  | false, _ => none
  | true, false => listK P ev ops (List.range ops.size) s k
  | true, true => match drawOk P ops (Region.before ops) with
    | true => listDK P ev ops (Region.before ops) (List.range ops.size) s [] [] fun s r m => chk r m (k s)
    | false => none
theorem regionK_eq {ev : Ev} (hev : EvMods ev) (ops : Array Oper) (draw : Bool) (s : St) (k : St → Option β) : regionK P ev ops draw s k = (regionV P ev ops draw s).bind k := by
  have hl : ∀ i ∈ List.range ops.size, i < ops.size := fun i hi => List.mem_range.1 hi
  unfold regionK regionV
  cases plainOk ops
  · rfl
  · cases draw
    · exact listK_eq ev ops k _ s hl
    · simp only [if_true]
      cases drawOk P ops (Region.before ops)
      · rfl
      · simp only [if_true]
        rw [listDK_eq hev ops _ _ _ _ _ _ hl]
        cases runListD P ev ops (Region.before ops) (List.range ops.size) ⟨s, [], []⟩ with
        | none => rfl
        | some d =>
          simp only [Option.bind_some]
          unfold chk
          cases d.reads.all fun b => !d.ms.contains b <;> rfl

def codeK (P : Program) (ev : Ev) (lp : Run → Run) : Code → St → (Ex → St → Option β) → Option β
  | .skip => fun s k => k .normal s
  | .label _ => fun s k => k .normal s
  | .ret => fun s k => k .ret s
  | .exit id => fun s k => k (.exit id) s
  | .region _ ops draw => fun s k => regionK P ev ops draw s fun s' => k .normal s'
  | .seq a b => fun s k => codeK P ev lp a s fun e s' => match e with
    | .normal => codeK P ev lp b s' k
    | e => k e s'
  | .cond c a b => fun s k => match constOk c with
    | true => cnd (evalO s.T c) (codeK P ev lp a s k) (codeK P ev lp b s k)
    | false => none
  | .block id c => fun s k => codeK P ev lp c s fun e s' => k (e.inBlock id) s'
  | .loop c => fun s k => obR (lp (runCode P ev lp c) s) k
  | _ => fun _ _ => none
theorem codeK_eq {ev : Ev} (hev : EvMods ev) (lp : Run → Run) : ∀ (c : Code) (s : St) (k : Ex → St → Option β), codeK P ev lp c s k = obR (runCode P ev lp c s) k := by
  intro c
  induction c with
  | skip => intro s k; rfl
  | label => intro s k; rfl
  | ret => intro s k; rfl
  | exit => intro s k; rfl
  | region id ops draw =>
    intro s k
    show regionK P ev ops draw s _ = obR ((regionV P ev ops draw s).map _) k
    rw [regionK_eq hev]
    cases regionV P ev ops draw s <;> rfl
  | seq a b iha ihb =>
    intro s k
    show codeK P ev lp a s _ = obR ((runCode P ev lp a s).bind _) k
    rw [iha]
    cases runCode P ev lp a s with
    | none => rfl
    | some r =>
      obtain ⟨e, s'⟩ := r
      cases e with
      | normal => exact ihb s' k
      | _ => rfl
  | cond c a b iha ihb =>
    intro s k
    show (match constOk c with | true => cnd (evalO s.T c) _ _ | false => none) = obR (if constOk c then (match evalO s.T c with | .bool true => _ | .bool false => _ | _ => none) else none) k
    cases constOk c
    · rfl
    · simp only [if_true, iha, ihb]
      unfold cnd
      cases evalO s.T c with
      | bool t => cases t <;> rfl
      | _ => rfl
  | block id c ih =>
    intro s k
    show codeK P ev lp c s _ = obR ((runCode P ev lp c s).map _) k
    rw [ih]
    cases runCode P ev lp c s <;> rfl
  | loop c ih => intro s k; rfl
  | _ => intros; rfl
def fin (h0 : Heap) (v : Option Value) (h : Heap) : Option (Value × Heap) := v.map fun v => (v, { h with mods := h.mods.filter (· < h0.blks.length) ++ h0.mods })
def callK (P : Program) (ev : Ev) (lp : Run → Run) (f : FuncId) (args : Array Value) (h : Heap) : Option (Value × Heap) :=
  match P.funcs[f]? with
  | some fn =>
    match fn.body with
    | some c => codeK P ev lp c ⟨args ++ Array.replicate (fn.ntmps - args.size) undef, nm h⟩ fun e s => match e with
      | .normal => fin h (resultsV P fn s) s.h
      | .ret => fin h (resultsV P fn s) s.h
      | _ => none
    | none => none
  | none => none
theorem callK_eq {ev : Ev} (hev : EvMods ev) (lp : Run → Run) (f : FuncId) (args : Array Value) (h : Heap) : callBody P ev lp f args h = callK P ev lp f args h := by
  unfold callBody callK
  cases P.funcs[f]? with
  | none => rfl
  | some fn =>
    simp only []
    cases fn.body with
    | none => rfl
    | some c =>
      simp only []
      rw [codeK_eq hev]
      show _ = obR (runCode P ev lp c ⟨_, { h with mods := [] }⟩) _
      cases runCode P ev lp c ⟨args ++ Array.replicate (fn.ntmps - args.size) undef, { h with mods := [] }⟩ with
      | none => rfl
      | some r =>
        obtain ⟨e, s⟩ := r
        cases e <;> rfl
theorem evC_K [Xt P] [XtM P] (f : FuncId) (args : Array Value) (h : Heap) (hX : Xt.X P f = none) : evC P f args h = callK P (evC P) loopL f args h := by
  rw [evC_eq f args h hX, callK_eq evC_m]

def subC : Code → List Bool → Code
  | c, [] => c
  | .seq a b, d :: l => subC (match d with | true => b | false => a) l
  | .cond _ a b, d :: l => subC (match d with | true => b | false => a) l
  | .block _ c, _ :: l => subC c l
  | .loop c, _ :: l => subC c l
  | c, _ :: _ => c
def bodyC (f : Func) (l : List Bool) : Code := match f.body with | some c => subC c l | none => .skip
noncomputable def seqK (P : Program) (ev : Ev) (c : Code) (k : Ex → St → Option β) : Ex → St → Option β := fun e s => match e with
  | .normal => codeK P ev loopL c s k
  | e => k e s
def blockK (id : Nat) (k : Ex → St → Option β) : Ex → St → Option β := fun e s => k (e.inBlock id) s
noncomputable def loopK (P : Program) (ev : Ev) (c : Code) (s : St) (k : Ex → St → Option β) : Option β := obR (loopL (runCode P ev loopL c) s) k
def retK (fn : Func) (P : Program) (h : Heap) : Ex → St → Option (Value × Heap) := fun e s => match e with
  | .normal => fin h (resultsV P fn s) s.h
  | .ret => fin h (resultsV P fn s) s.h
  | _ => none
@[simp] theorem seqK_normal (ev : Ev) (c : Code) (k : Ex → St → Option β) (s : St) : seqK P ev c k .normal s = codeK P ev loopL c s k := rfl
@[simp] theorem seqK_ret (ev : Ev) (c : Code) (k : Ex → St → Option β) (s : St) : seqK P ev c k .ret s = k .ret s := rfl
@[simp] theorem seqK_exit (ev : Ev) (c : Code) (k : Ex → St → Option β) (i : Nat) (s : St) : seqK P ev c k (.exit i) s = k (.exit i) s := rfl
@[simp] theorem blockK_normal (id : Nat) (k : Ex → St → Option β) (s : St) : blockK id k .normal s = k .normal s := rfl
@[simp] theorem blockK_ret (id : Nat) (k : Ex → St → Option β) (s : St) : blockK id k .ret s = k .ret s := rfl
theorem blockK_exit (id : Nat) (k : Ex → St → Option β) (i : Nat) (s : St) : blockK id k (.exit i) s = k (if i = id then .normal else .exit i) s := rfl
@[simp] theorem blockK_same (id : Nat) (k : Ex → St → Option β) (s : St) : blockK id k (.exit id) s = k .normal s := by rw [blockK_exit, if_pos rfl]
noncomputable def againK (P : Program) (ev : Ev) (c : Code) (k : Ex → St → Option β) : Ex → St → Option β := fun e s => match e with
  | .normal => loopK P ev c s k
  | e => k e s
@[simp] theorem againK_normal (ev : Ev) (c : Code) (k : Ex → St → Option β) (s : St) : againK P ev c k .normal s = loopK P ev c s k := rfl
@[simp] theorem againK_ret (ev : Ev) (c : Code) (k : Ex → St → Option β) (s : St) : againK P ev c k .ret s = k .ret s := rfl
@[simp] theorem againK_exit (ev : Ev) (c : Code) (k : Ex → St → Option β) (i : Nat) (s : St) : againK P ev c k (.exit i) s = k (.exit i) s := rfl
theorem loopK_eq {ev : Ev} (hev : EvMods ev) (c : Code) (s : St) (k : Ex → St → Option β) : loopK P ev c s k = codeK P ev loopL c s (againK P ev c k) := by
  rw [codeK_eq hev]
  unfold loopK
  rw [loopL_eq]
  cases runCode P ev loopL c s with
  | none => rfl
  | some r =>
    obtain ⟨e, s'⟩ := r
    cases e <;> rfl

def Gives {α : Type} (x : Option α) (Q : α → Prop) : Prop := ∃ a, x = some a ∧ Q a
theorem Gives.some {α : Type} {a : α} {Q : α → Prop} (h : Q a) : Gives (some a) Q := ⟨a, rfl, h⟩
theorem Gives.mono {α : Type} {x : Option α} {Q Q' : α → Prop} (h : Gives x Q) (hq : ∀ a, Q a → Q' a) : Gives x Q' := let ⟨a, e, q⟩ := h; ⟨a, e, hq a q⟩
theorem Gives.loop [Xt P] [XtM P] {c : Code} {k : Ex → St → Option β} {Q : β → Prop} (I : St → Prop) (μ : St → Nat) {s : St} (hs : I s)
    (h : ∀ s, I s → (∀ s', I s' → μ s' < μ s → Gives (loopK P (evC P) c s' k) Q) → Gives (codeK P (evC P) loopL c s (againK P (evC P) c k)) Q) : Gives (loopK P (evC P) c s k) Q := by
  generalize hn : μ s = n
  induction n using Nat.strongRecOn generalizing s with
  | _ n ih =>
    rw [loopK_eq evC_m]
    exact h s hs fun s' hs' hlt => ih (μ s') (by omega) hs' rfl
theorem evC_call [Xt P] [XtM P] (f : FuncId) (fn : Func) (c : Code) (hf : P.funcs[f]? = Option.some fn) (hc : fn.body = Option.some c) (args : Array Value) (h : Heap) (hX : Xt.X P f = Option.none := by rfl) :
    evC P f args h = codeK P (evC P) loopL c ⟨args ++ Array.replicate (fn.ntmps - args.size) undef, nm h⟩ (retK fn P h) := by
  rw [evC_K f args h hX]
  unfold callK
  rw [hf]
  simp only []
  rw [hc]
  rfl
end Go.Am
namespace Go.Am
variable {P : Program} {β : Type}

@[simp] theorem gd_true (v : Option Value) : gd true v = v := (id rfl)
@[simp] theorem gd_false (v : Option Value) : gd false v = some undef := (id rfl)
@[simp] theorem gdV_true (v : Value) : gdV true v = v := (id rfl)
@[simp] theorem gdV_false (v : Value) : gdV false v = undef := (id rfl)
@[simp] theorem gdH_true (h : Heap) (r : Option (Value × Heap)) : gdH true h r = r := (id rfl)
@[simp] theorem gdH_false (h : Heap) (r : Option (Value × Heap)) : gdH false h r = some (undef, h) := (id rfl)
@[simp] theorem gdS_true (h : Heap) (r : Option Heap) : gdS true h r = r := (id rfl)
@[simp] theorem gdS_false (h : Heap) (r : Option Heap) : gdS false h r = some h := (id rfl)
@[simp] theorem wt_ff : wt (.bool false) false = true := (id rfl)
@[simp] theorem wt_tf : wt (.bool true) false = false := (id rfl)
@[simp] theorem wt_ft : wt (.bool false) true = false := (id rfl)
@[simp] theorem wt_tt : wt (.bool true) true = true := (id rfl)
@[simp] theorem wt_undef (b : Bool) : wt undef b = false := by cases b <;> rfl
@[simp] theorem pickV_true (a b : Value) : pickV (.bool true) a b = some a := (id rfl)
@[simp] theorem pickV_false (a b : Value) : pickV (.bool false) a b = some b := (id rfl)
@[simp] theorem pickV_bool (c a b : Bool) : pickV (.bool c) (.bool a) (.bool b) = some (.bool (bif c then a else b)) := by cases c <;> rfl
@[simp] theorem cnd_true (a b : Option β) : cnd (.bool true) a b = a := (id rfl)
@[simp] theorem cnd_false (a b : Option β) : cnd (.bool false) a b = b := (id rfl)
@[simp] theorem cnd_dec (p : Prop) [Decidable p] (a b : Option β) : cnd (.bool (decide p)) a b = if p then a else b := by
  by_cases h : p <;> simp [h]
@[simp] theorem obH_some' (v : Value) (h : Heap) (k : Value → Heap → Option β) : obH (some (v, h)) k = k v h := (id rfl)
@[simp] theorem obH_none (k : Value → Heap → Option β) : obH none k = none := (id rfl)
@[simp] theorem obR_some (e : Ex) (s : St) (k : Ex → St → Option β) : obR (some (e, s)) k = k e s := (id rfl)
@[simp] theorem extractV_tuple (vs : Array Value) (i : Nat) : extractV (.tuple vs) i = vs[i]? := (id rfl)
@[simp] theorem nilCheckV_ptr (P : Program) (a : Addr) : nilCheckV P (.pointer (some a)) = some (.pointer (some a)) := (id rfl)
@[simp] theorem chk_nil_l (m : List Nat) (x : Option β) : chk [] m x = x := (id rfl)
@[simp] theorem chk_nil_r (r : List Nat) (x : Option β) : chk r [] x = x := by
  have : (r.all fun b => !([] : List Nat).contains b) = true := by simp
  unfold chk; rw [this]
@[simp] theorem fin_same (h0 : Heap) (v : Value) : fin h0 (some v) (nm h0) = some (v, h0) := (id rfl)

theorem pureV_pure {v : Value} (hg : ground v = true) : pureV P (pure v) = some v := by
  unfold pureV
  change (match some v with | some v => if ground v then some v else none | none => none) = some v
  simp [hg]
section ints
variable (t : TypeId) (xo yo : Operand) (k yk : IntKind) (a b : Int)
theorem bin_int (op : BinOp) {v : Value} (hg : ground v = true) (h : (do eqGuard op t xo yo (.int k a) (.int yk b); Go.binOp op t (.int k a) (.int yk b)) = pure v) : binV P op t xo yo (.int k a) (.int yk b) = some v := by
  unfold binV
  rw [if_pos (show (ground (.int k a) && ground (.int yk b)) = true from rfl), h]
  exact pureV_pure hg
@[simp] theorem bin_add : binV P .add t xo yo (.int k a) (.int k b) = some (.int k (k.wrap (a + b))) := bin_int t xo yo k k a b .add rfl (by simp [eqGuard, Go.binOp, Op.intArith])
@[simp] theorem bin_sub : binV P .sub t xo yo (.int k a) (.int k b) = some (.int k (k.wrap (a - b))) := bin_int t xo yo k k a b .sub rfl (by simp [eqGuard, Go.binOp, Op.intArith])
@[simp] theorem bin_mul : binV P .mul t xo yo (.int k a) (.int k b) = some (.int k (k.wrap (a * b))) := bin_int t xo yo k k a b .mul rfl (by simp [eqGuard, Go.binOp, Op.intArith])
@[simp] theorem bin_lss : binV P .lss t xo yo (.int k a) (.int k b) = some (.bool (decide (a < b))) := bin_int t xo yo k k a b .lss rfl (by simp [eqGuard, Go.binOp, Op.intCmp])
@[simp] theorem bin_leq : binV P .leq t xo yo (.int k a) (.int k b) = some (.bool (decide (a ≤ b))) := bin_int t xo yo k k a b .leq rfl (by simp [eqGuard, Go.binOp, Op.intCmp])
@[simp] theorem bin_gtr : binV P .gtr t xo yo (.int k a) (.int k b) = some (.bool (decide (a > b))) := bin_int t xo yo k k a b .gtr rfl (by simp [eqGuard, Go.binOp, Op.intCmp])
@[simp] theorem bin_geq : binV P .geq t xo yo (.int k a) (.int k b) = some (.bool (decide (a ≥ b))) := bin_int t xo yo k k a b .geq rfl (by simp [eqGuard, Go.binOp, Op.intCmp])
@[simp] theorem bin_eql : binV P .eql t xo yo (.int k a) (.int k b) = some (.bool (decide (a = b))) := bin_int t xo yo k k a b .eql rfl (by simp [eqGuard, Go.binOp, Op.intCmp]; rw [show (a == b) = decide (a = b) from (by by_cases h : a = b <;> simp [h])])
@[simp] theorem bin_neq : binV P .neq t xo yo (.int k a) (.int k b) = some (.bool (decide (a ≠ b))) := bin_int t xo yo k k a b .neq rfl (by simp [eqGuard, Go.binOp, Op.intCmp]; rw [show (a != b) = !decide (a = b) from (by by_cases h : a = b <;> simp [h])])
end ints

theorem wrap_u64 {n : Int} (h0 : 0 ≤ n) (h1 : n < 2 ^ 64) : IntKind.wrap .u64 n = n := by simp only [IntKind.wrap, IntKind.bits, IntKind.signed]; simp; omega
theorem wrap_i64 {n : Int} (h0 : -2 ^ 63 ≤ n) (h1 : n < 2 ^ 63) : IntKind.wrap .i64 n = n := by
  simp only [IntKind.wrap, IntKind.bits, IntKind.signed]
  simp
  split <;> omega
theorem pureRun_bind {α γ : Type} (s : Sem α) (f : α → Sem γ) : pureRun P (s >>= f) = (pureRun P s).bind fun a => pureRun P (f a) := by
  change pureRun P (s.bind f) = _
  induction s with
  | pure a => rfl
  | program k ih => exact ih P
  | mark m k ih => exact ih
  | _ => rfl
theorem pureRun_under {t : TypeId} {d : TypeDesc} (h : P.underlying t = some d) : pureRun P (underlying t) = some d := by
  change (match P.underlying t with | some d => (pure d : Sem TypeDesc) | none => stuck "no such type") |> pureRun P |> (· = _)
  rw [h]
  rfl
theorem pureV_of {s : Sem Value} {v : Value} (hr : pureRun P s = some v) (hg : ground v = true) : pureV P s = some v := by
  unfold pureV
  rw [hr]
  simp [hg]
theorem conv_int {s d : TypeId} {ks kd : IntKind} (hs : P.underlying s = some (.int ks)) (hd : P.underlying d = some (.int kd)) (k : IntKind) (n : Int) (h : Heap) :
    convV P s d (.int k n) h = some (.int kd (kd.wrap n), h) := by
  have hp : pureV P (Go.convert s d (.int k n)) = some (.int kd (kd.wrap n)) := by
    refine pureV_of ?_ rfl
    simp only [Go.convert]
    rw [pureRun_bind, pureRun_under hs]
    simp only [Option.bind_some]
    rw [pureRun_bind, pureRun_under hd]
    rfl
  unfold convV
  rw [hd, hp]
  simp_all [ground, ground0]
end Go.Am
namespace Go.Am
open Go.Proofs
def keysN : List (Value × Value) → Option (List Nat)
  | [] => some []
  | (.int .u64 n, _) :: es => if 0 ≤ n ∧ n < 2 ^ 64 then (keysN es).map (n.toNat :: ·) else none
  | _ => none
def natV (n : Nat) : Value := .int .u64 n
noncomputable def heldX (args : Array Value) (h : Heap) : Option (Value × Heap) :=
  match args.toList with
  | [.pointer (some ⟨p, 0, none⟩)] =>
    match h.load1 p 2 with
    | some (.map (some r)) =>
      match (mapOf? h r).bind keysN with
      | some [] => some (.slice none 0 0, h)
      | some (k :: ks) =>
        if (k :: ks).Nodup ∧ ks.length < 15 then
          some (.slice (some ⟨h.blks.length, 0, none⟩) (ks.length + 1) UNK, h.new (.cells ((k :: ks).mergeSort.map natV)) 29)
        else none
      | none => none
    | _ => none
  | _ => none
theorem heldX_h {args : Array Value} {h h' : Heap} {v : Value} (e : heldX args h = some (v, h')) :
    ∃ p r es, args = #[.pointer (some ⟨p, 0, none⟩)] ∧ h.load1 p 2 = some (.map (some r)) ∧ mapOf? h r = some es ∧
      (keysN es = some [] ∧ v = .slice none 0 0 ∧ h' = h ∨
        ∃ k ks, keysN es = some (k :: ks) ∧ (k :: ks).Nodup ∧ ks.length < 15 ∧ v = .slice (some ⟨h.blks.length, 0, none⟩) (ks.length + 1) UNK ∧
          h' = h.new (.cells ((k :: ks).mergeSort.map natV)) 29) := by
  unfold heldX at e
  split at e
  · rename_i p ha
    split at e
    · rename_i r hr
      split at e
      · rename_i hk
        obtain ⟨es, hm, hk⟩ := Option.bind_eq_some_iff.1 hk
        cases e
        exact ⟨p, r, es, by rw [← ha], hr, hm, .inl ⟨hk, rfl, rfl⟩⟩
      · rename_i k ks hk
        obtain ⟨es, hm, hk⟩ := Option.bind_eq_some_iff.1 hk
        split at e
        · rename_i hc
          cases e
          exact ⟨p, r, es, by rw [← ha], hr, hm, .inr ⟨k, ks, hk, hc.1, hc.2, rfl, rfl⟩⟩
        · cases e
      · cases e
    · cases e
  · cases e
theorem heldX_m (args : Array Value) : MapM (heldX args) := fun h => by
  unfold heldX
  split
  · simp only [nm_load1]
    split
    · have : ∀ r, mapOf? (nm h) r = mapOf? h r := fun r => rfl
      simp only [this]
      split
      · simp only [Option.map_some]; rfl
      · split
        · simp only [Option.map_some]; rfl
        · rfl
      · rfl
    · rfl
  · rfl
theorem heldX_grow (args : Array Value) (h : Heap) (v : Value) (h' : Heap) (hv : heldX args h = some (v, h')) : Grow h h' := by
  obtain ⟨p, r, es, _, _, _, hh⟩ := heldX_h hv
  rcases hh with ⟨_, _, rfl⟩ | ⟨k, ks, _, _, _, _, rfl⟩
  · exact Grow.refl _
  · exact Grow.new _ _ _ (by simp [Body.kind])
end Go.Am
namespace Go.Am
open Go.Proofs
def tzX (args : Array Value) (h : Heap) : Option (Value × Heap) :=
  match args.toList with
  | [.int .u64 n] => if 0 ≤ n ∧ n < 18446744073709551616 then some (.int .i64 (Lib.ctz 64 n.toNat : Nat), h) else none
  | _ => none
theorem tzX_m (args : Array Value) : MapM (tzX args) := fun h => by
  unfold tzX
  split
  · split <;> rfl
  · rfl
theorem tzX_h {args : Array Value} {h h' : Heap} {v : Value} (e : tzX args h = some (v, h')) : ∃ n : Int, args.toList = [.int .u64 n] ∧ 0 ≤ n ∧ n < 18446744073709551616 ∧ v = .int .i64 (Lib.ctz 64 n.toNat : Nat) ∧ h' = h := by
  unfold tzX at e
  split at e
  · rename_i n hn
    split at e
    · rename_i hc
      cases e; exact ⟨n, hn, hc.1, hc.2, rfl, rfl⟩
    · cases e
  · cases e
end Go.Am
namespace Go.Am
open Go.Proofs
instance : Gl Tryd.prog := ⟨some (0, Lib.deBruijn64tab.map fun (n : Nat) => .int .u8 (n : Int))⟩
noncomputable instance : Xt Tryd.prog := ⟨fun f => if f = 47 then some heldX else if f = 57 then some tzX else none⟩
theorem xt_inv {f : FuncId} {g : Array Value → Heap → Option (Value × Heap)} (h : Xt.X Tryd.prog f = some g) : f = 47 ∧ g = heldX ∨ f = 57 ∧ g = tzX := by
  change (if f = 47 then some heldX else if f = 57 then some tzX else none) = some g at h
  split at h
  · cases h; exact .inl ⟨by assumption, rfl⟩
  · split at h
    · cases h; exact .inr ⟨by assumption, rfl⟩
    · cases h
instance : XtM Tryd.prog := ⟨fun f g h args => by
  rcases xt_inv h with ⟨_, rfl⟩ | ⟨_, rfl⟩
  · exact heldX_m _
  · exact tzX_m _⟩
end Go.Am
namespace Go.Am
variable {P : Program}

structure HExt (h h' : Heap) : Prop where
  len : h.blks.length ≤ h'.blks.length
  old : ∀ b, b < h.blks.length → h'.blks[b]? = h.blks[b]?
  mods : h'.mods = h.mods
theorem HExt.refl (h : Heap) : HExt h h := ⟨Nat.le_refl _, fun _ _ => rfl, rfl⟩
theorem HExt.trans {a b c : Heap} (h : HExt a b) (k : HExt b c) : HExt a c :=
  ⟨Nat.le_trans h.len k.len, fun i hi => (k.old i (Nat.lt_of_lt_of_le hi h.len)).trans (h.old i hi), k.mods.trans h.mods⟩
structure Keeps (n : Nat) (h h' : Heap) : Prop where
  le : n ≤ h.blks.length
  len : h.blks.length ≤ h'.blks.length
  old : ∀ b, b < n → h'.blks[b]? = h.blks[b]?
  mods : ∀ m, m ∈ h'.mods → m ∈ h.mods ∨ n ≤ m
theorem Keeps.refl {n : Nat} {h : Heap} (hn : n ≤ h.blks.length) : Keeps n h h := ⟨hn, Nat.le_refl _, fun _ _ => rfl, fun _ hm => .inl hm⟩
theorem Keeps.trans {n : Nat} {a b c : Heap} (h : Keeps n a b) (k : Keeps n b c) : Keeps n a c :=
  ⟨h.le, Nat.le_trans h.len k.len, fun i hi => (k.old i hi).trans (h.old i hi), fun m hm => (k.mods m hm).elim (h.mods m) .inr⟩
def done (h0 h : Heap) : Heap := { h with mods := h.mods.filter (· < h0.blks.length) ++ h0.mods }
theorem fin_done (h0 : Heap) (v : Value) (h : Heap) : fin h0 (some v) h = some (v, done h0 h) := rfl
@[simp] theorem done_blks (h0 h : Heap) : (done h0 h).blks = h.blks := rfl
@[simp] theorem done_nm (h : Heap) : done h (nm h) = h := rfl

inductive Row (h : Heap) (es : Nat) : Value → Nat → List Value → Prop
  | nil : Row h es (.slice none 0 0) 0 []
  | mk {b o n c : Nat} {cs : List Value} : h.loadN b o (n * es) = some cs → Row h es (.slice (some ⟨b, o, none⟩) n c) n cs
theorem loadN_of {h h' : Heap} {b : Nat} (hb : h'.blks[b]? = h.blks[b]?) (o n : Nat) : h'.loadN b o n = h.loadN b o n := by
  simp only [Heap.loadN, Heap.cells?, hb]
theorem loadN_lt {h : Heap} {b o n : Nat} {cs : List Value} (hl : h.loadN b o n = some cs) : b < h.blks.length := by
  unfold Heap.loadN Heap.cells? at hl
  rcases Nat.lt_or_ge b h.blks.length with h1 | h1
  · exact h1
  · rw [List.getElem?_eq_none h1] at hl; cases hl
theorem Row.ext {h h' : Heap} {es n : Nat} {v : Value} {cs : List Value} (r : Row h es v n cs) (e : HExt h h') : Row h' es v n cs := by
  cases r with
  | nil => exact .nil
  | mk hl => exact .mk (by rw [loadN_of (e.old _ (loadN_lt hl))]; exact hl)

inductive Acc (n0 : Nat) (h : Heap) (elem : TypeId) (es : Nat) : Value → Nat → List Value → Prop
  | nil : Acc n0 h elem es (.slice none 0 0) 0 []
  | full {b o n : Nat} {cs all : List Value} : n0 ≤ b → n < 2 ^ 62 → h.blks[b]? = some ⟨.cells all, elem, true⟩ → o + n * es ≤ all.length → (all.drop o).take (n * es) = cs → Acc n0 h elem es (.slice (some ⟨b, o, none⟩) n n) n cs
  | unk {b o n : Nat} {cs all : List Value} : n0 ≤ b → h.blks[b]? = some ⟨.cells all, elem, true⟩ → o + n * es ≤ all.length → (all.drop o).take (n * es) = cs → Acc n0 h elem es (.slice (some ⟨b, o, none⟩) n UNK) n cs
theorem loadN_own {h : Heap} {b o m : Nat} {all : List Value} {ty : TypeId} {ow : Bool} (hb : h.blks[b]? = some ⟨.cells all, ty, ow⟩) (hle : o + m ≤ all.length) : h.loadN b o m = some ((all.drop o).take m) := by
  simp only [Heap.loadN, Heap.cells?, hb, if_pos hle]
theorem Acc.row {n0 : Nat} {h : Heap} {elem : TypeId} {es n : Nat} {v : Value} {cs : List Value} (a : Acc n0 h elem es v n cs) : Row h es v n cs := by
  cases a with
  | nil => exact .nil
  | full _ _ hb hle he => exact .mk (by rw [loadN_own hb hle, he])
  | unk _ hb hle he =>
    refine .mk ?_
    simp only [Heap.loadN, Heap.cells?, hb, if_pos hle, he]
theorem Row.len {h : Heap} {es n : Nat} {v : Value} {cs : List Value} (r : Row h es v n cs) : cs.length = n * es := by
  cases r with
  | nil => simp
  | mk hl =>
    unfold Heap.loadN at hl
    split at hl
    · split at hl
      · simp only [Option.some.injEq] at hl
        rw [← hl]; simp; omega
      · cases hl
    · cases hl
def blockOf : Value → Option Nat
  | .slice (some a) _ _ => some a.block
  | .pointer (some a) => some a.block
  | _ => none
theorem Row.keep {h h' : Heap} {es n : Nat} {v : Value} {cs : List Value} (r : Row h es v n cs) (k : ∀ b, b < h.blks.length → blockOf v = some b → h'.blks[b]? = h.blks[b]?) : Row h' es v n cs := by
  cases r with
  | nil => exact .nil
  | mk hl => exact .mk (by rw [loadN_of (k _ (loadN_lt hl) rfl)]; exact hl)
theorem Acc.keep {n0 : Nat} {h h' : Heap} {elem : TypeId} {es n : Nat} {v : Value} {cs : List Value} (a : Acc n0 h elem es v n cs) (k : ∀ b, b < h.blks.length → blockOf v = some b → h'.blks[b]? = h.blks[b]?) : Acc n0 h' elem es v n cs := by
  cases a with
  | nil => exact .nil
  | full h1 hn hb hle he => exact .full h1 hn (by rw [k _ (List.getElem?_eq_some_iff.1 hb).1 rfl]; exact hb) hle he
  | unk hb0 hb hle he => exact .unk hb0 (by rw [k _ (List.getElem?_eq_some_iff.1 hb).1 rfl]; exact hb) hle he
theorem Acc.up {n0 n1 : Nat} {h : Heap} {elem : TypeId} {es n : Nat} {v : Value} {cs : List Value} (a : Acc n0 h elem es v n cs) (hn : n1 ≤ n0) : Acc n1 h elem es v n cs := by
  cases a with
  | nil => exact .nil
  | full h1 hn hb hle he => exact .full (by omega) hn hb hle he
  | unk hb0 hb hle he => exact .unk (by omega) hb hle he
def byteV (b : UInt8) : Value := .int .u8 b.toNat
theorem Keeps.new {n : Nat} {h : Heap} (hn : n ≤ h.blks.length) (body : Body) (ty : TypeId) : Keeps n h (h.new body ty) :=
  ⟨hn, by simp [Heap.new], fun b hb => Heap.new_old (by omega), fun _ hm => .inl hm⟩
theorem Row.lt {h : Heap} {es n : Nat} {v : Value} {cs : List Value} (r : Row h es v n cs) {b : Nat} (hb : blockOf v = some b) : b < h.blks.length := by
  cases r with
  | nil => cases hb
  | mk hl => cases hb; exact loadN_lt hl
theorem natOf_int (k : IntKind) (n : Nat) : natOf? (.int k n) = some n := by simp [natOf?]
inductive Sl (P : Program) (h : Heap) (es : Nat) : Value → Nat → List Value → Prop
  | nil : Sl P h es (.slice none 0 0) 0 []
  | mk {b o n c : Nat} {cs : List Value} : h.loadN b o (n * es) = some cs → (c = UNK ∧ esOf P h b = some es ∨ n ≤ c ∧ c < UNK) → Sl P h es (.slice (some ⟨b, o, none⟩) n c) n cs
theorem Sl.row {h : Heap} {es n : Nat} {v : Value} {cs : List Value} (r : Sl P h es v n cs) : Row h es v n cs := by
  cases r with
  | nil => exact .nil
  | mk a _ => exact .mk a
theorem esOf_of {h h' : Heap} {b : Nat} (hb : h'.blks[b]? = h.blks[b]?) : esOf P h' b = esOf P h b := by unfold esOf; rw [hb]
theorem Sl.keep {h h' : Heap} {es n : Nat} {v : Value} {cs : List Value} (r : Sl P h es v n cs) (k : ∀ b, b < h.blks.length → blockOf v = some b → h'.blks[b]? = h.blks[b]?) : Sl P h' es v n cs := by
  cases r with
  | nil => exact .nil
  | mk hl hc =>
    have e := k _ (loadN_lt hl) rfl
    exact .mk (by rw [loadN_of e]; exact hl) (by rw [esOf_of e]; exact hc)
theorem Sl.ext {h h' : Heap} {es n : Nat} {v : Value} {cs : List Value} (r : Sl P h es v n cs) (e : HExt h h') : Sl P h' es v n cs := r.keep fun b hb _ => e.old b hb
theorem Sl.len {h : Heap} {es n : Nat} {v : Value} {cs : List Value} (r : Sl P h es v n cs) : cs.length = n * es := r.row.len
theorem Acc.ge {n0 : Nat} {h : Heap} {elem : TypeId} {es n : Nat} {v : Value} {cs : List Value} (a : Acc n0 h elem es v n cs) {b : Nat} (hb : blockOf v = some b) : n0 ≤ b := by
  cases a with
  | nil => cases hb
  | full h1 _ _ _ _ => cases hb; exact h1
  | unk h1 _ _ _ => cases hb; exact h1
theorem Acc.ne {n0 : Nat} {h : Heap} {elem : TypeId} {es n : Nat} {v : Value} {cs : List Value} (a : Acc n0 h elem es v n cs) {p : Nat} (hp : p < n0) : blockOf v ≠ some p := fun e => by have := a.ge e; omega
theorem loadN_sub {h : Heap} {b o n : Nat} {cs : List Value} (hl : h.loadN b o n = some cs) {i m : Nat} (hi : i + m ≤ n) : h.loadN b (o + i) m = some ((cs.drop i).take m) := by
  unfold Heap.loadN at hl ⊢
  split at hl
  · rename_i all ha
    split at hl
    · simp only [Option.some.injEq] at hl
      rw [if_pos (by omega), ← hl, List.drop_take, List.drop_drop, List.take_take, Nat.min_eq_left (by omega)]
    · cases hl
  · cases hl
theorem Sl.sub {h : Heap} {es n : Nat} {v : Value} {cs : List Value} (r : Sl P h es v n cs) {t elem : TypeId} (ht : P.underlying t = some (.slice elem)) (hs : sizeT P elem = some es) {i j : Nat} (hij : i ≤ j) (hj : j ≤ n)
    {lo hi : Option Value} (hlo : lo.elim (some 0) natOf? = some i) (hhi : hi.elim (some n) natOf? = some j) :
    ∃ w, sliceV P t v lo hi none h = some w ∧ Sl P h es w (j - i) ((cs.drop (i * es)).take ((j - i) * es)) ∧ (blockOf w = blockOf v) := by
  have hm : i * es + (j - i) * es ≤ n * es := by rw [← Nat.add_mul]; exact Nat.mul_le_mul_right _ (by omega)
  cases r with
  | nil =>
    obtain rfl : j = 0 := by omega
    obtain rfl : i = 0 := by omega
    refine ⟨.slice none 0 0, ?_, by simpa using Sl.nil, rfl⟩
    unfold sliceV
    rw [ht]
    simp only [hs, hlo, hhi, Option.elim_none]
    rw [if_neg (by simp), if_neg (by unfold UNK; omega), if_pos ⟨Nat.le_refl _, Nat.le_refl _, by unfold UNK; omega⟩]
  | mk hl hc =>
    rename_i b o c
    rcases hc with ⟨rfl, he⟩ | ⟨h1, h2⟩
    · refine ⟨.slice (some ⟨b, o + i * es, none⟩) (j - i) UNK, ?_, .mk (loadN_sub hl hm) (.inl ⟨rfl, he⟩), rfl⟩
      unfold sliceV
      rw [ht]
      simp only [hs, hlo, hhi, Option.elim_none]
      rw [if_neg (by simp), if_pos trivial]
      rw [if_pos ⟨hij, hj, he⟩]
    · refine ⟨.slice (some (if c = i then ⟨b, o, none⟩ else ⟨b, o + i * es, none⟩)) (j - i) (c - i), ?_, ?_, ?_⟩
      · unfold sliceV
        rw [ht]
        simp only [hs, hlo, hhi, Option.elim_none]
        rw [if_neg (by simp), if_neg (by omega), if_pos ⟨hij, by omega, h2⟩]
      · by_cases hci : c = i
        · rw [if_pos hci]
          have : j = i := by omega
          subst this
          refine .mk ?_ (.inr ⟨by omega, by omega⟩)
          have := loadN_sub hl (i := 0) (m := 0) (by omega)
          simpa using this
        · rw [if_neg hci]
          exact .mk (loadN_sub hl hm) (.inr ⟨by omega, by omega⟩)
      · split <;> rfl
end Go.Am
namespace Go.Am
variable {P : Program} {β : Type}
theorem if_true' (a b : β) : (if True then a else b) = a := (id rfl)
theorem if_false' (a b : β) : (if False then a else b) = b := (id rfl)
theorem idx0 (a : Value) (l : List Value) : (Array.mk (a :: l))[0]? = some a := by simp
theorem idx1 (a b : Value) (l : List Value) : (Array.mk (a :: b :: l))[1]? = some b := by simp
theorem idx2 (a b c : Value) (l : List Value) : (Array.mk (a :: b :: c :: l))[2]? = some c := by simp
theorem idx3 (a b c d : Value) (l : List Value) : (Array.mk (a :: b :: c :: d :: l))[3]? = some d := by simp
theorem idx4 (a b c d e : Value) (l : List Value) : (Array.mk (a :: b :: c :: d :: e :: l))[4]? = some e := by simp
theorem un_not (b : Bool) : unV P .not (.bool b) = some (.bool (!b)) := by cases b <;> rfl
theorem unV_ground {op : UnOp} {x v : Value} (hx : ground x = true) (hv : ground v = true) (h : Op.unary op x = pure v) : unV P op x = some v := by
  unfold unV
  rw [if_pos hx, h]
  exact pureV_pure hv
theorem un_neg (k : IntKind) (n : Int) : unV P .neg (.int k n) = some (.int k (k.wrap (0 - n))) := unV_ground rfl rfl rfl
def strV (l : List UInt8) : Value := .string ⟨l.toArray⟩
section strs
variable (t : TypeId) (xo yo : Operand) (a b : List UInt8)
end strs
section bits
variable (t : TypeId) (xo yo : Operand) (k : IntKind) (a b : Int)
end bits
theorem conv_u64 {s d : TypeId} {ks : IntKind} (hs : P.underlying s = some (.int ks)) (hd : P.underlying d = some (.int .u64)) (k : IntKind) (n : Int) (h : Heap) (h0 : 0 ≤ n) (h1 : n < 2 ^ 64) :
    convV P s d (.int k n) h = some (.int .u64 n, h) := by rw [conv_int hs hd, wrap_u64 h0 h1]
def rvals (r : Option (List Value)) : Option Value := match r with
  | some [v] => some v
  | some vs => some (.tuple vs.toArray)
  | none => none
@[simp] theorem rvals_one (v : Value) : rvals (some [v]) = some v := (id rfl)
@[simp] theorem rvals_two (v w : Value) : rvals (some [v, w]) = some (.tuple #[v, w]) := (id rfl)
@[simp] theorem rvals_three (v w x : Value) : rvals (some [v, w, x]) = some (.tuple #[v, w, x]) := (id rfl)
end Go.Am
namespace Go.Am
open Go.RowKit Go.ChangeShapes
variable {P : Program} [Gl P]

structure Ctx (P : Program) [Gl P] (E : Env) (h : Heap) (W : World) : Prop where
  rel : Rel P W.heap.size E h W
  out : ∀ b, h.blks.length ≤ b → E b = none
theorem Ctx.none (W : World) (hG : GlobW P W.heap.size W) : Ctx P noE ⟨[], []⟩ W := ⟨rel_none W hG, fun _ _ => rfl⟩
def addRo (h : Heap) (vs : List Value) (e : TypeId) : Heap := ⟨h.blks ++ [⟨.cells vs, e, false⟩], h.mods⟩
theorem BlkR.mono_ro {E E' : Env} (hE : Ext E E') {k : Blk} {l : Loc} {w : World} (h : BlkR P E k l w) : BlkR P E' k l w := by
  obtain ⟨body, ty, own⟩ := k
  cases body with
  | cells cs => exact ⟨h.1, fun i v hi => let ⟨v', a, b⟩ := h.2.1 i v hi; ⟨v', a, b.mono hE⟩, h.2.2⟩
  | map es => 
    obtain ⟨es', cl, h1, h2, h3, h4⟩ := h
    exact ⟨es', cl, h1, h2, (fun i e e' a b => ⟨(h3 i e e' a b).1.mono hE, (h3 i e e' a b).2.mono hE⟩), h4⟩
  | dead => exact h
  | gone => trivial
theorem Ctx.add {E : Env} {h : Heap} {W : World} (c : Ctx P E h W) {cb s e es : Nat} {vs : List Value} (hs : sizeT P e = some es) (hcb : cb < W.heap.size)
    (hv : ∀ i v, vs[i]? = some v → ∃ v', W.cell? ⟨cb, s + i, Option.none⟩ = some v' ∧ VR E v v') :
    Ctx P (E.upd h.blks.length ⟨cb, s, 0, es⟩) (addRo h vs e) W ∧ Ext E (E.upd h.blks.length ⟨cb, s, 0, es⟩) := by
  have hE : Ext E (E.upd h.blks.length ⟨cb, s, 0, es⟩) := Env.upd_ext (c.out _ (Nat.le_refl _))
  have old : ∀ (b : Nat) k l, (addRo h vs e).blks[b]? = some k → (E.upd h.blks.length ⟨cb, s, 0, es⟩) b = some l →
      (b = h.blks.length ∧ k = ⟨.cells vs, e, false⟩ ∧ l = ⟨cb, s, 0, es⟩) ∨ (b < h.blks.length ∧ h.blks[b]? = some k ∧ E b = some l) := by
    intro b k l hk hl
    rcases Nat.lt_trichotomy b h.blks.length with hlt | rfl | hgt
    · refine .inr ⟨hlt, ?_, ?_⟩
      · unfold addRo at hk; rwa [List.getElem?_append_left hlt] at hk
      · rwa [Env.upd_other _ _ (by omega)] at hl
    · refine .inl ⟨rfl, ?_, ?_⟩
      · unfold addRo at hk; simpa using hk.symm
      · rw [Env.upd_same] at hl; exact (Option.some.inj hl).symm
    · rw [Env.upd_other _ _ (by omega), c.out b (by omega)] at hl; cases hl
  refine ⟨⟨⟨?_, ?_, ?_, ?_, ?_, c.rel.glob, Nat.le_refl _⟩, ?_⟩, hE⟩
  · intro b k l hk hl
    rcases old b k l hk hl with ⟨rfl, rfl, rfl⟩ | ⟨_, h1, h2⟩
    · exact ⟨hs, fun i v hi => let ⟨v', a, b⟩ := hv i v hi; ⟨v', a, b.mono hE⟩, fun h => by cases h⟩
    · exact (c.rel.blk b k l h1 h2).mono_ro hE
  · intro b k l hk hl ho
    rcases old b k l hk hl with ⟨rfl, rfl, rfl⟩ | ⟨_, h1, h2⟩
    · cases ho
    · exact c.rel.low b k l h1 h2 ho
  · intro b k l hk hl ho
    rcases old b k l hk hl with ⟨rfl, rfl, rfl⟩ | ⟨_, h1, h2⟩
    · exact hcb
    · exact c.rel.ro b k l h1 h2 ho
  · intro b l hl
    by_cases hb : b = h.blks.length
    · subst hb; rw [Env.upd_same] at hl; cases hl; exact hcb
    · rw [Env.upd_other _ _ hb] at hl; exact c.rel.bnd b l hl
  · intro b b2 k k2 l l2 hk hk2 hl hl2 ho ho2 hv1 hv2 hc
    rcases old b k l hk hl with ⟨rfl, rfl, rfl⟩ | ⟨_, h1, h2⟩
    · cases ho
    · rcases old b2 k2 l2 hk2 hl2 with ⟨rfl, rfl, rfl⟩ | ⟨_, h3, h4⟩
      · cases ho2
      · exact c.rel.inj b b2 k k2 l l2 h1 h3 h2 h4 ho ho2 hv1 hv2 hc
  · intro b hb
    have : h.blks.length < b := by simp [addRo] at hb; omega
    rw [Env.upd_other _ _ (by omega)]
    exact c.out b (by omega)
inductive All2 {α β : Type} (R : α → β → Prop) : List α → List β → Prop
  | nil : All2 R [] []
  | cons {a : α} {b : β} {l : List α} {m : List β} : R a b → All2 R l m → All2 R (a :: l) (b :: m)
namespace All2
variable {α β : Type} {R S : α → β → Prop}
theorem mono {l : List α} {m : List β} (h : All2 R l m) (f : ∀ a b, R a b → S a b) : All2 S l m := by
  induction h with
  | nil => exact .nil
  | cons a _ ih => exact .cons (f _ _ a) ih
theorem len {l : List α} {m : List β} (h : All2 R l m) : l.length = m.length := by
  induction h with
  | nil => rfl
  | cons _ _ ih => simp [ih]
theorem append {l l' : List α} {m m' : List β} (h : All2 R l m) (h' : All2 R l' m') : All2 R (l ++ l') (m ++ m') := by
  induction h with
  | nil => exact h'
  | cons a _ ih => exact .cons a ih
theorem get {l : List α} {m : List β} (h : All2 R l m) : ∀ {i : Nat} {a : α}, l[i]? = some a → ∃ b, m[i]? = some b ∧ R a b := by
  induction h with
  | nil => intro i a hi; simp at hi
  | cons x _ ih =>
    intro i a hi
    cases i with
    | zero => simp at hi; subst hi; exact ⟨_, rfl, x⟩
    | succ i => simpa using ih (by simpa using hi)
end All2
inductive DT where
  | int (n : Int)
  | bool (b : Bool)
  | float (n : Nat)
  | str (l : List UInt8)
  | slice (l : List DT)
  | agg (l : List DT)
def Reads (P : Program) (h : Heap) : Nat → TypeId → List Value → DT → Prop
  | 0, _, _, _ => False
  | f + 1, t, cs, d => match P.underlying t, d with
    | some (.int k), .int n => cs = [.int k n] ∧ (Lit.int k n).wf = true
    | some .bool, .bool b => cs = [.bool b]
    | some (.float k), .float n => cs = [.float k n] ∧ (Lit.float k n).wf = true
    | some .string, .str l => cs = [strV l] ∧ l.length ≤ reachBytes
    | some (.slice e), .slice l => ∃ v css, cs = [v] ∧ Sl P h (P.cellsOf e) v l.length css.flatten ∧ All2 (fun c d => c.length = P.cellsOf e ∧ Reads P h f e c d) css l ∧ l.length ≤ maxLen
    | some (.struct fs), .agg l => cs.length = P.cellsOf t ∧ All2 (fun (x : Field) d => Reads P h f x.type ((cs.drop x.offset).take (P.cellsOf x.type)) d) fs.toList l
    | _, _ => False
theorem Reads.ext {h h' : Heap} (e : HExt h h') : ∀ {f : Nat} {t : TypeId} {cs : List Value} {d : DT}, Reads P h f t cs d → Reads P h' f t cs d := by
  intro f
  induction f with
  | zero => intro t cs d hr; exact hr.elim
  | succ f ih =>
    intro t cs d hr
    unfold Reads at hr ⊢
    split <;> simp_all only
    all_goals first
      | exact ⟨trivial, trivial⟩
      | (obtain ⟨v, css, h1, h2, h3, h4⟩ := hr
         exact ⟨v, css, h1, h2.ext e, h3.mono fun _ _ x => ⟨x.1, ih x.2⟩, h4⟩)
      | exact ⟨trivial, hr.2.mono fun _ _ x => ih x⟩
section
variable {H : Type} {enc : TypeId × Value → H} {base : Nat} {held : Bool} {sp : Nat → Bool} {W : World}
theorem old {E1 : Env} {h1 : Heap} (k1 : Ctx P E1 h1 W) {vs : List Value} {e : TypeId} {b : Nat} {k : Blk} {l : Loc} (hk : (addRo h1 vs e).blks[b]? = some k) (hl : E1 b = some l) : h1.blks[b]? = some k := by
  rcases Nat.lt_or_ge b h1.blks.length with hlt | hge
  · unfold addRo at hk; rwa [List.getElem?_append_left hlt] at hk
  · rw [k1.out b hge] at hl; cases hl
end
end Go.Am
namespace Go.Am
open Go.RowKit Go.ChangeShapes Go.WideShapes
variable {P : Program} [Gl P] {H : Type} {enc : TypeId × Value → H} {W W' : World}
def isStruct (P : Program) (t : TypeId) : Bool := match P.underlying t with | some (.struct _) => true | _ => false
def Rd (P : Program) (h : Heap) (t : TypeId) (v : Value) (d : DT) : Prop := (∃ f, Reads P h f t v.cells.toList d) ∧ ((isStruct P t = true ∧ ∃ cs, v = .agg cs) ∨ v.cells = #[v])
theorem Rd.ext {h h' : Heap} (e : HExt h h') {t : TypeId} {v : Value} {d : DT} (r : Rd P h t v d) : Rd P h' t v d := let ⟨⟨f, a⟩, b⟩ := r; ⟨⟨f, a.ext e⟩, b⟩
theorem Rd.one {h : Heap} {t : TypeId} {v : Value} {d : DT} (r : Rd P h t v d) (hs : isStruct P t = false) : ∃ f, Reads P h f t [v] d := by
  obtain ⟨⟨f, a⟩, b⟩ := r
  rcases b with ⟨b, _⟩ | b
  · rw [hs] at b; cases b
  · rw [b] at a; exact ⟨f, a⟩
theorem wf_nat {k : IntKind} {n : Int} (hk : k.signed = false) (hw : (Lit.int k n).wf = true) : 0 ≤ n ∧ n < 2 ^ k.bits := by
  have : k.min ≤ n ∧ n ≤ k.max := by simpa [Lit.wf] using hw
  cases k <;> simp_all [IntKind.min, IntKind.max, IntKind.signed, IntKind.bits] <;> omega
theorem wf_i64 {n : Int} (hw : (Lit.int .i64 n).wf = true) : -2 ^ 63 ≤ n ∧ n < 2 ^ 63 := by
  have : IntKind.i64.min ≤ n ∧ n ≤ IntKind.i64.max := by simpa [Lit.wf] using hw
  simp [IntKind.min, IntKind.max, IntKind.signed, IntKind.bits] at this; omega
theorem Rd.int {h : Heap} {t : TypeId} {v : Value} {d : DT} (r : Rd P h t v d) {k : IntKind} (hu : P.underlying t = some (.int k)) : ∃ n, v = .int k n ∧ (Lit.int k n).wf = true := by
  obtain ⟨f, a⟩ := r.one (by unfold isStruct; rw [hu])
  cases f with
  | zero => exact a.elim
  | succ f =>
    unfold Reads at a
    rw [hu] at a
    cases d <;> simp at a
    exact ⟨_, a.1, a.2⟩
theorem Rd.u64 {h : Heap} {t : TypeId} {v : Value} {d : DT} (r : Rd P h t v d) (hu : P.underlying t = some (.int .u64)) : ∃ n : Nat, v = .int .u64 (n : Int) ∧ n < 2 ^ 64 := by
  obtain ⟨n, rfl, hw⟩ := r.int hu
  have := wf_nat rfl hw
  simp only [IntKind.bits] at this
  exact ⟨n.toNat, by rw [Int.toNat_of_nonneg this.1], by omega⟩
theorem Rd.u8 {h : Heap} {t : TypeId} {v : Value} {d : DT} (r : Rd P h t v d) (hu : P.underlying t = some (.int .u8)) : ∃ n : UInt8, v = byteV n := by
  obtain ⟨n, rfl, hw⟩ := r.int hu
  have := wf_nat rfl hw
  simp only [IntKind.bits] at this
  refine ⟨UInt8.ofNat n.toNat, ?_⟩
  unfold byteV
  congr 1
  simp
  omega
theorem Rd.i64 {h : Heap} {t : TypeId} {v : Value} {d : DT} (r : Rd P h t v d) (hu : P.underlying t = some (.int .i64)) : ∃ n : Int, v = .int .i64 n ∧ -2 ^ 63 ≤ n ∧ n < 2 ^ 63 := by
  obtain ⟨n, rfl, hw⟩ := r.int hu
  exact ⟨n, rfl, wf_i64 hw⟩
theorem Rd.slice {h : Heap} {t e : TypeId} {v : Value} {d : DT} (r : Rd P h t v d) (hu : P.underlying t = some (.slice e)) :
    ∃ f l css, d = .slice l ∧ Sl P h (P.cellsOf e) v l.length css.flatten ∧ All2 (fun c d => c.length = P.cellsOf e ∧ Reads P h f e c d) css l ∧ l.length ≤ maxLen := by
  obtain ⟨f, a⟩ := r.one (by unfold isStruct; rw [hu])
  cases f with
  | zero => exact a.elim
  | succ f =>
    unfold Reads at a
    rw [hu] at a
    cases d <;> simp at a
    obtain ⟨css, a1, a2, a3⟩ := a
    exact ⟨f, _, css, rfl, a1, a2, a3⟩
theorem reads_int {h : Heap} {e : TypeId} {k : IntKind} (hu : P.underlying e = some (.int k)) {f : Nat} {cs : List Value} {d : DT} (x : Reads P h f e cs d) : ∃ n, d = .int n ∧ cs = [.int k n] ∧ (Lit.int k n).wf = true := by
  cases f with
  | zero => exact x.elim
  | succ f =>
    unfold Reads at x
    rw [hu] at x
    cases d <;> simp at x
    exact ⟨_, rfl, x.1, x.2⟩
theorem reads_ints {h : Heap} {e : TypeId} {k : IntKind} (hu : P.underlying e = some (.int k)) {f : Nat} {css : List (List Value)} {l : List DT} (a : All2 (fun c d => c.length = P.cellsOf e ∧ Reads P h f e c d) css l) :
    ∃ zs : List Int, zs.length = l.length ∧ css.flatten = zs.map (Value.int k) ∧ ∀ z ∈ zs, (Lit.int k z).wf = true := by
  induction a with
  | nil => exact ⟨[], rfl, rfl, by simp⟩
  | cons x _ ih =>
    obtain ⟨zs, h1, h2, h3⟩ := ih
    obtain ⟨n, rfl, rfl, hw⟩ := reads_int hu x.2
    refine ⟨n :: zs, by simp [h1], by simp [h2], fun z hz => ?_⟩
    rcases List.mem_cons.1 hz with rfl | hz
    · exact hw
    · exact h3 z hz
theorem Rd.ints {h : Heap} {t e : TypeId} {v : Value} {d : DT} (r : Rd P h t v d) (hu : P.underlying t = some (.slice e)) {k : IntKind} (he : P.underlying e = some (.int k)) (hc : P.cellsOf e = 1) :
    ∃ zs : List Int, Sl P h 1 v zs.length (zs.map (Value.int k)) ∧ (∀ z ∈ zs, (Lit.int k z).wf = true) ∧ zs.length ≤ maxLen := by
  obtain ⟨f, l, css, rfl, h1, h2, h3⟩ := r.slice hu
  obtain ⟨zs, a, b, c⟩ := reads_ints he h2
  rw [hc, b, ← a] at h1
  exact ⟨zs, h1, c, by omega⟩
theorem ints_bytes (zs : List Int) (hz : ∀ z ∈ zs, (Lit.int .u8 z).wf = true) : ∃ bs : List UInt8, bs.length = zs.length ∧ zs.map (Value.int .u8) = bs.map byteV := by
  induction zs with
  | nil => exact ⟨[], rfl, rfl⟩
  | cons z zs ih =>
    obtain ⟨bs, h1, h2⟩ := ih fun y hy => hz y (by simp [hy])
    have := wf_nat rfl (hz z (by simp))
    simp only [IntKind.bits] at this
    refine ⟨UInt8.ofNat z.toNat :: bs, by simp [h1], ?_⟩
    simp only [List.map_cons, h2]
    congr 1
    unfold byteV
    congr 1
    simp
    omega
theorem Rd.bytes {h : Heap} {t e : TypeId} {v : Value} {d : DT} (r : Rd P h t v d) (hu : P.underlying t = some (.slice e)) (he : P.underlying e = some (.int .u8)) (hc : P.cellsOf e = 1) :
    ∃ bs : List UInt8, Sl P h 1 v bs.length (bs.map byteV) ∧ bs.length ≤ maxLen := by
  obtain ⟨zs, h1, h2, h3⟩ := r.ints hu he hc
  obtain ⟨bs, a, b⟩ := ints_bytes zs h2
  rw [b, ← a] at h1
  exact ⟨bs, h1, by omega⟩
end Go.Am
namespace Go.Am
variable {P : Program} {β : Type}
theorem dcF (p : Prop) [Decidable p] (h : ¬ p) : decide p = false := decide_eq_false h
end Go.Am
namespace Go.Am
variable {P : Program} {β : Type}
structure HMod (S : Nat → Prop) (h h' : Heap) : Prop where
  len : h.blks.length ≤ h'.blks.length
  old : ∀ b, b < h.blks.length → ¬ S b → h'.blks[b]? = h.blks[b]?
  mods : ∃ d, h'.mods = d ++ h.mods ∧ ∀ m ∈ d, S m ∧ m < h.blks.length
structure In (n0 : Nat) (S : Nat → Prop) (h h' : Heap) : Prop where
  le : n0 ≤ h.blks.length
  len : h.blks.length ≤ h'.blks.length
  old : ∀ b, b < n0 → ¬ S b → h'.blks[b]? = h.blks[b]?
  mods : ∀ m, m ∈ h'.mods → m ∈ h.mods ∨ n0 ≤ m ∨ S m
def No : Nat → Prop := fun _ => False
def Just (p : Nat) : Nat → Prop := fun b => b = p
theorem HMod.ext {h h' : Heap} (m : HMod No h h') : HExt h h' := by
  obtain ⟨d, e, hd⟩ := m.mods
  have : d = [] := List.eq_nil_iff_forall_not_mem.2 fun x hx => (hd x hx).1
  subst this
  exact ⟨m.len, fun b hb => m.old b hb id, e⟩
theorem HExt.mod {h h' : Heap} (e : HExt h h') (S : Nat → Prop) : HMod S h h' := ⟨e.len, fun b hb _ => e.old b hb, [], e.mods, by simp⟩
theorem HMod.mono {S S' : Nat → Prop} {h h' : Heap} (m : HMod S h h') (hs : ∀ b, b < h.blks.length → S b → S' b) : HMod S' h h' :=
  ⟨m.len, fun b hb hn => m.old b hb fun x => hn (hs b hb x), let ⟨d, e, hd⟩ := m.mods; ⟨d, e, fun x hx => ⟨hs x (hd x hx).2 (hd x hx).1, (hd x hx).2⟩⟩⟩
theorem In.refl {n0 : Nat} {S : Nat → Prop} {h : Heap} (hn : n0 ≤ h.blks.length) : In n0 S h h := ⟨hn, Nat.le_refl _, fun _ _ _ => rfl, fun _ hm => .inl hm⟩
theorem In.trans {n0 : Nat} {S : Nat → Prop} {a b c : Heap} (h : In n0 S a b) (k : In n0 S b c) : In n0 S a c :=
  ⟨h.le, Nat.le_trans h.len k.len, fun i hi hs => (k.old i hi hs).trans (h.old i hi hs), fun m hm => (k.mods m hm).elim (h.mods m) .inr⟩
theorem HMod.inn {S T : Nat → Prop} {h h' : Heap} (m : HMod T h h') {n0 : Nat} (hn : n0 ≤ h.blks.length) (hs : ∀ b, b < n0 → T b → S b) : In n0 S h h' := by
  refine ⟨hn, m.len, fun b hb hb' => m.old b (by omega) fun x => hb' (hs b hb x), fun x hx => ?_⟩
  obtain ⟨d, e, hd⟩ := m.mods
  rw [e] at hx
  rcases List.mem_append.1 hx with hx | hx
  · rcases Nat.lt_or_ge x n0 with h1 | h1
    · exact .inr (.inr (hs x h1 (hd x hx).1))
    · exact .inr (.inl h1)
  · exact .inl hx
theorem HExt.inn {S : Nat → Prop} {h h' : Heap} (e : HExt h h') {n0 : Nat} (hn : n0 ≤ h.blks.length) : In n0 S h h' := (e.mod No).inn hn fun _ _ x => x.elim
theorem Keeps.inn {S : Nat → Prop} {n0 : Nat} {h h' : Heap} (k : Keeps n0 h h') : In n0 S h h' := ⟨k.le, k.len, fun b hb _ => k.old b hb, fun m hm => (k.mods m hm).elim .inl fun x => .inr (.inl x)⟩
theorem In.new {n0 : Nat} {S : Nat → Prop} {h : Heap} (hn : n0 ≤ h.blks.length) (body : Body) (ty : TypeId) : In n0 S h (h.new body ty) := (Keeps.new hn body ty).inn
theorem In.put {n0 : Nat} {S : Nat → Prop} {h : Heap} (hn : n0 ≤ h.blks.length) {p : Nat} (hp : n0 ≤ p ∨ S p) (body : Body) : In n0 S h (h.put p body) := by
  refine ⟨hn, by rw [Heap.put_len]; exact Nat.le_refl _, fun b hb hs => ?_, fun m hm => ?_⟩
  · refine Heap.put_other ?_ _
    intro e
    subst e
    rcases hp with h1 | h1
    · omega
    · exact hs h1
  · unfold Heap.put at hm
    split at hm
    · rcases List.mem_cons.1 hm with rfl | hm
      · exact .inr hp
      · exact .inl hm
    · exact .inl hm
theorem done_mod {S : Nat → Prop} {h0 h : Heap} (k : In h0.blks.length S (nm h0) h) : HMod S h0 (done h0 h) := by
  refine ⟨k.len, k.old, h.mods.filter (fun x => decide (x < h0.blks.length)), rfl, fun m hm => ?_⟩
  obtain ⟨h1, h2⟩ := List.mem_filter.1 hm
  have h2 : m < h0.blks.length := by simpa using h2
  rcases k.mods m h1 with h3 | h3 | h3
  · simp at h3
  · omega
  · exact ⟨h3, h2⟩
theorem done_ext' {h0 h : Heap} (k : In h0.blks.length No (nm h0) h) : HExt h0 (done h0 h) := (done_mod k).ext
theorem blk_new_self (h : Heap) (body : Body) (ty : TypeId) : (h.new body ty).blks[h.blks.length]? = some ⟨body, ty, true⟩ := by simp [Heap.new]
theorem blk_put_self {h : Heap} {p : Nat} {k : Blk} (hk : h.blks[p]? = some k) (body : Body) : (h.put p body).blks[p]? = some { k with body } := by
  rw [Heap.put_eq hk]
  simp [(List.getElem?_eq_some_iff.1 hk).1]
theorem lt_of_blk {h : Heap} {p : Nat} {k : Blk} (hk : h.blks[p]? = some k) : p < h.blks.length := (List.getElem?_eq_some_iff.1 hk).1
theorem load1_blk {h : Heap} {p o : Nat} {cs : List Value} {ty : TypeId} {ow : Bool} (hk : h.blks[p]? = some ⟨.cells cs, ty, ow⟩) : h.load1 p o = cs[o]? := by
  simp only [Heap.load1, Heap.cells?, hk]
theorem loadN_blk {h : Heap} {p n : Nat} {cs : List Value} {ty : TypeId} {ow : Bool} (hk : h.blks[p]? = some ⟨.cells cs, ty, ow⟩) (hn : cs.length = n) : h.loadN p 0 n = some cs := by
  subst hn
  simp only [Heap.loadN, Heap.cells?, hk]
  simp
theorem storeN_blk {h : Heap} {p o : Nat} {cs vs : List Value} {ty : TypeId} (hk : h.blks[p]? = some ⟨.cells cs, ty, true⟩) (ho : o + vs.length ≤ cs.length) :
    h.storeN p o vs = some (h.put p (.cells (cs.take o ++ vs ++ cs.drop (o + vs.length)))) := by
  simp only [Heap.storeN, hk, if_pos ho]
def Cells (h : Heap) (p : Nat) (ty : TypeId) (cs : List Value) : Prop := h.blks[p]? = some ⟨.cells cs, ty, true⟩
theorem Cells.lt {h : Heap} {p : Nat} {ty : TypeId} {cs : List Value} (c : Cells h p ty cs) : p < h.blks.length := lt_of_blk c
theorem Cells.new (h : Heap) (ty : TypeId) (cs : List Value) : Cells (h.new (.cells cs) ty) h.blks.length ty cs := blk_new_self _ _ _
theorem Cells.ext {h h' : Heap} {p : Nat} {ty : TypeId} {cs : List Value} (c : Cells h p ty cs) (e : HExt h h') : Cells h' p ty cs := (e.old p c.lt).trans c
theorem Cells.mod {S : Nat → Prop} {h h' : Heap} {p : Nat} {ty : TypeId} {cs : List Value} (c : Cells h p ty cs) (e : HMod S h h') (hp : ¬ S p) : Cells h' p ty cs := (e.old p c.lt hp).trans c
theorem Cells.load {h : Heap} {p : Nat} {ty : TypeId} {cs : List Value} (c : Cells h p ty cs) (o : Nat) : h.load1 p o = cs[o]? := load1_blk c
theorem Cells.loadN {h : Heap} {p : Nat} {ty : TypeId} {cs : List Value} (c : Cells h p ty cs) {n : Nat} (hn : cs.length = n) : h.loadN p 0 n = some cs := loadN_blk c hn
theorem Cells.put {h : Heap} {p : Nat} {ty : TypeId} {cs : List Value} (c : Cells h p ty cs) (cs' : List Value) : Cells (h.put p (.cells cs')) p ty cs' := by
  unfold Cells; rw [blk_put_self c]
theorem Cells.keepNew {h : Heap} {p : Nat} {ty : TypeId} {cs : List Value} (c : Cells h p ty cs) (body : Body) (t : TypeId) : Cells (h.new body t) p ty cs := by
  unfold Cells; rw [Heap.new_old c.lt]; exact c
theorem Cells.nm {h : Heap} {p : Nat} {ty : TypeId} {cs : List Value} (c : Cells h p ty cs) : Cells (Am.nm h) p ty cs := c
theorem Cells.done {h0 h : Heap} {p : Nat} {ty : TypeId} {cs : List Value} (c : Cells h p ty cs) : Cells (Am.done h0 h) p ty cs := c
theorem Sl.shape {h : Heap} {es n : Nat} {v : Value} {cs : List Value} (r : Sl P h es v n cs) : ∃ a c, v = .slice a n c := by
  cases r <;> exact ⟨_, _, rfl⟩
theorem Acc.shape {n0 : Nat} {h : Heap} {elem : TypeId} {es n : Nat} {v : Value} {cs : List Value} (a : Acc n0 h elem es v n cs) : ∃ a c, v = .slice a n c := by
  cases a <;> exact ⟨_, _, rfl⟩
theorem Sl.nm {h : Heap} {es n : Nat} {v : Value} {cs : List Value} (r : Sl P h es v n cs) : Sl P (Am.nm h) es v n cs := r.keep fun _ _ _ => rfl
theorem Sl.done {h0 h : Heap} {es n : Nat} {v : Value} {cs : List Value} (r : Sl P h es v n cs) : Sl P (Am.done h0 h) es v n cs := r.keep fun _ _ _ => rfl
theorem Acc.done {n0 : Nat} {h0 h : Heap} {elem : TypeId} {es n : Nat} {v : Value} {cs : List Value} (a : Acc n0 h elem es v n cs) : Acc n0 (Am.done h0 h) elem es v n cs := a.keep fun _ _ _ => rfl
theorem Sl.keepNew {h : Heap} {es n : Nat} {v : Value} {cs : List Value} (r : Sl P h es v n cs) (body : Body) (t : TypeId) : Sl P (h.new body t) es v n cs := r.keep fun _ hb _ => Heap.new_old hb
theorem Sl.mod {S : Nat → Prop} {h h' : Heap} {es n : Nat} {v : Value} {cs : List Value} (r : Sl P h es v n cs) (e : HMod S h h') (hv : ∀ b, blockOf v = some b → ¬ S b) : Sl P h' es v n cs :=
  r.keep fun b hb hv' => e.old b hb (hv b hv')
theorem Acc.mod {S : Nat → Prop} {n0 : Nat} {h h' : Heap} {elem : TypeId} {es n : Nat} {v : Value} {cs : List Value} (r : Acc n0 h elem es v n cs) (e : HMod S h h') (hv : ∀ b, blockOf v = some b → ¬ S b) : Acc n0 h' elem es v n cs :=
  r.keep fun b hb hv' => e.old b hb (hv b hv')
theorem Sl.lt {h : Heap} {es n : Nat} {v : Value} {cs : List Value} (r : Sl P h es v n cs) {b : Nat} (hb : blockOf v = some b) : b < h.blks.length := r.row.lt hb
def Same (h h' : Heap) : Prop := h.blks.length ≤ h'.blks.length ∧ ∀ b, b < h.blks.length → h'.blks[b]? = h.blks[b]?
theorem Same.refl (h : Heap) : Same h h := ⟨Nat.le_refl _, fun _ _ => rfl⟩
theorem Same.trans {a b c : Heap} (h : Same a b) (k : Same b c) : Same a c := ⟨Nat.le_trans h.1 k.1, fun i hi => (k.2 i (Nat.lt_of_lt_of_le hi h.1)).trans (h.2 i hi)⟩
theorem HExt.same {h h' : Heap} (e : HExt h h') : Same h h' := ⟨e.len, e.old⟩
theorem Same.new (h : Heap) (body : Body) (t : TypeId) : Same h (h.new body t) := ⟨by simp [Heap.new], fun _ hb => Heap.new_old hb⟩
theorem Same.put {h h' : Heap} (s : Same h h') {p : Nat} (hp : h.blks.length ≤ p) (body : Body) : Same h (h'.put p body) := ⟨by rw [Heap.put_len]; exact s.1, fun b hb => by rw [Heap.put_other (by omega)]; exact s.2 b hb⟩
theorem Same.mod {S : Nat → Prop} {h h1 h2 : Heap} (s : Same h h1) (m : HMod S h1 h2) (hs : ∀ b, b < h.blks.length → ¬ S b) : Same h h2 := ⟨Nat.le_trans s.1 m.len, fun b hb => (m.old b (Nat.lt_of_lt_of_le hb s.1) (hs b hb)).trans (s.2 b hb)⟩
theorem Cells.same {h h' : Heap} {p : Nat} {ty : TypeId} {cs : List Value} (c : Cells h p ty cs) (s : Same h h') : Cells h' p ty cs := (s.2 p c.lt).trans c
theorem Sl.same {h h' : Heap} {es n : Nat} {v : Value} {cs : List Value} (r : Sl P h es v n cs) (s : Same h h') : Sl P h' es v n cs := r.keep fun b hb _ => s.2 b hb
theorem Acc.same {n0 : Nat} {h h' : Heap} {elem : TypeId} {es n : Nat} {v : Value} {cs : List Value} (r : Acc n0 h elem es v n cs) (s : Same h h') : Acc n0 h' elem es v n cs := r.keep fun b hb _ => s.2 b hb
def Lo (v : Value) (p : Nat) : Prop := ∀ b, blockOf v = some b → b < p
theorem Lo.ne {v : Value} {p : Nat} (l : Lo v p) : blockOf v ≠ some p := fun e => by have := l p e; omega
theorem Lo.to {v w : Value} {p : Nat} (l : Lo v p) (e : blockOf w = blockOf v) : Lo w p := fun b hb => l b (by rw [← e]; exact hb)
theorem Lo.nil (n c p : Nat) : Lo (.slice none n c) p := fun b hb => by cases hb
theorem Lo.mono {v : Value} {p q : Nat} (l : Lo v p) (h : p ≤ q) : Lo v q := fun b hb => Nat.lt_of_lt_of_le (l b hb) h
theorem Sl.lo {h : Heap} {es n : Nat} {v : Value} {cs : List Value} (r : Sl P h es v n cs) : Lo v h.blks.length := fun b hb => r.lt hb
theorem obind_congr {α γ : Type} {x x' : Option α} (f : α → Option γ) (h : x = x') : x.bind f = x'.bind f := by rw [h]
theorem obH_congr {r r' : Option (Value × Heap)} (k : Value → Heap → Option β) (h : r = r') : obH r k = obH r' k := by rw [h]
theorem cnd_congr {c c' : Value} (a b : Option β) (h : c = c') : cnd c a b = cnd c' a b := by rw [h]
theorem chk_congr {r r' m m' : List Nat} (x : Option β) (h : r = r') (h' : m = m') : chk r m x = chk r' m' x := by rw [h, h']
theorem retK_congr (fn : Func) (P : Program) (h : Heap) (e : Ex) (s : St) : retK fn P h e s = retK fn P h e s := rfl
theorem codeK_congr (P : Program) (ev : Ev) (lp : Run → Run) (c : Code) (s : St) (k : Ex → St → Option β) : codeK P ev lp c s k = codeK P ev lp c s k := rfl
end Go.Am
namespace Go.Am
open Go.Proofs
variable {β : Type}
end Go.Am
namespace Go.Am
open Go.Proofs
variable {β : Type}
noncomputable def arL (x : Nat → Value) : Nat → Nat → List Value
  | 0, _ => []
  | n + 1, i => x i :: arL x n (i + 1)
noncomputable def ar (n : Nat) (x : Nat → Value) : Array Value := ⟨arL x n 0⟩
noncomputable def up (x : Nat → Value) : List (Nat × Value) → Nat → Value
  | [], j => x j
  | (i, v) :: l, j => bif i == j then v else up x l j
noncomputable def un : Nat → Value := fun _ => undef
noncomputable abbrev ev : Ev := evC Tryd.prog
noncomputable abbrev cK (c : Code) (n : Nat) (x : Nat → Value) (h : Heap) (k : Ex → St → Option β) : Option β := codeK Tryd.prog (evC Tryd.prog) loopL c ⟨ar n x, h⟩ k
noncomputable abbrev lK (c : Code) (n : Nat) (x : Nat → Value) (h : Heap) (k : Ex → St → Option β) : Option β := loopK Tryd.prog (evC Tryd.prog) c ⟨ar n x, h⟩ k
noncomputable abbrev sK (c : Code) (k : Ex → St → Option β) : Ex → St → Option β := seqK Tryd.prog (evC Tryd.prog) c k
noncomputable abbrev bn (o : BinOp) (t : TypeId) (a b : Value) : Option Value := binV Tryd.prog o t (.tmp 0) (.tmp 0) a b
noncomputable abbrev ld (t : TypeId) (a : Value) (h : Heap) : Option Value := loadV Tryd.prog t a h
noncomputable abbrev sto (t : TypeId) (a v : Value) (h : Heap) : Option Heap := storeV Tryd.prog t a v h
noncomputable abbrev cv (s d : TypeId) (a : Value) (h : Heap) : Option (Value × Heap) := convV Tryd.prog s d a h
noncomputable abbrev fv (t : TypeId) (a : Value) (i : Nat) : Option Value := fieldV Tryd.prog t a i
noncomputable abbrev ia (t : TypeId) (a i : Value) : Option Value := indexAddrV Tryd.prog t a i
noncomputable abbrev ln (t : TypeId) (a : Value) (h : Heap) : Option Value := lenV Tryd.prog t a h
theorem up_nil (x : Nat → Value) (j : Nat) : up x [] j = x j := (id rfl)
theorem up_cons (x : Nat → Value) (i j : Nat) (v : Value) (l : List (Nat × Value)) : up x ((i, v) :: l) j = bif i == j then v else up x l j := (id rfl)
theorem lK_eq (c : Code) (n : Nat) (x : Nat → Value) (h : Heap) (k : Ex → St → Option β) : lK c n x h k = cK c n x h (againK Tryd.prog (evC Tryd.prog) c k) := loopK_eq evC_m _ _ _
end Go.Am
