/- The abstract machine: regions that draw their order. -/
import Derived.Test.YtkiigdhlnfpebaaAm14
set_option linter.unusedSimpArgs false
set_option linter.unusedVariables false
namespace Go.Am
variable {P : Program} {base : Nat}

/-! ### who stands behind whom -/
def beforeStep (acc : Array Nat) (o : Oper) : Nat := o.after.foldl (fun s e => if Region.binds .any e then s ||| 2 ^ e.on ||| acc.getD e.on 0 else s) 0
theorem before_eq (ops : Array Oper) : Region.before ops = ops.toList.foldl (fun acc o => acc.push (beforeStep acc o)) #[] := by
  unfold Region.before
  rw [← Array.foldl_toList]
  rfl
theorem beforeStep_bit {acc : Array Nat} {o : Oper} {j : Nat} (h : (beforeStep acc o).testBit j = true) : ∃ e ∈ o.after, Region.binds .any e = true ∧ (j = e.on ∨ (acc.getD e.on 0).testBit j = true) := by
  unfold beforeStep at h
  rw [← Array.foldl_toList] at h
  have key : ∀ (l : List Edge) (s : Nat), (l.foldl (fun s e => if Region.binds .any e then s ||| 2 ^ e.on ||| acc.getD e.on 0 else s) s).testBit j = true →
      s.testBit j = true ∨ ∃ e ∈ l, Region.binds .any e = true ∧ (j = e.on ∨ (acc.getD e.on 0).testBit j = true) := by
    intro l
    induction l with
    | nil => intro s h; exact .inl h
    | cons e l ih =>
      intro s h
      rw [List.foldl_cons] at h
      rcases ih _ h with h1 | ⟨e', h1, h2⟩
      · by_cases hb : Region.binds .any e = true
        · rw [if_pos hb] at h1
          simp only [Nat.testBit_or, Bool.or_eq_true] at h1
          rcases h1 with (h1 | h1) | h1
          · exact .inl h1
          · refine .inr ⟨e, by simp, hb, .inl ?_⟩
            rw [Nat.testBit_two_pow] at h1
            simp at h1
            exact h1.symm
          · exact .inr ⟨e, by simp, hb, .inr h1⟩
        · rw [if_neg hb] at h1; exact .inl h1
      · exact .inr ⟨e', by simp [h1], h2⟩
  rcases key _ _ h with h1 | ⟨e, h1, h2⟩
  · simp at h1
  · exact ⟨e, by simpa using h1, h2⟩
theorem before_spec (l : List Oper) : ∀ (acc : Array Nat), (l.foldl (fun acc o => acc.push (beforeStep acc o)) acc).size = acc.size + l.length ∧
    (∀ i, i < acc.size → (l.foldl (fun acc o => acc.push (beforeStep acc o)) acc)[i]? = acc[i]?) ∧
    ∀ k o, l[k]? = some o → ∃ acc' : Array Nat, acc'.size = acc.size + k ∧ (∀ i, i < acc'.size → (l.foldl (fun acc o => acc.push (beforeStep acc o)) acc)[i]? = acc'[i]?) ∧
      (l.foldl (fun acc o => acc.push (beforeStep acc o)) acc)[acc.size + k]? = some (beforeStep acc' o) := by
  induction l with
  | nil => intro acc; exact ⟨by simp, fun i _ => rfl, fun k o h => by simp at h⟩
  | cons o l ih =>
    intro acc
    obtain ⟨h1, h2, h3⟩ := ih (acc.push (beforeStep acc o))
    simp only [List.foldl_cons]
    have hpre : ∀ i, i < acc.size → (l.foldl (fun acc o => acc.push (beforeStep acc o)) (acc.push (beforeStep acc o)))[i]? = acc[i]? := fun i hi => by
      rw [h2 i (by simp; omega), Array.getElem?_push, if_neg (by omega)]
    refine ⟨by rw [h1]; simp; omega, hpre, fun k o' hk => ?_⟩
    cases k with
    | zero =>
      simp at hk
      subst hk
      exact ⟨acc, by simp, hpre, by rw [h2 _ (by simp)]; simp⟩
    | succ k =>
      obtain ⟨acc', g1, g2, g3⟩ := h3 k o' (by simpa using hk)
      exact ⟨acc', by rw [g1]; simp; omega, g2, by rw [← g3]; congr 1; simp; omega⟩
/-- i stands behind j -/
def bef (ops : Array Oper) (i j : Nat) : Bool := ((Region.before ops).getD i 0).testBit j
theorem bef_step {ops : Array Oper} (hback : ∀ i o, ops[i]? = some o → ∀ e ∈ o.after, Region.binds .any e = true → e.on < i) {i j : Nat} (h : bef ops i j = true) :
    ∃ o, ops[i]? = some o ∧ ∃ e ∈ o.after, Region.binds .any e = true ∧ e.on < i ∧ (j = e.on ∨ bef ops e.on j = true) := by
  unfold bef at h
  rw [before_eq] at h
  obtain ⟨h1, h2, h3⟩ := before_spec ops.toList #[]
  have hi : i < ops.size := by
    rcases Nat.lt_or_ge i ops.size with h4 | h4
    · exact h4
    · rw [Array.getD_eq_getD_getElem?, Array.getElem?_eq_none (by rw [h1]; simpa using h4)] at h
      simp at h
  obtain ⟨acc', g1, g2, g3⟩ := h3 i ops[i] (by simp [hi])
  simp only [List.size_toArray, List.length_nil, Nat.zero_add] at g1 g3
  rw [Array.getD_eq_getD_getElem?, g3, Option.getD_some] at h
  obtain ⟨e, he, hb, hj⟩ := beforeStep_bit h
  have hlt := hback i ops[i] (by simp [hi]) e he hb
  refine ⟨ops[i], by simp [hi], e, he, hb, hlt, hj.imp id fun hj => ?_⟩
  unfold bef
  rw [before_eq, Array.getD_eq_getD_getElem?, g2 e.on (by rw [g1]; exact hlt), ← Array.getD_eq_getD_getElem?]
  exact hj
theorem bef_lt {ops : Array Oper} (hback : ∀ i o, ops[i]? = some o → ∀ e ∈ o.after, Region.binds .any e = true → e.on < i) : ∀ (i : Nat) {j : Nat}, bef ops i j = true → j < i := by
  intro i
  induction i using Nat.strongRecOn with
  | _ i ih =>
    intro j h
    obtain ⟨o, ho, e, he, hb, hlt, hj⟩ := bef_step hback h
    rcases hj with rfl | hj
    · exact hlt
    · exact Nat.lt_trans (ih e.on hlt hj) hlt
/-- a set of operations that holds all that must come ahead of its own -/
def Closed (ops : Array Oper) (S : Nat → Prop) : Prop := ∀ i o, ops[i]? = some o → S i → ∀ e ∈ o.after, Region.binds .any e = true → S e.on
theorem bef_closed {ops : Array Oper} (hback : ∀ i o, ops[i]? = some o → ∀ e ∈ o.after, Region.binds .any e = true → e.on < i) {S : Nat → Prop} (hS : Closed ops S) : ∀ (i : Nat) {j : Nat}, S i → bef ops i j = true → S j := by
  intro i
  induction i using Nat.strongRecOn with
  | _ i ih =>
    intro j hi h
    obtain ⟨o, ho, e, he, hb, hlt, hj⟩ := bef_step hback h
    have := hS i o ho hi e he hb
    rcases hj with rfl | hj
    · exact this
    · exact ih e.on hlt this hj
theorem bef_ready {ops : Array Oper} (hback : ∀ i o, ops[i]? = some o → ∀ e ∈ o.after, Region.binds .any e = true → e.on < i) {S : Nat → Prop} (hS : Closed ops S) {i : Nat} {o : Oper} (ho : ops[i]? = some o) (hr : ∀ e ∈ o.after, Region.binds .any e = true → S e.on) {j : Nat} (h : bef ops i j = true) : S j := by
  obtain ⟨o', ho', e, he, hb, hlt, hj⟩ := bef_step hback h
  rw [ho] at ho'; cases ho'
  rcases hj with rfl | hj
  · exact hr e he hb
  · exact bef_closed hback hS e.on (hr e he hb) hj

/-- how many are not yet listed -/
def cntU (listed : Array Bool) : Nat → Nat
  | 0 => 0
  | n + 1 => cntU listed n + (if listed.getD n true = true then 0 else 1)
theorem cntU_zero {listed : Array Bool} : ∀ {n : Nat}, cntU listed n = 0 → ∀ j, j < n → listed.getD j true = true
  | n + 1, h, j, hj => by
    unfold cntU at h
    rcases Nat.lt_or_ge j n with h1 | h1
    · exact cntU_zero (by omega) j h1
    · have : j = n := by omega
      subst this
      by_cases hb : listed.getD j true = true
      · exact hb
      · rw [if_neg hb] at h; omega
theorem cntU_set {listed : Array Bool} {i : Nat} (hi : i < listed.size) : ∀ (n : Nat), cntU (listed.setIfInBounds i true) n + (if i < n ∧ listed.getD i true ≠ true then 1 else 0) = cntU listed n
  | 0 => by simp [cntU]
  | n + 1 => by
    have ih := cntU_set hi n
    unfold cntU
    by_cases hn : n = i
    · subst hn
      have e1 : (listed.setIfInBounds n true).getD n true = true := by simp [hi]
      rw [if_pos e1]
      simp only [Nat.lt_irrefl, false_and, if_false, Nat.add_zero] at ih
      by_cases hb : listed.getD n true = true
      · rw [if_pos hb, if_neg (by simp [hb])]; omega
      · rw [if_neg hb, if_pos ⟨by omega, hb⟩]; omega
    · have e1 : (listed.setIfInBounds i true).getD n true = listed.getD n true := getD_set_ne true (Ne.symm hn)
      rw [e1]
      have e2 : (i < n + 1 ∧ listed.getD i true ≠ true) ↔ (i < n ∧ listed.getD i true ≠ true) := by
        constructor <;> rintro ⟨h1, h2⟩ <;> exact ⟨by omega, h2⟩
      simp only [e2]
      omega
theorem cntU_le (listed : Array Bool) : ∀ n, cntU listed n ≤ n
  | 0 => Nat.le_refl _
  | n + 1 => by unfold cntU; have := cntU_le listed n; split <;> omega

/-! ### the text's run, state by state -/
theorem trace_of {ev : Ev} {ops : Array Oper} {B : Array Nat} : ∀ (n i : Nat) {d d' : DSt}, runListD P ev ops B (List.range' i n) d = some d' →
    ∃ tr : Nat → DSt, tr i = d ∧ tr (i + n) = d' ∧ ∀ j, i ≤ j → j < i + n → stepD P ev ops B j (tr j) = some (tr (j + 1))
  | 0, i, d, d', h => by cases h; exact ⟨fun _ => d, rfl, rfl, fun j h1 h2 => by omega⟩
  | n + 1, i, d, d', h => by
    rw [List.range'_succ] at h
    unfold runListD at h
    obtain ⟨d1, h1, h2⟩ := Option.bind_eq_some_iff.1 h
    obtain ⟨tr, g1, g2, g3⟩ := trace_of n (i + 1) h2
    refine ⟨fun j => if j = i then d else tr j, by simp, ?_, fun j h3 h4 => ?_⟩
    · simp only
      rw [if_neg (by omega), show i + (n + 1) = i + 1 + n by omega]; exact g2
    · simp only
      by_cases hj : j = i
      · subst hj
        rw [if_pos rfl, if_neg (by omega), g1]; exact h1
      · rw [if_neg hj, if_neg (by omega)]; exact g3 j (by omega) (by omega)
theorem stepD_inv {ev : Ev} {ops : Array Oper} {B : Array Nat} {i : Nat} {d d' : DSt} (h : stepD P ev ops B i d = some d') : ∃ s', stepAt P ev ops i ⟨d.s.T, { d.s.h with mods := [] }⟩ = some s' ∧ d'.s.T = s'.T ∧ d'.s.h.blks = s'.h.blks ∧
    d'.reads = (if floats P ops B .e i = true ∧ Region.wanted (ops.getD i default) (yielded ops d.s.T) = true then (if clsOf P (opAt ops i) = .l then readOf (opAt ops i) d.s.T else if clsOf P (opAt ops i) = .a then [d.s.h.blks.length] else []) else []) ++ d.reads ∧
    d'.ms = (if clsOf P (opAt ops i) = .e ∧ (floats P ops B .l i = true ∨ floats P ops B .a i = true) then s'.h.mods else []) ++ d.ms := by
  unfold stepD at h
  obtain ⟨s', h1, h2⟩ := Option.map_eq_some_iff.1 h
  subst h2
  exact ⟨s', h1, rfl, rfl, rfl, rfl⟩
end Go.Am
