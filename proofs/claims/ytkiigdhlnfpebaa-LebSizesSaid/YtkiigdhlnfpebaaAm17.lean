/- The abstract machine: with as many rounds as it takes. -/
import Derived.Test.YtkiigdhlnfpebaaAm16
set_option linter.unusedSimpArgs false
set_option linter.unusedVariables false
namespace Go.Am
variable {P : Program} {base : Nat}

def EvLe (e e' : Ev) : Prop := ∀ f args h r, e f args h = some r → e' f args h = some r
def RunLe (f g : Run) : Prop := ∀ s r, f s = some r → g s = some r
def LpLe (l l' : Run → Run) : Prop := ∀ f g, RunLe f g → RunLe (l f) (l' g)

theorem doOp_mono {e e' : Ev} (he : EvLe e e') {o : Oper} {T : Array Value} {h : Heap} {r : Value × Heap} (hd : doOp P e o T h = some r) : doOp P e' o T h = some r := by
  unfold doOp at hd ⊢
  simp only at hd ⊢
  split at hd
  all_goals first
    | exact hd
    | (split at hd
       · exact hd
       · rename_i f hf
         unfold callV at hd ⊢
         split at hd
         · split at hd
           · split at hd
             · cases hd
             · split at hd
               · rename_i h1 h2 h3 h4
                 rw [if_neg h3, if_pos h4]; exact hd
               · rename_i h1 h2 h3 h4
                 rw [if_neg h3, if_neg h4]; exact he _ _ _ _ hd
           · cases hd
         · cases hd
       · cases hd)
theorem stepAt_mono {e e' : Ev} (he : EvLe e e') {ops : Array Oper} {i : Nat} {s s' : St} (hs : stepAt P e ops i s = some s') : stepAt P e' ops i s = some s' := by
  unfold stepAt at hs ⊢
  split at hs
  · exact hs
  · split at hs
    · rename_i hw
      rw [if_pos hw]
      obtain ⟨r, h1, h2⟩ := Option.map_eq_some_iff.1 hs
      rw [doOp_mono he h1]; simp [h2]
    · rename_i hw
      rw [if_neg hw]; exact hs
theorem runList_mono {e e' : Ev} (he : EvLe e e') {ops : Array Oper} : ∀ (l : List Nat) {s s' : St}, runList P e ops l s = some s' → runList P e' ops l s = some s'
  | [], _, _, h => h
  | i :: l, s, s', h => by
    unfold runList at h ⊢
    obtain ⟨s1, h1, h2⟩ := Option.bind_eq_some_iff.1 h
    rw [stepAt_mono he h1]; exact runList_mono he l h2
theorem stepD_mono {e e' : Ev} (he : EvLe e e') {ops : Array Oper} {B : Array Nat} {i : Nat} {d d' : DSt} (h : stepD P e ops B i d = some d') : stepD P e' ops B i d = some d' := by
  unfold stepD at h ⊢
  obtain ⟨s1, h1, h2⟩ := Option.map_eq_some_iff.1 h
  rw [stepAt_mono he h1]; simp only [Option.map_some, h2]
theorem runListD_mono {e e' : Ev} (he : EvLe e e') {ops : Array Oper} {B : Array Nat} : ∀ (l : List Nat) {d d' : DSt}, runListD P e ops B l d = some d' → runListD P e' ops B l d = some d'
  | [], _, _, h => h
  | i :: l, s, s', h => by
    unfold runListD at h ⊢
    obtain ⟨s1, h1, h2⟩ := Option.bind_eq_some_iff.1 h
    rw [stepD_mono he h1]; exact runListD_mono he l h2
theorem regionV_mono {e e' : Ev} (he : EvLe e e') {ops : Array Oper} {draw : Bool} {s s' : St} (h : regionV P e ops draw s = some s') : regionV P e' ops draw s = some s' := by
  unfold regionV at h ⊢
  split at h
  · rename_i h1
    rw [if_pos h1]
    split at h
    · rename_i h2
      rw [if_pos h2]
      split at h
      · rename_i h3
        rw [if_pos h3]
        split at h
        · rename_i d hd
          rw [runListD_mono he _ hd]; exact h
        · cases h
      · cases h
    · rename_i h2
      rw [if_neg h2]; exact runList_mono he _ h
  · cases h
theorem runCode_mono {e e' : Ev} (he : EvLe e e') {lp lp' : Run → Run} (hl : LpLe lp lp') : ∀ (c : Code), RunLe (runCode P e lp c) (runCode P e' lp' c) := by
  intro c
  induction c with
  | skip => intro s r h; exact h
  | label l => intro s r h; exact h
  | ret => intro s r h; exact h
  | exit id => intro s r h; exact h
  | region id ops draw =>
    intro s r h
    unfold runCode at h ⊢
    obtain ⟨s1, h1, h2⟩ := Option.map_eq_some_iff.1 h
    rw [regionV_mono he h1]; simp [h2]
  | seq x y ihx ihy =>
    intro s r h
    unfold runCode at h ⊢
    obtain ⟨r1, h1, h2⟩ := Option.bind_eq_some_iff.1 h
    rw [ihx _ _ h1]
    obtain ⟨e1, s1⟩ := r1
    cases e1 with
    | normal => exact ihy _ _ h2
    | ret => exact h2
    | exit id => exact h2
  | cond c x y ihx ihy =>
    intro s r h
    unfold runCode at h ⊢
    split at h
    · rename_i hc
      rw [if_pos hc]
      split at h
      · exact ihx _ _ h
      · exact ihy _ _ h
      · cases h
    · cases h
  | block id c ih =>
    intro s r h
    unfold runCode at h ⊢
    obtain ⟨r1, h1, h2⟩ := Option.map_eq_some_iff.1 h
    rw [ih _ _ h1]; simp [h2]
  | loop c ih =>
    intro s r h
    unfold runCode at h ⊢
    exact hl _ _ ih s r h
  | _ => intro s r h; cases h
theorem loopN_mono : ∀ (k : Nat), LpLe (loopN k) (loopN k)
  | 0, f, g, h, s, r, hs => by cases hs
  | k + 1, f, g, h, s, r, hs => by
    unfold loopN at hs ⊢
    obtain ⟨r1, h1, h2⟩ := Option.bind_eq_some_iff.1 hs
    rw [h _ _ h1]
    obtain ⟨e1, s1⟩ := r1
    cases e1 with
    | normal => exact loopN_mono k f g h _ _ h2
    | ret => exact h2
    | exit id => exact h2
theorem loopN_up : ∀ (k : Nat), LpLe (loopN k) (loopN (k + 1))
  | 0, f, g, h, s, r, hs => by cases hs
  | k + 1, f, g, h, s, r, hs => by
    change (f s).bind (fun r => match r.1 with | .normal => loopN k f r.2 | e => some (e, r.2)) = some r at hs
    change (g s).bind (fun r => match r.1 with | .normal => loopN (k + 1) g r.2 | e => some (e, r.2)) = some r
    obtain ⟨r1, h1, h2⟩ := Option.bind_eq_some_iff.1 hs
    rw [h _ _ h1]
    obtain ⟨e1, s1⟩ := r1
    cases e1 with
    | normal => exact loopN_up k f g h _ _ h2
    | ret => exact h2
    | exit id => exact h2
theorem callBody_mono {e e' : Ev} (he : EvLe e e') {lp lp' : Run → Run} (hl : LpLe lp lp') : EvLe (callBody P e lp) (callBody P e' lp') := by
  intro f args h r hr
  unfold callBody at hr ⊢
  split at hr
  · split at hr
    · split at hr
      · rename_i s1 h1; rw [runCode_mono he hl _ _ _ h1]; exact hr
      · rename_i s1 h1; rw [runCode_mono he hl _ _ _ h1]; exact hr
      · cases hr
    · cases hr
  · cases hr
theorem evalN_up : ∀ k, EvLe (evalN P k) (evalN P (k + 1))
  | 0 => fun _ _ _ _ h => by cases h
  | k + 1 => callBody_mono (evalN_up k) (loopN_up k)
theorem evalN_le {k k' : Nat} (h : k ≤ k') : EvLe (evalN P k) (evalN P k') := by
  induction h with
  | refl => exact fun _ _ _ _ h => h
  | step _ ih => exact fun f a h r hr => evalN_up _ _ _ _ _ (ih f a h r hr)
theorem RunLe.refl (f : Run) : RunLe f f := fun _ _ h => h
theorem loopN_le {k k' : Nat} (h : k ≤ k') : LpLe (loopN k) (loopN k') := by
  induction h with
  | refl => exact loopN_mono k
  | step _ ih => exact fun f g hfg s r hr => loopN_up _ g g (RunLe.refl g) s r (ih f g hfg s r hr)

/-- the call, with as many rounds as it takes -/
noncomputable def evC (P : Program) : Ev := fun f args h => open Classical in if hx : ∃ r k, evalN P k f args h = some r then some hx.choose else none
noncomputable def loopL : (Run → Run) := fun f s => open Classical in if hx : ∃ r k, loopN k f s = some r then some hx.choose else none
theorem evC_iff {f : FuncId} {args : Array Value} {h : Heap} {r : Value × Heap} : evC P f args h = some r ↔ ∃ k, evalN P k f args h = some r := by
  unfold evC
  constructor
  · intro hr
    split at hr
    · rename_i hx
      simp only [Option.some.injEq] at hr
      rw [← hr]; exact hx.choose_spec
    · cases hr
  · rintro ⟨k, hk⟩
    have hx : ∃ r k, evalN P k f args h = some r := ⟨r, k, hk⟩
    rw [dif_pos hx]
    obtain ⟨k', hk'⟩ := hx.choose_spec
    have h1 := evalN_le (Nat.le_max_left k k') _ _ _ _ hk
    have h2 := evalN_le (Nat.le_max_right k k') _ _ _ _ hk'
    rw [h1] at h2
    exact h2.symm
theorem loopL_iff {f : Run} {s : St} {r : Ex × St} : loopL f s = some r ↔ ∃ k, loopN k f s = some r := by
  unfold loopL
  constructor
  · intro hr
    split at hr
    · rename_i hx
      simp only [Option.some.injEq] at hr
      rw [← hr]; exact hx.choose_spec
    · cases hr
  · rintro ⟨k, hk⟩
    have hx : ∃ r k, loopN k f s = some r := ⟨r, k, hk⟩
    rw [dif_pos hx]
    obtain ⟨k', hk'⟩ := hx.choose_spec
    have h1 := loopN_le (Nat.le_max_left k k') f f (RunLe.refl f) _ _ hk
    have h2 := loopN_le (Nat.le_max_right k k') f f (RunLe.refl f) _ _ hk'
    rw [h1] at h2
    exact h2.symm
theorem evalN_evC (k : Nat) : EvLe (evalN P k) (evC P) := fun _ _ _ _ h => evC_iff.2 ⟨k, h⟩
theorem loopN_loopL (k : Nat) : LpLe (loopN k) loopL := fun f g hfg s r h => loopL_iff.2 ⟨k, loopN_mono k f g hfg s r h⟩

theorem loopL_eq (f : Run) (s : St) : loopL f s = (f s).bind fun r => match r.1 with
    | .normal => loopL f r.2
    | e => some (e, r.2) := by
  apply Option.ext
  intro r
  rw [loopL_iff]
  constructor
  · rintro ⟨k, hk⟩
    cases k with
    | zero => cases hk
    | succ k =>
      unfold loopN at hk
      obtain ⟨r1, h1, h2⟩ := Option.bind_eq_some_iff.1 hk
      rw [h1]
      obtain ⟨e1, s1⟩ := r1
      cases e1 with
      | normal => exact loopL_iff.2 ⟨k, h2⟩
      | ret => exact h2
      | exit id => exact h2
  · intro h
    obtain ⟨r1, h1, h2⟩ := Option.bind_eq_some_iff.1 h
    obtain ⟨e1, s1⟩ := r1
    cases e1 with
    | normal =>
      obtain ⟨k, hk⟩ := loopL_iff.1 h2
      exact ⟨k + 1, by unfold loopN; rw [h1]; exact hk⟩
    | ret => exact ⟨1, by unfold loopN; rw [h1]; exact h2⟩
    | exit id => exact ⟨1, by unfold loopN; rw [h1]; exact h2⟩

/-! ### what the limit comes to, some number of rounds comes to -/
theorem doOp_lim {o : Oper} {T : Array Value} {h : Heap} {r : Value × Heap} (hd : doOp P (evC P) o T h = some r) : ∃ k, doOp P (evalN P k) o T h = some r := by
  unfold doOp at hd ⊢
  simp only at hd ⊢
  split at hd
  all_goals first
    | exact ⟨0, hd⟩
    | (split at hd
       · exact ⟨0, hd⟩
       · rename_i f hf
         unfold callV at hd ⊢
         split at hd
         · split at hd
           · split at hd
             · cases hd
             · split at hd
               · rename_i h1 h2 h3 h4
                 exact ⟨0, by rw [if_neg h3, if_pos h4]; exact hd⟩
               · rename_i h1 h2 h3 h4
                 obtain ⟨k, hk⟩ := evC_iff.1 hd
                 exact ⟨k, by rw [if_neg h3, if_neg h4]; exact hk⟩
           · cases hd
         · cases hd
       · cases hd)
theorem stepAt_lim {ops : Array Oper} {i : Nat} {s s' : St} (hs : stepAt P (evC P) ops i s = some s') : ∃ k, stepAt P (evalN P k) ops i s = some s' := by
  unfold stepAt at hs ⊢
  split at hs
  · exact ⟨0, hs⟩
  · split at hs
    · rename_i hw
      obtain ⟨r, h1, h2⟩ := Option.map_eq_some_iff.1 hs
      obtain ⟨k, hk⟩ := doOp_lim h1
      exact ⟨k, by rw [if_pos hw, hk]; simp [h2]⟩
    · rename_i hw
      exact ⟨0, by rw [if_neg hw]; exact hs⟩
theorem runList_lim {ops : Array Oper} : ∀ (l : List Nat) {s s' : St}, runList P (evC P) ops l s = some s' → ∃ k, runList P (evalN P k) ops l s = some s'
  | [], _, _, h => ⟨0, h⟩
  | i :: l, s, s', h => by
    unfold runList at h
    obtain ⟨s1, h1, h2⟩ := Option.bind_eq_some_iff.1 h
    obtain ⟨k1, g1⟩ := stepAt_lim h1
    obtain ⟨k2, g2⟩ := runList_lim l h2
    refine ⟨max k1 k2, ?_⟩
    unfold runList
    rw [stepAt_mono (evalN_le (Nat.le_max_left k1 k2)) g1]
    exact runList_mono (evalN_le (Nat.le_max_right k1 k2)) l g2
theorem runListD_lim {ops : Array Oper} {B : Array Nat} : ∀ (l : List Nat) {d d' : DSt}, runListD P (evC P) ops B l d = some d' → ∃ k, runListD P (evalN P k) ops B l d = some d'
  | [], _, _, h => ⟨0, h⟩
  | i :: l, s, s', h => by
    unfold runListD at h
    obtain ⟨s1, h1, h2⟩ := Option.bind_eq_some_iff.1 h
    have : ∃ k, stepD P (evalN P k) ops B i s = some s1 := by
      unfold stepD at h1 ⊢
      obtain ⟨x, h3, h4⟩ := Option.map_eq_some_iff.1 h1
      obtain ⟨k, hk⟩ := stepAt_lim h3
      exact ⟨k, by rw [hk]; simp only [Option.map_some, h4]⟩
    obtain ⟨k1, g1⟩ := this
    obtain ⟨k2, g2⟩ := runListD_lim l h2
    refine ⟨max k1 k2, ?_⟩
    unfold runListD
    rw [stepD_mono (evalN_le (Nat.le_max_left k1 k2)) g1]
    exact runListD_mono (evalN_le (Nat.le_max_right k1 k2)) l g2
theorem regionV_lim {ops : Array Oper} {draw : Bool} {s s' : St} (h : regionV P (evC P) ops draw s = some s') : ∃ k, regionV P (evalN P k) ops draw s = some s' := by
  unfold regionV at h ⊢
  split at h
  · rename_i h1
    split at h
    · rename_i h2
      split at h
      · rename_i h3
        split at h
        · rename_i d hd
          obtain ⟨k, hk⟩ := runListD_lim _ hd
          exact ⟨k, by rw [if_pos h1, if_pos h2, if_pos h3, hk]; exact h⟩
        · cases h
      · cases h
    · rename_i h2
      obtain ⟨k, hk⟩ := runList_lim _ h
      exact ⟨k, by rw [if_pos h1, if_neg h2]; exact hk⟩
  · cases h
theorem runCode_lim : ∀ (c : Code) (s : St) (r : Ex × St), runCode P (evC P) loopL c s = some r → ∃ k, runCode P (evalN P k) (loopN k) c s = some r := by
  intro c
  induction c with
  | skip => intro s r h; exact ⟨0, h⟩
  | label l => intro s r h; exact ⟨0, h⟩
  | ret => intro s r h; exact ⟨0, h⟩
  | exit id => intro s r h; exact ⟨0, h⟩
  | region id ops draw =>
    intro s r h
    unfold runCode at h
    obtain ⟨s1, h1, h2⟩ := Option.map_eq_some_iff.1 h
    obtain ⟨k, hk⟩ := regionV_lim h1
    exact ⟨k, by unfold runCode; rw [hk]; simp [h2]⟩
  | seq x y ihx ihy =>
    intro s r h
    unfold runCode at h
    obtain ⟨r1, h1, h2⟩ := Option.bind_eq_some_iff.1 h
    obtain ⟨k1, g1⟩ := ihx _ _ h1
    obtain ⟨e1, s1⟩ := r1
    cases e1 with
    | normal =>
      obtain ⟨k2, g2⟩ := ihy _ _ h2
      refine ⟨max k1 k2, ?_⟩
      unfold runCode
      rw [runCode_mono (evalN_le (Nat.le_max_left k1 k2)) (loopN_le (Nat.le_max_left k1 k2)) _ _ _ g1]
      exact runCode_mono (evalN_le (Nat.le_max_right k1 k2)) (loopN_le (Nat.le_max_right k1 k2)) _ _ _ g2
    | ret => exact ⟨k1, by unfold runCode; rw [g1]; exact h2⟩
    | exit id => exact ⟨k1, by unfold runCode; rw [g1]; exact h2⟩
  | cond c x y ihx ihy =>
    intro s r h
    unfold runCode at h
    split at h
    · rename_i hc
      split at h
      · rename_i hv
        obtain ⟨k, hk⟩ := ihx _ _ h
        exact ⟨k, by unfold runCode; rw [if_pos hc, hv]; exact hk⟩
      · rename_i hv
        obtain ⟨k, hk⟩ := ihy _ _ h
        exact ⟨k, by unfold runCode; rw [if_pos hc, hv]; exact hk⟩
      · cases h
    · cases h
  | block id c ih =>
    intro s r h
    unfold runCode at h
    obtain ⟨r1, h1, h2⟩ := Option.map_eq_some_iff.1 h
    obtain ⟨k, hk⟩ := ih _ _ h1
    exact ⟨k, by unfold runCode; rw [hk]; simp [h2]⟩
  | loop c ih =>
    intro s r h
    unfold runCode at h
    obtain ⟨n, hn⟩ := loopL_iff.1 h
    suffices key : ∀ n s r, loopN n (runCode P (evC P) loopL c) s = some r → ∃ k, loopN k (runCode P (evalN P k) (loopN k) c) s = some r by
      obtain ⟨k, hk⟩ := key n s r hn
      exact ⟨k, by unfold runCode; exact hk⟩
    intro n
    induction n with
    | zero => intro s r h; cases h
    | succ n ihn =>
      intro s r h
      unfold loopN at h
      obtain ⟨r1, h1, h2⟩ := Option.bind_eq_some_iff.1 h
      obtain ⟨k1, g1⟩ := ih _ _ h1
      obtain ⟨e1, s1⟩ := r1
      cases e1 with
      | normal =>
        obtain ⟨k2, g2⟩ := ihn _ _ h2
        refine ⟨max k1 k2 + 1, ?_⟩
        unfold loopN
        have m1 : k1 ≤ max k1 k2 + 1 := Nat.le_succ_of_le (Nat.le_max_left k1 k2)
        have m2 : k2 ≤ max k1 k2 := Nat.le_max_right k1 k2
        rw [runCode_mono (evalN_le m1) (loopN_le m1) _ _ _ g1]
        exact loopN_le m2 _ _ (runCode_mono (evalN_le (Nat.le_succ_of_le m2)) (loopN_le (Nat.le_succ_of_le m2)) c) _ _ g2
      | ret => exact ⟨k1 + 1, by unfold loopN; rw [runCode_mono (evalN_le (Nat.le_succ k1)) (loopN_le (Nat.le_succ k1)) _ _ _ g1]; exact h2⟩
      | exit id => exact ⟨k1 + 1, by unfold loopN; rw [runCode_mono (evalN_le (Nat.le_succ k1)) (loopN_le (Nat.le_succ k1)) _ _ _ g1]; exact h2⟩
  | _ => intro s r h; cases h

theorem evC_eq (f : FuncId) (args : Array Value) (h : Heap) : evC P f args h = callBody P (evC P) loopL f args h := by
  apply Option.ext
  intro r
  rw [evC_iff]
  constructor
  · rintro ⟨k, hk⟩
    cases k with
    | zero => cases hk
    | succ k => exact callBody_mono (evalN_evC k) (loopN_loopL k) _ _ _ _ hk
  · intro hr
    have : ∃ k, callBody P (evalN P k) (loopN k) f args h = some r := by
      unfold callBody at hr ⊢
      split at hr
      · split at hr
        · split at hr
          · rename_i s1 h1
            obtain ⟨k, hk⟩ := runCode_lim _ _ _ h1
            exact ⟨k, by rw [hk]; exact hr⟩
          · rename_i s1 h1
            obtain ⟨k, hk⟩ := runCode_lim _ _ _ h1
            exact ⟨k, by rw [hk]; exact hr⟩
          · cases hr
        · cases hr
      · cases hr
    obtain ⟨k, hk⟩ := this
    exact ⟨k + 1, hk⟩
theorem evC_sound (hm : P.follows .mixedOrders = true) (base : Nat) : EvSound P base (evC P) := by
  intro f args h v h' E w args' hv hR ha hf
  obtain ⟨k, hk⟩ := evC_iff.1 hv
  exact evalN_ok (drawn_ok hm) k f args h v h' E w args' hk hR ha hf
theorem evC_grow : EvGrow (evC P) := by
  intro f args h v h' hv
  obtain ⟨k, hk⟩ := evC_iff.1 hv
  exact evalN_grow k f args h v h' hk
#print axioms evC_sound
end Go.Am
