/- The abstract machine, with the rest of the run told ahead: what a text of code comes to, as one term. -/
import Derived.Test.YtkiigdhlnfpebaaAm19
namespace Go.Am
variable {P : Program} {β : Type}

def gd (w : Bool) (v : Option Value) : Option Value := match w with | true => v | false => some undef
def gdV (w : Bool) (v : Value) : Value := match w with | true => v | false => undef
def gdH (w : Bool) (h : Heap) (r : Option (Value × Heap)) : Option (Value × Heap) := match w with | true => r | false => some (undef, h)
def gdS (w : Bool) (h : Heap) (r : Option Heap) : Option Heap := match w with | true => r | false => some h
def yv : Value → Option Bool
  | .bool b => some b
  | _ => none
def wt (x : Value) (b : Bool) : Bool := yv x == some b
def obH (r : Option (Value × Heap)) (k : Value → Heap → Option β) : Option β := match r with | some (v, h) => k v h | none => none
def obR (r : Option (Ex × St)) (k : Ex → St → Option β) : Option β := match r with | some (e, s) => k e s | none => none
def pickV (c a b : Value) : Option Value := match c with | .bool true => some a | .bool false => some b | _ => none
def cnd (c : Value) (a b : Option β) : Option β := match c with | .bool true => a | .bool false => b | _ => none

def len1 (P : Program) (l : List Value) (t : Option TypeId) (h : Heap) : Option Value := match l, t with | [x], some t => lenV P t x h | _, _ => none
theorem builtin_len (ts : Array TypeId) (args : Array Value) (h : Heap) : builtinV P .len ts args h = (len1 P args.toList ts[0]? h).map fun v => (v, h) := by
  unfold builtinV len1
  generalize args.toList = l
  generalize ts[0]? = t
  cases l with
  | nil => rfl
  | cons a l => cases l <;> cases t <;> rfl
def doK (P : Program) (ev : Ev) (w : Bool) (o : Oper) (T : Array Value) (h : Heap) (k : Value → Heap → Option β) : Option β :=
  let ρ := evalO T
  match o.op with
  | .move x | .assign x => k (gdV w (ρ x)) h
  | .pick c a b => (gd w (pickV (ρ c) (ρ a) (ρ b))).bind fun v => k v h
  | .alloc t => obH (gdH w h (allocV P t h)) k
  | .box t x => obH (gdH w h (boxV P t (ρ x) h)) k
  | .build t parts => (gd w (buildV P t (parts.map fun x => (x.1, ρ x.2)))).bind fun v => k v h
  | .buildSlice t len parts => obH (gdH w h (buildSliceV P t len (parts.map fun x => (x.1, ρ x.2)) h)) k
  | .load t a => (gd w (loadV P t (ρ a) h)).bind fun v => k v h
  | .store t a x => (gdS w h (storeV P t (ρ a) (ρ x) h)).bind fun h' => k undef h'
  | .nilCheck x => (gd w (nilCheckV (ρ x))).bind fun v => k v h
  | .binOp op t x y _ => (gd w (binV P op t x y (ρ x) (ρ y))).bind fun v => k v h
  | .unOp op _ x => (gd w (unV P op (ρ x))).bind fun v => k v h
  | .convert src dst x => obH (gdH w h (convV P src dst (ρ x) h)) k
  | .makeInterface t x => (gd w (makeInterfaceV P t (ρ x))).bind fun v => k v h
  | .makeFunc fn first captured => k (gdV w (.func fn (first.map ρ) (captured.map ρ))) h
  | .makeMap _ none => obH (gdH w h (some (makeMapV h))) k
  | .makeSlice t l c => obH (gdH w h (makeSliceV P t (ρ l) (ρ c) h)) k
  | .slice t x lo hi mx => (gd w (sliceV P t (ρ x) (lo.map ρ) (hi.map ρ) (mx.map ρ) h)).bind fun v => k v h
  | .fieldAddr t x f => (gd w (fieldAddrV P t (ρ x) f)).bind fun v => k v h
  | .field t x f => (gd w (fieldV P t (ρ x) f)).bind fun v => k v h
  | .indexAddr t x i => (gd w (indexAddrV P t (ρ x) (ρ i))).bind fun v => k v h
  | .index t x i => (gd w (indexV P t (ρ x) (ρ i))).bind fun v => k v h
  | .lookup t m key ok => (gd w (lookupV P t (ρ m) (ρ key) ok h)).bind fun v => k v h
  | .mapUpdate t m key v => (gdS w h (mapUpdateV P t (ρ m) (ρ key) (ρ v) h)).bind fun h' => k undef h'
  | .typeAssert x _ asserted ok => (gd w (typeAssertV P (ρ x) asserted ok)).bind fun v => k v h
  | .extract t i => (gd w (extractV (ρ t) i)).bind fun v => k v h
  | .call c => match c.callee with
    | .builtin .len => (gd w (len1 P (c.args.map ρ).toList c.argTypes[0]? h)).bind fun v => k v h
    | .builtin b => obH (gdH w h (builtinV P b c.argTypes (c.args.map ρ) h)) k
    | .value f => obH (gdH w h (callV P ev (ρ f) (c.args.map ρ) h)) k
    | _ => obH (gdH w h none) k
  | _ => obH (gdH w h none) k
/-- what an operation that may not be wanted does -/
def doW (P : Program) (ev : Ev) (w : Bool) (o : Oper) (T : Array Value) (h : Heap) : Option (Value × Heap) := match w with | true => doOp P ev o T h | false => some (undef, h)
theorem obH_some (v : Value) (h : Heap) (k : Value → Heap → Option β) : obH (some (v, h)) k = k v h := rfl
theorem obH_bind (r : Option (Value × Heap)) (k : Value → Heap → Option β) : obH r k = r.bind fun r => k r.1 r.2 := by cases r <;> rfl
theorem doK_eq (ev : Ev) (w : Bool) (o : Oper) (T : Array Value) (h : Heap) (k : Value → Heap → Option β) :
    doK P ev w o T h k = obH (doW P ev w o T h) k := by
  have one (v : Option Value) : (gd w v).bind (fun v => k v h) = obH (gdH w h (v.map fun v => (v, h))) k := by
    cases w <;> cases v <;> rfl
  have two (r : Option Heap) : (gdS w h r).bind (fun h' => k undef h') = obH (gdH w h (r.map fun h' => (undef, h'))) k := by
    cases w <;> cases r <;> rfl
  have fall (r : Option (Value × Heap)) (e : doOp P ev o T h = r) : obH (gdH w h r) k = obH (doW P ev w o T h) k := by
    subst e; cases w <;> rfl
  obtain ⟨dst, op, ty, pos, after, guard⟩ := o
  cases op
  case pick c a b =>
    refine (one _).trans (fall _ ?_)
    show (match evalO T c with | .bool t => some (if t then evalO T a else evalO T b, h) | _ => none) = _
    unfold pickV
    cases evalO T c with
    | bool t => cases t <;> rfl
    | _ => rfl
  case move => cases w <;> rfl
  case assign => cases w <;> rfl
  case makeFunc => cases w <;> rfl
  case makeMap t r => cases r <;> exact fall _ rfl
  case call c =>
    obtain ⟨callee, args, argTypes⟩ := c
    cases callee
    case builtin b =>
      cases b
      case len =>
        refine (one _).trans (fall _ ?_)
        exact builtin_len argTypes (args.map (evalO T)) h
      all_goals exact fall _ rfl
    all_goals exact fall _ rfl
  all_goals first
    | exact fall _ rfl
    | exact (one _).trans (fall _ rfl)
    | exact (two _).trans (fall _ rfl)

/-! ### regions -/
def opD (ops : Array Oper) (i : Nat) : Oper := ops.getD i default
def wantT (ops : Array Oper) (i : Nat) (T : Array Value) : Bool := Region.wanted (opD ops i) (yielded ops T)
theorem stepAt_doW (ev : Ev) {ops : Array Oper} {i : Nat} (hi : i < ops.size) (s : St) :
    stepAt P ev ops i s = (doW P ev (wantT ops i s.T) (opD ops i) s.T s.h).map fun r => ⟨putT s.T (opD ops i).dst r.1, r.2⟩ := by
  have e : opD ops i = ops[i] := by simp [opD, Array.getD, hi]
  unfold stepAt wantT
  rw [Array.getElem?_eq_getElem hi, e]
  simp only []
  cases Region.wanted ops[i] (yielded ops s.T) <;> rfl
def listK (P : Program) (ev : Ev) (ops : Array Oper) : List Nat → St → (St → Option β) → Option β
  | [], s, k => k s
  | i :: l, s, k => doK P ev (wantT ops i s.T) (opD ops i) s.T s.h fun v h => listK P ev ops l ⟨putT s.T (opD ops i).dst v, h⟩ k
theorem listK_eq (ev : Ev) (ops : Array Oper) (k : St → Option β) : ∀ (l : List Nat) (s : St), (∀ i ∈ l, i < ops.size) → listK P ev ops l s k = (runList P ev ops l s).bind k
  | [], s, _ => rfl
  | i :: l, s, h => by
    unfold listK runList
    rw [doK_eq, obH_bind, stepAt_doW ev (h i (by simp))]
    cases hd : doW P ev (wantT ops i s.T) (opD ops i) s.T s.h with
    | none => rfl
    | some r =>
      simp only [Option.bind_some, Option.map_some]
      exact listK_eq ev ops k l _ fun i hi => h i (by simp [hi])

/-- which of an operation's doings must be told at the end of a region that draws -/
def rdsOf (P : Program) (ops : Array Oper) (B : Array Nat) (i : Nat) (T : Array Value) (h : Heap) : List Nat :=
  match floats P ops B .e i with
  | true => match clsOf P (opAt ops i), wantT ops i T with
    | .l, true => readOf (opAt ops i) T
    | .a, true => [h.blks.length]
    | _, _ => []
  | false => []
def tellsM (P : Program) (ops : Array Oper) (B : Array Nat) (i : Nat) : Bool :=
  match clsOf P (opAt ops i) with
  | .e => floats P ops B .l i || floats P ops B .a i
  | _ => false
def listDK (P : Program) (ev : Ev) (ops : Array Oper) (B : Array Nat) : List Nat → St → List Nat → List Nat → (St → List Nat → List Nat → Option β) → Option β
  | [], s, r, m, k => k s r m
  | i :: l, s, r, m, k =>
    match tellsM P ops B i with
    | false => doK P ev (wantT ops i s.T) (opD ops i) s.T s.h fun v h => listDK P ev ops B l ⟨putT s.T (opD ops i).dst v, h⟩ (rdsOf P ops B i s.T s.h ++ r) m k
    | true => doK P ev (wantT ops i s.T) (opD ops i) s.T (nm s.h) fun v h => listDK P ev ops B l ⟨putT s.T (opD ops i).dst v, am h s.h⟩ (rdsOf P ops B i s.T s.h ++ r) (h.mods ++ m) k
theorem doW_m {ev : Ev} (hev : EvMods ev) (w : Bool) (o : Oper) (T : Array Value) (h : Heap) : doW P ev w o T h = (doW P ev w o T (nm h)).map fun r => (r.1, am r.2 h) := by
  cases w
  · rfl
  · exact doOp_m hev o T h
theorem listDK_eq {ev : Ev} (hev : EvMods ev) (ops : Array Oper) (B : Array Nat) (k : St → List Nat → List Nat → Option β) : ∀ (l : List Nat) (s : St) (r m : List Nat), (∀ i ∈ l, i < ops.size) →
    listDK P ev ops B l s r m k = (runListD P ev ops B l ⟨s, r, m⟩).bind fun d => k d.s d.reads d.ms
  | [], s, r, m, _ => rfl
  | i :: l, s, r, m, h => by
    unfold listDK runListD stepD
    simp only [doK_eq, obH_bind]
    have hs := stepAt_doW (P := P) ev (h i (by simp)) ⟨s.T, { s.h with mods := [] }⟩
    simp only [] at hs
    rw [hs]
    change _ = ((Option.map _ (Option.map _ (doW P ev (wantT ops i s.T) (opD ops i) s.T (nm s.h)))).bind _).bind _
    have hm := doW_m (P := P) hev (wantT ops i s.T) (opD ops i) s.T s.h
    have hr : ∀ h2 : Heap, (if floats P ops B .e i = true ∧ Region.wanted (ops.getD i default) (yielded ops s.T) = true then (if clsOf P (opAt ops i) = .l then readOf (opAt ops i) s.T else if clsOf P (opAt ops i) = .a then [s.h.blks.length] else []) else []) = rdsOf P ops B i s.T s.h := fun _ => by
      unfold rdsOf wantT opD
      cases floats P ops B .e i <;> cases Region.wanted (ops.getD i default) (yielded ops s.T) <;> cases clsOf P (opAt ops i) <;> rfl
    cases hd : doW P ev (wantT ops i s.T) (opD ops i) s.T (nm s.h) with
    | none =>
      rw [hd] at hm
      rw [hm]
      split <;> rfl
    | some x =>
      rw [hd] at hm
      simp only [Option.map_some] at hm
      rw [hm]
      simp only [Option.bind_some, Option.map_some, hr x.2]
      have hms : (if clsOf P (opAt ops i) = .e ∧ (floats P ops B .l i = true ∨ floats P ops B .a i = true) then x.2.mods else []) = if tellsM P ops B i = true then x.2.mods else [] := by
        unfold tellsM
        cases clsOf P (opAt ops i) <;> cases floats P ops B .l i <;> cases floats P ops B .a i <;> rfl
      rw [hms]
      split
      · rename_i ht
        rw [ht]
        exact listDK_eq hev ops B k l _ _ _ fun i hi => h i (by simp [hi])
      · rename_i ht
        rw [ht]
        exact listDK_eq hev ops B k l _ _ _ fun i hi => h i (by simp [hi])
/-- the block that a value leads to -/
def rb : Value → List Nat
  | .pointer (some a) => [a.block]
  | .slice (some a) _ _ => [a.block]
  | .map (some r) => [r]
  | _ => []
def rdL (w : Bool) (l : List Nat) : List Nat := match w with | true => l | false => []
def chk (r m : List Nat) (x : Option β) : Option β := match r.all (fun b => !m.contains b) with | true => x | false => none
def regionK (P : Program) (ev : Ev) (ops : Array Oper) (draw : Bool) (s : St) (k : St → Option β) : Option β :=
  match plainOk ops, draw with
  | false, _ => none
  | true, false => listK P ev ops (List.range ops.size) s k
  | true, true => match drawOk P ops (Region.before ops) with
    | true => listDK P ev ops (Region.before ops) (List.range ops.size) s [] [] fun s r m => chk r m (k s)
    | false => none
theorem regionK_eq {ev : Ev} (hev : EvMods ev) (ops : Array Oper) (draw : Bool) (s : St) (k : St → Option β) : regionK P ev ops draw s k = (regionV P ev ops draw s).bind k := by
  have hl : ∀ i ∈ List.range ops.size, i < ops.size := fun i hi => List.mem_range.1 hi
  unfold regionK regionV
  cases plainOk ops
  · rfl
  · cases draw
    · exact listK_eq ev ops k _ s hl
    · simp only [if_true]
      cases drawOk P ops (Region.before ops)
      · rfl
      · simp only [if_true]
        rw [listDK_eq hev ops _ _ _ _ _ _ hl]
        cases runListD P ev ops (Region.before ops) (List.range ops.size) ⟨s, [], []⟩ with
        | none => rfl
        | some d =>
          simp only [Option.bind_some]
          unfold chk
          cases d.reads.all fun b => !d.ms.contains b <;> rfl

/-! ### code -/
def codeK (P : Program) (ev : Ev) (lp : Run → Run) : Code → St → (Ex → St → Option β) → Option β
  | .skip => fun s k => k .normal s
  | .label _ => fun s k => k .normal s
  | .ret => fun s k => k .ret s
  | .exit id => fun s k => k (.exit id) s
  | .region _ ops draw => fun s k => regionK P ev ops draw s fun s' => k .normal s'
  | .seq a b => fun s k => codeK P ev lp a s fun e s' => match e with
    | .normal => codeK P ev lp b s' k
    | e => k e s'
  | .cond c a b => fun s k => match constOk c with
    | true => cnd (evalO s.T c) (codeK P ev lp a s k) (codeK P ev lp b s k)
    | false => none
  | .block id c => fun s k => codeK P ev lp c s fun e s' => k (e.inBlock id) s'
  | .loop c => fun s k => obR (lp (runCode P ev lp c) s) k
  | _ => fun _ _ => none
theorem codeK_eq {ev : Ev} (hev : EvMods ev) (lp : Run → Run) : ∀ (c : Code) (s : St) (k : Ex → St → Option β), codeK P ev lp c s k = obR (runCode P ev lp c s) k := by
  intro c
  induction c with
  | skip => intro s k; rfl
  | label => intro s k; rfl
  | ret => intro s k; rfl
  | exit => intro s k; rfl
  | region id ops draw =>
    intro s k
    show regionK P ev ops draw s _ = obR ((regionV P ev ops draw s).map _) k
    rw [regionK_eq hev]
    cases regionV P ev ops draw s <;> rfl
  | seq a b iha ihb =>
    intro s k
    show codeK P ev lp a s _ = obR ((runCode P ev lp a s).bind _) k
    rw [iha]
    cases runCode P ev lp a s with
    | none => rfl
    | some r =>
      obtain ⟨e, s'⟩ := r
      cases e with
      | normal => exact ihb s' k
      | _ => rfl
  | cond c a b iha ihb =>
    intro s k
    show (match constOk c with | true => cnd (evalO s.T c) _ _ | false => none) = obR (if constOk c then (match evalO s.T c with | .bool true => _ | .bool false => _ | _ => none) else none) k
    cases constOk c
    · rfl
    · simp only [if_true, iha, ihb]
      unfold cnd
      cases evalO s.T c with
      | bool t => cases t <;> rfl
      | _ => rfl
  | block id c ih =>
    intro s k
    show codeK P ev lp c s _ = obR ((runCode P ev lp c s).map _) k
    rw [ih]
    cases runCode P ev lp c s <;> rfl
  | loop c ih => intro s k; rfl
  | _ => intros; rfl
theorem runCode_K {ev : Ev} (hev : EvMods ev) (lp : Run → Run) (c : Code) (s : St) : runCode P ev lp c s = codeK P ev lp c s fun e s => some (e, s) := by
  rw [codeK_eq hev]
  cases runCode P ev lp c s <;> rfl
/-- the end of a call -/
def fin (h0 : Heap) (v : Option Value) (h : Heap) : Option (Value × Heap) := v.map fun v => (v, { h with mods := h.mods.filter (· < h0.blks.length) ++ h0.mods })
def callK (P : Program) (ev : Ev) (lp : Run → Run) (f : FuncId) (args : Array Value) (h : Heap) : Option (Value × Heap) :=
  match P.funcs[f]? with
  | some fn =>
    match fn.body with
    | some c => codeK P ev lp c ⟨args ++ Array.replicate (fn.ntmps - args.size) undef, nm h⟩ fun e s => match e with
      | .normal => fin h (resultsV P fn s) s.h
      | .ret => fin h (resultsV P fn s) s.h
      | _ => none
    | none => none
  | none => none
theorem callK_eq {ev : Ev} (hev : EvMods ev) (lp : Run → Run) (f : FuncId) (args : Array Value) (h : Heap) : callBody P ev lp f args h = callK P ev lp f args h := by
  unfold callBody callK
  cases P.funcs[f]? with
  | none => rfl
  | some fn =>
    simp only []
    cases fn.body with
    | none => rfl
    | some c =>
      simp only []
      rw [codeK_eq hev]
      show _ = obR (runCode P ev lp c ⟨_, { h with mods := [] }⟩) _
      cases runCode P ev lp c ⟨args ++ Array.replicate (fn.ntmps - args.size) undef, { h with mods := [] }⟩ with
      | none => rfl
      | some r =>
        obtain ⟨e, s⟩ := r
        cases e <;> rfl
theorem evC_K (f : FuncId) (args : Array Value) (h : Heap) : evC P f args h = callK P (evC P) loopL f args h := by
  rw [evC_eq, callK_eq evC_m]

/-! ### pieces of a text, and what comes behind them -/
def subC : Code → List Bool → Code
  | c, [] => c
  | .seq a b, d :: l => subC (match d with | true => b | false => a) l
  | .cond _ a b, d :: l => subC (match d with | true => b | false => a) l
  | .block _ c, _ :: l => subC c l
  | .loop c, _ :: l => subC c l
  | c, _ :: _ => c
def bodyC (f : Func) (l : List Bool) : Code := match f.body with | some c => subC c l | none => .skip
noncomputable def seqK (P : Program) (ev : Ev) (c : Code) (k : Ex → St → Option β) : Ex → St → Option β := fun e s => match e with
  | .normal => codeK P ev loopL c s k
  | e => k e s
def blockK (id : Nat) (k : Ex → St → Option β) : Ex → St → Option β := fun e s => k (e.inBlock id) s
noncomputable def loopK (P : Program) (ev : Ev) (c : Code) (s : St) (k : Ex → St → Option β) : Option β := obR (loopL (runCode P ev loopL c) s) k
def retK (fn : Func) (P : Program) (h : Heap) : Ex → St → Option (Value × Heap) := fun e s => match e with
  | .normal => fin h (resultsV P fn s) s.h
  | .ret => fin h (resultsV P fn s) s.h
  | _ => none
@[simp] theorem seqK_normal (ev : Ev) (c : Code) (k : Ex → St → Option β) (s : St) : seqK P ev c k .normal s = codeK P ev loopL c s k := rfl
@[simp] theorem seqK_ret (ev : Ev) (c : Code) (k : Ex → St → Option β) (s : St) : seqK P ev c k .ret s = k .ret s := rfl
@[simp] theorem seqK_exit (ev : Ev) (c : Code) (k : Ex → St → Option β) (i : Nat) (s : St) : seqK P ev c k (.exit i) s = k (.exit i) s := rfl
@[simp] theorem blockK_normal (id : Nat) (k : Ex → St → Option β) (s : St) : blockK id k .normal s = k .normal s := rfl
@[simp] theorem blockK_ret (id : Nat) (k : Ex → St → Option β) (s : St) : blockK id k .ret s = k .ret s := rfl
theorem blockK_exit (id : Nat) (k : Ex → St → Option β) (i : Nat) (s : St) : blockK id k (.exit i) s = k (if i = id then .normal else .exit i) s := rfl
@[simp] theorem blockK_same (id : Nat) (k : Ex → St → Option β) (s : St) : blockK id k (.exit id) s = k .normal s := by rw [blockK_exit, if_pos rfl]
/-- a loop's next round -/
noncomputable def againK (P : Program) (ev : Ev) (c : Code) (k : Ex → St → Option β) : Ex → St → Option β := fun e s => match e with
  | .normal => loopK P ev c s k
  | e => k e s
@[simp] theorem againK_normal (ev : Ev) (c : Code) (k : Ex → St → Option β) (s : St) : againK P ev c k .normal s = loopK P ev c s k := rfl
@[simp] theorem againK_ret (ev : Ev) (c : Code) (k : Ex → St → Option β) (s : St) : againK P ev c k .ret s = k .ret s := rfl
@[simp] theorem againK_exit (ev : Ev) (c : Code) (k : Ex → St → Option β) (i : Nat) (s : St) : againK P ev c k (.exit i) s = k (.exit i) s := rfl
theorem loopK_eq {ev : Ev} (hev : EvMods ev) (c : Code) (s : St) (k : Ex → St → Option β) : loopK P ev c s k = codeK P ev loopL c s (againK P ev c k) := by
  rw [codeK_eq hev]
  unfold loopK
  rw [loopL_eq]
  cases runCode P ev loopL c s with
  | none => rfl
  | some r =>
    obtain ⟨e, s'⟩ := r
    cases e <;> rfl

/-! ### what is given -/
def Gives {α : Type} (x : Option α) (Q : α → Prop) : Prop := ∃ a, x = some a ∧ Q a
theorem Gives.some {α : Type} {a : α} {Q : α → Prop} (h : Q a) : Gives (some a) Q := ⟨a, rfl, h⟩
theorem Gives.mono {α : Type} {x : Option α} {Q Q' : α → Prop} (h : Gives x Q) (hq : ∀ a, Q a → Q' a) : Gives x Q' := let ⟨a, e, q⟩ := h; ⟨a, e, hq a q⟩
/-- a loop: an invariant, and what grows less with each round -/
theorem Gives.loop {c : Code} {k : Ex → St → Option β} {Q : β → Prop} (I : St → Prop) (μ : St → Nat) {s : St} (hs : I s)
    (h : ∀ s, I s → (∀ s', I s' → μ s' < μ s → Gives (loopK P (evC P) c s' k) Q) → Gives (codeK P (evC P) loopL c s (againK P (evC P) c k)) Q) : Gives (loopK P (evC P) c s k) Q := by
  generalize hn : μ s = n
  induction n using Nat.strongRecOn generalizing s with
  | _ n ih =>
    rw [loopK_eq evC_m]
    exact h s hs fun s' hs' hlt => ih (μ s') (by omega) hs' rfl
theorem evC_call (f : FuncId) (fn : Func) (c : Code) (hf : P.funcs[f]? = Option.some fn) (hc : fn.body = Option.some c) (args : Array Value) (h : Heap) :
    evC P f args h = codeK P (evC P) loopL c ⟨args ++ Array.replicate (fn.ntmps - args.size) undef, nm h⟩ (retK fn P h) := by
  rw [evC_K]
  unfold callK
  rw [hf]
  simp only []
  rw [hc]
  rfl
end Go.Am
