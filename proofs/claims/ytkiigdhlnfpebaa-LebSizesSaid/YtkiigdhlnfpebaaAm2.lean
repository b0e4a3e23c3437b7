/- The abstract machine: how its values and heaps stand to the model's. -/
import Derived.Test.YtkiigdhlnfpebaaAm1
namespace Go.Am

structure Loc where
  cb : Nat
  s : Nat
  sz : Nat
  es : Nat
abbrev Env := Nat → Option Loc

inductive VR (E : Env) : Value → Value → Prop
  | bool (b : Bool) : VR E (.bool b) (.bool b)
  | int (k : IntKind) (n : Int) : VR E (.int k n) (.int k n)
  | float (k : FloatKind) (n : Nat) : VR E (.float k n) (.float k n)
  | string (s : ByteArray) : VR E (.string s) (.string s)
  | nilIface : VR E .nilIface .nilIface
  | nilFunc : VR E .nilFunc .nilFunc
  | ptrNil : VR E (.pointer none) (.pointer none)
  | ptr {b o : Nat} {l : Loc} : E b = some l → VR E (.pointer (some ⟨b, o, none⟩)) (.pointer (some ⟨l.cb, l.s + o, none⟩))
  | sliceNil : VR E (.slice none 0 0) (.slice none 0 0)
  | slice {b o n c c' : Nat} {l : Loc} : E b = some l → (c = UNK ∨ c = c' ∧ c ≠ UNK) → n ≤ c' → (c = UNK → l.s + o + c' * l.es ≤ l.sz) →
      VR E (.slice (some ⟨b, o, none⟩) n c) (.slice (some ⟨l.cb, l.s + o, none⟩) n c')
  | sliceEmpty {b o c : Nat} {a' : Addr} : (c = UNK ∨ c = 0) → VR E (.slice (some ⟨b, o, none⟩) 0 c) (.slice (some a') 0 0)
  | mapNil : VR E (.map none) (.map none)
  | map {b : Nat} {l : Loc} : E b = some l → VR E (.map (some b)) (.map (some l.cb))
  | iface {t : TypeId} {v v' : Value} : VR E v v' → VR E (.iface t v) (.iface t v')
  | agg {cs cs' : Array Value} : cs.size = cs'.size → (∀ i (h : i < cs.size) (h' : i < cs'.size), VR E cs[i] cs'[i]) → VR E (.agg cs) (.agg cs')
  | tuple {cs cs' : Array Value} : cs.size = cs'.size → (∀ i (h : i < cs.size) (h' : i < cs'.size), VR E cs[i] cs'[i]) → VR E (.tuple cs) (.tuple cs')
  | func {fn : Fn} {f f' c c' : Array Value} : f.size = f'.size → (∀ i (h : i < f.size) (h' : i < f'.size), VR E f[i] f'[i]) →
      c.size = c'.size → (∀ i (h : i < c.size) (h' : i < c'.size), VR E c[i] c'[i]) → VR E (.func fn f c) (.func fn f' c')

def ARel (E : Env) (a a' : Array Value) : Prop := a.size = a'.size ∧ ∀ i (h : i < a.size) (h' : i < a'.size), VR E a[i] a'[i]

def Ext (E E' : Env) : Prop := ∀ b l, E b = some l → E' b = some l
theorem Ext.refl (E : Env) : Ext E E := fun _ _ h => h
theorem Ext.trans {E E' E'' : Env} (h : Ext E E') (h' : Ext E' E'') : Ext E E'' := fun b l e => h' b l (h b l e)

theorem VR.mono {E E' : Env} (hE : Ext E E') {v v' : Value} (h : VR E v v') : VR E' v v' := by
  induction h with
  | bool b => exact .bool b
  | int k n => exact .int k n
  | float k n => exact .float k n
  | string s => exact .string s
  | nilIface => exact .nilIface
  | nilFunc => exact .nilFunc
  | ptrNil => exact .ptrNil
  | ptr h => exact .ptr (hE _ _ h)
  | sliceNil => exact .sliceNil
  | slice h a b c => exact .slice (hE _ _ h) a b c
  | sliceEmpty h => exact .sliceEmpty h
  | mapNil => exact .mapNil
  | map h => exact .map (hE _ _ h)
  | iface _ ih => exact .iface ih
  | agg hs _ ih => exact .agg hs ih
  | tuple hs _ ih => exact .tuple hs ih
  | func hs _ hs' _ ih ih' => exact .func hs ih hs' ih'
theorem ARel.mono {E E' : Env} (hE : Ext E E') {a a' : Array Value} (h : ARel E a a') : ARel E' a a' := ⟨h.1, fun i h1 h2 => (h.2 i h1 h2).mono hE⟩

theorem VR.ground0_eq {E : Env} {v v' : Value} (h : VR E v v') (hg : ground0 v = true) : v' = v := by
  cases h <;> simp_all [ground0]
theorem VR.of_ground0 {E : Env} {v : Value} (hg : ground0 v = true) : VR E v v := by
  cases v with
  | bool b => exact .bool b
  | int k n => exact .int k n
  | float k n => exact .float k n
  | string s => exact .string s
  | nilIface => exact .nilIface
  | nilFunc => exact .nilFunc
  | pointer a => cases a with
    | none => exact .ptrNil
    | some a => simp [ground0] at hg
  | slice a n c => cases a with
    | none => simp [ground0] at hg; obtain ⟨rfl, rfl⟩ := hg; exact .sliceNil
    | some a => simp [ground0] at hg
  | map r => cases r with
    | none => exact .mapNil
    | some a => simp [ground0] at hg
  | _ => simp [ground0] at hg
theorem arr_all {cs : Array Value} {p : Value → Bool} (h : cs.all p = true) (i : Nat) (hi : i < cs.size) : p cs[i] = true := by
  rw [Array.all_eq_true] at h
  exact h i hi
theorem VR.ground_eq {E : Env} {v v' : Value} (h : VR E v v') (hg : ground v = true) : v' = v := by
  cases h with
  | iface h => simp only [ground] at hg; rw [h.ground0_eq hg]
  | agg hs h =>
    simp only [ground] at hg
    congr 1
    exact Array.ext hs.symm fun i h1 h2 => (h i h2 h1).ground0_eq (arr_all hg i h2)
  | tuple hs h =>
    simp only [ground] at hg
    congr 1
    exact Array.ext hs.symm fun i h1 h2 => (h i h2 h1).ground0_eq (arr_all hg i h2)
  | func => simp [ground, ground0] at hg
  | _ => first | rfl | simp [ground, ground0] at hg
theorem VR.of_ground {E : Env} {v : Value} (hg : ground v = true) : VR E v v := by
  cases v with
  | iface t v => exact .iface (VR.of_ground0 (by simpa [ground] using hg))
  | agg cs => exact .agg rfl fun i h _ => VR.of_ground0 (arr_all (by simpa [ground] using hg) i h)
  | tuple cs => exact .tuple rfl fun i h _ => VR.of_ground0 (arr_all (by simpa [ground] using hg) i h)
  | _ => exact VR.of_ground0 (by simpa [ground] using hg)
theorem VR.undef {E : Env} : VR E undef undef := .tuple rfl fun i h _ => by simp at h
theorem VR.oneCell {E : Env} {v v' : Value} (h : VR E v v') : v'.oneCell' = v.oneCell' := by cases h <;> rfl

theorem ARel.getD {E : Env} {a a' : Array Value} (h : ARel E a a') (i : Nat) : VR E (a.getD i Go.undef) (a'.getD i Go.undef) := by
  by_cases hi : i < a.size
  · have hi' : i < a'.size := h.1 ▸ hi
    simpa [Array.getD, hi, hi'] using h.2 i hi hi'
  · have hi' : ¬ i < a'.size := h.1 ▸ hi
    simp [Array.getD, hi, hi', VR.undef]
theorem ARel.set {E : Env} {a a' : Array Value} (h : ARel E a a') (d : Nat) {v v' : Value} (hv : VR E v v') : ARel E (a.setIfInBounds d v) (a'.setIfInBounds d v') := by
  refine ⟨by simp [h.1], fun i h1 h2 => ?_⟩
  have h1' : i < a.size := by simpa using h1
  have h2' : i < a'.size := by simpa using h2
  have e1 : (a.setIfInBounds d v)[i] = if d = i then v else a[i] := by
    by_cases hd : d = i
    · subst hd; simp
    · rw [if_neg hd]; exact Array.getElem_setIfInBounds_ne h1' hd
  have e2 : (a'.setIfInBounds d v')[i] = if d = i then v' else a'[i] := by
    by_cases hd : d = i
    · subst hd; simp
    · rw [if_neg hd]; exact Array.getElem_setIfInBounds_ne h2' hd
  rw [e1, e2]
  by_cases hd : d = i
  · rw [if_pos hd, if_pos hd]; exact hv
  · rw [if_neg hd, if_neg hd]; exact h.2 i h1' h2'
theorem ARel.nil {E : Env} : ARel E #[] #[] := ⟨rfl, fun i h => by simp at h⟩
theorem ARel.cells {E : Env} {v v' : Value} (h : VR E v v') : ARel E v.cells v'.cells := by
  have single : ∀ {v v' : Value}, VR E v v' → ARel E #[v] #[v'] := fun h => ⟨rfl, fun i h1 h2 => by
    have : i = 0 := by simp at h1; omega
    subst this; exact h⟩
  cases h with
  | agg hs h => exact ⟨hs, h⟩
  | _ => exact single (by constructor <;> assumption)
theorem ARel.append {E : Env} {a a' b b' : Array Value} (h : ARel E a a') (k : ARel E b b') : ARel E (a ++ b) (a' ++ b') := by
  refine ⟨by simp [h.1, k.1], fun i h1 h2 => ?_⟩
  by_cases hi : i < a.size
  · have hi' : i < a'.size := h.1 ▸ hi
    rw [Array.getElem_append_left hi, Array.getElem_append_left hi']; exact h.2 i hi hi'
  · have hi' : ¬ i < a'.size := h.1 ▸ hi
    rw [Array.getElem_append_right (by omega), Array.getElem_append_right (by omega)]
    simp only [h.1]
    exact k.2 _ _ _

/-- lists of values -/
def LRel (E : Env) (l l' : List Value) : Prop := l.length = l'.length ∧ ∀ (i : Nat) v, l[i]? = some v → ∃ v', l'[i]? = some v' ∧ VR E v v'

/-! ### heaps -/
def Blk.live (k : Blk) : Prop := match k.body with | .dead => False | .gone => False | _ => True
def Body.kind : Body → Nat
  | .map _ => 1
  | .gone => 2
  | _ => 0

def Own (P : Program) (k : Blk) (l : Loc) (w : World) : Prop :=
  ∃ cs e lo hi, w.heap[l.cb]? = some (.cells cs e (lo, hi)) ∧ cs.size = l.sz ∧ sizeT P k.ty = some l.es ∧ (lo = hi ∨ l.sz ≤ lo)
def BlkR (P : Program) (E : Env) (k : Blk) (l : Loc) (w : World) : Prop :=
  match k.body with
  | .cells cs => sizeT P k.ty = some l.es ∧ (∀ (i : Nat) v, cs[i]? = some v → ∃ v', w.cell? ⟨l.cb, l.s + i, none⟩ = some v' ∧ VR E v v') ∧ (k.own = true → Own P k l w)
  | .map es => ∃ (es' : Array MapEntry) (clock : Nat), w.heap[l.cb]? = some (.map es' clock) ∧ es.length = es'.size ∧
      ∀ (i : Nat) e e', es[i]? = some e → es'[i]? = some e' → VR E e.1 e'.key ∧ VR E e.2 e'.val
  | .dead => sizeT P k.ty = some l.es
  | .gone => True

structure Rel (P : Program) (base : Nat) (E : Env) (h : Heap) (w : World) : Prop where
  blk : ∀ (b : Nat) k l, h.blks[b]? = some k → E b = some l → BlkR P E k l w
  low : ∀ (b : Nat) k l, h.blks[b]? = some k → E b = some l → k.own = true → base ≤ l.cb
  ro : ∀ (b : Nat) k l, h.blks[b]? = some k → E b = some l → k.own = false → l.cb < base
  bnd : ∀ (b : Nat) l, E b = some l → l.cb < w.heap.size
  inj : ∀ (b b2 : Nat) k k2 l l2, h.blks[b]? = some k → h.blks[b2]? = some k2 → E b = some l → E b2 = some l2 → k.own = true → k2.own = true → k.live → k2.live → l.cb = l2.cb → b = b2
  base : base ≤ w.heap.size

/-- is a concrete block one of those that may be written? -/
def Mine (E : Env) (h : Heap) (c : Nat) : Prop := ∃ (b : Nat) (k : Blk) (l : Loc), h.blks[b]? = some k ∧ E b = some l ∧ k.own = true ∧ k.live ∧ l.cb = c

structure Fr (E : Env) (h : Heap) (w w' : World) : Prop where
  os : w'.os = w.os
  tape : w'.tape = w.tape
  output : w'.output = w.output
  size : w.heap.size ≤ w'.heap.size
  blk : ∀ c, c < w.heap.size → ¬ Mine E h c → w'.heap[c]? = w.heap[c]?

/-- of the abstract heaps alone -/
structure Grow (h h' : Heap) : Prop where
  len : h.blks.length ≤ h'.blks.length
  old : ∀ (b : Nat) k, h.blks[b]? = some k → ∃ k', h'.blks[b]? = some k' ∧ (k'.own = k.own ∧ k'.ty = k.ty ∧ k'.body.kind = k.body.kind) ∧ (k'.live → k.live)
  mods : ∃ d, h'.mods = d ++ h.mods ∧ ∀ b, b < h.blks.length → b ∉ d → h'.blks[b]? = h.blks[b]?
  fresh : ∀ (b : Nat) k, h.blks.length ≤ b → h'.blks[b]? = some k → k.body.kind ≠ 2

structure Post (P : Program) (base : Nat) (E : Env) (h : Heap) (w : World) (E' : Env) (h' : Heap) (w' : World) : Prop where
  ext : Ext E E'
  dom : ∀ b, E b = none → E' b ≠ none → h.blks.length ≤ b ∧ b < h'.blks.length
  rel : Rel P base E' h' w'
  fr : Fr E h w w'
  orig : ∀ (b : Nat) k l, E b = none → E' b = some l → h'.blks[b]? = some k → k.own = true → k.live → w.heap.size ≤ l.cb ∨ Mine E h l.cb

theorem Fr.refl (E : Env) (h : Heap) (w : World) : Fr E h w w := ⟨rfl, rfl, rfl, Nat.le_refl _, fun _ _ _ => rfl⟩
theorem Post.refl {P : Program} {base : Nat} {E : Env} {h : Heap} {w : World} (hR : Rel P base E h w) : Post P base E h w E h w :=
  ⟨Ext.refl _, fun _ h0 h1 => absurd h0 h1, hR, Fr.refl _ _ _, fun b k l h0 h1 => by rw [h0] at h1; cases h1⟩
theorem Grow.refl (h : Heap) : Grow h h := ⟨Nat.le_refl _, fun _ k hk => ⟨k, hk, ⟨rfl, rfl, rfl⟩, id⟩, ⟨[], rfl, fun _ _ _ => rfl⟩, fun b k hb hk => by rw [List.getElem?_eq_none hb] at hk; cases hk⟩
theorem Grow.trans {a b c : Heap} (h : Grow a b) (k : Grow b c) : Grow a c := by
  refine ⟨Nat.le_trans h.len k.len, fun i x hx => ?_, ?_, fun i x hi hx => ?_⟩
  · obtain ⟨y, hy, h1, h2⟩ := h.old i x hx
    obtain ⟨z, hz, h3, h4⟩ := k.old i y hy
    exact ⟨z, hz, ⟨h3.1.trans h1.1, h3.2.1.trans h1.2.1, h3.2.2.trans h1.2.2⟩, h2 ∘ h4⟩
  · obtain ⟨d, hd, h1⟩ := h.mods
    obtain ⟨d', hd', h2⟩ := k.mods
    refine ⟨d' ++ d, by rw [hd', hd, List.append_assoc], fun i hi hn => ?_⟩
    simp only [List.mem_append, not_or] at hn
    rw [h2 i (Nat.lt_of_lt_of_le hi h.len) hn.1, h1 i hi hn.2]
  · rcases Nat.lt_or_ge i b.blks.length with h1 | h1
    · obtain ⟨y, hy, h2, _⟩ := k.old i _ (List.getElem?_eq_getElem h1)
      rw [hx] at hy; cases hy
      rw [h2.2.2]
      exact h.fresh i _ hi (List.getElem?_eq_getElem h1)
    · exact k.fresh i x h1 hx

/-- the numbers that h' has and h has not are not in use -/
def Free (E : Env) (h h' : Heap) : Prop := ∀ b, h.blks.length ≤ b → b < h'.blks.length → E b = none

theorem Mine.back {P : Program} {base : Nat} {E E' : Env} {h h' : Heap} {w w' : World} (hp : Post P base E h w E' h' w') (hg : Grow h h') (hfree : Free E h h') {c : Nat} (hc : c < w.heap.size) (hm : Mine E' h' c) : Mine E h c := by
  obtain ⟨b, k, l, hk, hl, ho, hv, rfl⟩ := hm
  cases hb : E b with
  | none => exact (hp.orig b k l hb hl hk ho hv).resolve_left (by omega)
  | some l0 =>
    have := hp.ext b l0 hb
    rw [hl] at this; cases this
    have hlt : b < h.blks.length := by
      rcases Nat.lt_or_ge b h.blks.length with h1 | h1
      · exact h1
      · rw [hfree b h1 (List.getElem?_eq_some_iff.1 hk).1] at hb; cases hb
    obtain ⟨k', hk', h1, h2⟩ := hg.old b _ (List.getElem?_eq_getElem hlt)
    rw [hk] at hk'; cases hk'
    exact ⟨b, _, l, List.getElem?_eq_getElem hlt, hb, by rw [← h1.1]; exact ho, h2 hv, rfl⟩

theorem Fr.trans {P : Program} {base : Nat} {E E' : Env} {h h' : Heap} {w w' w'' : World} (hp : Post P base E h w E' h' w') (hg : Grow h h') (hfree : Free E h h') (hf : Fr E' h' w' w'') : Fr E h w w'' :=
  ⟨hf.os.trans hp.fr.os, hf.tape.trans hp.fr.tape, hf.output.trans hp.fr.output, Nat.le_trans hp.fr.size hf.size, fun c hc hm => by
    rw [hf.blk c (Nat.lt_of_lt_of_le hc hp.fr.size) (fun hm' => hm (Mine.back hp hg hfree hc hm')), hp.fr.blk c hc hm]⟩

theorem Free.left {E : Env} {h h1 h2 : Heap} (hf : Free E h h2) (g2 : Grow h1 h2) : Free E h h1 := fun b hb hb' => hf b hb (Nat.lt_of_lt_of_le hb' g2.len)
theorem Free.right {P : Program} {base : Nat} {E E1 : Env} {h h1 h2 : Heap} {w w1 : World} (hf : Free E h h2) (hp : Post P base E h w E1 h1 w1) (g1 : Grow h h1) : Free E1 h1 h2 := by
  intro b hb hb'
  have h0 := hf b (Nat.le_trans g1.len hb) hb'
  cases h1b : E1 b with
  | none => rfl
  | some l => have := (hp.dom b h0 (by rw [h1b]; simp)).2; omega

theorem Post.trans {P : Program} {base : Nat} {E E1 E2 : Env} {h h1 h2 : Heap} {w w1 w2 : World} (p1 : Post P base E h w E1 h1 w1) (p2 : Post P base E1 h1 w1 E2 h2 w2)
    (g1 : Grow h h1) (g2 : Grow h1 h2) (hf : Free E h h2) : Post P base E h w E2 h2 w2 := by
  refine ⟨p1.ext.trans p2.ext, fun b h0 hn => ?_, p2.rel, Fr.trans p1 g1 (hf.left g2) p2.fr, fun b k l h0 h2b hk ho hv => ?_⟩
  · cases h1b : E1 b with
    | none => have := p2.dom b h1b hn; exact ⟨Nat.le_trans g1.len this.1, this.2⟩
    | some l => have := p1.dom b h0 (by rw [h1b]; simp); exact ⟨this.1, Nat.lt_of_lt_of_le this.2 g2.len⟩
  · cases h1b : E1 b with
    | none =>
      rcases p2.orig b k l h1b h2b hk ho hv with h | h
      · exact .inl (Nat.le_trans p1.fr.size h)
      · rcases Nat.lt_or_ge l.cb w.heap.size with hc | hc
        · exact .inr (Mine.back p1 g1 (hf.left g2) hc h)
        · exact .inl hc
    | some l1 =>
      have := p2.ext b l1 h1b
      rw [h2b] at this; cases this
      have hd := p1.dom b h0 (by rw [h1b]; simp)
      obtain ⟨k', hk', e1, e2⟩ := g2.old b _ (List.getElem?_eq_getElem hd.2)
      rw [hk] at hk'; cases hk'
      exact p1.orig b _ l h0 h1b (List.getElem?_eq_getElem hd.2) (by rw [← e1.1]; exact ho) (e2 hv)

/-! ### steps of the two heaps -/
theorem cell?_congr {w w' : World} {a : Addr} (h : w'.heap[a.block]? = w.heap[a.block]?) : w'.cell? a = w.cell? a := by simp only [World.cell?, h]
theorem BlkR.congr {P : Program} {E E' : Env} {k : Blk} {l : Loc} {w w' : World} (hE : Ext E E') (hw : w'.heap[l.cb]? = w.heap[l.cb]?) (h : BlkR P E k l w) : BlkR P E' k l w' := by
  unfold BlkR at *
  split at h
  · refine ⟨h.1, fun i v hv => ?_, fun ho => ?_⟩
    · obtain ⟨v', h1, h2⟩ := h.2.1 i v hv
      exact ⟨v', by rw [cell?_congr hw]; exact h1, h2.mono hE⟩
    · obtain ⟨cs, e, lo, hi, h1, h2⟩ := h.2.2 ho
      exact ⟨cs, e, lo, hi, by rw [hw]; exact h1, h2⟩
  · obtain ⟨es', clock, h1, h2, h3⟩ := h
    exact ⟨es', clock, by rw [hw]; exact h1, h2, fun i e e' he he' => ⟨(h3 i e e' he he').1.mono hE, (h3 i e e' he he').2.mono hE⟩⟩
  · exact h
  · trivial

theorem BlkR.of_dead {P : Program} {E E' : Env} {k : Blk} {l : Loc} {w w' : World} (h : ¬ k.live) (hb : BlkR P E k l w) : BlkR P E' k l w' := by
  obtain ⟨body, ty, own⟩ := k
  cases body with
  | dead => exact hb
  | gone => exact trivial
  | _ => exact absurd trivial h

def Env.upd (E : Env) (b : Nat) (l : Loc) : Env := fun x => if x = b then some l else E x
theorem Env.upd_ext {E : Env} {b : Nat} {l : Loc} (h : E b = none) : Ext E (E.upd b l) := fun x y hx => by
  unfold Env.upd
  by_cases e : x = b
  · subst e; rw [h] at hx; cases hx
  · rw [if_neg e]; exact hx
theorem Env.upd_same (E : Env) (b : Nat) (l : Loc) : E.upd b l b = some l := by simp [Env.upd]
theorem Env.upd_other (E : Env) {b x : Nat} (l : Loc) (h : x ≠ b) : E.upd b l x = E x := by simp [Env.upd, h]

theorem Heap.new_get {h : Heap} {body : Body} {ty : TypeId} {b : Nat} {k : Blk} (hk : (h.new body ty).blks[b]? = some k) : (b < h.blks.length ∧ h.blks[b]? = some k) ∨ (b = h.blks.length ∧ k = ⟨body, ty, true⟩) := by
  unfold Heap.new at hk
  rcases Nat.lt_or_ge b h.blks.length with hlt | hge
  · rw [List.getElem?_append_left hlt] at hk; exact .inl ⟨hlt, hk⟩
  · rw [List.getElem?_append_right hge] at hk
    have hb : b - h.blks.length = 0 := by
      have := (List.getElem?_eq_some_iff.1 hk).1; simp at this; omega
    rw [hb] at hk
    simp at hk
    exact .inr ⟨by omega, hk.symm⟩
theorem Heap.new_len (h : Heap) (body : Body) (ty : TypeId) : (h.new body ty).blks.length = h.blks.length + 1 := by simp [Heap.new]
theorem Heap.new_old {h : Heap} {body : Body} {ty : TypeId} {b : Nat} (hb : b < h.blks.length) : (h.new body ty).blks[b]? = h.blks[b]? := by
  unfold Heap.new; rw [List.getElem?_append_left hb]
theorem Grow.new (h : Heap) (body : Body) (ty : TypeId) (hb : body.kind ≠ 2) : Grow h (h.new body ty) := by
  refine ⟨by simp [Heap.new], fun b k hk => ⟨k, ?_, ⟨rfl, rfl, rfl⟩, id⟩, ⟨[], rfl, fun b hb _ => Heap.new_old hb⟩, fun b k hb' hk => ?_⟩
  · rw [Heap.new_old (List.getElem?_eq_some_iff.1 hk).1]; exact hk
  · rcases Heap.new_get hk with ⟨h1, _⟩ | ⟨_, rfl⟩
    · omega
    · exact hb
theorem Heap.put_len (h : Heap) (b : Nat) (body : Body) : (h.put b body).blks.length = h.blks.length := by
  unfold Heap.put; split <;> simp
theorem Heap.put_eq {h : Heap} {b : Nat} {k : Blk} (hk : h.blks[b]? = some k) (body : Body) : h.put b body = { blks := h.blks.set b { k with body }, mods := b :: h.mods } := by
  unfold Heap.put; simp only [hk]
theorem Heap.put_same {h : Heap} {b : Nat} {k : Blk} (hk : h.blks[b]? = some k) (body : Body) : (h.put b body).blks[b]? = some { k with body } := by
  rw [Heap.put_eq hk]; simp [(List.getElem?_eq_some_iff.1 hk).1]
theorem Heap.put_other {h : Heap} {b x : Nat} (hx : x ≠ b) (body : Body) : (h.put b body).blks[x]? = h.blks[x]? := by
  unfold Heap.put; split
  · simp [Ne.symm hx]
  · rfl
theorem Grow.put {h : Heap} {b : Nat} {k : Blk} (hk : h.blks[b]? = some k) (hv : k.live) (body : Body) (hm : body.kind = k.body.kind) : Grow h (h.put b body) := by
  refine ⟨by rw [Heap.put_len]; exact Nat.le_refl _, fun x y hy => ?_, ⟨[b], by rw [Heap.put_eq hk]; rfl, fun x hx hn => Heap.put_other (by simpa using hn) body⟩, fun x y hx hy => by
    rw [List.getElem?_eq_none (by rw [Heap.put_len]; exact hx)] at hy; cases hy⟩
  by_cases e : x = b
  · subst e
    rw [hk] at hy; cases hy
    exact ⟨_, Heap.put_same hk body, ⟨rfl, rfl, hm⟩, fun _ => hv⟩
  · exact ⟨y, by rw [Heap.put_other e]; exact hy, ⟨rfl, rfl, rfl⟩, id⟩

/-- one block more, the others as they were -/
structure Pushed (w w' : World) : Prop where
  os : w'.os = w.os
  tape : w'.tape = w.tape
  output : w'.output = w.output
  size : w'.heap.size = w.heap.size + 1
  blk : ∀ c, c < w.heap.size → w'.heap[c]? = w.heap[c]?
theorem Post.new {P : Program} {base : Nat} {E : Env} {h : Heap} {w w' : World} (hR : Rel P base E h w) (hf : E h.blks.length = none) (body : Body) (ty : TypeId) (l : Loc) (hl : l.cb = w.heap.size) (hw : Pushed w w')
    (hb : BlkR P E ⟨body, ty, true⟩ l w') : Post P base E h w (E.upd h.blks.length l) (h.new body ty) w' := by
  have hext := Env.upd_ext (l := l) hf
  have hE : ∀ b l', E.upd h.blks.length l b = some l' → (b = h.blks.length ∧ l' = l) ∨ (b ≠ h.blks.length ∧ E b = some l') := fun b l' he => by
    by_cases e : b = h.blks.length
    · subst e; rw [Env.upd_same] at he; cases he; exact .inl ⟨rfl, rfl⟩
    · rw [Env.upd_other _ _ e] at he; exact .inr ⟨e, he⟩
  refine ⟨hext, fun b h0 hn => ?_, ⟨fun b k l' hk he => ?_, fun b k l' hk he ho => ?_, fun b k l' hk he ho => ?_, fun b l' he => ?_, fun b b2 k k2 l1 l2 hk hk2 he he2 ho ho2 hv hv2 hc => ?_, by rw [hw.size]; have := hR.base; omega⟩,
    ⟨hw.os, hw.tape, hw.output, by rw [hw.size]; omega, fun c hc _ => hw.blk c hc⟩, fun b k l' h0 he hk ho hv => ?_⟩
  · by_cases e : b = h.blks.length
    · subst e; exact ⟨Nat.le_refl _, by rw [Heap.new_len]; omega⟩
    · rw [Env.upd_other _ _ e] at hn; exact absurd h0 hn
  · rcases Heap.new_get hk with ⟨hlt, hk⟩ | ⟨rfl, rfl⟩
    · rcases hE b l' he with ⟨rfl, _⟩ | ⟨_, he⟩
      · omega
      · exact (hR.blk b k l' hk he).congr hext (hw.blk _ (hR.bnd b l' he))
    · rw [Env.upd_same] at he; cases he
      exact hb.congr hext rfl
  · rcases Heap.new_get hk with ⟨hlt, hk⟩ | ⟨rfl, rfl⟩
    · rcases hE b l' he with ⟨rfl, _⟩ | ⟨_, he⟩
      · omega
      · exact hR.low b k l' hk he ho
    · rw [Env.upd_same] at he; cases he; rw [hl]; exact hR.base
  · rcases Heap.new_get hk with ⟨hlt, hk⟩ | ⟨rfl, rfl⟩
    · rcases hE b l' he with ⟨rfl, _⟩ | ⟨_, he⟩
      · omega
      · exact hR.ro b k l' hk he ho
    · cases ho
  · rcases hE b l' he with ⟨rfl, rfl⟩ | ⟨_, he⟩
    · rw [hl, hw.size]; omega
    · have := hR.bnd b l' he; rw [hw.size]; omega
  · rcases Heap.new_get hk with ⟨hlt, hk⟩ | ⟨rfl, rfl⟩ <;> rcases Heap.new_get hk2 with ⟨hlt2, hk2⟩ | ⟨rfl, rfl⟩
    · rcases hE b l1 he with ⟨rfl, _⟩ | ⟨_, he⟩
      · omega
      · rcases hE b2 l2 he2 with ⟨rfl, _⟩ | ⟨_, he2⟩
        · omega
        · exact hR.inj b b2 k k2 l1 l2 hk hk2 he he2 ho ho2 hv hv2 hc
    · rw [Env.upd_same] at he2; cases he2
      rcases hE b l1 he with ⟨rfl, _⟩ | ⟨_, he⟩
      · rfl
      · have := hR.bnd b l1 he; omega
    · rw [Env.upd_same] at he; cases he
      rcases hE b2 l2 he2 with ⟨rfl, _⟩ | ⟨_, he2⟩
      · rfl
      · have := hR.bnd b2 l2 he2; omega
    · rfl
  · rcases hE b l' he with ⟨rfl, rfl⟩ | ⟨_, he⟩
    · left; rw [hl]; exact Nat.le_refl _
    · rw [h0] at he; cases he

/-- one block is written, the others are as they were -/
structure Wrote (c0 : Nat) (w w' : World) : Prop where
  os : w'.os = w.os
  tape : w'.tape = w.tape
  output : w'.output = w.output
  size : w'.heap.size = w.heap.size
  blk : ∀ c, c ≠ c0 → w'.heap[c]? = w.heap[c]?
theorem Post.put {P : Program} {base : Nat} {E : Env} {h : Heap} {w w' : World} (hR : Rel P base E h w) {b : Nat} {k : Blk} {l : Loc} (hk : h.blks[b]? = some k) (hl : E b = some l) (ho : k.own = true) (hv : k.live)
    (body : Body) (hw : Wrote l.cb w w') (hb : BlkR P E { k with body } l w') : Post P base E h w E (h.put b body) w' := by
  have hget : ∀ x y, (h.put b body).blks[x]? = some y → (x = b ∧ y = { k with body }) ∨ (x ≠ b ∧ h.blks[x]? = some y) := fun x y hx => by
    by_cases e : x = b
    · subst e; rw [Heap.put_same hk] at hx; cases hx; exact .inl ⟨rfl, rfl⟩
    · rw [Heap.put_other e] at hx; exact .inr ⟨e, hx⟩
  refine ⟨Ext.refl _, fun x h0 hn => absurd h0 hn, ⟨fun x y l' hx he => ?_, fun x y l' hx he ho' => ?_, fun x y l' hx he ho' => ?_, fun x l' he => by rw [hw.size]; exact hR.bnd x l' he, fun x x2 y y2 l1 l2 hx hx2 he he2 ho1 ho2 hv1 hv2 hc => ?_, by rw [hw.size]; exact hR.base⟩,
    ⟨hw.os, hw.tape, hw.output, by rw [hw.size]; exact Nat.le_refl _, fun c hc hm => hw.blk c (fun e => hm ⟨b, k, l, hk, hl, ho, hv, e.symm⟩)⟩, fun x y l' h0 he => by rw [h0] at he; cases he⟩
  · rcases hget x y hx with ⟨rfl, rfl⟩ | ⟨hne, hx⟩
    · rw [hl] at he; cases he; exact hb
    · have old := hR.blk x y l' hx he
      by_cases hc : l'.cb = l.cb
      · -- another block in the same concrete block: it is dead, or it is not the call's own
        by_cases hyv : y.live
        · cases hyo : y.own with
          | true => exact absurd (hR.inj x b y k l' l hx hk he hl hyo ho hyv hv hc) hne
          | false => have := hR.ro x y l' hx he hyo; have := hR.low b k l hk hl ho; omega
        · exact BlkR.of_dead hyv old
      · exact old.congr (Ext.refl _) (hw.blk _ hc)
  · rcases hget x y hx with ⟨rfl, rfl⟩ | ⟨hne, hx⟩
    · rw [hl] at he; cases he; exact hR.low _ k l hk hl ho
    · exact hR.low x y l' hx he ho'
  · rcases hget x y hx with ⟨rfl, rfl⟩ | ⟨hne, hx⟩
    · exact absurd ho' (by simp [ho])
    · exact hR.ro x y l' hx he ho'
  · rcases hget x y hx with ⟨e1, e2⟩ | ⟨hne, hx'⟩ <;> rcases hget x2 y2 hx2 with ⟨e3, e4⟩ | ⟨hne2, hx2'⟩
    · rw [e1, e3]
    · rw [e1, hl] at he; cases he
      rw [e1]; exact hR.inj b x2 k y2 l l2 hk hx2' hl he2 ho ho2 hv hv2 hc
    · rw [e3, hl] at he2; cases he2
      rw [e3]; exact hR.inj x b y k l1 l hx' hk he hl ho1 ho hv1 hv hc
    · exact hR.inj x x2 y y2 l1 l2 hx' hx2' he he2 ho1 ho2 hv1 hv2 hc

/-- a new block in the memory of one that is dead -/
theorem Post.alias {P : Program} {base : Nat} {E : Env} {h : Heap} {w w' : World} (hR : Rel P base E h w) (hf : E h.blks.length = none) {b : Nat} {k : Blk} {l0 : Loc} (hk : h.blks[b]? = some k) (hl0 : E b = some l0) (ho : k.own = true) (hv : k.live) (hes : sizeT P k.ty = some l0.es)
    (body : Body) (ty : TypeId) (l : Loc) (hl : l.cb = l0.cb) (hw : Wrote l.cb w w') (hb : BlkR P E ⟨body, ty, true⟩ l w') : Post P base E h w (E.upd h.blks.length l) ((h.put b .dead).new body ty) w' := by
  have hlen : (h.put b .dead).blks.length = h.blks.length := Heap.put_len _ _ _
  have hext := Env.upd_ext (l := l) hf
  have hE : ∀ x l', E.upd h.blks.length l x = some l' → (x = h.blks.length ∧ l' = l) ∨ (x ≠ h.blks.length ∧ E x = some l') := fun x l' he => by
    by_cases e : x = h.blks.length
    · subst e; rw [Env.upd_same] at he; cases he; exact .inl ⟨rfl, rfl⟩
    · rw [Env.upd_other _ _ e] at he; exact .inr ⟨e, he⟩
  -- the blocks: an old one, the dead one, the new one
  have hget : ∀ x y, ((h.put b .dead).new body ty).blks[x]? = some y → (x = h.blks.length ∧ y = ⟨body, ty, true⟩) ∨ (x < h.blks.length ∧ x = b ∧ y = { k with body := .dead }) ∨ (x < h.blks.length ∧ x ≠ b ∧ h.blks[x]? = some y) := fun x y hx => by
    rcases Heap.new_get hx with ⟨hlt, hx⟩ | ⟨rfl, rfl⟩
    · rw [hlen] at hlt
      by_cases e : x = b
      · subst e; rw [Heap.put_same hk] at hx; cases hx; exact .inr (.inl ⟨hlt, rfl, rfl⟩)
      · rw [Heap.put_other e] at hx; exact .inr (.inr ⟨hlt, e, hx⟩)
    · exact .inl ⟨hlen, rfl⟩
  have hdead : ¬ ({ k with body := .dead } : Blk).live := fun h => h
  refine ⟨hext, fun x h0 hn => ?_, ⟨fun x y l' hx he => ?_, fun x y l' hx he ho' => ?_, fun x y l' hx he ho' => ?_, fun x l' he => ?_, fun x x2 y y2 l1 l2 hx hx2 he he2 ho1 ho2 hv1 hv2 hc => ?_, by rw [hw.size]; exact hR.base⟩,
    ⟨hw.os, hw.tape, hw.output, by rw [hw.size]; exact Nat.le_refl _, fun c hc hm => hw.blk c (fun e => hm ⟨b, k, l0, hk, hl0, ho, hv, by rw [e, hl]⟩)⟩, fun x y l' h0 he hx ho' hv' => ?_⟩
  · by_cases e : x = h.blks.length
    · subst e; exact ⟨Nat.le_refl _, by rw [Heap.new_len, hlen]; omega⟩
    · rw [Env.upd_other _ _ e] at hn; exact absurd h0 hn
  · rcases hget x y hx with ⟨rfl, rfl⟩ | ⟨hlt, rfl, rfl⟩ | ⟨hlt, hne, hx⟩
    · rw [Env.upd_same] at he; cases he; exact hb.congr hext rfl
    · rcases hE x l' he with ⟨rfl, _⟩ | ⟨_, he⟩
      · omega
      · rw [hl0] at he; cases he; exact hes
    · rcases hE x l' he with ⟨rfl, _⟩ | ⟨_, he⟩
      · omega
      · by_cases hc : l'.cb = l.cb
        · by_cases hyv : y.live
          · cases hyo : y.own with
            | true => exact absurd (hR.inj x b y k l' l0 hx hk he hl0 hyo ho hyv hv (hc.trans hl)) hne
            | false => have := hR.ro x y l' hx he hyo; have := hR.low b k l0 hk hl0 ho; omega
          · exact BlkR.of_dead hyv (hR.blk x y l' hx he)
        · exact (hR.blk x y l' hx he).congr hext (hw.blk _ hc)
  · rcases hget x y hx with ⟨rfl, rfl⟩ | ⟨hlt, rfl, rfl⟩ | ⟨hlt, hne, hx⟩
    · rw [Env.upd_same] at he; cases he; rw [hl]; exact hR.low b k l0 hk hl0 ho
    · rcases hE x l' he with ⟨rfl, _⟩ | ⟨_, he⟩
      · omega
      · exact hR.low x k l' hk he ho
    · rcases hE x l' he with ⟨rfl, _⟩ | ⟨_, he⟩
      · omega
      · exact hR.low x y l' hx he ho'
  · rcases hget x y hx with ⟨rfl, rfl⟩ | ⟨hlt, rfl, rfl⟩ | ⟨hlt, hne, hx⟩
    · cases ho'
    · exact absurd ho' (by simp [ho])
    · rcases hE x l' he with ⟨rfl, _⟩ | ⟨_, he⟩
      · omega
      · exact hR.ro x y l' hx he ho'
  · rcases hE x l' he with ⟨rfl, rfl⟩ | ⟨_, he⟩
    · rw [hl, hw.size]; exact hR.bnd b l0 hl0
    · rw [hw.size]; exact hR.bnd x l' he
  · rcases hget x y hx with ⟨rfl, rfl⟩ | ⟨hlt, rfl, rfl⟩ | ⟨hlt, hne, hx⟩ <;> rcases hget x2 y2 hx2 with ⟨rfl, rfl⟩ | ⟨hlt2, rfl, rfl⟩ | ⟨hlt2, hne2, hx2⟩
    · rfl
    · exact absurd hv2 hdead
    · rw [Env.upd_same] at he; cases he
      rcases hE x2 l2 he2 with ⟨rfl, _⟩ | ⟨_, he2⟩
      · omega
      · exact absurd (hR.inj x2 b y2 k l2 l0 hx2 hk he2 hl0 ho2 ho hv2 hv (by omega)) hne2
    · exact absurd hv1 hdead
    · rfl
    · exact absurd hv1 hdead
    · rw [Env.upd_same] at he2; cases he2
      rcases hE x l1 he with ⟨rfl, _⟩ | ⟨_, he⟩
      · omega
      · exact absurd (hR.inj x b y k l1 l0 hx hk he hl0 ho1 ho hv1 hv (by omega)) hne
    · exact absurd hv2 hdead
    · rcases hE x l1 he with ⟨rfl, _⟩ | ⟨_, he⟩
      · omega
      · rcases hE x2 l2 he2 with ⟨rfl, _⟩ | ⟨_, he2⟩
        · omega
        · exact hR.inj x x2 y y2 l1 l2 hx hx2 he he2 ho1 ho2 hv1 hv2 hc
  · rcases hE x l' he with ⟨rfl, rfl⟩ | ⟨_, he⟩
    · right; exact ⟨b, k, l0, hk, hl0, ho, hv, hl.symm⟩
    · rw [h0] at he; cases he
theorem Grow.alias {h : Heap} {b : Nat} {k : Blk} (hk : h.blks[b]? = some k) (hv : k.live) (hm : k.body.kind = 0) (body : Body) (ty : TypeId) (hb : body.kind ≠ 2) : Grow h ((h.put b .dead).new body ty) :=
  (Grow.put hk hv .dead hm.symm).trans (Grow.new _ _ _ hb)
end Go.Am
