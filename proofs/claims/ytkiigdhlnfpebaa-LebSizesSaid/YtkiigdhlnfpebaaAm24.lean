/- The abstract machine: the arguments of a row, as blocks that are only read. -/
import Derived.Test.YtkiigdhlnfpebaaAm23
import Derived.ChangeSlices
import Derived.Carry
namespace Go.Am
open Go.RowKit Go.ChangeShapes
variable {P : Program}

structure Ctx (P : Program) (E : Env) (h : Heap) (W : World) : Prop where
  rel : Rel P W.heap.size E h W
  out : ∀ b, h.blks.length ≤ b → E b = none
theorem Ctx.none (W : World) : Ctx P noE ⟨[], []⟩ W := ⟨rel_none W, fun _ _ => rfl⟩
def addRo (h : Heap) (vs : List Value) (e : TypeId) : Heap := ⟨h.blks ++ [⟨.cells vs, e, false⟩], h.mods⟩
theorem BlkR.mono_ro {E E' : Env} (hE : Ext E E') {k : Blk} {l : Loc} {w : World} (h : BlkR P E k l w) : BlkR P E' k l w := by
  obtain ⟨body, ty, own⟩ := k
  cases body with
  | cells cs => exact ⟨h.1, fun i v hi => let ⟨v', a, b⟩ := h.2.1 i v hi; ⟨v', a, b.mono hE⟩, h.2.2⟩
  | map es => 
    obtain ⟨es', cl, h1, h2, h3⟩ := h
    exact ⟨es', cl, h1, h2, fun i e e' a b => ⟨(h3 i e e' a b).1.mono hE, (h3 i e e' a b).2.mono hE⟩⟩
  | dead => exact h
  | gone => trivial
theorem Ctx.add {E : Env} {h : Heap} {W : World} (c : Ctx P E h W) {cb s e es : Nat} {vs : List Value} (hs : sizeT P e = some es) (hcb : cb < W.heap.size)
    (hv : ∀ i v, vs[i]? = some v → ∃ v', W.cell? ⟨cb, s + i, Option.none⟩ = some v' ∧ VR E v v') :
    Ctx P (E.upd h.blks.length ⟨cb, s, 0, es⟩) (addRo h vs e) W ∧ Ext E (E.upd h.blks.length ⟨cb, s, 0, es⟩) := by
  have hE : Ext E (E.upd h.blks.length ⟨cb, s, 0, es⟩) := Env.upd_ext (c.out _ (Nat.le_refl _))
  have old : ∀ (b : Nat) k l, (addRo h vs e).blks[b]? = some k → (E.upd h.blks.length ⟨cb, s, 0, es⟩) b = some l →
      (b = h.blks.length ∧ k = ⟨.cells vs, e, false⟩ ∧ l = ⟨cb, s, 0, es⟩) ∨ (b < h.blks.length ∧ h.blks[b]? = some k ∧ E b = some l) := by
    intro b k l hk hl
    rcases Nat.lt_trichotomy b h.blks.length with hlt | rfl | hgt
    · refine .inr ⟨hlt, ?_, ?_⟩
      · unfold addRo at hk; rwa [List.getElem?_append_left hlt] at hk
      · rwa [Env.upd_other _ _ (by omega)] at hl
    · refine .inl ⟨rfl, ?_, ?_⟩
      · unfold addRo at hk; simpa using hk.symm
      · rw [Env.upd_same] at hl; exact (Option.some.inj hl).symm
    · rw [Env.upd_other _ _ (by omega), c.out b (by omega)] at hl; cases hl
  refine ⟨⟨⟨?_, ?_, ?_, ?_, ?_, Nat.le_refl _⟩, ?_⟩, hE⟩
  · intro b k l hk hl
    rcases old b k l hk hl with ⟨rfl, rfl, rfl⟩ | ⟨_, h1, h2⟩
    · exact ⟨hs, fun i v hi => let ⟨v', a, b⟩ := hv i v hi; ⟨v', a, b.mono hE⟩, fun h => by cases h⟩
    · exact (c.rel.blk b k l h1 h2).mono_ro hE
  · intro b k l hk hl ho
    rcases old b k l hk hl with ⟨rfl, rfl, rfl⟩ | ⟨_, h1, h2⟩
    · cases ho
    · exact c.rel.low b k l h1 h2 ho
  · intro b k l hk hl ho
    rcases old b k l hk hl with ⟨rfl, rfl, rfl⟩ | ⟨_, h1, h2⟩
    · exact hcb
    · exact c.rel.ro b k l h1 h2 ho
  · intro b l hl
    by_cases hb : b = h.blks.length
    · subst hb; rw [Env.upd_same] at hl; cases hl; exact hcb
    · rw [Env.upd_other _ _ hb] at hl; exact c.rel.bnd b l hl
  · intro b b2 k k2 l l2 hk hk2 hl hl2 ho ho2 hv1 hv2 hc
    rcases old b k l hk hl with ⟨rfl, rfl, rfl⟩ | ⟨_, h1, h2⟩
    · cases ho
    · rcases old b2 k2 l2 hk2 hl2 with ⟨rfl, rfl, rfl⟩ | ⟨_, h3, h4⟩
      · cases ho2
      · exact c.rel.inj b b2 k k2 l l2 h1 h3 h2 h4 ho ho2 hv1 hv2 hc
  · intro b hb
    have : h.blks.length < b := by simp [addRo] at hb; omega
    rw [Env.upd_other _ _ (by omega)]
    exact c.out b (by omega)
theorem addRo_ext (h : Heap) (vs : List Value) (e : TypeId) : HExt h (addRo h vs e) :=
  ⟨by simp [addRo], fun b hb => by unfold addRo; rw [List.getElem?_append_left hb], rfl⟩
theorem addRo_load (h : Heap) (vs : List Value) (e : TypeId) (n : Nat) (hn : vs.length = n) : (addRo h vs e).loadN h.blks.length 0 n = some vs := by
  subst hn
  simp [Heap.loadN, Heap.cells?, addRo]
inductive All2 {α β : Type} (R : α → β → Prop) : List α → List β → Prop
  | nil : All2 R [] []
  | cons {a : α} {b : β} {l : List α} {m : List β} : R a b → All2 R l m → All2 R (a :: l) (b :: m)
namespace All2
variable {α β : Type} {R S : α → β → Prop}
theorem mono {l : List α} {m : List β} (h : All2 R l m) (f : ∀ a b, R a b → S a b) : All2 S l m := by
  induction h with
  | nil => exact .nil
  | cons a _ ih => exact .cons (f _ _ a) ih
theorem len {l : List α} {m : List β} (h : All2 R l m) : l.length = m.length := by
  induction h with
  | nil => rfl
  | cons _ _ ih => simp [ih]
theorem append {l l' : List α} {m m' : List β} (h : All2 R l m) (h' : All2 R l' m') : All2 R (l ++ l') (m ++ m') := by
  induction h with
  | nil => exact h'
  | cons a _ ih => exact .cons a ih
theorem get {l : List α} {m : List β} (h : All2 R l m) : ∀ {i : Nat} {a : α}, l[i]? = some a → ∃ b, m[i]? = some b ∧ R a b := by
  induction h with
  | nil => intro i a hi; simp at hi
  | cons x _ ih =>
    intro i a hi
    cases i with
    | zero => simp at hi; subst hi; exact ⟨_, rfl, x⟩
    | succ i => simpa using ih (by simpa using hi)
theorem get' {l : List α} {m : List β} (h : All2 R l m) : ∀ {i : Nat} {b : β}, m[i]? = some b → ∃ a, l[i]? = some a ∧ R a b := by
  induction h with
  | nil => intro i a hi; simp at hi
  | cons x _ ih =>
    intro i a hi
    cases i with
    | zero => simp at hi; subst hi; exact ⟨_, rfl, x⟩
    | succ i => simpa using ih (by simpa using hi)
end All2
/-- plain data -/
inductive DT where
  | int (n : Int)
  | bool (b : Bool)
  | float (n : Nat)
  | str (l : List UInt8)
  | slice (l : List DT)
  | agg (l : List DT)
def Reads (P : Program) (h : Heap) : Nat → TypeId → List Value → DT → Prop
  | 0, _, _, _ => False
  | f + 1, t, cs, d => match P.underlying t, d with
    | some (.int k), .int n => cs = [.int k n] ∧ (Lit.int k n).wf = true
    | some .bool, .bool b => cs = [.bool b]
    | some (.float k), .float n => cs = [.float k n] ∧ (Lit.float k n).wf = true
    | some .string, .str l => cs = [strV l] ∧ l.length ≤ maxLen
    | some (.slice e), .slice l => ∃ v css, cs = [v] ∧ Row h (P.cellsOf e) v l.length css.flatten ∧ All2 (fun c d => c.length = P.cellsOf e ∧ Reads P h f e c d) css l ∧ l.length ≤ maxLen
    | some (.struct fs), .agg l => cs.length = P.cellsOf t ∧ All2 (fun (x : Field) d => Reads P h f x.type ((cs.drop x.offset).take (P.cellsOf x.type)) d) fs.toList l
    | _, _ => False
theorem Reads.ext {h h' : Heap} (e : HExt h h') : ∀ {f : Nat} {t : TypeId} {cs : List Value} {d : DT}, Reads P h f t cs d → Reads P h' f t cs d := by
  intro f
  induction f with
  | zero => intro t cs d hr; exact hr.elim
  | succ f ih =>
    intro t cs d hr
    unfold Reads at hr ⊢
    split <;> simp_all only
    all_goals first
      | exact ⟨trivial, trivial⟩
      | (obtain ⟨v, css, h1, h2, h3, h4⟩ := hr
         exact ⟨v, css, h1, h2.ext e, h3.mono fun _ _ x => ⟨x.1, ih x.2⟩, h4⟩)
      | exact ⟨trivial, hr.2.mono fun _ _ x => ih x⟩
def tiles (P : Program) : Nat → List Field → Nat → Bool
  | o, [], n => o == n
  | o, f :: fs, n => f.offset == o && tiles P (o + P.cellsOf f.type) fs n
def simpleT (P : Program) : Nat → TypeId → Bool
  | 0, _ => false
  | f + 1, t => match P.underlying t with
    | some (.int _) | some .bool | some (.float _) | some .string => true
    | some (.slice e) => (sizeT P e == some (P.cellsOf e)) && (P.cellsOf e != 0) && simpleT P f e
    | some (.struct fs) => tiles P 0 fs.toList (P.cellsOf t) && fs.toList.all fun x => simpleT P f x.type
    | _ => false
section
variable {H : Type} {enc : TypeId × Value → H} {base : Nat} {held : Bool} {sp : Nat → Bool} {W : World}
/-- what an abstraction of cells is -/
def Abs (P : Program) (W : World) (E : Env) (h : Heap) (f : Nat) (t : TypeId) (cs : List Value) : Prop :=
  ∃ (cs' : List Value) (h1 : Heap) (E1 : Env) (d : DT), Ctx P E1 h1 W ∧ Ext E E1 ∧ HExt h h1 ∧ All2 (VR E1) cs' cs ∧ Reads P h1 f t cs' d
theorem abs_fields {n : Nat} (ih : ∀ (t : TypeId) (cs : List Value) (x : DataW H × List MemPlace), simpleT P n t = true → DataW.trod enc P W base sp held n t cs = some x → ∀ E h, Ctx P E h W → Abs P W E h n t cs)
    (cs : List Value) (tot : Nat) (hlen : cs.length = tot) : ∀ (fs : List Field) (o : Nat), tiles P o fs tot = true → (∀ f ∈ fs, simpleT P n f.type = true) → o ≤ tot →
    (∀ f ∈ fs, ∃ x, DataW.trod enc P W base sp held n f.type ((cs.drop f.offset).take (P.cellsOf f.type)) = some x) → ∀ E h, Ctx P E h W →
    ∃ (cs' : List Value) (h1 : Heap) (E1 : Env) (ds : List DT), Ctx P E1 h1 W ∧ Ext E E1 ∧ HExt h h1 ∧ All2 (VR E1) cs' (cs.drop o) ∧
      All2 (fun (x : Field) d => o ≤ x.offset ∧ Reads P h1 n x.type ((cs'.drop (x.offset - o)).take (P.cellsOf x.type)) d) fs ds := by
  intro fs
  induction fs with
  | nil =>
    intro o ht _ ho _ E h c
    have : o = tot := by simpa [tiles] using ht
    subst this
    exact ⟨[], h, E, [], c, Ext.refl _, HExt.refl _, by rw [List.drop_of_length_le (by omega)]; exact .nil, .nil⟩
  | cons f fs ihf =>
    intro o ht hs ho hx E h c
    simp only [tiles, Bool.and_eq_true, beq_iff_eq] at ht
    obtain ⟨hoff, ht⟩ := ht
    obtain ⟨x, hx0⟩ := hx f (by simp)
    obtain ⟨c1, h1, E1, d1, k1, e1, g1, v1, r1⟩ := ih _ _ x (hs f (by simp)) hx0 E h c
    have hle : o + P.cellsOf f.type ≤ tot := by
      clear ihf hx hs r1 v1 g1 e1 k1
      have : ∀ (fs : List Field) (a : Nat), tiles P a fs tot = true → a ≤ tot := by
        intro fs
        induction fs with
        | nil => intro a h; simp [tiles] at h; omega
        | cons g gs ih => intro a h; simp only [tiles, Bool.and_eq_true, beq_iff_eq] at h; have := ih _ h.2; omega
      exact this fs _ ht
    obtain ⟨c2, h2, E2, ds, k2, e2, g2, v2, r2⟩ := ihf (o + P.cellsOf f.type) ht (fun g hg => hs g (by simp [hg])) hle (fun g hg => hx g (by simp [hg])) E1 h1 k1
    have l1 : c1.length = P.cellsOf f.type := by
      have := v1.len
      rw [this]; simp [hoff]; omega
    refine ⟨c1 ++ c2, h2, E2, d1 :: ds, k2, e1.trans e2, g1.trans g2, ?_, .cons ⟨by omega, ?_⟩ (r2.mono fun y d hy => ⟨by omega, ?_⟩)⟩
    · have : cs.drop o = (cs.drop o).take (P.cellsOf f.type) ++ cs.drop (o + P.cellsOf f.type) := by
        rw [← List.drop_drop]; exact (List.take_append_drop _ _).symm
      rw [this]
      rw [hoff] at v1
      exact (v1.mono fun _ _ x => x.mono e2).append v2
    · rw [hoff, Nat.sub_self, List.drop_zero, List.take_append_of_le_length (by omega), List.take_of_length_le (by omega)]
      exact r1.ext g2
    · have hd : (c1 ++ c2).drop (y.offset - o) = c2.drop (y.offset - (o + P.cellsOf f.type)) := by
        rw [List.drop_append, List.drop_of_length_le (by omega), List.nil_append, l1]
        congr 1; omega
      rw [hd]; exact hy.2
theorem addadd (a : Addr) (m n : Nat) : (a.add m).add n = a.add (m + n) := by
  unfold Addr.add
  by_cases h1 : m = 0 <;> by_cases h2 : n = 0 <;> simp [h1, h2, Nat.add_assoc]
theorem cell_in {a : Addr} {v : Value} (h : W.cell? a = some v) : a.block < W.heap.size ∧ a = ⟨a.block, a.off, Option.none⟩ := by
  unfold World.cell? at h
  split at h
  · rename_i c _ _ hb
    refine ⟨(Array.getElem?_eq_some_iff.1 hb).1, ?_⟩
    split at h
    · cases h
    · rename_i hs
      obtain ⟨b, o, s⟩ := a
      cases s with
      | none => rfl
      | some _ => simp at hs
  · cases h
theorem abs_elems {n : Nat} {e : TypeId} (hse : simpleT P n e = true) (ih : ∀ (t : TypeId) (cs : List Value) (x : DataW H × List MemPlace), simpleT P n t = true → DataW.trod enc P W base sp held n t cs = some x → ∀ E h, Ctx P E h W → Abs P W E h n t cs)
    (a : Addr) : ∀ (m : Nat), (∀ i, i < m → ∃ x, (W.cells? base (a.add (i * P.cellsOf e)) (P.cellsOf e)).bind (DataW.trod enc P W base sp held n e) = some x) → ∀ E h, Ctx P E h W →
    ∃ (css : List (List Value)) (h1 : Heap) (E1 : Env) (ds : List DT), Ctx P E1 h1 W ∧ Ext E E1 ∧ HExt h h1 ∧ ds.length = m ∧ css.flatten.length = m * P.cellsOf e ∧
      (∀ i v, css.flatten[i]? = some v → ∃ v', W.cell? (a.add i) = some v' ∧ VR E1 v v') ∧ All2 (fun c d => c.length = P.cellsOf e ∧ Reads P h1 n e c d) css ds := by
  intro m
  induction m with
  | zero =>
    intro _ E h c
    exact ⟨[], h, E, [], c, Ext.refl _, HExt.refl _, rfl, by simp, fun i v hi => by simp at hi, .nil⟩
  | succ m ihm =>
    intro hx E h c
    obtain ⟨css, h1, E1, ds, k1, e1, g1, hl, hfl, hv, hr⟩ := ihm (fun i hi => hx i (by omega)) E h c
    obtain ⟨x, hx0⟩ := hx m (by omega)
    obtain ⟨cc, hcc, htr⟩ := Option.bind_eq_some_iff.1 hx0
    obtain ⟨_, hcl, hcv⟩ := World.cells?_some hcc
    obtain ⟨c2, h2, E2, d2, k2, e2, g2, v2, r2⟩ := ih _ _ x hse htr E1 h1 k1
    have hc2 : c2.length = P.cellsOf e := by rw [v2.len, hcl]
    refine ⟨css ++ [c2], h2, E2, ds ++ [d2], k2, e1.trans e2, g1.trans g2, by simp [hl], by simp [List.flatten_append, hc2, hfl, Nat.add_mul], fun i v hi => ?_, (hr.mono fun _ _ y => ⟨y.1, y.2.ext g2⟩).append (.cons ⟨hc2, r2⟩ .nil)⟩
    rw [List.flatten_append, List.getElem?_append] at hi
    split at hi
    · obtain ⟨v', a1, a2⟩ := hv i v hi
      exact ⟨v', a1, a2.mono e2⟩
    · rename_i hge
      simp only [List.flatten_cons, List.flatten_nil, List.append_nil] at hi
      obtain ⟨v', b1, b2⟩ := v2.get hi
      refine ⟨v', ?_, b2⟩
      have hlt : i - css.flatten.length < P.cellsOf e := by
        have := (List.getElem?_eq_some_iff.1 hi).1; omega
      rw [← b1, ← hcv _ hlt]
      have : (a.add (m * P.cellsOf e)).add (i - css.flatten.length) = a.add i := by
        have hx : m * P.cellsOf e + (i - css.flatten.length) = i := by omega
        rw [addadd, hx]
      rw [this]
theorem old {E1 : Env} {h1 : Heap} (k1 : Ctx P E1 h1 W) {vs : List Value} {e : TypeId} {b : Nat} {k : Blk} {l : Loc} (hk : (addRo h1 vs e).blks[b]? = some k) (hl : E1 b = some l) : h1.blks[b]? = some k := by
  rcases Nat.lt_or_ge b h1.blks.length with hlt | hge
  · unfold addRo at hk; rwa [List.getElem?_append_left hlt] at hk
  · rw [k1.out b hge] at hl; cases hl
theorem abs_trod : ∀ (f : Nat) (t : TypeId) (cs : List Value) (x : DataW H × List MemPlace), simpleT P f t = true → DataW.trod enc P W base (fun _ => true) held f t cs = some x → ∀ E h, Ctx P E h W → Abs P W E h f t cs := by
  intro f
  induction f with
  | zero => intro t cs x hs; simp [simpleT] at hs
  | succ f ih =>
    intro t cs x hs ht E h c
    unfold simpleT at hs
    split at hs
    · rename_i k hu
      obtain ⟨n, rfl, rfl, hw⟩ := DataW.trod_int hu ht
      exact ⟨_, h, E, .int n, c, Ext.refl _, HExt.refl _, .cons (.int k n) .nil, by unfold Reads; rw [hu]; exact ⟨rfl, hw⟩⟩
    · rename_i hu
      obtain ⟨n, rfl, rfl⟩ := DataW.trod_bool hu ht
      exact ⟨_, h, E, .bool n, c, Ext.refl _, HExt.refl _, .cons (.bool n) .nil, by unfold Reads; rw [hu]⟩
    · rename_i k hu
      have : ∃ n, cs = [.float k n] ∧ (Lit.float k n).wf = true := by
        unfold DataW.trod at ht
        rw [hu] at ht
        split at ht <;> simp_all
      obtain ⟨n, rfl, hw⟩ := this
      exact ⟨_, h, E, .float n, c, Ext.refl _, HExt.refl _, .cons (.float k n) .nil, by unfold Reads; rw [hu]; exact ⟨rfl, hw⟩⟩
    · rename_i hu
      obtain ⟨s, rfl, rfl, hw⟩ := DataW.trod_string hu ht
      exact ⟨_, h, E, .str s.data.toList, c, Ext.refl _, HExt.refl _, .cons (.string s) .nil, by unfold Reads; rw [hu]; exact ⟨by simp [strV], by simpa using hw⟩⟩
    · rename_i e hu
      simp only [Bool.and_eq_true, beq_iff_eq] at hs
      obtain ⟨⟨hsz, hpos⟩, hse⟩ := hs
      rcases DataW.trod_slice hu ht with ⟨rfl, rfl⟩ | ⟨a, len, cap, elems, rest, n, hf, rfl, rfl, hb, hl, hm, hlen, hel, hsp, hns⟩
      · refine ⟨_, h, E, .slice [], c, Ext.refl _, HExt.refl _, .cons .sliceNil .nil, ?_⟩
        unfold Reads; rw [hu]
        exact ⟨_, [], rfl, .nil, .nil, by simp⟩
      · obtain rfl : f = n := by omega
        obtain ⟨css, h1, E1, ds, k1, e1, g1, hdl, hfl, hv, hr⟩ := abs_elems hse ih a len (fun i hi => by rw [hel i hi]; exact ⟨_, List.getElem?_eq_getElem (by omega)⟩) E h c
        by_cases hc0 : cap = 0
        · subst hc0
          obtain rfl : len = 0 := by omega
          obtain rfl : ds = [] := List.eq_nil_of_length_eq_zero hdl
          cases hr
          have kp : Ctx P E1 (addRo h1 [] e) W := by
            refine ⟨⟨fun b k l hk hl => ?_, fun b k l hk hl => ?_, fun b k l hk hl => ?_, k1.rel.bnd, fun b b2 k k2 l l2 hk hk2 hl hl2 => ?_, k1.rel.base⟩, fun b hb => k1.out b (by simp [addRo] at hb; omega)⟩
            · exact k1.rel.blk b k l (old k1 hk hl) hl
            · exact k1.rel.low b k l (old k1 hk hl) hl
            · exact k1.rel.ro b k l (old k1 hk hl) hl
            · exact k1.rel.inj b b2 k k2 l l2 (old k1 hk hl) (old k1 hk2 hl2) hl hl2
          refine ⟨[.slice (some ⟨h1.blks.length, 0, Option.none⟩) 0 0], _, E1, .slice [], kp, e1, g1.trans (addRo_ext _ _ _), .cons (.sliceEmpty (.inr rfl)) .nil, ?_⟩
          unfold Reads; rw [hu]
          exact ⟨_, [], rfl, .mk (by rw [Nat.zero_mul]; exact addRo_load _ _ _ 0 rfl), .nil, by simp⟩
        · have hcell : ∃ v, W.cell? a = some v := by
            have hx : ∃ y, (W.cells? base (a.add (0 * P.cellsOf e)) (P.cellsOf e)).bind (DataW.trod enc P W base (fun _ => true) held f e) = some y := by
              by_cases h0 : len = 0
              · have := (hsp rfl).2 0 (by omega)
                rw [h0] at this
                rw [show (0 + 0) * P.cellsOf e = 0 * P.cellsOf e by simp] at this
                rw [this]
                exact ⟨_, List.getElem?_eq_getElem (by have := (hsp rfl).1; omega)⟩
              · rw [hel 0 (by omega)]; exact ⟨_, List.getElem?_eq_getElem (by omega)⟩
            obtain ⟨y, hy⟩ := hx
            obtain ⟨cc, h3, _⟩ := Option.bind_eq_some_iff.1 hy
            obtain ⟨_, h4, h5⟩ := World.cells?_some h3
            have := h5 0 (by simp at hpos; omega)
            rw [addadd, Nat.zero_mul] at this
            have ha : a.add (0 + 0) = a := by simp [Addr.add]
            rw [ha, List.getElem?_eq_getElem (by simp at hpos; omega)] at this
            exact ⟨_, this⟩
          obtain ⟨v0, hv0⟩ := hcell
          obtain ⟨hlt, ha⟩ := cell_in hv0
          obtain ⟨k2, e2⟩ := k1.add (cb := a.block) (s := a.off) (vs := css.flatten) hsz hlt (fun i v hi => by
            obtain ⟨v', h3, h4⟩ := hv i v hi
            refine ⟨v', ?_, h4⟩
            rw [ha] at h3
            rw [← h3]
            unfold Addr.add
            split
            · rename_i h0; rw [h0]; rfl
            · rfl)
          refine ⟨[.slice (some ⟨h1.blks.length, 0, Option.none⟩) len cap], _, _, .slice ds, k2, e1.trans e2, g1.trans (addRo_ext _ _ _), .cons ?_ .nil, ?_⟩
          · have hU : cap ≠ UNK := by have : maxLen < UNK := by decide
                                      omega
            have := VR.slice (E := E1.upd h1.blks.length ⟨a.block, a.off, 0, P.cellsOf e⟩) (b := h1.blks.length) (o := 0) (n := len) (c := cap) (c' := cap) (Env.upd_same _ _ _) (.inr ⟨rfl, hU⟩) hl (fun h => absurd h hU)
            rw [ha]; exact this
          · unfold Reads; rw [hu]
            refine ⟨_, css, rfl, ?_, hr.mono fun _ _ x => ⟨x.1, x.2.ext (addRo_ext _ _ _)⟩, by omega⟩
            rw [hdl]
            exact .mk (addRo_load _ _ _ _ hfl)
    · rename_i fs hu
      simp only [Bool.and_eq_true, List.all_eq_true] at hs
      obtain ⟨xs, n, hf, rfl, hlen, hxl, hxs⟩ := DataW.trod_struct hu ht
      obtain rfl : f = n := by omega
      obtain ⟨cs', h1, E1, ds, k1, e1, g1, v1, r1⟩ := abs_fields ih cs _ hlen fs.toList 0 hs.1 hs.2 (by omega) (fun g hg => by
        obtain ⟨i, hi, rfl⟩ := List.getElem_of_mem hg
        have hi' : i < fs.size := by simpa using hi
        refine ⟨xs[i]'(by omega), ?_⟩
        rw [← List.getElem?_eq_getElem (by omega)]
        exact hxs i _ (by simp [hi'])) E h c
      refine ⟨cs', h1, E1, .agg ds, k1, e1, g1, by simpa using v1, ?_⟩
      unfold Reads; rw [hu]
      exact ⟨by have := v1.len; simp at this; omega, r1.mono fun y d hy => by simpa using hy.2⟩
    · cases hs
end
end Go.Am
