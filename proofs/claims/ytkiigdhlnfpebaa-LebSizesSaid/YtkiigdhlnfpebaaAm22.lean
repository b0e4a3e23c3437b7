/- The abstract machine: rows (slices) and what is appended to them; calls that are quiet. -/
import Derived.Test.YtkiigdhlnfpebaaAm21
namespace Go.Am
variable {P : Program}

/-- a quiet call: the old blocks as they were, the marks the same -/
structure HExt (h h' : Heap) : Prop where
  len : h.blks.length ≤ h'.blks.length
  old : ∀ b, b < h.blks.length → h'.blks[b]? = h.blks[b]?
  mods : h'.mods = h.mods
theorem HExt.refl (h : Heap) : HExt h h := ⟨Nat.le_refl _, fun _ _ => rfl, rfl⟩
theorem HExt.trans {a b c : Heap} (h : HExt a b) (k : HExt b c) : HExt a c :=
  ⟨Nat.le_trans h.len k.len, fun i hi => (k.old i (Nat.lt_of_lt_of_le hi h.len)).trans (h.old i hi), k.mods.trans h.mods⟩
/-- inside a call: the first n blocks as they were, marks at others alone -/
structure Keeps (n : Nat) (h h' : Heap) : Prop where
  le : n ≤ h.blks.length
  len : h.blks.length ≤ h'.blks.length
  old : ∀ b, b < n → h'.blks[b]? = h.blks[b]?
  mods : ∀ m, m ∈ h'.mods → m ∈ h.mods ∨ n ≤ m
theorem Keeps.refl {n : Nat} {h : Heap} (hn : n ≤ h.blks.length) : Keeps n h h := ⟨hn, Nat.le_refl _, fun _ _ => rfl, fun _ hm => .inl hm⟩
theorem Keeps.trans {n : Nat} {a b c : Heap} (h : Keeps n a b) (k : Keeps n b c) : Keeps n a c :=
  ⟨h.le, Nat.le_trans h.len k.len, fun i hi => (k.old i hi).trans (h.old i hi), fun m hm => (k.mods m hm).elim (h.mods m) .inr⟩
theorem HExt.keeps {h h' : Heap} (e : HExt h h') {n : Nat} (hn : n ≤ h.blks.length) : Keeps n h h' :=
  ⟨hn, e.len, fun b hb => e.old b (by omega), fun m hm => .inl (by rw [e.mods] at hm; exact hm)⟩
/-- the end of a quiet call -/
def done (h0 h : Heap) : Heap := { h with mods := h.mods.filter (· < h0.blks.length) ++ h0.mods }
theorem fin_done (h0 : Heap) (v : Value) (h : Heap) : fin h0 (some v) h = some (v, done h0 h) := rfl
@[simp] theorem done_blks (h0 h : Heap) : (done h0 h).blks = h.blks := rfl
theorem done_ext {h0 h : Heap} (k : Keeps h0.blks.length (nm h0) h) : HExt h0 (done h0 h) := by
  refine ⟨k.len, k.old, ?_⟩
  have : h.mods.filter (fun x => decide (x < h0.blks.length)) = [] := by
    rw [List.filter_eq_nil_iff]
    intro m hm
    rcases k.mods m hm with h1 | h1
    · simp at h1
    · simp; omega
  show List.filter (fun x => decide (x < h0.blks.length)) h.mods ++ h0.mods = h0.mods
  rw [this]; rfl
@[simp] theorem done_nm (h : Heap) : done h (nm h) = h := rfl

/-- a value is a row: n elements of es cells, which read cs -/
inductive Row (h : Heap) (es : Nat) : Value → Nat → List Value → Prop
  | nil : Row h es (.slice none 0 0) 0 []
  | mk {b o n c : Nat} {cs : List Value} : h.loadN b o (n * es) = some cs → Row h es (.slice (some ⟨b, o, none⟩) n c) n cs
theorem loadN_of {h h' : Heap} {b : Nat} (hb : h'.blks[b]? = h.blks[b]?) (o n : Nat) : h'.loadN b o n = h.loadN b o n := by
  simp only [Heap.loadN, Heap.cells?, hb]
theorem loadN_lt {h : Heap} {b o n : Nat} {cs : List Value} (hl : h.loadN b o n = some cs) : b < h.blks.length := by
  unfold Heap.loadN Heap.cells? at hl
  rcases Nat.lt_or_ge b h.blks.length with h1 | h1
  · exact h1
  · rw [List.getElem?_eq_none h1] at hl; cases hl
theorem Row.ext {h h' : Heap} {es n : Nat} {v : Value} {cs : List Value} (r : Row h es v n cs) (e : HExt h h') : Row h' es v n cs := by
  cases r with
  | nil => exact .nil
  | mk hl => exact .mk (by rw [loadN_of (e.old _ (loadN_lt hl))]; exact hl)

/-- what is known of a slice's type -/
structure ElemT (P : Program) (t elem : TypeId) (es by_ : Nat) (z : Value) : Prop where
  under : P.underlying t = some (.slice elem)
  size : sizeT P elem = some es
  bytes : bytesT P elem = some by_
  zero : zeroT P elem = some z
  pos : 0 < es
  zs : z.cells.size = es
  zg : ground z = true
/-- a value that may be appended to: n elements, which read cs -/
inductive Acc (n0 : Nat) (h : Heap) (elem : TypeId) (es : Nat) : Value → Nat → List Value → Prop
  | nil : Acc n0 h elem es (.slice none 0 0) 0 []
  | full {b o n : Nat} {cs : List Value} : n < 2 ^ 62 → h.loadN b o (n * es) = some cs → Acc n0 h elem es (.slice (some ⟨b, o, none⟩) n n) n cs
  | unk {b o n : Nat} {cs all : List Value} : n0 ≤ b → h.blks[b]? = some ⟨.cells all, elem, true⟩ → o + n * es ≤ all.length → (all.drop o).take (n * es) = cs → Acc n0 h elem es (.slice (some ⟨b, o, none⟩) n UNK) n cs
theorem Acc.row {n0 : Nat} {h : Heap} {elem : TypeId} {es n : Nat} {v : Value} {cs : List Value} (a : Acc n0 h elem es v n cs) : Row h es v n cs := by
  cases a with
  | nil => exact .nil
  | full _ hl => exact .mk hl
  | unk _ hb hle he =>
    refine .mk ?_
    simp only [Heap.loadN, Heap.cells?, hb, if_pos hle, he]
theorem Row.len {h : Heap} {es n : Nat} {v : Value} {cs : List Value} (r : Row h es v n cs) : cs.length = n * es := by
  cases r with
  | nil => simp
  | mk hl =>
    unfold Heap.loadN at hl
    split at hl
    · split at hl
      · simp only [Option.some.injEq] at hl
        rw [← hl]; simp; omega
      · cases hl
    · cases hl
/-- where a value leads -/
def blockOf : Value → Option Nat
  | .slice (some a) _ _ => some a.block
  | .pointer (some a) => some a.block
  | _ => none
theorem append_acc {t elem : TypeId} {t1 : Option TypeId} {es by_ : Nat} {z : Value} (et : ElemT P t elem es by_ z) {n0 : Nat} {h : Heap} (hn0 : n0 ≤ h.blks.length) {v x : Value} {n m : Nat} {cs news : List Value}
    (ha : Acc n0 h elem es v n cs) (hx : newsV P es by_ z t1 x h = some (m, news)) (hl : news.length = m * es) (h1 : (2 * (n + m) + 192) * by_ ≤ 2 ^ 48) (h2 : n + m < 2 ^ 62) (h3 : news.all Value.oneCell' = true) :
    ∃ v' h', appendV P t t1 v x h = some (v', h') ∧ Acc n0 h' elem es v' (n + m) (cs ++ news) ∧ Keeps n0 h h' ∧ (∀ b, b < h.blks.length → blockOf v ≠ some b → h'.blks[b]? = h.blks[b]?) ∧
      (v' = v ∧ h' = h ∨ blockOf v' = some h.blks.length ∧ h.blks.length < h'.blks.length) := by
  have hcond : 0 < es ∧ z.cells.size = es ∧ ground z = true ∧ (2 * (n + m) + 192) * by_ ≤ 2 ^ 48 ∧ n + m < 2 ^ 62 ∧ news.all Value.oneCell' = true := ⟨et.pos, et.zs, et.zg, h1, h2, h3⟩
  have hU : (2 : Nat) ^ 62 < UNK := by unfold UNK; omega
  have fresh : ∀ (cs' : List Value) (N : Nat), cs'.length = N * es → Acc n0 (h.new (.cells cs') elem) elem es (.slice (some ⟨h.blks.length, 0, none⟩) N UNK) N cs' := fun cs' N hN =>
    .unk (all := cs') hn0 (by simp [Heap.new]) (by omega) (by simp [← hN])
  have knew : ∀ (cs' : List Value), Keeps n0 h (h.new (.cells cs') elem) := fun cs' => ⟨hn0, by simp [Heap.new], fun b hb => Heap.new_old (by omega), fun m hm => .inl hm⟩
  by_cases hm0 : m = 0
  · subst hm0
    have hnews : news = [] := by simpa using hl
    subst hnews
    refine ⟨v, h, ?_, ?_, Keeps.refl hn0, fun _ _ _ => rfl, .inl ⟨rfl, rfl⟩⟩
    · cases ha <;>
      · unfold appendV
        simp only [et.under, et.size, et.bytes, et.zero, hx]
        rw [if_pos (by simpa using hcond)]
        rfl
    · simpa using ha
  · have hrow := ha.row
    cases ha with
    | nil =>
      refine ⟨_, _, ?_, by simpa using fresh news (0 + m) (by simpa using hl), knew news, fun b hb _ => Heap.new_old hb, .inr ⟨rfl, by simp [Heap.new]⟩⟩
      unfold appendV
      simp only [et.under, et.size, et.bytes, et.zero, hx]
      rw [if_pos hcond, if_neg hm0, if_neg (by unfold UNK; omega), if_neg (by omega)]
      simp
    | full hn hld =>
      refine ⟨_, _, ?_, fresh (cs ++ news) (n + m) (by rw [List.length_append, hrow.len, hl, Nat.add_mul]), knew _, fun b hb _ => Heap.new_old hb, .inr ⟨rfl, by simp [Heap.new]⟩⟩
      unfold appendV
      simp only [et.under, et.size, et.bytes, et.zero, hx]
      rw [if_pos hcond, if_neg hm0, if_neg (by omega), if_neg (by omega)]
      simp [hld]
    | unk hb0 hb hle he =>
      rename_i b o all
      have hlt : b < h.blks.length := (List.getElem?_eq_some_iff.1 hb).1
      have hlen : (h.put b .dead).blks.length = h.blks.length := Heap.put_len _ _ _
      refine ⟨.slice (some ⟨h.blks.length, 0, none⟩) (n + m) UNK, (h.put b .dead).new (.cells (cs ++ news)) elem, ?_, ?_, ⟨hn0, by rw [Heap.new_len, hlen]; omega, fun c hc => ?_, fun c hc => ?_⟩, fun c hc hne => ?_, .inr ⟨rfl, by rw [Heap.new_len, hlen]; omega⟩⟩
      · unfold appendV
        simp only [et.under, et.size, et.bytes, et.zero, hx]
        rw [if_pos hcond, if_neg hm0]
        simp only [if_true, hb]
        rw [if_pos ⟨trivial, hle⟩, he]
      · refine .unk (by omega) (all := cs ++ news) ?_ ?_ ?_
        · rw [← hlen]; simp [Heap.new]
        · rw [List.length_append, hrow.len, hl, Nat.add_mul]; omega
        · rw [List.drop_zero, Nat.add_mul, ← hrow.len, ← hl, ← List.length_append, List.take_length]
      · rw [Heap.new_old (by omega), Heap.put_other (by omega)]
      · rw [show ((h.put b .dead).new (.cells (cs ++ news)) elem).mods = b :: h.mods by rw [Heap.put_eq hb]; rfl] at hc
        rcases List.mem_cons.1 hc with rfl | hc
        · exact .inr hb0
        · exact .inl hc
      · rw [Heap.new_old (by omega), Heap.put_other (fun e => hne (by rw [e]; rfl))]
theorem newsV_row {es by_ : Nat} {z : Value} {t1 e : TypeId} (ht : P.underlying t1 = some (.slice e)) {h : Heap} {x : Value} {m : Nat} {cs : List Value} (r : Row h es x m cs) : newsV P es by_ z (some t1) x h = some (m, cs) := by
  unfold newsV
  simp only [Option.bind_some, ht]
  cases r with
  | nil => simp
  | mk hl => simp [hl]
theorem Row.keep {h h' : Heap} {es n : Nat} {v : Value} {cs : List Value} (r : Row h es v n cs) (k : ∀ b, b < h.blks.length → blockOf v = some b → h'.blks[b]? = h.blks[b]?) : Row h' es v n cs := by
  cases r with
  | nil => exact .nil
  | mk hl => exact .mk (by rw [loadN_of (k _ (loadN_lt hl) rfl)]; exact hl)
theorem Acc.keep {n0 : Nat} {h h' : Heap} {elem : TypeId} {es n : Nat} {v : Value} {cs : List Value} (a : Acc n0 h elem es v n cs) (k : ∀ b, b < h.blks.length → blockOf v = some b → h'.blks[b]? = h.blks[b]?) : Acc n0 h' elem es v n cs := by
  cases a with
  | nil => exact .nil
  | full hn hl => exact .full hn (by rw [loadN_of (k _ (loadN_lt hl) rfl)]; exact hl)
  | unk hb0 hb hle he => exact .unk hb0 (by rw [k _ (List.getElem?_eq_some_iff.1 hb).1 rfl]; exact hb) hle he
theorem Acc.up {n0 n1 : Nat} {h : Heap} {elem : TypeId} {es n : Nat} {v : Value} {cs : List Value} (a : Acc n0 h elem es v n cs) (hn : n1 ≤ n0) : Acc n1 h elem es v n cs := by
  cases a with
  | nil => exact .nil
  | full hn hl => exact .full hn hl
  | unk hb0 hb hle he => exact .unk (by omega) hb hle he
/-- a byte as a value -/
def byteV (b : UInt8) : Value := .int .u8 b.toNat
theorem Keeps.new {n : Nat} {h : Heap} (hn : n ≤ h.blks.length) (body : Body) (ty : TypeId) : Keeps n h (h.new body ty) :=
  ⟨hn, by simp [Heap.new], fun b hb => Heap.new_old (by omega), fun _ hm => .inl hm⟩
theorem Row.lt {h : Heap} {es n : Nat} {v : Value} {cs : List Value} (r : Row h es v n cs) {b : Nat} (hb : blockOf v = some b) : b < h.blks.length := by
  cases r with
  | nil => cases hb
  | mk hl => cases hb; exact loadN_lt hl
theorem loadN_get {h : Heap} {b o n : Nat} {cs : List Value} (hl : h.loadN b o n = some cs) {i : Nat} (hi : i < n) : h.load1 b (o + i) = cs[i]? := by
  unfold Heap.loadN at hl
  unfold Heap.load1
  split at hl
  · rename_i all ha
    split at hl
    · simp only [Option.some.injEq] at hl
      rw [← hl]
      simp [hi]
    · cases hl
  · cases hl
theorem natOf_int (k : IntKind) (n : Nat) : natOf? (.int k n) = some n := by simp [natOf?]
/-- an element of one cell -/
theorem Row.at1 {h : Heap} {n : Nat} {v : Value} {cs : List Value} (r : Row h 1 v n cs) {t elem : TypeId} (ht : P.underlying t = some (.slice elem)) (hs : sizeT P elem = some 1) (ha : isAggT P elem = some false)
    {i : Nat} (hi : i < n) (k : IntKind) : ∃ a, indexAddrV P t v (.int k i) = some (.pointer (some a)) ∧ loadV P elem (.pointer (some a)) h = cs[i]? ∧ blockOf v = some a.block := by
  cases r with
  | nil => omega
  | mk hl =>
    rename_i b o c
    refine ⟨⟨b, o + i * 1, none⟩, ?_, ?_, rfl⟩
    · unfold indexAddrV
      simp only [ht, natOf_int, hs, if_pos hi]
    · unfold loadV
      simp only [ha, hs]
      rw [Nat.mul_one] at hl ⊢
      exact loadN_get hl hi
theorem Row.len_eq {h : Heap} {es n : Nat} {v : Value} {cs : List Value} (r : Row h es v n cs) {t elem : TypeId} (ht : P.underlying t = some (.slice elem)) : lenV P t v h = some (.int .i64 n) := by
  unfold lenV
  rw [ht]
  cases r <;> rfl
end Go.Am
