/- The abstract machine: a deterministic functional reading of the model's code, over a heap of abstract blocks. Definitions only. -/
import Derived.Orders
import Derived.Laws.IdiomCopy

namespace Go.Am

/-- what a Sem without memory, draws and streams comes to -/
def pureRun {α : Type} (P : Program) : Sem α → Option α
  | .pure a => some a
  | .program k => pureRun P (k P)
  | .mark _ k => pureRun P k
  | _ => none

theorem pureRun_run {α : Type} {P : Program} {s : Sem α} {a : α} (h : pureRun P s = some a) (w : World) : s.run P w = .ok a w := by
  induction s with
  | pure b => simp only [pureRun, Option.some.injEq] at h; subst h; rfl
  | program k ih => simp only [pureRun] at h; simp only [Sem.run]; exact ih P h
  | mark m k ih => simp only [pureRun] at h; simp only [Sem.run]; exact ih h
  | _ => simp [pureRun] at h

/-- the capacity of a row that an append has grown: not known -/
def UNK : Nat := 2 ^ 70

inductive Body where
  | cells (cs : List Value)
  | map (es : List (Value × Value))
  | dead
  | gone
  deriving Inhabited

structure Blk where
  body : Body
  ty : TypeId
  own : Bool
  deriving Inhabited

structure Heap where
  blks : List Blk
  mods : List Nat
  deriving Inhabited

/-- no address in it (one level) -/
def ground0 : Value → Bool
  | .bool _ | .int _ _ | .float _ _ | .string _ | .nilIface | .nilFunc => true
  | .pointer none => true
  | .slice none n c => n == 0 && c == 0
  | .map none => true
  | _ => false
def ground : Value → Bool
  | .agg cs => cs.all ground0
  | .tuple cs => cs.all ground0
  | .iface _ v => ground0 v
  | v => ground0 v

namespace Heap
def cells? (h : Heap) (b : Nat) : Option (List Value) :=
  match h.blks[b]? with
  | some ⟨.cells cs, _, _⟩ => some cs
  | _ => none
def loadN (h : Heap) (b o n : Nat) : Option (List Value) :=
  match h.cells? b with
  | some cs => if o + n ≤ cs.length then some ((cs.drop o).take n) else none
  | none => none
def load1 (h : Heap) (b o : Nat) : Option Value :=
  match h.cells? b with
  | some cs => cs[o]?
  | none => none
def new (h : Heap) (body : Body) (ty : TypeId) : Heap := { h with blks := h.blks ++ [⟨body, ty, true⟩] }
/-- a block of the call's own is given another body -/
def put (h : Heap) (b : Nat) (body : Body) : Heap :=
  match h.blks[b]? with
  | some k => { blks := h.blks.set b { k with body }, mods := b :: h.mods }
  | none => h
def storeN (h : Heap) (b o : Nat) (vs : List Value) : Option Heap :=
  match h.blks[b]? with
  | some ⟨.cells cs, _, true⟩ => if o + vs.length ≤ cs.length then some (h.put b (.cells (cs.take o ++ vs ++ cs.drop (o + vs.length)))) else none
  | _ => none
end Heap

def sizeT (P : Program) (t : TypeId) : Option Nat := (P.info? t).map (·.size)
def bytesT (P : Program) (t : TypeId) : Option Nat := (P.info? t).map (·.bytes)
def zeroT (P : Program) (t : TypeId) : Option Value := (P.info? t).bind (·.zero)
def isAggT (P : Program) (t : TypeId) : Option Bool :=
  match P.underlying t with
  | some (.struct _) | some (.array _ _) => some true
  | some _ => some false
  | none => none
def partV (P : Program) (t : TypeId) (cs : Array Value) (off : Nat) : Option Value :=
  match isAggT P t, sizeT P t with
  | some true, some n => some (.agg (cs.extract off (off + n)))
  | some false, _ => cs[off]?
  | _, _ => none

def loadV (P : Program) (t : TypeId) (a : Value) (h : Heap) : Option Value :=
  match a with
  | .pointer (some ⟨b, o, none⟩) =>
    match isAggT P t, sizeT P t with
    | some true, some n => (h.loadN b o n).map fun cs => .agg cs.toArray
    | some false, _ => h.load1 b o
    | _, _ => none
  | _ => none
def storeV (P : Program) (t : TypeId) (a v : Value) (h : Heap) : Option Heap :=
  match a with
  | .pointer (some ⟨b, o, none⟩) =>
    match sizeT P t with
    | some n => if v.cells.size = n ∧ v.cells.all Value.oneCell' = true then h.storeN b o v.cells.toList else none
    | none => none
  | _ => none
def newV (ty : TypeId) (cs : List Value) (h : Heap) : Value × Heap := (.pointer (some ⟨h.blks.length, 0, none⟩), h.new (.cells cs) ty)
def allocV (P : Program) (t : TypeId) (h : Heap) : Option (Value × Heap) :=
  match zeroT P t, sizeT P t with
  | some z, some _ => if ground z then some (newV t z.cells.toList h) else none
  | _, _ => none
def boxV (P : Program) (t : TypeId) (v : Value) (h : Heap) : Option (Value × Heap) :=
  match sizeT P t with
  | some _ => some (newV t v.cells.toList h)
  | none => none

def intOf? : Value → Option Int
  | .int _ n => some n
  | _ => none
def natOf? : Value → Option Nat
  | .int _ n => if 0 ≤ n then some n.toNat else none
  | _ => none

def placesOf (P : Program) : List Field → Option (List (Nat × Nat))
  | [] => some []
  | f :: fs => match sizeT P f.type, placesOf P fs with
    | some n, some l => some ((f.offset, n) :: l)
    | _, _ => none
def buildV (P : Program) (t : TypeId) (parts : Array (Nat × Value)) : Option Value :=
  match zeroT P t, P.underlying t with
  | some z, some (.struct fields) =>
    match placesOf P fields.toList with
    | some places => if ground z then (Instr.fill (places.toArray[·]?) z.cells parts.toList).map fun cs => .agg cs else none
    | none => none
  | some z, some (.array _ elem) =>
    match sizeT P elem with
    | some size => if ground z then (Instr.fill (fun i => some (i * size, size)) z.cells parts.toList).map fun cs => .agg cs else none
    | none => none
  | _, _ => none
def buildSliceV (P : Program) (t : TypeId) (len : Nat) (parts : Array (Nat × Value)) (h : Heap) : Option (Value × Heap) :=
  match P.underlying t with
  | some (.slice elem) =>
    match sizeT P elem, zeroT P elem with
    | some size, some z =>
      if len * size ≤ 2 ^ 24 ∧ 0 < size ∧ z.cells.size = size ∧ ground z = true then
        (Instr.fill (fun i => some (i * size, size)) ((Array.range (len * size)).map (z.cells[· % z.cells.size]!)) parts.toList).map fun cs =>
          (.slice (some ⟨h.blks.length, 0, none⟩) len len, h.new (.cells cs.toList) elem)
      else none
    | _, _ => none
  | _ => none
def makeSliceV (P : Program) (t : TypeId) (len cap : Value) (h : Heap) : Option (Value × Heap) :=
  match P.underlying t, natOf? len, natOf? cap with
  | some (.slice elem), some l, some c =>
    match sizeT P elem, bytesT P elem, zeroT P elem with
    | some size, some bytes, some z =>
      if l ≤ c ∧ bytes * c ≤ 2 ^ 48 ∧ c < 2 ^ 62 ∧ 0 < size ∧ z.cells.size = size ∧ ground z = true then
        some (.slice (some ⟨h.blks.length, 0, none⟩) l c, h.new (.cells ((Array.range (c * size)).map (z.cells[· % z.cells.size]!)).toList) elem)
      else none
    | _, _, _ => none
  | _, _, _ => none

/-- how many cells an element of a block has -/
def esOf (P : Program) (h : Heap) (b : Nat) : Option Nat :=
  match h.blks[b]? with
  | some ⟨.cells _, ty, _⟩ => sizeT P ty
  | some ⟨.dead, ty, _⟩ => sizeT P ty
  | _ => none
def capOk (cap len m : Nat) : Prop := cap = UNK ∧ m ≤ len ∨ cap ≠ UNK ∧ m ≤ cap
instance (cap len m : Nat) : Decidable (capOk cap len m) := inferInstanceAs (Decidable (_ ∨ _))
/-- x[lo:hi:max] of a slice -/
def sliceV (P : Program) (t : TypeId) (x : Value) (lo hi mx : Option Value) (h : Heap) : Option Value :=
  match P.underlying t, x with
  | some (.slice elem), .slice a len cap =>
    match sizeT P elem, lo.elim (some 0) natOf?, hi.elim (some len) natOf?, mx.elim (some cap) natOf? with
    | some size, some l, some hh, some m =>
      if mx.isSome = true then
        (if l ≤ hh ∧ hh ≤ m ∧ m < UNK ∧ hi.isSome = true ∧ capOk cap len m then
          (match a with
            | some ⟨b, o, none⟩ => some (.slice (some (if m = l then ⟨b, o, none⟩ else ⟨b, o + l * size, none⟩)) (hh - l) (m - l))
            | none => some (.slice none (hh - l) (m - l))
            | _ => none)
        else none)
      else if cap = UNK then
        (match a with
          | some ⟨b, o, none⟩ => if l ≤ hh ∧ hh ≤ len ∧ esOf P h b = some size then some (.slice (some ⟨b, o + l * size, none⟩) (hh - l) UNK) else none
          | _ => none)
      else if l ≤ hh ∧ hh ≤ cap ∧ cap < UNK then
        (match a with
          | some ⟨b, o, none⟩ => some (.slice (some (if cap = l then ⟨b, o, none⟩ else ⟨b, o + l * size, none⟩)) (hh - l) (cap - l))
          | none => some (.slice none (hh - l) (cap - l))
          | _ => none)
      else none
    | _, _, _, _ => none
  | some .string, .string s =>
    match lo.elim (some 0) natOf?, hi.elim (some s.size) natOf? with
    | some l, some hh => if mx.isNone = true ∧ l ≤ hh ∧ hh ≤ s.size then some (.string (s.extract l hh)) else none
    | _, _ => none
  | _, _ => none

def fieldAddrV (P : Program) (t : TypeId) (x : Value) (f : Nat) : Option Value :=
  match x, P.underlying t with
  | .pointer (some ⟨b, o, none⟩), some (.struct fields) =>
    match fields[f]? with
    | some f => match sizeT P f.type with
      | some n => if n = 0 then none else some (.pointer (some ⟨b, o + f.offset, none⟩))
      | none => none
    | none => none
  | _, _ => none
def indexAddrV (P : Program) (t : TypeId) (x i : Value) : Option Value :=
  match P.underlying t, x, natOf? i with
  | some (.slice elem), .slice (some ⟨b, o, none⟩) len _, some i =>
    match sizeT P elem with
    | some size => if i < len then some (.pointer (some ⟨b, o + i * size, none⟩)) else none
    | none => none
  | some (.array len elem), .pointer (some ⟨b, o, none⟩), some i =>
    match sizeT P elem with
    | some size => if i < len then some (.pointer (some ⟨b, o + i * size, none⟩)) else none
    | none => none
  | _, _, _ => none
def fieldV (P : Program) (t : TypeId) (x : Value) (f : Nat) : Option Value :=
  match P.underlying t, x with
  | some (.struct fields), .agg cs => match fields[f]? with
    | some f => partV P f.type cs f.offset
    | none => none
  | _, _ => none
def indexV (P : Program) (t : TypeId) (x i : Value) : Option Value :=
  match P.underlying t, x, natOf? i with
  | some (.string), .string s, some i => (s[i]?).map fun b => .int .u8 b.toNat
  | some (.array len elem), .agg cs, some i =>
    match sizeT P elem with
    | some size => if i < len then partV P elem cs (i * size) else none
    | none => none
  | _, _, _ => none
def extractV (x : Value) (i : Nat) : Option Value :=
  match x with
  | .tuple vs => vs[i]?
  | _ => none
def makeInterfaceV (P : Program) (t : TypeId) (x : Value) : Option Value :=
  match P.underlying t with
  | some (.interface _) => none
  | some _ => some (.iface t x)
  | none => none
def typeAssertV (P : Program) (x : Value) (asserted : TypeId) (commaOk : Bool) : Option Value :=
  match P.underlying asserted, x with
  | some (.interface _), _ => none
  | some _, .nilIface => if commaOk then (zeroT P asserted).bind fun z => if ground z then some (.tuple #[z, .bool false]) else none else none
  | some _, .iface t v =>
    if t = asserted then some (if commaOk then .tuple #[v, .bool true] else v)
    else if commaOk then (zeroT P asserted).bind fun z => if ground z then some (.tuple #[z, .bool false]) else none else none
  | _, _ => none

/-- is one of the two the nil of its kind, and the other of that kind? (whether both are) -/
def nilEq (d : TypeDesc) (x y : Value) : Option Bool :=
  match d, x, y with
  | .pointer _, .pointer none, .pointer b => some b.isNone
  | .pointer _, .pointer _, .pointer none => some false
  | .interface _, .nilIface, .iface _ _ => some false
  | .interface _, .iface _ _, .nilIface => some false
  | .slice _, .slice none _ _, .slice b _ _ => some b.isNone
  | .slice _, .slice _ _ _, .slice none _ _ => some false
  | .func _ _ _, .nilFunc, .func _ _ _ => some false
  | .func _ _ _, .func _ _ _, .nilFunc => some false
  | _, _, _ => none
def pureV (P : Program) (s : Sem Value) : Option Value :=
  match pureRun P s with
  | some v => if ground v then some v else none
  | none => none
def binV (P : Program) (op : BinOp) (t : TypeId) (xo yo : Operand) (x y : Value) : Option Value :=
  if ground x && ground y then pureV P (do eqGuard op t xo yo x y; Go.binOp op t x y)
  else match op, (P.underlying t).bind (nilEq · x y) with
    | .eql, some b => some (.bool b)
    | .neq, some b => some (.bool (!b))
    | _, _ => none
def unV (P : Program) (op : UnOp) (x : Value) : Option Value := if ground x then pureV P (Op.unary op x) else none

/-- the bytes of a row -/
def bytesOf? : List Value → Option (List UInt8)
  | [] => some []
  | .int .u8 n :: l => (bytesOf? l).map (UInt8.ofNat n.toNat :: ·)
  | _ => none
def toBytes (s : ByteArray) : List Value := s.data.toList.map fun b => .int .u8 b.toNat
def isByteT (P : Program) (e : TypeId) : Bool := match P.underlying e with | some (.int .u8) => true | _ => false
def convV (P : Program) (src dst : TypeId) (x : Value) (h : Heap) : Option (Value × Heap) :=
  match P.underlying src, P.underlying dst, x with
  | some (.slice e), some .string, .slice none n c => if isByteT P e = true ∧ n = 0 ∧ c = 0 then some (.string .empty, h) else none
  | some (.slice e), some .string, .slice (some ⟨b, o, none⟩) n _ =>
    if isByteT P e = true then ((h.loadN b o n).bind bytesOf?).map fun l => (.string ⟨l.toArray⟩, h) else none
  | some .string, some (.slice e), .string s =>
    if isByteT P e = true ∧ sizeT P e = some 1 then some (.slice (some ⟨h.blks.length, 0, none⟩) s.size UNK, h.new (.cells (toBytes s)) e) else none
  | some (.slice _), some (.slice e), .slice (some ⟨b, o, none⟩) n c =>
    match h.blks[b]? with
    | some ⟨.cells cs, _, true⟩ => if src = dst ∧ isByteT P e = true ∧ n ≠ 0 then some (.slice (some ⟨b, o, none⟩) n c, h.put b (.cells cs)) else none
    | _ => none
  | some (.slice _), _, _ => none
  | some .string, some (.slice _), _ => none
  | _, _, _ => if ground x then (pureV P (Go.convert src dst x)).map fun v => (v, h) else none

/-- a map's place of an integer key -/
def findInt (k : IntKind) (n : Int) : List (Value × Value) → Nat → Option (Option (Nat × Value))
  | [], _ => some none
  | (.int k' m, v) :: es, i => if k = k' then (if n = m then some (some (i, v)) else findInt k n es (i + 1)) else none
  | _ :: _, _ => none
def isIntT (P : Program) (t : TypeId) : Bool := match P.underlying t with | some (.int _) => true | _ => false
def mapOf? (h : Heap) (b : Nat) : Option (List (Value × Value)) :=
  match h.blks[b]? with
  | some ⟨.map es, _, true⟩ => some es
  | _ => none
def lookupV (P : Program) (t : TypeId) (m key : Value) (commaOk : Bool) (h : Heap) : Option Value :=
  match P.underlying t, m, key with
  | some (.map kt et), .map (some r), .int k n =>
    match mapOf? h r, zeroT P et with
    | some es, some z =>
      if isIntT P kt && ground z then
        (findInt k n es 0).map fun f =>
          match f with
          | some (_, v) => if commaOk then .tuple #[v, .bool true] else v
          | none => if commaOk then .tuple #[z, .bool false] else z
      else none
    | _, _ => none
  | _, _, _ => none
def mapUpdateV (P : Program) (t : TypeId) (m key v : Value) (h : Heap) : Option Heap :=
  match P.underlying t, m, key with
  | some (.map kt _), .map (some r), .int k n =>
    match mapOf? h r with
    | some es =>
      if isIntT P kt then
        (findInt k n es 0).map fun f =>
          match f with
          | some (i, _) => h.put r (.map (es.set i (.int k n, v)))
          | none => h.put r (.map (es ++ [(.int k n, v)]))
      else none
    | none => none
  | _, _, _ => none
def deleteV (P : Program) (t : TypeId) (m key : Value) (h : Heap) : Option Heap :=
  match P.underlying t, m, key with
  | some (.map kt _), .map (some r), .int k n =>
    match mapOf? h r with
    | some es =>
      if isIntT P kt then
        (findInt k n es 0).map fun f =>
          match f with
          | some (i, _) => h.put r (.map (es.eraseIdx i))
          | none => h.put r (.map es)
      else none
    | none => none
  | _, _, _ => none
def makeMapV (h : Heap) : Value × Heap := (.map (some h.blks.length), h.new (.map []) 0)

/-- what an append appends: how many elements, and their cells -/
def newsV (P : Program) (size bytes : Nat) (z : Value) (t1 : Option TypeId) (x : Value) (h : Heap) : Option (Nat × List Value) :=
  match t1.bind P.underlying, x with
  | some (.int _), x =>
    match natOf? x with
    | some l => if l * bytes ≤ 2 ^ 48 ∧ l < 2 ^ 62 then some (l, (Builtin.zeroCells z.cells l).toList) else none
    | none => none
  | some _, .slice (some ⟨b, o, none⟩) n _ => (h.loadN b o (n * size)).map fun cs => (n, cs)
  | some _, .slice none n c => if n = 0 ∧ c = 0 then some (0, []) else none
  | some _, .string s => if size = 1 then some (s.size, toBytes s) else none
  | _, _ => none
def appendV (P : Program) (t0 : TypeId) (t1 : Option TypeId) (s x : Value) (h : Heap) : Option (Value × Heap) :=
  match P.underlying t0, s with
  | some (.slice elem), .slice base sLen sCap =>
    match sizeT P elem, bytesT P elem, zeroT P elem with
    | some size, some bytes, some z =>
      match newsV P size bytes z t1 x h with
      | some (n, news) =>
        if 0 < size ∧ z.cells.size = size ∧ ground z = true ∧ (2 * (sLen + n) + 192) * bytes ≤ 2 ^ 48 ∧ sLen + n < 2 ^ 62 ∧ news.all Value.oneCell' = true then
          if n = 0 then some (s, h)
          else if sCap = UNK then
            match base with
            | some ⟨b, o, none⟩ =>
              match h.blks[b]? with
              | some ⟨.cells cs, ty, true⟩ =>
                if ty = elem ∧ o + sLen * size ≤ cs.length then
                  some (.slice (some ⟨h.blks.length, 0, none⟩) (sLen + n) UNK, (h.put b .dead).new (.cells ((cs.drop o).take (sLen * size) ++ news)) elem)
                else none
              | _ => none
            | _ => none
          else if sLen + n ≤ sCap then
            match base with
            | some ⟨b, o, none⟩ => (h.storeN b (o + sLen * size) news).map fun h' => (.slice base (sLen + n) sCap, h')
            | _ => none
          else match base with
            | some ⟨b, o, none⟩ => (h.loadN b o (sLen * size)).map fun old => (.slice (some ⟨h.blks.length, 0, none⟩) (sLen + n) UNK, h.new (.cells (old ++ news)) elem)
            | none => if sLen = 0 then some (.slice (some ⟨h.blks.length, 0, none⟩) n UNK, h.new (.cells news) elem) else none
            | _ => none
        else none
      | none => none
    | _, _, _ => none
  | _, _ => none
def lenV (P : Program) (t0 : TypeId) (x : Value) (h : Heap) : Option Value :=
  match P.underlying t0, x with
  | some (.slice _), .slice _ n _ => some (.int .i64 n)
  | some .string, .string s => some (.int .i64 s.size)
  | some (.array n _), _ => some (.int .i64 n)
  | some (.map _ _), .map (some r) => (mapOf? h r).map fun es => .int .i64 es.length
  | _, _ => none

/-- a call of a builtin -/
def builtinV (P : Program) (b : Builtin) (ts : Array TypeId) (args : Array Value) (h : Heap) : Option (Value × Heap) :=
  match b, args.toList, ts[0]? with
  | .len, [x], some t => (lenV P t x h).map fun v => (v, h)
  | .append, [s, x], some t => appendV P t ts[1]? s x h
  | .delete, [m, k], some t => (deleteV P t m k h).map fun h' => (.tuple #[], h')
  | .min, l, _ => if l.all ground then (pureV P (Builtin.min_ ts 0 args)).map fun v => (v, h) else none
  | .max, l, _ => if l.all ground then (pureV P (Builtin.max_ ts 0 args)).map fun v => (v, h) else none
  | _, _, _ => none

abbrev Ev := FuncId → Array Value → Heap → Option (Value × Heap)
/-- a function of the model's own, of plain values -/
def externV (P : Program) (fn : Func) (args : Array Value) : Option Value :=
  if args.all ground && (Extern.findNext fn).isNone then
    match Extern.find fn with
    | some e => pureV P (e args)
    | none => none
  else none
def callV (P : Program) (ev : Ev) (f : Value) (args : Array Value) (h : Heap) : Option (Value × Heap) :=
  match f with
  | .func (.func f) first captured =>
    match P.funcs[f]? with
    | some fn =>
      if fn.name == "runtime.NumGoroutine" then none
      else if fn.body.isNone then (externV P fn (first ++ args ++ captured)).map fun v => (v, h)
      else ev f (first ++ args ++ captured) h
    | none => none
  | _ => none

def evalO (T : Array Value) : Operand → Value
  | .tmp t => T.getD t undef
  | .const v => v
  | .global g => .pointer (some ⟨g, 0, none⟩)
  | .func f => .func (.func f) #[] #[]

def nilCheckV : Value → Option Value
  | .pointer (some a) => some (.pointer (some a))
  | .func (.func f) first captured => some (.func (.func f) first captured)
  | _ => none

/-- one operation: its value, and the heap behind it -/
def doOp (P : Program) (ev : Ev) (o : Oper) (T : Array Value) (h : Heap) : Option (Value × Heap) :=
  let ρ := evalO T
  let p (v : Option Value) : Option (Value × Heap) := v.map fun v => (v, h)
  let u (h' : Option Heap) : Option (Value × Heap) := h'.map fun h' => (undef, h')
  match o.op with
  | .move x | .assign x => some (ρ x, h)
  | .pick c a b => match ρ c with
    | .bool t => some (if t then ρ a else ρ b, h)
    | _ => none
  | .alloc t => allocV P t h
  | .box t x => boxV P t (ρ x) h
  | .build t parts => p (buildV P t (parts.map fun x => (x.1, ρ x.2)))
  | .buildSlice t len parts => buildSliceV P t len (parts.map fun x => (x.1, ρ x.2)) h
  | .load t a => p (loadV P t (ρ a) h)
  | .store t a x => u (storeV P t (ρ a) (ρ x) h)
  | .nilCheck x => p (nilCheckV (ρ x))
  | .binOp op t x y _ => p (binV P op t x y (ρ x) (ρ y))
  | .unOp op _ x => p (unV P op (ρ x))
  | .convert src dst x => convV P src dst (ρ x) h
  | .makeInterface t x => p (makeInterfaceV P t (ρ x))
  | .makeFunc fn first captured => some (.func fn (first.map ρ) (captured.map ρ), h)
  | .makeMap _ none => some (makeMapV h)
  | .makeSlice t l c => makeSliceV P t (ρ l) (ρ c) h
  | .slice t x lo hi mx => p (sliceV P t (ρ x) (lo.map ρ) (hi.map ρ) (mx.map ρ) h)
  | .fieldAddr t x f => p (fieldAddrV P t (ρ x) f)
  | .field t x f => p (fieldV P t (ρ x) f)
  | .indexAddr t x i => p (indexAddrV P t (ρ x) (ρ i))
  | .index t x i => p (indexV P t (ρ x) (ρ i))
  | .lookup t m k ok => p (lookupV P t (ρ m) (ρ k) ok h)
  | .mapUpdate t m k v => u (mapUpdateV P t (ρ m) (ρ k) (ρ v) h)
  | .typeAssert x _ asserted ok => p (typeAssertV P (ρ x) asserted ok)
  | .extract t i => p (extractV (ρ t) i)
  | .call c => match c.callee with
    | .builtin b => builtinV P b c.argTypes (c.args.map ρ) h
    | .value f => callV P ev (ρ f) (c.args.map ρ) h
    | _ => none
  | _ => none

def putT (T : Array Value) (dst : Option Tmp) (v : Value) : Array Value :=
  match dst with
  | some d => T.setIfInBounds d v
  | none => T

structure St where
  T : Array Value
  h : Heap
  deriving Inhabited

def stepAt (P : Program) (ev : Ev) (ops : Array Oper) (i : Nat) (s : St) : Option St :=
  match ops[i]? with
  | none => some s
  | some o =>
    if Region.wanted o (yielded ops s.T) then (doOp P ev o s.T s.h).map fun r => ⟨putT s.T o.dst r.1, r.2⟩
    else some ⟨putT s.T o.dst undef, s.h⟩
def runList (P : Program) (ev : Ev) (ops : Array Oper) : List Nat → St → Option St
  | [], s => some s
  | i :: l, s => (stepAt P ev ops i s).bind (runList P ev ops l)

/-! ### regions that draw their order -/
inductive Cls where
  | p | a | l | e
  deriving DecidableEq
def isStrT (P : Program) (t : TypeId) : Bool := match P.underlying t with | some .string => true | _ => false
def isSliceT (P : Program) (t : TypeId) : Bool := match P.underlying t with | some (.slice _) => true | _ => false
def isMapT (P : Program) (t : TypeId) : Bool := match P.underlying t with | some (.map _ _) => true | _ => false
def clsOf (P : Program) : Op → Cls
  | .move _ | .assign _ | .pick .. | .build .. | .nilCheck _ | .binOp .. | .unOp .. | .makeInterface .. | .makeFunc .. | .slice .. | .fieldAddr .. | .field .. | .indexAddr .. | .index .. | .typeAssert .. | .extract .. => .p
  | .alloc _ | .box .. | .buildSlice .. | .makeSlice .. | .makeMap .. => .a
  | .load .. | .lookup .. => .l
  | .convert s d _ => if isStrT P s && isSliceT P d then .a else if isSliceT P s && isStrT P d then .l else if isSliceT P s || isSliceT P d then .e else .p
  | .call { callee := .builtin .len, argTypes, .. } => if isMapT P (argTypes.getD 0 0) then .l else .p
  | .call { callee := .builtin .min, .. } | .call { callee := .builtin .max, .. } => .p
  | _ => .e
/-- the block that a reading operation reads -/
def readOf (o : Op) (T : Array Value) : List Nat :=
  let b : Value → List Nat
    | .pointer (some a) => [a.block]
    | .slice (some a) _ _ => [a.block]
    | .map (some r) => [r]
    | _ => []
  match o with
  | .load _ a => b (evalO T a)
  | .lookup _ m _ _ => b (evalO T m)
  | .convert _ _ x => b (evalO T x)
  | .call c => (c.args.toList.map fun x => b (evalO T x)).flatten
  | _ => []
def constOk : Operand → Bool
  | .const v => ground v
  | .global _ => false
  | _ => true
def cmpB (B : Array Nat) (i j : Nat) : Bool := (B.getD i 0).testBit j || (B.getD j 0).testBit i
def opAt (ops : Array Oper) (i : Nat) : Op := (ops.getD i default).op
/-- the static look at a region: constants are plain, edges go back -/
def plainOk (ops : Array Oper) : Bool := ops.all fun o => o.op.operands.all constOk
def drawOk (P : Program) (ops : Array Oper) (B : Array Nat) : Bool :=
  (List.range ops.size).all (fun i => (ops.getD i default).after.all fun e => !Region.binds .any e || e.on < i) &&
  (List.range ops.size).all fun i => (List.range ops.size).all fun j => i == j || cmpB B i j ||
    (Oper.apart ops (ops.getD i default) (ops.getD j default) && !(clsOf P (opAt ops i) == .e && clsOf P (opAt ops j) == .e))
/-- does operation i stand in no order with one of the other class? -/
def floats (P : Program) (ops : Array Oper) (B : Array Nat) (c : Cls) (i : Nat) : Bool :=
  (List.range ops.size).any fun j => i != j && clsOf P (opAt ops j) == c && !cmpB B i j

structure DSt where
  s : St
  reads : List Nat
  ms : List Nat
def stepD (P : Program) (ev : Ev) (ops : Array Oper) (B : Array Nat) (i : Nat) (d : DSt) : Option DSt :=
  (stepAt P ev ops i ⟨d.s.T, { d.s.h with mods := [] }⟩).map fun s' =>
    { s := ⟨s'.T, { s'.h with mods := s'.h.mods ++ d.s.h.mods }⟩
      reads := (if floats P ops B .e i = true ∧ Region.wanted (ops.getD i default) (yielded ops d.s.T) = true then (if clsOf P (opAt ops i) = .l then readOf (opAt ops i) d.s.T else if clsOf P (opAt ops i) = .a then [d.s.h.blks.length] else []) else []) ++ d.reads
      ms := (if clsOf P (opAt ops i) = .e ∧ (floats P ops B .l i = true ∨ floats P ops B .a i = true) then s'.h.mods else []) ++ d.ms }
def runListD (P : Program) (ev : Ev) (ops : Array Oper) (B : Array Nat) : List Nat → DSt → Option DSt
  | [], d => some d
  | i :: l, d => (stepD P ev ops B i d).bind (runListD P ev ops B l)
def regionV (P : Program) (ev : Ev) (ops : Array Oper) (draw : Bool) (s : St) : Option St :=
  if plainOk ops then
    (if draw then
      (if drawOk P ops (Region.before ops) then
        (match runListD P ev ops (Region.before ops) (List.range ops.size) ⟨s, [], []⟩ with
        | some d => if d.reads.all (fun b => !d.ms.contains b) then some d.s else none
        | none => none)
      else none)
    else runList P ev ops (List.range ops.size) s)
  else none

/-! ### code -/
inductive Ex where
  | normal | ret
  | exit (id : Nat)
  deriving DecidableEq, Inhabited
abbrev Run := St → Option (Ex × St)
def Ex.inBlock (id : Nat) : Ex → Ex
  | .exit i => if i = id then .normal else .exit i
  | e => e
def runCode (P : Program) (ev : Ev) (lp : Run → Run) : Code → Run
  | .skip => fun s => some (.normal, s)
  | .label _ => fun s => some (.normal, s)
  | .ret => fun s => some (.ret, s)
  | .exit id => fun s => some (.exit id, s)
  | .region _ ops draw => fun s => (regionV P ev ops draw s).map fun s' => (.normal, s')
  | .seq a b => fun s => (runCode P ev lp a s).bind fun r => match r.1 with
    | .normal => runCode P ev lp b r.2
    | e => some (e, r.2)
  | .cond c a b => fun s => if constOk c then (match evalO s.T c with
    | .bool true => runCode P ev lp a s
    | .bool false => runCode P ev lp b s
    | _ => none) else none
  | .block id c => fun s => (runCode P ev lp c s).map fun r => (r.1.inBlock id, r.2)
  | .loop c => lp (runCode P ev lp c)
  | _ => fun _ => none
def loopN : Nat → Run → Run
  | 0, _ => fun _ => none
  | k + 1, f => fun s => (f s).bind fun r => match r.1 with
    | .normal => loopN k f r.2
    | e => some (e, r.2)
def resOne (P : Program) (s : St) : ResultVar → Option Value
  | .tmp t => some (s.T.getD t undef)
  | .cell a t => loadV P t (s.T.getD a undef) s.h
def resultsV (P : Program) (fn : Func) (s : St) : Option Value :=
  match fn.results.toList.mapM (resOne P s) with
  | some [v] => some v
  | some vs => some (.tuple vs.toArray)
  | none => none
def callBody (P : Program) (ev : Ev) (lp : Run → Run) : Ev := fun f args h =>
  match P.funcs[f]? with
  | some fn =>
    match fn.body with
    | some c =>
      match runCode P ev lp c ⟨args ++ Array.replicate (fn.ntmps - args.size) undef, { h with mods := [] }⟩ with
      | some (.normal, s) | some (.ret, s) => (resultsV P fn s).map fun v => (v, { s.h with mods := s.h.mods.filter (· < h.blks.length) ++ h.mods })
      | _ => none
    | none => none
  | none => none
def evalN (P : Program) : Nat → Ev
  | 0 => fun _ _ _ => none
  | k + 1 => callBody P (evalN P k) (loopN k)

end Go.Am
