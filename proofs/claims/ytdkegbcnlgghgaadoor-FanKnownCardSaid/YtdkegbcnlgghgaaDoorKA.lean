/- The abstract machine, and that it is sound (parts of one text joined). -/
import Derived.Orders
import Derived.Laws.IdiomCopy
import Derived.MapKept
import Derived.Laws.Cells
import Derived.Laws.BytesString
import Derived.LoopN
set_option linter.all false
namespace Go.Am

def pureRun {α : Type} (P : Program) : Sem α → Option α
  | .pure a => some a
  | .program k => pureRun P (k P)
  | .mark _ k => pureRun P k
  | _ => none

theorem pureRun_run {α : Type} {P : Program} {s : Sem α} {a : α} (h : pureRun P s = some a) (w : World) : s.run P w = .ok a w := by
  induction s with
  | pure b => simp only [pureRun, Option.some.injEq] at h; subst h; rfl
  | program k ih => simp only [pureRun] at h; simp only [Sem.run]; exact ih P h
  | mark m k ih => simp only [pureRun] at h; simp only [Sem.run]; exact ih h
  | _ => simp [pureRun] at h

def UNK : Nat := 2 ^ 70

inductive Body where
  | cells (cs : List Value)
  | map (es : List (Value × Value))
  | dead
  | gone
  deriving Inhabited

structure Blk where
  body : Body
  ty : TypeId
  own : Bool
  deriving Inhabited

structure Heap where
  blks : List Blk
  mods : List Nat
  deriving Inhabited

def ground0 : Value → Bool
  | .bool _ | .int _ _ | .float _ _ | .string _ | .nilIface | .nilFunc => true
  | .pointer none => true
  | .slice none n c => n == 0 && c == 0
  | .map none => true
  | _ => false
def ground : Value → Bool
  | .agg cs => cs.all ground0
  | .tuple cs => cs.all ground0
  | .iface _ v => ground0 v
  | v => ground0 v

namespace Heap
def cells? (h : Heap) (b : Nat) : Option (List Value) :=
  match h.blks[b]? with
  | some ⟨.cells cs, _, _⟩ => some cs
  | _ => none
def loadN (h : Heap) (b o n : Nat) : Option (List Value) :=
  match h.cells? b with
  | some cs => if o + n ≤ cs.length then some ((cs.drop o).take n) else none
  | none => none
def load1 (h : Heap) (b o : Nat) : Option Value :=
  match h.cells? b with
  | some cs => cs[o]?
  | none => none
def new (h : Heap) (body : Body) (ty : TypeId) : Heap := { h with blks := h.blks ++ [⟨body, ty, true⟩] }
def put (h : Heap) (b : Nat) (body : Body) : Heap :=
  match h.blks[b]? with
  | some k => { blks := h.blks.set b { k with body }, mods := b :: h.mods }
  | none => h
def storeN (h : Heap) (b o : Nat) (vs : List Value) : Option Heap :=
  match h.blks[b]? with
  | some ⟨.cells cs, _, true⟩ => if o + vs.length ≤ cs.length then some (h.put b (.cells (cs.take o ++ vs ++ cs.drop (o + vs.length)))) else none
  | _ => none
end Heap

def sizeT (P : Program) (t : TypeId) : Option Nat := (P.info? t).map (·.size)
def bytesT (P : Program) (t : TypeId) : Option Nat := (P.info? t).map (·.bytes)
def zeroT (P : Program) (t : TypeId) : Option Value := (P.info? t).bind (·.zero)
def isAggT (P : Program) (t : TypeId) : Option Bool :=
  match P.underlying t with
  | some (.struct _) | some (.array _ _) => some true
  | some _ => some false
  | none => none
def partV (P : Program) (t : TypeId) (cs : Array Value) (off : Nat) : Option Value :=
  match isAggT P t, sizeT P t with
  | some true, some n => some (.agg (cs.extract off (off + n)))
  | some false, _ => cs[off]?
  | _, _ => none

def loadV (P : Program) (t : TypeId) (a : Value) (h : Heap) : Option Value :=
  match a with
  | .pointer (some ⟨b, o, none⟩) =>
    match isAggT P t, sizeT P t with
    | some true, some n => (h.loadN b o n).map fun cs => .agg cs.toArray
    | some false, _ => h.load1 b o
    | _, _ => none
  | _ => none
def storeV (P : Program) (t : TypeId) (a v : Value) (h : Heap) : Option Heap :=
  match a with
  | .pointer (some ⟨b, o, none⟩) =>
    match sizeT P t with
    | some n => if v.cells.size = n ∧ v.cells.all Value.oneCell' = true then h.storeN b o v.cells.toList else none
    | none => none
  | _ => none
def newV (ty : TypeId) (cs : List Value) (h : Heap) : Value × Heap := (.pointer (some ⟨h.blks.length, 0, none⟩), h.new (.cells cs) ty)
def allocV (P : Program) (t : TypeId) (h : Heap) : Option (Value × Heap) :=
  match zeroT P t, sizeT P t with
  | some z, some _ => if ground z then some (newV t z.cells.toList h) else none
  | _, _ => none
def boxV (P : Program) (t : TypeId) (v : Value) (h : Heap) : Option (Value × Heap) :=
  match sizeT P t with
  | some _ => some (newV t v.cells.toList h)
  | none => none

def natOf? : Value → Option Nat
  | .int _ n => if 0 ≤ n then some n.toNat else none
  | _ => none

def placesOf (P : Program) : List Field → Option (List (Nat × Nat))
  | [] => some []
  | f :: fs => match sizeT P f.type, placesOf P fs with
    | some n, some l => some ((f.offset, n) :: l)
    | _, _ => none
def buildV (P : Program) (t : TypeId) (parts : Array (Nat × Value)) : Option Value :=
  match zeroT P t, P.underlying t with
  | some z, some (.struct fields) =>
    match placesOf P fields.toList with
    | some places => if ground z then (Instr.fill (places.toArray[·]?) z.cells parts.toList).map fun cs => .agg cs else none
    | none => none
  | some z, some (.array _ elem) =>
    match sizeT P elem with
    | some size => if ground z then (Instr.fill (fun i => some (i * size, size)) z.cells parts.toList).map fun cs => .agg cs else none
    | none => none
  | _, _ => none
def buildSliceV (P : Program) (t : TypeId) (len : Nat) (parts : Array (Nat × Value)) (h : Heap) : Option (Value × Heap) :=
  match P.underlying t with
  | some (.slice elem) =>
    match sizeT P elem, zeroT P elem with
    | some size, some z =>
      if len * size ≤ 2 ^ 24 ∧ 0 < size ∧ z.cells.size = size ∧ ground z = true then
        (Instr.fill (fun i => some (i * size, size)) ((Array.range (len * size)).map (z.cells[· % z.cells.size]!)) parts.toList).map fun cs =>
          (.slice (some ⟨h.blks.length, 0, none⟩) len len, h.new (.cells cs.toList) elem)
      else none
    | _, _ => none
  | _ => none
def makeSliceV (P : Program) (t : TypeId) (len cap : Value) (h : Heap) : Option (Value × Heap) :=
  match P.underlying t, natOf? len, natOf? cap with
  | some (.slice elem), some l, some c =>
    match sizeT P elem, bytesT P elem, zeroT P elem with
    | some size, some bytes, some z =>
      if l ≤ c ∧ bytes * c ≤ 2 ^ 48 ∧ c < 2 ^ 62 ∧ 0 < size ∧ z.cells.size = size ∧ ground z = true then
        some (.slice (some ⟨h.blks.length, 0, none⟩) l c, h.new (.cells ((Array.range (c * size)).map (z.cells[· % z.cells.size]!)).toList) elem)
      else none
    | _, _, _ => none
  | _, _, _ => none

def esOf (P : Program) (h : Heap) (b : Nat) : Option Nat :=
  match h.blks[b]? with
  | some ⟨.cells _, ty, _⟩ => sizeT P ty
  | some ⟨.dead, ty, _⟩ => sizeT P ty
  | _ => none
def capOk (cap len m : Nat) : Prop := cap = UNK ∧ m ≤ len ∨ cap ≠ UNK ∧ m ≤ cap
instance (cap len m : Nat) : Decidable (capOk cap len m) := inferInstanceAs (Decidable (_ ∨ _))
def sliceV (P : Program) (t : TypeId) (x : Value) (lo hi mx : Option Value) (h : Heap) : Option Value :=
  match P.underlying t, x with
  | some (.slice elem), .slice a len cap =>
    match sizeT P elem, lo.elim (some 0) natOf?, hi.elim (some len) natOf?, mx.elim (some cap) natOf? with
    | some size, some l, some hh, some m =>
      if mx.isSome = true then
        (if l ≤ hh ∧ hh ≤ m ∧ m < UNK ∧ hi.isSome = true ∧ capOk cap len m then
          (match a with
            | some ⟨b, o, none⟩ => some (.slice (some (if m = l then ⟨b, o, none⟩ else ⟨b, o + l * size, none⟩)) (hh - l) (m - l))
            | none => some (.slice none (hh - l) (m - l))
            | _ => none)
        else none)
      else if cap = UNK then
        (match a with
          | some ⟨b, o, none⟩ => if l ≤ hh ∧ hh ≤ len ∧ esOf P h b = some size then some (.slice (some ⟨b, o + l * size, none⟩) (hh - l) UNK) else none
          | _ => none)
      else if l ≤ hh ∧ hh ≤ cap ∧ cap < UNK then
        (match a with
          | some ⟨b, o, none⟩ => some (.slice (some (if cap = l then ⟨b, o, none⟩ else ⟨b, o + l * size, none⟩)) (hh - l) (cap - l))
          | none => some (.slice none (hh - l) (cap - l))
          | _ => none)
      else none
    | _, _, _, _ => none
  | some .string, .string s =>
    match lo.elim (some 0) natOf?, hi.elim (some s.size) natOf? with
    | some l, some hh => if mx.isNone = true ∧ l ≤ hh ∧ hh ≤ s.size then some (.string (s.extract l hh)) else none
    | _, _ => none
  | _, _ => none

def fieldAddrV (P : Program) (t : TypeId) (x : Value) (f : Nat) : Option Value :=
  match x, P.underlying t with
  | .pointer (some ⟨b, o, none⟩), some (.struct fields) =>
    match fields[f]? with
    | some f => match sizeT P f.type with
      | some n => if n = 0 then none else some (.pointer (some ⟨b, o + f.offset, none⟩))
      | none => none
    | none => none
  | _, _ => none
def indexAddrV (P : Program) (t : TypeId) (x i : Value) : Option Value :=
  match P.underlying t, x, natOf? i with
  | some (.slice elem), .slice (some ⟨b, o, none⟩) len _, some i =>
    match sizeT P elem with
    | some size => if i < len then some (.pointer (some ⟨b, o + i * size, none⟩)) else none
    | none => none
  | some (.array len elem), .pointer (some ⟨b, o, none⟩), some i =>
    match sizeT P elem with
    | some size => if i < len then some (.pointer (some ⟨b, o + i * size, none⟩)) else none
    | none => none
  | _, _, _ => none
def fieldV (P : Program) (t : TypeId) (x : Value) (f : Nat) : Option Value :=
  match P.underlying t, x with
  | some (.struct fields), .agg cs => match fields[f]? with
    | some f => partV P f.type cs f.offset
    | none => none
  | _, _ => none
def indexV (P : Program) (t : TypeId) (x i : Value) : Option Value :=
  match P.underlying t, x, natOf? i with
  | some (.string), .string s, some i => (s[i]?).map fun b => .int .u8 b.toNat
  | some (.array len elem), .agg cs, some i =>
    match sizeT P elem with
    | some size => if i < len then partV P elem cs (i * size) else none
    | none => none
  | _, _, _ => none
def extractV (x : Value) (i : Nat) : Option Value :=
  match x with
  | .tuple vs => vs[i]?
  | _ => none
def makeInterfaceV (P : Program) (t : TypeId) (x : Value) : Option Value :=
  match P.underlying t with
  | some (.interface _) => none
  | some _ => some (.iface t x)
  | none => none
def typeAssertV (P : Program) (x : Value) (asserted : TypeId) (commaOk : Bool) : Option Value :=
  match P.underlying asserted, x with
  | some (.interface _), _ => none
  | some _, .nilIface => if commaOk then (zeroT P asserted).bind fun z => if ground z then some (.tuple #[z, .bool false]) else none else none
  | some _, .iface t v =>
    if t = asserted then some (if commaOk then .tuple #[v, .bool true] else v)
    else if commaOk then (zeroT P asserted).bind fun z => if ground z then some (.tuple #[z, .bool false]) else none else none
  | _, _ => none

def nilEq (d : TypeDesc) (x y : Value) : Option Bool :=
  match d, x, y with
  | .pointer _, .pointer none, .pointer b => some b.isNone
  | .pointer _, .pointer _, .pointer none => some false
  | .interface _, .nilIface, .iface _ _ => some false
  | .interface _, .iface _ _, .nilIface => some false
  | .slice _, .slice none _ _, .slice b _ _ => some b.isNone
  | .slice _, .slice _ _ _, .slice none _ _ => some false
  | .func _ _ _, .nilFunc, .func _ _ _ => some false
  | .func _ _ _, .func _ _ _, .nilFunc => some false
  | _, _, _ => none
def pureV (P : Program) (s : Sem Value) : Option Value :=
  match pureRun P s with
  | some v => if ground v then some v else none
  | none => none
def binV (P : Program) (op : BinOp) (t : TypeId) (xo yo : Operand) (x y : Value) : Option Value :=
  if ground x && ground y then pureV P (do eqGuard op t xo yo x y; Go.binOp op t x y)
  else match op, (P.underlying t).bind (nilEq · x y) with
    | .eql, some b => some (.bool b)
    | .neq, some b => some (.bool (!b))
    | _, _ => none
def unV (P : Program) (op : UnOp) (x : Value) : Option Value := if ground x then pureV P (Op.unary op x) else none

def bytesOf? : List Value → Option (List UInt8)
  | [] => some []
  | .int .u8 n :: l => (bytesOf? l).map (UInt8.ofNat n.toNat :: ·)
  | _ => none
def toBytes (s : ByteArray) : List Value := s.data.toList.map fun b => .int .u8 b.toNat
def isByteT (P : Program) (e : TypeId) : Bool := match P.underlying e with | some (.int .u8) => true | _ => false
def convV (P : Program) (src dst : TypeId) (x : Value) (h : Heap) : Option (Value × Heap) :=
  match P.underlying src, P.underlying dst, x with
  | some (.slice e), some .string, .slice none n c => if isByteT P e = true ∧ n = 0 ∧ c = 0 then some (.string .empty, h) else none
  | some (.slice e), some .string, .slice (some ⟨b, o, none⟩) n _ =>
    if isByteT P e = true then ((h.loadN b o n).bind bytesOf?).map fun l => (.string ⟨l.toArray⟩, h) else none
  | some .string, some (.slice e), .string s =>
    if isByteT P e = true ∧ sizeT P e = some 1 then some (.slice (some ⟨h.blks.length, 0, none⟩) s.size UNK, h.new (.cells (toBytes s)) e) else none
  | some (.slice _), some (.slice e), .slice (some ⟨b, o, none⟩) n c =>
    match h.blks[b]? with
    | some ⟨.cells cs, ty, true⟩ => if src = dst ∧ isByteT P e = true ∧ n ≠ 0 ∧ sizeT P ty = some 1 then some (.slice (some ⟨b, o, none⟩) n c, h.put b (.cells cs)) else none
    | _ => none
  | some (.slice _), _, _ => none
  | some .string, some (.slice _), _ => none
  | _, _, _ => if ground x then (pureV P (Go.convert src dst x)).map fun v => (v, h) else none

def findInt (k : IntKind) (n : Int) : List (Value × Value) → Nat → Option (Option (Nat × Value))
  | [], _ => some none
  | (.int k' m, v) :: es, i => if k = k' then (if n = m then some (some (i, v)) else findInt k n es (i + 1)) else none
  | _ :: _, _ => none
def isIntT (P : Program) (t : TypeId) : Bool := match P.underlying t with | some (.int _) => true | _ => false
def mapOf? (h : Heap) (b : Nat) : Option (List (Value × Value)) :=
  match h.blks[b]? with
  | some ⟨.map es, _, true⟩ => some es
  | _ => none
def lookupV (P : Program) (t : TypeId) (m key : Value) (commaOk : Bool) (h : Heap) : Option Value :=
  match P.underlying t, m, key with
  | some (.map kt et), .map (some r), .int k n =>
    match mapOf? h r, zeroT P et with
    | some es, some z =>
      if isIntT P kt && ground z then
        (findInt k n es 0).map fun f =>
          match f with
          | some (_, v) => if commaOk then .tuple #[v, .bool true] else v
          | none => if commaOk then .tuple #[z, .bool false] else z
      else none
    | _, _ => none
  | _, _, _ => none
def mapUpdateV (P : Program) (t : TypeId) (m key v : Value) (h : Heap) : Option Heap :=
  match P.underlying t, m, key with
  | some (.map kt _), .map (some r), .int k n =>
    match mapOf? h r with
    | some es =>
      if isIntT P kt then
        (findInt k n es 0).map fun f =>
          match f with
          | some (i, _) => h.put r (.map (es.set i (.int k n, v)))
          | none => h.put r (.map (es ++ [(.int k n, v)]))
      else none
    | none => none
  | _, _, _ => none
def deleteV (P : Program) (t : TypeId) (m key : Value) (h : Heap) : Option Heap :=
  match P.underlying t, m, key with
  | some (.map kt _), .map (some r), .int k n =>
    match mapOf? h r with
    | some es =>
      if isIntT P kt then
        (findInt k n es 0).map fun f =>
          match f with
          | some (i, _) => h.put r (.map (es.eraseIdx i))
          | none => h.put r (.map es)
      else none
    | none => none
  | _, _, _ => none
def makeMapV (h : Heap) : Value × Heap := (.map (some h.blks.length), h.new (.map []) 0)

def newsV (P : Program) (size bytes : Nat) (z : Value) (t1 : Option TypeId) (x : Value) (h : Heap) : Option (Nat × List Value) :=
  match t1.bind P.underlying, x with
  | some (.int _), x =>
    match natOf? x with
    | some l => if l * bytes ≤ 2 ^ 48 ∧ l < 2 ^ 62 then some (l, (Builtin.zeroCells z.cells l).toList) else none
    | none => none
  | some _, .slice (some ⟨b, o, none⟩) n _ => (h.loadN b o (n * size)).map fun cs => (n, cs)
  | some _, .slice none n c => if n = 0 ∧ c = 0 then some (0, []) else none
  | some _, .string s => if size = 1 then some (s.size, toBytes s) else none
  | _, _ => none
def appendV (P : Program) (t0 : TypeId) (t1 : Option TypeId) (s x : Value) (h : Heap) : Option (Value × Heap) :=
  match P.underlying t0, s with
  | some (.slice elem), .slice base sLen sCap =>
    match sizeT P elem, bytesT P elem, zeroT P elem with
    | some size, some bytes, some z =>
      match newsV P size bytes z t1 x h with
      | some (n, news) =>
        if 0 < size ∧ z.cells.size = size ∧ ground z = true ∧ (2 * (sLen + n) + 192) * bytes ≤ 2 ^ 48 ∧ sLen + n < 2 ^ 62 ∧ news.all Value.oneCell' = true then
          if n = 0 then some (s, h)
          else if sCap = UNK then
            match base with
            | some ⟨b, o, none⟩ =>
              match h.blks[b]? with
              | some ⟨.cells cs, ty, true⟩ =>
                if ty = elem ∧ o + sLen * size ≤ cs.length then
                  some (.slice (some ⟨h.blks.length, 0, none⟩) (sLen + n) UNK, (h.put b .dead).new (.cells ((cs.drop o).take (sLen * size) ++ news)) elem)
                else none
              | _ => none
            | _ => none
          else if sLen + n ≤ sCap then
            match base with
            | some ⟨b, o, none⟩ => (h.storeN b (o + sLen * size) news).map fun h' => (.slice base (sLen + n) sCap, h')
            | _ => none
          else match base with
            | some ⟨b, o, none⟩ => (h.loadN b o (sLen * size)).map fun old => (.slice (some ⟨h.blks.length, 0, none⟩) (sLen + n) UNK, h.new (.cells (old ++ news)) elem)
            | none => if sLen = 0 then some (.slice (some ⟨h.blks.length, 0, none⟩) n UNK, h.new (.cells news) elem) else none
            | _ => none
        else none
      | none => none
    | _, _, _ => none
  | _, _ => none
def lenV (P : Program) (t0 : TypeId) (x : Value) (h : Heap) : Option Value :=
  match P.underlying t0, x with
  | some (.slice _), .slice _ n _ => some (.int .i64 n)
  | some .string, .string s => some (.int .i64 s.size)
  | some (.array n _), _ => some (.int .i64 n)
  | some (.map _ _), .map (some r) => (mapOf? h r).map fun es => .int .i64 es.length
  | _, _ => none

def clearV (P : Program) (t : TypeId) (x : Value) (h : Heap) : Option Heap :=
  match P.underlying t, x with
  | some (.slice _), .slice none n c => if n = 0 ∧ c = 0 then some h else none
  | some (.slice elem), .slice (some ⟨b, o, none⟩) n _ =>
    if n = 0 then some h
    else match zeroT P elem with
      | some z => if (Builtin.zeroCells z.cells n).toList.all ground = true ∧ (Builtin.zeroCells z.cells n).toList.all Value.oneCell' = true then h.storeN b o (Builtin.zeroCells z.cells n).toList else none
      | none => none
  | _, _ => none
def builtinV (P : Program) (b : Builtin) (ts : Array TypeId) (args : Array Value) (h : Heap) : Option (Value × Heap) :=
  match b, args.toList, ts[0]? with
  | .len, [x], some t => (lenV P t x h).map fun v => (v, h)
  | .append, [s, x], some t => appendV P t ts[1]? s x h
  | .delete, [m, k], some t => (deleteV P t m k h).map fun h' => (.tuple #[], h')
  | .min, l, _ => if l.all ground then (pureV P (Builtin.min_ ts 0 args)).map fun v => (v, h) else none
  | .clear, [x], some t => (clearV P t x h).map fun h' => (.tuple #[], h')
  | .max, l, _ => if l.all ground then (pureV P (Builtin.max_ ts 0 args)).map fun v => (v, h) else none
  | _, _, _ => none

abbrev Ev := FuncId → Array Value → Heap → Option (Value × Heap)
def externV (P : Program) (fn : Func) (args : Array Value) : Option Value :=
  if args.all ground && (Extern.findNext fn).isNone then
    match Extern.find fn with
    | some e => pureV P (e args)
    | none => none
  else none
def callV (P : Program) (ev : Ev) (f : Value) (args : Array Value) (h : Heap) : Option (Value × Heap) :=
  match f with
  | .func (.func f) first captured =>
    match P.funcs[f]? with
    | some fn =>
      if fn.name == "runtime.NumGoroutine" then none
      else if fn.body.isNone then (externV P fn (first ++ args ++ captured)).map fun v => (v, h)
      else ev f (first ++ args ++ captured) h
    | none => none
  | _ => none

def methodF (P : Program) (t : TypeId) (name : String) : Option FuncId :=
  match pureRun P (typeInfo t) with
  | some i => match i.methods.find? (·.name == name) with
    | some m => match m.path.toList, m.func, P.underlying t with
      | [], some (f, true), some (.pointer _) => some f
      | _, _, _ => none
    | none => none
  | none => none
def invokeV (P : Program) (ev : Ev) (recv : Value) (name : String) (args : Array Value) (h : Heap) : Option (Value × Heap) :=
  match recv with
  | .iface t v => (methodF P t name).bind fun f => callV P ev (.func (.func f) #[] #[]) (#[v] ++ args) h
  | _ => none
def evalO (T : Array Value) : Operand → Value
  | .tmp t => T.getD t undef
  | .const v => v
  | .global g => .pointer (some ⟨g, 0, none⟩)
  | .func f => .func (.func f) #[] #[]

def nilCheckV (P : Program) : Value → Option Value
  | .pointer (some a) => some (.pointer (some a))
  | .func (.func f) first captured => some (.func (.func f) first captured)
  | .func (.method name) first captured =>
    match (first[0]? : Option Value) with
    | some (.iface t _) => (methodF P t name).map fun _ => .func (.method name) first captured
    | _ => none
  | .iface t v => some (.iface t v)
  | _ => none

def doOp (P : Program) (ev : Ev) (o : Oper) (T : Array Value) (h : Heap) : Option (Value × Heap) :=
  let ρ := evalO T
  let p (v : Option Value) : Option (Value × Heap) := v.map fun v => (v, h)
  let u (h' : Option Heap) : Option (Value × Heap) := h'.map fun h' => (undef, h')
  match o.op with
  | .move x | .assign x => some (ρ x, h)
  | .pick c a b => match ρ c with
    | .bool t => some (if t then ρ a else ρ b, h)
    | _ => none
  | .alloc t => allocV P t h
  | .box t x => boxV P t (ρ x) h
  | .build t parts => p (buildV P t (parts.map fun x => (x.1, ρ x.2)))
  | .buildSlice t len parts => buildSliceV P t len (parts.map fun x => (x.1, ρ x.2)) h
  | .load t a => p (loadV P t (ρ a) h)
  | .store t a x => u (storeV P t (ρ a) (ρ x) h)
  | .nilCheck x => p (nilCheckV P (ρ x))
  | .binOp op t x y _ => p (binV P op t x y (ρ x) (ρ y))
  | .unOp op _ x => p (unV P op (ρ x))
  | .convert src dst x => convV P src dst (ρ x) h
  | .makeInterface t x => p (makeInterfaceV P t (ρ x))
  | .makeFunc fn first captured => some (.func fn (first.map ρ) (captured.map ρ), h)
  | .makeMap _ none => some (makeMapV h)
  | .makeSlice t l c => makeSliceV P t (ρ l) (ρ c) h
  | .slice t x lo hi mx => p (sliceV P t (ρ x) (lo.map ρ) (hi.map ρ) (mx.map ρ) h)
  | .fieldAddr t x f => p (fieldAddrV P t (ρ x) f)
  | .field t x f => p (fieldV P t (ρ x) f)
  | .indexAddr t x i => p (indexAddrV P t (ρ x) (ρ i))
  | .index t x i => p (indexV P t (ρ x) (ρ i))
  | .lookup t m k ok => p (lookupV P t (ρ m) (ρ k) ok h)
  | .mapUpdate t m k v => u (mapUpdateV P t (ρ m) (ρ k) (ρ v) h)
  | .typeAssert x _ asserted ok => p (typeAssertV P (ρ x) asserted ok)
  | .extract t i => p (extractV (ρ t) i)
  | .call c => match c.callee with
    | .builtin b => builtinV P b c.argTypes (c.args.map ρ) h
    | .value f => callV P ev (ρ f) (c.args.map ρ) h
    | .invoke recv name => invokeV P ev (ρ recv) name (c.args.map ρ) h
  | _ => none

def putT (T : Array Value) (dst : Option Tmp) (v : Value) : Array Value :=
  match dst with
  | some d => T.setIfInBounds d v
  | none => T

structure St where
  T : Array Value
  h : Heap
  deriving Inhabited

def stepAt (P : Program) (ev : Ev) (ops : Array Oper) (i : Nat) (s : St) : Option St :=
  match ops[i]? with
  | none => some s
  | some o =>
    if Region.wanted o (yielded ops s.T) then (doOp P ev o s.T s.h).map fun r => ⟨putT s.T o.dst r.1, r.2⟩
    else some ⟨putT s.T o.dst undef, s.h⟩
def runList (P : Program) (ev : Ev) (ops : Array Oper) : List Nat → St → Option St
  | [], s => some s
  | i :: l, s => (stepAt P ev ops i s).bind (runList P ev ops l)

inductive Cls where
  | p | a | l | e
  deriving DecidableEq
def isStrT (P : Program) (t : TypeId) : Bool := match P.underlying t with | some .string => true | _ => false
def isSliceT (P : Program) (t : TypeId) : Bool := match P.underlying t with | some (.slice _) => true | _ => false
def isMapT (P : Program) (t : TypeId) : Bool := match P.underlying t with | some (.map _ _) => true | _ => false
def clsOf (P : Program) : Op → Cls
  | .move _ | .assign _ | .pick .. | .build .. | .nilCheck _ | .binOp .. | .unOp .. | .makeInterface .. | .makeFunc .. | .slice .. | .fieldAddr .. | .field .. | .indexAddr .. | .index .. | .typeAssert .. | .extract .. => .p
  | .alloc _ | .box .. | .buildSlice .. | .makeSlice .. | .makeMap .. => .a
  | .load .. | .lookup .. => .l
  | .convert s d _ => if isStrT P s && isSliceT P d then .a else if isSliceT P s && isStrT P d then .l else if isSliceT P s || isSliceT P d then .e else .p
  | .call { callee := .builtin .len, argTypes, .. } => if isMapT P (argTypes.getD 0 0) then .l else .p
  | .call { callee := .builtin .min, .. } | .call { callee := .builtin .max, .. } => .p
  | _ => .e
def readOf (o : Op) (T : Array Value) : List Nat :=
  let b : Value → List Nat
    | .pointer (some a) => [a.block]
    | .slice (some a) _ _ => [a.block]
    | .map (some r) => [r]
    | _ => []
  match o with
  | .load _ a => b (evalO T a)
  | .lookup _ m _ _ => b (evalO T m)
  | .convert _ _ x => b (evalO T x)
  | .call c => (c.args.toList.map fun x => b (evalO T x)).flatten
  | _ => []
def constOk : Operand → Bool
  | .const v => ground v
  | .global _ => false
  | _ => true
def cmpB (B : Array Nat) (i j : Nat) : Bool := (B.getD i 0).testBit j || (B.getD j 0).testBit i
def opAt (ops : Array Oper) (i : Nat) : Op := (ops.getD i default).op
def plainOk (ops : Array Oper) : Bool := ops.all fun o => o.op.operands.all constOk
def drawOk (P : Program) (ops : Array Oper) (B : Array Nat) : Bool :=
  (List.range ops.size).all (fun i => (ops.getD i default).after.all fun e => !Region.binds .any e || e.on < i) &&
  (List.range ops.size).all fun i => (List.range ops.size).all fun j => i == j || cmpB B i j ||
    (Oper.apart ops (ops.getD i default) (ops.getD j default) && !(clsOf P (opAt ops i) == .e && clsOf P (opAt ops j) == .e))
def floats (P : Program) (ops : Array Oper) (B : Array Nat) (c : Cls) (i : Nat) : Bool :=
  (List.range ops.size).any fun j => i != j && clsOf P (opAt ops j) == c && !cmpB B i j

structure DSt where
  s : St
  reads : List Nat
  ms : List Nat
def stepD (P : Program) (ev : Ev) (ops : Array Oper) (B : Array Nat) (i : Nat) (d : DSt) : Option DSt :=
  (stepAt P ev ops i ⟨d.s.T, { d.s.h with mods := [] }⟩).map fun s' =>
    { s := ⟨s'.T, { s'.h with mods := s'.h.mods ++ d.s.h.mods }⟩
      reads := (if floats P ops B .e i = true ∧ Region.wanted (ops.getD i default) (yielded ops d.s.T) = true then (if clsOf P (opAt ops i) = .l then readOf (opAt ops i) d.s.T else if clsOf P (opAt ops i) = .a then [d.s.h.blks.length] else []) else []) ++ d.reads
      ms := (if clsOf P (opAt ops i) = .e ∧ (floats P ops B .l i = true ∨ floats P ops B .a i = true) then s'.h.mods else []) ++ d.ms }
def runListD (P : Program) (ev : Ev) (ops : Array Oper) (B : Array Nat) : List Nat → DSt → Option DSt
  | [], d => some d
  | i :: l, d => (stepD P ev ops B i d).bind (runListD P ev ops B l)
def regionV (P : Program) (ev : Ev) (ops : Array Oper) (draw : Bool) (s : St) : Option St :=
  if plainOk ops then
    (if draw then
      (if drawOk P ops (Region.before ops) then
        (match runListD P ev ops (Region.before ops) (List.range ops.size) ⟨s, [], []⟩ with
        | some d => if d.reads.all (fun b => !d.ms.contains b) then some d.s else none
        | none => none)
      else none)
    else runList P ev ops (List.range ops.size) s)
  else none

inductive Ex where
  | normal | ret
  | exit (id : Nat)
  deriving DecidableEq, Inhabited
abbrev Run := St → Option (Ex × St)
def Ex.inBlock (id : Nat) : Ex → Ex
  | .exit i => if i = id then .normal else .exit i
  | e => e
def runCode (P : Program) (ev : Ev) (lp : Run → Run) : Code → Run
  | .skip => fun s => some (.normal, s)
  | .label _ => fun s => some (.normal, s)
  | .ret => fun s => some (.ret, s)
  | .exit id => fun s => some (.exit id, s)
  | .region _ ops draw => fun s => (regionV P ev ops draw s).map fun s' => (.normal, s')
  | .seq a b => fun s => (runCode P ev lp a s).bind fun r => match r.1 with
    | .normal => runCode P ev lp b r.2
    | e => some (e, r.2)
  | .cond c a b => fun s => if constOk c then (match evalO s.T c with
    | .bool true => runCode P ev lp a s
    | .bool false => runCode P ev lp b s
    | _ => none) else none
  | .block id c => fun s => (runCode P ev lp c s).map fun r => (r.1.inBlock id, r.2)
  | .loop c => lp (runCode P ev lp c)
  | _ => fun _ => none
def loopN : Nat → Run → Run
  | 0, _ => fun _ => none
  | k + 1, f => fun s => (f s).bind fun r => match r.1 with
    | .normal => loopN k f r.2
    | e => some (e, r.2)
def resOne (P : Program) (s : St) : ResultVar → Option Value
  | .tmp t => some (s.T.getD t undef)
  | .cell a t => loadV P t (s.T.getD a undef) s.h
def resultsV (P : Program) (fn : Func) (s : St) : Option Value :=
  match fn.results.toList.mapM (resOne P s) with
  | some [v] => some v
  | some vs => some (.tuple vs.toArray)
  | none => none
def callBody (P : Program) (ev : Ev) (lp : Run → Run) : Ev := fun f args h =>
  match P.funcs[f]? with
  | some fn =>
    match fn.body with
    | some c =>
      match runCode P ev lp c ⟨args ++ Array.replicate (fn.ntmps - args.size) undef, { h with mods := [] }⟩ with
      | some (.normal, s) | some (.ret, s) => (resultsV P fn s).map fun v => (v, { s.h with mods := s.h.mods.filter (· < h.blks.length) ++ h.mods })
      | _ => none
    | none => none
  | none => none
class Gl (P : Program) where
  tab : Option (Nat × List Value)
class Xt (P : Program) where
  X : FuncId → Option (Array Value → Heap → Option (Value × Heap))
def evalN (P : Program) [Xt P] : Nat → Ev
  | 0 => fun f args h => match Xt.X P f with
    | some g => g args h
    | none => none
  | k + 1 => fun f args h => match Xt.X P f with
    | some g => g args h
    | none => callBody P (evalN P k) (loopN k) f args h

end Go.Am
namespace Go.Am

structure Loc where
  cb : Nat
  s : Nat
  sz : Nat
  es : Nat
abbrev Env := Nat → Option Loc

inductive VR (E : Env) : Value → Value → Prop
  | bool (b : Bool) : VR E (.bool b) (.bool b)
  | int (k : IntKind) (n : Int) : VR E (.int k n) (.int k n)
  | float (k : FloatKind) (n : Nat) : VR E (.float k n) (.float k n)
  | string (s : ByteArray) : VR E (.string s) (.string s)
  | nilIface : VR E .nilIface .nilIface
  | nilFunc : VR E .nilFunc .nilFunc
  | ptrNil : VR E (.pointer none) (.pointer none)
  | ptr {b o : Nat} {l : Loc} : E b = some l → VR E (.pointer (some ⟨b, o, none⟩)) (.pointer (some ⟨l.cb, l.s + o, none⟩))
  | sliceNil : VR E (.slice none 0 0) (.slice none 0 0)
  | slice {b o n c c' : Nat} {l : Loc} : E b = some l → (c = UNK ∨ c = c' ∧ c ≠ UNK) → n ≤ c' → (c = UNK → l.s + o + c' * l.es ≤ l.sz) →
      VR E (.slice (some ⟨b, o, none⟩) n c) (.slice (some ⟨l.cb, l.s + o, none⟩) n c')
  | sliceEmpty {b o c : Nat} {a' : Addr} : (c = UNK ∨ c = 0) → VR E (.slice (some ⟨b, o, none⟩) 0 c) (.slice (some a') 0 0)
  | mapNil : VR E (.map none) (.map none)
  | map {b : Nat} {l : Loc} : E b = some l → VR E (.map (some b)) (.map (some l.cb))
  | iface {t : TypeId} {v v' : Value} : VR E v v' → VR E (.iface t v) (.iface t v')
  | agg {cs cs' : Array Value} : cs.size = cs'.size → (∀ i (h : i < cs.size) (h' : i < cs'.size), VR E cs[i] cs'[i]) → VR E (.agg cs) (.agg cs')
  | tuple {cs cs' : Array Value} : cs.size = cs'.size → (∀ i (h : i < cs.size) (h' : i < cs'.size), VR E cs[i] cs'[i]) → VR E (.tuple cs) (.tuple cs')
  | func {fn : Fn} {f f' c c' : Array Value} : f.size = f'.size → (∀ i (h : i < f.size) (h' : i < f'.size), VR E f[i] f'[i]) →
      c.size = c'.size → (∀ i (h : i < c.size) (h' : i < c'.size), VR E c[i] c'[i]) → VR E (.func fn f c) (.func fn f' c')

def ARel (E : Env) (a a' : Array Value) : Prop := a.size = a'.size ∧ ∀ i (h : i < a.size) (h' : i < a'.size), VR E a[i] a'[i]

def Ext (E E' : Env) : Prop := ∀ b l, E b = some l → E' b = some l
theorem Ext.refl (E : Env) : Ext E E := fun _ _ h => h
theorem Ext.trans {E E' E'' : Env} (h : Ext E E') (h' : Ext E' E'') : Ext E E'' := fun b l e => h' b l (h b l e)

theorem VR.mono {E E' : Env} (hE : Ext E E') {v v' : Value} (h : VR E v v') : VR E' v v' := by
  induction h with
  | bool b => exact .bool b
  | int k n => exact .int k n
  | float k n => exact .float k n
  | string s => exact .string s
  | nilIface => exact .nilIface
  | nilFunc => exact .nilFunc
  | ptrNil => exact .ptrNil
  | ptr h => exact .ptr (hE _ _ h)
  | sliceNil => exact .sliceNil
  | slice h a b c => exact .slice (hE _ _ h) a b c
  | sliceEmpty h => exact .sliceEmpty h
  | mapNil => exact .mapNil
  | map h => exact .map (hE _ _ h)
  | iface _ ih => exact .iface ih
  | agg hs _ ih => exact .agg hs ih
  | tuple hs _ ih => exact .tuple hs ih
  | func hs _ hs' _ ih ih' => exact .func hs ih hs' ih'
theorem ARel.mono {E E' : Env} (hE : Ext E E') {a a' : Array Value} (h : ARel E a a') : ARel E' a a' := ⟨h.1, fun i h1 h2 => (h.2 i h1 h2).mono hE⟩

theorem VR.ground0_eq {E : Env} {v v' : Value} (h : VR E v v') (hg : ground0 v = true) : v' = v := by
  cases h <;> simp_all [ground0]
theorem VR.of_ground0 {E : Env} {v : Value} (hg : ground0 v = true) : VR E v v := by
  cases v with
  | bool b => exact .bool b
  | int k n => exact .int k n
  | float k n => exact .float k n
  | string s => exact .string s
  | nilIface => exact .nilIface
  | nilFunc => exact .nilFunc
  | pointer a => cases a with
    | none => exact .ptrNil
    | some a => simp [ground0] at hg
  | slice a n c => cases a with
    | none => simp [ground0] at hg; obtain ⟨rfl, rfl⟩ := hg; exact .sliceNil
    | some a => simp [ground0] at hg
  | map r => cases r with
    | none => exact .mapNil
    | some a => simp [ground0] at hg
  | _ => simp [ground0] at hg
theorem arr_all {cs : Array Value} {p : Value → Bool} (h : cs.all p = true) (i : Nat) (hi : i < cs.size) : p cs[i] = true := by
  rw [Array.all_eq_true] at h
  exact h i hi
theorem VR.ground_eq {E : Env} {v v' : Value} (h : VR E v v') (hg : ground v = true) : v' = v := by
  cases h with
  | iface h => simp only [ground] at hg; rw [h.ground0_eq hg]
  | agg hs h =>
    simp only [ground] at hg
    congr 1
    exact Array.ext hs.symm fun i h1 h2 => (h i h2 h1).ground0_eq (arr_all hg i h2)
  | tuple hs h =>
    simp only [ground] at hg
    congr 1
    exact Array.ext hs.symm fun i h1 h2 => (h i h2 h1).ground0_eq (arr_all hg i h2)
  | func => simp [ground, ground0] at hg
  | _ => first | rfl | simp [ground, ground0] at hg
theorem VR.of_ground {E : Env} {v : Value} (hg : ground v = true) : VR E v v := by
  cases v with
  | iface t v => exact .iface (VR.of_ground0 (by simpa [ground] using hg))
  | agg cs => exact .agg rfl fun i h _ => VR.of_ground0 (arr_all (by simpa [ground] using hg) i h)
  | tuple cs => exact .tuple rfl fun i h _ => VR.of_ground0 (arr_all (by simpa [ground] using hg) i h)
  | _ => exact VR.of_ground0 (by simpa [ground] using hg)
theorem VR.undef {E : Env} : VR E undef undef := .tuple rfl fun i h _ => by simp at h
theorem VR.oneCell {E : Env} {v v' : Value} (h : VR E v v') : v'.oneCell' = v.oneCell' := by cases h <;> rfl

theorem ARel.getD {E : Env} {a a' : Array Value} (h : ARel E a a') (i : Nat) : VR E (a.getD i Go.undef) (a'.getD i Go.undef) := by
  by_cases hi : i < a.size
  · have hi' : i < a'.size := h.1 ▸ hi
    simpa [Array.getD, hi, hi'] using h.2 i hi hi'
  · have hi' : ¬ i < a'.size := h.1 ▸ hi
    simp [Array.getD, hi, hi', VR.undef]
theorem ARel.set {E : Env} {a a' : Array Value} (h : ARel E a a') (d : Nat) {v v' : Value} (hv : VR E v v') : ARel E (a.setIfInBounds d v) (a'.setIfInBounds d v') := by
  refine ⟨by simp [h.1], fun i h1 h2 => ?_⟩
  have h1' : i < a.size := by simpa using h1
  have h2' : i < a'.size := by simpa using h2
  have e1 : (a.setIfInBounds d v)[i] = if d = i then v else a[i] := by
    by_cases hd : d = i
    · subst hd; simp
    · rw [if_neg hd]; exact Array.getElem_setIfInBounds_ne h1' hd
  have e2 : (a'.setIfInBounds d v')[i] = if d = i then v' else a'[i] := by
    by_cases hd : d = i
    · subst hd; simp
    · rw [if_neg hd]; exact Array.getElem_setIfInBounds_ne h2' hd
  rw [e1, e2]
  by_cases hd : d = i
  · rw [if_pos hd, if_pos hd]; exact hv
  · rw [if_neg hd, if_neg hd]; exact h.2 i h1' h2'
theorem ARel.nil {E : Env} : ARel E #[] #[] := ⟨rfl, fun i h => by simp at h⟩
theorem ARel.cells {E : Env} {v v' : Value} (h : VR E v v') : ARel E v.cells v'.cells := by
  have single : ∀ {v v' : Value}, VR E v v' → ARel E #[v] #[v'] := fun h => ⟨rfl, fun i h1 h2 => by
    have : i = 0 := by simp at h1; omega
    subst this; exact h⟩
  cases h with
  | agg hs h => exact ⟨hs, h⟩
  | _ => exact single (by constructor <;> assumption)
theorem ARel.append {E : Env} {a a' b b' : Array Value} (h : ARel E a a') (k : ARel E b b') : ARel E (a ++ b) (a' ++ b') := by
  refine ⟨by simp [h.1, k.1], fun i h1 h2 => ?_⟩
  by_cases hi : i < a.size
  · have hi' : i < a'.size := h.1 ▸ hi
    rw [Array.getElem_append_left hi, Array.getElem_append_left hi']; exact h.2 i hi hi'
  · have hi' : ¬ i < a'.size := h.1 ▸ hi
    rw [Array.getElem_append_right (by omega), Array.getElem_append_right (by omega)]
    simp only [h.1]
    exact k.2 _ _ _

def LRel (E : Env) (l l' : List Value) : Prop := l.length = l'.length ∧ ∀ (i : Nat) v, l[i]? = some v → ∃ v', l'[i]? = some v' ∧ VR E v v'

def Blk.live (k : Blk) : Prop := match k.body with | .dead => False | .gone => False | _ => True
def Body.kind : Body → Nat
  | .map _ => 1
  | .gone => 2
  | _ => 0

def Own (P : Program) (k : Blk) (l : Loc) (w : World) : Prop :=
  ∃ cs e lo hi, w.heap[l.cb]? = some (.cells cs e (lo, hi)) ∧ cs.size = l.sz ∧ sizeT P k.ty = some l.es ∧ (lo = hi ∨ l.sz ≤ lo ∧ l.es = 1)
def BlkR (P : Program) (E : Env) (k : Blk) (l : Loc) (w : World) : Prop :=
  match k.body with
  | .cells cs => sizeT P k.ty = some l.es ∧ (∀ (i : Nat) v, cs[i]? = some v → ∃ v', w.cell? ⟨l.cb, l.s + i, none⟩ = some v' ∧ VR E v v') ∧ (k.own = true → Own P k l w)
  | .map es => ∃ (es' : Array MapEntry) (clock : Nat), w.heap[l.cb]? = some (.map es' clock) ∧ es.length = es'.size ∧
      (∀ (i : Nat) e e', es[i]? = some e → es'[i]? = some e' → VR E e.1 e'.key ∧ VR E e.2 e'.val) ∧ MapKept.Stamped es' clock
  | .dead => sizeT P k.ty = some l.es
  | .gone => True

def GlobW (P : Program) [Gl P] (base : Nat) (w : World) : Prop := ∀ g cs, Gl.tab P = some (g, cs) → g < base ∧ ∀ (i : Nat) v, cs[i]? = some v → w.cell? ⟨g, i, none⟩ = some v
theorem GlobW.none {P : Program} [Gl P] (h : Gl.tab P = none) (base : Nat) (w : World) : GlobW P base w := fun g cs e => by rw [h] at e; cases e
structure Rel (P : Program) [Gl P] (base : Nat) (E : Env) (h : Heap) (w : World) : Prop where
  blk : ∀ (b : Nat) k l, h.blks[b]? = some k → E b = some l → BlkR P E k l w
  low : ∀ (b : Nat) k l, h.blks[b]? = some k → E b = some l → k.own = true → base ≤ l.cb
  ro : ∀ (b : Nat) k l, h.blks[b]? = some k → E b = some l → k.own = false → l.cb < base
  bnd : ∀ (b : Nat) l, E b = some l → l.cb < w.heap.size
  inj : ∀ (b b2 : Nat) k k2 l l2, h.blks[b]? = some k → h.blks[b2]? = some k2 → E b = some l → E b2 = some l2 → k.own = true → k2.own = true → k.live → k2.live → l.cb = l2.cb → b = b2
  glob : GlobW P base w
  base : base ≤ w.heap.size

def Mine (E : Env) (h : Heap) (c : Nat) : Prop := ∃ (b : Nat) (k : Blk) (l : Loc), h.blks[b]? = some k ∧ E b = some l ∧ k.own = true ∧ k.live ∧ l.cb = c

def dr (_ : Nat) : Nat := 0
theorem dr_le {a b : Nat} (h : a ≤ b) : dr a ≤ dr b := Nat.le_refl _
structure Fr (E : Env) (h : Heap) (w w' : World) : Prop where
  os : w'.os = w.os
  tape : w'.tape = w.tape
  output : w'.output = w.output
  size : w.heap.size ≤ w'.heap.size
  blk : ∀ c, c < w.heap.size → ¬ Mine E h c → w'.heap[c]? = w.heap[c]?
  drawn : dr w.drawn ≤ dr w'.drawn

structure Grow (h h' : Heap) : Prop where
  len : h.blks.length ≤ h'.blks.length
  old : ∀ (b : Nat) k, h.blks[b]? = some k → ∃ k', h'.blks[b]? = some k' ∧ (k'.own = k.own ∧ k'.ty = k.ty ∧ k'.body.kind = k.body.kind) ∧ (k'.live → k.live)
  mods : ∃ d, h'.mods = d ++ h.mods ∧ ∀ b, b < h.blks.length → b ∉ d → h'.blks[b]? = h.blks[b]?
  fresh : ∀ (b : Nat) k, h.blks.length ≤ b → h'.blks[b]? = some k → k.body.kind ≠ 2

structure Post (P : Program) [Gl P] (base : Nat) (E : Env) (h : Heap) (w : World) (E' : Env) (h' : Heap) (w' : World) : Prop where
  ext : Ext E E'
  dom : ∀ b, E b = none → E' b ≠ none → h.blks.length ≤ b ∧ b < h'.blks.length
  rel : Rel P base E' h' w'
  fr : Fr E h w w'
  orig : ∀ (b : Nat) k l, E b = none → E' b = some l → h'.blks[b]? = some k → k.own = true → k.live → w.heap.size ≤ l.cb ∨ Mine E h l.cb

theorem Fr.refl (E : Env) (h : Heap) (w : World) : Fr E h w w := ⟨rfl, rfl, rfl, Nat.le_refl _, fun _ _ _ => rfl, Nat.le_refl _⟩
theorem Post.refl {P : Program} [Gl P] {base : Nat} {E : Env} {h : Heap} {w : World} (hR : Rel P base E h w) : Post P base E h w E h w :=
  ⟨Ext.refl _, fun _ h0 h1 => absurd h0 h1, hR, Fr.refl _ _ _, fun b k l h0 h1 => by rw [h0] at h1; cases h1⟩
theorem Grow.refl (h : Heap) : Grow h h := ⟨Nat.le_refl _, fun _ k hk => ⟨k, hk, ⟨rfl, rfl, rfl⟩, id⟩, ⟨[], rfl, fun _ _ _ => rfl⟩, fun b k hb hk => by rw [List.getElem?_eq_none hb] at hk; cases hk⟩
theorem Grow.trans {a b c : Heap} (h : Grow a b) (k : Grow b c) : Grow a c := by
  refine ⟨Nat.le_trans h.len k.len, fun i x hx => ?_, ?_, fun i x hi hx => ?_⟩
  · obtain ⟨y, hy, h1, h2⟩ := h.old i x hx
    obtain ⟨z, hz, h3, h4⟩ := k.old i y hy
    exact ⟨z, hz, ⟨h3.1.trans h1.1, h3.2.1.trans h1.2.1, h3.2.2.trans h1.2.2⟩, h2 ∘ h4⟩
  · obtain ⟨d, hd, h1⟩ := h.mods
    obtain ⟨d', hd', h2⟩ := k.mods
    refine ⟨d' ++ d, by rw [hd', hd, List.append_assoc], fun i hi hn => ?_⟩
    simp only [List.mem_append, not_or] at hn
    rw [h2 i (Nat.lt_of_lt_of_le hi h.len) hn.1, h1 i hi hn.2]
  · rcases Nat.lt_or_ge i b.blks.length with h1 | h1
    · obtain ⟨y, hy, h2, _⟩ := k.old i _ (List.getElem?_eq_getElem h1)
      rw [hx] at hy; cases hy
      rw [h2.2.2]
      exact h.fresh i _ hi (List.getElem?_eq_getElem h1)
    · exact k.fresh i x h1 hx

def Free (E : Env) (h h' : Heap) : Prop := ∀ b, h.blks.length ≤ b → b < h'.blks.length → E b = none

theorem Mine.back {P : Program} [Gl P] {base : Nat} {E E' : Env} {h h' : Heap} {w w' : World} (hp : Post P base E h w E' h' w') (hg : Grow h h') (hfree : Free E h h') {c : Nat} (hc : c < w.heap.size) (hm : Mine E' h' c) : Mine E h c := by
  obtain ⟨b, k, l, hk, hl, ho, hv, rfl⟩ := hm
  cases hb : E b with
  | none => exact (hp.orig b k l hb hl hk ho hv).resolve_left (by omega)
  | some l0 =>
    have := hp.ext b l0 hb
    rw [hl] at this; cases this
    have hlt : b < h.blks.length := by
      rcases Nat.lt_or_ge b h.blks.length with h1 | h1
      · exact h1
      · rw [hfree b h1 (List.getElem?_eq_some_iff.1 hk).1] at hb; cases hb
    obtain ⟨k', hk', h1, h2⟩ := hg.old b _ (List.getElem?_eq_getElem hlt)
    rw [hk] at hk'; cases hk'
    exact ⟨b, _, l, List.getElem?_eq_getElem hlt, hb, by rw [← h1.1]; exact ho, h2 hv, rfl⟩

theorem Fr.trans {P : Program} [Gl P] {base : Nat} {E E' : Env} {h h' : Heap} {w w' w'' : World} (hp : Post P base E h w E' h' w') (hg : Grow h h') (hfree : Free E h h') (hf : Fr E' h' w' w'') : Fr E h w w'' :=
  ⟨hf.os.trans hp.fr.os, hf.tape.trans hp.fr.tape, hf.output.trans hp.fr.output, Nat.le_trans hp.fr.size hf.size, fun c hc hm => by
    rw [hf.blk c (Nat.lt_of_lt_of_le hc hp.fr.size) (fun hm' => hm (Mine.back hp hg hfree hc hm')), hp.fr.blk c hc hm], Nat.le_trans hp.fr.drawn hf.drawn⟩

theorem Free.left {E : Env} {h h1 h2 : Heap} (hf : Free E h h2) (g2 : Grow h1 h2) : Free E h h1 := fun b hb hb' => hf b hb (Nat.lt_of_lt_of_le hb' g2.len)
theorem Free.right {P : Program} [Gl P] {base : Nat} {E E1 : Env} {h h1 h2 : Heap} {w w1 : World} (hf : Free E h h2) (hp : Post P base E h w E1 h1 w1) (g1 : Grow h h1) : Free E1 h1 h2 := by
  intro b hb hb'
  have h0 := hf b (Nat.le_trans g1.len hb) hb'
  cases h1b : E1 b with
  | none => rfl
  | some l => have := (hp.dom b h0 (by rw [h1b]; simp)).2; omega

theorem Post.trans {P : Program} [Gl P] {base : Nat} {E E1 E2 : Env} {h h1 h2 : Heap} {w w1 w2 : World} (p1 : Post P base E h w E1 h1 w1) (p2 : Post P base E1 h1 w1 E2 h2 w2)
    (g1 : Grow h h1) (g2 : Grow h1 h2) (hf : Free E h h2) : Post P base E h w E2 h2 w2 := by
  refine ⟨p1.ext.trans p2.ext, fun b h0 hn => ?_, p2.rel, Fr.trans p1 g1 (hf.left g2) p2.fr, fun b k l h0 h2b hk ho hv => ?_⟩
  · cases h1b : E1 b with
    | none => have := p2.dom b h1b hn; exact ⟨Nat.le_trans g1.len this.1, this.2⟩
    | some l => have := p1.dom b h0 (by rw [h1b]; simp); exact ⟨this.1, Nat.lt_of_lt_of_le this.2 g2.len⟩
  · cases h1b : E1 b with
    | none =>
      rcases p2.orig b k l h1b h2b hk ho hv with h | h
      · exact .inl (Nat.le_trans p1.fr.size h)
      · rcases Nat.lt_or_ge l.cb w.heap.size with hc | hc
        · exact .inr (Mine.back p1 g1 (hf.left g2) hc h)
        · exact .inl hc
    | some l1 =>
      have := p2.ext b l1 h1b
      rw [h2b] at this; cases this
      have hd := p1.dom b h0 (by rw [h1b]; simp)
      obtain ⟨k', hk', e1, e2⟩ := g2.old b _ (List.getElem?_eq_getElem hd.2)
      rw [hk] at hk'; cases hk'
      exact p1.orig b _ l h0 h1b (List.getElem?_eq_getElem hd.2) (by rw [← e1.1]; exact ho) (e2 hv)

theorem cell?_congr {w w' : World} {a : Addr} (h : w'.heap[a.block]? = w.heap[a.block]?) : w'.cell? a = w.cell? a := by simp only [World.cell?, h]
theorem GlobW.keep {P : Program} [Gl P] {base : Nat} {w w' : World} (h : GlobW P base w) (hk : ∀ c, c < base → w'.heap[c]? = w.heap[c]?) : GlobW P base w' := fun g cs e =>
  let ⟨h1, h2⟩ := h g cs e
  ⟨h1, fun i v hi => by rw [cell?_congr (hk g h1)]; exact h2 i v hi⟩
theorem GlobW.fr {P : Program} [Gl P] {base : Nat} {E : Env} {h : Heap} {w w' : World} (hR : Rel P base E h w) (fr : Fr E h w w') : GlobW P base w' :=
  hR.glob.keep fun c hc => fr.blk c (Nat.lt_of_lt_of_le hc hR.base) fun ⟨b, k, l, h1, h2, h3, _, h5⟩ => by have := hR.low b k l h1 h2 h3; omega
theorem BlkR.congr {P : Program} {E E' : Env} {k : Blk} {l : Loc} {w w' : World} (hE : Ext E E') (hw : w'.heap[l.cb]? = w.heap[l.cb]?) (h : BlkR P E k l w) : BlkR P E' k l w' := by
  unfold BlkR at *
  split at h
  · refine ⟨h.1, fun i v hv => ?_, fun ho => ?_⟩
    · obtain ⟨v', h1, h2⟩ := h.2.1 i v hv
      exact ⟨v', by rw [cell?_congr hw]; exact h1, h2.mono hE⟩
    · obtain ⟨cs, e, lo, hi, h1, h2⟩ := h.2.2 ho
      exact ⟨cs, e, lo, hi, by rw [hw]; exact h1, h2⟩
  · obtain ⟨es', clock, h1, h2, h3, h4⟩ := h
    exact ⟨es', clock, by rw [hw]; exact h1, h2, fun i e e' he he' => ⟨(h3 i e e' he he').1.mono hE, (h3 i e e' he he').2.mono hE⟩, h4⟩
  · exact h
  · trivial

theorem BlkR.of_dead {P : Program} {E E' : Env} {k : Blk} {l : Loc} {w w' : World} (h : ¬ k.live) (hb : BlkR P E k l w) : BlkR P E' k l w' := by
  obtain ⟨body, ty, own⟩ := k
  cases body with
  | dead => exact hb
  | gone => exact trivial
  | _ => exact absurd trivial h

def Env.upd (E : Env) (b : Nat) (l : Loc) : Env := fun x => if x = b then some l else E x
theorem Env.upd_ext {E : Env} {b : Nat} {l : Loc} (h : E b = none) : Ext E (E.upd b l) := fun x y hx => by
  unfold Env.upd
  by_cases e : x = b
  · subst e; rw [h] at hx; cases hx
  · rw [if_neg e]; exact hx
theorem Env.upd_same (E : Env) (b : Nat) (l : Loc) : E.upd b l b = some l := by simp [Env.upd]
theorem Env.upd_other (E : Env) {b x : Nat} (l : Loc) (h : x ≠ b) : E.upd b l x = E x := by simp [Env.upd, h]

theorem Heap.new_get {h : Heap} {body : Body} {ty : TypeId} {b : Nat} {k : Blk} (hk : (h.new body ty).blks[b]? = some k) : (b < h.blks.length ∧ h.blks[b]? = some k) ∨ (b = h.blks.length ∧ k = ⟨body, ty, true⟩) := by
  unfold Heap.new at hk
  rcases Nat.lt_or_ge b h.blks.length with hlt | hge
  · rw [List.getElem?_append_left hlt] at hk; exact .inl ⟨hlt, hk⟩
  · rw [List.getElem?_append_right hge] at hk
    have hb : b - h.blks.length = 0 := by
      have := (List.getElem?_eq_some_iff.1 hk).1; simp at this; omega
    rw [hb] at hk
    simp at hk
    exact .inr ⟨by omega, hk.symm⟩
theorem Heap.new_len (h : Heap) (body : Body) (ty : TypeId) : (h.new body ty).blks.length = h.blks.length + 1 := by simp [Heap.new]
theorem Heap.new_old {h : Heap} {body : Body} {ty : TypeId} {b : Nat} (hb : b < h.blks.length) : (h.new body ty).blks[b]? = h.blks[b]? := by
  unfold Heap.new; rw [List.getElem?_append_left hb]
theorem Grow.new (h : Heap) (body : Body) (ty : TypeId) (hb : body.kind ≠ 2) : Grow h (h.new body ty) := by
  refine ⟨by simp [Heap.new], fun b k hk => ⟨k, ?_, ⟨rfl, rfl, rfl⟩, id⟩, ⟨[], rfl, fun b hb _ => Heap.new_old hb⟩, fun b k hb' hk => ?_⟩
  · rw [Heap.new_old (List.getElem?_eq_some_iff.1 hk).1]; exact hk
  · rcases Heap.new_get hk with ⟨h1, _⟩ | ⟨_, rfl⟩
    · omega
    · exact hb
theorem Heap.put_len (h : Heap) (b : Nat) (body : Body) : (h.put b body).blks.length = h.blks.length := by
  unfold Heap.put; split <;> simp
theorem Heap.put_eq {h : Heap} {b : Nat} {k : Blk} (hk : h.blks[b]? = some k) (body : Body) : h.put b body = { blks := h.blks.set b { k with body }, mods := b :: h.mods } := by
  unfold Heap.put; simp only [hk]
theorem Heap.put_same {h : Heap} {b : Nat} {k : Blk} (hk : h.blks[b]? = some k) (body : Body) : (h.put b body).blks[b]? = some { k with body } := by
  rw [Heap.put_eq hk]; simp [(List.getElem?_eq_some_iff.1 hk).1]
theorem Heap.put_other {h : Heap} {b x : Nat} (hx : x ≠ b) (body : Body) : (h.put b body).blks[x]? = h.blks[x]? := by
  unfold Heap.put; split
  · simp [Ne.symm hx]
  · rfl
theorem Grow.put {h : Heap} {b : Nat} {k : Blk} (hk : h.blks[b]? = some k) (hv : k.live) (body : Body) (hm : body.kind = k.body.kind) : Grow h (h.put b body) := by
  refine ⟨by rw [Heap.put_len]; exact Nat.le_refl _, fun x y hy => ?_, ⟨[b], by rw [Heap.put_eq hk]; rfl, fun x hx hn => Heap.put_other (by simpa using hn) body⟩, fun x y hx hy => by
    rw [List.getElem?_eq_none (by rw [Heap.put_len]; exact hx)] at hy; cases hy⟩
  by_cases e : x = b
  · subst e
    rw [hk] at hy; cases hy
    exact ⟨_, Heap.put_same hk body, ⟨rfl, rfl, hm⟩, fun _ => hv⟩
  · exact ⟨y, by rw [Heap.put_other e]; exact hy, ⟨rfl, rfl, rfl⟩, id⟩

structure Pushed (w w' : World) : Prop where
  os : w'.os = w.os
  tape : w'.tape = w.tape
  output : w'.output = w.output
  size : w'.heap.size = w.heap.size + 1
  blk : ∀ c, c < w.heap.size → w'.heap[c]? = w.heap[c]?
  drawn : w.drawn ≤ w'.drawn
theorem Post.new {P : Program} [Gl P] {base : Nat} {E : Env} {h : Heap} {w w' : World} (hR : Rel P base E h w) (hf : E h.blks.length = none) (body : Body) (ty : TypeId) (l : Loc) (hl : l.cb = w.heap.size) (hw : Pushed w w')
    (hb : BlkR P E ⟨body, ty, true⟩ l w') : Post P base E h w (E.upd h.blks.length l) (h.new body ty) w' := by
  have hext := Env.upd_ext (l := l) hf
  have hE : ∀ b l', E.upd h.blks.length l b = some l' → (b = h.blks.length ∧ l' = l) ∨ (b ≠ h.blks.length ∧ E b = some l') := fun b l' he => by
    by_cases e : b = h.blks.length
    · subst e; rw [Env.upd_same] at he; cases he; exact .inl ⟨rfl, rfl⟩
    · rw [Env.upd_other _ _ e] at he; exact .inr ⟨e, he⟩
  refine ⟨hext, fun b h0 hn => ?_, ⟨fun b k l' hk he => ?_, fun b k l' hk he ho => ?_, fun b k l' hk he ho => ?_, fun b l' he => ?_, fun b b2 k k2 l1 l2 hk hk2 he he2 ho ho2 hv hv2 hc => ?_, hR.glob.keep fun c hc => hw.blk c (Nat.lt_of_lt_of_le hc hR.base), by rw [hw.size]; have := hR.base; omega⟩,
    ⟨hw.os, hw.tape, hw.output, by rw [hw.size]; omega, fun c hc _ => hw.blk c hc, dr_le hw.drawn⟩, fun b k l' h0 he hk ho hv => ?_⟩
  · by_cases e : b = h.blks.length
    · subst e; exact ⟨Nat.le_refl _, by rw [Heap.new_len]; omega⟩
    · rw [Env.upd_other _ _ e] at hn; exact absurd h0 hn
  · rcases Heap.new_get hk with ⟨hlt, hk⟩ | ⟨rfl, rfl⟩
    · rcases hE b l' he with ⟨rfl, _⟩ | ⟨_, he⟩
      · omega
      · exact (hR.blk b k l' hk he).congr hext (hw.blk _ (hR.bnd b l' he))
    · rw [Env.upd_same] at he; cases he
      exact hb.congr hext rfl
  · rcases Heap.new_get hk with ⟨hlt, hk⟩ | ⟨rfl, rfl⟩
    · rcases hE b l' he with ⟨rfl, _⟩ | ⟨_, he⟩
      · omega
      · exact hR.low b k l' hk he ho
    · rw [Env.upd_same] at he; cases he; rw [hl]; exact hR.base
  · rcases Heap.new_get hk with ⟨hlt, hk⟩ | ⟨rfl, rfl⟩
    · rcases hE b l' he with ⟨rfl, _⟩ | ⟨_, he⟩
      · omega
      · exact hR.ro b k l' hk he ho
    · cases ho
  · rcases hE b l' he with ⟨rfl, rfl⟩ | ⟨_, he⟩
    · rw [hl, hw.size]; omega
    · have := hR.bnd b l' he; rw [hw.size]; omega
  · rcases Heap.new_get hk with ⟨hlt, hk⟩ | ⟨rfl, rfl⟩ <;> rcases Heap.new_get hk2 with ⟨hlt2, hk2⟩ | ⟨rfl, rfl⟩
    · rcases hE b l1 he with ⟨rfl, _⟩ | ⟨_, he⟩
      · omega
      · rcases hE b2 l2 he2 with ⟨rfl, _⟩ | ⟨_, he2⟩
        · omega
        · exact hR.inj b b2 k k2 l1 l2 hk hk2 he he2 ho ho2 hv hv2 hc
    · rw [Env.upd_same] at he2; cases he2
      rcases hE b l1 he with ⟨rfl, _⟩ | ⟨_, he⟩
      · rfl
      · have := hR.bnd b l1 he; omega
    · rw [Env.upd_same] at he; cases he
      rcases hE b2 l2 he2 with ⟨rfl, _⟩ | ⟨_, he2⟩
      · rfl
      · have := hR.bnd b2 l2 he2; omega
    · rfl
  · rcases hE b l' he with ⟨rfl, rfl⟩ | ⟨_, he⟩
    · left; rw [hl]; exact Nat.le_refl _
    · rw [h0] at he; cases he

structure Wrote (c0 : Nat) (w w' : World) : Prop where
  os : w'.os = w.os
  tape : w'.tape = w.tape
  output : w'.output = w.output
  size : w'.heap.size = w.heap.size
  blk : ∀ c, c ≠ c0 → w'.heap[c]? = w.heap[c]?
  drawn : w.drawn ≤ w'.drawn
theorem Post.put {P : Program} [Gl P] {base : Nat} {E : Env} {h : Heap} {w w' : World} (hR : Rel P base E h w) {b : Nat} {k : Blk} {l : Loc} (hk : h.blks[b]? = some k) (hl : E b = some l) (ho : k.own = true) (hv : k.live)
    (body : Body) (hw : Wrote l.cb w w') (hb : BlkR P E { k with body } l w') : Post P base E h w E (h.put b body) w' := by
  have hget : ∀ x y, (h.put b body).blks[x]? = some y → (x = b ∧ y = { k with body }) ∨ (x ≠ b ∧ h.blks[x]? = some y) := fun x y hx => by
    by_cases e : x = b
    · subst e; rw [Heap.put_same hk] at hx; cases hx; exact .inl ⟨rfl, rfl⟩
    · rw [Heap.put_other e] at hx; exact .inr ⟨e, hx⟩
  refine ⟨Ext.refl _, fun x h0 hn => absurd h0 hn, ⟨fun x y l' hx he => ?_, fun x y l' hx he ho' => ?_, fun x y l' hx he ho' => ?_, fun x l' he => by rw [hw.size]; exact hR.bnd x l' he, fun x x2 y y2 l1 l2 hx hx2 he he2 ho1 ho2 hv1 hv2 hc => ?_, hR.glob.keep fun c hc => hw.blk c (fun e => by have := hR.low b k l hk hl ho; omega), by rw [hw.size]; exact hR.base⟩,
    ⟨hw.os, hw.tape, hw.output, by rw [hw.size]; exact Nat.le_refl _, fun c hc hm => hw.blk c (fun e => hm ⟨b, k, l, hk, hl, ho, hv, e.symm⟩), dr_le hw.drawn⟩, fun x y l' h0 he => by rw [h0] at he; cases he⟩
  · rcases hget x y hx with ⟨rfl, rfl⟩ | ⟨hne, hx⟩
    · rw [hl] at he; cases he; exact hb
    · have old := hR.blk x y l' hx he
      by_cases hc : l'.cb = l.cb
      · -- another block in the same concrete block: it is dead, or it is not the call's own
        by_cases hyv : y.live
        · cases hyo : y.own with
          | true => exact absurd (hR.inj x b y k l' l hx hk he hl hyo ho hyv hv hc) hne
          | false => have := hR.ro x y l' hx he hyo; have := hR.low b k l hk hl ho; omega
        · exact BlkR.of_dead hyv old
      · exact old.congr (Ext.refl _) (hw.blk _ hc)
  · rcases hget x y hx with ⟨rfl, rfl⟩ | ⟨hne, hx⟩
    · rw [hl] at he; cases he; exact hR.low _ k l hk hl ho
    · exact hR.low x y l' hx he ho'
  · rcases hget x y hx with ⟨rfl, rfl⟩ | ⟨hne, hx⟩
    · exact absurd ho' (by simp [ho])
    · exact hR.ro x y l' hx he ho'
  · rcases hget x y hx with ⟨e1, e2⟩ | ⟨hne, hx'⟩ <;> rcases hget x2 y2 hx2 with ⟨e3, e4⟩ | ⟨hne2, hx2'⟩
    · rw [e1, e3]
    · rw [e1, hl] at he; cases he
      rw [e1]; exact hR.inj b x2 k y2 l l2 hk hx2' hl he2 ho ho2 hv hv2 hc
    · rw [e3, hl] at he2; cases he2
      rw [e3]; exact hR.inj x b y k l1 l hx' hk he hl ho1 ho hv1 hv hc
    · exact hR.inj x x2 y y2 l1 l2 hx' hx2' he he2 ho1 ho2 hv1 hv2 hc

theorem Post.alias {P : Program} [Gl P] {base : Nat} {E : Env} {h : Heap} {w w' : World} (hR : Rel P base E h w) (hf : E h.blks.length = none) {b : Nat} {k : Blk} {l0 : Loc} (hk : h.blks[b]? = some k) (hl0 : E b = some l0) (ho : k.own = true) (hv : k.live) (hes : sizeT P k.ty = some l0.es)
    (body : Body) (ty : TypeId) (l : Loc) (hl : l.cb = l0.cb) (hw : Wrote l.cb w w') (hb : BlkR P E ⟨body, ty, true⟩ l w') : Post P base E h w (E.upd h.blks.length l) ((h.put b .dead).new body ty) w' := by
  have hlen : (h.put b .dead).blks.length = h.blks.length := Heap.put_len _ _ _
  have hext := Env.upd_ext (l := l) hf
  have hE : ∀ x l', E.upd h.blks.length l x = some l' → (x = h.blks.length ∧ l' = l) ∨ (x ≠ h.blks.length ∧ E x = some l') := fun x l' he => by
    by_cases e : x = h.blks.length
    · subst e; rw [Env.upd_same] at he; cases he; exact .inl ⟨rfl, rfl⟩
    · rw [Env.upd_other _ _ e] at he; exact .inr ⟨e, he⟩
  -- the blocks: an old one, the dead one, the new one
  have hget : ∀ x y, ((h.put b .dead).new body ty).blks[x]? = some y → (x = h.blks.length ∧ y = ⟨body, ty, true⟩) ∨ (x < h.blks.length ∧ x = b ∧ y = { k with body := .dead }) ∨ (x < h.blks.length ∧ x ≠ b ∧ h.blks[x]? = some y) := fun x y hx => by
    rcases Heap.new_get hx with ⟨hlt, hx⟩ | ⟨rfl, rfl⟩
    · rw [hlen] at hlt
      by_cases e : x = b
      · subst e; rw [Heap.put_same hk] at hx; cases hx; exact .inr (.inl ⟨hlt, rfl, rfl⟩)
      · rw [Heap.put_other e] at hx; exact .inr (.inr ⟨hlt, e, hx⟩)
    · exact .inl ⟨hlen, rfl⟩
  have hdead : ¬ ({ k with body := .dead } : Blk).live := fun h => h
  refine ⟨hext, fun x h0 hn => ?_, ⟨fun x y l' hx he => ?_, fun x y l' hx he ho' => ?_, fun x y l' hx he ho' => ?_, fun x l' he => ?_, fun x x2 y y2 l1 l2 hx hx2 he he2 ho1 ho2 hv1 hv2 hc => ?_, hR.glob.keep fun c hc => hw.blk c (fun e => by have := hR.low b k l0 hk hl0 ho; omega), by rw [hw.size]; exact hR.base⟩,
    ⟨hw.os, hw.tape, hw.output, by rw [hw.size]; exact Nat.le_refl _, fun c hc hm => hw.blk c (fun e => hm ⟨b, k, l0, hk, hl0, ho, hv, by rw [e, hl]⟩), dr_le hw.drawn⟩, fun x y l' h0 he hx ho' hv' => ?_⟩
  · by_cases e : x = h.blks.length
    · subst e; exact ⟨Nat.le_refl _, by rw [Heap.new_len, hlen]; omega⟩
    · rw [Env.upd_other _ _ e] at hn; exact absurd h0 hn
  · rcases hget x y hx with ⟨rfl, rfl⟩ | ⟨hlt, rfl, rfl⟩ | ⟨hlt, hne, hx⟩
    · rw [Env.upd_same] at he; cases he; exact hb.congr hext rfl
    · rcases hE x l' he with ⟨rfl, _⟩ | ⟨_, he⟩
      · omega
      · rw [hl0] at he; cases he; exact hes
    · rcases hE x l' he with ⟨rfl, _⟩ | ⟨_, he⟩
      · omega
      · by_cases hc : l'.cb = l.cb
        · by_cases hyv : y.live
          · cases hyo : y.own with
            | true => exact absurd (hR.inj x b y k l' l0 hx hk he hl0 hyo ho hyv hv (hc.trans hl)) hne
            | false => have := hR.ro x y l' hx he hyo; have := hR.low b k l0 hk hl0 ho; omega
          · exact BlkR.of_dead hyv (hR.blk x y l' hx he)
        · exact (hR.blk x y l' hx he).congr hext (hw.blk _ hc)
  · rcases hget x y hx with ⟨rfl, rfl⟩ | ⟨hlt, rfl, rfl⟩ | ⟨hlt, hne, hx⟩
    · rw [Env.upd_same] at he; cases he; rw [hl]; exact hR.low b k l0 hk hl0 ho
    · rcases hE x l' he with ⟨rfl, _⟩ | ⟨_, he⟩
      · omega
      · exact hR.low x k l' hk he ho
    · rcases hE x l' he with ⟨rfl, _⟩ | ⟨_, he⟩
      · omega
      · exact hR.low x y l' hx he ho'
  · rcases hget x y hx with ⟨rfl, rfl⟩ | ⟨hlt, rfl, rfl⟩ | ⟨hlt, hne, hx⟩
    · cases ho'
    · exact absurd ho' (by simp [ho])
    · rcases hE x l' he with ⟨rfl, _⟩ | ⟨_, he⟩
      · omega
      · exact hR.ro x y l' hx he ho'
  · rcases hE x l' he with ⟨rfl, rfl⟩ | ⟨_, he⟩
    · rw [hl, hw.size]; exact hR.bnd b l0 hl0
    · rw [hw.size]; exact hR.bnd x l' he
  · rcases hget x y hx with ⟨rfl, rfl⟩ | ⟨hlt, rfl, rfl⟩ | ⟨hlt, hne, hx⟩ <;> rcases hget x2 y2 hx2 with ⟨rfl, rfl⟩ | ⟨hlt2, rfl, rfl⟩ | ⟨hlt2, hne2, hx2⟩
    · rfl
    · exact absurd hv2 hdead
    · rw [Env.upd_same] at he; cases he
      rcases hE x2 l2 he2 with ⟨rfl, _⟩ | ⟨_, he2⟩
      · omega
      · exact absurd (hR.inj x2 b y2 k l2 l0 hx2 hk he2 hl0 ho2 ho hv2 hv (by omega)) hne2
    · exact absurd hv1 hdead
    · rfl
    · exact absurd hv1 hdead
    · rw [Env.upd_same] at he2; cases he2
      rcases hE x l1 he with ⟨rfl, _⟩ | ⟨_, he⟩
      · omega
      · exact absurd (hR.inj x b y k l1 l0 hx hk he hl0 ho1 ho hv1 hv (by omega)) hne
    · exact absurd hv2 hdead
    · rcases hE x l1 he with ⟨rfl, _⟩ | ⟨_, he⟩
      · omega
      · rcases hE x2 l2 he2 with ⟨rfl, _⟩ | ⟨_, he2⟩
        · omega
        · exact hR.inj x x2 y y2 l1 l2 hx hx2 he he2 ho1 ho2 hv1 hv2 hc
  · rcases hE x l' he with ⟨rfl, rfl⟩ | ⟨_, he⟩
    · right; exact ⟨b, k, l0, hk, hl0, ho, hv, hl.symm⟩
    · rw [h0] at he; cases he
theorem Grow.alias {h : Heap} {b : Nat} {k : Blk} (hk : h.blks[b]? = some k) (hv : k.live) (hm : k.body.kind = 0) (body : Body) (ty : TypeId) (hb : body.kind ≠ 2) : Grow h ((h.put b .dead).new body ty) :=
  (Grow.put hk hv .dead hm.symm).trans (Grow.new _ _ _ hb)
end Go.Am
set_option linter.unusedSimpArgs false
set_option linter.unusedVariables false
namespace Go.Am
variable {P : Program} [Gl P] {base : Nat} {E : Env} {h : Heap} {w : World}

theorem run_sizeT {t : TypeId} {n : Nat} (hn : sizeT P t = some n) (w : World) : (sizeOf t).run P w = .ok n w := by
  unfold sizeT at hn
  cases hi : P.info? t with
  | none => simp [hi] at hn
  | some i => simp [hi] at hn; simp [sizeOf, typeInfo, hi, hn]
theorem run_zeroT {t : TypeId} {z : Value} (hn : zeroT P t = some z) (w : World) : (zeroValue t).run P w = .ok z w := by
  unfold zeroT at hn
  cases hi : P.info? t with
  | none => simp [hi] at hn
  | some i => simp [hi] at hn; simp [zeroValue, typeInfo, hi, hn]
theorem run_bytesT {t : TypeId} {n : Nat} (hn : bytesT P t = some n) (w : World) : ∃ i, (typeInfo t).run P w = .ok i w ∧ i.bytes = n := by
  unfold bytesT at hn
  cases hi : P.info? t with
  | none => simp [hi] at hn
  | some i => simp [hi] at hn; exact ⟨i, by simp [typeInfo, hi], hn⟩
theorem run_under {t : TypeId} {d : TypeDesc} (hn : P.underlying t = some d) (w : World) : (underlying t).run P w = .ok d w := by
  simp [underlying, hn]
theorem run_isAggT {t : TypeId} {b : Bool} (hn : isAggT P t = some b) (w : World) : (isAgg t).run P w = .ok b w := by
  unfold isAggT at hn
  cases hi : P.underlying t with
  | none => simp [hi] at hn
  | some d =>
    simp only [hi] at hn
    cases d <;> simp at hn <;> subst hn <;> simp [isAgg, run_under hi]

theorem add_none (b o i : Nat) : (⟨b, o, none⟩ : Addr).add i = ⟨b, o + i, none⟩ := by
  unfold Addr.add; split <;> simp_all

theorem VR.ptr_inv {x' : Value} {b o : Nat} (h : VR E (.pointer (some ⟨b, o, none⟩)) x') : ∃ l, E b = some l ∧ x' = .pointer (some ⟨l.cb, l.s + o, none⟩) := by
  cases h with
  | ptr h => exact ⟨_, h, rfl⟩

theorem cells_read (hR : Rel P base E h w) {b : Nat} {l : Loc} {cs : List Value} (hc : h.cells? b = some cs) (hl : E b = some l) (i : Nat) (v : Value) (hv : cs[i]? = some v) : ∃ v', w.cell? ⟨l.cb, l.s + i, none⟩ = some v' ∧ VR E v v' := by
  unfold Heap.cells? at hc
  cases hk : h.blks[b]? with
  | none => simp [hk] at hc
  | some k =>
    obtain ⟨body, ty, own⟩ := k
    simp only [hk] at hc
    cases body with
    | cells c => simp at hc; subst hc; exact (hR.blk b _ l hk hl).2.1 i v hv
    | _ => simp at hc
theorem load1_read (hR : Rel P base E h w) {b o : Nat} {l : Loc} {v : Value} (hc : h.load1 b o = some v) (hl : E b = some l) : ∃ v', w.cell? ⟨l.cb, l.s + o, none⟩ = some v' ∧ VR E v v' := by
  unfold Heap.load1 at hc
  cases hk : h.cells? b with
  | none => simp [hk] at hc
  | some cs => simp [hk] at hc; exact cells_read hR hk hl o v hc
theorem loadN_len {h : Heap} {b o n : Nat} {cs : List Value} (hc : h.loadN b o n = some cs) : cs.length = n := by
  unfold Heap.loadN at hc
  cases hk : h.cells? b with
  | none => simp [hk] at hc
  | some c =>
    simp only [hk] at hc
    split at hc
    · simp at hc; subst hc; simp; omega
    · cases hc
theorem loadN_read (hR : Rel P base E h w) {b o n : Nat} {l : Loc} {cs : List Value} (hc : h.loadN b o n = some cs) (hl : E b = some l) :
    ∃ cs' : List Value, LRel E cs cs' ∧ ∀ (j : Nat) v', cs'[j]? = some v' → w.cell? ⟨l.cb, l.s + (o + j), none⟩ = some v' := by
  have hall : ∀ (j : Nat) v, cs[j]? = some v → ∃ v', w.cell? ⟨l.cb, l.s + (o + j), none⟩ = some v' ∧ VR E v v' := by
    unfold Heap.loadN at hc
    cases hk : h.cells? b with
    | none => simp [hk] at hc
    | some c =>
      simp only [hk] at hc
      split at hc
      · simp at hc; subst hc
        intro j v hv
        rw [List.getElem?_take] at hv
        split at hv
        · rw [List.getElem?_drop] at hv; exact cells_read hR hk hl (o + j) v hv
        · cases hv
      · cases hc
  clear hc
  have key : ∀ (cs : List Value) (o : Nat), (∀ (j : Nat) v, cs[j]? = some v → ∃ v', w.cell? ⟨l.cb, l.s + (o + j), none⟩ = some v' ∧ VR E v v') →
      ∃ cs' : List Value, LRel E cs cs' ∧ ∀ (j : Nat) v', cs'[j]? = some v' → w.cell? ⟨l.cb, l.s + (o + j), none⟩ = some v' := by
    intro cs
    induction cs with
    | nil => exact fun _ _ => ⟨[], ⟨rfl, fun i v hv => by simp at hv⟩, fun i v hv => by simp at hv⟩
    | cons c cs ih =>
      intro o hall
      obtain ⟨v0, h0, r0⟩ := hall 0 c rfl
      obtain ⟨cs', hr, hc⟩ := ih (o + 1) fun j v hv => by
        have := hall (j + 1) v (by simpa using hv)
        rwa [show o + (j + 1) = o + 1 + j by omega] at this
      refine ⟨v0 :: cs', ⟨by simp [hr.1], fun i v hv => ?_⟩, fun i v hv => ?_⟩
      · cases i with
        | zero => simp at hv; subst hv; exact ⟨v0, rfl, r0⟩
        | succ i => simpa using hr.2 i v (by simpa using hv)
      · cases i with
        | zero => simp at hv; subst hv; simpa using h0
        | succ i => rw [show o + (i + 1) = o + 1 + i by omega]; exact hc i v (by simpa using hv)
  exact key cs o hall
theorem run_loadN (hR : Rel P base E h w) {b o n : Nat} {l : Loc} {cs : List Value} (hc : h.loadN b o n = some cs) (hl : E b = some l) :
    ∃ cs' : List Value, LRel E cs cs' ∧ cs'.length = n ∧ (loadCells ⟨l.cb, l.s + o, none⟩ n).run P w = .ok cs'.toArray w := by
  obtain ⟨cs', hr, hcell⟩ := loadN_read hR hc hl
  have hlen := loadN_len hc
  have hn : cs'.length = n := by rw [← hr.1]; exact hlen
  refine ⟨cs', hr, hn, ?_⟩
  subst hn
  refine run_loadCells_list w _ cs' fun j v hv => ?_
  rw [add_none, Nat.add_assoc]; exact hcell j v hv

theorem LRel.arr {cs cs' : List Value} (hr : LRel E cs cs') : ARel E cs.toArray cs'.toArray := by
  refine ⟨by simpa using hr.1, fun i h1 h2 => ?_⟩
  simp at h1 h2
  obtain ⟨v', hv', hr'⟩ := hr.2 i cs[i] (List.getElem?_eq_getElem h1)
  rw [List.getElem?_eq_getElem h2] at hv'
  simp at hv' ⊢
  rw [hv']; exact hr'
theorem ARel.list {a a' : Array Value} (hr : ARel E a a') : LRel E a.toList a'.toList := by
  refine ⟨by simpa using hr.1, fun i v hv => ?_⟩
  obtain ⟨hi, rfl⟩ := List.getElem?_eq_some_iff.1 hv
  simp at hi
  have hi' : i < a'.size := hr.1 ▸ hi
  exact ⟨a'[i], by simp [hi'], by simpa using hr.2 i hi hi'⟩
theorem VR.aggL {cs cs' : List Value} (hr : LRel E cs cs') : VR E (.agg cs.toArray) (.agg cs'.toArray) := .agg hr.arr.1 hr.arr.2

theorem loadV_run (hR : Rel P base E h w) {t : TypeId} {x x' v : Value} (hv : loadV P t x h = some v) (hx : VR E x x') : ∃ v', (Instr.loadAt t x').run P w = .ok v' w ∧ VR E v v' := by
  unfold loadV at hv
  split at hv
  · rename_i b o
    obtain ⟨l, hl, rfl⟩ := hx.ptr_inv
    split at hv
    · rename_i n h1 h2
      cases hc : h.loadN b o n with
      | none => simp [hc] at hv
      | some cs =>
        simp [hc] at hv; subst hv
        obtain ⟨cs', hr, hn, hrun⟩ := run_loadN hR hc hl
        exact ⟨.agg cs'.toArray, by simp [Instr.loadAt, Instr.sureAddr, loadVar, run_isAggT h1, run_sizeT h2, hrun], VR.aggL hr⟩
    · rename_i h1
      obtain ⟨v', hc, hr⟩ := load1_read hR hv hl
      exact ⟨v', by simp [Instr.loadAt, Instr.sureAddr, loadVar, run_isAggT h1, hc], hr⟩
    · cases hv
  · cases hv

theorem setCells_block (b : Nat) : ∀ (vs : List Value) (o : Nat) (w : World) {c : Array Value} {e : TypeId} {fr : Nat × Nat}, w.heap[b]? = some (.cells c e fr) →
    ∃ c', (w.setCells b o vs).heap[b]? = some (.cells c' e fr) ∧ c'.size = c.size
  | [], _, _, c, _, _, h => ⟨c, h, rfl⟩
  | v :: r, o, w, c, e, fr, h => by
    have h1 : (w.setCell ⟨b, o, none⟩ v).heap[b]? = some (.cells (c.setIfInBounds o v) e fr) := by
      simp [World.setCell, Array.getElem?_modify, h]
    obtain ⟨c', h2, h3⟩ := setCells_block b r (o + 1) _ h1
    exact ⟨c', h2, by simpa using h3⟩
theorem setCells_far (b : Nat) : ∀ (vs : List Value) (o : Nat) (w : World), Wrote b w (w.setCells b o vs)
  | [], _, w => ⟨rfl, rfl, rfl, rfl, fun _ _ => rfl, Nat.le_refl _⟩
  | v :: r, o, w => by
    have ih := setCells_far b r (o + 1) (w.setCell ⟨b, o, none⟩ v)
    refine ⟨ih.os, ih.tape, ih.output, by rw [World.setCells, ih.size]; simp [World.setCell], fun c hc => ?_, ih.drawn⟩
    rw [World.setCells, ih.blk c hc]
    simp only [World.setCell, Array.getElem?_modify]
    rw [if_neg (Ne.symm hc)]

theorem storeN_run (hR : Rel P base E h w) {b o : Nat} {vs vs' : List Value} {h' : Heap} {l : Loc} (hs : h.storeN b o vs = some h') (hl : E b = some l) (hv : LRel E vs vs') (h1 : vs.all Value.oneCell' = true) :
    ∃ w', (storeCells ⟨l.cb, l.s + o, none⟩ vs').run P w = .ok () w' ∧ Post P base E h w E h' w' := by
  unfold Heap.storeN at hs
  split at hs
  · rename_i cs ty hk
    split at hs
    · rename_i hle
      simp only [Option.some.injEq] at hs
      subst hs
      have hblk := hR.blk b _ l hk hl
      obtain ⟨c, e, lo, hi, hheap, hsz, hes, hfz⟩ := hblk.2.2 rfl
      have hcell : ∀ j, j < vs'.length → (w.cell? ⟨l.cb, l.s + o + j, none⟩).isSome = true := fun j hj => by
        have hj' : j < vs.length := hv.1 ▸ hj
        obtain ⟨v', hv', _⟩ := hblk.2.1 (o + j) cs[o + j] (List.getElem?_eq_getElem (by omega))
        rw [← Nat.add_assoc] at hv'
        simp [hv']
      have hbnd : ∀ j, j < vs'.length → l.s + o + j < c.size := fun j hj => by
        have := hcell j hj
        simp only [World.cell?, hheap] at this
        simp at this
        omega
      have hfz' : ∀ j, j < vs'.length → w.frozen? ⟨l.cb, l.s + o + j, none⟩ = false := fun j hj => by
        have := hbnd j hj
        simp only [World.frozen?, hheap]
        simp
        omega
      have h1' : ∀ v ∈ vs', v.oneCell' = true := fun v hm => by
        obtain ⟨j, hj, rfl⟩ := List.getElem_of_mem hm
        have hj' : j < vs.length := hv.1 ▸ hj
        obtain ⟨v', hv', hr⟩ := hv.2 j vs[j] (List.getElem?_eq_getElem hj')
        rw [List.getElem?_eq_getElem hj] at hv'
        simp at hv'
        rw [hv', hr.oneCell]
        exact List.all_eq_true.1 h1 _ (List.getElem_mem hj')
      refine ⟨w.setCells l.cb (l.s + o) vs', ?_, ?_⟩
      · have := run_storeCells_cells (P := P) l.cb (l.s + o) vs' 0 w (by simpa using hcell) (by simpa using hfz') h1'
        simpa using this
      · refine Post.put hR hk hl rfl trivial _ (setCells_far _ _ _ _) ⟨hblk.1, fun i v hi' => ?_, fun _ => ?_⟩
        · -- what stands in the cell now
          by_cases hin : o ≤ i ∧ i < o + vs.length
          · have hj : i - o < vs.length := by omega
            have e1 : (List.take o cs ++ vs ++ List.drop (o + vs.length) cs)[i]? = vs[i - o]? := by
              rw [List.getElem?_append_left (by simp; omega), List.getElem?_append_right (by simp; omega)]
              congr 1; simp; omega
            rw [e1] at hi'
            obtain ⟨v', hv', hr⟩ := hv.2 (i - o) v hi'
            have hj' : i - o < vs'.length := hv.1 ▸ hj
            have := World.cell?_setCells_in l.cb vs' (l.s + o) w hcell (i - o) hj'
            rw [show l.s + o + (i - o) = l.s + i by omega] at this
            rw [List.getElem?_eq_getElem hj'] at hv'
            exact ⟨v', by rw [this]; exact hv', hr⟩
          · have e1 : (List.take o cs ++ vs ++ List.drop (o + vs.length) cs)[i]? = cs[i]? := by
              rcases Nat.lt_or_ge i o with h2 | h2
              · rw [List.append_assoc, List.getElem?_append_left (by simp; omega), List.getElem?_take, if_pos h2]
              · rw [List.getElem?_append_right (by simp; omega), List.getElem?_drop]
                congr 1; simp; omega
            rw [e1] at hi'
            obtain ⟨v', hv', hr⟩ := hblk.2.1 i v hi'
            refine ⟨v', ?_, hr⟩
            rw [World.cell?_setCells_out l.cb vs' (l.s + o) w _ (fun _ _ => by simp only; rw [← hv.1]; omega)]
            exact hv'
        · obtain ⟨c', hb', hs'⟩ := setCells_block l.cb vs' (l.s + o) w hheap
          exact ⟨c', e, lo, hi, hb', by rw [hs', hsz], hes, hfz⟩
    · cases hs
  · cases hs

theorem storeN_grow {b o : Nat} {vs : List Value} {h' : Heap} (hs : h.storeN b o vs = some h') : Grow h h' := by
  unfold Heap.storeN at hs
  split at hs
  · rename_i cs ty hk
    split at hs
    · simp at hs; subst hs; exact Grow.put hk trivial _ rfl
    · cases hs
  · cases hs

theorem storeV_run (hR : Rel P base E h w) {t : TypeId} {x x' v v' : Value} {h' : Heap} (hs : storeV P t x v h = some h') (hx : VR E x x') (hv : VR E v v') :
    ∃ w', (Instr.storeAt t x' v').run P w = .ok () w' ∧ Post P base E h w E h' w' := by
  unfold storeV at hs
  split at hs
  · rename_i b o
    obtain ⟨l, hl, rfl⟩ := hx.ptr_inv
    split at hs
    · rename_i n hn
      split at hs
      · rename_i hc
        obtain ⟨w', hw, hp⟩ := storeN_run hR hs hl (ARel.cells hv).list (by simpa using hc.2)
        refine ⟨w', ?_, hp⟩
        have hsz : v'.cells.size = n := by rw [← (ARel.cells hv).1]; exact hc.1
        simp [Instr.storeAt, Instr.sureAddr, storeVar, run_sizeT hn, hsz, hw]
      · cases hs
    · cases hs
  · cases hs

theorem pushed (w : World) (o : Obj) (n : Nat) (hn : w.drawn ≤ n) : Pushed w { w with heap := w.heap.push o, drawn := n } :=
  ⟨rfl, rfl, rfl, by simp, fun c hc => by simp only [Array.getElem?_push]; rw [if_neg (by omega)], hn⟩
theorem pushed_get (w : World) (o : Obj) : (w.heap.push o)[w.heap.size]? = some o := by simp
theorem row_new (hR : Rel P base E h w) (hf : E h.blks.length = none) {ty : TypeId} {cs cs' rest : List Value} {es : Nat} (hes : sizeT P ty = some es) (hr : LRel E cs cs') (w' : World) (hw : Pushed w w') (lo hi : Nat)
    (hh : w'.heap[w.heap.size]? = some (.cells (cs' ++ rest).toArray ty (lo, hi))) (hfz : lo = hi ∨ cs'.length + rest.length ≤ lo ∧ es = 1) :
    Post P base E h w (E.upd h.blks.length ⟨w.heap.size, 0, cs'.length + rest.length, es⟩) (h.new (.cells cs) ty) w' := by
  refine Post.new hR hf (.cells cs) ty ⟨w.heap.size, 0, cs'.length + rest.length, es⟩ rfl hw ⟨hes, fun i v hv => ?_, fun _ => ⟨_, ty, lo, hi, hh, by simp, hes, hfz⟩⟩
  obtain ⟨v', hv', hrv⟩ := hr.2 i v hv
  refine ⟨v', ?_, hrv⟩
  simp only [World.cell?, hh]
  have hi' := (List.getElem?_eq_some_iff.1 hv').1
  simp [List.getElem?_append_left hi', hv']

theorem newV_run (hR : Rel P base E h w) (hf : E h.blks.length = none) {t : TypeId} {v v' : Value} {es : Nat} (hes : sizeT P t = some es) (hv : VR E v v') :
    ∃ E' w' a, (newVar t v').run P w = .ok a w' ∧ Post P base E h w E' (newV t v.cells.toList h).2 w' ∧ VR E' (newV t v.cells.toList h).1 (.pointer (some a)) := by
  refine ⟨_, _, _, rfl, row_new (rest := []) hR hf hes (ARel.cells hv).list _ (pushed w (.cells v'.cells t) w.drawn (Nat.le_refl _)) 0 0 (by simp) (by simp), ?_⟩
  have : VR (E.upd h.blks.length ⟨w.heap.size, 0, v'.cells.toList.length + ([] : List Value).length, es⟩) (.pointer (some ⟨h.blks.length, 0, none⟩)) (.pointer (some ⟨w.heap.size, 0 + 0, none⟩)) := .ptr (Env.upd_same _ _ _)
  exact this
end Go.Am
set_option linter.unusedSimpArgs false
set_option linter.unusedVariables false
namespace Go.Am
variable {P : Program} [Gl P] {base : Nat} {E : Env} {h : Heap} {w : World}

theorem ARel.extract {a a' : Array Value} (hr : ARel E a a') (i j : Nat) : ARel E (a.extract i j) (a'.extract i j) := by
  refine ⟨by simp [hr.1], fun k h1 h2 => ?_⟩
  simp only [Array.getElem_extract]
  exact hr.2 _ _ _
theorem partV_run {t : TypeId} {cs cs' : Array Value} {off : Nat} {v : Value} (hv : partV P t cs off = some v) (hr : ARel E cs cs') : ∃ v', (∀ w, (part t cs' off).run P w = .ok v' w) ∧ VR E v v' := by
  unfold partV at hv
  split at hv
  · rename_i n h1 h2
    simp at hv; subst hv
    exact ⟨_, fun w => by simp [part, run_isAggT h1, run_sizeT h2], .agg (hr.extract _ _).1 (hr.extract _ _).2⟩
  · rename_i h1
    obtain ⟨hi, rfl⟩ := Array.getElem?_eq_some_iff.1 hv
    have hi' : off < cs'.size := hr.1 ▸ hi
    exact ⟨cs'[off], fun w => by simp [part, run_isAggT h1, hi'], hr.2 off hi hi'⟩
  · cases hv
theorem VR.agg_inv {cs : Array Value} {x' : Value} (h : VR E (.agg cs) x') : ∃ cs', x' = .agg cs' ∧ ARel E cs cs' := by
  cases h with
  | agg hs h => exact ⟨_, rfl, hs, h⟩
theorem VR.int_inv {k : IntKind} {n : Int} {x' : Value} (h : VR E (.int k n) x') : x' = .int k n := by cases h; rfl
theorem natOf?_inv {x x' : Value} {i : Nat} (hx : natOf? x = some i) (h : VR E x x') : ∃ k, x' = .int k i := by
  unfold natOf? at hx
  split at hx
  · split at hx
    · simp at hx; rw [h.int_inv]; rename_i k n hn; exact ⟨k, by rw [← hx]; congr 1; omega⟩
    · cases hx
  · cases hx

theorem fieldV_run {t : TypeId} {x x' : Value} {f : Nat} {v : Value} (hv : fieldV P t x f = some v) (hx : VR E x x') : ∃ v', (∀ w, (Instr.field t x' f).run P w = .ok v' w) ∧ VR E v v' := by
  unfold fieldV at hv
  split at hv
  · rename_i fields cs h1
    obtain ⟨cs', rfl, hr⟩ := hx.agg_inv
    split at hv
    · rename_i fd hf
      obtain ⟨v', h2, h3⟩ := partV_run hv hr
      exact ⟨v', fun w => by simp [Instr.field, run_under h1, hf, asAgg, h2], h3⟩
    · cases hv
  · cases hv
theorem indexV_run {t : TypeId} {x x' i i' : Value} {v : Value} (hv : indexV P t x i = some v) (hx : VR E x x') (hi : VR E i i') : ∃ v', (∀ w, (Instr.index t x' i').run P w = .ok v' w) ∧ VR E v v' := by
  unfold indexV at hv
  split at hv
  · rename_i s n h1 h2
    obtain ⟨k, rfl⟩ := natOf?_inv h2 hi
    cases hx
    cases hb : s[n]? with
    | none => simp [hb] at hv
    | some b =>
      simp [hb] at hv; subst hv
      refine ⟨_, fun w => ?_, .int _ _⟩
      simp only [Instr.index, asIntOf, Sem.run_bind, Sem.run_pure, Result.andThen_ok, run_under h1]
      simp [hb]
  · rename_i len elem cs n h1 h2
    obtain ⟨k, rfl⟩ := natOf?_inv h2 hi
    obtain ⟨cs', rfl, hr⟩ := hx.agg_inv
    split at hv
    · rename_i size h3
      split at hv
      · rename_i hlt
        obtain ⟨v', h4, h5⟩ := partV_run hv hr
        refine ⟨v', fun w => ?_, h5⟩
        simp only [Instr.index, asIntOf, Sem.run_bind, Sem.run_pure, Result.andThen_ok, run_under h1]
        simp [hlt, run_sizeT h3, h4]
      · cases hv
    · cases hv
  · cases hv
omit [Gl P] in
theorem extractV_run {x x' : Value} {i : Nat} {v : Value} (hv : extractV x i = some v) (hx : VR E x x') : ∃ v', (∀ w, (Instr.extract x' i).run P w = .ok v' w) ∧ VR E v v' := by
  unfold extractV at hv
  split at hv
  · rename_i vs
    cases hx with
    | tuple hs hr =>
      obtain ⟨hi, rfl⟩ := Array.getElem?_eq_some_iff.1 hv
      rename_i cs'
      have hi' : i < cs'.size := hs ▸ hi
      exact ⟨cs'[i], fun w => by simp [Instr.extract, hi'], hr i hi hi'⟩
  · cases hv
theorem makeInterfaceV_run {t : TypeId} {x x' v : Value} (hv : makeInterfaceV P t x = some v) (hx : VR E x x') : ∃ v', (∀ w, (Instr.makeInterface t x').run P w = .ok v' w) ∧ VR E v v' := by
  unfold makeInterfaceV at hv
  split at hv
  · cases hv
  · rename_i d hnd hd
    simp at hv; subst hv
    refine ⟨.iface t x', fun w => ?_, .iface hx⟩
    simp only [Instr.makeInterface, Sem.run_bind, run_under hd, Result.andThen_ok]
    cases d <;> first | rfl | exact absurd hd (hnd _)
  · cases hv
theorem tuple2 {v v' u u' : Value} (h : VR E v v') (k : VR E u u') : VR E (.tuple #[v, u]) (.tuple #[v', u']) := .tuple rfl fun i h1 h2 => by
  simp at h1
  rcases i with _ | _ | i
  · exact h
  · exact k
  · omega
theorem typeAssertV_run {t a : TypeId} {x x' v : Value} {ok : Bool} (hv : typeAssertV P x a ok = some v) (hx : VR E x x') : ∃ v', (∀ w, (Instr.typeAssert x' t a ok).run P w = .ok v' w) ∧ VR E v v' := by
  unfold typeAssertV at hv
  split at hv
  · cases hv
  · rename_i d hnd hd
    cases hx
    split at hv
    · rename_i hok
      subst hok
      cases hz : zeroT P a with
      | none => simp [hz] at hv
      | some z =>
        simp [hz] at hv
        obtain ⟨hg, rfl⟩ := hv
        refine ⟨.tuple #[z, .bool false], fun w => ?_, tuple2 (VR.of_ground hg) (.bool false)⟩
        simp only [Instr.typeAssert, Sem.run_bind, run_under hd, Result.andThen_ok]
        cases d <;> first | (simp [run_zeroT hz]; done) | exact absurd hd (hnd _)
    · cases hv
  · rename_i d t' u hnd hd
    cases hx with
    | iface hx =>
    rename_i u'
    split at hv
    · rename_i e
      subst e
      simp at hv
      subst hv
      cases ok
      · refine ⟨u', fun w => ?_, by simpa using hx⟩
        simp only [Instr.typeAssert, Sem.run_bind, run_under hd, Result.andThen_ok]
        cases d <;> first | (simp; done) | exact absurd hd (hnd _)
      · refine ⟨.tuple #[u', .bool true], fun w => ?_, by simpa using tuple2 hx (.bool true)⟩
        simp only [Instr.typeAssert, Sem.run_bind, run_under hd, Result.andThen_ok]
        cases d <;> first | (simp; done) | exact absurd hd (hnd _)
    · rename_i hne
      split at hv
      · rename_i hok
        subst hok
        cases hz : zeroT P a with
        | none => simp [hz] at hv
        | some z =>
          simp [hz] at hv
          obtain ⟨hg, rfl⟩ := hv
          refine ⟨.tuple #[z, .bool false], fun w => ?_, tuple2 (VR.of_ground hg) (.bool false)⟩
          simp only [Instr.typeAssert, Sem.run_bind, run_under hd, Result.andThen_ok]
          cases d <;> first | (simp [run_zeroT hz, hne]; done) | exact absurd hd (hnd _)
      · cases hv
  · cases hv

def PRel (E : Env) (p p' : List (Nat × Value)) : Prop := p.length = p'.length ∧ ∀ (i : Nat) x, p[i]? = some x → ∃ v', p'[i]? = some (x.1, v') ∧ VR E x.2 v'
theorem PRel.cons {i : Nat} {v : Value} {p p' : List (Nat × Value)} (hr : PRel E ((i, v) :: p) p') : ∃ v' q', p' = (i, v') :: q' ∧ VR E v v' ∧ PRel E p q' := by
  obtain ⟨v', hv, hrv⟩ := hr.2 0 (i, v) rfl
  cases p' with
  | nil => simp at hv
  | cons x q =>
    simp at hv; subst hv
    exact ⟨v', q, rfl, hrv, by have := hr.1; simpa using this, fun j x hx => by simpa using hr.2 (j + 1) x (by simpa using hx)⟩
theorem ARel.fill_one (off : Nat) : ∀ (vs vs' : List Value) (k : Nat) {cs cs' : Array Value}, LRel E vs vs' → ARel E cs cs' →
    ARel E ((vs.zipIdx k).foldl (fun cs (x : Value × Nat) => cs.setIfInBounds (off + x.2) x.1) cs) ((vs'.zipIdx k).foldl (fun cs (x : Value × Nat) => cs.setIfInBounds (off + x.2) x.1) cs')
  | [], vs', k, cs, cs', hv, hc => by
    have : vs' = [] := List.length_eq_zero_iff.1 (by have := hv.1; simpa using this.symm)
    subst this; exact hc
  | v :: r, vs', k, cs, cs', hv, hc => by
    obtain ⟨v', hv', hrv⟩ := hv.2 0 v rfl
    cases vs' with
    | nil => simp at hv'
    | cons x q =>
      simp at hv'; subst hv'
      simp only [List.zipIdx_cons, List.foldl_cons]
      exact ARel.fill_one off r q (k + 1) ⟨by have := hv.1; simpa using this, fun j x hx => by simpa using hv.2 (j + 1) x (by simpa using hx)⟩ (hc.set _ hrv)
theorem fill_run (place : Nat → Option (Nat × Nat)) : ∀ (p p' : List (Nat × Value)) {cs cs' r : Array Value}, PRel E p p' → ARel E cs cs' → Instr.fill place cs p = some r →
    ∃ r', Instr.fill place cs' p' = some r' ∧ ARel E r r'
  | [], p', cs, cs', r, hp, hc, hf => by
    have : p' = [] := List.length_eq_zero_iff.1 (by have := hp.1; simpa using this.symm)
    subst this
    simp [Instr.fill] at hf; subst hf
    exact ⟨cs', rfl, hc⟩
  | (i, v) :: p, p', cs, cs', r, hp, hc, hf => by
    obtain ⟨v', q', rfl, hv, hp'⟩ := hp.cons
    simp only [Instr.fill] at hf ⊢
    cases hpl : place i with
    | none => simp only [hpl] at hf; cases hf
    | some x =>
      obtain ⟨off, size⟩ := x
      simp only [hpl] at hf ⊢
      have e1 := (ARel.cells hv).1
      rw [← e1, ← hc.1]
      split at hf
      · cases hf
      · rename_i hcond
        rw [if_neg hcond]
        refine fill_run place p q' hp' ?_ hf
        have := ARel.fill_one off v.cells.toList v'.cells.toList 0 (ARel.cells hv).list hc
        simpa only [← Array.foldl_toList, Array.toList_zipIdx] using this

theorem placesOf_run : ∀ (fs : List Field) {l : List (Nat × Nat)}, placesOf P fs = some l → ∀ w, (fs.mapM fun f => (do pure (f.offset, ← sizeOf f.type) : Sem (Nat × Nat))).run P w = .ok l w
  | [], l, h, w => by simp [placesOf] at h; subst h; simp
  | f :: fs, l, h, w => by
    simp only [placesOf] at h
    split at h
    · rename_i n l' h1 h2
      simp at h; subst h
      simp only [List.mapM_cons, Sem.run_bind, Sem.run_pure, run_sizeT h1, Result.andThen_ok, placesOf_run fs h2 w]
    · cases h
theorem ground_cells {v : Value} (hg : ground v = true) : ARel E v.cells v.cells := ARel.cells (VR.of_ground hg)
theorem buildV_run {t : TypeId} {p p' : Array (Nat × Value)} {v : Value} (hv : buildV P t p = some v) (hp : PRel E p.toList p'.toList) : ∃ v', (∀ w, (Instr.build t p').run P w = .ok v' w) ∧ VR E v v' := by
  unfold buildV at hv
  split at hv
  · rename_i z fields h1 h2
    split at hv
    · rename_i places h3
      split at hv
      · rename_i hg
        cases hf : Instr.fill (places.toArray[·]?) z.cells p.toList with
        | none => rw [hf] at hv; cases hv
        | some cs =>
          rw [hf] at hv; simp only [Option.map_some, Option.some.injEq] at hv; subst hv
          obtain ⟨cs', hf', hr⟩ := fill_run (E := E) (places.toArray[·]?) p.toList p'.toList hp (ground_cells hg) hf
          refine ⟨.agg cs', fun w => ?_, .agg hr.1 hr.2⟩
          have hm := placesOf_run fields.toList h3 w
          simp only [Instr.build, Sem.run_bind, run_zeroT h1, run_under h2, Result.andThen_ok, Array.mapM_eq_mapM_toList, Sem.run_map, hm]
          simp only [hf', Sem.run_pure]
      · cases hv
    · cases hv
  · rename_i z len elem h1 h2
    split at hv
    · rename_i size h3
      split at hv
      · rename_i hg
        cases hf : Instr.fill (fun i => some (i * size, size)) z.cells p.toList with
        | none => rw [hf] at hv; cases hv
        | some cs =>
          rw [hf] at hv; simp only [Option.map_some, Option.some.injEq] at hv; subst hv
          obtain ⟨cs', hf', hr⟩ := fill_run (E := E) (fun i => some (i * size, size)) p.toList p'.toList hp (ground_cells hg) hf
          refine ⟨.agg cs', fun w => ?_, .agg hr.1 hr.2⟩
          simp only [Instr.build, Sem.run_bind, run_zeroT h1, run_under h2, Result.andThen_ok, run_sizeT h3]
          simp only [hf', Sem.run_pure]
      · cases hv
    · cases hv
  · cases hv

theorem range_zero_rel {z : Value} (hg : ground z = true) (hz : 0 < z.cells.size) (n : Nat) : ARel E ((Array.range n).map (z.cells[· % z.cells.size]!)) ((Array.range n).map (z.cells[· % z.cells.size]!)) := by
  refine ⟨rfl, fun i h1 h2 => ?_⟩
  simp at h1
  have hlt : i % z.cells.size < z.cells.size := Nat.mod_lt _ hz
  simp only [Array.getElem_map, Array.getElem_range]
  have e : z.cells[i % z.cells.size]! = z.cells[i % z.cells.size] := getElem!_pos z.cells (i % z.cells.size) hlt
  rw [e]
  exact (ground_cells (E := E) hg).2 _ hlt hlt
theorem VR.new_slice {E : Env} {b n c c' : Nat} {l : Loc} (hl : E b = some l) (hs : l.s = 0) (hc : c = UNK ∨ c = c' ∧ c ≠ UNK) (hn : n ≤ c') (hb : c = UNK → c' * l.es ≤ l.sz) : VR E (.slice (some ⟨b, 0, none⟩) n c) (.slice (some ⟨l.cb, 0, none⟩) n c') := by
  have := VR.slice (E := E) (b := b) (o := 0) hl hc hn (by rw [hs]; simpa using hb)
  rw [hs] at this
  simpa using this
theorem lt_UNK {c : Nat} (h : c < 2 ^ 62) : c ≠ UNK := by unfold UNK; omega

theorem buildSliceV_run (hR : Rel P base E h w) (hf : E h.blks.length = none) {t : TypeId} {len : Nat} {p p' : Array (Nat × Value)} {v : Value} {h' : Heap} (hv : buildSliceV P t len p h = some (v, h')) (hp : PRel E p.toList p'.toList) :
    ∃ E' w' v', (Instr.buildSlice t len p').run P w = .ok v' w' ∧ Post P base E h w E' h' w' ∧ VR E' v v' := by
  unfold buildSliceV at hv
  split at hv
  · rename_i elem h1
    split at hv
    · rename_i size z h2 h3
      split at hv
      · rename_i hc
        obtain ⟨c1, c2, c3, c4⟩ := hc
        cases hfl : Instr.fill (fun i => some (i * size, size)) ((Array.range (len * size)).map (z.cells[· % z.cells.size]!)) p.toList with
        | none => simp [hfl] at hv
        | some cs =>
          simp [hfl] at hv
          obtain ⟨rfl, rfl⟩ := hv
          obtain ⟨cs', hf', hr⟩ := fill_run (E := E) (fun i => some (i * size, size)) p.toList p'.toList hp (range_zero_rel c4 (by omega) _) hfl
          have hsz : cs'.size = len * size := by
            have key : ∀ (p : List (Nat × Value)) (cs r : Array Value), Instr.fill (fun i => some (i * size, size)) cs p = some r → r.size = cs.size := by
              intro p
              induction p with
              | nil => intro cs r h; simp [Instr.fill] at h; rw [← h]
              | cons x p ih =>
                intro cs r h
                obtain ⟨i, v⟩ := x
                simp only [Instr.fill] at h
                split at h
                · cases h
                · rw [ih _ _ h]
                  have : ∀ (l : List (Value × Nat)) (off : Nat) (cs : Array Value), (l.foldl (fun cs (x : Value × Nat) => cs.setIfInBounds (off + x.2) x.1) cs).size = cs.size := by
                    intro l off
                    induction l with
                    | nil => intro cs; rfl
                    | cons y l ih => intro cs; simp [ih]
                  simpa only [← Array.foldl_toList, Array.toList_zipIdx] using this _ _ _
            rw [key _ _ _ hf']; simp
          refine ⟨_, { w with heap := w.heap.push (.cells cs' elem) }, .slice (some ⟨w.heap.size, 0, none⟩) len len, ?_, row_new (rest := []) hR hf h2 hr.list _ (pushed w (.cells cs' elem) w.drawn (Nat.le_refl _)) 0 0 (by simp) (by simp), ?_⟩
          · have hle : ¬ (len * size > 2 ^ 24) := by omega
            by_cases h0 : len * size = 0
            · have e0 : len = 0 := by rcases Nat.mul_eq_zero.1 h0 with h | h <;> omega
              have e1 : ∀ g : Nat → Value, (Array.range (len * size)).map g = #[] := fun g => by simp [h0]
              rw [e1] at hf'
              simp only [Instr.buildSlice, Sem.run_bind, run_under h1, run_sizeT h2, Result.andThen_ok]
              simp [hle, h0, newRow]
              have e2 : ∀ g : Nat → Value, (Array.range 0).map g = #[] := fun g => by simp
              rw [e2, hf']
              simp
            · simp only [Instr.buildSlice, Sem.run_bind, run_under h1, run_sizeT h2, Result.andThen_ok]
              simp [hle, h0, run_zeroT h3, hf', newRow]
          · refine VR.new_slice (l := ⟨w.heap.size, 0, cs'.toList.length + ([] : List Value).length, size⟩) (Env.upd_same _ _ _) rfl (.inr ⟨rfl, lt_UNK ?_⟩) (Nat.le_refl _) (fun _ => by simp [hsz])
            have : len ≤ len * size := Nat.le_mul_of_pos_right _ c2
            omega
      · cases hv
    · cases hv
  · cases hv
end Go.Am
set_option linter.unusedSimpArgs false
set_option linter.unusedVariables false
namespace Go.Am
variable {P : Program} [Gl P] {base : Nat} {E : Env} {h : Heap} {w : World}

theorem makeSliceV_run (hR : Rel P base E h w) (hf : E h.blks.length = none) {t : TypeId} {len len' cap cap' v : Value} {h' : Heap} (hv : makeSliceV P t len cap h = some (v, h')) (hl : VR E len len') (hc : VR E cap cap') :
    ∃ E' w' v', (Instr.makeSlice t len' cap').run P w = .ok v' w' ∧ Post P base E h w E' h' w' ∧ VR E' v v' := by
  unfold makeSliceV at hv
  split at hv
  · rename_i elem l c h1 h2 h3
    obtain ⟨k1, rfl⟩ := natOf?_inv h2 hl
    obtain ⟨k2, rfl⟩ := natOf?_inv h3 hc
    split at hv
    · rename_i size bytes z h4 h5 h6
      split at hv
      · rename_i hcond
        obtain ⟨c1, c2, c3, c4, c5, c6⟩ := hcond
        simp only [Option.some.injEq, Prod.mk.injEq] at hv
        obtain ⟨rfl, rfl⟩ := hv
        obtain ⟨i, h7, h8⟩ := run_bytesT h5 w
        have wl : IntKind.i64.wrap (l : Int) = l := by unfold IntKind.wrap; simp [IntKind.signed, IntKind.bits]; omega
        have wc : IntKind.i64.wrap (c : Int) = c := by unfold IntKind.wrap; simp [IntKind.signed, IntKind.bits]; omega
        have hle : ¬ ((i.bytes : Int) * (c : Int) > 2 ^ 48) := by rw [h8]; exact_mod_cast Nat.not_lt.2 c2
        refine ⟨_, { w with heap := w.heap.push (.cells ((Array.range (c * size)).map (z.cells[· % z.cells.size]!)) elem) }, .slice (some ⟨w.heap.size, 0, none⟩) l c, ?_,
          row_new (rest := []) hR hf h4 (range_zero_rel c6 (by omega) _).list _ (pushed w (.cells ((Array.range (c * size)).map (z.cells[· % z.cells.size]!)) elem) w.drawn (Nat.le_refl _)) 0 0 (by rw [List.append_nil, Array.toArray_toList]; exact pushed_get _ _) (by simp), ?_⟩
        · simp only [Instr.makeSlice, Sem.run_bind, run_under h1, Result.andThen_ok, asInt, asIntOf, Sem.run_pure, h7, wl, wc]
          have hle' : ¬ (281474976710656 < (i.bytes : Int) * (c : Int)) := fun h => hle (by simpa using h)
          by_cases h0 : c * size = 0
          · have e2 : ∀ g : Nat → Value, (Array.range 0).map g = #[] := fun g => by simp
            simp [run_sizeT h4, h0, newRow]
            rw [if_neg (by rintro ((h | h) | h) <;> first | (exact hle' h) | omega), e2, e2]
          · simp [run_sizeT h4, h0, run_zeroT h6, newRow]
            intro hbad
            exact absurd hbad (by rintro (((h | h) | h) | h) <;> first | exact hle' h | omega)
        · refine VR.new_slice (l := ⟨w.heap.size, 0, _, size⟩) (Env.upd_same _ _ _) rfl (.inr ⟨rfl, lt_UNK c3⟩) c1 (fun _ => by simp)
      · cases hv
    · cases hv
  · cases hv
theorem VR.slice_inv {b o n c : Nat} {x' : Value} (h : VR E (.slice (some ⟨b, o, none⟩) n c) x') :
    (∃ l c', E b = some l ∧ (c = UNK ∨ c = c' ∧ c ≠ UNK) ∧ n ≤ c' ∧ (c = UNK → l.s + o + c' * l.es ≤ l.sz) ∧ x' = .slice (some ⟨l.cb, l.s + o, none⟩) n c') ∨ (n = 0 ∧ (c = UNK ∨ c = 0) ∧ ∃ a', x' = .slice (some a') 0 0) := by
  cases h with
  | slice h1 h2 h3 h4 => exact .inl ⟨_, _, h1, h2, h3, h4, rfl⟩
  | sliceEmpty h => exact .inr ⟨rfl, h, _, rfl⟩
theorem esOf_eq (hR : Rel P base E h w) {b n : Nat} {l : Loc} (he : esOf P h b = some n) (hl : E b = some l) : l.es = n := by
  unfold esOf at he
  split at he
  · rename_i cs ty own hk
    have := (hR.blk b _ l hk hl).1
    rw [he] at this; simpa using this.symm
  · rename_i ty own hk
    have : sizeT P ty = some l.es := hR.blk b _ l hk hl
    rw [he] at this; simpa using this.symm
  · cases he

theorem run_sliceBound {x : Value} {i y : Nat} {k : IntKind} {code : BoundsCode} (hx : x = .int k i) (hy : i ≤ y) (w : World) : (Instr.sliceBound x y code).run P w = .ok i w := by
  subst hx
  simp only [Instr.sliceBound, asIntOf, Sem.run_bind, Sem.run_pure, Result.andThen_ok]
  rw [if_pos ⟨by omega, by omega⟩]
  simp
def ORel (E : Env) : Option Value → Option Value → Prop
  | none, none => True
  | some x, some y => VR E x y
  | _, _ => False
theorem elim_inv {x x' : Option Value} {d i : Nat} (h : x.elim (some d) natOf? = some i) (hr : ORel E x x') : (x = none ∧ x' = none ∧ i = d) ∨ (∃ v k, x = some v ∧ x' = some (.int k i)) := by
  cases x with
  | none => cases x' with
    | none => simp at h; exact .inl ⟨rfl, rfl, h.symm⟩
    | some y => exact hr.elim
  | some v => cases x' with
    | none => exact hr.elim
    | some y => obtain ⟨k, rfl⟩ := natOf?_inv h hr; exact .inr ⟨v, k, rfl, rfl⟩
theorem run_sliceBounds {lo hi mx : Option Value} {l h m len cap : Nat} (b : Bool) (hl : lo = none ∧ l = 0 ∨ ∃ k, lo = some (.int k l)) (hh : hi = none ∧ h = len ∨ ∃ k, hi = some (.int k h)) (hm : mx = none ∧ m = cap ∨ ∃ k, mx = some (.int k m))
    (c1 : l ≤ h) (c2 : h ≤ m) (c3 : m ≤ cap) (c4 : mx.isSome → hi.isSome) (w : World) : (Instr.sliceBounds b len cap lo hi mx).run P w = .ok (l, h, m) w := by
  rcases hm with ⟨rfl, rfl⟩ | ⟨km, rfl⟩
  · rcases hh with ⟨rfl, rfl⟩ | ⟨kh, rfl⟩ <;> rcases hl with ⟨rfl, rfl⟩ | ⟨kl, rfl⟩ <;>
      simp [Instr.sliceBounds, run_sliceBound (P := P) rfl c1, run_sliceBound (P := P) rfl c2]
  · rcases hh with ⟨rfl, rfl⟩ | ⟨kh, rfl⟩
    · simp at c4
    · rcases hl with ⟨rfl, rfl⟩ | ⟨kl, rfl⟩ <;>
      simp [Instr.sliceBounds, run_sliceBound (P := P) rfl c1, run_sliceBound (P := P) rfl c2, run_sliceBound (P := P) rfl c3]

theorem sliceV_run (hR : Rel P base E h w) {t : TypeId} {x x' v : Value} {lo hi mx lo' hi' mx' : Option Value} (hv : sliceV P t x lo hi mx h = some v) (hx : VR E x x') (hlo : ORel E lo lo') (hhi : ORel E hi hi') (hmx : ORel E mx mx') :
    ∃ v', (Instr.sliceAt t x' lo' hi' mx').run P w = .ok v' w ∧ VR E v v' := by
  unfold sliceV at hv
  split at hv
  · rename_i elem a len cap h1
    split at hv
    · rename_i size l hh m h2 h3 h4 h5
      have hl := elim_inv h3 hlo
      have hh' := elim_inv h4 hhi
      have hm := elim_inv h5 hmx
      have gl : lo' = none ∧ l = 0 ∨ ∃ k, lo' = some (.int k l) := hl.elim (fun h => .inl ⟨h.2.1, h.2.2⟩) (fun ⟨v, k, h⟩ => .inr ⟨k, h.2⟩)
      have gh : hi' = none ∧ hh = len ∨ ∃ k, hi' = some (.int k hh) := hh'.elim (fun h => .inl ⟨h.2.1, h.2.2⟩) (fun ⟨v, k, h⟩ => .inr ⟨k, h.2⟩)
      have go : ∀ (a' : Option Addr) (c' m' : Nat), (mx' = none ∧ m' = c' ∨ ∃ k, mx' = some (.int k m')) → l ≤ hh → hh ≤ m' → m' ≤ c' → (mx'.isSome → hi'.isSome) → x' = .slice a' len c' →
          (Instr.sliceAt t x' lo' hi' mx').run P w = .ok (.slice (if m' = l then a' else a'.map (·.add (l * size))) (hh - l) (m' - l)) w := by
        intro a' c' m' gm c1 c2 c3 c4 hx'
        subst hx'
        simp only [Instr.sliceAt, Sem.run_bind, run_under h1, Result.andThen_ok, Instr.slice, run_sliceBounds (P := P) true gl gh gm c1 c2 c3 c4, run_sizeT h2, Sem.run_pure]
      -- the address, where the capacity is known
      have kn : ∀ (b o m' : Nat) (lc : Loc) , E b = some lc → hh ≤ m' → m' < UNK → VR E (.slice (some (if m' = l then ⟨b, o, none⟩ else ⟨b, o + l * size, none⟩)) (hh - l) (m' - l)) (.slice (if m' = l then some ⟨lc.cb, lc.s + o, none⟩ else (some ⟨lc.cb, lc.s + o, none⟩ : Option Addr).map (·.add (l * size))) (hh - l) (m' - l)) := by
        intro b o m' lc e1 c2 c3
        have hU : m' - l ≠ UNK := by omega
        by_cases hc : m' = l
        · rw [if_pos hc, if_pos hc]
          exact .slice e1 (.inr ⟨rfl, hU⟩) (by omega) (fun h => absurd h hU)
        · rw [if_neg hc, if_neg hc]
          simp only [Option.map_some, add_none]
          rw [Nat.add_assoc]
          exact .slice e1 (.inr ⟨rfl, hU⟩) (by omega) (fun h => absurd h hU)
      split at hv
      · rename_i hsome
        rcases hm with ⟨rfl, _, _⟩ | ⟨u, k, rfl, rfl⟩
        · simp at hsome
        · split at hv
          · rename_i hcond
            obtain ⟨c1, c2, c3, c4, c5⟩ := hcond
            have c4' : hi'.isSome := by
              rcases hh' with ⟨rfl, _, _⟩ | ⟨_, _, _, rfl⟩
              · simp at c4
              · rfl
            split at hv
            · rename_i b o
              simp only [Option.some.injEq] at hv
              subst hv
              rcases hx.slice_inv with ⟨lc, c', e1, e2, e3, e4, rfl⟩ | ⟨rfl, e2, a', rfl⟩
              · have hmc : m ≤ c' := by
                  rcases c5 with ⟨e, c5⟩ | ⟨e, c5⟩ <;> rcases e2 with e' | ⟨e', _⟩ <;> first | omega | exact absurd e' e
                exact ⟨_, go (some ⟨lc.cb, lc.s + o, none⟩) c' m (.inr ⟨k, rfl⟩) c1 c2 hmc (fun _ => c4') rfl, kn b o m lc e1 c2 c3⟩
              · have e : m = 0 := by rcases c5 with ⟨e, c5⟩ | ⟨e, c5⟩ <;> rcases e2 with e' | e' <;> first | omega | exact absurd e' e
                subst e
                have e4 : hh = 0 := by omega
                have e5 : l = 0 := by omega
                subst e4 e5
                refine ⟨_, go (some a') 0 0 (.inr ⟨k, rfl⟩) c1 c2 (Nat.le_refl _) (fun _ => c4') rfl, ?_⟩
                simp only [if_true, Nat.sub_self]
                exact .sliceEmpty (.inr rfl)
            · simp only [Option.some.injEq] at hv
              subst hv
              cases hx
              have : m = 0 := by rcases c5 with ⟨e, c5⟩ | ⟨e, c5⟩ <;> omega
              subst this
              refine ⟨_, go none 0 0 (.inr ⟨k, rfl⟩) c1 c2 (Nat.le_refl _) (fun _ => c4') rfl, ?_⟩
              have e1 : hh = 0 := by omega
              have e2 : l = 0 := by omega
              subst e1 e2
              exact .sliceNil
            · cases hv
          · cases hv
      · rename_i hnone
        rcases hm with ⟨rfl, rfl, rfl⟩ | ⟨u, k, rfl, rfl⟩
        case inr => simp at hnone
        split at hv
        · rename_i hU
          subst hU
          split at hv
          · rename_i b o
            split at hv
            · rename_i hcond
              obtain ⟨c1, c2, c3⟩ := hcond
              simp only [Option.some.injEq] at hv
              subst hv
              rcases hx.slice_inv with ⟨lc, c', e1, e2, e3, e4, rfl⟩ | ⟨rfl, _, a', rfl⟩
              · refine ⟨_, go (some ⟨lc.cb, lc.s + o, none⟩) c' c' (.inl ⟨rfl, rfl⟩) c1 (by omega) (Nat.le_refl _) (by simp) rfl, ?_⟩
                by_cases hc : c' = l
                · subst hc
                  have : hh - c' = 0 := by omega
                  simp only [this, if_true, Nat.sub_self]
                  exact .sliceEmpty (.inl rfl)
                · rw [if_neg hc]
                  simp only [Option.map_some, add_none]
                  rw [Nat.add_assoc]
                  refine .slice e1 (.inl rfl) (by omega) (fun _ => ?_)
                  have hes := esOf_eq hR c3 e1
                  have := e4 rfl
                  rw [hes] at this ⊢
                  have e5 : l * size + (c' - l) * size = c' * size := by rw [← Nat.add_mul]; congr 1; omega
                  omega
              · have : hh = 0 := by omega
                subst this
                have : l = 0 := by omega
                subst this
                refine ⟨_, go (some a') 0 0 (.inl ⟨rfl, rfl⟩) (Nat.le_refl _) (Nat.le_refl _) (Nat.le_refl _) (by simp) rfl, ?_⟩
                simp only [if_true, Nat.sub_self]
                exact .sliceEmpty (.inl rfl)
            · cases hv
          · cases hv
        · rename_i hU
          split at hv
          · rename_i hcond
            obtain ⟨c1, c2, c3⟩ := hcond
            split at hv
            · rename_i b o
              simp only [Option.some.injEq] at hv
              subst hv
              rcases hx.slice_inv with ⟨lc, c', e1, e2, e3, e4, rfl⟩ | ⟨rfl, e, e0⟩
              · obtain rfl : m = c' := by
                  rcases e2 with e | ⟨e, _⟩
                  · exact absurd e hU
                  · exact e
                exact ⟨_, go (some ⟨lc.cb, lc.s + o, none⟩) m m (.inl ⟨rfl, rfl⟩) c1 c2 (Nat.le_refl _) (by simp) rfl, kn b o m lc e1 c2 c3⟩
              · obtain ⟨a', rfl⟩ := e0
                obtain rfl := e.resolve_left hU
                have e4 : hh = 0 := by omega
                have e5 : l = 0 := by omega
                subst e4 e5
                refine ⟨_, go (some a') 0 0 (.inl ⟨rfl, rfl⟩) c1 c2 (Nat.le_refl _) (by simp) rfl, ?_⟩
                simp only [if_true, Nat.sub_self]
                exact .sliceEmpty (.inr rfl)
            · simp only [Option.some.injEq] at hv
              subst hv
              cases hx
              refine ⟨_, go none 0 0 (.inl ⟨rfl, rfl⟩) c1 c2 (Nat.le_refl _) (by simp) rfl, ?_⟩
              have e1 : hh = 0 := by omega
              have e2 : l = 0 := by omega
              subst e1 e2
              exact .sliceNil
            · cases hv
          · cases hv
    · cases hv
  · rename_i s h1
    split at hv
    · rename_i l hh h3 h4
      split at hv
      · rename_i hcond
        obtain ⟨c0, c1, c2⟩ := hcond
        simp only [Option.some.injEq] at hv
        subst hv
        cases hx
        have hl := elim_inv h3 hlo
        have hh' := elim_inv h4 hhi
        have gl : lo' = none ∧ l = 0 ∨ ∃ k, lo' = some (.int k l) := hl.elim (fun h => .inl ⟨h.2.1, h.2.2⟩) (fun ⟨v, k, h⟩ => .inr ⟨k, h.2⟩)
        have gh : hi' = none ∧ hh = s.size ∨ ∃ k, hi' = some (.int k hh) := hh'.elim (fun h => .inl ⟨h.2.1, h.2.2⟩) (fun ⟨v, k, h⟩ => .inr ⟨k, h.2⟩)
        have gm : mx' = none := by
          cases mx with
          | none => cases mx' with
            | none => rfl
            | some y => exact hmx.elim
          | some y => simp at c0
        subst gm
        refine ⟨.string (s.extract l hh), ?_, .string _⟩
        simp only [Instr.sliceAt, Sem.run_bind, run_under h1, Result.andThen_ok, Instr.slice, Option.isSome_none]
        simp [run_sliceBounds (P := P) (mx := none) (cap := s.size) false gl gh (.inl ⟨rfl, rfl⟩) c1 c2 (Nat.le_refl _) (by simp)]
      · cases hv
    · cases hv
  · cases hv

end Go.Am
set_option linter.unusedSimpArgs false
set_option linter.unusedVariables false
namespace Go.Am
variable {P : Program} [Gl P] {base : Nat} {E : Env} {h : Heap} {w : World}

theorem fieldAddrV_run {t : TypeId} {x x' v : Value} {f : Nat} (hv : fieldAddrV P t x f = some v) (hx : VR E x x') : ∃ v', (∀ w, (Instr.fieldAt t x' f).run P w = .ok v' w) ∧ VR E v v' := by
  unfold fieldAddrV at hv
  split at hv
  · rename_i b o fields h1
    obtain ⟨l, hl, rfl⟩ := hx.ptr_inv
    split at hv
    · rename_i fd hf
      split at hv
      · rename_i n h2
        split at hv
        · cases hv
        · rename_i hn
          simp only [Option.some.injEq] at hv
          subst hv
          refine ⟨_, fun w => ?_, .ptr hl⟩
          simp only [Instr.fieldAt, Sem.run_bind, run_under h1, Result.andThen_ok, hf, Instr.sureAddr, Sem.run_pure, fieldPlace, run_sizeT h2]
          rw [if_neg hn]
          simp [add_none, Nat.add_assoc]
      · cases hv
    · cases hv
  · cases hv
theorem indexAddrV_run {t : TypeId} {x x' i i' v : Value} (hv : indexAddrV P t x i = some v) (hx : VR E x x') (hi : VR E i i') : ∃ v', (∀ w, (Instr.indexAt t x' i').run P w = .ok v' w) ∧ VR E v v' := by
  unfold indexAddrV at hv
  split at hv
  · rename_i elem b o len cap n h1 h2
    obtain ⟨k, rfl⟩ := natOf?_inv h2 hi
    split at hv
    · rename_i size h3
      split at hv
      · rename_i hlt
        simp only [Option.some.injEq] at hv
        subst hv
        rcases hx.slice_inv with ⟨l, c', e1, e2, e3, e4, rfl⟩ | ⟨rfl, _⟩
        · refine ⟨_, fun w => ?_, .ptr e1⟩
          simp only [Instr.indexAt, asIntOf, Sem.run_bind, Sem.run_pure, Result.andThen_ok, run_under h1]
          simp [hlt, run_sizeT h3, add_none, Nat.add_assoc]
        · omega
      · cases hv
    · cases hv
  · rename_i len elem b o n h1 h2
    obtain ⟨k, rfl⟩ := natOf?_inv h2 hi
    split at hv
    · rename_i size h3
      split at hv
      · rename_i hlt
        simp only [Option.some.injEq] at hv
        subst hv
        obtain ⟨l, hl, rfl⟩ := hx.ptr_inv
        refine ⟨_, fun w => ?_, .ptr hl⟩
        simp only [Instr.indexAt, asIntOf, Sem.run_bind, Sem.run_pure, Result.andThen_ok, run_under h1, Instr.sureAddr]
        simp [hlt, run_sizeT h3, add_none, Nat.add_assoc]
      · cases hv
    · cases hv
  · cases hv
theorem pureV_run {s : Sem Value} {v : Value} (hv : pureV P s = some v) : (∀ w, s.run P w = .ok v w) ∧ VR E v v := by
  unfold pureV at hv
  split at hv
  · rename_i u hu
    split at hv
    · rename_i hg
      simp only [Option.some.injEq] at hv
      subst hv
      exact ⟨fun w => pureRun_run hu w, VR.of_ground hg⟩
    · cases hv
  · cases hv
theorem run_equalIn_nil {t : TypeId} {x y x' y' : Value} {d : TypeDesc} {b : Bool} (hd : P.underlying t = some d) (hn : nilEq d x y = some b) (hx : VR E x x') (hy : VR E y y') (k : Nat) (w : World) :
    (Op.equalIn (k + 1) t x' y').run P w = .ok b w := by
  unfold nilEq at hn
  split at hn
  all_goals first
    | (cases hn; done)
    | (simp only [Option.some.injEq] at hn; subst hn; cases hx <;> cases hy <;> first | (simp [Op.equalIn, run_under hd]; done) | (exfalso; simp_all; done))
theorem eqGuard_nil {t : TypeId} {x y x' y' : Value} {d : TypeDesc} {b : Bool} {op : BinOp} {xo yo : Operand} (hn : nilEq d x y = some b) (hx : VR E x x') (hy : VR E y y') (w : World) :
    (eqGuard op t xo yo x' y').run P w = .ok () w := by
  unfold nilEq at hn
  split at hn
  all_goals first
    | (cases hn; done)
    | (cases hx <;> cases hy <;> cases op <;> simp [eqGuard]; done)
theorem binV_run {t : TypeId} {x y x' y' v : Value} {op : BinOp} {xo yo : Operand} (hv : binV P op t xo yo x y = some v) (hx : VR E x x') (hy : VR E y y') :
    ∃ v', (∀ w, (do eqGuard op t xo yo x' y'; Go.binOp op t x' y' : Sem Value).run P w = .ok v' w) ∧ VR E v v' := by
  unfold binV at hv
  split at hv
  · rename_i hg
    simp only [Bool.and_eq_true] at hg
    obtain rfl := hx.ground_eq hg.1
    obtain rfl := hy.ground_eq hg.2
    exact ⟨v, (pureV_run (E := E) hv).1, (pureV_run hv).2⟩
  · cases hd : P.underlying t with
    | none => simp [hd] at hv
    | some d =>
      simp only [hd, Option.bind_some] at hv
      cases hn : nilEq d x y with
      | none => simp [hn] at hv
      | some b =>
        have key : ∀ w, (Op.equal t x' y').run P w = .ok b w := fun w => run_equalIn_nil hd hn hx hy 9999 w
        have shape : ∀ (o : BinOp), (o = .eql ∨ o = .neq) → ∀ w, (Go.binOp o t x' y').run P w = .ok (.bool (if o = .eql then b else !b)) w := by
          intro o ho w
          unfold nilEq at hn
          split at hn
          all_goals first
            | (cases hn; done)
            | (rcases ho with rfl | rfl <;> cases hx <;> cases hy <;> simp [Go.binOp, key]; done)
        simp only [hn] at hv
        split at hv
        · simp only [Option.some.injEq] at hv
          subst hv
          rename_i e; simp only [Option.some.injEq] at e; subst e
          exact ⟨_, fun w => by simp only [Sem.run_bind, eqGuard_nil hn hx hy, Result.andThen_ok, shape .eql (.inl rfl)]; rfl, .bool _⟩
        · simp only [Option.some.injEq] at hv
          subst hv
          rename_i e; simp only [Option.some.injEq] at e; subst e
          exact ⟨_, fun w => by simp only [Sem.run_bind, eqGuard_nil hn hx hy, Result.andThen_ok, shape .neq (.inr rfl)]; rfl, .bool _⟩
        · cases hv
theorem unV_run {x x' v : Value} {op : UnOp} (hv : unV P op x = some v) (hx : VR E x x') : ∃ v', (∀ w, (Op.unary op x').run P w = .ok v' w) ∧ VR E v v' := by
  unfold unV at hv
  split at hv
  · rename_i hg
    obtain rfl := hx.ground_eq hg
    exact ⟨v, (pureV_run (E := E) hv).1, (pureV_run hv).2⟩
  · cases hv
theorem nilCheckV_run {x x' v : Value} (hv : nilCheckV P x = some v) (hx : VR E x x') : v = x ∧ ((∃ a, x' = .pointer (some a)) ∨ (∃ f fs cs, x' = .func (.func f) fs cs) ∨ (∃ t u, x' = .iface t u) ∨
    ∃ name fs cs t u f, x' = .func (.method name) fs cs ∧ fs[0]? = some (.iface t u) ∧ methodF P t name = some f) := by
  unfold nilCheckV at hv
  split at hv
  · simp only [Option.some.injEq] at hv
    cases hx
    exact ⟨hv.symm, .inl ⟨_, rfl⟩⟩
  · simp only [Option.some.injEq] at hv
    cases hx
    exact ⟨hv.symm, .inr (.inl ⟨_, _, _, rfl⟩)⟩
  · rename_i name first captured
    split at hv
    · rename_i t u hf
      obtain ⟨f, hm, e⟩ := Option.map_eq_some_iff.1 hv
      cases hx with
      | func e1 e2 e3 e4 =>
      rename_i first' captured'
      obtain ⟨h0, h1⟩ := Array.getElem?_eq_some_iff.1 hf
      have r0 := e2 0 h0 (by omega)
      rw [h1] at r0
      generalize hq : first'[0]'(by omega) = q at r0
      cases r0 with
      | iface hu =>
      exact ⟨e.symm, .inr (.inr (.inr ⟨name, first', captured', t, _, f, rfl, by rw [Array.getElem?_eq_getElem (by omega), hq], hm⟩))⟩
    · cases hv
  · simp only [Option.some.injEq] at hv
    cases hx
    exact ⟨hv.symm, .inr (.inr (.inl ⟨_, _, rfl⟩))⟩
  · cases hv

theorem bytesOf_eq : ∀ {cs : List Value} {l : List UInt8}, bytesOf? cs = some l → ∃ ns : List Int, cs = ns.map (Value.int .u8) ∧ l = ns.map fun n => UInt8.ofNat n.toNat
  | [], l, h => by simp [bytesOf?] at h; subst h; exact ⟨[], rfl, rfl⟩
  | v :: cs, l, h => by
    unfold bytesOf? at h
    split at h
    · rename_i e; cases e
    · rename_i n cs' e
      cases e
      cases h2 : bytesOf? cs with
      | none => simp [h2] at h
      | some r =>
        simp [h2] at h
        obtain ⟨ns, h3, h4⟩ := bytesOf_eq h2
        exact ⟨n :: ns, by simp [h3], by rw [← h, h4]; rfl⟩
    · cases h
theorem foldl_push (ns : List Int) : ∀ (s : ByteArray), ns.foldl (fun r n => r.push (UInt8.ofNat n.toNat)) s = ⟨s.data ++ (ns.map fun n => UInt8.ofNat n.toNat).toArray⟩ := by
  induction ns with
  | nil => intro s; simp
  | cons n ns ih => intro s; simp only [List.foldl_cons, ih]; simp [ByteArray.push]
theorem LRel.ground_eq {cs cs' : List Value} (hr : LRel E cs cs') (hg : ∀ v ∈ cs, ground v = true) : cs' = cs := by
  apply List.ext_getElem?
  intro i
  by_cases hi : i < cs.length
  · obtain ⟨v', hv', hrv⟩ := hr.2 i cs[i] (List.getElem?_eq_getElem hi)
    rw [hv', List.getElem?_eq_getElem hi, hrv.ground_eq (hg _ (List.getElem_mem hi))]
  · rw [List.getElem?_eq_none (by rw [← hr.1]; omega), List.getElem?_eq_none (by omega)]
theorem isByteT_eq {e : TypeId} (h : isByteT P e = true) : P.underlying e = some (.int .u8) := by
  unfold isByteT at h
  split at h
  · assumption
  · cases h
theorem LRel.refl_ground {cs : List Value} (hg : ∀ v ∈ cs, ground v = true) : LRel E cs cs :=
  ⟨rfl, fun i v hv => ⟨v, hv, VR.of_ground (hg v (List.mem_of_getElem? hv))⟩⟩
theorem toBytes_ground (s : ByteArray) : ∀ v ∈ toBytes s, ground v = true := by
  intro v hv
  unfold toBytes at hv
  obtain ⟨b, _, rfl⟩ := List.mem_map.1 hv
  rfl
theorem toBytes_len (s : ByteArray) : (toBytes s).length = s.size := by unfold toBytes; rw [List.length_map, Array.length_toList]; rfl

theorem cut_ge {need old : Nat} {e : TypeId} (t : Nat) : need ≤ (Question.appendCap need old e).cut t := Nat.le_add_right _ _
theorem freeze_new (w : World) (arr : Array Value) (e : TypeId) (n : Nat) : ({ w with heap := w.heap.push (.cells arr e) } : World).freeze ⟨w.heap.size, n, none⟩ 1 = { w with heap := w.heap.push (.cells arr e (n, n + 1)) } := by
  have : (w.heap.push (.cells arr e)).modify w.heap.size (fun o => match o with
      | .cells c elem (lo, hi) => .cells c elem (if lo == hi then (n, n + 1) else (min lo n, max hi (n + 1)))
      | o => o) = w.heap.push (.cells arr e (n, n + 1)) := by
    apply Array.ext
    · simp
    · intro i h1 h2
      simp only [Array.getElem_modify]
      by_cases hi : w.heap.size = i
      · subst hi; simp
      · rw [if_neg hi]
        have : i < w.heap.size := by simp at h2; omega
        rw [Array.getElem_push_lt this, Array.getElem_push_lt this]
  unfold World.freeze
  rw [if_neg (by omega)]
  simp only
  rw [← this]
  rfl
theorem run_stringToBytes (e : TypeId) (s : ByteArray) (w : World) : ∃ (cap : Nat) (w' : World), s.size ≤ cap ∧ (Conv.stringToBytes e s).run P w = .ok (.slice (some ⟨w.heap.size, 0, none⟩) s.size cap) w' ∧ Pushed w w' ∧
    w'.heap[w.heap.size]? = some (.cells (toBytes s ++ List.replicate (cap - s.size) (Value.int .u8 0)).toArray e (cap, cap + 1)) := by
  let cap := (Question.appendCap s.size 0 e).cut (w.tape w.drawn (.appendCap s.size 0 e))
  have hcap : s.size ≤ cap := cut_ge _
  let arr : Array Value := (s.data.map fun b => .int .u8 b.toNat) ++ Array.replicate (cap - s.size) (.int .u8 0)
  have hsz : arr.size = cap := by
    have : s.data.size = s.size := rfl
    simp [arr, this]; omega
  have harr : (toBytes s ++ List.replicate (cap - s.size) (Value.int .u8 0)).toArray = arr := by
    apply Array.ext'
    simp [arr, toBytes]
  let w1 : World := { w with drawn := w.drawn + 1 }
  refine ⟨cap, { w1 with heap := w.heap.push (.cells arr e (cap, cap + 1)) }, hcap, ?_, pushed w _ _ (Nat.le_succ _), ?_⟩
  · have hf := freeze_new w1 arr e cap
    have hsh : ({ w1 with heap := w1.heap.push (.cells arr e) } : World).shape? w.heap.size = some (e, arr.size) := by
      have : (w.heap.push (.cells arr e))[w.heap.size]? = some (.cells arr e) := pushed_get w _
      simp only [World.shape?]
      rw [show w1.heap = w.heap from rfl, this]
    simp only [Conv.stringToBytes, Sem.run_bind, run_choose, Question.forced, newRow, run_newObj, Sem.run_pure, markStringish, run_shape, run_freeze, Result.andThen_ok]
    simp only [Bool.false_eq_true, if_false, Result.andThen_ok]
    change Result.andThen (Sem.run P (match ({ w1 with heap := w1.heap.push (.cells arr e) } : World).shape? w.heap.size with
      | some (_, n) => freeze ⟨w.heap.size, n, none⟩ 1
      | _ => pure ()) { w1 with heap := w1.heap.push (.cells arr e) }) _ = _
    rw [hsh]
    simp only [run_freeze, Result.andThen_ok, hsz]
    rw [show (⟨w.heap.size, cap, none⟩ : Addr) = ⟨w1.heap.size, cap, none⟩ from rfl, hf]
  · rw [harr]; exact pushed_get w _
theorem run_markStr {src e : TypeId} (h1 : P.underlying src = some (.slice e)) (h2 : P.underlying e = some (.int .u8)) {w : World} {b o n c : Nat} {cs : Array Value} {t : TypeId} {lo hi : Nat} (hh : w.heap[b]? = some (.cells cs t (lo, hi))) :
    (Go.convert src src (.slice (some ⟨b, o, none⟩) n c)).run P w = .ok (.slice (some ⟨b, o, none⟩) n c) (w.freeze ⟨b, cs.size, none⟩ 1) := by
  have hsh : w.shape? b = some (t, cs.size) := by unfold World.shape?; rw [hh]
  simp [Go.convert, run_under h1, run_under h2, markStringish, hsh]
theorem freeze_get {w : World} {b : Nat} {cs : Array Value} {t : TypeId} {lo hi : Nat} (hh : w.heap[b]? = some (.cells cs t (lo, hi))) :
    (w.freeze ⟨b, cs.size, none⟩ 1).heap[b]? = some (.cells cs t (if lo == hi then (cs.size, cs.size + 1) else (min lo cs.size, max hi (cs.size + 1)))) := by
  unfold World.freeze
  rw [if_neg (by omega)]
  simp [Array.getElem?_modify, hh]
theorem freeze_wrote (w : World) (b n : Nat) : Wrote b w (w.freeze ⟨b, n, none⟩ 1) := by
  unfold World.freeze
  rw [if_neg (by omega)]
  refine ⟨rfl, rfl, rfl, by simp, fun c hc => ?_, Nat.le_refl _⟩
  simp [Array.getElem?_modify, Ne.symm hc]
theorem convV_run (hR : Rel P base E h w) {src dst : TypeId} {x x' v : Value} {h' : Heap} (hfree : Free E h h') (hv : convV P src dst x h = some (v, h')) (hx : VR E x x') :
    ∃ E' w' v', (Go.convert src dst x').run P w = .ok v' w' ∧ Post P base E h w E' h' w' ∧ VR E' v v' := by
  unfold convV at hv
  split at hv
  · rename_i e n c h1 h2
    split at hv
    · rename_i hc
      obtain ⟨c1, rfl, rfl⟩ := hc
      simp only [Option.some.injEq, Prod.mk.injEq] at hv
      obtain ⟨rfl, rfl⟩ := hv
      cases hx
      exact ⟨E, w, .string .empty, by simp [Go.convert, run_under h1, run_under h2, run_under (isByteT_eq c1), Conv.bytesToString], Post.refl hR, .string _⟩
    · cases hv
  · rename_i e b o n c h1 h2
    split at hv
    · rename_i c1
      cases hl : h.loadN b o n with
      | none => simp [hl] at hv
      | some cs =>
        simp only [hl, Option.bind_some] at hv
        cases hb : bytesOf? cs with
        | none => simp [hb] at hv
        | some l =>
          simp only [hb, Option.map_some, Option.some.injEq, Prod.mk.injEq] at hv
          obtain ⟨rfl, rfl⟩ := hv
          obtain ⟨ns, rfl, rfl⟩ := bytesOf_eq hb
          have hconv : ∀ a' n' c', (Go.convert src dst (.slice a' n' c')).run P w = (Conv.bytesToString (.slice a' n' c')).run P w := fun a' n' c' =>
            run_convert_bytes_string w src dst e a' n' c' h1 (isByteT_eq c1) h2
          have fin : ∀ (a' : Addr) (c' : Nat), (loadCells a' n).run P w = .ok (ns.map (Value.int .u8)).toArray w → (Go.convert src dst (.slice (some a') n c')).run P w = .ok (.string ⟨(ns.map fun n => UInt8.ofNat n.toNat).toArray⟩) w := fun a' c' hrun => by
            rw [hconv, run_bytesToString w a' n c' ns hrun, foldl_push]
            have e0 : ByteArray.empty.data = #[] := rfl
            rw [e0]; simp
          refine ⟨E, w, .string ⟨(ns.map fun n => UInt8.ofNat n.toNat).toArray⟩, ?_, Post.refl hR, .string _⟩
          rcases hx.slice_inv with ⟨lc, c', e1, e2, e3, e4, rfl⟩ | ⟨rfl, _, a', rfl⟩
          · obtain ⟨cs', hr, hn, hrun⟩ := run_loadN hR hl e1
            rw [hr.ground_eq (fun v hv => by obtain ⟨i, _, rfl⟩ := List.mem_map.1 hv; rfl)] at hrun
            exact fin _ _ hrun
          · have := loadN_len hl
            have hns : ns = [] := by simpa using this
            subst hns
            exact fin _ _ (by simp [loadCells, loadCellsFrom])
    · cases hv
  · rename_i e s h1 h2
    split at hv
    · rename_i hc
      obtain ⟨c1, c2⟩ := hc
      simp only [Option.some.injEq, Prod.mk.injEq] at hv
      obtain ⟨rfl, rfl⟩ := hv
      cases hx
      have hfr : E h.blks.length = none := hfree _ (Nat.le_refl _) (by rw [Heap.new_len]; omega)
      obtain ⟨cap, w', g1, g2, g3, g4⟩ := run_stringToBytes (P := P) e s w
      have hlen : (toBytes s).length + (List.replicate (cap - s.size) (Value.int .u8 0)).length = cap := by rw [toBytes_len]; simp; omega
      refine ⟨_, w', _, ?_, row_new hR hfr c2 (LRel.refl_ground (toBytes_ground s)) w' g3 cap (cap + 1) g4 (.inr ⟨by rw [hlen]; exact Nat.le_refl _, rfl⟩),
        VR.new_slice (l := ⟨w.heap.size, 0, _, 1⟩) (c' := cap) (Env.upd_same _ _ _) rfl (.inl rfl) g1 (fun _ => by rw [hlen]; exact Nat.le_of_eq (Nat.mul_one cap))⟩
      simp only [Go.convert, Sem.run_bind, run_under h1, run_under h2, Result.andThen_ok, run_under (isByteT_eq c1)]
      exact g2
    · cases hv
  · rename_i e1 e b o n c h1 h2
    split at hv
    · rename_i cs ty hb
      split at hv
      · rename_i hc
        obtain ⟨rfl, c1, c2, c3⟩ := hc
        simp only [Option.some.injEq, Prod.mk.injEq] at hv
        obtain ⟨rfl, rfl⟩ := hv
        rcases hx.slice_inv with ⟨lc, c', e1, e2, e3, e4, rfl⟩ | ⟨rfl, _, a', rfl⟩
        · have hblk := hR.blk b _ lc hb e1
          obtain ⟨hes, hcells, hown⟩ := hblk
          obtain ⟨cs', t, lo, hi, hh, hsz, hes', hfz⟩ := hown rfl
          refine ⟨E, w.freeze ⟨lc.cb, cs'.size, none⟩ 1, _, run_markStr h2 (isByteT_eq c1) hh, ?_, hx⟩
          refine Post.put hR hb e1 rfl trivial (.cells cs) (freeze_wrote w lc.cb cs'.size) ⟨hes, fun i v hv => ?_, fun _ => ?_⟩
          · obtain ⟨v', h3, h4⟩ := hcells i v hv
            refine ⟨v', ?_, h4⟩
            simp only [World.cell?, freeze_get hh, hh] at h3 ⊢
            exact h3
          · have hes1 : lc.es = 1 := by
              have := hes'
              simp only at this
              rw [c3] at this
              exact (Option.some.inj this).symm
            refine ⟨cs', t, _, _, (by rw [freeze_get hh]), hsz, hes', ?_⟩
            by_cases hlh : lo = hi
            · simp [hlh]; omega
            · simp [hlh]
              have := hfz.resolve_left hlh
              omega
        · exact absurd rfl c2
      · cases hv
    · cases hv
  · cases hv
  · cases hv
  · split at hv
    · rename_i hg
      have e := hx.ground_eq hg
      rw [← e] at hv
      cases hp : pureV P (Go.convert src dst x') with
      | none => simp [hp] at hv
      | some u =>
        simp only [hp, Option.map_some, Option.some.injEq, Prod.mk.injEq] at hv
        obtain ⟨rfl, rfl⟩ := hv
        exact ⟨E, w, u, (pureV_run (E := E) hp).1 w, Post.refl hR, (pureV_run hp).2⟩
    · cases hv
end Go.Am
set_option linter.unusedSimpArgs false
set_option linter.unusedVariables false
namespace Go.Am
variable {P : Program} [Gl P] {base : Nat} {E : Env} {h : Heap} {w : World}

theorem isIntT_eq {t : TypeId} (ht : isIntT P t = true) : ∃ k, P.underlying t = some (.int k) := by
  unfold isIntT at ht
  split at ht
  · exact ⟨_, by assumption⟩
  · cases ht
def ERel (E : Env) (es : List (Value × Value)) (es' : Array MapEntry) : Prop := es.length = es'.size ∧ ∀ (i : Nat) e e', es[i]? = some e → es'[i]? = some e' → VR E e.1 e'.key ∧ VR E e.2 e'.val
theorem findInt_run {kd : IntKind} {k : IntKind} {n : Int} : ∀ (es : List (Value × Value)) (es' : List MapEntry) (i : Nat) {r : Option (Nat × Value)}, es.length = es'.length →
    (∀ (j : Nat) e e', es[j]? = some e → es'[j]? = some e' → VR E e.1 e'.key ∧ VR E e.2 e'.val) → findInt k n es i = some r →
    (r = none ∧ Instr.findNow (.int kd) (.int k n) es' i = some none) ∨
    (∃ j v v', r = some (i + j, v) ∧ Instr.findNow (.int kd) (.int k n) es' i = some (some (i + j, v')) ∧ VR E v v' ∧ j < es.length ∧ (es'[j]?).map (·.key) = some (.int k n))
  | [], es', i, r, hl, hr, hf => by
    have : es' = [] := List.length_eq_zero_iff.1 (by simpa using hl.symm)
    subst this
    simp [findInt] at hf
    subst hf
    exact .inl ⟨rfl, rfl⟩
  | (x, v) :: es, es', i, r, hl, hr, hf => by
    cases es' with
    | nil => simp at hl
    | cons e' es' =>
      obtain ⟨h1, h2⟩ := hr 0 (x, v) e' rfl rfl
      cases x with
      | int k' m =>
        have hk : e'.key = .int k' m := by
          generalize e'.key = q at h1
          cases h1; rfl
        simp only [findInt] at hf
        split at hf
        · rename_i hkk
          subst hkk
          split at hf
          · rename_i hnm
            subst hnm
            simp only [Option.some.injEq] at hf
            subst hf
            refine .inr ⟨0, v, e'.val, rfl, ?_, h2, by simp, by simp [hk]⟩
            simp [Instr.findNow, Instr.sameNow, hk]
          · rename_i hnm
            have hb : (n == m) = false := by simpa using hnm
            have step : Instr.findNow (.int kd) (.int k n) (e' :: es') i = Instr.findNow (.int kd) (.int k n) es' (i + 1) := by
              simp [Instr.findNow, Instr.sameNow, hk, hb]
            rcases findInt_run (kd := kd) es es' (i + 1) (by simpa using hl) (fun j e e1 he he1 => hr (j + 1) e e1 (by simpa using he) (by simpa using he1)) hf with ⟨g1, g2⟩ | ⟨j, u, u', g1, g2, g3, g4, g5⟩
            · exact .inl ⟨g1, by rw [step]; exact g2⟩
            · exact .inr ⟨j + 1, u, u', by rw [g1]; congr 2; omega, by rw [step, g2]; congr 3; omega, g3, by simp; omega, by simpa using g5⟩
        · cases hf
      | _ => simp [findInt] at hf

theorem mapOf_inv {b : Nat} {es : List (Value × Value)} (hm : mapOf? h b = some es) : ∃ ty, h.blks[b]? = some ⟨.map es, ty, true⟩ := by
  unfold mapOf? at hm
  split at hm
  · simp only [Option.some.injEq] at hm
    subst hm
    exact ⟨_, by assumption⟩
  · cases hm
theorem map_read (hR : Rel P base E h w) {b : Nat} {l : Loc} {es : List (Value × Value)} (hm : mapOf? h b = some es) (hl : E b = some l) : ∃ es' clock, w.heap[l.cb]? = some (.map es' clock) ∧ ERel E es es' := by
  obtain ⟨ty, hk⟩ := mapOf_inv hm
  obtain ⟨es', clock, h1, h2, h3, _⟩ := hR.blk b _ l hk hl
  exact ⟨es', clock, h1, h2, h3⟩
theorem map_readS (hR : Rel P base E h w) {b : Nat} {l : Loc} {es : List (Value × Value)} (hm : mapOf? h b = some es) (hl : E b = some l) : ∃ es' clock, w.heap[l.cb]? = some (.map es' clock) ∧ ERel E es es' ∧ MapKept.Stamped es' clock := by
  obtain ⟨ty, hk⟩ := mapOf_inv hm
  obtain ⟨es', clock, h1, h2, h3, h4⟩ := hR.blk b _ l hk hl
  exact ⟨es', clock, h1, ⟨h2, h3⟩, h4⟩
theorem findInt_none {k : IntKind} {n : Int} : ∀ (es : List (Value × Value)) (i : Nat), findInt k n es i = some none → ∀ e ∈ es, e.1 ≠ .int k n
  | [], _, _, e, he => by cases he
  | (x, v) :: es, i, hf, e, he => by
    cases x with
    | int k' m =>
      simp only [findInt] at hf
      split at hf
      · rename_i hkk
        subst hkk
        split at hf
        · cases hf
        · rename_i hnm
          rcases List.mem_cons.1 he with rfl | he
          · intro h; cases h; exact hnm rfl
          · exact findInt_none es (i + 1) hf e he
      · cases hf
    | _ => simp [findInt] at hf
theorem erel_key {E : Env} {es : List (Value × Value)} {es' : Array MapEntry} (r : ERel E es es') {k : IntKind} {n : Int} (hn : ∀ e ∈ es, e.1 ≠ .int k n) : ∀ x ∈ es'.toList, x.key ≠ .int k n := by
  intro x hx hk
  obtain ⟨i, hi, rfl⟩ := List.getElem_of_mem hx
  have hi' : i < es.length := by rw [r.1]; simpa using hi
  obtain ⟨h1, _⟩ := r.2 i es[i] es'.toList[i] (List.getElem?_eq_getElem hi') (by rw [← Array.getElem?_toList]; exact List.getElem?_eq_getElem hi)
  rw [hk] at h1
  have := hn es[i] (List.getElem_mem hi')
  generalize es[i].1 = q at h1 this
  cases h1
  exact this rfl
theorem run_getObj_map {c : Nat} {es' : Array MapEntry} {clock : Nat} (hh : w.heap[c]? = some (.map es' clock)) : (getObj c).run P w = .ok (.map es' clock) w := by
  unfold getObj; unfold Sem.run; rw [hh]; rfl
theorem run_setObj_map {c : Nat} {es' : Array MapEntry} {clock : Nat} (hh : w.heap[c]? = some (.map es' clock)) (o : Obj) : (setObj c o).run P w = .ok () { w with heap := w.heap.setIfInBounds c o } := by
  unfold setObj; unfold Sem.run; rw [hh]; rfl
theorem run_checkKey_int {kt : TypeId} {k : IntKind} {n : Int} {kd : IntKind} (hk : P.underlying kt = some (.int kd)) (b : Bool) (w : World) : (Instr.checkKey b 10000 kt (.int k n)).run P w = .ok () w := by
  rw [show (10000 : Nat) = Nat.succ 9999 from rfl]
  unfold Instr.checkKey
  simp only [Sem.run_bind, run_under hk, Result.andThen_ok]
  rfl
theorem run_findKey {kt : TypeId} {k : IntKind} {n : Int} {kd : IntKind} {es : List MapEntry} {r : Option (Nat × Value)} (hk : P.underlying kt = some (.int kd)) (hf : Instr.findNow (.int kd) (.int k n) es 0 = some r) (w : World) : (Instr.findKey kt (.int k n) es).run P w = .ok r w := by
  simp [Instr.findKey, run_under hk, hf]

theorem lookupV_run (hR : Rel P base E h w) {t : TypeId} {m m' key key' v : Value} {ok : Bool} (hv : lookupV P t m key ok h = some v) (hm : VR E m m') (hk : VR E key key') :
    ∃ v', (Instr.lookup t m' key' ok).run P w = .ok v' w ∧ VR E v v' := by
  unfold lookupV at hv
  split at hv
  · rename_i kt et r k n h1
    obtain rfl := hk.int_inv
    cases hm with
    | map hl =>
    split at hv
    · rename_i es z h2 h3
      split at hv
      · rename_i hc
        simp only [Bool.and_eq_true] at hc
        obtain ⟨kd, hkd⟩ := isIntT_eq hc.1
        obtain ⟨es', clock, h4, h5⟩ := map_read hR h2 hl
        cases hf : findInt k n es 0 with
        | none => simp [hf] at hv
        | some f =>
          simp only [hf, Option.map_some, Option.some.injEq] at hv
          have hlist := findInt_run (E := E) (kd := kd) es es'.toList 0 (by simpa using h5.1) (fun j e e' he he' => h5.2 j e e' he (by simpa using he')) hf
          rcases hlist with ⟨rfl, g2⟩ | ⟨j, u, u', rfl, g2, g3, g4, g5⟩
          · refine ⟨if ok then .tuple #[z, .bool false] else z, ?_, ?_⟩
            · simp [Instr.lookup, run_under h1, run_getObj_map h4, run_checkKey_int hkd, run_findKey hkd g2, run_zeroT h3]
            · rw [← hv]
              cases ok
              · exact VR.of_ground hc.2
              · exact tuple2 (VR.of_ground hc.2) (.bool false)
          · refine ⟨if ok then .tuple #[u', .bool true] else u', ?_, ?_⟩
            · simp [Instr.lookup, run_under h1, run_getObj_map h4, run_checkKey_int hkd, run_findKey hkd g2]
            · rw [← hv]
              cases ok
              · exact g3
              · exact tuple2 g3 (.bool true)
      · cases hv
    · cases hv
  · cases hv

theorem wrote_set (w : World) (c : Nat) (o : Obj) : Wrote c w { w with heap := w.heap.setIfInBounds c o } :=
  ⟨rfl, rfl, rfl, by simp, fun x hx => by simp [Array.getElem?_setIfInBounds, Ne.symm hx], Nat.le_refl _⟩
theorem map_put (hR : Rel P base E h w) {b : Nat} {l : Loc} {es es1 : List (Value × Value)} (hm : mapOf? h b = some es) (hl : E b = some l) {es' es1' : Array MapEntry} {clock : Nat} (hh : w.heap[l.cb]? = some (.map es' clock)) (clock1 : Nat) (hr : ERel E es1 es1') (hst : MapKept.Stamped es1' clock1) :
    Post P base E h w E (h.put b (.map es1)) { w with heap := w.heap.setIfInBounds l.cb (.map es1' clock1) } := by
  obtain ⟨ty, hk⟩ := mapOf_inv hm
  refine Post.put hR hk hl rfl trivial _ (wrote_set w l.cb _) ⟨es1', clock1, ?_, hr.1, hr.2, hst⟩
  have := (Array.getElem?_eq_some_iff.1 hh).1
  simp [Array.getElem?_setIfInBounds, this]
theorem map_grow {b : Nat} {es es1 : List (Value × Value)} (hm : mapOf? h b = some es) : Grow h (h.put b (.map es1)) := by
  obtain ⟨ty, hk⟩ := mapOf_inv hm
  exact Grow.put hk trivial _ rfl

theorem mapUpdateV_run (hR : Rel P base E h w) {t : TypeId} {m m' key key' v v' : Value} {h' : Heap} (hv : mapUpdateV P t m key v h = some h') (hm : VR E m m') (hk : VR E key key') (hvv : VR E v v') :
    ∃ w', (Instr.mapUpdate t m' key' v').run P w = .ok () w' ∧ Post P base E h w E h' w' := by
  unfold mapUpdateV at hv
  split at hv
  · rename_i kt et r k n h1
    obtain rfl := hk.int_inv
    cases hm with
    | map hl =>
    split at hv
    · rename_i es h2
      split at hv
      · rename_i hc
        obtain ⟨kd, hkd⟩ := isIntT_eq hc
        obtain ⟨es', clock, h4, h5, h6⟩ := map_readS hR h2 hl
        cases hf : findInt k n es 0 with
        | none => simp [hf] at hv
        | some f =>
          simp only [hf, Option.map_some, Option.some.injEq] at hv
          have hlist := findInt_run (E := E) (kd := kd) es es'.toList 0 (by simpa using h5.1) (fun j e e' he he' => h5.2 j e e' he (by simpa using he')) hf
          rcases hlist with ⟨rfl, g2⟩ | ⟨j, u, u', rfl, g2, g3, g4, g5⟩
          · subst hv
            refine ⟨_, ?_, map_put hR h2 hl h4 (es1' := es'.push { key := .int k n, val := v', born := clock }) (clock + 1) ⟨by simp [h5.1], fun i e e' he he' => ?_⟩ (MapKept.stamped_push h6 (erel_key h5 (findInt_none es 0 hf)))⟩
            · simp [Instr.mapUpdate, run_under h1, run_getObj_map h4, run_checkKey_int hkd, run_findKey hkd g2, run_setObj_map h4]
            · rcases Nat.lt_or_ge i es.length with hi | hi
              · rw [List.getElem?_append_left hi] at he
                rw [Array.getElem?_push, if_neg (by have := h5.1; omega)] at he'
                exact h5.2 i e e' he he'
              · rw [List.getElem?_append_right hi] at he
                have : i - es.length = 0 := by have := (List.getElem?_eq_some_iff.1 he).1; simp at this; omega
                rw [this] at he
                simp at he
                rw [Array.getElem?_push, if_pos (by have := h5.1; omega)] at he'
                simp at he'
                subst he he'
                exact ⟨.int _ _, hvv⟩
          · simp only [Nat.zero_add] at hv g2
            subst hv
            simp only [Array.getElem?_toList] at g5
            have hkey : ∀ w, (Instr.keyThatStays (((es'[j]?).map (·.key)).getD (.int k n)) (.int k n)).run P w = .ok (.int k n) w := fun w => by
              rw [g5]
              have : Instr.sameBits 10000 (.int k n) (.int k n) = true := by rw [show (10000 : Nat) = 9999 + 1 from rfl]; simp [Instr.sameBits]
              simp [Instr.keyThatStays, this]
            refine ⟨_, ?_, map_put hR h2 hl h4 (es1' := es'.modify j fun e => { e with key := .int k n, val := v' }) clock ⟨by simp [h5.1], fun i e e' he he' => ?_⟩ (MapKept.stamped_modify h6 j _ (fun _ _ => rfl) (fun e _ he => by rw [he] at g5; simpa using g5.symm))⟩
            · simp only [Instr.mapUpdate, Sem.run_bind, run_under h1, Result.andThen_ok, run_getObj_map h4, run_checkKey_int hkd, run_findKey hkd g2, hkey, run_setObj_map h4]
            · by_cases hij : j = i
              · subst hij
                have hj' : j < es'.size := by rw [← h5.1]; exact g4
                rw [List.getElem?_set_self g4] at he
                rw [Array.getElem?_modify] at he'
                simp [hj'] at he he'
                subst he he'
                exact ⟨.int _ _, hvv⟩
              · rw [List.getElem?_set_ne hij] at he
                rw [Array.getElem?_modify, if_neg hij] at he'
                exact h5.2 i e e' he he'
      · cases hv
    · cases hv
  · cases hv

theorem deleteV_run (hR : Rel P base E h w) {t t2 : TypeId} {m m' key key' : Value} {h' : Heap} {ts : Array TypeId} (ht : ts[0]? = some t) (hv : deleteV P t m key h = some h') (hm : VR E m m') (hk : VR E key key') :
    ∃ w', (Builtin.delete_ ts t2 #[m', key']).run P w = .ok (.tuple #[]) w' ∧ Post P base E h w E h' w' := by
  unfold deleteV at hv
  split at hv
  · rename_i kt et r k n h1
    obtain rfl := hk.int_inv
    cases hm with
    | map hl =>
    split at hv
    · rename_i es h2
      split at hv
      · rename_i hc
        obtain ⟨kd, hkd⟩ := isIntT_eq hc
        obtain ⟨es', clock, h4, h5, h6⟩ := map_readS hR h2 hl
        cases hf : findInt k n es 0 with
        | none => simp [hf] at hv
        | some f =>
          simp only [hf, Option.map_some, Option.some.injEq] at hv
          have hlist := findInt_run (E := E) (kd := kd) es es'.toList 0 (by simpa using h5.1) (fun j e e' he he' => h5.2 j e e' he (by simpa using he')) hf
          rcases hlist with ⟨rfl, g2⟩ | ⟨j, u, u', rfl, g2, g3, g4, g5⟩
          · subst hv
            refine ⟨_, ?_, map_put hR h2 hl h4 (es1' := es') clock h5 h6⟩
            simp [Builtin.delete_, ht, run_under h1, run_getObj_map h4, run_checkKey_int hkd, run_findKey hkd g2, run_setObj_map h4]
          · simp only [Nat.zero_add] at hv g2
            subst hv
            have hj' : j < es'.size := by rw [← h5.1]; exact g4
            refine ⟨_, ?_, map_put hR h2 hl h4 (es1' := es'.eraseIdxIfInBounds j) clock ⟨?_, fun i e e' he he' => ?_⟩ (MapKept.stamped_erase h6 j)⟩
            · simp [Builtin.delete_, ht, run_under h1, run_getObj_map h4, run_checkKey_int hkd, run_findKey hkd g2, run_setObj_map h4]
            · rw [List.length_eraseIdx_of_lt g4, Array.eraseIdxIfInBounds, dif_pos hj', Array.size_eraseIdx, h5.1]
            · have e1 : (es'.eraseIdxIfInBounds j)[i]? = (es'.toList.eraseIdx j)[i]? := by
                rw [← Array.getElem?_toList, Array.eraseIdxIfInBounds, dif_pos hj', Array.toList_eraseIdx]
              rw [e1] at he'
              rw [List.getElem?_eraseIdx] at he he'
              split at he
              · rename_i hlt; rw [if_pos hlt] at he'; exact h5.2 i e e' he (by simpa using he')
              · rename_i hlt; rw [if_neg hlt] at he'; exact h5.2 (i + 1) e e' he (by simpa using he')
      · cases hv
    · cases hv
  · cases hv

theorem makeMapV_run (hR : Rel P base E h w) (hf : E h.blks.length = none) (t : TypeId) :
    ∃ E' w' v', (Instr.makeMap t none).run P w = .ok v' w' ∧ Post P base E h w E' (makeMapV h).2 w' ∧ VR E' (makeMapV h).1 v' := by
  refine ⟨E.upd h.blks.length ⟨w.heap.size, 0, 0, 0⟩, { w with heap := w.heap.push (.map #[] 0) }, .map (some w.heap.size), by simp [Instr.makeMap], ?_, .map (l := ⟨w.heap.size, 0, 0, 0⟩) (Env.upd_same _ _ _)⟩
  exact Post.new hR hf (.map []) 0 ⟨w.heap.size, 0, 0, 0⟩ rfl (pushed w (.map #[] 0) w.drawn (Nat.le_refl _)) ⟨#[], 0, by simp, rfl, (fun i e e' he => by simp at he), MapKept.stamped_empty 0⟩
end Go.Am
set_option linter.unusedSimpArgs false
set_option linter.unusedVariables false
namespace Go.Am
variable {P : Program} [Gl P] {base : Nat} {E : Env} {h : Heap} {w : World}

theorem Rel.drawn (hR : Rel P base E h w) (k : Nat) : Rel P base E h { w with drawn := k } :=
  ⟨fun b x l hk hl => (hR.blk b x l hk hl).congr (Ext.refl _) rfl, hR.low, hR.ro, hR.bnd, hR.inj, hR.glob.keep fun _ _ => rfl, hR.base⟩
theorem wrap_nat {l : Nat} (h : l < 2 ^ 62) : IntKind.i64.wrap (l : Int) = l := by unfold IntKind.wrap; simp [IntKind.signed, IntKind.bits]; omega

theorem map_range0 (g : Nat → Value) : (Array.range 0).map g = #[] := by simp
theorem zeroCells_rel {z : Value} (hg : ground z = true) (hz : 0 < z.cells.size) (n : Nat) : ARel E (Builtin.zeroCells z.cells n) (Builtin.zeroCells z.cells n) := by
  unfold Builtin.zeroCells; exact range_zero_rel hg hz _
theorem zeroCells_size (z : Array Value) (n : Nat) : (Builtin.zeroCells z n).size = n * z.size := by simp [Builtin.zeroCells]

theorem run_loadNk (hR : Rel P base E h w) {b o n : Nat} {l : Loc} {cs : List Value} (hc : h.loadN b o n = some cs) (hl : E b = some l) :
    ∃ cs' : List Value, LRel E cs cs' ∧ cs'.length = n ∧ ∀ k, (loadCells ⟨l.cb, l.s + o, none⟩ n).run P { w with drawn := k } = .ok cs'.toArray { w with drawn := k } := by
  obtain ⟨cs', hr, hcell⟩ := loadN_read hR hc hl
  have hlen := loadN_len hc
  have hn : cs'.length = n := by rw [← hr.1]; exact hlen
  refine ⟨cs', hr, hn, fun k => ?_⟩
  subst hn
  refine run_loadCells_list { w with drawn := k } _ cs' fun j v hv => ?_
  rw [add_none, Nat.add_assoc]; exact hcell j v hv
def isIntD : TypeDesc → Bool
  | .int _ => true
  | _ => false
inductive News (P : Program) (w : World) (ts : Array TypeId) (size bytes : Nat) (z x' : Value) (n : Nat) (news' : List Value) : Prop
  | zeros {t1 : TypeId} {kd k : IntKind} : ts[1]? = some t1 → P.underlying t1 = some (.int kd) → x' = .int k n → n * bytes ≤ 2 ^ 48 → n < 2 ^ 62 → news' = (Builtin.zeroCells z.cells n).toList → News P w ts size bytes z x' n news'
  | look {t1 : TypeId} {d : TypeDesc} : ts[1]? = some t1 → P.underlying t1 = some d → isIntD d = false → (∀ w, (Builtin.lenOf x').run P w = .ok n w) →
      (∀ k, (Builtin.firstCells size n x').run P { w with drawn := k } = .ok news'.toArray { w with drawn := k }) → News P w ts size bytes z x' n news'

theorem newsV_run (hR : Rel P base E h w) {ts : Array TypeId} {size bytes : Nat} {z x x' : Value} {n : Nat} {news : List Value} (hpos : 0 < size) (hzs : z.cells.size = size) (hg : ground z = true)
    (hv : newsV P size bytes z ts[1]? x h = some (n, news)) (hx : VR E x x') : ∃ news', News P w ts size bytes z x' n news' ∧ LRel E news news' ∧ news.length = n * size := by
  unfold newsV at hv
  cases ht : ts[1]? with
  | none => simp [ht] at hv
  | some t1 =>
    simp only [ht, Option.bind_some] at hv
    split at hv
    · rename_i k x0 hd
      split at hv
      · rename_i l hl
        split at hv
        · rename_i hc
          obtain ⟨c1, c2⟩ := hc
          simp only [Option.some.injEq, Prod.mk.injEq] at hv
          obtain ⟨rfl, rfl⟩ := hv
          obtain ⟨k1, rfl⟩ := natOf?_inv hl hx
          exact ⟨_, .zeros ht hd rfl c1 c2 rfl, (zeroCells_rel hg (by omega) _).list, by rw [Array.length_toList, zeroCells_size, hzs]⟩
        · cases hv
      · cases hv
    · rename_i d b o n0 c hnd hd
      cases hl : h.loadN b o (n0 * size) with
      | none => simp [hl] at hv
      | some cs =>
        simp only [hl, Option.map_some, Option.some.injEq, Prod.mk.injEq] at hv
        obtain ⟨rfl, rfl⟩ := hv
        have hzf : isIntD d = false := by
          cases d <;> first | rfl | exact absurd rfl (hnd _)
        rcases hx.slice_inv with ⟨lc, c', e1, e2, e3, e4, rfl⟩ | ⟨rfl, _, a', rfl⟩
        · obtain ⟨cs', hr, hn, hrun⟩ := run_loadNk hR hl e1
          exact ⟨cs', .look ht hd hzf (fun w => by simp [Builtin.lenOf]) (fun k => by simp only [Builtin.firstCells]; exact hrun k), hr, loadN_len hl⟩
        · have := loadN_len hl
          have : cs = [] := by simpa using this
          subst this
          exact ⟨[], .look ht hd hzf (fun w => by simp [Builtin.lenOf]) (fun k => by simp [Builtin.firstCells, loadCells, loadCellsFrom]), ⟨rfl, fun i v hv => by simp at hv⟩, by simp⟩
    · rename_i d n0 c hnd hd
      split at hv
      · rename_i hc
        obtain ⟨rfl, rfl⟩ := hc
        simp only [Option.some.injEq, Prod.mk.injEq] at hv
        obtain ⟨rfl, rfl⟩ := hv
        cases hx
        have hzf : isIntD d = false := by
          cases d <;> first | rfl | exact absurd rfl (hnd _)
        exact ⟨[], .look ht hd hzf (fun w => by simp [Builtin.lenOf]) (fun k => by simp [Builtin.firstCells]), ⟨rfl, fun i v hv => by simp at hv⟩, by simp⟩
      · cases hv
    · rename_i d s hnd hd
      split at hv
      · rename_i hc
        subst hc
        simp only [Option.some.injEq, Prod.mk.injEq] at hv
        obtain ⟨rfl, rfl⟩ := hv
        cases hx
        have hzf : isIntD d = false := by
          cases d <;> first | rfl | exact absurd rfl (hnd _)
        refine ⟨toBytes s, .look ht hd hzf (fun w => by simp [Builtin.lenOf]) (fun k => ?_), LRel.refl_ground (toBytes_ground s), by rw [toBytes_len]; omega⟩
        have : s.extract 0 s.size = s := by simp
        simp [Builtin.firstCells, this, toBytes]
        exact Array.ext' (by simp)
      · cases hv
    · cases hv

theorem growBy_le (need : Nat) : ∀ (r c : Nat), c ≤ need + need / 4 + 192 → Builtin.growBy need r c ≤ need + need / 4 + 192
  | 0, c, h => h
  | r + 1, c, h => by
    unfold Builtin.growBy
    split
    · exact h
    · exact growBy_le need r _ (by omega)
theorem next_le {need old : Nat} (h : old < need) : Builtin.nextslicecap need old ≤ 2 * need + 192 := by
  unfold Builtin.nextslicecap
  split
  · omega
  · split
    · omega
    · have := growBy_le need 4 old (by omega); omega

theorem typeInfo_any {t : TypeId} {bytes : Nat} (hb : bytesT P t = some bytes) : ∃ i : TypeInfo, i.bytes = bytes ∧ ∀ w, (typeInfo t).run P w = .ok i w := by
  unfold bytesT at hb
  cases hi : P.info? t with
  | none => simp [hi] at hb
  | some i => simp [hi] at hb; exact ⟨i, hb, fun w => by simp [typeInfo, hi]⟩
theorem append_moves (hR : Rel P base E h w) {ts : Array TypeId} {t0 t2 elem : TypeId} {size bytes : Nat} {z x' : Value} {n sLen c' : Nat} {base' : Option Addr} {news' old' : List Value} (h0 : ts[0]? = some t0) (hu : P.underlying t0 = some (.slice elem))
    (hs : sizeT P elem = some size) (hb : bytesT P elem = some bytes) (hz : zeroT P elem = some z) (hpos : 0 < size) (hzs : z.cells.size = size)
    (hn : News P w ts size bytes z x' n news') (hbig : (2 * (sLen + n) + 192) * bytes ≤ 2 ^ 48) (hlt : sLen + n < 2 ^ 62) (hc : c' < sLen + n)
    (hold : ∀ k, (Builtin.firstCells size sLen (.slice base' sLen c')).run P { w with drawn := k } = .ok old'.toArray { w with drawn := k }) (hol : old'.length = sLen * size) (hnl : news'.length = n * size) :
    ∃ (cap : Nat) (w' : World) (rest : List Value), sLen + n ≤ cap ∧ (Builtin.append_ ts t2 #[.slice base' sLen c', x']).run P w = .ok (.slice (some ⟨w.heap.size, 0, none⟩) (sLen + n) cap) w' ∧ Pushed w w' ∧
      w'.heap[w.heap.size]? = some (.cells ((old' ++ news') ++ rest).toArray elem (0, 0)) ∧ (old' ++ news').length + rest.length = cap * size := by
  obtain ⟨i, h8, hbytes⟩ := typeInfo_any hb
  let q : Question := .appendCap (sLen + n) c' elem
  let cap := q.cut (w.tape w.drawn q)
  have hcap : sLen + n ≤ cap := cut_ge _
  let w1 : World := { w with drawn := w.drawn + 1 }
  let rest := (Builtin.zeroCells z.cells (cap - (sLen + n))).toList
  have hnext : ¬ (Builtin.nextslicecap (sLen + n) c' * i.bytes > 2 ^ 48) := by
    rw [h8]
    have := Nat.mul_le_mul_right bytes (next_le hc)
    omega
  have hmax : ¬ (((sLen + n : Nat) : Int) > IntKind.i64.max) := by
    have : IntKind.i64.max = 9223372036854775807 := rfl
    omega
  have hfit : ¬ (sLen + n ≤ c') := by omega
  have hq : ∀ w : World, (choose q).run P w = .ok (q.cut (w.tape w.drawn q)) { w with drawn := w.drawn + 1 } := fun w => by rw [run_choose]; rfl
  have hold' := hold (w.drawn + 1)
  refine ⟨cap, { w1 with heap := w1.heap.push (.cells (old'.toArray ++ news'.toArray ++ Builtin.zeroCells z.cells (cap - (sLen + n))) elem) }, rest, hcap, ?_, pushed w _ _ (Nat.le_succ _), ?_, ?_⟩
  · cases hn with
    | zeros g1 g2 g3 g4 g5 g6 =>
      subst g3
      have g6' : Builtin.zeroCells z.cells n = news'.toArray := by rw [g6]
      have c1' : n * i.bytes ≤ 281474976710656 := by rw [h8]; exact g4
      have hle : ¬ (281474976710656 < (n : Int) * (i.bytes : Int)) := by rw [← Int.natCast_mul]; generalize n * i.bytes = q at c1'; omega
      have hle' : ¬ ((n : Int) * (i.bytes : Int) > 2 ^ 48) := hle
      have hneg : ¬ ((n : Int) < 0) := by omega
      have happ : (if n * size = 0 then pure #[] else do pure (Builtin.zeroCells (← zeroValue elem).cells n) : Sem (Array Value)).run P w1 = .ok news'.toArray w1 := by
        by_cases h0 : n * size = 0
        · have : n = 0 := by rcases Nat.mul_eq_zero.1 h0 with h | h <;> omega
          subst this
          have e3 : Builtin.zeroCells z.cells 0 = #[] := by unfold Builtin.zeroCells; rw [Nat.zero_mul]; exact map_range0 _
          rw [← g6', e3]
          simp
        · simp [h0, run_zeroT hz, g6']
      simp only [Builtin.append_, h0, g1, List.getElem?_toArray, List.getElem?_cons_zero, List.getElem?_cons_succ, Sem.run_bind, run_under hu, run_under g2, Result.andThen_ok, run_sizeT hs, Sem.run_pure, if_true, asInt, asIntOf, wrap_nat g5]
      rw [if_neg hneg]
      simp only [Sem.run_bind, hbytes, Result.andThen_ok]
      rw [if_neg hle']
      simp only [Sem.run_bind, Sem.run_pure, Result.andThen_ok, Int.toNat_natCast]
      rw [if_neg hfit]
      simp only [Sem.run_bind, hbytes, Result.andThen_ok]
      rw [if_neg (fun h => hmax h.1)]
      simp only [Sem.run_bind, hbytes, Result.andThen_ok]
      rw [if_neg hnext]
      simp only [Sem.run_bind, hbytes, Result.andThen_ok, run_choose, Question.forced, Bool.false_eq_true, if_false, run_askRoom, hold']
      simp only [Bool.not_true, Bool.false_eq_true, if_false]
      rw [happ]
      simp only [Result.andThen_ok, run_zeroT hz, newRow, Sem.run_bind, run_newObj, Sem.run_pure]
      rfl
    | look g1 g2 g3 g4 g5 =>
      rename_i t1 d
      have g5' := g5 (w.drawn + 1)
      have run : ∀ d, P.underlying t1 = some d → isIntD d = false → (Builtin.append_ ts t2 #[.slice base' sLen c', x']).run P w = .ok (.slice (some ⟨w.heap.size, 0, none⟩) (sLen + n) cap) { w1 with heap := w1.heap.push (.cells (old'.toArray ++ news'.toArray ++ Builtin.zeroCells z.cells (cap - (sLen + n))) elem) } := by
        intro d g2 g3
        cases d
        case int => simp [isIntD] at g3
        all_goals
          simp only [Builtin.append_, h0, g1, List.getElem?_toArray, List.getElem?_cons_zero, List.getElem?_cons_succ, Sem.run_bind, run_under hu, run_under g2, Result.andThen_ok, run_sizeT hs, Sem.run_pure]
          simp only [Bool.false_eq_true, if_false, Sem.run_bind, g4, Result.andThen_ok]
          rw [if_neg hfit]
          simp only [Sem.run_bind, hbytes, Result.andThen_ok]
          rw [if_neg (fun h => hmax h.1)]
          simp only [Sem.run_bind, hbytes, Result.andThen_ok]
          rw [if_neg hnext]
          simp only [Sem.run_bind, hbytes, Result.andThen_ok, run_choose, Question.forced, Bool.false_eq_true, if_false, run_askRoom, hold']
          simp only [Bool.not_false, if_true]
          rw [g5']
          simp only [Result.andThen_ok, run_zeroT hz, newRow, Sem.run_bind, run_newObj, Sem.run_pure]
          rfl
      exact run d g2 g3
  · have : (((old' ++ news') ++ rest).toArray : Array Value) = old'.toArray ++ news'.toArray ++ Builtin.zeroCells z.cells (cap - (sLen + n)) := by
      apply Array.ext'
      simp [rest]
    rw [this]
    exact pushed_get w _
  · have : rest.length = (cap - (sLen + n)) * size := by simp only [rest]; rw [Array.length_toList, zeroCells_size, hzs]
    rw [List.length_append, hol, hnl, this, ← Nat.add_mul, ← Nat.add_mul]
    congr 1
    omega
end Go.Am
set_option linter.unusedSimpArgs false
set_option linter.unusedVariables false
namespace Go.Am
variable {P : Program} [Gl P] {base : Nat} {E : Env} {h : Heap} {w : World}

theorem append_stays {ts : Array TypeId} {t0 t2 elem : TypeId} {size bytes : Nat} {z x' : Value} {n sLen c' : Nat} {base' : Option Addr} {news' : List Value} {w' : World} (h0 : ts[0]? = some t0) (hu : P.underlying t0 = some (.slice elem))
    (hs : sizeT P elem = some size) (hb : bytesT P elem = some bytes) (hz : zeroT P elem = some z) (hpos : 0 < size)
    (hn : News P w ts size bytes z x' n news') (hfit : sLen + n ≤ c') (hst : ∀ a', base' = some a' → (storeCells (a'.add (sLen * size)) news').run P w = .ok () w') (hnone : base' = none → w' = w) :
    (Builtin.append_ ts t2 #[.slice base' sLen c', x']).run P w = .ok (.slice base' (sLen + n) c') w' := by
  obtain ⟨i, h8, hbytes⟩ := typeInfo_any hb
  cases hn with
  | zeros g1 g2 g3 g4 g5 g6 =>
    subst g3
    have g6' : Builtin.zeroCells z.cells n = news'.toArray := by rw [g6]
    have c1' : n * i.bytes ≤ 281474976710656 := by rw [h8]; exact g4
    have hle : ¬ (281474976710656 < (n : Int) * (i.bytes : Int)) := by rw [← Int.natCast_mul]; generalize n * i.bytes = q at c1'; omega
    have hle' : ¬ ((n : Int) * (i.bytes : Int) > 2 ^ 48) := hle
    have hneg : ¬ ((n : Int) < 0) := by omega
    have happ : (if n * size = 0 then pure #[] else do pure (Builtin.zeroCells (← zeroValue elem).cells n) : Sem (Array Value)).run P w = .ok news'.toArray w := by
      by_cases h0 : n * size = 0
      · have : n = 0 := by rcases Nat.mul_eq_zero.1 h0 with h | h <;> omega
        subst this
        have e3 : Builtin.zeroCells z.cells 0 = #[] := by unfold Builtin.zeroCells; rw [Nat.zero_mul]; exact map_range0 _
        rw [← g6', e3]
        simp
      · simp [h0, run_zeroT hz, g6']
    simp only [Builtin.append_, h0, g1, List.getElem?_toArray, List.getElem?_cons_zero, List.getElem?_cons_succ, Sem.run_bind, run_under hu, run_under g2, Result.andThen_ok, run_sizeT hs, Sem.run_pure, if_true, asInt, asIntOf, wrap_nat g5]
    rw [if_neg hneg]
    simp only [Sem.run_bind, hbytes, Result.andThen_ok]
    rw [if_neg hle']
    simp only [Sem.run_bind, Sem.run_pure, Result.andThen_ok, Int.toNat_natCast]
    rw [if_pos hfit]
    simp only [Sem.run_bind, Bool.not_true, Bool.false_eq_true, if_false]
    rw [happ]
    cases base' with
    | none => obtain rfl := hnone rfl; simp only [Result.andThen_ok, Sem.run_pure]
    | some a' => simp only [Result.andThen_ok, Sem.run_bind, hst a' rfl, Sem.run_pure]
  | look g1 g2 g3 g4 g5 =>
    rename_i t1 d
    have g5' := g5 w.drawn
    have run : ∀ d, P.underlying t1 = some d → isIntD d = false → (Builtin.append_ ts t2 #[.slice base' sLen c', x']).run P w = .ok (.slice base' (sLen + n) c') w' := by
      intro d g2 g3
      cases d
      case int => simp [isIntD] at g3
      all_goals
        simp only [Builtin.append_, h0, g1, List.getElem?_toArray, List.getElem?_cons_zero, List.getElem?_cons_succ, Sem.run_bind, run_under hu, run_under g2, Result.andThen_ok, run_sizeT hs, Sem.run_pure]
        simp only [Bool.false_eq_true, if_false, Sem.run_bind, g4, Result.andThen_ok]
        rw [if_pos hfit]
        simp only [Sem.run_bind, Bool.not_false, if_true]
        rw [show ({ w with drawn := w.drawn } : World) = w from rfl] at g5'
        rw [g5']
        cases base' with
        | none => obtain rfl := hnone rfl; simp only [Result.andThen_ok, Sem.run_pure]
        | some a' => simp only [Result.andThen_ok, Sem.run_bind, hst a' rfl, Sem.run_pure]
    exact run d g2 g3

theorem Post.kill (hR : Rel P base E h w) {b : Nat} {k : Blk} {l : Loc} (hk : h.blks[b]? = some k) (hl : E b = some l) (ho : k.own = true) (hv : k.live) (hes : sizeT P k.ty = some l.es) : Post P base E h w E (h.put b .dead) w :=
  Post.put hR hk hl ho hv .dead ⟨rfl, rfl, rfl, rfl, fun _ _ => rfl, Nat.le_refl _⟩ hes
theorem Post.kill_none (hR : Rel P base E h w) {b : Nat} (hb : E b = none) : Post P base E h w E (h.put b .dead) w := by
  have hget : ∀ x l, E x = some l → (h.put b .dead).blks[x]? = h.blks[x]? := fun x l hl => Heap.put_other (fun e => by rw [e, hb] at hl; cases hl) _
  refine ⟨Ext.refl _, fun x h0 hn => absurd h0 hn, ⟨fun x y l hx hl => ?_, fun x y l hx hl => ?_, fun x y l hx hl => ?_, hR.bnd, fun x x2 y y2 l l2 hx hx2 hl hl2 => ?_, hR.glob, hR.base⟩, Fr.refl _ _ _, fun x y l h0 h1 => by rw [h0] at h1; cases h1⟩
  · rw [hget x l hl] at hx; exact hR.blk x y l hx hl
  · rw [hget x l hl] at hx; exact hR.low x y l hx hl
  · rw [hget x l hl] at hx; exact hR.ro x y l hx hl
  · rw [hget x l hl] at hx; rw [hget x2 l2 hl2] at hx2; exact hR.inj x x2 y y2 l l2 hx hx2 hl hl2
theorem LRel.append {a a' b b' : List Value} (h1 : LRel E a a') (h2 : LRel E b b') : LRel E (a ++ b) (a' ++ b') := by
  refine ⟨by simp [h1.1, h2.1], fun i v hv => ?_⟩
  rcases Nat.lt_or_ge i a.length with hi | hi
  · rw [List.getElem?_append_left hi] at hv
    rw [List.getElem?_append_left (by rw [← h1.1]; exact hi)]
    exact h1.2 i v hv
  · rw [List.getElem?_append_right hi] at hv
    rw [List.getElem?_append_right (by rw [← h1.1]; exact hi), ← h1.1]
    exact h2.2 _ v hv
theorem LRel.mono {E' : Env} (hE : Ext E E') {a a' : List Value} (h1 : LRel E a a') : LRel E' a a' := ⟨h1.1, fun i v hv => let ⟨v', a, b⟩ := h1.2 i v hv; ⟨v', a, b.mono hE⟩⟩
theorem LRel.all_one {vs vs' : List Value} (hv : LRel E vs vs') (h1 : vs.all Value.oneCell' = true) : ∀ v ∈ vs', v.oneCell' = true := fun v hm => by
  obtain ⟨j, hj, rfl⟩ := List.getElem_of_mem hm
  have hj' : j < vs.length := hv.1 ▸ hj
  obtain ⟨v', hv', hr⟩ := hv.2 j vs[j] (List.getElem?_eq_getElem hj')
  rw [List.getElem?_eq_getElem hj] at hv'
  simp at hv'
  rw [hv', hr.oneCell]
  exact List.all_eq_true.1 h1 _ (List.getElem_mem hj')

theorem appendV_run (hR : Rel P base E h w) {ts : Array TypeId} {t0 t2 : TypeId} {s s' x x' v : Value} {h' : Heap} (h0 : ts[0]? = some t0) (hfree : Free E h h') (hv : appendV P t0 ts[1]? s x h = some (v, h')) (hss : VR E s s') (hx : VR E x x') :
    ∃ E' w' v', (Builtin.append_ ts t2 #[s', x']).run P w = .ok v' w' ∧ Post P base E h w E' h' w' ∧ VR E' v v' := by
  unfold appendV at hv
  split at hv
  · rename_i elem base0 sLen sCap hu
    split at hv
    · rename_i size bytes z hs hb hz
      split at hv
      · rename_i n news hnv
        split at hv
        · rename_i hc
          obtain ⟨hpos, hzs, hg, hbig, hlt, hone⟩ := hc
          obtain ⟨news', hN, hnr, hnl⟩ := newsV_run hR (x' := x') hpos hzs hg hnv hx
          have hnl' : news'.length = n * size := by rw [← hnr.1]; exact hnl
          split at hv
          · -- nothing is appended
            rename_i hn0
            subst hn0
            simp only [Option.some.injEq, Prod.mk.injEq] at hv
            obtain ⟨rfl, rfl⟩ := hv
            have hnil : news' = [] := by simpa using hnl'
            subst hnil
            have stay : ∀ (a' : Option Addr) c', sLen ≤ c' → (Builtin.append_ ts t2 #[.slice a' sLen c', x']).run P w = .ok (.slice a' sLen c') w := fun a' c' hle => by
              have := append_stays (P := P) (t2 := t2) (w' := w) (base' := a') h0 hu hs hb hz hpos hN (sLen := sLen) (c' := c') (by omega) (fun _ _ => by simp [storeCells]) (fun _ => rfl)
              simpa using this
            cases base0 with
            | some a =>
              obtain ⟨b, o, sp⟩ := a
              cases hss with
              | slice e1 e2 e3 e4 => exact ⟨E, w, _, stay _ _ e3, Post.refl hR, .slice e1 e2 e3 e4⟩
              | sliceEmpty e => exact ⟨E, w, _, stay _ _ (Nat.le_refl _), Post.refl hR, .sliceEmpty e⟩
            | none =>
              cases hss
              exact ⟨E, w, _, stay none 0 (Nat.le_refl _), Post.refl hR, .sliceNil⟩
          · rename_i hn0
            -- a row that moves, of a heap h1 that has as many blocks as h
            have moves : ∀ (h1 : Heap), Rel P base E h1 w → h1.blks.length = h.blks.length → E h.blks.length = none → ∀ (base' : Option Addr) (c' : Nat) (old old' : List Value), LRel E old old' → old.length = sLen * size → c' < sLen + n →
                (∀ k, (Builtin.firstCells size sLen (.slice base' sLen c')).run P { w with drawn := k } = .ok old'.toArray { w with drawn := k }) →
                ∃ E' w' v', (Builtin.append_ ts t2 #[.slice base' sLen c', x']).run P w = .ok v' w' ∧ Post P base E h1 w E' (h1.new (.cells (old ++ news)) elem) w' ∧ VR E' (.slice (some ⟨h.blks.length, 0, none⟩) (sLen + n) UNK) v' := by
              intro h1 hR1 hlen hfr base' c' old old' hor hol hlt' hold
              obtain ⟨cap, w', rest, g1, g2, g3, g4, g5⟩ := append_moves (t2 := t2) hR h0 hu hs hb hz hpos hzs hN hbig hlt hlt' hold (by rw [← hor.1]; exact hol) hnl'
              have hp := row_new (cs := old ++ news) (cs' := old' ++ news') (rest := rest) hR1 (by rw [hlen]; exact hfr) hs (hor.append hnr) w' g3 0 0 g4 (.inl rfl)
              refine ⟨_, w', _, g2, hp, ?_⟩
              rw [hlen, g5]
              exact VR.new_slice (l := ⟨w.heap.size, 0, cap * size, size⟩) (Env.upd_same _ _ _) rfl (.inl rfl) g1 (fun _ => Nat.le_refl _)
            split at hv
            · -- the capacity is not known
              rename_i hU
              subst hU
              split at hv
              · rename_i b o
                split at hv
                · rename_i cs ty hk
                  split at hv
                  · rename_i hty
                    obtain ⟨rfl, hle⟩ := hty
                    simp only [Option.some.injEq, Prod.mk.injEq] at hv
                    obtain ⟨rfl, rfl⟩ := hv
                    have hfr : E h.blks.length = none := hfree _ (Nat.le_refl _) (by rw [Heap.new_len, Heap.put_len]; omega)
                    have kill : ∀ l, E b = some l → ∀ (base' : Option Addr) (c' : Nat) (old' : List Value), LRel E ((cs.drop o).take (sLen * size)) old' → c' < sLen + n →
                        (∀ k, (Builtin.firstCells size sLen (.slice base' sLen c')).run P { w with drawn := k } = .ok old'.toArray { w with drawn := k }) →
                        ∃ E' w' v', (Builtin.append_ ts t2 #[.slice base' sLen c', x']).run P w = .ok v' w' ∧ Post P base E h w E' ((h.put b .dead).new (.cells ((cs.drop o).take (sLen * size) ++ news)) ty) w' ∧ VR E' (.slice (some ⟨h.blks.length, 0, none⟩) (sLen + n) UNK) v' := by
                      intro l hl base' c' old' hor hlt' hold
                      have pk := Post.kill hR hk hl rfl trivial (hR.blk b _ l hk hl).1
                      obtain ⟨E', w', v', q1, q2, q3⟩ := moves (h.put b .dead) pk.rel (Heap.put_len _ _ _) hfr base' c' _ old' hor (by simp; omega) hlt' hold
                      exact ⟨E', w', v', q1, pk.trans q2 (Grow.put hk trivial _ rfl) (Grow.new _ _ _ (by simp [Body.kind])) (by intro x hx hx'; exact hfree x hx hx'), q3⟩
                    have hload : h.loadN b o (sLen * size) = some ((cs.drop o).take (sLen * size)) := by
                      unfold Heap.loadN Heap.cells?
                      simp only [hk]
                      rw [if_pos hle]
                    rcases hss.slice_inv with ⟨l, c', e1, e2, e3, e4, rfl⟩ | ⟨rfl, e2, a', rfl⟩
                    · obtain ⟨old', hor, hol, hold⟩ := run_loadNk hR hload e1
                      rcases Nat.lt_or_ge c' (sLen + n) with hlt' | hfit
                      · exact kill l e1 _ c' old' hor hlt' (fun k => by simp only [Builtin.firstCells]; exact hold k)
                      · -- in place
                        have hblk := hR.blk b _ l hk e1
                        have hes : l.es = size := by have := hblk.1; simp only at this; rw [hs] at this; simpa using this.symm
                        obtain ⟨c, e, lo, hi, hheap, hsz, _, hfz⟩ := hblk.2.2 rfl
                        have hb4 := e4 rfl
                        rw [hes] at hb4
                        have hroom : l.s + o + sLen * size + n * size ≤ c.size := by
                          have : (sLen + n) * size ≤ c' * size := Nat.mul_le_mul_right _ hfit
                          rw [Nat.add_mul] at this
                          omega
                        have hcell : ∀ j, j < news'.length → (w.cell? ⟨l.cb, l.s + o + sLen * size + j, none⟩).isSome = true := fun j hj => by
                          simp only [World.cell?, hheap]
                          simp
                          omega
                        have hfz' : ∀ j, j < news'.length → w.frozen? ⟨l.cb, l.s + o + sLen * size + j, none⟩ = false := fun j hj => by
                          have : l.s + o + sLen * size + j < l.sz := by rw [← hsz]; omega
                          simp only [World.frozen?, hheap]
                          simp
                          omega
                        have hst := run_storeCells_cells (P := P) l.cb (l.s + o + sLen * size) news' 0 w (by simpa using hcell) (by simpa using hfz') (hnr.all_one hone)
                        rw [Nat.add_zero] at hst
                        refine ⟨_, w.setCells l.cb (l.s + o + sLen * size) news', _, append_stays (t2 := t2) h0 hu hs hb hz hpos hN hfit (fun a' ha' => by cases ha'; rw [add_none]; exact hst) (fun h => by cases h),
                          Post.alias hR hfr hk e1 rfl trivial hblk.1 _ _ ⟨l.cb, l.s + o, l.sz, size⟩ rfl (setCells_far _ _ _ _) ⟨hs, fun i v hi' => ?_, fun _ => ?_⟩, ?_⟩
                        · -- what stands in the cells now
                          have htk : ((cs.drop o).take (sLen * size)).length = sLen * size := loadN_len hload
                          rcases Nat.lt_or_ge i (sLen * size) with h2 | h2
                          · rw [List.getElem?_append_left (by omega), List.getElem?_take, if_pos h2, List.getElem?_drop] at hi'
                            obtain ⟨v', hv', hr⟩ := hblk.2.1 (o + i) v hi'
                            refine ⟨v', ?_, hr⟩
                            rw [World.cell?_setCells_out l.cb news' _ w _ (fun _ _ => by simp only; omega)]
                            rw [Nat.add_assoc]; exact hv'
                          · rw [List.getElem?_append_right (by omega), htk] at hi'
                            obtain ⟨v', hv', hr⟩ := hnr.2 _ v hi'
                            have hj' := (List.getElem?_eq_some_iff.1 hv').1
                            have := World.cell?_setCells_in l.cb news' (l.s + o + sLen * size) w hcell (i - sLen * size) hj'
                            rw [show l.s + o + sLen * size + (i - sLen * size) = l.s + o + i by omega] at this
                            rw [List.getElem?_eq_getElem hj'] at hv'
                            exact ⟨v', by simp only; rw [this]; exact hv', hr⟩
                        · obtain ⟨c2, hb', hs'⟩ := setCells_block l.cb news' (l.s + o + sLen * size) w hheap
                          exact ⟨c2, e, lo, hi, hb', by rw [hs', hsz], hs, by show lo = hi ∨ l.sz ≤ lo ∧ size = 1; rw [← hes]; exact hfz⟩
                        · have := VR.slice (E := E.upd h.blks.length ⟨l.cb, l.s + o, l.sz, size⟩) (b := h.blks.length) (o := 0) (n := sLen + n) (c := UNK) (c' := c') (Env.upd_same _ _ _) (.inl rfl) hfit (fun _ => by simpa using hb4)
                          simpa using this
                    · -- it has no room at all: its address says nothing
                      have pk : Post P base E h w E (h.put b .dead) w := by
                        cases hb2 : E b with
                        | none => exact Post.kill_none hR hb2
                        | some l => exact Post.kill hR hk hb2 rfl trivial (hR.blk b _ l hk hb2).1
                      obtain ⟨E', w', v', q1, q2, q3⟩ := moves (h.put b .dead) pk.rel (Heap.put_len _ _ _) hfr (some a') 0 [] [] ⟨rfl, fun i v hv => by simp at hv⟩ (by simp) (by omega) (fun k => by simp [Builtin.firstCells, loadCells, loadCellsFrom])
                      refine ⟨E', w', v', q1, ?_, q3⟩
                      have := pk.trans q2 (Grow.put hk trivial _ rfl) (Grow.new _ _ _ (by simp [Body.kind])) (by intro x hx hx'; exact hfree x hx (by simpa using hx'))
                      simpa using this
                  · cases hv
                · cases hv
              · cases hv
            · rename_i hU
              split at hv
              · -- known, and there is room
                rename_i hfit
                split at hv
                · rename_i b o
                  cases hst0 : h.storeN b (o + sLen * size) news with
                  | none => simp [hst0] at hv
                  | some h1 =>
                    simp only [hst0, Option.map_some, Option.some.injEq, Prod.mk.injEq] at hv
                    obtain ⟨rfl, rfl⟩ := hv
                    rcases hss.slice_inv with ⟨l, c', e1, e2, e3, e4, rfl⟩ | ⟨rfl, e2, a', rfl⟩
                    · obtain rfl : sCap = c' := by
                        rcases e2 with e | ⟨e, _⟩
                        · exact absurd e hU
                        · exact e
                      obtain ⟨w', g1, g2⟩ := storeN_run hR hst0 e1 hnr hone
                      refine ⟨E, w', _, append_stays (t2 := t2) h0 hu hs hb hz hpos hN hfit (fun a' ha' => by cases ha'; rw [add_none, Nat.add_assoc]; exact g1) (fun h => by cases h), g2, .slice e1 e2 hfit e4⟩
                    · rcases e2 with e | e
                      · exact absurd e hU
                      · omega
                · cases hv
              · rename_i hnfit
                split at hv
                · rename_i b o
                  cases hl : h.loadN b o (sLen * size) with
                  | none => simp [hl] at hv
                  | some old =>
                    simp only [hl, Option.map_some, Option.some.injEq, Prod.mk.injEq] at hv
                    obtain ⟨rfl, rfl⟩ := hv
                    have hfr : E h.blks.length = none := hfree _ (Nat.le_refl _) (by rw [Heap.new_len]; omega)
                    rcases hss.slice_inv with ⟨l, c', e1, e2, e3, e4, rfl⟩ | ⟨rfl, e2, a', rfl⟩
                    · obtain rfl : sCap = c' := by
                        rcases e2 with e | ⟨e, _⟩
                        · exact absurd e hU
                        · exact e
                      obtain ⟨old', hor, hol, hold⟩ := run_loadNk hR hl e1
                      exact moves h hR rfl hfr _ sCap old old' hor (loadN_len hl) (by omega) (fun k => by simp only [Builtin.firstCells]; exact hold k)
                    · have : old = [] := by have := loadN_len hl; simpa using this
                      subst this
                      exact moves h hR rfl hfr _ 0 [] [] ⟨rfl, fun i v hv => by simp at hv⟩ (by simp) (by omega) (fun k => by simp [Builtin.firstCells, loadCells, loadCellsFrom])
                · split at hv
                  · rename_i hs0
                    subst hs0
                    simp only [Option.some.injEq, Prod.mk.injEq] at hv
                    obtain ⟨rfl, rfl⟩ := hv
                    have hfr : E h.blks.length = none := hfree _ (Nat.le_refl _) (by rw [Heap.new_len]; omega)
                    cases hss
                    have := moves h hR rfl hfr none 0 [] [] ⟨rfl, fun i v hv => by simp at hv⟩ (by simp) (by omega) (fun k => by simp [Builtin.firstCells])
                    simpa using this
                  · cases hv
                · cases hv
        · cases hv
      · cases hv
    · cases hv
  · cases hv

theorem appendV_grow {t0 : TypeId} {t1 : Option TypeId} {s x v : Value} {h' : Heap} (hv : appendV P t0 t1 s x h = some (v, h')) : Grow h h' := by
  unfold appendV at hv
  split at hv
  · split at hv
    · split at hv
      · split at hv
        · split at hv
          · simp only [Option.some.injEq, Prod.mk.injEq] at hv
            rw [← hv.2]; exact Grow.refl _
          · split at hv
            · split at hv
              · split at hv
                · rename_i hk
                  split at hv
                  · simp only [Option.some.injEq, Prod.mk.injEq] at hv
                    rw [← hv.2]; exact Grow.alias hk trivial rfl _ _ (by simp [Body.kind])
                  · cases hv
                · cases hv
              · cases hv
            · split at hv
              · split at hv
                · rename_i n news _ _ _ _ _ _ b o
                  cases hst0 : h.storeN b (o + _ * _) news with
                  | none => rw [hst0] at hv; cases hv
                  | some h1 =>
                    rw [hst0] at hv
                    simp only [Option.map_some, Option.some.injEq, Prod.mk.injEq] at hv
                    rw [← hv.2]; exact storeN_grow hst0
                · cases hv
              · split at hv
                · rename_i b o
                  cases hl : h.loadN b o (_ * _) with
                  | none => rw [hl] at hv; cases hv
                  | some old =>
                    rw [hl] at hv
                    simp only [Option.map_some, Option.some.injEq, Prod.mk.injEq] at hv
                    rw [← hv.2]; exact (Grow.new _ _ _ (by simp [Body.kind]))
                · split at hv
                  · simp only [Option.some.injEq, Prod.mk.injEq] at hv
                    rw [← hv.2]; exact (Grow.new _ _ _ (by simp [Body.kind]))
                  · cases hv
                · cases hv
        · cases hv
      · cases hv
    · cases hv
  · cases hv

end Go.Am
set_option linter.unusedSimpArgs false
set_option linter.unusedVariables false
namespace Go.Am
variable {P : Program} [Gl P] {base : Nat} {E : Env} {h : Heap} {w : World}

def EvSound (P : Program) [Gl P] (base : Nat) (ev : Ev) : Prop := ∀ f args h v h' E w args', ev f args h = some (v, h') → Rel P base E h w → ARel E args args' → Free E h h' →
  Calls P f args' w fun e w' => ∃ v' E', e = .returned v' ∧ Post P base E h w E' h' w' ∧ VR E' v v'
def EvGrow (ev : Ev) : Prop := ∀ f args h v h', ev f args h = some (v, h') → Grow h h'

def UponK (P : Program) (K : Value → World → Prop) : Result Next → Prop
  | .ok (.value v) w => K v w
  | .ok .skip w => K undef w
  | .ok (.enter f args) w => Calls P f args w fun e w' => ∃ v, e = .returned v ∧ K v w'
  | _ => False
theorem UponK.wp {K : Value → World → Prop} {o : Oper} {a : Act} {next : Act → World → Prop} {Q : Exit → Act → World → Prop} (hK : ∀ v w, K v w → next (a.put o.dst v) w) {w : World} (h : UponK P K ((execOp a.eval o).run P w)) : o.wp P a w next Q := by
  unfold Oper.wp
  generalize (execOp a.eval o).run P w = r at h
  cases r with
  | halt x w' => exact h.elim
  | ok n w' =>
    cases n with
    | value v => exact hK _ _ h
    | skip => exact hK _ _ h
    | enter f args =>
      show Calls P f args w' _
      refine Calls.mono h ?_
      rintro e w2 ⟨v, rfl, hv⟩
      exact hK _ _ hv
    | _ => exact h.elim
def OpOk (P : Program) [Gl P] (base : Nat) (E : Env) (h : Heap) (w : World) (o : Oper) (ρ : Operand → Value) (v : Value) (h' : Heap) : Prop :=
  ∀ (K : Value → World → Prop), (∀ E' w' v', Post P base E h w E' h' w' → VR E' v v' → K v' w') → UponK P K ((execOp ρ o).run P w)
theorem OpOk.value {o : Oper} {ρ : Operand → Value} {v v' : Value} {h' : Heap} {E' : Env} {w' : World} (hr : (execOp ρ o).run P w = .ok (.value v') w') (hp : Post P base E h w E' h' w') (hv : VR E' v v') : OpOk P base E h w o ρ v h' := by
  intro K hk
  rw [hr]
  exact hk _ _ _ hp hv
theorem OpOk.skip {o : Oper} {ρ : Operand → Value} {h' : Heap} {E' : Env} {w' : World} (hr : (execOp ρ o).run P w = .ok .skip w') (hp : Post P base E h w E' h' w') : OpOk P base E h w o ρ undef h' := by
  intro K hk
  rw [hr]
  exact hk _ _ _ hp VR.undef

theorem evalO_rel {T : Array Value} {a : Act} (hT : ARel E T a.tmps) {x : Operand} (hc : constOk x = true) : VR E (evalO T x) (a.eval x) := by
  cases x with
  | tmp t => exact hT.getD t
  | const v => exact VR.of_ground hc
  | global g => cases hc
  | func f => exact .func rfl (fun i h => by simp at h) rfl (fun i h => by simp at h)
theorem args_rel {T : Array Value} {ρ : Operand → Value} {l : Array Operand} (hx : ∀ x, x ∈ l → VR E (evalO T x) (ρ x)) : ARel E (l.map (evalO T)) (l.map ρ) := by
  refine ⟨by simp, fun i h1 h2 => ?_⟩
  simp at h1
  simp only [Array.getElem_map]
  exact hx _ (Array.getElem_mem h1)
theorem parts_rel {T : Array Value} {ρ : Operand → Value} {l : Array (Nat × Operand)} (hx : ∀ x ∈ l.toList, VR E (evalO T x.2) (ρ x.2)) : PRel E (l.map fun x => (x.1, evalO T x.2)).toList (l.map fun (i, x) => (i, ρ x)).toList := by
  refine ⟨by simp, fun i x hxx => ?_⟩
  simp only [Array.toList_map, List.getElem?_map, Option.map_eq_some_iff] at hxx ⊢
  obtain ⟨y, hy, rfl⟩ := hxx
  exact ⟨ρ y.2, ⟨y, hy, rfl⟩, hx y (List.mem_of_getElem? hy)⟩
theorem opt_rel {T : Array Value} {ρ : Operand → Value} {x : Option Operand} (hx : ∀ y, x = some y → VR E (evalO T y) (ρ y)) : ORel E (x.map (evalO T)) (x.map ρ) := by
  cases x with
  | none => trivial
  | some y => exact hx y rfl

theorem lenV_run (hR : Rel P base E h w) {ts : Array TypeId} {t0 t2 : TypeId} {x x' v : Value} (h0 : ts[0]? = some t0) (hv : lenV P t0 x h = some v) (hx : VR E x x') : ∃ v', (Builtin.len_ ts t2 #[x']).run P w = .ok v' w ∧ VR E v v' := by
  unfold lenV at hv
  split at hv
  · rename_i elem a n c hu
    simp only [Option.some.injEq] at hv
    subst hv
    have : ∃ a' c', x' = .slice a' n c' := by cases hx <;> exact ⟨_, _, rfl⟩
    obtain ⟨a', c', rfl⟩ := this
    exact ⟨_, by simp [Builtin.len_, h0, run_under hu, goInt], .int _ _⟩
  · rename_i s hu
    simp only [Option.some.injEq] at hv
    subst hv
    cases hx
    exact ⟨_, by simp [Builtin.len_, h0, run_under hu, goInt], .int _ _⟩
  · rename_i n elem hu
    simp only [Option.some.injEq] at hv
    subst hv
    refine ⟨_, ?_, .int _ _⟩
    simp only [Builtin.len_, h0, List.getElem?_toArray, List.getElem?_cons_zero, Sem.run_bind, run_under hu, Result.andThen_ok, Sem.run_pure, goInt]
  · rename_i kt et r hu
    cases hx with
    | map hl =>
    cases hm : mapOf? h r with
    | none => simp [hm] at hv
    | some es =>
      simp only [hm, Option.map_some, Option.some.injEq] at hv
      subst hv
      obtain ⟨es', clock, h4, h5⟩ := map_read hR hm hl
      exact ⟨_, by simp [Builtin.len_, h0, run_under hu, run_getObj_map h4, goInt, h5.1], .int _ _⟩
  · cases hv
theorem args1 {x : Value} {args args' : Array Value} (h : args.toList = [x]) (hr : ARel E args args') : ∃ x', args' = #[x'] ∧ VR E x x' := by
  have h2 := hr.list
  rw [h] at h2
  obtain ⟨x', h3, h4⟩ := h2.2 0 x rfl
  refine ⟨x', ?_, h4⟩
  have hl := h2.1
  apply Array.ext'
  cases hq : args'.toList with
  | nil => simp [hq] at h3
  | cons y r =>
    rw [hq] at h3 hl
    simp at h3 hl
    subst h3
    simp [hl]
theorem args2 {x y : Value} {args args' : Array Value} (h : args.toList = [x, y]) (hr : ARel E args args') : ∃ x' y', args' = #[x', y'] ∧ VR E x x' ∧ VR E y y' := by
  have h2 := hr.list
  rw [h] at h2
  obtain ⟨x', h3, h4⟩ := h2.2 0 x rfl
  obtain ⟨y', h5, h6⟩ := h2.2 1 y rfl
  refine ⟨x', y', ?_, h4, h6⟩
  have hl := h2.1
  apply Array.ext'
  cases hq : args'.toList with
  | nil => simp [hq] at h3
  | cons p r =>
    rw [hq] at h3 h5 hl
    cases r with
    | nil => simp at hl
    | cons q r =>
      simp at h3 h5 hl
      subst h3 h5
      simp [hl]
theorem args_ground {args args' : Array Value} (hr : ARel E args args') (hg : args.all ground = true) : args' = args := by
  apply Array.ext hr.1.symm
  intro i h1 h2
  exact (hr.2 i h2 h1).ground_eq (arr_all hg i h2)

theorem clearV_run (hR : Rel P base E h w) {ts : Array TypeId} {t2 t : TypeId} {x x' : Value} {h' : Heap} (ht : ts[0]? = some t) (hv : clearV P t x h = some h') (hx : VR E x x') :
    ∃ w', (Builtin.clear_ ts t2 #[x']).run P w = .ok (.tuple #[]) w' ∧ Post P base E h w E h' w' := by
  unfold clearV at hv
  split at hv
  · rename_i hu
    split at hv
    · rename_i hc
      obtain ⟨rfl, rfl⟩ := hc
      cases hv
      cases hx
      exact ⟨w, by simp [Builtin.clear_, ht, run_under hu], Post.refl hR⟩
    · cases hv
  · rename_i b o n c hu
    split at hv
    · rename_i hn
      subst hn
      cases hv
      rcases hx.slice_inv with ⟨l, c', e1, e2, e3, e4, rfl⟩ | ⟨_, _, a', rfl⟩
      · exact ⟨w, by simp [Builtin.clear_, ht, run_under hu], Post.refl hR⟩
      · exact ⟨w, by simp [Builtin.clear_, ht, run_under hu], Post.refl hR⟩
    · rename_i hn
      split at hv
      · rename_i z hz
        split at hv
        · rename_i hg
          rcases hx.slice_inv with ⟨l, c', e1, e2, e3, e4, rfl⟩ | ⟨h0, _, a', rfl⟩
          · have hl : LRel E (Builtin.zeroCells z.cells n).toList (Builtin.zeroCells z.cells n).toList := ⟨rfl, fun i v hi => ⟨v, hi, VR.of_ground (List.all_eq_true.1 hg.1 v (List.mem_of_getElem? hi))⟩⟩
            obtain ⟨w', g1, g2⟩ := storeN_run hR hv e1 hl hg.2
            refine ⟨w', ?_, g2⟩
            obtain ⟨m, rfl⟩ : ∃ m, n = m + 1 := ⟨n - 1, by omega⟩
            simp [Builtin.clear_, ht, run_under hu, run_zeroT hz, g1]
          · exact absurd h0 hn
        · cases hv
      · cases hv
  · cases hv
theorem clearV_grow {t : TypeId} {x : Value} {h' : Heap} (hv : clearV P t x h = some h') : Grow h h' := by
  unfold clearV at hv
  split at hv
  · split at hv
    · cases hv; exact Grow.refl _
    · cases hv
  · split at hv
    · cases hv; exact Grow.refl _
    · split at hv
      · split at hv
        · exact storeN_grow hv
        · cases hv
      · cases hv
  · cases hv
theorem builtinV_run (hR : Rel P base E h w) {b : Builtin} {ts : Array TypeId} {t2 : TypeId} {cs : Array Bool} {args args' : Array Value} {v : Value} {h' : Heap} (hfree : Free E h h') (hv : builtinV P b ts args h = some (v, h')) (ha : ARel E args args') :
    ∃ E' w' v', (builtin b ts t2 cs args').run P w = .ok (.value v') w' ∧ Post P base E h w E' h' w' ∧ VR E' v v' := by
  unfold builtinV at hv
  split at hv
  · rename_i x t ha0 ht
    obtain ⟨x', rfl, hx⟩ := args1 ha0 ha
    cases hl : lenV P t x h with
    | none => simp [hl] at hv
    | some u =>
      simp only [hl, Option.map_some, Option.some.injEq, Prod.mk.injEq] at hv
      obtain ⟨rfl, rfl⟩ := hv
      obtain ⟨v', g1, g2⟩ := lenV_run (t2 := t2) hR ht hl hx
      exact ⟨E, w, v', by simp [builtin, g1], Post.refl hR, g2⟩
  · rename_i s x t ha0 ht
    obtain ⟨s', x', rfl, hs, hx⟩ := args2 ha0 ha
    obtain ⟨E', w', v', g1, g2, g3⟩ := appendV_run (t2 := t2) hR ht hfree hv hs hx
    exact ⟨E', w', v', by simp [builtin, g1], g2, g3⟩
  · rename_i m k t ha0 ht
    obtain ⟨m', k', rfl, hm, hk⟩ := args2 ha0 ha
    cases hl : deleteV P t m k h with
    | none => simp [hl] at hv
    | some h1 =>
      simp only [hl, Option.map_some, Option.some.injEq, Prod.mk.injEq] at hv
      obtain ⟨rfl, rfl⟩ := hv
      obtain ⟨w', g1, g2⟩ := deleteV_run (t2 := t2) hR ht hl hm hk
      exact ⟨E, w', .tuple #[], by simp [builtin, g1], g2, VR.undef⟩
  · rename_i hg0
    split at hv
    · rename_i hg
      rw [show args' = args from args_ground ha (by simpa using hg)]
      cases hp : pureV P (Builtin.min_ ts 0 args) with
      | none => simp [hp] at hv
      | some u =>
        simp only [hp, Option.map_some, Option.some.injEq, Prod.mk.injEq] at hv
        obtain ⟨rfl, rfl⟩ := hv
        have := (pureV_run (E := E) hp).1 w
        exact ⟨E, w, u, by simp only [builtin]; rw [show Builtin.min_ ts t2 args = Builtin.min_ ts 0 args from rfl]; simp [this], Post.refl hR, (pureV_run hp).2⟩
    · cases hv
  · rename_i x t ha0 ht
    obtain ⟨x', rfl, hx⟩ := args1 ha0 ha
    cases hl : clearV P t x h with
    | none => simp [hl] at hv
    | some h1 =>
      simp only [hl, Option.map_some, Option.some.injEq, Prod.mk.injEq] at hv
      obtain ⟨rfl, rfl⟩ := hv
      obtain ⟨w', g1, g2⟩ := clearV_run (t2 := t2) hR ht hl hx
      exact ⟨E, w', .tuple #[], by simp [builtin, g1], g2, VR.undef⟩
  · split at hv
    · rename_i hg
      rw [show args' = args from args_ground ha (by simpa using hg)]
      cases hp : pureV P (Builtin.max_ ts 0 args) with
      | none => simp [hp] at hv
      | some u =>
        simp only [hp, Option.map_some, Option.some.injEq, Prod.mk.injEq] at hv
        obtain ⟨rfl, rfl⟩ := hv
        have := (pureV_run (E := E) hp).1 w
        exact ⟨E, w, u, by simp only [builtin]; rw [show Builtin.max_ ts t2 args = Builtin.max_ ts 0 args from rfl]; simp [this], Post.refl hR, (pureV_run hp).2⟩
    · cases hv
  · cases hv
theorem builtinV_grow {b : Builtin} {ts : Array TypeId} {args : Array Value} {v : Value} {h' : Heap} (hv : builtinV P b ts args h = some (v, h')) : Grow h h' := by
  unfold builtinV at hv
  split at hv
  · obtain ⟨u, _, hu⟩ := Option.map_eq_some_iff.1 hv
    cases hu; exact Grow.refl _
  · exact appendV_grow hv
  · rename_i m k t _ _
    obtain ⟨u, hd, hu⟩ := Option.map_eq_some_iff.1 hv
    cases hu
    unfold deleteV at hd
    split at hd
    · split at hd
      · rename_i hm
        split at hd
        · obtain ⟨f, _, hf⟩ := Option.map_eq_some_iff.1 hd
          split at hf <;> (subst hf; exact map_grow hm)
        · cases hd
      · cases hd
    · cases hd
  · split at hv
    · obtain ⟨u, _, hu⟩ := Option.map_eq_some_iff.1 hv
      cases hu; exact Grow.refl _
    · cases hv
  · obtain ⟨u, hd, hu⟩ := Option.map_eq_some_iff.1 hv
    cases hu
    exact clearV_grow hd
  · split at hv
    · obtain ⟨u, _, hu⟩ := Option.map_eq_some_iff.1 hv
      cases hu; exact Grow.refl _
    · cases hv
  · cases hv
end Go.Am
set_option linter.unusedSimpArgs false
set_option linter.unusedVariables false
namespace Go.Am
variable {P : Program} [Gl P] {base : Nat} {E : Env} {h : Heap} {w : World}

theorem storeV_grow {t : TypeId} {x v : Value} {h' : Heap} (hs : storeV P t x v h = some h') : Grow h h' := by
  unfold storeV at hs
  split at hs
  · split at hs
    · split at hs
      · exact storeN_grow hs
      · cases hs
    · cases hs
  · cases hs
theorem mapUpdateV_grow {t : TypeId} {m k v : Value} {h' : Heap} (hd : mapUpdateV P t m k v h = some h') : Grow h h' := by
  unfold mapUpdateV at hd
  split at hd
  · split at hd
    · rename_i hm
      split at hd
      · obtain ⟨f, _, hf⟩ := Option.map_eq_some_iff.1 hd
        split at hf <;> (subst hf; exact map_grow hm)
      · cases hd
    · cases hd
  · cases hd
theorem convV_grow {s d : TypeId} {x v : Value} {h' : Heap} (hv : convV P s d x h = some (v, h')) : Grow h h' := by
  unfold convV at hv
  split at hv
  · split at hv
    · simp only [Option.some.injEq, Prod.mk.injEq] at hv; rw [← hv.2]; exact Grow.refl _
    · cases hv
  · split at hv
    · obtain ⟨u, _, hu⟩ := Option.map_eq_some_iff.1 hv
      cases hu; exact Grow.refl _
    · cases hv
  · split at hv
    · simp only [Option.some.injEq, Prod.mk.injEq] at hv; rw [← hv.2]; exact (Grow.new _ _ _ (by simp [Body.kind]))
    · cases hv
  · split at hv
    · rename_i hb
      split at hv
      · simp only [Option.some.injEq, Prod.mk.injEq] at hv; rw [← hv.2]; exact Grow.put hb trivial _ rfl
      · cases hv
    · cases hv
  · cases hv
  · cases hv
  · split at hv
    · obtain ⟨u, _, hu⟩ := Option.map_eq_some_iff.1 hv
      cases hu; exact Grow.refl _
    · cases hv
theorem buildSliceV_grow {t : TypeId} {n : Nat} {p : Array (Nat × Value)} {v : Value} {h' : Heap} (hv : buildSliceV P t n p h = some (v, h')) : Grow h h' := by
  unfold buildSliceV at hv
  split at hv
  · split at hv
    · split at hv
      · obtain ⟨u, _, hu⟩ := Option.map_eq_some_iff.1 hv
        cases hu; exact (Grow.new _ _ _ (by simp [Body.kind]))
      · cases hv
    · cases hv
  · cases hv
theorem makeSliceV_grow {t : TypeId} {l c v : Value} {h' : Heap} (hv : makeSliceV P t l c h = some (v, h')) : Grow h h' := by
  unfold makeSliceV at hv
  split at hv
  · split at hv
    · split at hv
      · simp only [Option.some.injEq, Prod.mk.injEq] at hv; rw [← hv.2]; exact (Grow.new _ _ _ (by simp [Body.kind]))
      · cases hv
    · cases hv
  · cases hv
theorem callV_grow {ev : Ev} (hev : EvGrow ev) {f : Value} {args : Array Value} {v : Value} {h' : Heap} (hv : callV P ev f args h = some (v, h')) : Grow h h' := by
  unfold callV at hv
  split at hv
  · split at hv
    · split at hv
      · cases hv
      · split at hv
        · obtain ⟨u, _, hu⟩ := Option.map_eq_some_iff.1 hv
          cases hu; exact Grow.refl _
        · exact hev _ _ _ _ _ hv
    · cases hv
  · cases hv
theorem invokeV_grow {ev : Ev} (hev : EvGrow ev) {recv : Value} {name : String} {args : Array Value} {v : Value} {h' : Heap} (hv : invokeV P ev recv name args h = some (v, h')) : Grow h h' := by
  unfold invokeV at hv
  split at hv
  · obtain ⟨f, _, h2⟩ := Option.bind_eq_some_iff.1 hv
    exact callV_grow hev h2
  · cases hv
theorem doOp_grow {ev : Ev} (hev : EvGrow ev) {o : Oper} {T : Array Value} {v : Value} {h' : Heap} (hv : doOp P ev o T h = some (v, h')) : Grow h h' := by
  have pmap : ∀ {u : Option Value}, (u.map fun v => (v, h)) = some (v, h') → Grow h h' := fun hu => by
    obtain ⟨_, _, e⟩ := Option.map_eq_some_iff.1 hu
    cases e; exact Grow.refl _
  have umap : ∀ {u : Option Heap}, (∀ h1, u = some h1 → Grow h h1) → (u.map fun h' => (undef, h')) = some (v, h') → Grow h h' := fun hh hu => by
    obtain ⟨h1, h2, e⟩ := Option.map_eq_some_iff.1 hu
    cases e; exact hh _ h2
  unfold doOp at hv
  simp only at hv
  split at hv
  all_goals first
    | exact pmap hv
    | (cases hv; exact Grow.refl _)
    | (cases hv; done)
    | exact convV_grow hv
    | exact buildSliceV_grow hv
    | exact makeSliceV_grow hv
    | exact umap (fun _ hs => storeV_grow hs) hv
    | exact umap (fun _ hs => mapUpdateV_grow hs) hv
    | skip
  · split at hv
    · cases hv; exact Grow.refl _
    · cases hv
  · unfold allocV at hv
    split at hv
    · split at hv
      · cases hv; exact (Grow.new _ _ _ (by simp [Body.kind]))
      · cases hv
    · cases hv
  · unfold boxV at hv
    split at hv
    · cases hv; exact (Grow.new _ _ _ (by simp [Body.kind]))
    · cases hv
  · cases hv; exact (Grow.new _ _ _ (by simp [Body.kind]))
  · split at hv
    · exact builtinV_grow hv
    · exact callV_grow hev hv
    · exact invokeV_grow hev hv

theorem OpOk.call {o : Oper} {ρ : Operand → Value} {v : Value} {h' : Heap} {f : FuncId} {args' : Array Value} (hr : (execOp ρ o).run P w = .ok (.enter f args') w)
    (hc : Calls P f args' w fun e w' => ∃ v' E', e = .returned v' ∧ Post P base E h w E' h' w' ∧ VR E' v v') : OpOk P base E h w o ρ v h' := by
  intro K hk
  rw [hr]
  show Calls P f args' w _
  refine hc.mono ?_
  rintro e w' ⟨v', E', rfl, hp, hv⟩
  exact ⟨v', rfl, hk _ _ _ hp hv⟩

omit [Gl P] in
theorem methodF_run {t : TypeId} {name : String} {f : FuncId} (hm : methodF P t name = some f) (v : Value) (w : World) : (method (P.types.size + Made.depth) t v name).run P w = .ok (f, v) w := by
  unfold methodF at hm
  split at hm
  · rename_i i hi
    split at hm
    · rename_i m hf
      split at hm
      · rename_i g e hp hfn hu
        cases hm
        obtain ⟨k, hk⟩ : ∃ k, P.types.size + Made.depth = k + 1 := ⟨P.types.size + Made.depth - 1, by unfold Made.depth; omega⟩
        rw [hk]
        have h1 := pureRun_run hi w
        simp only [method, Sem.run_bind, h1, Result.andThen_ok, hf, hp, follow, Sem.run_pure, hfn, receiverAt, run_underlying hu, Place.get]
      · cases hm
    · cases hm
  · cases hm
omit [Gl P] in
theorem nilAhead_run {t : TypeId} {name : String} {f : FuncId} (hm : methodF P t name = some f) (v : Value) (w : World) : (nilAhead (P.types.size + Made.depth) t v name).run P w = .ok (some false) w := by
  unfold methodF at hm
  split at hm
  · rename_i i hi
    split at hm
    · rename_i m hf
      split at hm
      · rename_i g e hp hfn hu
        cases hm
        obtain ⟨k, hk⟩ : ∃ k, P.types.size + Made.depth = k + 1 := ⟨P.types.size + Made.depth - 1, by unfold Made.depth; omega⟩
        rw [hk]
        have h1 := pureRun_run hi w
        simp only [nilAhead, Sem.run_bind, h1, Result.andThen_ok, hf, hp, followBlind, Sem.run_pure, hfn]
      · cases hm
    · cases hm
  · cases hm
theorem callFn_ok {ev : Ev} (hev : EvSound P base ev) (hR : Rel P base E h w) {o : Oper} {ρ : Operand → Value} {fid : FuncId} {args args' : Array Value} (hexec : (execOp ρ o).run P w = (callFunc fid args').run P w) (hall : ARel E args args') {v : Value} {h' : Heap}
    (hfree : Free E h h') (hv : callV P ev (.func (.func fid) #[] #[]) args h = some (v, h')) : OpOk P base E h w o ρ v h' := by
  unfold callV at hv
  simp only [Array.append_empty, Array.empty_append] at hv
  split at hv
  · rename_i fn hfn
    split at hv
    · cases hv
    · rename_i hnum
      split at hv
      · rename_i hbody
        cases he : externV P fn args with
        | none => rw [he] at hv; cases hv
        | some u =>
          simp only [he, Option.map_some, Option.some.injEq, Prod.mk.injEq] at hv
          obtain ⟨rfl, rfl⟩ := hv
          unfold externV at he
          split at he
          · rename_i hc
            simp only [Bool.and_eq_true] at hc
            split at he
            · rename_i e hfind
              have hg := args_ground hall hc.1
              have hnone : Extern.findNext fn = none := by simpa using hc.2
              refine OpOk.value (v' := u) (E' := E) (w' := w) ?_ (Post.refl hR) (pureV_run he).2
              rw [hexec, hg]
              simp only [callFunc, Sem.run_bind, run_program, Result.andThen_ok, hfn]
              rw [if_neg (by simpa using hnum)]
              simp only [hbody, if_true, Sem.run_bind, run_mark, Result.andThen_ok, hnone, hfind]
              simp only [Sem.run_bind, (pureV_run (E := E) he).1 w, Result.andThen_ok, Sem.run_pure]
            · cases he
          · cases he
      · rename_i hbody
        refine OpOk.call (f := fid) (args' := args') ?_ (hev _ _ _ _ _ _ _ _ hv hR hall hfree)
        rw [hexec]
        simp only [callFunc, Sem.run_bind, run_program, Result.andThen_ok, hfn]
        rw [if_neg (by simpa using hnum), if_neg hbody]
        rfl
  · cases hv
theorem invokeV_ok {ev : Ev} (hev : EvSound P base ev) (hR : Rel P base E h w) {o : Oper} {ρ : Operand → Value} {c : Call} {r : Operand} {name : String} (ho : o.op = .call c) (hcal : c.callee = .invoke r name) {rv : Value} {args : Array Value} (hr : VR E rv (ρ r)) (ha : ARel E args (c.args.map ρ)) {v : Value} {h' : Heap}
    (hfree : Free E h h') (hv : invokeV P ev rv name args h = some (v, h')) : OpOk P base E h w o ρ v h' := by
  unfold invokeV at hv
  split at hv
  · rename_i t u
    obtain ⟨f, hm, hc⟩ := Option.bind_eq_some_iff.1 hv
    generalize hre : ρ r = re at hr
    obtain ⟨u', rfl, hu⟩ : ∃ u', re = .iface t u' ∧ VR E u u' := by cases hr with | iface hu => exact ⟨_, rfl, hu⟩
    have hone : ARel E #[u] #[u'] := ⟨rfl, fun i h1 h2 => by
      have : i = 0 := by simp at h1; omega
      subst this; exact hu⟩
    refine callFn_ok hev hR (fid := f) (args' := #[u'] ++ c.args.map ρ) ?_ (ARel.append hone ha) hfree hc
    · unfold execOp resolve
      simp only [ho, hcal, Sem.run_bind, Sem.run_pure, Result.andThen_ok, invoke, hre]
      have e0 : (#[Value.iface t u'] ++ c.args.map ρ)[0]? = some (.iface t u') := by rw [Array.getElem?_append_left (Nat.zero_lt_one)]; rfl
      have e1 : (#[Value.iface t u'] ++ c.args.map ρ).extract 1 (#[Value.iface t u'] ++ c.args.map ρ).size = c.args.map ρ := by
        apply Array.ext'
        rw [Array.toList_extract, Array.toList_append]
        simp only [List.extract, Array.size_append, List.size_toArray, List.length_singleton, List.singleton_append, List.drop_succ_cons, List.drop_zero]
        apply List.take_of_length_le
        simp
      simp only [e0, e1, callMethod, Sem.run_bind, run_program, Result.andThen_ok, methodF_run hm u' w]
  · cases hv
theorem callV_ok {ev : Ev} (hev : EvSound P base ev) (hR : Rel P base E h w) {o : Oper} {ρ : Operand → Value} {c : Call} {f : Operand} (ho : o.op = .call c) (hcal : c.callee = .value f) {fv : Value} {args : Array Value} (hf : VR E fv (ρ f)) (ha : ARel E args (c.args.map ρ)) {v : Value} {h' : Heap}
    (hfree : Free E h h') (hv : callV P ev fv args h = some (v, h')) : OpOk P base E h w o ρ v h' := by
  unfold callV at hv
  split at hv
  · rename_i fid first captured
    generalize hfe : ρ f = fe at hf
    cases hf with
    | func e1 e2 e3 e4 =>
    rename_i first' captured'
    have hall : ARel E (first ++ args ++ captured) (first' ++ c.args.map ρ ++ captured') := (ARel.append ⟨e1, e2⟩ ha).append ⟨e3, e4⟩
    split at hv
    · rename_i fn hfn
      split at hv
      · cases hv
      · rename_i hnum
        have hres : (resolve ρ c o.type).run P w = .ok { target := .fn (.func fid) captured', args := first' ++ c.args.map ρ } w := by
          unfold resolve
          simp only [hcal, hfe, Deferred.ofValue]
          rfl
        have hexec : (execOp ρ o).run P w = (callFunc fid (first' ++ c.args.map ρ ++ captured')).run P w := by
          unfold execOp
          simp only [ho, Sem.run_bind, hres, Result.andThen_ok]
          rfl
        split at hv
        · rename_i hbody
          cases he : externV P fn (first ++ args ++ captured) with
          | none => rw [he] at hv; cases hv
          | some u =>
            simp only [he, Option.map_some, Option.some.injEq, Prod.mk.injEq] at hv
            obtain ⟨rfl, rfl⟩ := hv
            unfold externV at he
            split at he
            · rename_i hc
              simp only [Bool.and_eq_true] at hc
              split at he
              · rename_i e hfind
                have hg := args_ground hall hc.1
                have hnone : Extern.findNext fn = none := by simpa using hc.2
                refine OpOk.value (v' := u) (E' := E) (w' := w) ?_ (Post.refl hR) (pureV_run he).2
                rw [hexec, hg]
                simp only [callFunc, Sem.run_bind, run_program, Result.andThen_ok, hfn]
                rw [if_neg (by simpa using hnum)]
                simp only [hbody, if_true, Sem.run_bind, run_mark, Result.andThen_ok, hnone, hfind]
                simp only [Sem.run_bind, (pureV_run (E := E) he).1 w, Result.andThen_ok, Sem.run_pure]
              · cases he
            · cases he
        · rename_i hbody
          refine OpOk.call (f := fid) (args' := first' ++ c.args.map ρ ++ captured') ?_ (hev _ _ _ _ _ _ _ _ hv hR hall hfree)
          rw [hexec]
          simp only [callFunc, Sem.run_bind, run_program, Result.andThen_ok, hfn]
          rw [if_neg (by simpa using hnum), if_neg hbody]
          rfl
    · cases hv
  · cases hv

theorem doOp_ok {ev : Ev} (hev : EvSound P base ev) (hR : Rel P base E h w) {o : Oper} {T : Array Value} {ρ : Operand → Value} (hx : ∀ x, x ∈ o.op.operands → VR E (evalO T x) (ρ x)) {v : Value} {h' : Heap} (hfree : Free E h h')
    (hd : doOp P ev o T h = some (v, h')) : OpOk P base E h w o ρ v h' := by
  have new : ∀ {h' : Heap}, h'.blks.length = h.blks.length + 1 → Free E h h' → E h.blks.length = none := fun hl hf => hf _ (Nat.le_refl _) (by omega)
  -- a value, of nothing but values
  have pure' : ∀ {u : Option Value} {s : Sem Value}, (execOp ρ o = do pure (.value (← s))) → (u.map fun v => (v, h)) = some (v, h') → (∀ v, u = some v → ∃ v', s.run P w = .ok v' w ∧ VR E v v') → OpOk P base E h w o ρ v h' := by
    intro u s he hu hh
    obtain ⟨v0, h1, e⟩ := Option.map_eq_some_iff.1 hu
    simp only [Prod.mk.injEq] at e
    obtain ⟨rfl, rfl⟩ := e
    obtain ⟨v', h2, h3⟩ := hh _ h1
    exact OpOk.value (by rw [he]; simp [h2]) (Post.refl hR) h3
  have made : ∀ {s : Sem Value}, (execOp ρ o = do pure (.value (← s))) → (∃ E' w' v', s.run P w = .ok v' w' ∧ Post P base E h w E' h' w' ∧ VR E' v v') → OpOk P base E h w o ρ v h' := by
    rintro s he ⟨E', w', v', h1, h2, h3⟩
    exact OpOk.value (by rw [he]; simp [h1]) h2 h3
  unfold doOp at hd
  simp only at hd
  unfold execOp at pure' made
  split at hd
  · rename_i x ho
    simp only [ho] at pure' made hx
    simp only [Op.operands] at hx
    simp only [Option.some.injEq, Prod.mk.injEq] at hd
    obtain ⟨rfl, rfl⟩ := hd
    exact OpOk.value (by unfold execOp; simp only [ho]; rfl) (Post.refl hR) (hx x (by simp))
  · rename_i x ho
    simp only [ho] at pure' made hx
    simp only [Op.operands] at hx
    simp only [Option.some.injEq, Prod.mk.injEq] at hd
    obtain ⟨rfl, rfl⟩ := hd
    exact OpOk.value (by unfold execOp; simp only [ho]; rfl) (Post.refl hR) (hx x (by simp))
  · rename_i c x y ho
    simp only [ho] at pure' made hx
    simp only [Op.operands] at hx
    have hcv := hx c (by simp)
    split at hd
    · rename_i t ht
      rw [ht] at hcv
      simp only [Option.some.injEq, Prod.mk.injEq] at hd
      obtain ⟨rfl, rfl⟩ := hd
      generalize hq : ρ c = q at hcv
      cases hcv
      refine OpOk.value (v' := if t then ρ x else ρ y) (E' := E) (w' := w) ?_ (Post.refl hR) ?_
      · unfold execOp; simp only [ho, hq, asBool]; cases t <;> rfl
      · cases t
        · exact hx y (by simp)
        · exact hx x (by simp)
    · cases hd
  · rename_i t ho
    simp only [ho] at pure' made hx
    simp only [Op.operands] at hx
    unfold allocV at hd
    split at hd
    · rename_i z n hz hn
      split at hd
      · rename_i hg
        simp only [Option.some.injEq, Prod.mk.injEq] at hd
        obtain ⟨rfl, rfl⟩ := hd
        obtain ⟨E', w', a', h1, h2, h3⟩ := newV_run hR (new (by simp [newV, Heap.new_len]) hfree) hn (VR.of_ground (E := E) hg)
        exact made rfl ⟨E', w', _, by simp [Instr.alloc, run_zeroT hz, h1], h2, h3⟩
      · cases hd
    · cases hd
  · rename_i t x ho
    simp only [ho] at pure' made hx
    simp only [Op.operands] at hx
    unfold boxV at hd
    split at hd
    · rename_i n hn
      simp only [Option.some.injEq, Prod.mk.injEq] at hd
      obtain ⟨rfl, rfl⟩ := hd
      obtain ⟨E', w', a', h1, h2, h3⟩ := newV_run hR (new (by simp [newV, Heap.new_len]) hfree) hn (hx x (by simp))
      exact made rfl ⟨E', w', _, by simp [Instr.box, h1], h2, h3⟩
    · cases hd
  · rename_i t parts ho
    simp only [ho] at pure' made hx
    simp only [Op.operands] at hx
    refine pure' rfl hd fun v0 hv0 => ?_
    obtain ⟨v', h1, h2⟩ := buildV_run hv0 (parts_rel (fun y hm => hx y.2 (by simp; exact ⟨y.1, by simpa using hm⟩)))
    exact ⟨v', h1 w, h2⟩
  · rename_i t len parts ho
    simp only [ho] at pure' made hx
    simp only [Op.operands] at hx
    have hl : h'.blks.length = h.blks.length + 1 := by
      unfold buildSliceV at hd
      split at hd
      · split at hd
        · split at hd
          · obtain ⟨u, _, hu⟩ := Option.map_eq_some_iff.1 hd
            cases hu; exact Heap.new_len _ _ _
          · cases hd
        · cases hd
      · cases hd
    exact made rfl (buildSliceV_run hR (new hl hfree) hd (parts_rel (fun y hm => hx y.2 (by simp; exact ⟨y.1, by simpa using hm⟩))))
  · rename_i t x ho
    simp only [ho] at pure' made hx
    simp only [Op.operands] at hx
    exact pure' rfl hd fun v0 hv0 => loadV_run hR hv0 (hx x (by simp))
  · rename_i t x y ho
    simp only [ho] at pure' made hx
    simp only [Op.operands] at hx
    obtain ⟨h1, h2, e⟩ := Option.map_eq_some_iff.1 hd
    simp only [Prod.mk.injEq] at e
    obtain ⟨rfl, rfl⟩ := e
    obtain ⟨w', h3, h4⟩ := storeV_run hR h2 (hx x (by simp)) (hx y (by simp))
    exact OpOk.skip (by unfold execOp; simp only [ho]; simp [h3]) h4
  · rename_i x ho
    simp only [ho] at pure' made hx
    simp only [Op.operands] at hx
    obtain ⟨v0, h1, e⟩ := Option.map_eq_some_iff.1 hd
    simp only [Prod.mk.injEq] at e
    obtain ⟨rfl, rfl⟩ := e
    have hxx := hx x (by simp)
    obtain ⟨rfl, h2⟩ := nilCheckV_run h1 hxx
    refine OpOk.value (v' := ρ x) (E' := E) (w' := w) ?_ (Post.refl hR) hxx
    unfold execOp
    simp only [ho]
    rcases h2 with ⟨q, hq⟩ | ⟨f, fs, cs, hq⟩ | ⟨t, u, hq⟩ | ⟨name, fs, cs, t, u, f, hq, hf0, hm⟩
    · simp [hq]
    · simp [hq]
    · simp [hq]
    · have hn := nilAhead_run hm u w
      simp only [hq, hf0, Sem.run_bind, run_program, Result.andThen_ok, hn]
      simp
  · rename_i op t x y t2 ho
    simp only [ho] at pure' made hx
    simp only [Op.operands] at hx
    refine pure' rfl hd fun v0 hv0 => ?_
    obtain ⟨v', h1, h2⟩ := binV_run hv0 (hx x (by simp)) (hx y (by simp))
    exact ⟨v', h1 w, h2⟩
  · rename_i op t x ho
    simp only [ho] at pure' made hx
    simp only [Op.operands] at hx
    refine pure' rfl hd fun v0 hv0 => ?_
    obtain ⟨v', h1, h2⟩ := unV_run hv0 (hx x (by simp))
    exact ⟨v', h1 w, h2⟩
  · rename_i s d x ho
    simp only [ho] at pure' made hx
    simp only [Op.operands] at hx
    exact made rfl (convV_run hR hfree hd (hx x (by simp)))
  · rename_i t x ho
    simp only [ho] at pure' made hx
    simp only [Op.operands] at hx
    refine pure' rfl hd fun v0 hv0 => ?_
    obtain ⟨v', h1, h2⟩ := makeInterfaceV_run hv0 (hx x (by simp))
    exact ⟨v', h1 w, h2⟩
  · rename_i fn first captured ho
    simp only [ho] at pure' made hx
    simp only [Op.operands] at hx
    simp only [Option.some.injEq, Prod.mk.injEq] at hd
    obtain ⟨rfl, rfl⟩ := hd
    have h1 := args_rel (l := first) (fun x hm => hx x (by simp [hm]))
    have h2 := args_rel (l := captured) (fun x hm => hx x (by simp [hm]))
    exact OpOk.value (v' := .func fn (first.map ρ) (captured.map ρ)) (E' := E) (w' := w) (by unfold execOp; simp only [ho]; rfl) (Post.refl hR) (.func h1.1 h1.2 h2.1 h2.2)
  · rename_i t ho
    simp only [ho] at pure' made hx
    simp only [Op.operands] at hx
    simp only [Option.some.injEq] at hd
    obtain ⟨rfl, rfl⟩ : (makeMapV h).1 = v ∧ (makeMapV h).2 = h' := by rw [hd]; exact ⟨rfl, rfl⟩
    exact made rfl (makeMapV_run hR (new (Heap.new_len _ _ _) hfree) t)
  · rename_i t l c ho
    simp only [ho] at pure' made hx
    simp only [Op.operands] at hx
    have hl : h'.blks.length = h.blks.length + 1 := by
      unfold makeSliceV at hd
      split at hd
      · split at hd
        · split at hd
          · simp only [Option.some.injEq, Prod.mk.injEq] at hd; rw [← hd.2]; exact Heap.new_len _ _ _
          · cases hd
        · cases hd
      · cases hd
    exact made rfl (makeSliceV_run hR (new hl hfree) hd (hx l (by simp)) (hx c (by simp)))
  · rename_i t x lo hi mx ho
    simp only [ho] at pure' made hx
    simp only [Op.operands] at hx
    refine pure' rfl hd fun v0 hv0 => ?_
    exact sliceV_run hR hv0 (hx x (by simp)) (opt_rel fun y hy => hx y (by simp [hy])) (opt_rel fun y hy => hx y (by simp [hy])) (opt_rel fun y hy => hx y (by simp [hy]))
  · rename_i t x f ho
    simp only [ho] at pure' made hx
    simp only [Op.operands] at hx
    refine pure' rfl hd fun v0 hv0 => ?_
    obtain ⟨v', h1, h2⟩ := fieldAddrV_run hv0 (hx x (by simp))
    exact ⟨v', h1 w, h2⟩
  · rename_i t x f ho
    simp only [ho] at pure' made hx
    simp only [Op.operands] at hx
    refine pure' rfl hd fun v0 hv0 => ?_
    obtain ⟨v', h1, h2⟩ := fieldV_run hv0 (hx x (by simp))
    exact ⟨v', h1 w, h2⟩
  · rename_i t x i ho
    simp only [ho] at pure' made hx
    simp only [Op.operands] at hx
    refine pure' rfl hd fun v0 hv0 => ?_
    obtain ⟨v', h1, h2⟩ := indexAddrV_run hv0 (hx x (by simp)) (hx i (by simp))
    exact ⟨v', h1 w, h2⟩
  · rename_i t x i ho
    simp only [ho] at pure' made hx
    simp only [Op.operands] at hx
    refine pure' rfl hd fun v0 hv0 => ?_
    obtain ⟨v', h1, h2⟩ := indexV_run hv0 (hx x (by simp)) (hx i (by simp))
    exact ⟨v', h1 w, h2⟩
  · rename_i t m k ok ho
    simp only [ho] at pure' made hx
    simp only [Op.operands] at hx
    exact pure' rfl hd fun v0 hv0 => lookupV_run hR hv0 (hx m (by simp)) (hx k (by simp))
  · rename_i t m k x ho
    simp only [ho] at pure' made hx
    simp only [Op.operands] at hx
    obtain ⟨h1, h2, e⟩ := Option.map_eq_some_iff.1 hd
    simp only [Prod.mk.injEq] at e
    obtain ⟨rfl, rfl⟩ := e
    obtain ⟨w', h3, h4⟩ := mapUpdateV_run hR h2 (hx m (by simp)) (hx k (by simp)) (hx x (by simp))
    exact OpOk.skip (by unfold execOp; simp only [ho]; simp [h3]) h4
  · rename_i x t a2 ok ho
    simp only [ho] at pure' made hx
    simp only [Op.operands] at hx
    refine pure' rfl hd fun v0 hv0 => ?_
    obtain ⟨v', h1, h2⟩ := typeAssertV_run hv0 (hx x (by simp))
    exact ⟨v', h1 w, h2⟩
  · rename_i x i ho
    simp only [ho] at pure' made hx
    simp only [Op.operands] at hx
    refine pure' rfl hd fun v0 hv0 => ?_
    obtain ⟨v', h1, h2⟩ := extractV_run hv0 (hx x (by simp))
    exact ⟨v', h1 w, h2⟩
  · rename_i c ho
    simp only [ho] at pure' made hx
    simp only [Op.operands] at hx
    have hargs := args_rel (l := c.args) (fun x hm => hx x (by simp [Call.operands, hm]))
    split at hd
    · rename_i b hb
      obtain ⟨E', w', v', h1, h2, h3⟩ := builtinV_run (t2 := o.type) (cs := c.args.map fun | .const _ => true | _ => false) hR hfree hd hargs
      refine OpOk.value (v' := v') ?_ h2 h3
      unfold execOp resolve
      simp only [ho, hb, Sem.run_bind, Sem.run_pure, Result.andThen_ok, invoke]
      exact h1
    · rename_i f hf
      exact callV_ok hev hR ho hf (hx f (by simp [Call.operands, hf])) hargs hfree hd
    · rename_i r nm hf
      exact invokeV_ok hev hR ho hf (hx r (by simp [Call.operands, hf])) hargs hfree hd
  · cases hd
end Go.Am
set_option linter.unusedSimpArgs false
set_option linter.unusedVariables false
namespace Go.Am
variable {P : Program} [Gl P] {base : Nat} {E : Env} {h : Heap} {w : World}

theorem ARel.get? {T A : Array Value} (hT : ARel E T A) (d : Nat) : (T[d]? = none ∧ A[d]? = none) ∨ (∃ v v', T[d]? = some v ∧ A[d]? = some v' ∧ VR E v v') := by
  by_cases hd : d < T.size
  · have hd' : d < A.size := hT.1 ▸ hd
    exact .inr ⟨T[d], A[d], by simp [hd], by simp [hd'], hT.2 d hd hd'⟩
  · have hd' : ¬ d < A.size := hT.1 ▸ hd
    exact .inl ⟨by simp [hd], by simp [hd']⟩
theorem yielded_rel {ops : Array Oper} {T A : Array Value} (hT : ARel E T A) (j : Nat) : yielded ops T j = yielded ops A j := by
  unfold yielded
  cases hd : (ops[j]?).bind (·.dst) with
  | none => rfl
  | some d =>
    simp only [Option.bind_some]
    rcases hT.get? d with ⟨h1, h2⟩ | ⟨v, v', h1, h2, h3⟩
    · rw [h1, h2]
    · rw [h1, h2]
      cases h3 <;> rfl
theorem wanted_rel {ops : Array Oper} {T A : Array Value} (hT : ARel E T A) (o : Oper) : Region.wanted o (yielded ops T) = Region.wanted o (yielded ops A) := by
  unfold Region.wanted
  cases o.guard with
  | none => rfl
  | some g => obtain ⟨j, b⟩ := g; simp only [yielded_rel hT]
theorem put_rel {T : Array Value} {a : Act} (hT : ARel E T a.tmps) (dst : Option Tmp) {v v' : Value} (hv : VR E v v') : ARel E (putT T dst v) (a.put dst v').tmps := by
  cases dst with
  | none => exact hT
  | some d => exact hT.set d hv
theorem put_defers (a : Act) (dst : Option Tmp) (v : Value) : (a.put dst v).defers = a.defers := by cases dst <;> rfl
theorem plainOk_at {ops : Array Oper} (hp : plainOk ops = true) {i : Nat} {o : Oper} (ho : ops[i]? = some o) : o.op.operands.all constOk = true := by
  unfold plainOk at hp
  rw [Array.all_eq_true'] at hp
  exact hp o (Array.mem_of_getElem? ho)

theorem stepAt_grow {ev : Ev} (hev : EvGrow ev) {ops : Array Oper} {i : Nat} {s s' : St} (hs : stepAt P ev ops i s = some s') : Grow s.h s'.h := by
  unfold stepAt at hs
  split at hs
  · cases hs; exact Grow.refl _
  · split at hs
    · obtain ⟨r, h1, h2⟩ := Option.map_eq_some_iff.1 hs
      subst h2
      exact doOp_grow hev h1
    · cases hs; exact Grow.refl _
theorem stepAt_ok {ev : Ev} (hev : EvSound P base ev) {ops : Array Oper} (hp : plainOk ops = true) {i : Nat} {s s' : St} (hs : stepAt P ev ops i s = some s') (hR : Rel P base E s.h w) {a : Act} (hT : ARel E s.T a.tmps) (hfree : Free E s.h s'.h)
    {K : Act → World → Prop} {Q : Exit → Act → World → Prop} (hK : ∀ E' w' a', Post P base E s.h w E' s'.h w' → ARel E' s'.T a'.tmps → a'.defers = a.defers → K a' w') : wpOp P ops Q i K a w := by
  unfold stepAt at hs
  unfold wpOp
  split at hs
  · rename_i ho
    cases hs
    rw [ho]
    exact hK E w a (Post.refl hR) hT rfl
  · rename_i o ho
    rw [ho]
    simp only [← wanted_rel hT]
    split at hs
    · rename_i hw
      rw [if_pos hw]
      obtain ⟨r, h1, h2⟩ := Option.map_eq_some_iff.1 hs
      subst h2
      left
      have hc := plainOk_at hp ho
      rw [Array.all_eq_true'] at hc
      refine UponK.wp (K := fun v w => K (a.put o.dst v) w) (fun v w h => h) (doOp_ok hev hR (ρ := a.eval) (fun x hm => evalO_rel hT (hc x hm)) hfree h1 _ fun E' w' v' hpost hv => ?_)
      exact hK E' w' _ hpost (put_rel (hT.mono hpost.ext) _ hv) (put_defers _ _ _)
    · rename_i hw
      rw [if_neg hw]
      cases hs
      exact hK E w _ (Post.refl hR) (put_rel hT _ VR.undef) (put_defers _ _ _)

theorem runList_grow {ev : Ev} (hev : EvGrow ev) {ops : Array Oper} : ∀ (l : List Nat) {s s' : St}, runList P ev ops l s = some s' → Grow s.h s'.h
  | [], s, s', h => by cases h; exact Grow.refl _
  | i :: l, s, s', h => by
    unfold runList at h
    obtain ⟨s1, h1, h2⟩ := Option.bind_eq_some_iff.1 h
    exact (stepAt_grow hev h1).trans (runList_grow hev l h2)
theorem runList_ok {ev : Ev} (hg : EvGrow ev) (hev : EvSound P base ev) {ops : Array Oper} (hp : plainOk ops = true) : ∀ (l : List Nat) {s s' : St} {E : Env} {w : World} {a : Act}, runList P ev ops l s = some s' → Rel P base E s.h w → ARel E s.T a.tmps → Free E s.h s'.h →
    ∀ {Q : Exit → Act → World → Prop}, (∀ E' w' a', Post P base E s.h w E' s'.h w' → ARel E' s'.T a'.tmps → a'.defers = a.defers → Q .normal a' w') → wpOps P ops Q l a w
  | [], s, s', E, w, a, h, hR, hT, hfree, Q, hQ => by
    cases h
    exact hQ E w a (Post.refl hR) hT rfl
  | i :: l, s, s', E, w, a, h, hR, hT, hfree, Q, hQ => by
    unfold runList at h
    obtain ⟨s1, h1, h2⟩ := Option.bind_eq_some_iff.1 h
    have g1 := stepAt_grow hg h1
    have g2 := runList_grow hg l h2
    rw [wpOps_cons]
    refine stepAt_ok hev hp h1 hR hT (hfree.left g2) fun E1 w1 a1 p1 hT1 hd1 => ?_
    refine runList_ok hg hev hp l h2 p1.rel hT1 (hfree.right p1 g1) fun E2 w2 a2 p2 hT2 hd2 => ?_
    exact hQ E2 w2 a2 (p1.trans p2 g1 g2 hfree) hT2 (hd2.trans hd1)

def RunOk (P : Program) [Gl P] (base : Nat) (run : Run) (c : Code) : Prop := ∀ (s : St) (e : Ex) (s' : St) (E : Env) (w : World) (a : Act), run s = some (e, s') → Rel P base E s.h w → ARel E s.T a.tmps → Free E s.h s'.h →
  ∀ (Q : Exit → Act → World → Prop), (∀ E' w' a', Post P base E s.h w E' s'.h w' → ARel E' s'.T a'.tmps → a'.defers = a.defers → Q (match e with | .normal => .normal | .ret => .ret | .exit id => .exit id) a' w') → c.wp P Q a w
def RunGrow (run : Run) : Prop := ∀ s e s', run s = some (e, s') → Grow s.h s'.h
def Ex.to : Ex → Exit
  | .normal => .normal
  | .ret => .ret
  | .exit id => .exit id

theorem stepD_grow {ev : Ev} (hev : EvGrow ev) {ops : Array Oper} {B : Array Nat} {i : Nat} {d d' : DSt} (hs : stepD P ev ops B i d = some d') : Grow d.s.h d'.s.h := by
  unfold stepD at hs
  obtain ⟨s', h1, h2⟩ := Option.map_eq_some_iff.1 hs
  subst h2
  have g := stepAt_grow hev h1
  obtain ⟨m, h3, h4⟩ := g.mods
  simp only [List.append_nil] at h3
  exact ⟨g.len, g.old, ⟨m, by simp only [h3], h4⟩, g.fresh⟩
theorem runListD_grow {ev : Ev} (hev : EvGrow ev) {ops : Array Oper} {B : Array Nat} : ∀ (l : List Nat) {d d' : DSt}, runListD P ev ops B l d = some d' → Grow d.s.h d'.s.h
  | [], d, d', h => by cases h; exact Grow.refl _
  | i :: l, d, d', h => by
    unfold runListD at h
    obtain ⟨d1, h1, h2⟩ := Option.bind_eq_some_iff.1 h
    exact (stepD_grow hev h1).trans (runListD_grow hev l h2)
theorem regionV_grow {ev : Ev} (hev : EvGrow ev) {ops : Array Oper} {draw : Bool} {s s' : St} (h : regionV P ev ops draw s = some s') : Grow s.h s'.h := by
  unfold regionV at h
  split at h
  · split at h
    · split at h
      · split at h
        · rename_i d hd
          split at h
          · cases h; exact runListD_grow hev _ hd
          · cases h
        · cases h
      · cases h
    · exact runList_grow hev _ h
  · cases h

def DrawOk (P : Program) [Gl P] (base : Nat) : Prop := ∀ (ev : Ev), EvGrow ev → EvSound P base ev → ∀ (id : Nat) (ops : Array Oper) (s s' : St) (E : Env) (w : World) (a : Act), plainOk ops = true → drawOk P ops (Region.before ops) = true →
  regionV P ev ops true s = some s' → Rel P base E s.h w → ARel E s.T a.tmps → Free E s.h s'.h →
  ∀ (Q : Exit → Act → World → Prop), (∀ E' w' a', Post P base E s.h w E' s'.h w' → ARel E' s'.T a'.tmps → a'.defers = a.defers → Q .normal a' w') → (Code.region id ops true).wp P Q a w

theorem loopN_grow {f : Run} (hf : RunGrow f) : ∀ k, RunGrow (loopN k f)
  | 0, s, e, s', h => by cases h
  | k + 1, s, e, s', h => by
    unfold loopN at h
    obtain ⟨r, h1, h2⟩ := Option.bind_eq_some_iff.1 h
    obtain ⟨e1, s1⟩ := r
    have g1 := hf _ _ _ h1
    cases e1 with
    | normal => exact g1.trans (loopN_grow hf k _ _ _ h2)
    | ret => cases h2; exact g1
    | exit id => cases h2; exact g1
theorem runCode_grow {ev : Ev} (hev : EvGrow ev) (k : Nat) : ∀ (c : Code), RunGrow (runCode P ev (loopN k) c) := by
  intro c
  induction c with
  | skip => intro s e s' h; cases h; exact Grow.refl _
  | label l => intro s e s' h; cases h; exact Grow.refl _
  | ret => intro s e s' h; cases h; exact Grow.refl _
  | exit id => intro s e s' h; cases h; exact Grow.refl _
  | region id ops draw =>
    intro s e s' h
    unfold runCode at h
    obtain ⟨s1, h1, h2⟩ := Option.map_eq_some_iff.1 h
    cases h2
    exact regionV_grow hev h1
  | seq x y ihx ihy =>
    intro s e s' h
    unfold runCode at h
    obtain ⟨r, h1, h2⟩ := Option.bind_eq_some_iff.1 h
    obtain ⟨e1, s1⟩ := r
    have g1 := ihx _ _ _ h1
    cases e1 with
    | normal => exact g1.trans (ihy _ _ _ h2)
    | ret => cases h2; exact g1
    | exit id => cases h2; exact g1
  | cond c x y ihx ihy =>
    intro s e s' h
    unfold runCode at h
    split at h
    · split at h
      · exact ihx _ _ _ h
      · exact ihy _ _ _ h
      · cases h
    · cases h
  | block id c ih =>
    intro s e s' h
    unfold runCode at h
    obtain ⟨r, h1, h2⟩ := Option.map_eq_some_iff.1 h
    obtain ⟨e1, s1⟩ := r
    cases h2
    exact ih _ _ _ h1
  | loop c ih =>
    intro s e s' h
    unfold runCode at h
    exact loopN_grow ih k _ _ _ h
  | _ => intro s e s' h; cases h

theorem loopN_ok {f : Run} {c : Code} (hg : RunGrow f) (hf : RunOk P base f c) : ∀ k (s : St) (e : Ex) (s' : St) (E : Env) (w : World) (a : Act), loopN k f s = some (e, s') → Rel P base E s.h w → ARel E s.T a.tmps → Free E s.h s'.h →
    ∀ (Q : Exit → Act → World → Prop), (∀ E' w' a', Post P base E s.h w E' s'.h w' → ARel E' s'.T a'.tmps → a'.defers = a.defers → Q (match e with | .normal => .normal | .ret => .ret | .exit id => .exit id) a' w') → Code.rounds P c Q k a w
  | 0, s, e, s', E, w, a, h, _, _, _, Q, _ => by cases h
  | k + 1, s, e, s', E, w, a, h, hR, hT, hfree, Q, hQ => by
    unfold loopN at h
    obtain ⟨r, h1, h2⟩ := Option.bind_eq_some_iff.1 h
    obtain ⟨e1, s1⟩ := r
    have g1 := hg _ _ _ h1
    rw [rounds_succ]
    cases e1 with
    | normal =>
      have g2 := loopN_grow hg k _ _ _ h2
      refine hf s .normal s1 E w a h1 hR hT (hfree.left g2) _ fun E1 w1 a1 p1 hT1 hd1 => ?_
      show Code.rounds P c Q k a1 w1
      exact loopN_ok hg hf k s1 e s' E1 w1 a1 h2 p1.rel hT1 (hfree.right p1 g1) Q fun E2 w2 a2 p2 hT2 hd2 => hQ E2 w2 a2 (p1.trans p2 g1 g2 hfree) hT2 (hd2.trans hd1)
    | ret => cases h2; exact hf s .ret s1 E w a h1 hR hT hfree _ hQ
    | exit id => cases h2; exact hf s (.exit id) s1 E w a h1 hR hT hfree _ hQ

theorem runCode_ok (hdraw : DrawOk P base) {ev : Ev} (hg : EvGrow ev) (hev : EvSound P base ev) (k : Nat) : ∀ (c : Code), RunOk P base (runCode P ev (loopN k) c) c := by
  intro c
  induction c with
  | skip => intro s e s' E w a h hR hT hf Q hQ; cases h; exact wp_skip (hQ E w a (Post.refl hR) hT rfl)
  | label l => intro s e s' E w a h hR hT hf Q hQ; cases h; exact wp_label (hQ E w a (Post.refl hR) hT rfl)
  | ret => intro s e s' E w a h hR hT hf Q hQ; cases h; exact wp_ret (hQ E w a (Post.refl hR) hT rfl)
  | exit id => intro s e s' E w a h hR hT hf Q hQ; cases h; exact wp_exit (hQ E w a (Post.refl hR) hT rfl)
  | region id ops draw =>
    intro s e s' E w a h hR hT hf Q hQ
    unfold runCode at h
    obtain ⟨s1, h1, h2⟩ := Option.map_eq_some_iff.1 h
    cases h2
    cases draw with
    | false =>
      unfold regionV at h1
      split at h1
      · rename_i hp
        exact wp_region (runList_ok hg hev hp _ h1 hR hT hf hQ)
      · cases h1
    | true =>
      have h1' := h1
      unfold regionV at h1'
      split at h1'
      · rename_i hp
        rw [if_pos rfl] at h1'
        split at h1'
        · rename_i hd
          exact hdraw ev hg hev id ops s s' E w a hp hd h1 hR hT hf Q hQ
        · cases h1'
      · cases h1'
  | seq x y ihx ihy =>
    intro s e s' E w a h hR hT hf Q hQ
    unfold runCode at h
    obtain ⟨r, h1, h2⟩ := Option.bind_eq_some_iff.1 h
    obtain ⟨e1, s1⟩ := r
    have g1 := runCode_grow hg k x _ _ _ h1
    refine wp_seq ?_
    cases e1 with
    | normal =>
      have g2 := runCode_grow hg k y _ _ _ h2
      refine ihx s .normal s1 E w a h1 hR hT (hf.left g2) _ fun E1 w1 a1 p1 hT1 hd1 => ?_
      show y.wp P Q a1 w1
      exact ihy s1 e s' E1 w1 a1 h2 p1.rel hT1 (hf.right p1 g1) Q fun E2 w2 a2 p2 hT2 hd2 => hQ E2 w2 a2 (p1.trans p2 g1 g2 hf) hT2 (hd2.trans hd1)
    | ret => cases h2; exact ihx s .ret s1 E w a h1 hR hT hf _ hQ
    | exit id => cases h2; exact ihx s (.exit id) s1 E w a h1 hR hT hf _ hQ
  | cond c x y ihx ihy =>
    intro s e s' E w a h hR hT hf Q hQ
    unfold runCode at h
    split at h
    · rename_i hc
      have hr := evalO_rel hT hc
      split at h
      · rename_i hv
        rw [hv] at hr
        generalize hq : a.eval c = q at hr
        cases hr
        exact wp_cond_true hq (ihx s e s' E w a h hR hT hf Q hQ)
      · rename_i hv
        rw [hv] at hr
        generalize hq : a.eval c = q at hr
        cases hr
        exact wp_cond_false hq (ihy s e s' E w a h hR hT hf Q hQ)
      · cases h
    · cases h
  | block id c ih =>
    intro s e s' E w a h hR hT hf Q hQ
    unfold runCode at h
    obtain ⟨r, h1, h2⟩ := Option.map_eq_some_iff.1 h
    obtain ⟨e1, s1⟩ := r
    cases h2
    refine wp_block (ih s e1 s1 E w a h1 hR hT hf _ fun E1 w1 a1 p1 hT1 hd1 => ?_)
    have := hQ E1 w1 a1 p1 hT1 hd1
    cases e1 with
    | normal => exact this
    | ret => exact this
    | exit i =>
      show Exit.inBlock id Q (.exit i) a1 w1
      simp only [Exit.inBlock]
      simp only [Ex.inBlock] at this
      split
      · rename_i hi; rw [if_pos hi] at this; exact this
      · rename_i hi; rw [if_neg hi] at this; exact this
  | loop c ih =>
    intro s e s' E w a h hR hT hf Q hQ
    unfold runCode at h
    exact wp_loop_rounds k (loopN_ok (runCode_grow hg k c) ih k s e s' E w a h hR hT hf Q hQ)
  | _ => intro s e s' E w a h; cases h

theorem Heap.mods_irrel {h : Heap} (m : List Nat) (hR : Rel P base E h w) : Rel P base E { h with mods := m } w := ⟨hR.blk, hR.low, hR.ro, hR.bnd, hR.inj, hR.glob, hR.base⟩
theorem callBody_grow {ev : Ev} (hev : EvGrow ev) (k : Nat) : EvGrow (callBody P ev (loopN k)) := by
  intro f args h v h' hv
  unfold callBody at hv
  split at hv
  · rename_i fn hfn
    split at hv
    · rename_i c hc
      have key : ∀ e s, runCode P ev (loopN k) c ⟨args ++ Array.replicate (fn.ntmps - args.size) undef, { h with mods := [] }⟩ = some (e, s) → (resultsV P fn s).map (fun v => (v, ({ s.h with mods := s.h.mods.filter (· < h.blks.length) ++ h.mods } : Heap))) = some (v, h') → Grow h h' := by
        intro e s hr hm
        obtain ⟨u, _, hu⟩ := Option.map_eq_some_iff.1 hm
        cases hu
        have g := runCode_grow hev k c _ _ _ hr
        obtain ⟨m, h3, h4⟩ := g.mods
        simp only [List.append_nil] at h3
        refine ⟨g.len, g.old, ⟨_, rfl, fun b hb hn => ?_⟩, g.fresh⟩
        have : b ∉ m := fun hm => hn (by rw [h3]; simp [hm, hb])
        exact h4 b hb this
      split at hv
      · rename_i s hr; exact key _ _ hr hv
      · rename_i s hr; exact key _ _ hr hv
      · cases hv
    · cases hv
  · cases hv
def resRun (A : Array Value) : ResultVar → Sem Value
  | .tmp t => pure (A.getD t undef)
  | .cell a t => do loadVar t (← asAddr (A.getD a undef))
theorem results_eq (fn : Func) (A : Array Value) : results fn A = (do
    let vs ← fn.results.mapM (resRun A)
    pure (if h : vs.size = 1 then vs[0] else .tuple vs)) := by
  unfold results
  have : (fun x => match x with
    | ResultVar.tmp t => (pure (A.getD t undef) : Sem Value)
    | ResultVar.cell a t => do loadVar t (← asAddr (A.getD a undef))) = resRun A := by
    funext x; cases x <;> rfl
  rw [← this]
  rfl
theorem resOne_run (hR : Rel P base E h w) {T A : Array Value} (hT : ARel E T A) : ∀ (l : List ResultVar) (vs : List Value), l.mapM (resOne P ⟨T, h⟩) = some vs →
    ∃ vs', (l.mapM (resRun A)).run P w = .ok vs' w ∧ LRel E vs vs'
  | [], vs, h => by simp at h; subst h; exact ⟨[], by simp, rfl, fun i v hv => by simp at hv⟩
  | x :: l, vs, h => by
    simp only [List.mapM_cons, Option.bind_eq_bind, Option.bind_eq_some_iff, Option.pure_def, Option.some.injEq] at h
    obtain ⟨v0, h0, vs0, h1, rfl⟩ := h
    obtain ⟨vs', h2, h3⟩ := resOne_run hR hT l vs0 h1
    have hx : ∃ v', (resRun A x).run P w = .ok v' w ∧ VR E v0 v' := by
      cases x with
      | tmp t => simp only [resOne, Option.some.injEq] at h0; subst h0; exact ⟨_, rfl, hT.getD t⟩
      | cell a t =>
        simp only [resOne] at h0
        obtain ⟨v', g1, g2⟩ := loadV_run hR h0 (hT.getD a)
        refine ⟨v', ?_, g2⟩
        have hp := hT.getD a
        unfold loadV at h0
        split at h0
        · rename_i b o hb
          rw [hb] at hp
          obtain ⟨l, hl, hp'⟩ := hp.ptr_inv
          simp only [resRun]
          rw [hp'] at g1 ⊢
          simpa [Instr.loadAt, Instr.sureAddr, asAddr] using g1
        · cases h0
    obtain ⟨v', g1, g2⟩ := hx
    refine ⟨v' :: vs', ?_, by simp [h3.1], fun i v hv => ?_⟩
    · simp only [List.mapM_cons, Sem.run_bind, g1, Result.andThen_ok, h2, Sem.run_pure]
    · cases i with
      | zero => simp at hv; subst hv; exact ⟨v', rfl, g2⟩
      | succ i => simpa using h3.2 i v (by simpa using hv)
theorem resultsV_run (hR : Rel P base E h w) {fn : Func} {T A : Array Value} {v : Value} (hv : resultsV P fn ⟨T, h⟩ = some v) (hT : ARel E T A) : ∃ v', (results fn A).run P w = .ok v' w ∧ VR E v v' := by
  have hrun : ∀ vs', (fn.results.toList.mapM (resRun A)).run P w = .ok vs' w → (results fn A).run P w = .ok (if h : vs'.toArray.size = 1 then vs'.toArray[0] else .tuple vs'.toArray) w := by
    intro vs' hm
    rw [results_eq]
    simp only [Sem.run_bind, Array.mapM_eq_mapM_toList, Sem.run_map]
    rw [hm]
    rfl
  unfold resultsV at hv
  split at hv
  · rename_i v0 hm
    obtain ⟨vs', h1, h2⟩ := resOne_run hR hT _ _ hm
    simp only [Option.some.injEq] at hv
    subst hv
    obtain ⟨v', h3, h4⟩ := h2.2 0 v0 rfl
    have hl := h2.1
    cases vs' with
    | nil => simp at h3
    | cons y r =>
      simp at h3 hl
      subst h3 hl
      exact ⟨y, by rw [hrun _ h1]; simp, h4⟩
  · rename_i vs hne hm
    obtain ⟨vs', h1, h2⟩ := resOne_run hR hT _ _ hm
    simp only [Option.some.injEq] at hv
    subst hv
    refine ⟨.tuple vs'.toArray, ?_, .tuple h2.arr.1 h2.arr.2⟩
    rw [hrun _ h1]
    have : ¬ vs'.toArray.size = 1 := by
      have e := h2.1
      intro h1'
      simp at h1'
      rw [← e] at h1'
      obtain ⟨x, hx⟩ := List.length_eq_one_iff.1 h1'
      exact hne x hx
    rw [dif_neg this]
  · cases hv

theorem enter_rel {args args' : Array Value} (ha : ARel E args args') (n : Nat) : ARel E (args ++ Array.replicate (n - args.size) undef) (args' ++ Array.replicate (n - args'.size) undef) := by
  rw [ha.1]
  exact ha.append ⟨rfl, fun i h1 h2 => by simp only [Array.getElem_replicate]; exact VR.undef⟩

theorem callBody_ok (hdraw : DrawOk P base) {ev : Ev} (hg : EvGrow ev) (hev : EvSound P base ev) (k : Nat) : EvSound P base (callBody P ev (loopN k)) := by
  intro f args h v h' E w args' hv hR ha hfree
  unfold callBody at hv
  split at hv
  · rename_i fn hfn
    split at hv
    · rename_i c hc
      have key : ∀ (e : Ex) (s : St), (e = .normal ∨ e = .ret) → runCode P ev (loopN k) c ⟨args ++ Array.replicate (fn.ntmps - args.size) undef, { h with mods := [] }⟩ = some (e, s) → (resultsV P fn s).map (fun v => (v, ({ s.h with mods := s.h.mods.filter (· < h.blks.length) ++ h.mods } : Heap))) = some (v, h') →
          Calls P f args' w fun e w' => ∃ v' E', e = .returned v' ∧ Post P base E h w E' h' w' ∧ VR E' v v' := by
        intro e s he hr hm
        obtain ⟨u, hu1, hu⟩ := Option.map_eq_some_iff.1 hm
        cases hu
        refine calls_of_wp hfn hc ?_
        refine runCode_ok hdraw hg hev k c _ e s E w _ hr (Heap.mods_irrel [] hR) (enter_rel ha _) hfree _ fun E' w' a' p hT hd => ?_
        obtain ⟨v', h1, h2⟩ := resultsV_run p.rel hu1 hT
        have hp : Post P base E h w E' { s.h with mods := s.h.mods.filter (· < h.blks.length) ++ h.mods } w' := ⟨p.ext, p.dom, Heap.mods_irrel _ p.rel, ⟨p.fr.os, p.fr.tape, p.fr.output, p.fr.size, p.fr.blk, p.fr.drawn⟩, p.orig⟩
        rcases he with rfl | rfl
        · exact ⟨hd, v', h1, v', E', rfl, hp, h2⟩
        · exact ⟨hd, v', h1, v', E', rfl, hp, h2⟩
      split at hv
      · rename_i s hr; exact key _ _ (.inl rfl) hr hv
      · rename_i s hr; exact key _ _ (.inr rfl) hr hv
      · cases hv
    · cases hv
  · cases hv

class XtOk (P : Program) [Gl P] [Xt P] : Prop where
  grow : ∀ f g, Xt.X P f = some g → ∀ args h v h', g args h = some (v, h') → Grow h h'
  sound : ∀ base f g, Xt.X P f = some g → ∀ args h v h' E w args', g args h = some (v, h') → Rel P base E h w → ARel E args args' → Free E h h' →
    Calls P f args' w fun e w' => ∃ v' E', e = .returned v' ∧ Post P base E h w E' h' w' ∧ VR E' v v'
theorem evalN_grow [Xt P] [XtOk P] : ∀ k, EvGrow (evalN P k)
  | 0 => fun f args h v h' hv => by
    unfold evalN at hv
    split at hv
    · rename_i g hg; exact XtOk.grow f g hg args h v h' hv
    · cases hv
  | k + 1 => fun f args h v h' hv => by
    unfold evalN at hv
    split at hv
    · rename_i g hg; exact XtOk.grow f g hg args h v h' hv
    · exact callBody_grow (evalN_grow k) k f args h v h' hv
theorem evalN_ok [Xt P] [XtOk P] (hdraw : DrawOk P base) : ∀ k, EvSound P base (evalN P k)
  | 0 => fun f args h v h' E w args' hv => by
    unfold evalN at hv
    split at hv
    · rename_i g hg; exact XtOk.sound base f g hg args h v h' E w args' hv
    · cases hv
  | k + 1 => fun f args h v h' E w args' hv => by
    unfold evalN at hv
    split at hv
    · rename_i g hg; exact XtOk.sound base f g hg args h v h' E w args' hv
    · exact callBody_ok hdraw (evalN_grow k) (evalN_ok hdraw k) k f args h v h' E w args' hv
end Go.Am
set_option linter.unusedSimpArgs false
set_option linter.unusedVariables false
namespace Go.Am
variable {P : Program} [Gl P] {base : Nat}

structure Trace (N : Nat) (Hh : Nat → Heap) (M : Nat → List Nat) : Prop where
  g : ∀ i, i < N → Grow { Hh i with mods := [] } { Hh (i + 1) with mods := M i }
section
variable {N : Nat} {Hh : Nat → Heap} {M : Nat → List Nat}
def Touch (Hh : Nat → Heap) (M : Nat → List Nat) (i b : Nat) : Prop := b < (Hh (i + 1)).blks.length ∧ (b ∈ M i ∨ (Hh i).blks.length ≤ b)
theorem Trace.len (t : Trace N Hh M) {i : Nat} (hi : i < N) : (Hh i).blks.length ≤ (Hh (i + 1)).blks.length := (t.g i hi).len
theorem Trace.lens (t : Trace N Hh M) {i : Nat} : ∀ {j : Nat}, i ≤ j → j ≤ N → (Hh i).blks.length ≤ (Hh j).blks.length
  | 0, h, _ => by have : i = 0 := by omega
                  subst this; exact Nat.le_refl _
  | j + 1, h, hj => by
    rcases Nat.eq_or_lt_of_le h with e | e
    · subst e; exact Nat.le_refl _
    · exact Nat.le_trans (t.lens (j := j) (by omega) (by omega)) (t.len (by omega))
theorem Trace.still (t : Trace N Hh M) {i b : Nat} (hi : i < N) (hn : ¬ Touch Hh M i b) : (Hh (i + 1)).blks[b]? = (Hh i).blks[b]? := by
  obtain ⟨d, hd, h⟩ := (t.g i hi).mods
  simp only [List.append_nil] at hd
  rcases Nat.lt_or_ge b (Hh i).blks.length with hb | hb
  · exact h b hb (fun hm => hn ⟨Nat.lt_of_lt_of_le hb (t.len hi), .inl (by rw [hd]; exact hm)⟩)
  · have : (Hh (i + 1)).blks.length ≤ b := by
      rcases Nat.lt_or_ge b (Hh (i + 1)).blks.length with h2 | h2
      · exact absurd ⟨h2, .inr hb⟩ hn
      · exact h2
    rw [List.getElem?_eq_none (by omega), List.getElem?_eq_none (by omega)]
theorem Trace.stills (t : Trace N Hh M) {b i : Nat} : ∀ {j : Nat}, i ≤ j → j ≤ N → (∀ k, i ≤ k → k < j → ¬ Touch Hh M k b) → (Hh j).blks[b]? = (Hh i).blks[b]?
  | 0, h, _, _ => by have : i = 0 := by omega
                     subst this; rfl
  | j + 1, h, hj, hn => by
    rcases Nat.eq_or_lt_of_le h with e | e
    · subst e; rfl
    · rw [t.still (by omega) (hn j (by omega) (by omega)), t.stills (j := j) (by omega) (by omega) (fun k h1 h2 => hn k h1 (by omega))]
theorem Trace.later (t : Trace N Hh M) {b i : Nat} {k : Blk} (hk : (Hh i).blks[b]? = some k) : ∀ {j : Nat}, i ≤ j → j ≤ N → ∃ k', (Hh j).blks[b]? = some k' ∧ (k'.own = k.own ∧ k'.ty = k.ty ∧ k'.body.kind = k.body.kind) ∧ (k'.live → k.live)
  | 0, h, _ => by have : i = 0 := by omega
                  subst this; exact ⟨k, hk, ⟨rfl, rfl, rfl⟩, id⟩
  | j + 1, h, hj => by
    rcases Nat.eq_or_lt_of_le h with e | e
    · subst e; exact ⟨k, hk, ⟨rfl, rfl, rfl⟩, id⟩
    · obtain ⟨k1, h1, h2, h3⟩ := t.later hk (j := j) (by omega) (by omega)
      obtain ⟨k2, h4, h5, h6⟩ := (t.g j (by omega)).old b k1 h1
      exact ⟨k2, h4, ⟨h5.1.trans h2.1, h5.2.1.trans h2.2.1, h5.2.2.trans h2.2.2⟩, h3 ∘ h6⟩
theorem Trace.same (t : Trace N Hh M) {b i j : Nat} {k k' : Blk} (hi : i ≤ N) (hj : j ≤ N) (hk : (Hh i).blks[b]? = some k) (hk' : (Hh j).blks[b]? = some k') : k'.own = k.own ∧ k'.ty = k.ty ∧ k'.body.kind = k.body.kind := by
  rcases Nat.le_total i j with h | h
  · obtain ⟨k2, h1, h2, _⟩ := t.later hk h hj
    rw [hk'] at h1; cases h1; exact h2
  · obtain ⟨k2, h1, h2, _⟩ := t.later hk' h hi
    rw [hk] at h1; cases h1; exact ⟨h2.1.symm, h2.2.1.symm, h2.2.2.symm⟩

structure Cut (N : Nat) (Hh : Nat → Heap) (M : Nat → List Nat) (S : Nat → Prop) (b m : Nat) : Prop where
  le : m ≤ N
  done : ∀ i, i < m → Touch Hh M i b → S i
  todo : ∀ i, m ≤ i → i < N → Touch Hh M i b → ¬ S i
theorem Cut.eq (t : Trace N Hh M) {S : Nat → Prop} {b m m' : Nat} (h : Cut N Hh M S b m) (h' : Cut N Hh M S b m') : (Hh m').blks[b]? = (Hh m).blks[b]? := by
  have key : ∀ {m m' : Nat}, Cut N Hh M S b m → Cut N Hh M S b m' → m ≤ m' → (Hh m').blks[b]? = (Hh m).blks[b]? := fun h h' hle =>
    t.stills hle h'.le fun k h1 h2 ht => h.todo k h1 (Nat.lt_of_lt_of_le h2 h'.le) ht (h'.done k h2 ht)
  rcases Nat.le_total m m' with hle | hle
  · exact key h h' hle
  · exact (key h' h hle).symm

structure InvH (P : Program) (base : Nat) (N : Nat) (Hh : Nat → Heap) (M : Nat → List Nat) (E0 : Env) (w0 : World) (S : Nat → Prop) (E : Env) (w : World) : Prop where
  ext : Ext E0 E
  dom : ∀ b, E b ≠ none → E0 b ≠ none ∨ ∃ i, i < N ∧ S i ∧ (Hh i).blks.length ≤ b ∧ b < (Hh (i + 1)).blks.length
  cur : ∀ (b : Nat) l m k, E b = some l → Cut N Hh M S b m → (Hh m).blks[b]? = some k → BlkR P E k l w
  sta : ∀ (b : Nat) l m k, E b = some l → m ≤ N → (Hh m).blks[b]? = some k → (k.body.kind ≠ 0 ∨ sizeT P k.ty = some l.es) ∧ (k.own = true → base ≤ l.cb) ∧ (k.own = false → l.cb < base)
  inj : ∀ (b b2 : Nat) l l2 m m2 k k2, E b = some l → E b2 = some l2 → Cut N Hh M S b m → Cut N Hh M S b2 m2 → (Hh m).blks[b]? = some k → (Hh m2).blks[b2]? = some k2 → k.own = true → k2.own = true → k.live → k2.live → l.cb = l2.cb → b = b2
  bnd : ∀ (b : Nat) l, E b = some l → l.cb < w.heap.size
  base : base ≤ w.heap.size
  fr : Fr E0 (Hh 0) w0 w
  orig : ∀ (b : Nat) m k l, E0 b = none → E b = some l → Cut N Hh M S b m → (Hh m).blks[b]? = some k → k.own = true → k.live → w0.heap.size ≤ l.cb ∨ Mine E0 (Hh 0) l.cb

theorem Trace.maker (t : Trace N Hh M) {i j b : Nat} (hi : i < N) (hj : j < N) (h1 : (Hh i).blks.length ≤ b) (h2 : b < (Hh (i + 1)).blks.length) (h3 : (Hh j).blks.length ≤ b) (h4 : b < (Hh (j + 1)).blks.length) : i = j := by
  rcases Nat.lt_trichotomy i j with h | h | h
  · have := t.lens (i := i + 1) (j := j) (by omega) (by omega); omega
  · exact h
  · have := t.lens (i := j + 1) (j := i) (by omega) (by omega); omega

theorem InvH.step (t : Trace N Hh M) {E0 : Env} {w0 : World} (hfree : Free E0 (Hh 0) (Hh N)) {S : Nat → Prop} {E : Env} {w : World} (hI : InvH P base N Hh M E0 w0 S E w) {i : Nat} (hi : i < N) (hiS : ¬ S i)
    {hh hh' : Heap} {E' : Env} {w' : World} (H1 : hh.blks.length = (Hh i).blks.length) (H1' : hh'.blks.length = (Hh (i + 1)).blks.length)
    (H2 : ∀ (b : Nat) k, hh.blks[b]? = some k → k.live → (Hh i).blks[b]? = some k ∧ (E b ≠ none → Cut N Hh M S b i))
    (H5 : ∀ b, Touch Hh M i b → hh'.blks[b]? = (Hh (i + 1)).blks[b]?)
    (H6 : ∀ b, ¬ Touch Hh M i b → hh'.blks[b]? = hh.blks[b]?)
    (H7 : ∀ b j, Touch Hh M i b → S j → i < j → j < N → ¬ Touch Hh M j b)
    (H8 : ∀ b, Touch Hh M i b → E b ≠ none → Cut N Hh M S b i)
    (hp : Post P base E hh w E' hh' w') : InvH P base N Hh M E0 w0 (fun j => S j ∨ j = i) E' w' := by
  -- where b is touched by i, it is now as behind i
  have touched : ∀ b m k, Touch Hh M i b → Cut N Hh M (fun j => S j ∨ j = i) b m → (Hh m).blks[b]? = some k → hh'.blks[b]? = some k := by
    intro b m k ht hc hk
    have hm : i < m := by
      rcases Nat.lt_or_ge i m with h | h
      · exact h
      · exact absurd (.inr rfl) (hc.todo i h hi ht)
    rw [H5 b ht, ← t.stills (i := i + 1) (j := m) hm hc.le (fun j h1 h2 htj => ?_)]
    · exact hk
    · rcases hc.done j h2 htj with h | h
      · exact H7 b j ht h h1 (Nat.lt_of_lt_of_le h2 hc.le) htj
      · omega
  have untouched : ∀ b m, ¬ Touch Hh M i b → Cut N Hh M (fun j => S j ∨ j = i) b m → Cut N Hh M S b m := by
    intro b m ht hc
    refine ⟨hc.le, fun j h1 h2 => ?_, fun j h1 h2 h3 h4 => hc.todo j h1 h2 h3 (.inl h4)⟩
    rcases hc.done j h1 h2 with h | h
    · exact h
    · subst h; exact absurd h2 ht
  -- a new number is of a block that i made
  have fresh : ∀ b, E b = none → E' b ≠ none → Touch Hh M i b := fun b h0 h1 => by
    have := hp.dom b h0 h1
    rw [H1, H1'] at this
    exact ⟨this.2, .inr this.1⟩
  -- an old number: how it stood
  have before : ∀ b l m k, E b = some l → Cut N Hh M (fun j => S j ∨ j = i) b m → (Hh m).blks[b]? = some k → k.own = true → k.live → ∃ m0 k0, Cut N Hh M S b m0 ∧ (Hh m0).blks[b]? = some k0 ∧ k0.own = true ∧ k0.live := by
    intro b l m k hl hc hk ho hv
    by_cases ht : Touch Hh M i b
    · have hci := H8 b ht (by rw [hl]; simp)
      have hlt : b < (Hh i).blks.length := by
        rcases Nat.lt_or_ge b (Hh i).blks.length with h | h
        · exact h
        · have hb := (List.getElem?_eq_some_iff.1 hk).1
          -- it was made by i or later
          exfalso
          have : b < (Hh N).blks.length := Nat.lt_of_lt_of_le hb (t.lens hc.le (Nat.le_refl _))
          rcases hI.dom b (by rw [hl]; simp) with h2 | ⟨j, hj, hjS, h3, h4⟩
          · exact h2 (hfree b (Nat.le_trans (t.lens (Nat.zero_le _) (by omega)) h) this)
          · rcases Nat.lt_or_ge j i with h5 | h5
            · have := t.lens (i := j + 1) (j := i) (by omega) (by omega); omega
            · exact hci.todo j h5 hj ⟨h4, .inr h3⟩ hjS
      have hki : (Hh i).blks[b]? = some (Hh i).blks[b] := List.getElem?_eq_getElem hlt
      have him : i ≤ m := by
        rcases Nat.lt_or_ge i m with h | h
        · omega
        · exact absurd (.inr rfl) (hc.todo i h hi ht)
      obtain ⟨k2, h1, h2, h3⟩ := t.later hki him hc.le
      rw [hk] at h1; cases h1
      exact ⟨i, _, hci, hki, by rw [← h2.1]; exact ho, h3 hv⟩
    · exact ⟨m, k, untouched b m ht hc, hk, ho, hv⟩
  have mineback : ∀ c, Mine E hh c → ∃ (b : Nat) (k : Blk) (l : Loc), (Hh i).blks[b]? = some k ∧ hh.blks[b]? = some k ∧ E b = some l ∧ k.own = true ∧ k.live ∧ l.cb = c ∧ Cut N Hh M S b i := by
    rintro c ⟨b, k, l, hk, hl, ho, hv, hc⟩
    have := H2 b k hk hv
    exact ⟨b, k, l, this.1, hk, hl, ho, hv, hc, this.2 (by rw [hl]; simp)⟩
  have mine0 : ∀ c, c < w0.heap.size → Mine E hh c → Mine E0 (Hh 0) c := by
    intro c hc hm
    obtain ⟨b, k, l, hk, _, hl, ho, hv, rfl, hcut⟩ := mineback c hm
    cases h0 : E0 b with
    | none => exact (hI.orig b i k l h0 hl hcut hk ho hv).resolve_left (by omega)
    | some l0 =>
      have := hI.ext b l0 h0
      rw [hl] at this; cases this
      have hlt : b < (Hh 0).blks.length := by
        rcases Nat.lt_or_ge b (Hh 0).blks.length with h | h
        · exact h
        · have hb := (List.getElem?_eq_some_iff.1 hk).1
          have := hfree b h (Nat.lt_of_lt_of_le hb (t.lens (by omega) (Nat.le_refl _)))
          rw [h0] at this; cases this
      obtain ⟨k2, h1, h2, h3⟩ := t.later (List.getElem?_eq_getElem hlt) (Nat.zero_le i) (by omega)
      rw [hk] at h1; cases h1
      exact ⟨b, _, l, List.getElem?_eq_getElem hlt, h0, by rw [← h2.1]; exact ho, h3 hv, rfl⟩
  refine ⟨hI.ext.trans hp.ext, fun b hb => ?_, fun b l m k hl hc hk => ?_, fun b l m k hl hm hk => ?_, fun b b2 l l2 m m2 k k2 hl hl2 hc hc2 hk hk2 ho ho2 hv hv2 hcb => ?_, hp.rel.bnd, hp.rel.base,
    ⟨hp.fr.os.trans hI.fr.os, hp.fr.tape.trans hI.fr.tape, hp.fr.output.trans hI.fr.output, Nat.le_trans hI.fr.size hp.fr.size, fun c hc hm => ?_, Nat.le_trans hI.fr.drawn hp.fr.drawn⟩, fun b m k l h0 hl hc hk ho hv => ?_⟩
  · -- dom
    cases h0 : E b with
    | none =>
      have := hp.dom b h0 hb
      rw [H1, H1'] at this
      exact .inr ⟨i, hi, .inr rfl, this.1, this.2⟩
    | some l =>
      rcases hI.dom b (by rw [h0]; simp) with h | ⟨j, h1, h2, h3⟩
      · exact .inl h
      · exact .inr ⟨j, h1, .inl h2, h3⟩
  · -- cur
    by_cases ht : Touch Hh M i b
    · exact hp.rel.blk b k l (touched b m k ht hc hk) hl
    · have hc' := untouched b m ht hc
      cases h0 : E b with
      | none => exact absurd (fresh b h0 (by rw [hl]; simp)) ht
      | some l0 =>
        have := hp.ext b l0 h0
        rw [hl] at this; cases this
        have hold := hI.cur b l m k h0 hc' hk
        by_cases hm : Mine E hh l.cb
        · obtain ⟨b1, k1, l1, g1, g2, g3, g4, g5, g6, g7⟩ := mineback _ hm
          by_cases hbb : b1 = b
          · subst hbb
            have e1 := Cut.eq t g7 hc'
            rw [g1, hk] at e1
            simp only [Option.some.injEq] at e1
            subst e1
            exact hp.rel.blk b1 k l (by rw [H6 b1 ht]; exact g2) hl
          · by_cases hkv : k.live
            · cases hko : k.own with
              | true => exact absurd (hI.inj b1 b l1 l i m k1 k g3 h0 g7 hc' g1 hk g4 hko g5 hkv g6) hbb
              | false =>
                have h1 := (hI.sta b l m k h0 hc.le hk).2.2 hko
                have h2 := (hI.sta b1 l1 i k1 g3 (by omega) g1).2.1 g4
                omega
            · exact BlkR.of_dead hkv hold
        · exact hold.congr hp.ext (hp.fr.blk _ (hI.bnd b l h0) hm)
  · -- sta
    cases h0 : E b with
    | some l0 =>
      have := hp.ext b l0 h0
      rw [hl] at this; cases this
      exact hI.sta b l m k h0 hm hk
    | none =>
      have ht := fresh b h0 (by rw [hl]; simp)
      have hd := hp.dom b h0 (by rw [hl]; simp)
      have hk1 : hh'.blks[b]? = some hh'.blks[b] := List.getElem?_eq_getElem hd.2
      have hk2 := hk1
      rw [H5 b ht] at hk2
      have hs := t.same (by omega) hm hk2 hk
      refine ⟨?_, fun ho => hp.rel.low b _ l hk1 hl (by rw [← hs.1]; exact ho), fun ho => hp.rel.ro b _ l hk1 hl (by rw [← hs.1]; exact ho)⟩
      have hb := hp.rel.blk b _ l hk1 hl
      rw [hs.2.1, hs.2.2]
      unfold BlkR at hb
      split at hb
      · exact .inr hb.1
      · rename_i e; left; rw [e]; simp [Body.kind]
      · exact .inr hb
      · rename_i e
        have := (t.g i hi).fresh b _ (by rw [← H1]; exact hd.1) hk2
        rw [e] at this
        exact absurd rfl this
  · -- inj
    have inhh : ∀ b m k, Touch Hh M i b → Cut N Hh M (fun j => S j ∨ j = i) b m → (Hh m).blks[b]? = some k → hh'.blks[b]? = some k := touched
    have oldnew : ∀ b b2 l l2 m m2 k k2, E b = none → E' b = some l → E b2 = some l2 → E' b2 = some l2 → Cut N Hh M (fun j => S j ∨ j = i) b m → Cut N Hh M (fun j => S j ∨ j = i) b2 m2 → (Hh m).blks[b]? = some k → (Hh m2).blks[b2]? = some k2 → k.own = true → k2.own = true → k.live → k2.live → l.cb = l2.cb → b = b2 := by
      intro b b2 l l2 m m2 k k2 h0 hl h02 hl2 hc hc2 hk hk2 ho ho2 hv hv2 hcb
      have ht := fresh b h0 (by rw [hl]; simp)
      have hkh := inhh b m k ht hc hk
      rcases hp.orig b k l h0 hl hkh ho hv with h | h
      · have := hI.bnd b2 l2 h02; omega
      · obtain ⟨b1, k1, l1, g1, g2, g3, g4, g5, g6, g7⟩ := mineback _ h
        obtain ⟨m0, k0, q1, q2, q3, q4⟩ := before b2 l2 m2 k2 h02 hc2 hk2 ho2 hv2
        have e := hI.inj b1 b2 l1 l2 i m0 k1 k0 g3 h02 g7 q1 g1 q2 g4 q3 g5 q4 (by rw [g6, hcb])
        subst e
        by_cases ht2 : Touch Hh M i b1
        · exact hp.rel.inj b b1 k k2 l l2 hkh (inhh b1 m2 k2 ht2 hc2 hk2) hl hl2 ho ho2 hv hv2 hcb
        · exact hp.rel.inj b b1 k k1 l l2 hkh (by rw [H6 b1 ht2]; exact g2) hl hl2 ho g4 hv g5 hcb
    cases h0 : E b with
    | some l0 =>
      have := hp.ext b l0 h0
      rw [hl] at this; cases this
      cases h02 : E b2 with
      | some l02 =>
        have := hp.ext b2 l02 h02
        rw [hl2] at this; cases this
        obtain ⟨m0, k0, q1, q2, q3, q4⟩ := before b l m k h0 hc hk ho hv
        obtain ⟨m1, k1, r1, r2, r3, r4⟩ := before b2 l2 m2 k2 h02 hc2 hk2 ho2 hv2
        exact hI.inj b b2 l l2 m0 m1 k0 k1 h0 h02 q1 r1 q2 r2 q3 r3 q4 r4 hcb
      | none => exact (oldnew b2 b l2 l m2 m k2 k h02 hl2 h0 hl hc2 hc hk2 hk ho2 ho hv2 hv hcb.symm).symm
    | none =>
      cases h02 : E b2 with
      | some l02 =>
        have := hp.ext b2 l02 h02
        rw [hl2] at this; cases this
        exact oldnew b b2 l l2 m m2 k k2 h0 hl h02 hl2 hc hc2 hk hk2 ho ho2 hv hv2 hcb
      | none =>
        have ht := fresh b h0 (by rw [hl]; simp)
        have ht2 := fresh b2 h02 (by rw [hl2]; simp)
        exact hp.rel.inj b b2 k k2 l l2 (inhh b m k ht hc hk) (inhh b2 m2 k2 ht2 hc2 hk2) hl hl2 ho ho2 hv hv2 hcb
  · -- frame
    rw [hp.fr.blk c (Nat.lt_of_lt_of_le hc hI.fr.size) (fun h => hm (mine0 c hc h)), hI.fr.blk c hc hm]
  · -- orig
    cases h1 : E b with
    | none =>
      have ht := fresh b h1 (by rw [hl]; simp)
      rcases hp.orig b k l h1 hl (touched b m k ht hc hk) ho hv with h | h
      · exact .inl (Nat.le_trans hI.fr.size h)
      · rcases Nat.lt_or_ge l.cb w0.heap.size with h2 | h2
        · exact .inr (mine0 _ h2 h)
        · exact .inl h2
    | some l0 =>
      have := hp.ext b l0 h1
      rw [hl] at this; cases this
      obtain ⟨m0, k0, q1, q2, q3, q4⟩ := before b l m k h1 hc hk ho hv
      exact hI.orig b m0 k0 l h0 h1 q1 q2 q3 q4
end
end Go.Am
set_option linter.unusedSimpArgs false
set_option linter.unusedVariables false
namespace Go.Am
variable {P : Program} [Gl P] {base : Nat}

def fade (k : Blk) : Blk := { k with body := match k.body with | .cells _ => .dead | .dead => .dead | _ => .gone }
theorem fade_live (k : Blk) : ¬ (fade k).live := by
  obtain ⟨body, ty, own⟩ := k
  cases body <;> exact fun h => h
def star (R : List Nat) (h : Heap) : Heap := { blks := h.blks.mapIdx fun b k => if b ∈ R then k else fade k, mods := [] }
theorem star_len (R : List Nat) (h : Heap) : (star R h).blks.length = h.blks.length := by simp [star]
theorem star_get (R : List Nat) (h : Heap) (b : Nat) : (star R h).blks[b]? = (h.blks[b]?).map fun k => if b ∈ R then k else fade k := by simp [star]
theorem star_es (R : List Nat) (h : Heap) (b : Nat) : esOf P (star R h) b = esOf P h b := by
  unfold esOf
  rw [star_get]
  cases hb : h.blks[b]? with
  | none => rfl
  | some k =>
    obtain ⟨body, ty, own⟩ := k
    simp only [Option.map_some]
    by_cases hR : b ∈ R
    · rw [if_pos hR]
    · rw [if_neg hR]
      cases body <;> rfl

theorem cells_congr {h hs : Heap} {b : Nat} (hb : hs.blks[b]? = h.blks[b]?) : hs.cells? b = h.cells? b := by unfold Heap.cells?; rw [hb]
theorem loadN_congr {h hs : Heap} {b o n : Nat} (hb : hs.blks[b]? = h.blks[b]?) : hs.loadN b o n = h.loadN b o n := by unfold Heap.loadN; rw [cells_congr hb]
theorem load1_congr {h hs : Heap} {b o : Nat} (hb : hs.blks[b]? = h.blks[b]?) : hs.load1 b o = h.load1 b o := by unfold Heap.load1; rw [cells_congr hb]
theorem mapOf_congr {h hs : Heap} {b : Nat} (hb : hs.blks[b]? = h.blks[b]?) : mapOf? hs b = mapOf? h b := by unfold mapOf?; rw [hb]

theorem isStrT_of {t : TypeId} (h : P.underlying t = some .string) : isStrT P t = true := by unfold isStrT; rw [h]
theorem isSliceT_of {t e : TypeId} (h : P.underlying t = some (.slice e)) : isSliceT P t = true := by unfold isSliceT; rw [h]
theorem isSliceT_str {t : TypeId} (h : P.underlying t = some .string) : isSliceT P t = false := by unfold isSliceT; rw [h]
theorem isStrT_slice {t e : TypeId} (h : P.underlying t = some (.slice e)) : isStrT P t = false := by unfold isStrT; rw [h]

theorem doOp_star {ev : Ev} {o : Oper} {T : Array Value} {h hs h1 : Heap} {v : Value} (hc : clsOf P o.op ≠ .e) (hd : doOp P ev o T h = some (v, h1)) (hlen : hs.blks.length = h.blks.length)
    (hread : clsOf P o.op = .l → ∀ r ∈ readOf o.op T, hs.blks[r]? = h.blks[r]?) (hes : ∀ b, esOf P hs b = esOf P h b) :
    ∃ h1s, doOp P ev o T hs = some (v, h1s) ∧ ((clsOf P o.op ≠ .a ∧ h1 = h ∧ h1s = hs) ∨ (clsOf P o.op = .a ∧ ∃ body ty, h1 = h.new body ty ∧ h1s = hs.new body ty ∧ body.kind ≠ 2)) := by
  obtain ⟨dst, op, type, pos, after, guard⟩ := o
  have pmap : ∀ {u us : Option Value}, us = u → (u.map fun v => (v, h)) = some (v, h1) → ((us.map fun v => (v, hs)) = some (v, hs) ∧ h1 = h) := fun e hu => by
    obtain ⟨v0, h0, e0⟩ := Option.map_eq_some_iff.1 hu
    cases e0
    exact ⟨by rw [e, h0]; rfl, rfl⟩
  cases op <;> simp only [doOp] at hd ⊢ <;> simp only [clsOf] at hc hread ⊢
  case move x => cases hd; exact ⟨hs, rfl, .inl ⟨by simp, rfl, rfl⟩⟩
  case assign x => cases hd; exact ⟨hs, rfl, .inl ⟨by simp, rfl, rfl⟩⟩
  case pick c x y =>
    split at hd
    · rename_i t ht; cases hd; exact ⟨hs, rfl, .inl ⟨by simp, rfl, rfl⟩⟩
    · cases hd
  case alloc t =>
    unfold allocV at hd ⊢
    split at hd
    · split at hd
      · cases hd
        rename_i hg
        exact ⟨_, by rw [if_pos hg, newV, hlen], .inr ⟨trivial, _, _, rfl, rfl, by simp [Body.kind]⟩⟩
      · cases hd
    · cases hd
  case box t x =>
    unfold boxV at hd ⊢
    split at hd
    · cases hd
      exact ⟨_, by rw [newV, hlen], .inr ⟨trivial, _, _, rfl, rfl, by simp [Body.kind]⟩⟩
    · cases hd
  case build t parts => have := pmap rfl hd; exact ⟨hs, this.1, .inl ⟨by simp, this.2, rfl⟩⟩
  case buildSlice t len parts =>
    unfold buildSliceV at hd ⊢
    split at hd
    · split at hd
      · split at hd
        · rename_i hcond
          obtain ⟨u, hu, e⟩ := Option.map_eq_some_iff.1 hd
          cases e
          exact ⟨_, by rw [if_pos hcond, hu, hlen]; rfl, .inr ⟨trivial, _, _, rfl, rfl, by simp [Body.kind]⟩⟩
        · cases hd
      · cases hd
    · cases hd
  case load t x =>
    have e : loadV P t (evalO T x) hs = loadV P t (evalO T x) h := by
      have hr := hread trivial
      simp only [readOf] at hr
      unfold loadV
      split
      · rename_i b o hb
        rw [hb] at hr
        have hb' := hr b (by simp)
        simp only [loadN_congr hb', load1_congr hb']
      · rfl
    have := pmap e hd
    exact ⟨hs, this.1, .inl ⟨by simp, this.2, rfl⟩⟩
  case store => exact absurd rfl hc
  case nilCheck x => have := pmap rfl hd; exact ⟨hs, this.1, .inl ⟨by simp, this.2, rfl⟩⟩
  case binOp => have := pmap rfl hd; exact ⟨hs, this.1, .inl ⟨by simp, this.2, rfl⟩⟩
  case unOp => have := pmap rfl hd; exact ⟨hs, this.1, .inl ⟨by simp, this.2, rfl⟩⟩
  case convert s d x =>
    unfold convV at hd ⊢
    split at hd
    · rename_i e n c h1' h2' hx
      simp only [isStrT_of h2', isSliceT_of h1', isSliceT_str h2', isStrT_slice h1', Bool.and_self, Bool.and_false, Bool.false_eq_true, if_false, if_true] at hc hread ⊢
      split at hd
      · rename_i hcond
        cases hd
        exact ⟨hs, by rw [if_pos hcond], .inl ⟨by simp, rfl, rfl⟩⟩
      · cases hd
    · rename_i e b o n c h1' h2' hx
      simp only [isStrT_of h2', isSliceT_of h1', isSliceT_str h2', isStrT_slice h1', Bool.and_self, Bool.and_false, Bool.false_eq_true, if_false, if_true] at hc hread ⊢
      have hr := hread trivial
      simp only [readOf, hx] at hr
      split at hd
      · rename_i hcond
        rw [if_pos hcond, loadN_congr (hr b (by simp))]
        obtain ⟨u, hu, e⟩ := Option.map_eq_some_iff.1 hd
        cases e
        exact ⟨hs, by rw [hu]; rfl, .inl ⟨by simp, rfl, rfl⟩⟩
      · cases hd
    · rename_i e s0 h1' h2' hx
      simp only [isStrT_of h1', isSliceT_of h2', isSliceT_str h1', isStrT_slice h2', Bool.and_self, Bool.and_false, Bool.false_eq_true, if_false, if_true] at hc hread ⊢
      split at hd
      · rename_i hcond
        cases hd
        exact ⟨_, by rw [if_pos hcond, hlen], .inr ⟨trivial, _, _, rfl, rfl, by simp [Body.kind]⟩⟩
      · cases hd
    · rename_i h1' h2' hx
      simp only [isStrT_slice h1', isStrT_slice h2', isSliceT_of h1', Bool.false_and, Bool.and_false, Bool.true_or, Bool.false_eq_true, if_false, if_true] at hc
      exact absurd rfl hc
    · cases hd
    · cases hd
    · rename_i g1 g2 g3 g4 g5 g6
      split at hd
      · rename_i hg
        obtain ⟨u, hu, e⟩ := Option.map_eq_some_iff.1 hd
        cases e
        refine ⟨hs, by rw [if_pos hg, hu]; rfl, .inl ⟨?_, rfl, rfl⟩⟩
        have hf : (isStrT P s && isSliceT P d) = false := by
          cases h1 : isStrT P s with
          | false => rfl
          | true =>
            cases h2 : isSliceT P d with
            | false => rfl
            | true =>
              unfold isStrT at h1
              unfold isSliceT at h2
              split at h1
              · rename_i e1
                split at h2
                · rename_i e2; first | exact (g6 _ e1 e2).elim | exact (g5 _ e1 e2).elim | exact (g4 _ e1 e2).elim | exact (g3 _ e1 e2).elim | exact (g2 _ e1 e2).elim
                · cases h2
              · cases h1
        rw [hf]
        simp only [Bool.false_eq_true, if_false]
        split
        · simp
        · split <;> simp
      · cases hd
  case makeInterface => have := pmap rfl hd; exact ⟨hs, this.1, .inl ⟨by simp, this.2, rfl⟩⟩
  case makeFunc => cases hd; exact ⟨hs, rfl, .inl ⟨by simp, rfl, rfl⟩⟩
  case makeMap t r =>
    cases r with
    | none => cases hd; exact ⟨(makeMapV hs).2, by simp [makeMapV, hlen], .inr ⟨trivial, _, _, rfl, rfl, by simp [Body.kind]⟩⟩
    | some r => cases hd
  case makeSlice t l c =>
    unfold makeSliceV at hd ⊢
    split at hd
    · split at hd
      · split at hd
        · rename_i hcond
          cases hd
          exact ⟨_, by rw [if_pos hcond, hlen], .inr ⟨trivial, _, _, rfl, rfl, by simp [Body.kind]⟩⟩
        · cases hd
      · cases hd
    · cases hd
  case slice t x lo hi mx =>
    have e : sliceV P t (evalO T x) (lo.map (evalO T)) (hi.map (evalO T)) (mx.map (evalO T)) hs = sliceV P t (evalO T x) (lo.map (evalO T)) (hi.map (evalO T)) (mx.map (evalO T)) h := by
      unfold sliceV
      simp only [hes]
    have := pmap e hd
    exact ⟨hs, this.1, .inl ⟨by simp, this.2, rfl⟩⟩
  case fieldAddr => have := pmap rfl hd; exact ⟨hs, this.1, .inl ⟨by simp, this.2, rfl⟩⟩
  case field => have := pmap rfl hd; exact ⟨hs, this.1, .inl ⟨by simp, this.2, rfl⟩⟩
  case indexAddr => have := pmap rfl hd; exact ⟨hs, this.1, .inl ⟨by simp, this.2, rfl⟩⟩
  case index => have := pmap rfl hd; exact ⟨hs, this.1, .inl ⟨by simp, this.2, rfl⟩⟩
  case lookup t m k ok =>
    have e : lookupV P t (evalO T m) (evalO T k) ok hs = lookupV P t (evalO T m) (evalO T k) ok h := by
      have hr := hread trivial
      simp only [readOf] at hr
      unfold lookupV
      split
      · rename_i kt et r k n h1 h2 h3
        rw [h2] at hr
        rw [mapOf_congr (hr r (by simp))]
      · rfl
    have := pmap e hd
    exact ⟨hs, this.1, .inl ⟨by simp, this.2, rfl⟩⟩
  case mapUpdate => exact absurd rfl hc
  case typeAssert => have := pmap rfl hd; exact ⟨hs, this.1, .inl ⟨by simp, this.2, rfl⟩⟩
  case extract => have := pmap rfl hd; exact ⟨hs, this.1, .inl ⟨by simp, this.2, rfl⟩⟩
  case call c =>
    obtain ⟨callee, args, ts⟩ := c
    cases callee with
    | value f => simp at hc
    | invoke r m => simp at hc
    | builtin b =>
      simp only at hd hc hread ⊢
      unfold builtinV at hd ⊢
      split at hd
      · rename_i x t ha ht
        simp only [ha, ht]
        have hgd : ts.getD 0 0 = t := by simp [ht]
        simp only [hgd] at hc hread ⊢
        have e : lenV P t x hs = lenV P t x h := by
          unfold lenV
          split
          · rfl
          · rfl
          · rfl
          · rename_i kt et r hu
            have hm : isMapT P t = true := by unfold isMapT; rw [hu]
            rw [if_pos hm] at hread
            have hr := hread rfl
            simp only [readOf] at hr
            have hx : (args.map (evalO T)).toList = [.map (some r)] := ha
            have := hr r (by
              simp only [Array.toList_map] at hx
              simp only [List.mem_flatten, List.mem_map]
              refine ⟨[r], ?_, by simp⟩
              cases hq : args.toList with
              | nil => rw [hq] at hx; simp at hx
              | cons y ys => rw [hq] at hx; simp at hx; exact ⟨y, by simp, by rw [hx.1]⟩)
            rw [mapOf_congr this]
          · rfl
        have := pmap e hd
        exact ⟨hs, this.1, .inl ⟨by split <;> simp, this.2, rfl⟩⟩
      · simp at hc
      · simp at hc
      · split at hd
        · rename_i hg
          rw [if_pos hg]
          have := pmap rfl hd
          exact ⟨hs, this.1, .inl ⟨by simp, this.2, rfl⟩⟩
        · cases hd
      · simp at hc
      · split at hd
        · rename_i hg
          rw [if_pos hg]
          have := pmap rfl hd
          exact ⟨hs, this.1, .inl ⟨by simp, this.2, rfl⟩⟩
        · cases hd
      · cases hd
  all_goals (cases hd; done)
end Go.Am
