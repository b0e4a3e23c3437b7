/- The abstract machine: what its operations come to, as rules of rewriting. -/
import Derived.Test.YtkiigdhlnfpebaaAm20
namespace Go.Am
variable {P : Program} {β : Type}

@[simp] theorem gd_true (v : Option Value) : gd true v = v := (id rfl)
@[simp] theorem gd_false (v : Option Value) : gd false v = some undef := (id rfl)
@[simp] theorem gdV_true (v : Value) : gdV true v = v := (id rfl)
@[simp] theorem gdV_false (v : Value) : gdV false v = undef := (id rfl)
@[simp] theorem gdH_true (h : Heap) (r : Option (Value × Heap)) : gdH true h r = r := (id rfl)
@[simp] theorem gdH_false (h : Heap) (r : Option (Value × Heap)) : gdH false h r = some (undef, h) := (id rfl)
@[simp] theorem gdS_true (h : Heap) (r : Option Heap) : gdS true h r = r := (id rfl)
@[simp] theorem gdS_false (h : Heap) (r : Option Heap) : gdS false h r = some h := (id rfl)
@[simp] theorem wt_ff : wt (.bool false) false = true := (id rfl)
@[simp] theorem wt_tf : wt (.bool true) false = false := (id rfl)
@[simp] theorem wt_ft : wt (.bool false) true = false := (id rfl)
@[simp] theorem wt_tt : wt (.bool true) true = true := (id rfl)
theorem wt_bool (c b : Bool) : wt (.bool c) b = (c == b) := by cases c <;> cases b <;> rfl
@[simp] theorem wt_undef (b : Bool) : wt undef b = false := by cases b <;> rfl
@[simp] theorem pickV_true (a b : Value) : pickV (.bool true) a b = some a := (id rfl)
@[simp] theorem pickV_false (a b : Value) : pickV (.bool false) a b = some b := (id rfl)
@[simp] theorem pickV_bool (c a b : Bool) : pickV (.bool c) (.bool a) (.bool b) = some (.bool (bif c then a else b)) := by cases c <;> rfl
@[simp] theorem cnd_true (a b : Option β) : cnd (.bool true) a b = a := (id rfl)
@[simp] theorem cnd_false (a b : Option β) : cnd (.bool false) a b = b := (id rfl)
theorem cnd_bool (c : Bool) (a b : Option β) : cnd (.bool c) a b = if c = true then a else b := by cases c <;> rfl
@[simp] theorem cnd_dec (p : Prop) [Decidable p] (a b : Option β) : cnd (.bool (decide p)) a b = if p then a else b := by
  by_cases h : p <;> simp [h]
@[simp] theorem obH_some' (v : Value) (h : Heap) (k : Value → Heap → Option β) : obH (some (v, h)) k = k v h := (id rfl)
@[simp] theorem obH_none (k : Value → Heap → Option β) : obH none k = none := (id rfl)
@[simp] theorem obR_some (e : Ex) (s : St) (k : Ex → St → Option β) : obR (some (e, s)) k = k e s := (id rfl)
@[simp] theorem extractV_tuple (vs : Array Value) (i : Nat) : extractV (.tuple vs) i = vs[i]? := (id rfl)
@[simp] theorem nilCheckV_ptr (a : Addr) : nilCheckV (.pointer (some a)) = some (.pointer (some a)) := (id rfl)
@[simp] theorem chk_nil_l (m : List Nat) (x : Option β) : chk [] m x = x := (id rfl)
@[simp] theorem chk_nil_r (r : List Nat) (x : Option β) : chk r [] x = x := by
  have : (r.all fun b => !([] : List Nat).contains b) = true := by simp
  unfold chk; rw [this]
theorem fin_some (h0 : Heap) (v : Value) (h : Heap) : fin h0 (some v) h = some (v, { h with mods := h.mods.filter (· < h0.blks.length) ++ h0.mods }) := rfl
@[simp] theorem fin_same (h0 : Heap) (v : Value) : fin h0 (some v) (nm h0) = some (v, h0) := (id rfl)

theorem pureV_pure {v : Value} (hg : ground v = true) : pureV P (pure v) = some v := by
  unfold pureV
  change (match some v with | some v => if ground v then some v else none | none => none) = some v
  simp [hg]
section ints
variable (t : TypeId) (xo yo : Operand) (k yk : IntKind) (a b : Int)
theorem bin_int (op : BinOp) {v : Value} (hg : ground v = true) (h : (do eqGuard op t xo yo (.int k a) (.int yk b); Go.binOp op t (.int k a) (.int yk b)) = pure v) : binV P op t xo yo (.int k a) (.int yk b) = some v := by
  unfold binV
  rw [if_pos (show (ground (.int k a) && ground (.int yk b)) = true from rfl), h]
  exact pureV_pure hg
@[simp] theorem bin_add : binV P .add t xo yo (.int k a) (.int k b) = some (.int k (k.wrap (a + b))) := bin_int t xo yo k k a b .add rfl (by simp [eqGuard, Go.binOp, Op.intArith])
@[simp] theorem bin_sub : binV P .sub t xo yo (.int k a) (.int k b) = some (.int k (k.wrap (a - b))) := bin_int t xo yo k k a b .sub rfl (by simp [eqGuard, Go.binOp, Op.intArith])
@[simp] theorem bin_mul : binV P .mul t xo yo (.int k a) (.int k b) = some (.int k (k.wrap (a * b))) := bin_int t xo yo k k a b .mul rfl (by simp [eqGuard, Go.binOp, Op.intArith])
@[simp] theorem bin_lss : binV P .lss t xo yo (.int k a) (.int k b) = some (.bool (decide (a < b))) := bin_int t xo yo k k a b .lss rfl (by simp [eqGuard, Go.binOp, Op.intCmp])
@[simp] theorem bin_leq : binV P .leq t xo yo (.int k a) (.int k b) = some (.bool (decide (a ≤ b))) := bin_int t xo yo k k a b .leq rfl (by simp [eqGuard, Go.binOp, Op.intCmp])
@[simp] theorem bin_gtr : binV P .gtr t xo yo (.int k a) (.int k b) = some (.bool (decide (a > b))) := bin_int t xo yo k k a b .gtr rfl (by simp [eqGuard, Go.binOp, Op.intCmp])
@[simp] theorem bin_geq : binV P .geq t xo yo (.int k a) (.int k b) = some (.bool (decide (a ≥ b))) := bin_int t xo yo k k a b .geq rfl (by simp [eqGuard, Go.binOp, Op.intCmp])
@[simp] theorem bin_eql : binV P .eql t xo yo (.int k a) (.int k b) = some (.bool (decide (a = b))) := bin_int t xo yo k k a b .eql rfl (by simp [eqGuard, Go.binOp, Op.intCmp]; rw [show (a == b) = decide (a = b) from (by by_cases h : a = b <;> simp [h])])
@[simp] theorem bin_neq : binV P .neq t xo yo (.int k a) (.int k b) = some (.bool (decide (a ≠ b))) := bin_int t xo yo k k a b .neq rfl (by simp [eqGuard, Go.binOp, Op.intCmp]; rw [show (a != b) = !decide (a = b) from (by by_cases h : a = b <;> simp [h])])
theorem bin_shl (hb : 0 ≤ b) : binV P .shl t xo yo (.int k a) (.int yk b) = some (.int k (k.wrap (a * 2 ^ min b.toNat k.bits))) := bin_int t xo yo k yk a b .shl rfl (by simp [eqGuard, Go.binOp, Op.shift, Int.not_lt.2 hb])
theorem bin_shr (hb : 0 ≤ b) : binV P .shr t xo yo (.int k a) (.int yk b) = some (.int k (a.fdiv (2 ^ min b.toNat k.bits))) := bin_int t xo yo k yk a b .shr rfl (by simp [eqGuard, Go.binOp, Op.shift, Int.not_lt.2 hb])
end ints

theorem wrap_u64 {n : Int} (h0 : 0 ≤ n) (h1 : n < 2 ^ 64) : IntKind.wrap .u64 n = n := by simp only [IntKind.wrap, IntKind.bits, IntKind.signed]; simp; omega
theorem wrap_u8 {n : Int} (h0 : 0 ≤ n) (h1 : n < 256) : IntKind.wrap .u8 n = n := by simp only [IntKind.wrap, IntKind.bits, IntKind.signed]; simp; omega
theorem wrap_u16 {n : Int} (h0 : 0 ≤ n) (h1 : n < 65536) : IntKind.wrap .u16 n = n := by simp only [IntKind.wrap, IntKind.bits, IntKind.signed]; simp; omega
theorem wrap_i64 {n : Int} (h0 : -2 ^ 63 ≤ n) (h1 : n < 2 ^ 63) : IntKind.wrap .i64 n = n := by
  simp only [IntKind.wrap, IntKind.bits, IntKind.signed]
  simp
  split <;> omega
theorem pureRun_bind {α γ : Type} (s : Sem α) (f : α → Sem γ) : pureRun P (s >>= f) = (pureRun P s).bind fun a => pureRun P (f a) := by
  change pureRun P (s.bind f) = _
  induction s with
  | pure a => rfl
  | program k ih => exact ih P
  | mark m k ih => exact ih
  | _ => rfl
theorem pureRun_under {t : TypeId} {d : TypeDesc} (h : P.underlying t = some d) : pureRun P (underlying t) = some d := by
  change (match P.underlying t with | some d => (pure d : Sem TypeDesc) | none => stuck "no such type") |> pureRun P |> (· = _)
  rw [h]
  rfl
theorem pureV_of {s : Sem Value} {v : Value} (hr : pureRun P s = some v) (hg : ground v = true) : pureV P s = some v := by
  unfold pureV
  rw [hr]
  simp [hg]
theorem conv_int {s d : TypeId} {ks kd : IntKind} (hs : P.underlying s = some (.int ks)) (hd : P.underlying d = some (.int kd)) (k : IntKind) (n : Int) (h : Heap) :
    convV P s d (.int k n) h = some (.int kd (kd.wrap n), h) := by
  have hp : pureV P (Go.convert s d (.int k n)) = some (.int kd (kd.wrap n)) := by
    refine pureV_of ?_ rfl
    simp only [Go.convert]
    rw [pureRun_bind, pureRun_under hs]
    simp only [Option.bind_some]
    rw [pureRun_bind, pureRun_under hd]
    rfl
  unfold convV
  rw [hd, hp]
  simp_all [ground, ground0]
end Go.Am
