/- The abstract machine: more rules of rewriting. -/
import Derived.Test.YtkiigdhlnfpebaaAm22
import Derived.Laws.Strings
namespace Go.Am
variable {P : Program} {β : Type}
theorem if_true' (a b : β) : (if True then a else b) = a := (id rfl)
theorem if_false' (a b : β) : (if False then a else b) = b := (id rfl)
theorem wt_dec_true (p : Prop) [Decidable p] (h : p) : wt (.bool (decide p)) true = true := by simp [h]
theorem wt_dec_false (p : Prop) [Decidable p] (h : ¬ p) : wt (.bool (decide p)) false = true := by simp [h]
theorem wt_dec_tf (p : Prop) [Decidable p] (h : p) : wt (.bool (decide p)) false = false := by simp [h]
theorem wt_dec_ft (p : Prop) [Decidable p] (h : ¬ p) : wt (.bool (decide p)) true = false := by simp [h]
theorem pickV_dec (p : Prop) [Decidable p] (a b : Value) : pickV (.bool (decide p)) a b = some (if p then a else b) := by
  by_cases h : p <;> simp [h]
theorem not_dec (p : Prop) [Decidable p] : (!decide p) = decide (¬ p) := by by_cases h : p <;> simp [h]
theorem idx0 (a : Value) (l : List Value) : (Array.mk (a :: l))[0]? = some a := by simp
theorem idx1 (a b : Value) (l : List Value) : (Array.mk (a :: b :: l))[1]? = some b := by simp
theorem idx2 (a b c : Value) (l : List Value) : (Array.mk (a :: b :: c :: l))[2]? = some c := by simp
theorem idx3 (a b c d : Value) (l : List Value) : (Array.mk (a :: b :: c :: d :: l))[3]? = some d := by simp
theorem idx4 (a b c d e : Value) (l : List Value) : (Array.mk (a :: b :: c :: d :: e :: l))[4]? = some e := by simp
theorem un_not (b : Bool) : unV P .not (.bool b) = some (.bool (!b)) := by cases b <;> rfl
theorem unV_ground {op : UnOp} {x v : Value} (hx : ground x = true) (hv : ground v = true) (h : Op.unary op x = pure v) : unV P op x = some v := by
  unfold unV
  rw [if_pos hx, h]
  exact pureV_pure hv
theorem un_neg (k : IntKind) (n : Int) : unV P .neg (.int k n) = some (.int k (k.wrap (0 - n))) := unV_ground rfl rfl rfl
theorem un_xor (k : IntKind) (n : Int) : unV P .xor (.int k n) = some (.int k (k.wrap (BitVec.ofInt k.bits (if k.signed then -1 else k.max) ^^^ BitVec.ofInt k.bits n).toNat)) := unV_ground rfl rfl rfl
theorem binV_ground {op : BinOp} {t : TypeId} {xo yo : Operand} {x y v : Value} (hx : ground x = true) (hy : ground y = true) (hv : ground v = true)
    (h : (do eqGuard op t xo yo x y; Go.binOp op t x y) = pure v) : binV P op t xo yo x y = some v := by
  unfold binV
  rw [if_pos (by simp [hx, hy]), h]
  exact pureV_pure hv
/-! strings -/
def strV (l : List UInt8) : Value := .string ⟨l.toArray⟩
section strs
variable (t : TypeId) (xo yo : Operand) (a b : List UInt8)
theorem bin_streq : binV P .eql t xo yo (strV a) (strV b) = some (.bool (decide (a = b))) := by
  refine binV_ground rfl rfl rfl ?_
  show (pure (Value.bool ((ByteArray.mk a.toArray).toList == (ByteArray.mk b.toArray).toList)) : Sem Value) = _
  rw [ByteArray.toList_mk, ByteArray.toList_mk]
  congr 2
  by_cases h : a = b <;> simp [h]
theorem bin_strneq : binV P .neq t xo yo (strV a) (strV b) = some (.bool (decide (a ≠ b))) := by
  refine binV_ground rfl rfl rfl ?_
  show (pure (Value.bool (!((ByteArray.mk a.toArray).toList == (ByteArray.mk b.toArray).toList))) : Sem Value) = _
  rw [ByteArray.toList_mk, ByteArray.toList_mk]
  congr 2
  by_cases h : a = b <;> simp [h]
end strs
theorem pureRun_pure {α : Type} (a : α) : pureRun P (pure a : Sem α) = some a := rfl
theorem bin_beql {t : TypeId} (xo yo : Operand) (a b : Bool) (h : pureRun P (Op.equal t (.bool a) (.bool b)) = some (a == b)) : binV P .eql t xo yo (.bool a) (.bool b) = some (.bool (a == b)) := by
  unfold binV
  rw [if_pos (by rfl)]
  refine pureV_of ?_ rfl
  show pureRun P (do let r ← Op.equal t (.bool a) (.bool b); pure (Value.bool r)) = _
  rw [pureRun_bind, h]
  rfl
theorem bin_bneq {t : TypeId} (xo yo : Operand) (a b : Bool) (h : pureRun P (Op.equal t (.bool a) (.bool b)) = some (a == b)) : binV P .neq t xo yo (.bool a) (.bool b) = some (.bool (!(a == b))) := by
  unfold binV
  rw [if_pos (by rfl)]
  refine pureV_of ?_ rfl
  show pureRun P (do let r ← Op.equal t (.bool a) (.bool b); pure (Value.bool (!r))) = _
  rw [pureRun_bind, h]
  rfl
/-! bits -/
theorem wrap_u64_nat (n : Nat) : IntKind.wrap .u64 (n : Int) = ((n % 2 ^ 64 : Nat) : Int) := by simp only [IntKind.wrap, IntKind.bits, IntKind.signed]; simp
theorem wrap_u8_nat (n : Nat) : IntKind.wrap .u8 (n : Int) = ((n % 256 : Nat) : Int) := by simp only [IntKind.wrap, IntKind.bits, IntKind.signed]; simp
theorem ofInt_toNat (w : Nat) (a : Int) (h0 : 0 ≤ a) (h1 : a < 2 ^ w) : (BitVec.ofInt w a).toNat = a.toNat := by
  rw [BitVec.toNat_ofInt]
  have : a % ((2 ^ w : Nat) : Int) = a := Int.emod_eq_of_lt h0 (by push_cast; exact h1)
  rw [this]
section bits
variable (t : TypeId) (xo yo : Operand) (k : IntKind) (a b : Int)
theorem bin_andB : binV P .and t xo yo (.int k a) (.int k b) = some (.int k (k.wrap ((BitVec.ofInt k.bits a &&& BitVec.ofInt k.bits b).toNat))) :=
  bin_int t xo yo k k a b .and rfl (by simp [eqGuard, Go.binOp, Op.intBits])
theorem bin_orB : binV P .or t xo yo (.int k a) (.int k b) = some (.int k (k.wrap ((BitVec.ofInt k.bits a ||| BitVec.ofInt k.bits b).toNat))) :=
  bin_int t xo yo k k a b .or rfl (by simp [eqGuard, Go.binOp, Op.intBits])
theorem bin_xorB : binV P .xor t xo yo (.int k a) (.int k b) = some (.int k (k.wrap ((BitVec.ofInt k.bits a ^^^ BitVec.ofInt k.bits b).toNat))) :=
  bin_int t xo yo k k a b .xor rfl (by simp [eqGuard, Go.binOp, Op.intBits])
theorem bin_andNotB : binV P .andNot t xo yo (.int k a) (.int k b) = some (.int k (k.wrap ((BitVec.ofInt k.bits a &&& ~~~(BitVec.ofInt k.bits b)).toNat))) :=
  bin_int t xo yo k k a b .andNot rfl (by simp [eqGuard, Go.binOp, Op.intBits])
theorem bin_and64 (h0 : 0 ≤ a) (h1 : a < 2 ^ 64) (h2 : 0 ≤ b) (h3 : b < 2 ^ 64) : binV P .and t xo yo (.int .u64 a) (.int .u64 b) = some (.int .u64 ((a.toNat &&& b.toNat : Nat) : Int)) := by
  rw [bin_andB, BitVec.toNat_and, show (BitVec.ofInt IntKind.u64.bits a).toNat = a.toNat from ofInt_toNat _ a h0 h1, show (BitVec.ofInt IntKind.u64.bits b).toNat = b.toNat from ofInt_toNat _ b h2 h3, wrap_u64_nat, Nat.mod_eq_of_lt]
  exact Nat.lt_of_le_of_lt Nat.and_le_left (by omega)
theorem bin_or64 (h0 : 0 ≤ a) (h1 : a < 2 ^ 64) (h2 : 0 ≤ b) (h3 : b < 2 ^ 64) : binV P .or t xo yo (.int .u64 a) (.int .u64 b) = some (.int .u64 ((a.toNat ||| b.toNat : Nat) : Int)) := by
  rw [bin_orB, BitVec.toNat_or, show (BitVec.ofInt IntKind.u64.bits a).toNat = a.toNat from ofInt_toNat _ a h0 h1, show (BitVec.ofInt IntKind.u64.bits b).toNat = b.toNat from ofInt_toNat _ b h2 h3, wrap_u64_nat, Nat.mod_eq_of_lt]
  exact Nat.or_lt_two_pow (by omega) (by omega)
theorem bin_andNot64 (h0 : 0 ≤ a) (h1 : a < 2 ^ 64) (h2 : 0 ≤ b) (h3 : b < 2 ^ 64) : binV P .andNot t xo yo (.int .u64 a) (.int .u64 b) = some (.int .u64 ((a.toNat &&& (2 ^ 64 - 1 - b.toNat) : Nat) : Int)) := by
  rw [bin_andNotB, BitVec.toNat_and, BitVec.toNat_not, show (BitVec.ofInt IntKind.u64.bits a).toNat = a.toNat from ofInt_toNat _ a h0 h1, show (BitVec.ofInt IntKind.u64.bits b).toNat = b.toNat from ofInt_toNat _ b h2 h3, wrap_u64_nat, Nat.mod_eq_of_lt]
  · rfl
  exact Nat.lt_of_le_of_lt Nat.and_le_left (by omega)
theorem bin_and8 (h0 : 0 ≤ a) (h1 : a < 256) (h2 : 0 ≤ b) (h3 : b < 256) : binV P .and t xo yo (.int .u8 a) (.int .u8 b) = some (.int .u8 ((a.toNat &&& b.toNat : Nat) : Int)) := by
  rw [bin_andB, BitVec.toNat_and, show (BitVec.ofInt IntKind.u8.bits a).toNat = a.toNat from ofInt_toNat _ a h0 h1, show (BitVec.ofInt IntKind.u8.bits b).toNat = b.toNat from ofInt_toNat _ b h2 h3, wrap_u8_nat, Nat.mod_eq_of_lt]
  exact Nat.lt_of_le_of_lt Nat.and_le_left (by omega)
theorem bin_or8 (h0 : 0 ≤ a) (h1 : a < 256) (h2 : 0 ≤ b) (h3 : b < 256) : binV P .or t xo yo (.int .u8 a) (.int .u8 b) = some (.int .u8 ((a.toNat ||| b.toNat : Nat) : Int)) := by
  rw [bin_orB, BitVec.toNat_or, show (BitVec.ofInt IntKind.u8.bits a).toNat = a.toNat from ofInt_toNat _ a h0 h1, show (BitVec.ofInt IntKind.u8.bits b).toNat = b.toNat from ofInt_toNat _ b h2 h3, wrap_u8_nat, Nat.mod_eq_of_lt]
  have : a.toNat ||| b.toNat < 2 ^ 8 := Nat.or_lt_two_pow (by omega) (by omega)
  omega
theorem bin_shl64 (yk : IntKind) (h0 : 0 ≤ a) (h2 : 0 ≤ b) (h3 : b ≤ 64) : binV P .shl t xo yo (.int .u64 a) (.int yk b) = some (.int .u64 ((a.toNat * 2 ^ b.toNat % 2 ^ 64 : Nat) : Int)) := by
  rw [bin_shl _ _ _ _ _ _ _ h2]
  have e : min b.toNat IntKind.u64.bits = b.toNat := by show min b.toNat 64 = _; omega
  have e2 : a * 2 ^ b.toNat = ((a.toNat * 2 ^ b.toNat : Nat) : Int) := by push_cast; rw [Int.toNat_of_nonneg h0]
  rw [e, e2, wrap_u64_nat]
theorem bin_shr64 (yk : IntKind) (h0 : 0 ≤ a) (h2 : 0 ≤ b) (h3 : b ≤ 64) : binV P .shr t xo yo (.int .u64 a) (.int yk b) = some (.int .u64 ((a.toNat / 2 ^ b.toNat : Nat) : Int)) := by
  rw [bin_shr _ _ _ _ _ _ _ h2]
  have e : min b.toNat IntKind.u64.bits = b.toNat := by show min b.toNat 64 = _; omega
  rw [e, Int.fdiv_eq_ediv_of_nonneg _ (by exact_mod_cast Nat.zero_le _)]
  congr 2
  push_cast
  rw [Int.toNat_of_nonneg h0]
theorem un_xor64 (h0 : 0 ≤ a) (h1 : a < 2 ^ 64) : unV P .xor (.int .u64 a) = some (.int .u64 ((2 ^ 64 - 1 - a.toNat : Nat) : Int)) := by
  rw [un_xor]
  show some (Value.int .u64 (IntKind.wrap .u64 ((BitVec.ofInt 64 (2 ^ 64 - 1) ^^^ BitVec.ofInt 64 a).toNat : Nat))) = _
  have e : BitVec.ofInt 64 (2 ^ 64 - 1) = BitVec.allOnes 64 := by decide
  rw [e, BitVec.allOnes_xor, BitVec.toNat_not, ofInt_toNat 64 a h0 h1, wrap_u64_nat, Nat.mod_eq_of_lt (by omega)]
end bits
theorem conv_u64 {s d : TypeId} {ks : IntKind} (hs : P.underlying s = some (.int ks)) (hd : P.underlying d = some (.int .u64)) (k : IntKind) (n : Int) (h : Heap) (h0 : 0 ≤ n) (h1 : n < 2 ^ 64) :
    convV P s d (.int k n) h = some (.int .u64 n, h) := by rw [conv_int hs hd, wrap_u64 h0 h1]
theorem conv_i64 {s d : TypeId} {ks : IntKind} (hs : P.underlying s = some (.int ks)) (hd : P.underlying d = some (.int .i64)) (k : IntKind) (n : Int) (h : Heap) (h0 : -2 ^ 63 ≤ n) (h1 : n < 2 ^ 63) :
    convV P s d (.int k n) h = some (.int .i64 n, h) := by rw [conv_int hs hd, wrap_i64 h0 h1]
/-! what is no call: results in cells -/
def rvals (r : Option (List Value)) : Option Value := match r with
  | some [v] => some v
  | some vs => some (.tuple vs.toArray)
  | none => none
@[simp] theorem rvals_one (v : Value) : rvals (some [v]) = some v := (id rfl)
@[simp] theorem rvals_two (v w : Value) : rvals (some [v, w]) = some (.tuple #[v, w]) := (id rfl)
@[simp] theorem rvals_three (v w x : Value) : rvals (some [v, w, x]) = some (.tuple #[v, w, x]) := (id rfl)
end Go.Am
