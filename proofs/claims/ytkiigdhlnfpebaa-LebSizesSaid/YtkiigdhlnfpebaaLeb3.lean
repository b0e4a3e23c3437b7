/- What leb.Get answers. -/
import Derived.Test.YtkiigdhlnfpebaaLeb2
namespace Go.Am
open Go.Proofs
def getLoop (n i : Nat) : List UInt8 → Nat × Nat
  | [] => (0, 0)
  | c :: l =>
    if i = 10 then (0, 0)
    else
      let n' := n ||| (c.toNat % 128 * 2 ^ (7 * i)) % 2 ^ 64
      if c.toNat < 128 then (if sizeN n' ≠ i + 1 ∨ (i = 9 ∧ c.toNat > 1) then (0, 0) else (n', i + 1)) else getLoop n' (i + 1) l
/-- the number that bytes begin with, and how many they are -/
def getL (l : List UInt8) : Nat × Nat := getLoop 0 0 l
theorem wrap64 (n : Nat) : IntKind.wrap .u64 (n : Int) = ((n % 2 ^ 64 : Nat) : Int) := by simp only [IntKind.wrap, IntKind.bits, IntKind.signed]; simp
theorem or64 (P : Program) (t : TypeId) (xo yo : Operand) (a b : Nat) (ha : a < 2 ^ 64) (hb : b < 2 ^ 64) : binV P .or t xo yo (.int .u64 a) (.int .u64 b) = some (.int .u64 ((a ||| b : Nat) : Int)) := by
  rw [bin_or]
  have e : (BitVec.ofInt IntKind.u64.bits (a : Int) ||| BitVec.ofInt IntKind.u64.bits (b : Int)).toNat = a ||| b := by
    show (BitVec.ofInt 64 (a : Int) ||| BitVec.ofInt 64 (b : Int)).toNat = a ||| b
    rw [BitVec.toNat_or]
    simp
    rw [Nat.mod_eq_of_lt ha, Nat.mod_eq_of_lt hb]
  rw [e, wrap64, Nat.mod_eq_of_lt (Nat.or_lt_two_pow ha hb)]
theorem and127 (x : Fin 256) : (IntKind.wrap .u8 ((BitVec.ofInt 8 (x.val : Int) &&& BitVec.ofInt 8 127).toNat : Int)) = ((x.val % 128 : Nat) : Int) := by
  revert x; decide +kernel
theorem bin_and (P : Program) (t : TypeId) (xo yo : Operand) (k : IntKind) (a b : Int) : binV P .and t xo yo (.int k a) (.int k b) = some (.int k (k.wrap ((BitVec.ofInt k.bits a &&& BitVec.ofInt k.bits b).toNat))) :=
  bin_int t xo yo k k a b .and rfl (by simp [eqGuard, Go.binOp, Op.intBits])
theorem and_byte (P : Program) (t : TypeId) (xo yo : Operand) (c : UInt8) : binV P .and t xo yo (byteV c) (.int .u8 127) = some (.int .u8 ((c.toNat % 128 : Nat) : Int)) := by
  unfold byteV
  rw [bin_and]
  have := and127 ⟨c.toNat, UInt8.toNat_lt c⟩
  simp only at this
  show some (Value.int .u8 (IntKind.wrap .u8 ((BitVec.ofInt 8 (c.toNat : Int) &&& BitVec.ofInt 8 127).toNat))) = _
  rw [this]
theorem conv_5_22 (n : Nat) (hn : n < 256) (h : Heap) : convV Try.prog 5 22 (.int .u8 n) h = some (.int .u64 n, h) := by
  rw [conv_int (ks := .u8) (kd := .u64) (by kernel_rfl) (by kernel_rfl), wrap64, Nat.mod_eq_of_lt (by omega)]
theorem wrapi (n : Nat) (hn : n < 2 ^ 63) : IntKind.wrap .i64 (n : Int) = n := by rw [wrap_i64] <;> omega
theorem shl64 (a i : Nat) (hi : i ≤ 9) : IntKind.wrap .u64 ((a : Int) * 2 ^ min ((7 * i : Nat) : Int).toNat IntKind.u64.bits) = ((a * 2 ^ (7 * i) % 2 ^ 64 : Nat) : Int) := by
  have e : min ((7 * i : Nat) : Int).toNat IntKind.u64.bits = 7 * i := by
    show min ((7 * i : Nat) : Int).toNat 64 = 7 * i
    omega
  have e2 : (a : Int) * 2 ^ (7 * i) = ((a * 2 ^ (7 * i) : Nat) : Int) := by push_cast; rfl
  rw [e, e2, wrap64]
theorem get_loop (h0 h : Heap) (v : Value) (bs : List UInt8) (hr : Row h 1 v bs.length (bs.map byteV)) (hk : Keeps h0.blks.length (nm h0) h) (hb : bs.length < 2 ^ 40) : ∀ (m i n : Nat), bs.length - i = m → i ≤ bs.length → n < 2 ^ 64 → i ≤ 10 →
    ∀ (x0 x1 x3 x4 x5 x9 x10 x11 x12 x13 x14 x15 x16 x17 x18 x19 x20 x21 x22 x23 x24 x25 x26 x27 x28 x29 x30 x31 x32 x33 x34 x35 x36 x37 x38 x39 x40 x41 : Value),
    loopK Try.prog (evC Try.prog) c21_1 ⟨#[x0, x1, .int .u64 n, x3, x4, x5, v, .int .i64 bs.length, .int .i64 i, x9, x10, x11, x12, x13, x14, x15, x16, x17, x18, x19, x20, x21, x22, x23, x24, x25, x26, x27, x28, x29, x30, x31, x32, x33, x34, x35, x36, x37, x38, x39, x40, x41], h⟩ (blockK 0 (seqK Try.prog (evC Try.prog) c21_2 (retK Try.f21 Try.prog h0))) =
      some (.tuple #[.int .u64 (getLoop n i (bs.drop i)).1, .int .i64 (getLoop n i (bs.drop i)).2], done h0 h) := by
  intro m
  induction m with
  | zero =>
    intro i n hm hi hn hi10 x0 x1 x3 x4 x5 x9 x10 x11 x12 x13 x14 x15 x16 x17 x18 x19 x20 x21 x22 x23 x24 x25 x26 x27 x28 x29 x30 x31 x32 x33 x34 x35 x36 x37 x38 x39 x40 x41
    rw [loopK_eq evC_m, c21_1_eq]
    simp only [bin_lss, Option.bind_some, cnd_dec]
    rw [if_neg (by omega)]
    simp only [againK_exit, blockK_same, seqK_normal]
    rw [c21_2_eq, ret21, fin_done, List.drop_of_length_le (by omega)]
    rfl
  | succ m ih =>
    intro i n hm hi hn hi10 x0 x1 x3 x4 x5 x9 x10 x11 x12 x13 x14 x15 x16 x17 x18 x19 x20 x21 x22 x23 x24 x25 x26 x27 x28 x29 x30 x31 x32 x33 x34 x35 x36 x37 x38 x39 x40 x41
    have hlt : i < bs.length := by omega
    rw [loopK_eq evC_m, c21_1_eq]
    simp only [bin_lss, Option.bind_some, cnd_dec]
    rw [if_pos (by omega)]
    obtain ⟨a, e1, e2, _⟩ := hr.at1 etB.under etB.size (by kernel_rfl) hlt .i64
    have e3 : (bs.map byteV)[i]? = some (byteV bs[i]) := by simp [hlt]
    rw [e3] at e2
    have ed : bs.drop i = bs[i] :: bs.drop (i + 1) := List.drop_eq_getElem_cons hlt
    rw [e1]
    simp only [Option.bind_some, e2, bin_eql, cnd_dec]
    generalize bs[i] = c at *
    by_cases h10 : i = 10
    · rw [if_pos (by omega)]
      simp only [againK_exit, blockK_same, seqK_normal]
      rw [c21_2_eq, ret21, fin_done, ed, getLoop, if_pos h10]
      rfl
    · rw [if_neg (by omega)]
      have hc := UInt8.toNat_lt c
      have hm7 : IntKind.wrap .i64 (7 * (i : Int)) = ((7 * i : Nat) : Int) := by rw [wrap_i64] <;> omega
      have hsh := shl64 (c.toNat % 128) i (by omega)
      have hn' : n ||| (c.toNat % 128 * 2 ^ (7 * i)) % 2 ^ 64 < 2 ^ 64 := Nat.or_lt_two_pow hn (Nat.mod_lt _ (by omega))
      have hl1 : IntKind.wrap .i64 ((i : Int) + 1) = ((i + 1 : Nat) : Int) := by rw [wrap_i64] <;> omega
      simp only [and_byte, Option.bind_some, conv_5_22 _ (show c.toNat % 128 < 256 by omega), obH_some', bin_mul, hm7, bin_shl _ _ _ _ _ _ _ (show (0 : Int) ≤ ((7 * i : Nat) : Int) by omega), hsh,
        or64 _ _ _ _ _ _ hn (Nat.mod_lt (c.toNat % 128 * 2 ^ (7 * i)) (show 0 < 2 ^ 64 by omega))]
      simp only [byteV, bin_lss, Option.bind_some, cnd_dec]
      rw [ed, getLoop, if_neg h10]
      simp only []
      generalize n ||| (c.toNat % 128 * 2 ^ (7 * i)) % 2 ^ 64 = n' at *
      by_cases h128 : c.toNat < 128
      · rw [if_pos (by omega), if_pos h128]
        rw [spec_Size n' hn' h]
        simp only [obH_some', bin_add, Option.bind_some, hl1, bin_neq]
        by_cases hs : sizeN n' = i + 1
        · have hd : decide (((sizeN n' : Nat) : Int) ≠ ((i + 1 : Nat) : Int)) = false := decide_eq_false (by omega)
          rw [hd]
          simp only [wt_ff]
          simp only [gd_true, gdV_true]
          rw [bin_eql, Option.bind_some]
          by_cases h9 : i = 9
          · have hd9 : decide ((i : Int) = 9) = true := decide_eq_true (by omega)
            rw [hd9]
            simp only [wt_tt]
            simp only [gd_true, gdV_true]
            rw [bin_gtr, Option.bind_some]
            by_cases hc1 : c.toNat > 1
            · have hdc : decide ((c.toNat : Int) > 1) = true := decide_eq_true (by omega)
              simp only [hdc, pickV_true, pickV_false, cnd_true, Option.bind_some, againK_exit, blockK_same, seqK_normal]
              rw [c21_2_eq, ret21, fin_done, if_pos (.inr ⟨h9, hc1⟩)]
              rfl
            · have hdc : decide ((c.toNat : Int) > 1) = false := decide_eq_false (by omega)
              simp only [hdc, pickV_true, pickV_false, cnd_false, Option.bind_some, againK_ret, blockK_ret, seqK_ret, bin_add, hl1]
              rw [ret21, fin_done, if_neg (by omega)]
          · have hd9 : decide ((i : Int) = 9) = false := decide_eq_false (by omega)
            simp only [hd9, wt_ft, gd_false, gdV_false, pickV_true, pickV_false, cnd_false, Option.bind_some, againK_ret, blockK_ret, seqK_ret, bin_add, hl1]
            rw [ret21, fin_done, if_neg (by omega)]
        · have hd : decide (((sizeN n' : Nat) : Int) ≠ ((i + 1 : Nat) : Int)) = true := decide_eq_true (by omega)
          simp only [hd, wt_tf, wt_undef, gd_false, gdV_false, pickV_true, cnd_true, Option.bind_some, againK_exit, blockK_same, seqK_normal]
          rw [c21_2_eq, ret21, fin_done, if_pos (.inl hs)]
          rfl
      · rw [if_neg (by omega), if_neg h128]
        simp only [bin_add, Option.bind_some, hl1, againK_normal]
        exact ih (i + 1) n' (by omega) (by omega) hn' (by omega) _ _ _ _ _ _ _ _ _ _ _ _ _ _ _ _ _ _ _ _ _ _ _ _ _ _ _ _ _ _ _ _ _ _ _ _ _ _
theorem spec_Get (h : Heap) (v : Value) (bs : List UInt8) (hr : Row h 1 v bs.length (bs.map byteV)) (hb : bs.length < 2 ^ 40) :
    evC Try.prog 21 #[v] h = some (.tuple #[.int .u64 (getL bs).1, .int .i64 (getL bs).2], h) := by
  rw [call21, c21_0_eq, (show Row (nm h) 1 v bs.length (bs.map byteV) from hr.keep fun _ _ _ => rfl).len_eq etB.under]
  simp only [Option.bind_some]
  have := get_loop h (nm h) v bs (hr.keep fun _ _ _ => rfl) (Keeps.refl (Nat.le_refl _)) hb bs.length 0 0 (by omega) (by omega) (by omega) (by omega) v undef (Go.Value.int Go.IntKind.i64 0) undef undef undef undef undef undef undef undef undef undef undef undef undef undef undef undef undef undef undef undef undef undef undef undef undef undef undef undef undef undef undef undef undef undef undef
  exact this
end Go.Am
