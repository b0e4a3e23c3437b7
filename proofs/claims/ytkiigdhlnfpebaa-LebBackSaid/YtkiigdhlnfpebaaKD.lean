/- What the functions answer, in the machine. -/
import Derived.Test.YtkiigdhlnfpebaaKC
import Derived.Test.YtkiigdhlnfpebaaChecked
import Derived.KernelRfl
set_option linter.all false
namespace Go.Am
open Go.Proofs
/-- how many bytes a number takes -/
def sizeN (n : Nat) : Nat := if n < 128 then 1 else sizeN (n / 128) + 1
theorem sizeN_le (n : Nat) : ∀ k, n < 2 ^ (7 * k) → 1 ≤ k → sizeN n ≤ k := by
  induction n using Nat.strongRecOn with
  | _ n ih =>
    intro k hk h1
    rw [sizeN]
    split
    · omega
    · rename_i h
      obtain ⟨k, rfl⟩ : ∃ j, k = j + 1 := ⟨k - 1, by omega⟩
      have : 1 ≤ k := by
        rcases Nat.eq_zero_or_pos k with rfl | h'
        · simp at hk; omega
        · exact h'
      have := ih (n / 128) (by omega) k (by
        rw [Nat.div_lt_iff_lt_mul (by omega)]
        have e : 2 ^ (7 * (k + 1)) = 2 ^ (7 * k) * 128 := by rw [Nat.mul_add, Nat.pow_add]
        omega) this
      omega
theorem fdiv_128 (n : Nat) : Int.fdiv (n : Int) 128 = ((n / 128 : Nat) : Int) := by
  rw [Int.fdiv_eq_ediv_of_nonneg _ (by omega)]; omega
theorem size_loop (h0 h : Heap) (n : Nat) : ∀ (k : Nat) (x1 x2 x4 x5 x6 x7 x8 x9 x10 : Value), k + sizeN n < 1000 → 0 < k →
    loopK Try.prog (evC Try.prog) c19_1 ⟨#[.int .u64 n, x1, x2, .int .i64 k, x4, x5, x6, x7, x8, x9, x10], h⟩ (blockK 0 (seqK Try.prog (evC Try.prog) c19_2 (retK Try.f19 Try.prog h0))) =
      fin h0 (some (.int .i64 ((k - 1 + sizeN n : Nat) : Int))) h := by
  induction n using Nat.strongRecOn with
  | _ n ih =>
    intro k x1 x2 x4 x5 x6 x7 x8 x9 x10 hk hk0
    rw [loopK_eq evC_m, c19_1_eq]
    simp only [bin_geq, Option.bind_some, cnd_dec]
    split
    · rename_i hge
      have hge : 128 ≤ n := by omega
      rw [bin_shr _ _ _ _ _ _ _ (by omega)]
      simp only [Option.bind_some, bin_add, againK_normal]
      have e3 : sizeN n = sizeN (n / 128) + 1 := by rw [sizeN, if_neg (by omega)]
      have e1 : Int.fdiv (n : Int) (2 ^ min (Int.toNat 7) IntKind.u64.bits) = ((n / 128 : Nat) : Int) := fdiv_128 n
      have e2 : IntKind.wrap .i64 ((k : Int) + 1) = ((k + 1 : Nat) : Int) := by rw [wrap_i64] <;> omega
      rw [e1, e2, ih (n / 128) (by omega) (k + 1) _ _ _ _ _ _ _ _ _ (by omega) (by omega)]
      have e4 : k + 1 - 1 + sizeN (n / 128) = k - 1 + sizeN n := by omega
      rw [e4]
    · rename_i hlt
      have hlt : n < 128 := by omega
      simp only [againK_exit, blockK_same, seqK_normal]
      rw [c19_2_eq, ret19]
      have e3 : k - 1 + sizeN n = k := by rw [sizeN, if_pos hlt]; omega
      rw [e3]
theorem spec_Size (n : Nat) (hn : n < 2 ^ 64) (h : Heap) : evC Try.prog 19 #[.int .u64 n] h = some (.int .i64 (sizeN n), h) := by
  rw [call19, c19_0_eq]
  have := size_loop h (nm h) n 1 undef (Go.Value.int Go.IntKind.i64 0) undef undef undef undef undef undef undef (by have := sizeN_le n 10 (by omega) (by omega); omega) (by omega)
  simp only [Nat.sub_self, Nat.zero_add] at this
  exact this.trans (fin_same _ _)
end Go.Am
namespace Go.Am
open Go.Proofs
/-- a number's bytes -/
def putL (n : Nat) : List UInt8 := if n < 128 then [UInt8.ofNat n] else UInt8.ofNat (n % 128 + 128) :: putL (n / 128)
theorem putL_len (n : Nat) : (putL n).length = sizeN n := by
  induction n using Nat.strongRecOn with
  | _ n ih =>
    rw [putL, sizeN]
    split
    · rfl
    · rw [List.length_cons, ih (n / 128) (by omega)]
theorem etB : ElemT Try.prog 31 5 1 1 (.int .u8 0) := ⟨by kernel_rfl, by kernel_rfl, by kernel_rfl, by kernel_rfl, by omega, rfl, rfl⟩
theorem bs1 (k : IntKind) (m : Int) (h : Heap) : buildSliceV Try.prog 31 1 #[(0, .int k m)] h = some (.slice (some ⟨h.blks.length, 0, none⟩) 1 1, h.new (.cells [.int k m]) 5) := by kernel_rfl
theorem conv_22_5 (k : IntKind) (n : Int) (h : Heap) : convV Try.prog 22 5 (.int k n) h = some (.int .u8 (IntKind.wrap .u8 n), h) := conv_int (ks := .u64) (by kernel_rfl) (by kernel_rfl) k n h
theorem or128 (x : Fin 256) : (IntKind.wrap .u8 ((BitVec.ofInt 8 (x.val : Int) ||| BitVec.ofInt 8 128).toNat : Int)) = ((x.val % 128 + 128 : Nat) : Int) := by
  revert x; decide +kernel
theorem bin_or (P : Program) (t : TypeId) (xo yo : Operand) (k : IntKind) (a b : Int) : binV P .or t xo yo (.int k a) (.int k b) = some (.int k (k.wrap ((BitVec.ofInt k.bits a ||| BitVec.ofInt k.bits b).toNat))) :=
  bin_int t xo yo k k a b .or rfl (by simp [eqGuard, Go.binOp, Op.intBits])
theorem wrap8 (n : Nat) : IntKind.wrap .u8 (n : Int) = ((n % 256 : Nat) : Int) := by simp only [IntKind.wrap, IntKind.bits, IntKind.signed]; simp
theorem or_byte (t : TypeId) (xo yo : Operand) (n : Nat) : binV Try.prog .or t xo yo (.int .u8 (IntKind.wrap .u8 (n : Int))) (.int .u8 128) = some (byteV (UInt8.ofNat (n % 128 + 128))) := by
  rw [bin_or, wrap8]
  have := or128 ⟨n % 256, by omega⟩
  simp only at this
  show some (Value.int .u8 (IntKind.wrap .u8 ((BitVec.ofInt 8 ((n % 256 : Nat) : Int) ||| BitVec.ofInt 8 128).toNat))) = _
  rw [this]
  unfold byteV
  have e : (UInt8.ofNat (n % 128 + 128)).toNat = n % 256 % 128 + 128 := by simp; omega
  rw [e]
theorem small_byte (n : Nat) : Value.int .u8 (IntKind.wrap .u8 (n : Int)) = byteV (UInt8.ofNat n) := by
  rw [wrap8]; unfold byteV
  have e : (UInt8.ofNat n).toNat = n % 256 := by simp
  rw [e]
/-- one byte is appended -/
theorem app1 {n0 : Nat} {h : Heap} (hn0 : n0 ≤ h.blks.length) {v : Value} {n : Nat} {cs : List Value} (ha : Acc n0 h 5 1 v n cs) (hn : n < 2 ^ 40) (b : UInt8) :
    ∃ v' h', appendV Try.prog 31 (some 31) v (.slice (some ⟨h.blks.length, 0, none⟩) 1 1) (h.new (.cells [byteV b]) 5) = some (v', h') ∧ Acc n0 h' 5 1 v' (n + 1) (cs ++ [byteV b]) ∧ Keeps n0 h h' := by
  have ha' : Acc n0 (h.new (.cells [byteV b]) 5) 5 1 v n cs := ha.keep fun b hb _ => Heap.new_old hb
  have hr : Row (h.new (.cells [byteV b]) 5) 1 (.slice (some ⟨h.blks.length, 0, none⟩) 1 1) 1 [byteV b] := .mk (by simp [Heap.loadN, Heap.cells?, Heap.new])
  obtain ⟨v', h', h1, h2, h3, h4, h5⟩ := append_acc etB (t1 := some 31) (n0 := n0) (by simp [Heap.new]; omega) ha' (newsV_row etB.under hr) (by simp) (by omega) (by omega) (by simp [byteV, Value.oneCell'])
  exact ⟨v', h', h1, h2, (Keeps.new hn0 _ _).trans h3⟩
theorem put_loop (h0 : Heap) (n : Nat) : ∀ (h : Heap) (v : Value) (k : Nat) (cs : List Value) (x0 x2 x3 x4 x6 x7 x8 x9 x10 x11 x12 x13 x14 x15 x16 x17 x18 x19 x20 x21 x22 : Value),
    k + sizeN n < 2 ^ 40 → Keeps h0.blks.length (nm h0) h → Acc h0.blks.length h 5 1 v k cs →
    ∃ v' h', loopK Try.prog (evC Try.prog) c20_1 ⟨#[x0, .int .u64 n, x2, x3, x4, v, x6, x7, x8, x9, x10, x11, x12, x13, x14, x15, x16, x17, x18, x19, x20, x21, x22], h⟩ (blockK 0 (seqK Try.prog (evC Try.prog) c20_2 (retK Try.f20 Try.prog h0))) =
      some (v', h') ∧ HExt h0 h' ∧ Acc h0.blks.length h' 5 1 v' (k + sizeN n) (cs ++ (putL n).map byteV) := by
  induction n using Nat.strongRecOn with
  | _ n ih =>
    intro h v k cs x0 x2 x3 x4 x6 x7 x8 x9 x10 x11 x12 x13 x14 x15 x16 x17 x18 x19 x20 x21 x22 hk hkeep ha
    have hle : h0.blks.length ≤ h.blks.length := hkeep.len
    rw [loopK_eq evC_m, c20_1_eq]
    simp only [bin_geq, Option.bind_some, cnd_dec]
    by_cases hge : 128 ≤ n
    · rw [if_pos (by omega)]
      simp only [conv_22_5, obH_some', or_byte, Option.bind_some]
      obtain ⟨v', h', e1, e2, e3⟩ := app1 hle ha (by omega) (UInt8.ofNat (n % 128 + 128))
      rw [show byteV (UInt8.ofNat (n % 128 + 128)) = .int .u8 ((UInt8.ofNat (n % 128 + 128)).toNat : Int) from rfl] at e1
      rw [show byteV (UInt8.ofNat (n % 128 + 128)) = .int .u8 ((UInt8.ofNat (n % 128 + 128)).toNat : Int) from rfl, bs1]
      simp only [obH_some']
      rw [e1, bin_shr _ _ _ _ _ _ _ (by omega)]
      simp only [obH_some', Option.bind_some, againK_normal]
      have f1 : Int.fdiv (n : Int) (2 ^ min (Int.toNat 7) IntKind.u64.bits) = ((n / 128 : Nat) : Int) := fdiv_128 n
      have f3 : sizeN n = sizeN (n / 128) + 1 := by rw [sizeN, if_neg (by omega)]
      rw [f1]
      obtain ⟨v2, h2, g1, g2, g3⟩ := ih (n / 128) (by omega) h' v' (k + 1) _ x0 x2 x3 x4 x6 x7 _ _ _ _ _ _ _ _ _ _ _ _ _ _ _ (by omega) (hkeep.trans e3) e2
      refine ⟨v2, h2, g1, g2, ?_⟩
      have f4 : k + sizeN n = k + 1 + sizeN (n / 128) := by omega
      have f5 : cs ++ (putL n).map byteV = cs ++ [byteV (UInt8.ofNat (n % 128 + 128))] ++ (putL (n / 128)).map byteV := by
        rw [putL, if_neg (by omega)]; simp
      rw [f4, f5]; exact g3
    · rw [if_neg (by omega)]
      simp only [againK_exit, blockK_same, seqK_normal]
      rw [c20_2_eq]
      simp only [conv_22_5, obH_some', bs1]
      obtain ⟨v', h', e1, e2, e3⟩ := app1 hle ha (by omega) (UInt8.ofNat n)
      rw [← small_byte n] at e1 e2
      rw [e1]
      simp only [obH_some']
      rw [ret20, fin_done]
      refine ⟨_, _, rfl, done_ext (hkeep.trans e3), ?_⟩
      have f3 : sizeN n = 1 := by rw [sizeN, if_pos (by omega)]
      have f5 : (putL n).map byteV = [byteV (UInt8.ofNat n)] := by rw [putL, if_pos (by omega)]; rfl
      rw [f3, f5, ← small_byte n]
      exact e2.keep fun _ _ _ => rfl
theorem spec_Put (n : Nat) (hn : n < 2 ^ 64) (h : Heap) (b : Value) (k : Nat) (cs : List Value) (hb : Row h 1 b k cs) (hk : k < 2 ^ 39) (hone : cs.all Value.oneCell' = true) :
    ∃ v' h', evC Try.prog 20 #[b, .int .u64 n] h = some (v', h') ∧ HExt h h' ∧ Acc h.blks.length h' 5 1 v' (k + sizeN n) (cs ++ (putL n).map byteV) := by
  rw [call20, c20_0_eq]
  have hs := sizeN_le n 10 (by omega) (by omega)
  have hr : Row (nm h) 1 b k cs := hb.keep fun _ _ _ => rfl
  obtain ⟨v', h', h1, h2, h3, h4, h5⟩ := append_acc etB (t1 := some 31) (n0 := h.blks.length) (h := nm h) (Nat.le_refl _) .nil (newsV_row etB.under hr) (by simpa using hr.len) (by omega) (by omega) hone
  rw [h1]
  simp only [obH_some']
  obtain ⟨v2, h2', g1, g2, g3⟩ := put_loop h n h' v' (0 + k) _ b undef undef (Go.Value.slice Option.none 0 0) b v' undef undef undef undef undef undef undef undef undef undef undef undef undef undef undef (by omega) h3 h2
  exact ⟨v2, h2', g1, g2, by simpa using g3⟩
end Go.Am
namespace Go.Am
open Go.Proofs
def getLoop (n i : Nat) : List UInt8 → Nat × Nat
  | [] => (0, 0)
  | c :: l =>
    if i = 10 then (0, 0)
    else
      let n' := n ||| (c.toNat % 128 * 2 ^ (7 * i)) % 2 ^ 64
      if c.toNat < 128 then (if sizeN n' ≠ i + 1 ∨ (i = 9 ∧ c.toNat > 1) then (0, 0) else (n', i + 1)) else getLoop n' (i + 1) l
/-- the number that bytes begin with, and how many they are -/
def getL (l : List UInt8) : Nat × Nat := getLoop 0 0 l
theorem wrap64 (n : Nat) : IntKind.wrap .u64 (n : Int) = ((n % 2 ^ 64 : Nat) : Int) := by simp only [IntKind.wrap, IntKind.bits, IntKind.signed]; simp
theorem or64 (P : Program) (t : TypeId) (xo yo : Operand) (a b : Nat) (ha : a < 2 ^ 64) (hb : b < 2 ^ 64) : binV P .or t xo yo (.int .u64 a) (.int .u64 b) = some (.int .u64 ((a ||| b : Nat) : Int)) := by
  rw [bin_or]
  have e : (BitVec.ofInt IntKind.u64.bits (a : Int) ||| BitVec.ofInt IntKind.u64.bits (b : Int)).toNat = a ||| b := by
    show (BitVec.ofInt 64 (a : Int) ||| BitVec.ofInt 64 (b : Int)).toNat = a ||| b
    rw [BitVec.toNat_or]
    simp
    rw [Nat.mod_eq_of_lt ha, Nat.mod_eq_of_lt hb]
  rw [e, wrap64, Nat.mod_eq_of_lt (Nat.or_lt_two_pow ha hb)]
theorem and127 (x : Fin 256) : (IntKind.wrap .u8 ((BitVec.ofInt 8 (x.val : Int) &&& BitVec.ofInt 8 127).toNat : Int)) = ((x.val % 128 : Nat) : Int) := by
  revert x; decide +kernel
theorem bin_and (P : Program) (t : TypeId) (xo yo : Operand) (k : IntKind) (a b : Int) : binV P .and t xo yo (.int k a) (.int k b) = some (.int k (k.wrap ((BitVec.ofInt k.bits a &&& BitVec.ofInt k.bits b).toNat))) :=
  bin_int t xo yo k k a b .and rfl (by simp [eqGuard, Go.binOp, Op.intBits])
theorem and_byte (P : Program) (t : TypeId) (xo yo : Operand) (c : UInt8) : binV P .and t xo yo (byteV c) (.int .u8 127) = some (.int .u8 ((c.toNat % 128 : Nat) : Int)) := by
  unfold byteV
  rw [bin_and]
  have := and127 ⟨c.toNat, UInt8.toNat_lt c⟩
  simp only at this
  show some (Value.int .u8 (IntKind.wrap .u8 ((BitVec.ofInt 8 (c.toNat : Int) &&& BitVec.ofInt 8 127).toNat))) = _
  rw [this]
theorem conv_5_22 (n : Nat) (hn : n < 256) (h : Heap) : convV Try.prog 5 22 (.int .u8 n) h = some (.int .u64 n, h) := by
  rw [conv_int (ks := .u8) (kd := .u64) (by kernel_rfl) (by kernel_rfl), wrap64, Nat.mod_eq_of_lt (by omega)]
theorem wrapi (n : Nat) (hn : n < 2 ^ 63) : IntKind.wrap .i64 (n : Int) = n := by rw [wrap_i64] <;> omega
theorem shl64 (a i : Nat) (hi : i ≤ 9) : IntKind.wrap .u64 ((a : Int) * 2 ^ min ((7 * i : Nat) : Int).toNat IntKind.u64.bits) = ((a * 2 ^ (7 * i) % 2 ^ 64 : Nat) : Int) := by
  have e : min ((7 * i : Nat) : Int).toNat IntKind.u64.bits = 7 * i := by
    show min ((7 * i : Nat) : Int).toNat 64 = 7 * i
    omega
  have e2 : (a : Int) * 2 ^ (7 * i) = ((a * 2 ^ (7 * i) : Nat) : Int) := by push_cast; rfl
  rw [e, e2, wrap64]
theorem get_loop (h0 h : Heap) (v : Value) (bs : List UInt8) (hr : Row h 1 v bs.length (bs.map byteV)) (hk : Keeps h0.blks.length (nm h0) h) (hb : bs.length < 2 ^ 40) : ∀ (m i n : Nat), bs.length - i = m → i ≤ bs.length → n < 2 ^ 64 → i ≤ 10 →
    ∀ (x0 x1 x3 x4 x5 x9 x10 x11 x12 x13 x14 x15 x16 x17 x18 x19 x20 x21 x22 x23 x24 x25 x26 x27 x28 x29 x30 x31 x32 x33 x34 x35 x36 x37 x38 x39 x40 x41 : Value),
    loopK Try.prog (evC Try.prog) c21_1 ⟨#[x0, x1, .int .u64 n, x3, x4, x5, v, .int .i64 bs.length, .int .i64 i, x9, x10, x11, x12, x13, x14, x15, x16, x17, x18, x19, x20, x21, x22, x23, x24, x25, x26, x27, x28, x29, x30, x31, x32, x33, x34, x35, x36, x37, x38, x39, x40, x41], h⟩ (blockK 0 (seqK Try.prog (evC Try.prog) c21_2 (retK Try.f21 Try.prog h0))) =
      some (.tuple #[.int .u64 (getLoop n i (bs.drop i)).1, .int .i64 (getLoop n i (bs.drop i)).2], done h0 h) := by
  intro m
  induction m with
  | zero =>
    intro i n hm hi hn hi10 x0 x1 x3 x4 x5 x9 x10 x11 x12 x13 x14 x15 x16 x17 x18 x19 x20 x21 x22 x23 x24 x25 x26 x27 x28 x29 x30 x31 x32 x33 x34 x35 x36 x37 x38 x39 x40 x41
    rw [loopK_eq evC_m, c21_1_eq]
    simp only [bin_lss, Option.bind_some, cnd_dec]
    rw [if_neg (by omega)]
    simp only [againK_exit, blockK_same, seqK_normal]
    rw [c21_2_eq, ret21, fin_done, List.drop_of_length_le (by omega)]
    rfl
  | succ m ih =>
    intro i n hm hi hn hi10 x0 x1 x3 x4 x5 x9 x10 x11 x12 x13 x14 x15 x16 x17 x18 x19 x20 x21 x22 x23 x24 x25 x26 x27 x28 x29 x30 x31 x32 x33 x34 x35 x36 x37 x38 x39 x40 x41
    have hlt : i < bs.length := by omega
    rw [loopK_eq evC_m, c21_1_eq]
    simp only [bin_lss, Option.bind_some, cnd_dec]
    rw [if_pos (by omega)]
    obtain ⟨a, e1, e2, _⟩ := hr.at1 etB.under etB.size (by kernel_rfl) hlt .i64
    have e3 : (bs.map byteV)[i]? = some (byteV bs[i]) := by simp [hlt]
    rw [e3] at e2
    have ed : bs.drop i = bs[i] :: bs.drop (i + 1) := List.drop_eq_getElem_cons hlt
    rw [e1]
    simp only [Option.bind_some, e2, bin_eql, cnd_dec]
    generalize bs[i] = c at *
    by_cases h10 : i = 10
    · rw [if_pos (by omega)]
      simp only [againK_exit, blockK_same, seqK_normal]
      rw [c21_2_eq, ret21, fin_done, ed, getLoop, if_pos h10]
      rfl
    · rw [if_neg (by omega)]
      have hc := UInt8.toNat_lt c
      have hm7 : IntKind.wrap .i64 (7 * (i : Int)) = ((7 * i : Nat) : Int) := by rw [wrap_i64] <;> omega
      have hsh := shl64 (c.toNat % 128) i (by omega)
      have hn' : n ||| (c.toNat % 128 * 2 ^ (7 * i)) % 2 ^ 64 < 2 ^ 64 := Nat.or_lt_two_pow hn (Nat.mod_lt _ (by omega))
      have hl1 : IntKind.wrap .i64 ((i : Int) + 1) = ((i + 1 : Nat) : Int) := by rw [wrap_i64] <;> omega
      simp only [and_byte, Option.bind_some, conv_5_22 _ (show c.toNat % 128 < 256 by omega), obH_some', bin_mul, hm7, bin_shl _ _ _ _ _ _ _ (show (0 : Int) ≤ ((7 * i : Nat) : Int) by omega), hsh,
        or64 _ _ _ _ _ _ hn (Nat.mod_lt (c.toNat % 128 * 2 ^ (7 * i)) (show 0 < 2 ^ 64 by omega))]
      simp only [byteV, bin_lss, Option.bind_some, cnd_dec]
      rw [ed, getLoop, if_neg h10]
      simp only []
      generalize n ||| (c.toNat % 128 * 2 ^ (7 * i)) % 2 ^ 64 = n' at *
      by_cases h128 : c.toNat < 128
      · rw [if_pos (by omega), if_pos h128]
        rw [spec_Size n' hn' h]
        simp only [obH_some', bin_add, Option.bind_some, hl1, bin_neq]
        by_cases hs : sizeN n' = i + 1
        · have hd : decide (((sizeN n' : Nat) : Int) ≠ ((i + 1 : Nat) : Int)) = false := decide_eq_false (by omega)
          rw [hd]
          simp only [wt_ff]
          simp only [gd_true, gdV_true]
          rw [bin_eql, Option.bind_some]
          by_cases h9 : i = 9
          · have hd9 : decide ((i : Int) = 9) = true := decide_eq_true (by omega)
            rw [hd9]
            simp only [wt_tt]
            simp only [gd_true, gdV_true]
            rw [bin_gtr, Option.bind_some]
            by_cases hc1 : c.toNat > 1
            · have hdc : decide ((c.toNat : Int) > 1) = true := decide_eq_true (by omega)
              simp only [hdc, pickV_true, pickV_false, cnd_true, Option.bind_some, againK_exit, blockK_same, seqK_normal]
              rw [c21_2_eq, ret21, fin_done, if_pos (.inr ⟨h9, hc1⟩)]
              rfl
            · have hdc : decide ((c.toNat : Int) > 1) = false := decide_eq_false (by omega)
              simp only [hdc, pickV_true, pickV_false, cnd_false, Option.bind_some, againK_ret, blockK_ret, seqK_ret, bin_add, hl1]
              rw [ret21, fin_done, if_neg (by omega)]
          · have hd9 : decide ((i : Int) = 9) = false := decide_eq_false (by omega)
            simp only [hd9, wt_ft, gd_false, gdV_false, pickV_true, pickV_false, cnd_false, Option.bind_some, againK_ret, blockK_ret, seqK_ret, bin_add, hl1]
            rw [ret21, fin_done, if_neg (by omega)]
        · have hd : decide (((sizeN n' : Nat) : Int) ≠ ((i + 1 : Nat) : Int)) = true := decide_eq_true (by omega)
          simp only [hd, wt_tf, wt_undef, gd_false, gdV_false, pickV_true, cnd_true, Option.bind_some, againK_exit, blockK_same, seqK_normal]
          rw [c21_2_eq, ret21, fin_done, if_pos (.inl hs)]
          rfl
      · rw [if_neg (by omega), if_neg h128]
        simp only [bin_add, Option.bind_some, hl1, againK_normal]
        exact ih (i + 1) n' (by omega) (by omega) hn' (by omega) _ _ _ _ _ _ _ _ _ _ _ _ _ _ _ _ _ _ _ _ _ _ _ _ _ _ _ _ _ _ _ _ _ _ _ _ _ _
theorem spec_Get (h : Heap) (v : Value) (bs : List UInt8) (hr : Row h 1 v bs.length (bs.map byteV)) (hb : bs.length < 2 ^ 40) :
    evC Try.prog 21 #[v] h = some (.tuple #[.int .u64 (getL bs).1, .int .i64 (getL bs).2], h) := by
  rw [call21, c21_0_eq, (show Row (nm h) 1 v bs.length (bs.map byteV) from hr.keep fun _ _ _ => rfl).len_eq etB.under]
  simp only [Option.bind_some]
  have := get_loop h (nm h) v bs (hr.keep fun _ _ _ => rfl) (Keeps.refl (Nat.le_refl _)) hb bs.length 0 0 (by omega) (by omega) (by omega) (by omega) v undef (Go.Value.int Go.IntKind.i64 0) undef undef undef undef undef undef undef undef undef undef undef undef undef undef undef undef undef undef undef undef undef undef undef undef undef undef undef undef undef undef undef undef undef undef undef
  exact this
end Go.Am
namespace Go.Am
open Go.Proofs
theorem ldB (p o : Nat) (h : Heap) : loadV Try.prog 31 (.pointer (some ⟨p, o, none⟩)) h = h.load1 p o := by kernel_rfl
theorem ld64 (p o : Nat) (h : Heap) : loadV Try.prog 22 (.pointer (some ⟨p, o, none⟩)) h = h.load1 p o := by kernel_rfl
theorem ldBool (p o : Nat) (h : Heap) : loadV Try.prog 4 (.pointer (some ⟨p, o, none⟩)) h = h.load1 p o := by kernel_rfl
theorem ldInt (p o : Nat) (h : Heap) : loadV Try.prog 3 (.pointer (some ⟨p, o, none⟩)) h = h.load1 p o := by kernel_rfl
theorem stB (p o : Nat) (a : Option Addr) (n c : Nat) (h : Heap) : storeV Try.prog 31 (.pointer (some ⟨p, o, none⟩)) (.slice a n c) h = h.storeN p o [.slice a n c] := by kernel_rfl
theorem st64 (p o : Nat) (k : IntKind) (n : Int) (h : Heap) : storeV Try.prog 22 (.pointer (some ⟨p, o, none⟩)) (.int k n) h = h.storeN p o [.int k n] := by kernel_rfl
theorem stInt (p o : Nat) (k : IntKind) (n : Int) (h : Heap) : storeV Try.prog 3 (.pointer (some ⟨p, o, none⟩)) (.int k n) h = h.storeN p o [.int k n] := by kernel_rfl
theorem stBool (p o : Nat) (b : Bool) (h : Heap) : storeV Try.prog 4 (.pointer (some ⟨p, o, none⟩)) (.bool b) h = h.storeN p o [.bool b] := by kernel_rfl
theorem maxI (a b : Int) (h : Heap) : builtinV Try.prog .max #[3, 3] #[.int .i64 a, .int .i64 b] h = some (.int .i64 (max a b), h) := by
  have e : builtinV Try.prog .max #[3, 3] #[.int .i64 a, .int .i64 b] h = some (.int .i64 (if b > a then b else a), h) := by kernel_rfl
  rw [e]
  have : (if b > a then b else a) = max a b := by split <;> omega
  rw [this]
theorem nilB (xo yo : Operand) : binV Try.prog .eql 31 xo yo (.slice none 0 0) (.slice none 0 0) = some (.bool true) := by kernel_rfl
theorem mkB0 (h : Heap) : buildSliceV Try.prog 31 0 #[] h = some (.slice (some ⟨h.blks.length, 0, none⟩) 0 0, h.new (.cells []) 5) := by kernel_rfl
theorem mkB1 (k : IntKind) (n : Int) (h : Heap) : buildSliceV Try.prog 31 1 #[(0, .int k n)] h = some (.slice (some ⟨h.blks.length, 0, none⟩) 1 1, h.new (.cells [.int k n]) 5) := by kernel_rfl
theorem cvB8 (k : IntKind) (n : Nat) (h : Heap) : convV Try.prog 22 5 (.int k n) h = some (byteV (UInt8.ofNat n), h) := by
  rw [conv_int (ks := .u64) (kd := .u8) (by kernel_rfl) (by kernel_rfl), small_byte]
theorem cvI64 (n : Int) (h : Heap) (h0 : 0 ≤ n) (h1 : n < 2 ^ 63) : convV Try.prog 3 22 (.int .i64 n) h = some (.int .u64 n, h) := conv_u64 (ks := .i64) (by kernel_rfl) (by kernel_rfl) _ _ _ h0 (by omega)
theorem cvU64 (n : Int) (h : Heap) (h0 : 0 ≤ n) (h1 : n < 2 ^ 63) : convV Try.prog 22 3 (.int .u64 n) h = some (.int .i64 n, h) := conv_i64 (ks := .u64) (by kernel_rfl) (by kernel_rfl) _ _ _ (by omega) h1
theorem beql (xo yo : Operand) (a b : Bool) : binV Try.prog .eql 4 xo yo (.bool a) (.bool b) = some (.bool (a == b)) := bin_beql _ _ _ _ (by cases a <;> cases b <;> kernel_rfl)
theorem bneq (xo yo : Operand) (a b : Bool) : binV Try.prog .neq 4 xo yo (.bool a) (.bool b) = some (.bool (!(a == b))) := bin_bneq _ _ _ _ (by cases a <;> cases b <;> kernel_rfl)
/-- bytes, held by a slice -/
abbrev SB (h : Heap) (v : Value) (bs : List UInt8) : Prop := Sl Try.prog h 1 v bs.length (bs.map byteV)
abbrev AB (n0 : Nat) (h : Heap) (v : Value) (bs : List UInt8) : Prop := Acc n0 h 5 1 v bs.length (bs.map byteV)
theorem AB.sb {n0 : Nat} {h : Heap} {v : Value} {bs : List UInt8} (a : AB n0 h v bs) : SB h v bs := a.sl etB.size
theorem bytes_one (bs : List UInt8) : (bs.map byteV).all Value.oneCell' = true := by
  rw [List.all_map, List.all_eq_true]; intro x _; rfl
theorem AB.empty (n0 : Nat) (h : Heap) (hn : n0 ≤ h.blks.length) : AB n0 (h.new (.cells []) 5) (.slice (some ⟨h.blks.length, 0, none⟩) 0 0) [] := .full (all := []) hn (by omega) (blk_new_self _ _ _) (by simp) rfl
/-- bytes are appended -/
theorem app_bytes {n0 : Nat} {h : Heap} (hn0 : n0 ≤ h.blks.length) {v x : Value} {bs cs : List UInt8} (ha : AB n0 h v bs) (hx : SB h x cs) (hl : bs.length + cs.length < 2 ^ 44) :
    ∃ a c h', appendV Try.prog 31 (some 31) v x h = some (.slice a (bs ++ cs).length c, h') ∧ AB n0 h' (.slice a (bs ++ cs).length c) (bs ++ cs) ∧ Keeps n0 h h' ∧ (∀ b, b < h.blks.length → blockOf v ≠ some b → h'.blks[b]? = h.blks[b]?) ∧
      (.slice a (bs ++ cs).length c = v ∧ h' = h ∨ blockOf (.slice a (bs ++ cs).length c) = some h.blks.length ∧ h.blks.length < h'.blks.length) := by
  obtain ⟨v', h', e1, e2, e3, e4, e5⟩ := append_acc etB (t1 := some 31) hn0 ha (newsV_row etB.under hx.row) (by simpa using hx.len) (by omega) (by omega) (bytes_one cs)
  obtain ⟨a, c, rfl⟩ := e2.shape
  rw [← List.length_append] at e1 e2 e5
  rw [← List.map_append] at e2
  exact ⟨a, c, h', e1, e2, e3, e4, e5⟩
theorem strB {h : Heap} {v : Value} {bs : List UInt8} (s : SB h v bs) : convV Try.prog 31 9 v h = some (strV bs, h) := by
  have hs : Try.prog.underlying 31 = some (.slice 5) := by kernel_rfl
  have hd : Try.prog.underlying 9 = some .string := by kernel_rfl
  have hb : isByteT Try.prog 5 = true := by kernel_rfl
  have hbo : ∀ l : List UInt8, bytesOf? (l.map byteV) = some l := by
    intro l
    induction l with
    | nil => rfl
    | cons x l ih =>
      rw [List.map_cons]
      unfold byteV bytesOf?
      rw [show (l.map byteV) = l.map byteV from rfl] at ih
      have : bytesOf? (l.map fun b => Value.int .u8 (b.toNat : Int)) = some l := ih
      change (bytesOf? (l.map byteV)).map _ = _
      rw [ih]
      simp
  unfold convV
  rw [hs, hd]
  rcases s.inv with ⟨rfl, _, h3⟩ | ⟨b, o, c, rfl, hl, _⟩
  · have : bs = [] := by simpa using h3
    subst this
    simp [hb]
    rfl
  · simp only [hb, if_true]
    rw [Nat.mul_one] at hl
    rw [hl, Option.bind_some, hbo]
    rfl
theorem sl_mid {h : Heap} {v : Value} {bs : List UInt8} (s : SB h v bs) {i j : Nat} (hij : i ≤ j) (hj : j ≤ bs.length) {lo hi : Option Value} (hlo : lo.elim (some 0) natOf? = some i) (hhi : hi.elim (some bs.length) natOf? = some j) :
    ∃ a c, sliceV Try.prog 31 v lo hi none h = some (.slice a ((bs.drop i).take (j - i)).length c) ∧ SB h (.slice a ((bs.drop i).take (j - i)).length c) ((bs.drop i).take (j - i)) ∧ blockOf (.slice a ((bs.drop i).take (j - i)).length c) = blockOf v := by
  obtain ⟨v3, e3, s3, b3⟩ := s.sub etB.under etB.size hij hj hlo hhi
  obtain ⟨a4, c4, rfl⟩ := s3.shape
  have el : ((bs.drop i).take (j - i)).length = j - i := by simp; omega
  rw [Nat.mul_one, Nat.mul_one, ← List.map_drop, ← List.map_take] at s3
  refine ⟨a4, c4, ?_⟩
  unfold SB
  rw [el]
  exact ⟨e3, s3, b3⟩
theorem sl_drop {h : Heap} {v : Value} {bs : List UInt8} (s : SB h v bs) {i : Nat} (hi : i ≤ bs.length) (k : IntKind) :
    ∃ a c, sliceV Try.prog 31 v (some (.int k i)) none none h = some (.slice a (bs.drop i).length c) ∧ SB h (.slice a (bs.drop i).length c) (bs.drop i) ∧ blockOf (.slice a (bs.drop i).length c) = blockOf v := by
  have := sl_mid s (i := i) (j := bs.length) hi (Nat.le_refl _) (lo := some (.int k i)) (hi := none) (natOf_int k _) rfl
  rwa [List.take_of_length_le (by simp)] at this
theorem sl_take {h : Heap} {v : Value} {bs : List UInt8} (s : SB h v bs) {i : Nat} (hi : i ≤ bs.length) (k : IntKind) :
    ∃ a c, sliceV Try.prog 31 v none (some (.int k i)) none h = some (.slice a (bs.take i).length c) ∧ SB h (.slice a (bs.take i).length c) (bs.take i) ∧ blockOf (.slice a (bs.take i).length c) = blockOf v := by
  have := sl_mid s (i := 0) (j := i) (Nat.zero_le _) hi (lo := none) (hi := some (.int k i)) rfl (natOf_int k _)
  rwa [List.drop_zero, Nat.sub_zero] at this
theorem mkBb (b : UInt8) (h : Heap) : buildSliceV Try.prog 31 1 #[(0, byteV b)] h = some (.slice (some ⟨h.blks.length, 0, none⟩) 1 1, h.new (.cells [byteV b]) 5) := mkB1 _ _ _
theorem lit1 (b : UInt8) (h : Heap) : SB (h.new (.cells [byteV b]) 5) (.slice (some ⟨h.blks.length, 0, none⟩) 1 1) [b] :=
  .mk (by simp [Heap.loadN, Heap.cells?, blk_new_self]) (.inr ⟨Nat.le_refl _, by unfold UNK; omega⟩)
/-- one byte more: the literal and the append -/
theorem app_b {n0 : Nat} {h : Heap} (hn0 : n0 ≤ h.blks.length) {v : Value} {bs : List UInt8} (ha : AB n0 h v bs) (b : UInt8) (hl : bs.length < 2 ^ 43) :
    ∃ a c h', appendV Try.prog 31 (some 31) v (.slice (some ⟨h.blks.length, 0, none⟩) 1 1) (h.new (.cells [byteV b]) 5) = some (.slice a (bs ++ [b]).length c, h') ∧ AB n0 h' (.slice a (bs ++ [b]).length c) (bs ++ [b]) ∧ Keeps n0 h h' ∧
      (∀ q, q < h.blks.length → blockOf v ≠ some q → h'.blks[q]? = h.blks[q]?) := by
  have ha' : AB n0 (h.new (.cells [byteV b]) 5) v bs := ha.keep fun _ hb _ => Heap.new_old hb
  obtain ⟨a, c, h', e1, e2, e3, e4, _⟩ := app_bytes (n0 := n0) (by simp [Heap.new]; omega) ha' (lit1 b h) (by simp; omega)
  exact ⟨a, c, h', e1, e2, (Keeps.new hn0 _ _).trans e3, fun q hq hne => (e4 q (by simp [Heap.new]; omega) hne).trans (Heap.new_old hq)⟩
theorem spec_Clone (h : Heap) (x : Value) (bs : List UInt8) (hx : SB h x bs) (hl : bs.length < 2 ^ 43) :
    ∃ a c h', evC Try.prog 39 #[x] h = some (.slice a bs.length c, h') ∧ HExt h h' ∧ AB h.blks.length h' (.slice a bs.length c) bs := by
  rw [call39, c39_0_eq]
  rcases hx.inv with ⟨rfl, _, h3⟩ | ⟨b, o, c, rfl, _, _⟩
  · have : bs = [] := by simpa using h3
    subst this
    simp -implicitDefEqProofs only [nilB, bin_add, bin_sub, bin_mul, bin_lss, bin_leq, bin_gtr, bin_geq, bin_eql, bin_neq, un_not, un_neg, Option.bind_some, Option.bind_none, Option.map_some, cnd_true, cnd_false, pickV_true, pickV_false, gd_true, gd_false, gdV_true, gdV_false, gdH_true, gdH_false, gdS_true, gdS_false, wt_ff, wt_tt, wt_ft, wt_tf, wt_undef, obH_some', extractV_tuple, nilCheckV_ptr, againK_normal, againK_exit, againK_ret, blockK_normal, blockK_same, blockK_ret, seqK_normal, seqK_exit, seqK_ret, fin_done, if_true', if_false', Bool.not_true, Bool.not_false, idx0, idx1, idx2, idx3, idx4, chk_nil_l, chk_nil_r, done_nm]
    rw [ret39, fin_done]
    exact ⟨none, 0, h, by simp, HExt.refl h, .nil⟩
  · simp -implicitDefEqProofs only [bin_nil_some (P := Try.prog) (t := 31) etB.under, mkB0, bin_add, bin_sub, bin_mul, bin_lss, bin_leq, bin_gtr, bin_geq, bin_eql, bin_neq, un_not, un_neg, Option.bind_some, Option.bind_none, Option.map_some, cnd_true, cnd_false, pickV_true, pickV_false, gd_true, gd_false, gdV_true, gdV_false, gdH_true, gdH_false, gdS_true, gdS_false, wt_ff, wt_tt, wt_ft, wt_tf, wt_undef, obH_some', extractV_tuple, nilCheckV_ptr, againK_normal, againK_exit, againK_ret, blockK_normal, blockK_same, blockK_ret, seqK_normal, seqK_exit, seqK_ret, fin_done, if_true', if_false', Bool.not_true, Bool.not_false, idx0, idx1, idx2, idx3, idx4, chk_nil_l, chk_nil_r, done_nm]
    obtain ⟨a, c', h', e1, e2, e3, e4, e5⟩ := app_bytes (n0 := h.blks.length) (by simp [Heap.new]) (AB.empty h.blks.length (nm h) (by simp)) (hx.nm.keepNew _ _) (by simp; omega)
    rw [e1]
    simp only [obH_some']
    rw [ret39, fin_done]
    exact ⟨a, c', _, rfl, done_ext' ((In.new (S := No) (by simp) _ _).trans e3.inn), e2.done⟩
theorem spec_PutB (n : Nat) (hn : n < 2 ^ 64) (h : Heap) (b : Value) (bs : List UInt8) (hb : SB h b bs) (hk : bs.length < 2 ^ 39) :
    ∃ a c h', evC Try.prog 20 #[b, .int .u64 n] h = some (.slice a (bs ++ putL n).length c, h') ∧ HExt h h' ∧ AB h.blks.length h' (.slice a (bs ++ putL n).length c) (bs ++ putL n) := by
  obtain ⟨v, h', e1, e2, e3⟩ := spec_Put n hn h b _ _ hb.row hk (bytes_one bs)
  obtain ⟨a, c, rfl⟩ := e3.shape
  rw [← putL_len, ← List.length_append] at e1 e3
  rw [← List.map_append] at e3
  exact ⟨a, c, h', e1, e2, e3⟩
end Go.Am
namespace Go.Am
open Go.Proofs
/-! plain: a reader, as what is left (none: bad) -/
def numP : Option (List UInt8) → Nat → Nat × Option (List UInt8)
  | none, _ => (0, none)
  | some bs, most => if (getL bs).2 = 0 ∨ most < (getL bs).1 then (0, none) else ((getL bs).1, some (bs.drop (getL bs).2))
def takeP : Option (List UInt8) → Nat → List UInt8 × Option (List UInt8)
  | none, _ => ([], none)
  | some bs, n => if bs.length < n then ([], none) else (bs.take n, some (bs.drop n))
def bytesP (r : Option (List UInt8)) (most : Nat) : List UInt8 × Option (List UInt8) := takeP (numP r most).2 (numP r most).1
def endP : Option (List UInt8) → Bool
  | some [] => true
  | _ => false
theorem getLoop_le : ∀ (l : List UInt8) (n i : Nat), n < 2 ^ 64 → (getLoop n i l).1 < 2 ^ 64 ∧ (getLoop n i l).2 ≤ i + l.length
  | [], n, i, h => by simp [getLoop]
  | c :: l, n, i, h => by
    rw [getLoop]
    have hn' : n ||| (c.toNat % 128 * 2 ^ (7 * i)) % 2 ^ 64 < 2 ^ 64 := Nat.or_lt_two_pow h (Nat.mod_lt _ (by omega))
    split
    · simp
    · simp only []
      split
      · split
        · simp
        · refine ⟨hn', ?_⟩
          simp only [List.length_cons]; omega
      · have := getLoop_le l _ (i + 1) hn'
        simp only [List.length_cons]
        exact ⟨this.1, by omega⟩
theorem getL_lt (l : List UInt8) : (getL l).1 < 2 ^ 64 := (getLoop_le l 0 0 (by omega)).1
theorem getL_len (l : List UInt8) : (getL l).2 ≤ l.length := by have := (getLoop_le l 0 0 (by omega)).2; unfold getL; omega
/-! the objects -/
def rbs (r : Option (List UInt8)) : List UInt8 := r.getD []
def Wr (n0 : Nat) (h : Heap) (p : Nat) (bs : List UInt8) : Prop := ∃ a c, Cells h p 78 [.slice a bs.length c] ∧ AB n0 h (.slice a bs.length c) bs ∧ blockOf (.slice a bs.length c) ≠ some p
def Rdr (h : Heap) (p : Nat) (r : Option (List UInt8)) : Prop := ∃ a c, Cells h p 80 [.slice a (rbs r).length c, .bool r.isNone] ∧ SB h (.slice a (rbs r).length c) (rbs r) ∧ Lo (.slice a (rbs r).length c) p
theorem Wr.lt {n0 : Nat} {h : Heap} {p : Nat} {bs : List UInt8} (w : Wr n0 h p bs) : p < h.blks.length := let ⟨_, _, c, _⟩ := w; c.lt
theorem Rdr.lt {h : Heap} {p : Nat} {r : Option (List UInt8)} (w : Rdr h p r) : p < h.blks.length := let ⟨_, _, c, _⟩ := w; c.lt
theorem faW (p : Nat) : fieldAddrV Try.prog 78 (.pointer (some ⟨p, 0, none⟩)) 0 = some (.pointer (some ⟨p, 0, none⟩)) := by kernel_rfl
theorem faR0 (p : Nat) : fieldAddrV Try.prog 80 (.pointer (some ⟨p, 0, none⟩)) 0 = some (.pointer (some ⟨p, 0, none⟩)) := by kernel_rfl
theorem faR1 (p : Nat) : fieldAddrV Try.prog 80 (.pointer (some ⟨p, 0, none⟩)) 1 = some (.pointer (some ⟨p, 1, none⟩)) := by kernel_rfl
theorem bdW : buildV Try.prog 78 #[] = some (.agg #[.slice none 0 0]) := by kernel_rfl
theorem bxW (x : Value) (h : Heap) : boxV Try.prog 78 (.agg #[x]) h = some (.pointer (some ⟨h.blks.length, 0, none⟩), h.new (.cells [x]) 78) := by kernel_rfl
theorem bdR (a : Option Addr) (n c : Nat) : buildV Try.prog 80 #[(0, .slice a n c)] = some (.agg #[.slice a n c, .bool false]) := by kernel_rfl
theorem bxR (x y : Value) (h : Heap) : boxV Try.prog 80 (.agg #[x, y]) h = some (.pointer (some ⟨h.blks.length, 0, none⟩), h.new (.cells [x, y]) 80) := by kernel_rfl
theorem spec_NewWriter (h : Heap) : ∃ h', evC Try.prog 27 #[] h = some (.pointer (some ⟨h.blks.length, 0, none⟩), h') ∧ HExt h h' ∧ Wr h.blks.length h' h.blks.length [] ∧ h'.blks.length = h.blks.length + 1 := by
  rw [call27, c27_0_eq]
  simp -implicitDefEqProofs only [bdW, bxW, bin_add, bin_sub, bin_mul, bin_lss, bin_leq, bin_gtr, bin_geq, bin_eql, bin_neq, un_not, un_neg, Option.bind_some, Option.bind_none, Option.map_some, cnd_true, cnd_false, pickV_true, pickV_false, gd_true, gd_false, gdV_true, gdV_false, gdH_true, gdH_false, gdS_true, gdS_false, wt_ff, wt_tt, wt_ft, wt_tf, wt_undef, obH_some', extractV_tuple, nilCheckV_ptr, againK_normal, againK_exit, againK_ret, blockK_normal, blockK_same, blockK_ret, seqK_normal, seqK_exit, seqK_ret, fin_done, if_true', if_false', Bool.not_true, Bool.not_false, idx0, idx1, idx2, idx3, idx4, chk_nil_l, chk_nil_r, done_nm]
  rw [ret27, fin_done]
  exact ⟨_, rfl, done_ext' (In.new (S := No) (by simp) _ _), ⟨none, 0, (Cells.new (nm h) _ _).done, .nil, by simp [blockOf]⟩, by simp [Heap.new]⟩
theorem Wr.put {n0 : Nat} {h : Heap} {p : Nat} {a : Option Addr} {bs : List UInt8} {c : Nat} {cs : List Value} (hc : Cells h p 78 cs) (ha : AB n0 h (.slice a bs.length c) bs) (hb : blockOf (.slice a bs.length c) ≠ some p) :
    Wr n0 (h.put p (.cells [.slice a bs.length c])) p bs := ⟨a, c, hc.put _, ha.keepPut hb _, hb⟩
theorem Wr.nm {n0 : Nat} {h : Heap} {p : Nat} {bs : List UInt8} (w : Wr n0 h p bs) : Wr n0 (Am.nm h) p bs := let ⟨a, c, x, y, z⟩ := w; ⟨a, c, x, y.keep fun _ _ _ => rfl, z⟩
theorem Wr.done {n0 : Nat} {h0 h : Heap} {p : Nat} {bs : List UInt8} (w : Wr n0 h p bs) : Wr n0 (Am.done h0 h) p bs := let ⟨a, c, x, y, z⟩ := w; ⟨a, c, x.done, y.done, z⟩
theorem Wr.same {n0 : Nat} {h h' : Heap} {p : Nat} {bs : List UInt8} (w : Wr n0 h p bs) (e : Same h h') : Wr n0 h' p bs := let ⟨a, c, x, y, z⟩ := w; ⟨a, c, x.same e, y.same e, z⟩
theorem Wr.ext {n0 : Nat} {h h' : Heap} {p : Nat} {bs : List UInt8} (w : Wr n0 h p bs) (e : HExt h h') : Wr n0 h' p bs := let ⟨a, c, x, y, z⟩ := w; ⟨a, c, x.ext e, y.keep fun b hb _ => e.old b hb, z⟩
theorem Wr.up {n0 n1 : Nat} {h : Heap} {p : Nat} {bs : List UInt8} (w : Wr n0 h p bs) (hn : n1 ≤ n0) : Wr n1 h p bs := let ⟨a, c, x, y, z⟩ := w; ⟨a, c, x, y.up hn, z⟩
theorem spec_WNum {n0 : Nat} {h : Heap} {p : Nat} {bs : List UInt8} (w : Wr n0 h p bs) (hn0 : n0 ≤ h.blks.length) (n : Nat) (hn : n < 2 ^ 64) (hl : bs.length < 2 ^ 39) :
    ∃ h', evC Try.prog 28 #[.pointer (some ⟨p, 0, none⟩), .int .u64 n] h = some (.tuple #[], h') ∧ HMod (Just p) h h' ∧ Wr h.blks.length h' p (bs ++ putL n) := by
  rw [call28, c28_0_eq]
  obtain ⟨a, c, hc, ha, hne⟩ := w
  obtain ⟨a2, c2, h2, e2, x2, ab⟩ := spec_PutB n hn (nm h) _ bs ha.sb.nm hl
  simp -implicitDefEqProofs only [faW, ldB, hc.nm.load, List.getElem?_cons_zero, e2, stB, storeN_blk (hc.nm.ext x2) (o := 0) (vs := [.slice a2 (bs ++ putL n).length c2]) (by simp), bin_add, bin_sub, bin_mul, bin_lss, bin_leq, bin_gtr, bin_geq, bin_eql, bin_neq, un_not, un_neg, Option.bind_some, Option.bind_none, Option.map_some, cnd_true, cnd_false, pickV_true, pickV_false, gd_true, gd_false, gdV_true, gdV_false, gdH_true, gdH_false, gdS_true, gdS_false, wt_ff, wt_tt, wt_ft, wt_tf, wt_undef, obH_some', extractV_tuple, nilCheckV_ptr, againK_normal, againK_exit, againK_ret, blockK_normal, blockK_same, blockK_ret, seqK_normal, seqK_exit, seqK_ret, fin_done, if_true', if_false', Bool.not_true, Bool.not_false, idx0, idx1, idx2, idx3, idx4, chk_nil_l, chk_nil_r, done_nm]
  rw [retn28, fin_done]
  refine ⟨_, rfl, done_mod ((x2.inn (by simp)).trans (In.put (by have := x2.len; simpa using this) (.inr (show Just p p from rfl)) _)), ?_⟩
  simp only [List.take_zero, List.nil_append, List.length_singleton, Nat.zero_add, List.drop_succ_cons, List.drop_nil, List.append_nil]
  exact (Wr.put (hc.nm.ext x2) ab (ab.ne hc.lt)).done
theorem spec_WBytes {n0 : Nat} {h : Heap} {p : Nat} {bs : List UInt8} (w : Wr n0 h p bs) (hn0 : n0 ≤ h.blks.length) {x : Value} {cs : List UInt8} (hx : SB h x cs) (hxp : blockOf x ≠ some p) (hl : bs.length < 2 ^ 39) (hl2 : cs.length < 2 ^ 39) :
    ∃ h', evC Try.prog 40 #[.pointer (some ⟨p, 0, none⟩), x] h = some (.tuple #[], h') ∧ HMod (Just p) h h' ∧ Wr h.blks.length h' p (bs ++ putL cs.length ++ cs) := by
  rw [call40, c40_0_eq]
  have hs := sizeN_le cs.length 6 (by omega) (by omega)
  obtain ⟨h2, e2, x2, w2⟩ := spec_WNum w.nm (by simpa using hn0) cs.length (by omega) hl
  obtain ⟨a, c, hc, ha, hne⟩ := w2
  have hx2 : SB h2 x cs := hx.nm.mod x2 fun b hb e => hxp (by rw [hb, e])
  obtain ⟨a3, c3, h3, e3, ab, k3, o3, _⟩ := app_bytes (n0 := h.blks.length) (by have := x2.len; simpa using this) ha hx2 (by simp [putL_len]; omega)
  have hc3 : Cells h3 p _ _ := (o3 p hc.lt hne).trans hc
  simp -implicitDefEqProofs (disch := omega) only [hx.nm.row.len_eq etB.under, cvI64, e2, faW, ldB, hc.load, List.getElem?_cons_zero, e3, stB, storeN_blk hc3 (o := 0) (vs := [.slice a3 (bs ++ putL cs.length ++ cs).length c3]) (by simp), bin_add, bin_sub, bin_mul, bin_lss, bin_leq, bin_gtr, bin_geq, bin_eql, bin_neq, un_not, un_neg, Option.bind_some, Option.bind_none, Option.map_some, cnd_true, cnd_false, pickV_true, pickV_false, gd_true, gd_false, gdV_true, gdV_false, gdH_true, gdH_false, gdS_true, gdS_false, wt_ff, wt_tt, wt_ft, wt_tf, wt_undef, obH_some', extractV_tuple, nilCheckV_ptr, againK_normal, againK_exit, againK_ret, blockK_normal, blockK_same, blockK_ret, seqK_normal, seqK_exit, seqK_ret, fin_done, if_true', if_false', Bool.not_true, Bool.not_false, idx0, idx1, idx2, idx3, idx4, chk_nil_l, chk_nil_r, done_nm]
  rw [retn40, fin_done]
  refine ⟨_, rfl, done_mod (((x2.inn (by simp) (fun b _ hb => hb)).trans (k3.inn)).trans (In.put (by have := x2.len; have := k3.len; simp at *; omega) (.inr (show Just p p from rfl)) _)), ?_⟩
  simp only [List.take_zero, List.nil_append, List.length_singleton, Nat.zero_add, List.drop_succ_cons, List.drop_nil, List.append_nil]
  exact (Wr.put hc3 ab (ab.ne w.lt)).done
theorem spec_WDone {n0 : Nat} {h : Heap} {p : Nat} {bs : List UInt8} (w : Wr n0 h p bs) (hl : bs.length < 2 ^ 43) :
    ∃ a c h', evC Try.prog 29 #[.pointer (some ⟨p, 0, none⟩)] h = some (.slice a bs.length c, h') ∧ HExt h h' ∧ AB h.blks.length h' (.slice a bs.length c) bs := by
  rw [call29, c29_0_eq]
  obtain ⟨a, c, hc, ha, hne⟩ := w
  obtain ⟨a2, c2, h2, e2, x2, ab⟩ := spec_Clone (nm h) _ bs ha.sb.nm hl
  simp -implicitDefEqProofs only [faW, ldB, hc.nm.load, List.getElem?_cons_zero, e2, bin_add, bin_sub, bin_mul, bin_lss, bin_leq, bin_gtr, bin_geq, bin_eql, bin_neq, un_not, un_neg, Option.bind_some, Option.bind_none, Option.map_some, cnd_true, cnd_false, pickV_true, pickV_false, gd_true, gd_false, gdV_true, gdV_false, gdH_true, gdH_false, gdS_true, gdS_false, wt_ff, wt_tt, wt_ft, wt_tf, wt_undef, obH_some', extractV_tuple, nilCheckV_ptr, againK_normal, againK_exit, againK_ret, blockK_normal, blockK_same, blockK_ret, seqK_normal, seqK_exit, seqK_ret, fin_done, if_true', if_false', Bool.not_true, Bool.not_false, idx0, idx1, idx2, idx3, idx4, chk_nil_l, chk_nil_r, done_nm]
  rw [ret29, fin_done]
  exact ⟨a2, c2, _, rfl, done_ext' (x2.inn (by simp)), ab.done⟩
theorem spec_NewReader {h : Heap} {x : Value} {bs : List UInt8} (hx : SB h x bs) (hl : bs.length < 2 ^ 43) :
    ∃ h' p, evC Try.prog 30 #[x] h = some (.pointer (some ⟨p, 0, none⟩), h') ∧ HExt h h' ∧ Rdr h' p (some bs) ∧ h.blks.length ≤ p := by
  rw [call30, c30_0_eq]
  obtain ⟨a2, c2, h2, e2, x2, ab⟩ := spec_Clone (nm h) _ bs hx.nm hl
  simp -implicitDefEqProofs only [e2, bdR, bxR, bin_add, bin_sub, bin_mul, bin_lss, bin_leq, bin_gtr, bin_geq, bin_eql, bin_neq, un_not, un_neg, Option.bind_some, Option.bind_none, Option.map_some, cnd_true, cnd_false, pickV_true, pickV_false, gd_true, gd_false, gdV_true, gdV_false, gdH_true, gdH_false, gdS_true, gdS_false, wt_ff, wt_tt, wt_ft, wt_tf, wt_undef, obH_some', extractV_tuple, nilCheckV_ptr, againK_normal, againK_exit, againK_ret, blockK_normal, blockK_same, blockK_ret, seqK_normal, seqK_exit, seqK_ret, fin_done, if_true', if_false', Bool.not_true, Bool.not_false, idx0, idx1, idx2, idx3, idx4, chk_nil_l, chk_nil_r, done_nm]
  rw [ret30, fin_done]
  exact ⟨_, _, rfl, done_ext' ((x2.inn (by simp)).trans (In.new x2.len _ _)), ⟨a2, c2, (Cells.new h2 _ _).done, (ab.sb.keepNew _ _).done, fun b e => by have := ab.sb.lt e; omega⟩, x2.len⟩
theorem Rdr.nm {h : Heap} {p : Nat} {r : Option (List UInt8)} (w : Rdr h p r) : Rdr (Am.nm h) p r := let ⟨a, c, x, y, z⟩ := w; ⟨a, c, x, y.nm, z⟩
theorem Rdr.done {h0 h : Heap} {p : Nat} {r : Option (List UInt8)} (w : Rdr h p r) : Rdr (Am.done h0 h) p r := let ⟨a, c, x, y, z⟩ := w; ⟨a, c, x.done, y.done, z⟩
theorem Rdr.same {h h' : Heap} {p : Nat} {r : Option (List UInt8)} (w : Rdr h p r) (e : Same h h') : Rdr h' p r := let ⟨a, c, x, y, z⟩ := w; ⟨a, c, x.same e, y.same e, z⟩
theorem Rdr.keepPut {h : Heap} {p q : Nat} {r : Option (List UInt8)} (w : Rdr h p r) (hq : p < q) (body : Body) : Rdr (h.put q body) p r :=
  let ⟨a, c, x, y, z⟩ := w; ⟨a, c, x.keepPut (by omega) _, y.keepPut (fun e => by have := z _ e; omega) _, z⟩
theorem Rdr.ext {h h' : Heap} {p : Nat} {r : Option (List UInt8)} (w : Rdr h p r) (e : HExt h h') : Rdr h' p r := let ⟨a, c, x, y, z⟩ := w; ⟨a, c, x.ext e, y.ext e, z⟩
theorem spec_spoil {h : Heap} {p : Nat} {r : Option (List UInt8)} (w : Rdr h p r) (b : Bool) :
    ∃ h', evC Try.prog 42 #[.pointer (some ⟨p, 0, none⟩), .bool b] h = some (.bool (b || r.isNone), h') ∧ HMod (Just p) h h' ∧ Rdr h' p (if b then none else r) := by
  rw [call42, c42_0_eq]
  obtain ⟨a, c, hc, ha, hne⟩ := w
  cases b with
  | true =>
    have hc1 := hc.nm.put [Value.slice none 0 0, .bool r.isNone]
    have hc2 := hc1.put [Value.slice none 0 0, .bool true]
    simp -implicitDefEqProofs only [faR0, faR1, stB, stBool, storeN_blk hc.nm (o := 0) (vs := [.slice none 0 0]) (by simp), List.take_zero, List.nil_append, List.length_singleton, Nat.zero_add, List.drop_succ_cons, List.drop_zero, List.cons_append, List.singleton_append,
      storeN_blk hc1 (o := 1) (vs := [.bool true]) (by simp), List.take_succ_cons, List.drop_nil, Nat.reduceAdd, List.append_nil, c42_1_eq, ldBool, hc2.load, List.getElem?_cons_zero, List.getElem?_cons_succ, bin_add, bin_sub, bin_mul, bin_lss, bin_leq, bin_gtr, bin_geq, bin_eql, bin_neq, un_not, un_neg, Option.bind_some, Option.bind_none, Option.map_some, cnd_true, cnd_false, pickV_true, pickV_false, gd_true, gd_false, gdV_true, gdV_false, gdH_true, gdH_false, gdS_true, gdS_false, wt_ff, wt_tt, wt_ft, wt_tf, wt_undef, obH_some', extractV_tuple, nilCheckV_ptr, againK_normal, againK_exit, againK_ret, blockK_normal, blockK_same, blockK_ret, seqK_normal, seqK_exit, seqK_ret, fin_done, if_true', if_false', Bool.not_true, Bool.not_false, idx0, idx1, idx2, idx3, idx4, chk_nil_l, chk_nil_r, done_nm]
    rw [ret42, fin_done]
    exact ⟨_, rfl, done_mod ((In.put (by simp) (.inr (show Just p p from rfl)) _).trans (In.put (by rw [Heap.put_len]; simp) (.inr (show Just p p from rfl)) _)), ⟨none, 0, hc2.done, .nil, Lo.nil _ _ _⟩⟩
  | false =>
    simp -implicitDefEqProofs only [c42_1_eq, faR1, ldBool, hc.nm.load, List.getElem?_cons_zero, List.getElem?_cons_succ, bin_add, bin_sub, bin_mul, bin_lss, bin_leq, bin_gtr, bin_geq, bin_eql, bin_neq, un_not, un_neg, Option.bind_some, Option.bind_none, Option.map_some, cnd_true, cnd_false, pickV_true, pickV_false, gd_true, gd_false, gdV_true, gdV_false, gdH_true, gdH_false, gdS_true, gdS_false, wt_ff, wt_tt, wt_ft, wt_tf, wt_undef, obH_some', extractV_tuple, nilCheckV_ptr, againK_normal, againK_exit, againK_ret, blockK_normal, blockK_same, blockK_ret, seqK_normal, seqK_exit, seqK_ret, fin_done, if_true', if_false', Bool.not_true, Bool.not_false, idx0, idx1, idx2, idx3, idx4, chk_nil_l, chk_nil_r, done_nm]
    rw [ret42, fin_done]
    exact ⟨_, by simp, done_mod (In.refl (by simp)), ⟨a, c, hc.nm.done, ha.nm.done, hne⟩⟩
theorem Rdr.put {h : Heap} {p : Nat} {a : Option Addr} {r : Option (List UInt8)} {c : Nat} {cs : List Value} (hc : Cells h p 80 cs) (ha : SB h (.slice a (rbs r).length c) (rbs r)) (hb : Lo (.slice a (rbs r).length c) p) :
    Rdr (h.put p (.cells [.slice a (rbs r).length c, .bool r.isNone])) p r := ⟨a, c, hc.put _, ha.keepPut hb.ne _, hb⟩
theorem spec_RNum {h : Heap} {p : Nat} {r : Option (List UInt8)} (w : Rdr h p r) (most : Nat) (hm : most < 2 ^ 64) (hl : (rbs r).length < 2 ^ 40) :
    ∃ h', evC Try.prog 31 #[.pointer (some ⟨p, 0, none⟩), .int .u64 most] h = some (.int .u64 (numP r most).1, h') ∧ HMod (Just p) h h' ∧ Rdr h' p (numP r most).2 := by
  rw [call31, c31_0_eq]
  have w0 := w
  obtain ⟨a, c, hc, ha, hne⟩ := w
  obtain ⟨bs, hbs⟩ : ∃ bs, rbs r = bs := ⟨_, rfl⟩
  rw [hbs] at hl hc ha hne
  have hg := spec_Get (Am.nm h) _ bs ha.nm.row hl
  have h64 := getL_lt bs
  have hle := getL_len bs
  simp -implicitDefEqProofs only [faR0, faR1, ldB, hc.nm.load, List.getElem?_cons_zero, hg, bin_add, bin_sub, bin_mul, bin_lss, bin_leq, bin_gtr, bin_geq, bin_eql, bin_neq, un_not, un_neg, Option.bind_some, Option.bind_none, Option.map_some, cnd_true, cnd_false, pickV_true, pickV_false, gd_true, gd_false, gdV_true, gdV_false, gdH_true, gdH_false, gdS_true, gdS_false, wt_ff, wt_tt, wt_ft, wt_tf, wt_undef, obH_some', extractV_tuple, nilCheckV_ptr, againK_normal, againK_exit, againK_ret, blockK_normal, blockK_same, blockK_ret, seqK_normal, seqK_exit, seqK_ret, fin_done, if_true', if_false', Bool.not_true, Bool.not_false, idx0, idx1, idx2, idx3, idx4, chk_nil_l, chk_nil_r, done_nm]
  by_cases hbad : (getL bs).2 = 0 ∨ most < (getL bs).1
  · obtain ⟨h2, e2, x2, w2⟩ := spec_spoil w0.nm true
    have hp : numP r most = (0, none) := by
      cases r with
      | none => rfl
      | some bs' => have : bs' = bs := hbs
                    subst this
                    simp only [numP]; exact if_pos hbad
    rw [hp]
    by_cases h1 : (getL bs).2 = 0
    · simp -implicitDefEqProofs only [h1, Int.natCast_zero, decide_true, e2, Bool.true_or, bin_add, bin_sub, bin_mul, bin_lss, bin_leq, bin_gtr, bin_geq, bin_eql, bin_neq, un_not, un_neg, Option.bind_some, Option.bind_none, Option.map_some, cnd_true, cnd_false, pickV_true, pickV_false, gd_true, gd_false, gdV_true, gdV_false, gdH_true, gdH_false, gdS_true, gdS_false, wt_ff, wt_tt, wt_ft, wt_tf, wt_undef, obH_some', extractV_tuple, nilCheckV_ptr, againK_normal, againK_exit, againK_ret, blockK_normal, blockK_same, blockK_ret, seqK_normal, seqK_exit, seqK_ret, fin_done, if_true', if_false', Bool.not_true, Bool.not_false, idx0, idx1, idx2, idx3, idx4, chk_nil_l, chk_nil_r, done_nm]
      rw [ret31, fin_done]
      exact ⟨_, rfl, done_mod (x2.inn (by simp) fun _ _ h => h), w2.done⟩
    · have h3 : most < (getL bs).1 := by omega
      simp -implicitDefEqProofs (disch := omega) only [dcF, dcT, e2, Bool.true_or, bin_add, bin_sub, bin_mul, bin_lss, bin_leq, bin_gtr, bin_geq, bin_eql, bin_neq, un_not, un_neg, Option.bind_some, Option.bind_none, Option.map_some, cnd_true, cnd_false, pickV_true, pickV_false, gd_true, gd_false, gdV_true, gdV_false, gdH_true, gdH_false, gdS_true, gdS_false, wt_ff, wt_tt, wt_ft, wt_tf, wt_undef, obH_some', extractV_tuple, nilCheckV_ptr, againK_normal, againK_exit, againK_ret, blockK_normal, blockK_same, blockK_ret, seqK_normal, seqK_exit, seqK_ret, fin_done, if_true', if_false', Bool.not_true, Bool.not_false, idx0, idx1, idx2, idx3, idx4, chk_nil_l, chk_nil_r, done_nm]
      rw [ret31, fin_done]
      exact ⟨_, rfl, done_mod (x2.inn (by simp) fun _ _ h => h), w2.done⟩
  · obtain rfl : r = some bs := by
      cases r with
      | none => have : [] = bs := hbs
                subst this
                exact absurd (.inl rfl) hbad
      | some bs' => have : bs' = bs := hbs
                    rw [this]
    have hp : numP (some bs) most = ((getL bs).1, some (bs.drop (getL bs).2)) := by simp only [numP]; exact if_neg hbad
    rw [hp]
    obtain ⟨h2, e2, x2, w2⟩ := spec_spoil w0.nm false
    obtain ⟨a2, c2, hc2, ha2, hne2⟩ := w2
    simp only [Bool.false_eq_true, if_false, rbs, Option.getD_some] at hc2 ha2 hne2
    obtain ⟨v3, e3, s3, b3⟩ := ha2.sub etB.under etB.size (i := (getL bs).2) (j := bs.length) (lo := some (.int .i64 ((getL bs).2 : Nat))) (hi := none) hle (Nat.le_refl _) (natOf_int .i64 _) rfl
    obtain ⟨a4, c4, rfl⟩ := s3.shape
    have s4 : SB h2 (.slice a4 (bs.drop (getL bs).2).length c4) (bs.drop (getL bs).2) := by
      have el : (bs.drop (getL bs).2).length = bs.length - (getL bs).2 := by simp
      unfold SB
      rw [el]
      rw [Nat.mul_one, Nat.mul_one, ← List.map_drop, List.take_of_length_le (by simp)] at s3
      exact s3
    have el : bs.length - (getL bs).2 = (bs.drop (getL bs).2).length := by simp
    rw [el] at e3 b3
    simp -implicitDefEqProofs (disch := omega) only [dcF, dcT, e2, Bool.false_or, Option.isNone_some, faR0, ldB, hc2.load, List.getElem?_cons_zero, e3, stB, storeN_blk hc2 (o := 0) (vs := [.slice a4 (bs.drop (getL bs).2).length c4]) (by simp), bin_add, bin_sub, bin_mul, bin_lss, bin_leq, bin_gtr, bin_geq, bin_eql, bin_neq, un_not, un_neg, Option.bind_some, Option.bind_none, Option.map_some, cnd_true, cnd_false, pickV_true, pickV_false, gd_true, gd_false, gdV_true, gdV_false, gdH_true, gdH_false, gdS_true, gdS_false, wt_ff, wt_tt, wt_ft, wt_tf, wt_undef, obH_some', extractV_tuple, nilCheckV_ptr, againK_normal, againK_exit, againK_ret, blockK_normal, blockK_same, blockK_ret, seqK_normal, seqK_exit, seqK_ret, fin_done, if_true', if_false', Bool.not_true, Bool.not_false, idx0, idx1, idx2, idx3, idx4, chk_nil_l, chk_nil_r, done_nm]
    rw [ret31, fin_done]
    refine ⟨_, rfl, done_mod ((x2.inn (by simp) fun _ _ h => h).trans (In.put (by have := x2.len; simpa using this) (.inr (show Just p p from rfl)) _)), ?_⟩
    exact (Rdr.put (r := some (bs.drop (getL bs).2)) hc2 s4 (hne2.to b3)).done
theorem spec_take {h : Heap} {p : Nat} {r : Option (List UInt8)} (w : Rdr h p r) (n : Nat) (hn : n < 2 ^ 64) (hl : (rbs r).length < 2 ^ 40) (hr : r = none → n = 0) :
    ∃ a c h', evC Try.prog 49 #[.pointer (some ⟨p, 0, none⟩), .int .u64 n] h = some (.slice a (takeP r n).1.length c, h') ∧ HMod (Just p) h h' ∧ Rdr h' p (takeP r n).2 ∧ SB h' (.slice a (takeP r n).1.length c) (takeP r n).1 := by
  rw [call49, c49_0_eq]
  have w0 := w
  obtain ⟨a, c, hc, ha, hne⟩ := w
  obtain ⟨bs, hbs⟩ : ∃ bs, rbs r = bs := ⟨_, rfl⟩
  rw [hbs] at hl hc ha hne
  simp -implicitDefEqProofs (disch := omega) only [faR0, ldB, hc.nm.load, List.getElem?_cons_zero, ha.nm.row.len_eq etB.under, cvI64, bin_add, bin_sub, bin_mul, bin_lss, bin_leq, bin_gtr, bin_geq, bin_eql, bin_neq, un_not, un_neg, Option.bind_some, Option.bind_none, Option.map_some, cnd_true, cnd_false, pickV_true, pickV_false, gd_true, gd_false, gdV_true, gdV_false, gdH_true, gdH_false, gdS_true, gdS_false, wt_ff, wt_tt, wt_ft, wt_tf, wt_undef, obH_some', extractV_tuple, nilCheckV_ptr, againK_normal, againK_exit, againK_ret, blockK_normal, blockK_same, blockK_ret, seqK_normal, seqK_exit, seqK_ret, fin_done, if_true', if_false', Bool.not_true, Bool.not_false, idx0, idx1, idx2, idx3, idx4, chk_nil_l, chk_nil_r, done_nm]
  by_cases hbad : bs.length < n
  · obtain ⟨h2, e2, x2, w2⟩ := spec_spoil w0.nm true
    have hp : takeP r n = ([], none) := by
      cases r with
      | none => rfl
      | some bs' => have : bs' = bs := hbs
                    subst this
                    simp only [takeP]; exact if_pos hbad
    rw [hp]
    simp -implicitDefEqProofs (disch := omega) only [dcT, dcF, e2, Bool.true_or, bin_add, bin_sub, bin_mul, bin_lss, bin_leq, bin_gtr, bin_geq, bin_eql, bin_neq, un_not, un_neg, Option.bind_some, Option.bind_none, Option.map_some, cnd_true, cnd_false, pickV_true, pickV_false, gd_true, gd_false, gdV_true, gdV_false, gdH_true, gdH_false, gdS_true, gdS_false, wt_ff, wt_tt, wt_ft, wt_tf, wt_undef, obH_some', extractV_tuple, nilCheckV_ptr, againK_normal, againK_exit, againK_ret, blockK_normal, blockK_same, blockK_ret, seqK_normal, seqK_exit, seqK_ret, fin_done, if_true', if_false', Bool.not_true, Bool.not_false, idx0, idx1, idx2, idx3, idx4, chk_nil_l, chk_nil_r, done_nm]
    rw [ret49, fin_done]
    exact ⟨none, 0, _, rfl, done_mod (x2.inn (by simp) fun _ _ h => h), w2.done, .nil⟩
  · cases r with
    | none =>
      obtain rfl := hr rfl
      obtain ⟨h2, e2, x2, w2⟩ := spec_spoil w0.nm false
      simp -implicitDefEqProofs (disch := omega) only [dcT, dcF, e2, Bool.false_or, Option.isNone_none, bin_add, bin_sub, bin_mul, bin_lss, bin_leq, bin_gtr, bin_geq, bin_eql, bin_neq, un_not, un_neg, Option.bind_some, Option.bind_none, Option.map_some, cnd_true, cnd_false, pickV_true, pickV_false, gd_true, gd_false, gdV_true, gdV_false, gdH_true, gdH_false, gdS_true, gdS_false, wt_ff, wt_tt, wt_ft, wt_tf, wt_undef, obH_some', extractV_tuple, nilCheckV_ptr, againK_normal, againK_exit, againK_ret, blockK_normal, blockK_same, blockK_ret, seqK_normal, seqK_exit, seqK_ret, fin_done, if_true', if_false', Bool.not_true, Bool.not_false, idx0, idx1, idx2, idx3, idx4, chk_nil_l, chk_nil_r, done_nm]
      rw [ret49, fin_done]
      exact ⟨none, 0, _, rfl, done_mod (x2.inn (by simp) fun _ _ h => h), w2.done, .nil⟩
    | some bs' =>
      obtain rfl : bs' = bs := hbs
      have hp : takeP (some bs') n = (bs'.take n, some (bs'.drop n)) := by simp only [takeP]; exact if_neg hbad
      rw [hp]
      obtain ⟨h2, e2, x2, w2⟩ := spec_spoil w0.nm false
      obtain ⟨a2, c2, hc2, ha2, hne2⟩ := w2
      simp only [Bool.false_eq_true, if_false, rbs, Option.getD_some] at hc2 ha2 hne2
      obtain ⟨a3, c3, e3, s3, b3⟩ := sl_take ha2 (i := n) (by omega) .u64
      obtain ⟨a4, c4, e4, s4, b4⟩ := sl_drop ha2 (i := n) (by omega) .u64
      simp -implicitDefEqProofs (disch := omega) only [dcF, dcT, e2, Bool.false_or, Option.isNone_some, faR0, ldB, hc2.load, List.getElem?_cons_zero, e3, e4, stB, storeN_blk hc2 (o := 0) (vs := [.slice a4 (bs'.drop n).length c4]) (by simp), bin_add, bin_sub, bin_mul, bin_lss, bin_leq, bin_gtr, bin_geq, bin_eql, bin_neq, un_not, un_neg, Option.bind_some, Option.bind_none, Option.map_some, cnd_true, cnd_false, pickV_true, pickV_false, gd_true, gd_false, gdV_true, gdV_false, gdH_true, gdH_false, gdS_true, gdS_false, wt_ff, wt_tt, wt_ft, wt_tf, wt_undef, obH_some', extractV_tuple, nilCheckV_ptr, againK_normal, againK_exit, againK_ret, blockK_normal, blockK_same, blockK_ret, seqK_normal, seqK_exit, seqK_ret, fin_done, if_true', if_false', Bool.not_true, Bool.not_false, idx0, idx1, idx2, idx3, idx4, chk_nil_l, chk_nil_r, done_nm]
      rw [ret49, fin_done]
      refine ⟨a3, c3, _, rfl, done_mod ((x2.inn (by simp) fun _ _ h => h).trans (In.put (by have := x2.len; simpa using this) (.inr (show Just p p from rfl)) _)), ?_, (s3.keepPut (hne2.to b3).ne _).done⟩
      exact (Rdr.put (r := some (bs'.drop n)) hc2 s4 (hne2.to b4)).done
theorem numP_le (r : Option (List UInt8)) (most : Nat) : (numP r most).1 ≤ most ∧ (numP r most).1 < 2 ^ 64 ∧ (rbs (numP r most).2).length ≤ (rbs r).length ∧ ((numP r most).2 = none → (numP r most).1 = 0) := by
  cases r with
  | none => simp [numP]
  | some bs =>
    simp only [numP]
    split
    · simp [rbs]
    · rename_i h
      have := getL_lt bs
      refine ⟨by omega, by omega, by simp [rbs], by simp⟩
theorem takeP_le (r : Option (List UInt8)) (n : Nat) : (takeP r n).1.length ≤ (rbs r).length ∧ (rbs (takeP r n).2).length ≤ (rbs r).length := by
  cases r with
  | none => simp [takeP]
  | some bs =>
    simp only [takeP]
    split
    · simp [rbs]
    · simp [rbs]; omega
theorem spec_RBytes {h : Heap} {p : Nat} {r : Option (List UInt8)} (w : Rdr h p r) (most : Int) (hm : most < 2 ^ 63) (hl : (rbs r).length < 2 ^ 40) :
    ∃ a c h', evC Try.prog 41 #[.pointer (some ⟨p, 0, none⟩), .int .i64 most] h = some (.slice a (bytesP r most.toNat).1.length c, h') ∧ HMod (Just p) h h' ∧ Rdr h' p (bytesP r most.toNat).2 ∧ AB h.blks.length h' (.slice a (bytesP r most.toNat).1.length c) (bytesP r most.toNat).1 := by
  rw [call41, c41_0_eq]
  have hmx : max most 0 = ((most.toNat : Nat) : Int) := by omega
  obtain ⟨h2, e2, x2, w2⟩ := spec_RNum w.nm most.toNat (by omega) hl
  obtain ⟨_, n64, nl, nn⟩ := numP_le r most.toNat
  obtain ⟨a3, c3, h3, e3, x3, w3, s3⟩ := spec_take w2 (numP r most.toNat).1 n64 (by omega) nn
  obtain ⟨t1, t2⟩ := takeP_le (numP r most.toNat).2 (numP r most.toNat).1
  obtain ⟨a4, c4, h4, e4, x4, s4⟩ := spec_Clone h3 _ _ s3 (by omega)
  simp -implicitDefEqProofs (disch := omega) only [maxI, hmx, cvI64, e2, e3, e4, bin_add, bin_sub, bin_mul, bin_lss, bin_leq, bin_gtr, bin_geq, bin_eql, bin_neq, un_not, un_neg, Option.bind_some, Option.bind_none, Option.map_some, cnd_true, cnd_false, pickV_true, pickV_false, gd_true, gd_false, gdV_true, gdV_false, gdH_true, gdH_false, gdS_true, gdS_false, wt_ff, wt_tt, wt_ft, wt_tf, wt_undef, obH_some', extractV_tuple, nilCheckV_ptr, againK_normal, againK_exit, againK_ret, blockK_normal, blockK_same, blockK_ret, seqK_normal, seqK_exit, seqK_ret, fin_done, if_true', if_false', Bool.not_true, Bool.not_false, idx0, idx1, idx2, idx3, idx4, chk_nil_l, chk_nil_r, done_nm]
  rw [ret41, fin_done]
  have l2 := x2.len
  have l3 := x3.len
  simp only [nm_blks] at l2
  exact ⟨a4, c4, _, rfl, done_mod (((x2.inn (by simp) fun _ _ h => h).trans (x3.inn l2 fun _ _ h => h)).trans (x4.inn (by omega))), (w3.ext x4).done, (s4.up (by omega)).done⟩
theorem spec_REnd {h : Heap} {p : Nat} {r : Option (List UInt8)} (w : Rdr h p r) :
    evC Try.prog 32 #[.pointer (some ⟨p, 0, none⟩)] h = some (.bool (endP r), h) := by
  rw [call32, c32_0_eq]
  obtain ⟨a, c, hc, ha, hne⟩ := w
  cases r with
  | none =>
    simp -implicitDefEqProofs only [faR0, faR1, ldB, ldBool, hc.nm.load, List.getElem?_cons_zero, List.getElem?_cons_succ, Option.isNone_none, bin_add, bin_sub, bin_mul, bin_lss, bin_leq, bin_gtr, bin_geq, bin_eql, bin_neq, un_not, un_neg, Option.bind_some, Option.bind_none, Option.map_some, cnd_true, cnd_false, pickV_true, pickV_false, gd_true, gd_false, gdV_true, gdV_false, gdH_true, gdH_false, gdS_true, gdS_false, wt_ff, wt_tt, wt_ft, wt_tf, wt_undef, obH_some', extractV_tuple, nilCheckV_ptr, againK_normal, againK_exit, againK_ret, blockK_normal, blockK_same, blockK_ret, seqK_normal, seqK_exit, seqK_ret, fin_done, if_true', if_false', Bool.not_true, Bool.not_false, idx0, idx1, idx2, idx3, idx4, chk_nil_l, chk_nil_r, done_nm]
    rw [ret32, fin_done]
    rfl
  | some bs =>
    simp -implicitDefEqProofs only [faR0, faR1, ldB, ldBool, hc.nm.load, List.getElem?_cons_zero, List.getElem?_cons_succ, Option.isNone_some, ha.nm.row.len_eq etB.under, bin_add, bin_sub, bin_mul, bin_lss, bin_leq, bin_gtr, bin_geq, bin_eql, bin_neq, un_not, un_neg, Option.bind_some, Option.bind_none, Option.map_some, cnd_true, cnd_false, pickV_true, pickV_false, gd_true, gd_false, gdV_true, gdV_false, gdH_true, gdH_false, gdS_true, gdS_false, wt_ff, wt_tt, wt_ft, wt_tf, wt_undef, obH_some', extractV_tuple, nilCheckV_ptr, againK_normal, againK_exit, againK_ret, blockK_normal, blockK_same, blockK_ret, seqK_normal, seqK_exit, seqK_ret, fin_done, if_true', if_false', Bool.not_true, Bool.not_false, idx0, idx1, idx2, idx3, idx4, chk_nil_l, chk_nil_r, done_nm]
    rw [ret32, fin_done]
    cases bs with
    | nil => rfl
    | cons b bs => 
      have : decide (((rbs (some (b :: bs))).length : Int) = 0) = false := decide_eq_false (by simp [rbs]; omega)
      rw [this]; rfl
end Go.Am
namespace Go.Am
open Go.Proofs
theorem put300 : putL 300 = [172, 2] := by rw [putL, if_neg (by omega), putL, if_pos (by omega)]; rfl
theorem size300 : sizeN 300 = 2 := by rw [sizeN, if_neg (by omega), sizeN, if_pos (by omega)]
theorem get300 : getL [172, 2] = (300, 2) := by
  unfold getL
  rw [getLoop, if_neg (by omega)]
  simp only []
  rw [if_neg (by decide), getLoop, if_neg (by omega)]
  simp only []
  rw [if_pos (by decide)]
  have e : (0 ||| (172 : UInt8).toNat % 128 * 2 ^ (7 * 0) % 2 ^ 64) ||| (2 : UInt8).toNat % 128 * 2 ^ (7 * (0 + 1)) % 2 ^ 64 = 300 := by decide
  rw [e, size300]
  rfl
theorem spec_awake3 (h : Heap) : ∃ h', evC Try.prog 18 #[] h = some (.bool true, h') ∧ HExt h h' := by
  rw [call18, c18_0_eq]
  obtain ⟨v, h1, e1, e2, e3⟩ := spec_Put 300 (by omega) (nm h) (.slice none 0 0) 0 [] .nil (by omega) rfl
  have e3' : Acc (nm h).blks.length h1 5 1 v 2 ([172, 2].map byteV) := by
    have := e3; rw [put300, size300] at this; exact this
  have r := e3'.row
  rw [show (Go.Value.int Go.IntKind.u64 300) = .int .u64 ((300 : Nat) : Int) from rfl, e1]
  simp only [obH_some']
  rw [spec_Get h1 v [172, 2] r (by decide), get300]
  simp only [obH_some', extractV_tuple]
  obtain ⟨a0, i0, l0, _⟩ := r.at1 (P := Try.prog) etB.under etB.size (by kernel_rfl) (i := 0) (by omega) .i64
  obtain ⟨a1, i1, l1, _⟩ := r.at1 (P := Try.prog) etB.under etB.size (by kernel_rfl) (i := 1) (by omega) .i64
  have x0 : (#[Value.int .u64 ((300 : Nat) : Int), Value.int .i64 ((2 : Nat) : Int)] : Array Value)[0]? = some (Value.int .u64 300) := rfl
  have x1 : (#[Value.int .u64 ((300 : Nat) : Int), Value.int .i64 ((2 : Nat) : Int)] : Array Value)[1]? = some (Value.int .i64 2) := rfl
  rw [x0, Option.bind_some, x1, Option.bind_some, r.len_eq etB.under, Option.bind_some, bin_eql, Option.bind_some]
  rw [show decide (((2 : Nat) : Int) = 2) = true from rfl]
  simp only [wt_tt]
  simp only [gd_true, gdV_true]
  rw [show (Value.int .i64 0) = Value.int .i64 ((0 : Nat) : Int) from rfl, i0, Option.bind_some, l0, show ([172, 2].map byteV)[0]? = some (Value.int .u8 172) from rfl, Option.bind_some, bin_eql, Option.bind_some,
    show decide ((172 : Int) = 172) = true from rfl, pickV_true, Option.bind_some]
  simp only [wt_tt]
  simp only [gd_true, gdV_true]
  rw [show (Value.int .i64 1) = Value.int .i64 ((1 : Nat) : Int) from rfl, i1, Option.bind_some, l1, show ([172, 2].map byteV)[1]? = some (Value.int .u8 2) from rfl, Option.bind_some, bin_eql, Option.bind_some,
    show decide ((2 : Int) = 2) = true from rfl, pickV_true, Option.bind_some]
  simp only [wt_tt]
  simp only [gd_true, gdV_true]
  rw [bin_eql, Option.bind_some, show decide ((300 : Int) = ((300 : Nat) : Int)) = true from rfl, pickV_true, Option.bind_some]
  simp only [wt_tt]
  simp only [gd_true, gdV_true]
  rw [bin_eql, Option.bind_some, show decide ((2 : Int) = 2) = true from rfl, pickV_true, Option.bind_some]
  simp only [wt_tt]
  simp only [gdH_true, gd_true, gdV_true]
  rw [spec_Size 300 (by omega), obH_some', size300, bin_eql, Option.bind_some, show decide (((2 : Nat) : Int) = 2) = true from rfl, pickV_true, Option.bind_some, ret18, fin_done]
  exact ⟨_, rfl, done_ext (e2.keeps (Nat.le_refl _))⟩
end Go.Am
namespace Go.Am
open Go.Proofs
theorem sizeN_pos (n : Nat) : 1 ≤ sizeN n := by rw [sizeN]; split <;> omega
theorem sizeN_up (n : Nat) (h : 0 < n) : sizeN (n * 128 + 5) = sizeN n + 1 := by
  rw [sizeN, if_neg (by omega), show (n * 128 + 5) / 128 = n by omega]
theorem sizeN_ge (n : Nat) : ∀ k, 2 ^ (7 * k) ≤ n → k + 1 ≤ sizeN n := by
  induction n using Nat.strongRecOn with
  | _ n ih =>
    intro k hk
    cases k with
    | zero => have := sizeN_pos n; omega
    | succ k =>
      have e : 2 ^ (7 * (k + 1)) = 2 ^ (7 * k) * 128 := by rw [Nat.mul_add, Nat.pow_add]
      have hp : 0 < 2 ^ (7 * k) := Nat.two_pow_pos _
      rw [sizeN, if_neg (by omega)]
      have := ih (n / 128) (by omega) k (by rw [Nat.le_div_iff_mul_le (by omega)]; omega)
      omega
theorem mlaw_LebSizes (n : Nat) (hn : n < 2 ^ 64) (h : Heap) : ∃ h', evC Try.prog 4 #[.int .u64 n] h = some (.bool true, h') := by
  rw [call4, c4_0_eq]
  obtain ⟨h1, e1, e2⟩ := spec_awake3 (nm h)
  have hs1 := sizeN_pos n
  have hs10 := sizeN_le n 10 (by omega) (by omega)
  rw [e1, obH_some', un_not, Option.bind_some]
  simp only [Bool.not_true, cnd_false]
  rw [spec_Size n hn, obH_some', bin_lss, Option.bind_some, decide_eq_false (show ¬ ((sizeN n : Nat) : Int) < 1 by omega)]
  simp only [wt_ff]
  simp only [gd_true, gdV_true]
  rw [bin_gtr, Option.bind_some, decide_eq_false (show ¬ ((sizeN n : Nat) : Int) > 10 by omega), pickV_false, Option.bind_some]
  simp only [wt_ff]
  simp only [gd_true, gdV_true, gdH_true]
  obtain ⟨v, h2, f1, f2, f3⟩ := spec_Put n hn h1 (.slice none 0 0) 0 [] .nil (by omega) rfl
  rw [f1, obH_some', f3.row.len_eq etB.under, Option.bind_some, bin_neq, Option.bind_some, decide_eq_false (show ¬ (((0 + sizeN n : Nat) : Int) ≠ ((sizeN n : Nat) : Int)) by omega), pickV_false, Option.bind_some]
  rw [cnd_false, bin_geq, Option.bind_some, cnd_dec]
  by_cases hb : 2 ^ 57 ≤ n
  · rw [if_pos (show (n : Int) ≥ 144115188075855872 by omega), bin_geq, Option.bind_some, ret4, fin_done]
    have := sizeN_ge n 8 (by omega)
    rw [decide_eq_true (show ((sizeN n : Nat) : Int) ≥ 9 by omega)]
    exact ⟨_, rfl⟩
  · rw [if_neg (show ¬ (n : Int) ≥ 144115188075855872 by omega)]
    rw [bin_shl _ _ _ _ _ _ _ (show (0 : Int) ≤ 7 by omega), Option.bind_some]
    have s1 : IntKind.wrap .u64 ((n : Int) * 2 ^ min (7 : Int).toNat IntKind.u64.bits) = ((n * 128 : Nat) : Int) := by
      show IntKind.wrap .u64 ((n : Int) * 128) = _
      rw [wrap_u64] <;> omega
    have s2 : n * 128 ||| 5 = n * 128 + 5 := by
      have := Nat.two_pow_add_eq_or_of_lt (i := 7) (b := 5) (by omega) n
      rw [show n * 128 = 2 ^ 7 * n by omega]; exact this.symm
    rw [s1, show Value.int .u64 5 = .int .u64 ((5 : Nat) : Int) from rfl, or64 _ _ _ _ _ _ (by omega) (by omega), s2, Option.bind_some, spec_Size _ (by omega), obH_some', bin_add, Option.bind_some, bin_eql, Option.bind_some]
    have s3 : IntKind.wrap .i64 (((sizeN n : Nat) : Int) + 1) = ((sizeN n + 1 : Nat) : Int) := by rw [wrap_i64] <;> omega
    rw [s3]
    by_cases h0 : n = 0
    · subst h0
      by_cases hq : ((sizeN (0 * 128 + 5) : Nat) : Int) = ((sizeN 0 + 1 : Nat) : Int)
      · rw [decide_eq_true hq]
        simp only [wt_tf]
        simp only [gd_false, gdV_false]
        rw [Option.bind_some, pickV_true, Option.bind_some, ret4, fin_done]
        exact ⟨_, rfl⟩
      · rw [decide_eq_false hq]
        simp only [wt_ff]
        simp only [gd_true, gdV_true]
        rw [bin_eql, Option.bind_some, pickV_false, Option.bind_some, ret4, fin_done]
        exact ⟨_, rfl⟩
    · rw [sizeN_up n (by omega), decide_eq_true rfl]
      simp only [wt_tf]
      simp only [gd_false, gdV_false]
      rw [Option.bind_some, pickV_true, Option.bind_some, ret4, fin_done]
      exact ⟨_, rfl⟩
theorem law_LebSizes (h : Heap) (vs : List Value) (dd : List DT) (r : RdAll Try.prog h [22] vs dd) : ∃ h', evC Try.prog 4 vs.toArray h = some (.bool true, h') := by
  obtain ⟨v, d, vs', ds', rfl, rfl, r0, r1⟩ := r.cons_inv
  obtain ⟨rfl, rfl⟩ := r1.nil_inv
  obtain ⟨n, rfl, hn⟩ := r0.u64 (by kernel_rfl)
  exact mlaw_LebSizes n hn h
end Go.Am
namespace Go.Am
open Go.Proofs
theorem bin_quo64 (P : Program) (t : TypeId) (xo yo : Operand) (a b : Int) (ha : 0 ≤ a) (ha' : a < 2 ^ 64) (hb : 0 < b) : binV P .quo t xo yo (.int .u64 a) (.int .u64 b) = some (.int .u64 ((a.toNat / b.toNat : Nat) : Int)) := by
  refine bin_int t xo yo .u64 .u64 a b .quo rfl ?_
  have h1 : ¬ (b = 0) := by omega
  have e : ((a.toNat / b.toNat : Nat) : Int) = a.tdiv b := by
    rw [Int.tdiv_eq_ediv_of_nonneg ha]
    push_cast
    rw [Int.toNat_of_nonneg ha, Int.toNat_of_nonneg (by omega)]
  have hlt : ((a.toNat / b.toNat : Nat) : Int) < 2 ^ 64 := by
    have := Nat.div_le_self a.toNat b.toNat
    omega
  simp only [eqGuard, Go.binOp, Op.intDiv]
  rw [if_neg h1, ← e, wrap_u64 (Int.natCast_nonneg _) hlt]
  rfl
theorem bin_rem64 (P : Program) (t : TypeId) (xo yo : Operand) (a b : Int) (ha : 0 ≤ a) (hb : 0 < b) : binV P .rem t xo yo (.int .u64 a) (.int .u64 b) = some (.int .u64 ((a.toNat % b.toNat : Nat) : Int)) := by
  refine bin_int t xo yo .u64 .u64 a b .rem rfl ?_
  have h1 : ¬ (b = 0) := by omega
  have e : ((a.toNat % b.toNat : Nat) : Int) = a.tmod b := by
    rw [Int.tmod_eq_emod_of_nonneg ha]
    push_cast
    rw [Int.toNat_of_nonneg ha, Int.toNat_of_nonneg (by omega)]
  simp only [eqGuard, Go.binOp, Op.intDiv]
  rw [if_neg h1, ← e]
  rfl
theorem add128 (t : TypeId) (xo yo : Operand) (n : Nat) : binV Try.prog .add t xo yo (byteV (UInt8.ofNat (n % 128))) (.int .u8 128) = some (byteV (UInt8.ofNat (n % 128 + 128))) := by
  unfold byteV
  rw [bin_add]
  have e1 : (UInt8.ofNat (n % 128)).toNat = n % 128 := by simp; omega
  have e2 : (UInt8.ofNat (n % 128 + 128)).toNat = n % 128 + 128 := by simp; omega
  rw [e1, e2]
  have : IntKind.wrap .u8 (((n % 128 : Nat) : Int) + 128) = ((n % 128 + 128 : Nat) : Int) := by rw [wrap_u8 (by omega) (by omega)]; omega
  rw [this]
theorem rput_loop (h0 : Heap) (n : Nat) : ∀ (h : Heap) (v : Value) (bs : List UInt8) (x2 x3 x4 x5 x6 x7 x8 x9 x10 x11 x12 x13 x14 x15 x16 x17 x18 x19 x20 x21 x22 x23 : Value), n < 2 ^ 64 → bs.length + sizeN n < 2 ^ 40 → In h0.blks.length No (nm h0) h → AB h0.blks.length h v bs →
    ∃ a c h', loopK Try.prog (evC Try.prog) c23_1 ⟨#[v, .int .u64 n, x2, x3, x4, x5, x6, x7, x8, x9, x10, x11, x12, x13, x14, x15, x16, x17, x18, x19, x20, x21, x22, x23], h⟩ (blockK 0 (seqK Try.prog (evC Try.prog) c23_2 (retK Try.f23 Try.prog h0))) =
      some (.slice a (bs ++ putL n).length c, h') ∧ HExt h0 h' ∧ AB h0.blks.length h' (.slice a (bs ++ putL n).length c) (bs ++ putL n) := by
  induction n using Nat.strongRecOn with
  | _ n ih =>
    intro h v bs x2 x3 x4 x5 x6 x7 x8 x9 x10 x11 x12 x13 x14 x15 x16 x17 x18 x19 x20 x21 x22 x23 hn hk hin ha
    rw [loopK_eq evC_m, c23_1_eq]
    have hle : h0.blks.length ≤ h.blks.length := hin.len
    by_cases hge : 128 ≤ n
    · have f3 : sizeN n = sizeN (n / 128) + 1 := by rw [sizeN, if_neg (by omega)]
      obtain ⟨a, c, h', e1, e2, e3, _⟩ := app_b hle ha (UInt8.ofNat (n % 128 + 128)) (by omega)
      simp -implicitDefEqProofs (disch := omega) only [dcT, dcF, bin_rem64, bin_quo64, Int.toNat_natCast, Int.reduceToNat, cvB8, add128, mkBb, e1, bin_add, bin_sub, bin_mul, bin_lss, bin_leq, bin_gtr, bin_geq, bin_eql, bin_neq, un_not, un_neg, Option.bind_some, Option.bind_none, Option.map_some, cnd_true, cnd_false, pickV_true, pickV_false, gd_true, gd_false, gdV_true, gdV_false, gdH_true, gdH_false, gdS_true, gdS_false, wt_ff, wt_tt, wt_ft, wt_tf, wt_undef, obH_some', extractV_tuple, nilCheckV_ptr, againK_normal, againK_exit, againK_ret, blockK_normal, blockK_same, blockK_ret, seqK_normal, seqK_exit, seqK_ret, fin_done, if_true', if_false', Bool.not_true, Bool.not_false, idx0, idx1, idx2, idx3, idx4, chk_nil_l, chk_nil_r, done_nm]
      obtain ⟨a2, c2, h2, g1, g2, g3⟩ := ih (n / 128) (by omega) h' _ _ _ _ _ _ _ _ _ _ _ _ _ _ _ _ _ _ _ _ _ _ _ _ (by omega) (by simp only [List.length_append, List.length_singleton]; omega) (hin.trans e3.inn) e2
      have e : bs ++ putL n = bs ++ [UInt8.ofNat (n % 128 + 128)] ++ putL (n / 128) := by rw [putL, if_neg (by omega)]; simp
      rw [e]
      exact ⟨a2, c2, h2, g1, g2, g3⟩
    · obtain ⟨a, c, h', e1, e2, e3, _⟩ := app_b hle ha (UInt8.ofNat n) (by omega)
      simp -implicitDefEqProofs (disch := omega) only [dcT, dcF, c23_2_eq, cvB8, mkBb, e1, bin_add, bin_sub, bin_mul, bin_lss, bin_leq, bin_gtr, bin_geq, bin_eql, bin_neq, un_not, un_neg, Option.bind_some, Option.bind_none, Option.map_some, cnd_true, cnd_false, pickV_true, pickV_false, gd_true, gd_false, gdV_true, gdV_false, gdH_true, gdH_false, gdS_true, gdS_false, wt_ff, wt_tt, wt_ft, wt_tf, wt_undef, obH_some', extractV_tuple, nilCheckV_ptr, againK_normal, againK_exit, againK_ret, blockK_normal, blockK_same, blockK_ret, seqK_normal, seqK_exit, seqK_ret, fin_done, if_true', if_false', Bool.not_true, Bool.not_false, idx0, idx1, idx2, idx3, idx4, chk_nil_l, chk_nil_r, done_nm]
      rw [ret23, fin_done]
      have e : putL n = [UInt8.ofNat n] := by rw [putL, if_pos (by omega)]
      rw [e]
      exact ⟨a, c, _, rfl, done_ext' (hin.trans e3.inn), e2.done⟩
theorem spec_refPut (n : Nat) (hn : n < 2 ^ 64) (h : Heap) (b : Value) (bs : List UInt8) (hb : SB h b bs) (hk : bs.length < 2 ^ 39) :
    ∃ a c h', evC Try.prog 23 #[b, .int .u64 n] h = some (.slice a (bs ++ putL n).length c, h') ∧ HExt h h' ∧ AB h.blks.length h' (.slice a (bs ++ putL n).length c) (bs ++ putL n) := by
  rw [call23, c23_0_eq]
  have hs := sizeN_le n 10 (by omega) (by omega)
  obtain ⟨a, c, h', e1, e2, e3, _⟩ := app_bytes (n0 := h.blks.length) (by simp [Heap.new]) (AB.empty h.blks.length (nm h) (by simp)) (hb.nm.keepNew _ _) (by simp; omega)
  rw [List.nil_append] at e1 e2
  simp -implicitDefEqProofs only [mkB0, e1, bin_add, bin_sub, bin_mul, bin_lss, bin_leq, bin_gtr, bin_geq, bin_eql, bin_neq, un_not, un_neg, Option.bind_some, Option.bind_none, Option.map_some, cnd_true, cnd_false, pickV_true, pickV_false, gd_true, gd_false, gdV_true, gdV_false, gdH_true, gdH_false, gdS_true, gdS_false, wt_ff, wt_tt, wt_ft, wt_tf, wt_undef, obH_some', extractV_tuple, nilCheckV_ptr, againK_normal, againK_exit, againK_ret, blockK_normal, blockK_same, blockK_ret, seqK_normal, seqK_exit, seqK_ret, fin_done, if_true', if_false', Bool.not_true, Bool.not_false, idx0, idx1, idx2, idx3, idx4, chk_nil_l, chk_nil_r, done_nm]
  exact rput_loop h n h' _ bs _ _ _ _ _ _ _ _ _ _ _ _ _ _ _ _ _ _ _ _ _ _ hn (by omega) ((In.new (by simp) _ _).trans e3.inn) e2
/-! Get -/
theorem sizeN_add (acc c i : Nat) (hi : i ≤ 9) (ha : acc < 2 ^ (7 * i)) (hc : c < 128) (h0 : 0 < c ∨ i = 0) : sizeN (acc + c * 2 ^ (7 * i)) = i + 1 := by
  have hp : 0 < 2 ^ (7 * i) := Nat.two_pow_pos _
  have e : 2 ^ (7 * (i + 1)) = 128 * 2 ^ (7 * i) := by rw [Nat.mul_add, Nat.pow_add, Nat.mul_comm]
  have h1 : acc + c * 2 ^ (7 * i) < 2 ^ (7 * (i + 1)) := by
    have : c * 2 ^ (7 * i) ≤ 127 * 2 ^ (7 * i) := Nat.mul_le_mul_right _ (by omega)
    omega
  have h2 := sizeN_le _ _ h1 (by omega)
  rcases h0 with h0 | rfl
  · have h3 : 2 ^ (7 * i) ≤ acc + c * 2 ^ (7 * i) := by
      have : 1 * 2 ^ (7 * i) ≤ c * 2 ^ (7 * i) := Nat.mul_le_mul_right _ h0
      omega
    have := sizeN_ge _ _ h3
    omega
  · have := sizeN_pos (acc + c * 2 ^ (7 * 0))
    omega
theorem or_add (acc c i : Nat) (ha : acc < 2 ^ (7 * i)) : acc ||| c * 2 ^ (7 * i) = acc + c * 2 ^ (7 * i) := by
  have := Nat.two_pow_add_eq_or_of_lt ha c
  rw [Nat.mul_comm, Nat.or_comm, ← this, Nat.add_comm]
theorem mod128 (c : UInt8) : c.toNat &&& 127 = c.toNat % 128 := by
  have := Nat.and_two_pow_sub_one_eq_mod c.toNat 7
  simpa using this
/-- a round of Get, as the reference has it -/
theorem getLoop_step (acc i : Nat) (c : UInt8) (l : List UInt8) (hi : i < 10) (ha : acc < 2 ^ (7 * i)) :
    getLoop acc i (c :: l) = if i = 9 ∧ 1 < c.toNat then (0, 0) else if c.toNat < 128 then (if c.toNat = 0 ∧ 0 < i then (0, 0) else (acc + c.toNat % 128 * 2 ^ (7 * i), i + 1)) else getLoop (acc + c.toNat % 128 * 2 ^ (7 * i)) (i + 1) l := by
  have hc := UInt8.toNat_lt c
  by_cases h9 : i = 9 ∧ 1 < c.toNat
  · rw [if_pos h9, getLoop, if_neg (by omega)]
    simp only []
    by_cases h128 : c.toNat < 128
    · rw [if_pos h128, if_pos (.inr ⟨h9.1, h9.2⟩)]
    · rw [if_neg h128]
      cases l with
      | nil => rfl
      | cons d l => rw [getLoop, if_pos (by omega)]
  · rw [if_neg h9, getLoop, if_neg (by omega)]
    simp only []
    have hlt : c.toNat % 128 * 2 ^ (7 * i) < 2 ^ 64 := by
      have h3 : (2 : Nat) ^ (7 * i) ≤ 2 ^ 63 := Nat.pow_le_pow_right (by omega) (by omega)
      by_cases h : i = 9
      · subst h
        have : c.toNat % 128 ≤ 1 := by omega
        have : c.toNat % 128 * 2 ^ (7 * 9) ≤ 1 * 2 ^ (7 * 9) := Nat.mul_le_mul_right _ this
        omega
      · have h3 : (2 : Nat) ^ (7 * i) ≤ 2 ^ 56 := Nat.pow_le_pow_right (by omega) (by omega)
        have : c.toNat % 128 * 2 ^ (7 * i) ≤ 127 * 2 ^ 56 := Nat.mul_le_mul (by omega) h3
        omega
    rw [Nat.mod_eq_of_lt hlt, or_add _ _ _ ha]
    by_cases h128 : c.toNat < 128
    · rw [if_pos h128, if_pos h128]
      by_cases h0 : c.toNat = 0 ∧ 0 < i
      · rw [if_pos h0, if_pos]
        left
        have := sizeN_le acc i (by omega) h0.2
        rw [h0.1]
        simp only [Nat.zero_mod, Nat.zero_mul, Nat.add_zero]
        omega
      · rw [if_neg h0, if_neg]
        rw [Nat.mod_eq_of_lt h128]
        rintro (h | h)
        · exact h (sizeN_add acc c.toNat i (by omega) ha h128 (by omega))
        · exact h9 ⟨h.1, h.2⟩
    · rw [if_neg h128, if_neg h128]
theorem rget_loop (h0 h : Heap) (v : Value) (bs : List UInt8) (hr : SB h v bs) (hb : bs.length < 2 ^ 40) : ∀ (m i n : Nat), bs.length - i = m → i ≤ bs.length → n < 2 ^ (7 * i) → i ≤ 10 →
    ∀ (x1 x6 x7 x8 x9 x10 x11 x12 x13 x14 x15 x16 x17 x18 x19 x20 x21 x22 x23 x24 x25 x26 x27 x28 x29 x30 x31 x32 x33 x34 x35 x36 x37 x38 x39 x40 x41 x42 x43 x44 x45 x46 : Value),
    loopK Try.prog (evC Try.prog) c24_1 ⟨#[v, x1, .int .u64 0, .int .i64 0, .int .u64 n, .int .i64 i, x6, x7, x8, x9, x10, x11, x12, x13, x14, x15, x16, x17, x18, x19, x20, x21, x22, x23, x24, x25, x26, x27, x28, x29, x30, x31, x32, x33, x34, x35, x36, x37, x38, x39, x40, x41, x42, x43, x44, x45, x46], h⟩ (blockK 0 (seqK Try.prog (evC Try.prog) c24_2 (retK Try.f24 Try.prog h0))) =
      some (.tuple #[.int .u64 (getLoop n i (bs.drop i)).1, .int .i64 (getLoop n i (bs.drop i)).2], done h0 h) := by
  intro m
  induction m with
  | zero =>
    intro i n hm hi hn hi10 x1 x6 x7 x8 x9 x10 x11 x12 x13 x14 x15 x16 x17 x18 x19 x20 x21 x22 x23 x24 x25 x26 x27 x28 x29 x30 x31 x32 x33 x34 x35 x36 x37 x38 x39 x40 x41 x42 x43 x44 x45 x46
    rw [loopK_eq evC_m, c24_1_eq]
    simp -implicitDefEqProofs (disch := omega) only [dcT, dcF, hr.row.len_eq etB.under, c24_2_eq, bin_add, bin_sub, bin_mul, bin_lss, bin_leq, bin_gtr, bin_geq, bin_eql, bin_neq, un_not, un_neg, Option.bind_some, Option.bind_none, Option.map_some, cnd_true, cnd_false, pickV_true, pickV_false, gd_true, gd_false, gdV_true, gdV_false, gdH_true, gdH_false, gdS_true, gdS_false, wt_ff, wt_tt, wt_ft, wt_tf, wt_undef, obH_some', extractV_tuple, nilCheckV_ptr, againK_normal, againK_exit, againK_ret, blockK_normal, blockK_same, blockK_ret, seqK_normal, seqK_exit, seqK_ret, fin_done, if_true', if_false', Bool.not_true, Bool.not_false, idx0, idx1, idx2, idx3, idx4, chk_nil_l, chk_nil_r, done_nm]
    rw [ret24, fin_done, List.drop_of_length_le (by omega)]
    rfl
  | succ m ih =>
    intro i n hm hi hn hi10 x1 x6 x7 x8 x9 x10 x11 x12 x13 x14 x15 x16 x17 x18 x19 x20 x21 x22 x23 x24 x25 x26 x27 x28 x29 x30 x31 x32 x33 x34 x35 x36 x37 x38 x39 x40 x41 x42 x43 x44 x45 x46
    have hlt : i < bs.length := by omega
    rw [loopK_eq evC_m, c24_1_eq]
    have ed : bs.drop i = bs[i] :: bs.drop (i + 1) := List.drop_eq_getElem_cons hlt
    by_cases h10 : i = 10
    · simp -implicitDefEqProofs (disch := omega) only [dcT, dcF, hr.row.len_eq etB.under, c24_2_eq, bin_add, bin_sub, bin_mul, bin_lss, bin_leq, bin_gtr, bin_geq, bin_eql, bin_neq, un_not, un_neg, Option.bind_some, Option.bind_none, Option.map_some, cnd_true, cnd_false, pickV_true, pickV_false, gd_true, gd_false, gdV_true, gdV_false, gdH_true, gdH_false, gdS_true, gdS_false, wt_ff, wt_tt, wt_ft, wt_tf, wt_undef, obH_some', extractV_tuple, nilCheckV_ptr, againK_normal, againK_exit, againK_ret, blockK_normal, blockK_same, blockK_ret, seqK_normal, seqK_exit, seqK_ret, fin_done, if_true', if_false', Bool.not_true, Bool.not_false, idx0, idx1, idx2, idx3, idx4, chk_nil_l, chk_nil_r, done_nm]
      rw [ret24, fin_done, ed, getLoop, if_pos h10]
      rfl
    · obtain ⟨a, e1, e2, _⟩ := hr.row.at1 etB.under etB.size (by kernel_rfl) hlt .i64
      have e3 : (bs.map byteV)[i]? = some (.int .u8 (bs[i].toNat)) := by simp [hlt, byteV]
      rw [e3] at e2
      generalize bs[i] = c at *
      have hc := UInt8.toNat_lt c
      rw [ed, getLoop_step n i c _ (by omega) hn]
      have e64 : (2 : Nat) ^ (7 * i) ≤ 2 ^ 63 := Nat.pow_le_pow_right (by omega) (by omega)
      by_cases h9 : i = 9 ∧ 1 < c.toNat
      · rw [if_pos h9]
        simp -implicitDefEqProofs (disch := omega) only [dcT, dcF, hr.row.len_eq etB.under, e1, e2, bin_add, bin_sub, bin_mul, bin_lss, bin_leq, bin_gtr, bin_geq, bin_eql, bin_neq, un_not, un_neg, Option.bind_some, Option.bind_none, Option.map_some, cnd_true, cnd_false, pickV_true, pickV_false, gd_true, gd_false, gdV_true, gdV_false, gdH_true, gdH_false, gdS_true, gdS_false, wt_ff, wt_tt, wt_ft, wt_tf, wt_undef, obH_some', extractV_tuple, nilCheckV_ptr, againK_normal, againK_exit, againK_ret, blockK_normal, blockK_same, blockK_ret, seqK_normal, seqK_exit, seqK_ret, fin_done, if_true', if_false', Bool.not_true, Bool.not_false, idx0, idx1, idx2, idx3, idx4, chk_nil_l, chk_nil_r, done_nm]
        rw [ret24, fin_done]
        rfl
      · rw [if_neg h9]
        have hlt : c.toNat % 128 * 2 ^ (7 * i) < 2 ^ 64 := by
          by_cases h : i = 9
          · subst h
            have : c.toNat % 128 ≤ 1 := by omega
            have : c.toNat % 128 * 2 ^ (7 * 9) ≤ 1 * 2 ^ (7 * 9) := Nat.mul_le_mul_right _ this
            omega
          · have h3 : (2 : Nat) ^ (7 * i) ≤ 2 ^ 56 := Nat.pow_le_pow_right (by omega) (by omega)
            have : c.toNat % 128 * 2 ^ (7 * i) ≤ 127 * 2 ^ 56 := Nat.mul_le_mul (by omega) h3
            omega
        have hw : IntKind.wrap .i64 (7 * (i : Int)) = ((7 * i : Nat) : Int) := by rw [wrap_i64] <;> omega
        have hw1 : IntKind.wrap .i64 ((i : Int) + 1) = ((i + 1 : Nat) : Int) := by rw [wrap_i64] <;> omega
        have cvu : convV Try.prog 3 36 (.int .i64 ((7 * i : Nat) : Int)) h = some (.int .u64 ((7 * i : Nat) : Int), h) := conv_u64 (ks := .i64) (by kernel_rfl) (by kernel_rfl) _ _ _ (by omega) (by omega)
        have cv8 : convV Try.prog 5 22 (.int .u8 ((c.toNat % 128 : Nat) : Int)) h = some (.int .u64 ((c.toNat % 128 : Nat) : Int), h) := conv_u64 (ks := .u8) (by kernel_rfl) (by kernel_rfl) _ _ _ (by omega) (by omega)
        have h8 : ¬ (i = 9 ∧ (c.toNat : Int) > 1) := by omega
        by_cases hi9 : i = 9
        all_goals
          by_cases h128 : c.toNat < 128
          · rw [if_pos h128]
            by_cases h0 : c.toNat = 0 ∧ 0 < i
            · rw [if_pos h0]
              simp -implicitDefEqProofs (disch := omega) only [dcT, dcF, hr.row.len_eq etB.under, e1, e2, bin_and8, Int.toNat_natCast, Int.reduceToNat, mod128, cv8, hw, cvu, bin_shl64, bin_or64, Nat.mod_eq_of_lt hlt, or_add _ _ _ hn, bin_add, bin_sub, bin_mul, bin_lss, bin_leq, bin_gtr, bin_geq, bin_eql, bin_neq, un_not, un_neg, Option.bind_some, Option.bind_none, Option.map_some, cnd_true, cnd_false, pickV_true, pickV_false, gd_true, gd_false, gdV_true, gdV_false, gdH_true, gdH_false, gdS_true, gdS_false, wt_ff, wt_tt, wt_ft, wt_tf, wt_undef, obH_some', extractV_tuple, nilCheckV_ptr, againK_normal, againK_exit, againK_ret, blockK_normal, blockK_same, blockK_ret, seqK_normal, seqK_exit, seqK_ret, fin_done, if_true', if_false', Bool.not_true, Bool.not_false, idx0, idx1, idx2, idx3, idx4, chk_nil_l, chk_nil_r, done_nm]
              rw [ret24, fin_done]
              rfl
            · rw [if_neg h0]
              by_cases h00 : c.toNat = 0
              all_goals
                simp -implicitDefEqProofs (disch := omega) only [dcT, dcF, hr.row.len_eq etB.under, e1, e2, bin_and8, Int.toNat_natCast, Int.reduceToNat, mod128, cv8, hw, cvu, bin_shl64, bin_or64, Nat.mod_eq_of_lt hlt, or_add _ _ _ hn, hw1, bin_add, bin_sub, bin_mul, bin_lss, bin_leq, bin_gtr, bin_geq, bin_eql, bin_neq, un_not, un_neg, Option.bind_some, Option.bind_none, Option.map_some, cnd_true, cnd_false, pickV_true, pickV_false, gd_true, gd_false, gdV_true, gdV_false, gdH_true, gdH_false, gdS_true, gdS_false, wt_ff, wt_tt, wt_ft, wt_tf, wt_undef, obH_some', extractV_tuple, nilCheckV_ptr, againK_normal, againK_exit, againK_ret, blockK_normal, blockK_same, blockK_ret, seqK_normal, seqK_exit, seqK_ret, fin_done, if_true', if_false', Bool.not_true, Bool.not_false, idx0, idx1, idx2, idx3, idx4, chk_nil_l, chk_nil_r, done_nm]
                rw [ret24, fin_done]
                try (exfalso; omega)
          · rw [if_neg h128]
            simp -implicitDefEqProofs (disch := omega) only [dcT, dcF, hr.row.len_eq etB.under, e1, e2, bin_and8, Int.toNat_natCast, Int.reduceToNat, mod128, cv8, hw, cvu, bin_shl64, bin_or64, Nat.mod_eq_of_lt hlt, or_add _ _ _ hn, hw1, bin_add, bin_sub, bin_mul, bin_lss, bin_leq, bin_gtr, bin_geq, bin_eql, bin_neq, un_not, un_neg, Option.bind_some, Option.bind_none, Option.map_some, cnd_true, cnd_false, pickV_true, pickV_false, gd_true, gd_false, gdV_true, gdV_false, gdH_true, gdH_false, gdS_true, gdS_false, wt_ff, wt_tt, wt_ft, wt_tf, wt_undef, obH_some', extractV_tuple, nilCheckV_ptr, againK_normal, againK_exit, againK_ret, blockK_normal, blockK_same, blockK_ret, seqK_normal, seqK_exit, seqK_ret, fin_done, if_true', if_false', Bool.not_true, Bool.not_false, idx0, idx1, idx2, idx3, idx4, chk_nil_l, chk_nil_r, done_nm]
            first
              | (exfalso; omega)
              | (refine ih (i + 1) _ (by omega) (by omega) ?_ (by omega) _ _ _ _ _ _ _ _ _ _ _ _ _ _ _ _ _ _ _ _ _ _ _ _ _ _ _ _ _ _ _ _ _ _ _ _ _ _ _ _ _ _
                 have e : 2 ^ (7 * (i + 1)) = 128 * 2 ^ (7 * i) := by rw [Nat.mul_add, Nat.pow_add, Nat.mul_comm]
                 have : c.toNat % 128 * 2 ^ (7 * i) ≤ 127 * 2 ^ (7 * i) := Nat.mul_le_mul_right _ (by omega)
                 omega)
theorem spec_refGet (h : Heap) (v : Value) (bs : List UInt8) (hr : SB h v bs) (hb : bs.length < 2 ^ 40) :
    evC Try.prog 24 #[v] h = some (.tuple #[.int .u64 (getL bs).1, .int .i64 (getL bs).2], h) := by
  rw [call24, c24_0_eq]
  exact rget_loop h (nm h) v bs hr.nm hb bs.length 0 0 (by omega) (by omega) (by omega) (by omega) _ _ _ _ _ _ _ _ _ _ _ _ _ _ _ _ _ _ _ _ _ _ _ _ _ _ _ _ _ _ _ _ _ _ _ _ _ _ _ _ _ _
end Go.Am
namespace Go.Am
open Go.Proofs
theorem faRW (p : Nat) : fieldAddrV Try.prog 88 (.pointer (some ⟨p, 0, none⟩)) 0 = some (.pointer (some ⟨p, 0, none⟩)) := by kernel_rfl
theorem faRR0 (p : Nat) : fieldAddrV Try.prog 85 (.pointer (some ⟨p, 0, none⟩)) 0 = some (.pointer (some ⟨p, 0, none⟩)) := by kernel_rfl
theorem faRR1 (p : Nat) : fieldAddrV Try.prog 85 (.pointer (some ⟨p, 0, none⟩)) 1 = some (.pointer (some ⟨p, 1, none⟩)) := by kernel_rfl
theorem bdRW : buildV Try.prog 88 #[] = some (.agg #[.slice none 0 0]) := by kernel_rfl
theorem bxRW (x : Value) (h : Heap) : boxV Try.prog 88 (.agg #[x]) h = some (.pointer (some ⟨h.blks.length, 0, none⟩), h.new (.cells [x]) 88) := by kernel_rfl
theorem bdRR (a : Option Addr) (n c : Nat) : buildV Try.prog 85 #[(0, .slice a n c)] = some (.agg #[.slice a n c, .bool false]) := by kernel_rfl
theorem bxRR (x y : Value) (h : Heap) : boxV Try.prog 85 (.agg #[x, y]) h = some (.pointer (some ⟨h.blks.length, 0, none⟩), h.new (.cells [x, y]) 85) := by kernel_rfl
def WrR (n0 : Nat) (h : Heap) (p : Nat) (bs : List UInt8) : Prop := ∃ a c, Cells h p 88 [.slice a bs.length c] ∧ AB n0 h (.slice a bs.length c) bs ∧ blockOf (.slice a bs.length c) ≠ some p
theorem WrR.lt {n0 : Nat} {h : Heap} {p : Nat} {bs : List UInt8} (w : WrR n0 h p bs) : p < h.blks.length := let ⟨_, _, c, _⟩ := w; c.lt
theorem WrR.put {n0 : Nat} {h : Heap} {p : Nat} {a : Option Addr} {bs : List UInt8} {c : Nat} {cs : List Value} (hc : Cells h p 88 cs) (ha : AB n0 h (.slice a bs.length c) bs) (hb : blockOf (.slice a bs.length c) ≠ some p) :
    WrR n0 (h.put p (.cells [.slice a bs.length c])) p bs := ⟨a, c, hc.put _, ha.keepPut hb _, hb⟩
theorem WrR.nm {n0 : Nat} {h : Heap} {p : Nat} {bs : List UInt8} (w : WrR n0 h p bs) : WrR n0 (Am.nm h) p bs := let ⟨a, c, x, y, z⟩ := w; ⟨a, c, x, y.keep fun _ _ _ => rfl, z⟩
theorem WrR.done {n0 : Nat} {h0 h : Heap} {p : Nat} {bs : List UInt8} (w : WrR n0 h p bs) : WrR n0 (Am.done h0 h) p bs := let ⟨a, c, x, y, z⟩ := w; ⟨a, c, x.done, y.done, z⟩
theorem WrR.same {n0 : Nat} {h h' : Heap} {p : Nat} {bs : List UInt8} (w : WrR n0 h p bs) (e : Same h h') : WrR n0 h' p bs := let ⟨a, c, x, y, z⟩ := w; ⟨a, c, x.same e, y.same e, z⟩
theorem WrR.ext {n0 : Nat} {h h' : Heap} {p : Nat} {bs : List UInt8} (w : WrR n0 h p bs) (e : HExt h h') : WrR n0 h' p bs := let ⟨a, c, x, y, z⟩ := w; ⟨a, c, x.ext e, y.keep fun b hb _ => e.old b hb, z⟩
theorem WrR.up {n0 n1 : Nat} {h : Heap} {p : Nat} {bs : List UInt8} (w : WrR n0 h p bs) (hn : n1 ≤ n0) : WrR n1 h p bs := let ⟨a, c, x, y, z⟩ := w; ⟨a, c, x, y.up hn, z⟩
theorem spec_RWNum {n0 : Nat} {h : Heap} {p : Nat} {bs : List UInt8} (w : WrR n0 h p bs) (hn0 : n0 ≤ h.blks.length) (n : Nat) (hn : n < 2 ^ 64) (hl : bs.length < 2 ^ 39) :
    ∃ h', evC Try.prog 47 #[.pointer (some ⟨p, 0, none⟩), .int .u64 n] h = some (.tuple #[], h') ∧ HMod (Just p) h h' ∧ WrR h.blks.length h' p (bs ++ putL n) := by
  rw [call47, c47_0_eq]
  obtain ⟨a, c, hc, ha, hne⟩ := w
  obtain ⟨a2, c2, h2, e2, x2, ab⟩ := spec_refPut n hn (nm h) _ bs ha.sb.nm hl
  simp -implicitDefEqProofs only [faRW, ldB, hc.nm.load, List.getElem?_cons_zero, e2, stB, storeN_blk (hc.nm.ext x2) (o := 0) (vs := [.slice a2 (bs ++ putL n).length c2]) (by simp), bin_add, bin_sub, bin_mul, bin_lss, bin_leq, bin_gtr, bin_geq, bin_eql, bin_neq, un_not, un_neg, Option.bind_some, Option.bind_none, Option.map_some, cnd_true, cnd_false, pickV_true, pickV_false, gd_true, gd_false, gdV_true, gdV_false, gdH_true, gdH_false, gdS_true, gdS_false, wt_ff, wt_tt, wt_ft, wt_tf, wt_undef, obH_some', extractV_tuple, nilCheckV_ptr, againK_normal, againK_exit, againK_ret, blockK_normal, blockK_same, blockK_ret, seqK_normal, seqK_exit, seqK_ret, fin_done, if_true', if_false', Bool.not_true, Bool.not_false, idx0, idx1, idx2, idx3, idx4, chk_nil_l, chk_nil_r, done_nm]
  rw [retn47, fin_done]
  refine ⟨_, rfl, done_mod ((x2.inn (by simp)).trans (In.put (by have := x2.len; simpa using this) (.inr (show Just p p from rfl)) _)), ?_⟩
  simp only [List.take_zero, List.nil_append, List.length_singleton, Nat.zero_add, List.drop_succ_cons, List.drop_nil, List.append_nil]
  exact (WrR.put (hc.nm.ext x2) ab (ab.ne hc.lt)).done
theorem spec_RWBytes {n0 : Nat} {h : Heap} {p : Nat} {bs : List UInt8} (w : WrR n0 h p bs) (hn0 : n0 ≤ h.blks.length) {x : Value} {cs : List UInt8} (hx : SB h x cs) (hxp : blockOf x ≠ some p) (hl : bs.length < 2 ^ 39) (hl2 : cs.length < 2 ^ 39) :
    ∃ h', evC Try.prog 48 #[.pointer (some ⟨p, 0, none⟩), x] h = some (.tuple #[], h') ∧ HMod (Just p) h h' ∧ WrR h.blks.length h' p (bs ++ putL cs.length ++ cs) := by
  rw [call48, c48_0_eq]
  have hs := sizeN_le cs.length 6 (by omega) (by omega)
  obtain ⟨h2, e2, x2, w2⟩ := spec_RWNum w.nm (by simpa using hn0) cs.length (by omega) hl
  obtain ⟨a, c, hc, ha, hne⟩ := w2
  have hx2 : SB h2 x cs := hx.nm.mod x2 fun b hb e => hxp (by rw [hb, e])
  obtain ⟨a3, c3, h3, e3, ab, k3, o3, _⟩ := app_bytes (n0 := h.blks.length) (by have := x2.len; simpa using this) ha hx2 (by simp [putL_len]; omega)
  have hc3 : Cells h3 p _ _ := (o3 p hc.lt hne).trans hc
  simp -implicitDefEqProofs (disch := omega) only [hx.nm.row.len_eq etB.under, cvI64, e2, faRW, ldB, hc.load, List.getElem?_cons_zero, e3, stB, storeN_blk hc3 (o := 0) (vs := [.slice a3 (bs ++ putL cs.length ++ cs).length c3]) (by simp), bin_add, bin_sub, bin_mul, bin_lss, bin_leq, bin_gtr, bin_geq, bin_eql, bin_neq, un_not, un_neg, Option.bind_some, Option.bind_none, Option.map_some, cnd_true, cnd_false, pickV_true, pickV_false, gd_true, gd_false, gdV_true, gdV_false, gdH_true, gdH_false, gdS_true, gdS_false, wt_ff, wt_tt, wt_ft, wt_tf, wt_undef, obH_some', extractV_tuple, nilCheckV_ptr, againK_normal, againK_exit, againK_ret, blockK_normal, blockK_same, blockK_ret, seqK_normal, seqK_exit, seqK_ret, fin_done, if_true', if_false', Bool.not_true, Bool.not_false, idx0, idx1, idx2, idx3, idx4, chk_nil_l, chk_nil_r, done_nm]
  rw [retn48, fin_done]
  refine ⟨_, rfl, done_mod (((x2.inn (by simp) (fun b _ hb => hb)).trans (k3.inn)).trans (In.put (by have := x2.len; have := k3.len; simp at *; omega) (.inr (show Just p p from rfl)) _)), ?_⟩
  simp only [List.take_zero, List.nil_append, List.length_singleton, Nat.zero_add, List.drop_succ_cons, List.drop_nil, List.append_nil]
  exact (WrR.put hc3 ab (ab.ne w.lt)).done

def RdrR (h : Heap) (p : Nat) (r : Option (List UInt8)) : Prop := ∃ a c, Cells h p 85 [.slice a (rbs r).length c, .bool r.isNone] ∧ SB h (.slice a (rbs r).length c) (rbs r) ∧ Lo (.slice a (rbs r).length c) p
theorem RdrR.lt {h : Heap} {p : Nat} {r : Option (List UInt8)} (w : RdrR h p r) : p < h.blks.length := let ⟨_, _, c, _⟩ := w; c.lt
theorem RdrR.nm {h : Heap} {p : Nat} {r : Option (List UInt8)} (w : RdrR h p r) : RdrR (Am.nm h) p r := let ⟨a, c, x, y, z⟩ := w; ⟨a, c, x, y.nm, z⟩
theorem RdrR.done {h0 h : Heap} {p : Nat} {r : Option (List UInt8)} (w : RdrR h p r) : RdrR (Am.done h0 h) p r := let ⟨a, c, x, y, z⟩ := w; ⟨a, c, x.done, y.done, z⟩
theorem RdrR.same {h h' : Heap} {p : Nat} {r : Option (List UInt8)} (w : RdrR h p r) (e : Same h h') : RdrR h' p r := let ⟨a, c, x, y, z⟩ := w; ⟨a, c, x.same e, y.same e, z⟩
theorem RdrR.keepPut {h : Heap} {p q : Nat} {r : Option (List UInt8)} (w : RdrR h p r) (hq : p < q) (body : Body) : RdrR (h.put q body) p r :=
  let ⟨a, c, x, y, z⟩ := w; ⟨a, c, x.keepPut (by omega) _, y.keepPut (fun e => by have := z _ e; omega) _, z⟩
theorem RdrR.ext {h h' : Heap} {p : Nat} {r : Option (List UInt8)} (w : RdrR h p r) (e : HExt h h') : RdrR h' p r := let ⟨a, c, x, y, z⟩ := w; ⟨a, c, x.ext e, y.ext e, z⟩
theorem RdrR.put {h : Heap} {p : Nat} {a : Option Addr} {r : Option (List UInt8)} {c : Nat} {cs : List Value} (hc : Cells h p 85 cs) (ha : SB h (.slice a (rbs r).length c) (rbs r)) (hb : Lo (.slice a (rbs r).length c) p) :
    RdrR (h.put p (.cells [.slice a (rbs r).length c, .bool r.isNone])) p r := ⟨a, c, hc.put _, ha.keepPut hb.ne _, hb⟩
theorem spec_fail {h : Heap} {p : Nat} {r : Option (List UInt8)} (w : RdrR h p r) :
    ∃ h', evC Try.prog 50 #[.pointer (some ⟨p, 0, none⟩)] h = some (.tuple #[], h') ∧ HMod (Just p) h h' ∧ RdrR h' p none := by
  rw [call50, c50_0_eq]
  obtain ⟨a, c, hc, ha, hne⟩ := w
  have hc1 := hc.nm.put [Value.slice a (rbs r).length c, .bool true]
  have hc2 := hc1.put [Value.slice none 0 0, .bool true]
  simp -implicitDefEqProofs only [faRR0, faRR1, stB, stBool, storeN_blk hc.nm (o := 1) (vs := [.bool true]) (by simp), List.take_zero, List.nil_append, List.length_singleton, Nat.zero_add, List.drop_succ_cons, List.drop_zero, List.cons_append, List.singleton_append,
    storeN_blk hc1 (o := 0) (vs := [.slice none 0 0]) (by simp), List.take_succ_cons, List.drop_nil, Nat.reduceAdd, List.append_nil, bin_add, bin_sub, bin_mul, bin_lss, bin_leq, bin_gtr, bin_geq, bin_eql, bin_neq, un_not, un_neg, Option.bind_some, Option.bind_none, Option.map_some, cnd_true, cnd_false, pickV_true, pickV_false, gd_true, gd_false, gdV_true, gdV_false, gdH_true, gdH_false, gdS_true, gdS_false, wt_ff, wt_tt, wt_ft, wt_tf, wt_undef, obH_some', extractV_tuple, nilCheckV_ptr, againK_normal, againK_exit, againK_ret, blockK_normal, blockK_same, blockK_ret, seqK_normal, seqK_exit, seqK_ret, fin_done, if_true', if_false', Bool.not_true, Bool.not_false, idx0, idx1, idx2, idx3, idx4, chk_nil_l, chk_nil_r, done_nm]
  rw [retn50, fin_done]
  exact ⟨_, rfl, done_mod ((In.put (by simp) (.inr (show Just p p from rfl)) _).trans (In.put (by rw [Heap.put_len]; simp) (.inr (show Just p p from rfl)) _)), ⟨none, 0, hc2.done, .nil, Lo.nil _ _ _⟩⟩
theorem spec_RRNum {h : Heap} {p : Nat} {r : Option (List UInt8)} (w : RdrR h p r) (most : Nat) (hm : most < 2 ^ 64) (hl : (rbs r).length < 2 ^ 40) :
    ∃ h', evC Try.prog 44 #[.pointer (some ⟨p, 0, none⟩), .int .u64 most] h = some (.int .u64 (numP r most).1, h') ∧ HMod (Just p) h h' ∧ RdrR h' p (numP r most).2 := by
  rw [call44, c44_0_eq]
  have w0 := w
  obtain ⟨a, c, hc, ha, hne⟩ := w
  obtain ⟨h2, e2, x2, w2⟩ := spec_fail w0.nm
  cases r with
  | none =>
    have hg := spec_refGet (Am.nm h) _ (rbs none) ha.nm (by simp [rbs])
    simp -implicitDefEqProofs only [faRR0, faRR1, ldB, ldBool, hc.nm.load, List.getElem?_cons_zero, List.getElem?_cons_succ, hg, Option.isNone_none, e2, bin_add, bin_sub, bin_mul, bin_lss, bin_leq, bin_gtr, bin_geq, bin_eql, bin_neq, un_not, un_neg, Option.bind_some, Option.bind_none, Option.map_some, cnd_true, cnd_false, pickV_true, pickV_false, gd_true, gd_false, gdV_true, gdV_false, gdH_true, gdH_false, gdS_true, gdS_false, wt_ff, wt_tt, wt_ft, wt_tf, wt_undef, obH_some', extractV_tuple, nilCheckV_ptr, againK_normal, againK_exit, againK_ret, blockK_normal, blockK_same, blockK_ret, seqK_normal, seqK_exit, seqK_ret, fin_done, if_true', if_false', Bool.not_true, Bool.not_false, idx0, idx1, idx2, idx3, idx4, chk_nil_l, chk_nil_r, done_nm]
    rw [ret44, fin_done]
    exact ⟨_, rfl, done_mod (x2.inn (by simp) fun _ _ h => h), w2.done⟩
  | some bs =>
    have hrb : rbs (some bs) = bs := rfl
    rw [hrb] at hl hc ha hne
    have hg := spec_refGet (Am.nm h) _ bs ha.nm hl
    have h64 := getL_lt bs
    have hle := getL_len bs
    simp -implicitDefEqProofs only [faRR0, faRR1, ldB, ldBool, hc.nm.load, List.getElem?_cons_zero, List.getElem?_cons_succ, hg, Option.isNone_some, bin_add, bin_sub, bin_mul, bin_lss, bin_leq, bin_gtr, bin_geq, bin_eql, bin_neq, un_not, un_neg, Option.bind_some, Option.bind_none, Option.map_some, cnd_true, cnd_false, pickV_true, pickV_false, gd_true, gd_false, gdV_true, gdV_false, gdH_true, gdH_false, gdS_true, gdS_false, wt_ff, wt_tt, wt_ft, wt_tf, wt_undef, obH_some', extractV_tuple, nilCheckV_ptr, againK_normal, againK_exit, againK_ret, blockK_normal, blockK_same, blockK_ret, seqK_normal, seqK_exit, seqK_ret, fin_done, if_true', if_false', Bool.not_true, Bool.not_false, idx0, idx1, idx2, idx3, idx4, chk_nil_l, chk_nil_r, done_nm]
    by_cases hbad : (getL bs).2 = 0 ∨ most < (getL bs).1
    · have hp : numP (some bs) most = (0, none) := by simp only [numP]; exact if_pos hbad
      rw [hp]
      by_cases h1 : (getL bs).2 = 0
      all_goals
        simp -implicitDefEqProofs (disch := omega) only [dcF, dcT, e2, bin_add, bin_sub, bin_mul, bin_lss, bin_leq, bin_gtr, bin_geq, bin_eql, bin_neq, un_not, un_neg, Option.bind_some, Option.bind_none, Option.map_some, cnd_true, cnd_false, pickV_true, pickV_false, gd_true, gd_false, gdV_true, gdV_false, gdH_true, gdH_false, gdS_true, gdS_false, wt_ff, wt_tt, wt_ft, wt_tf, wt_undef, obH_some', extractV_tuple, nilCheckV_ptr, againK_normal, againK_exit, againK_ret, blockK_normal, blockK_same, blockK_ret, seqK_normal, seqK_exit, seqK_ret, fin_done, if_true', if_false', Bool.not_true, Bool.not_false, idx0, idx1, idx2, idx3, idx4, chk_nil_l, chk_nil_r, done_nm]
        rw [ret44, fin_done]
        exact ⟨_, rfl, done_mod (x2.inn (by simp) fun _ _ h => h), w2.done⟩
    · have hp : numP (some bs) most = ((getL bs).1, some (bs.drop (getL bs).2)) := by simp only [numP]; exact if_neg hbad
      rw [hp]
      obtain ⟨a4, c4, e4, s4, b4⟩ := sl_drop ha.nm (i := (getL bs).2) hle .i64
      simp -implicitDefEqProofs (disch := omega) only [dcF, dcT, e4, stB, storeN_blk hc.nm (o := 0) (vs := [.slice a4 (bs.drop (getL bs).2).length c4]) (by simp), bin_add, bin_sub, bin_mul, bin_lss, bin_leq, bin_gtr, bin_geq, bin_eql, bin_neq, un_not, un_neg, Option.bind_some, Option.bind_none, Option.map_some, cnd_true, cnd_false, pickV_true, pickV_false, gd_true, gd_false, gdV_true, gdV_false, gdH_true, gdH_false, gdS_true, gdS_false, wt_ff, wt_tt, wt_ft, wt_tf, wt_undef, obH_some', extractV_tuple, nilCheckV_ptr, againK_normal, againK_exit, againK_ret, blockK_normal, blockK_same, blockK_ret, seqK_normal, seqK_exit, seqK_ret, fin_done, if_true', if_false', Bool.not_true, Bool.not_false, idx0, idx1, idx2, idx3, idx4, chk_nil_l, chk_nil_r, done_nm]
      rw [ret44, fin_done]
      exact ⟨_, rfl, done_mod (In.put (by simp) (.inr (show Just p p from rfl)) _), (RdrR.put (r := some (bs.drop (getL bs).2)) hc.nm s4 (hne.to b4)).done⟩
theorem spec_RREnd {h : Heap} {p : Nat} {r : Option (List UInt8)} (w : RdrR h p r) :
    evC Try.prog 46 #[.pointer (some ⟨p, 0, none⟩)] h = some (.bool (endP r), h) := by
  rw [call46, c46_0_eq]
  obtain ⟨a, c, hc, ha, hne⟩ := w
  cases r with
  | none =>
    simp -implicitDefEqProofs only [faRR0, faRR1, ldB, ldBool, hc.nm.load, List.getElem?_cons_zero, List.getElem?_cons_succ, Option.isNone_none, bin_add, bin_sub, bin_mul, bin_lss, bin_leq, bin_gtr, bin_geq, bin_eql, bin_neq, un_not, un_neg, Option.bind_some, Option.bind_none, Option.map_some, cnd_true, cnd_false, pickV_true, pickV_false, gd_true, gd_false, gdV_true, gdV_false, gdH_true, gdH_false, gdS_true, gdS_false, wt_ff, wt_tt, wt_ft, wt_tf, wt_undef, obH_some', extractV_tuple, nilCheckV_ptr, againK_normal, againK_exit, againK_ret, blockK_normal, blockK_same, blockK_ret, seqK_normal, seqK_exit, seqK_ret, fin_done, if_true', if_false', Bool.not_true, Bool.not_false, idx0, idx1, idx2, idx3, idx4, chk_nil_l, chk_nil_r, done_nm]
    rw [ret46, fin_done]
    rfl
  | some bs =>
    simp -implicitDefEqProofs only [faRR0, faRR1, ldB, ldBool, hc.nm.load, List.getElem?_cons_zero, List.getElem?_cons_succ, Option.isNone_some, ha.nm.row.len_eq etB.under, bin_add, bin_sub, bin_mul, bin_lss, bin_leq, bin_gtr, bin_geq, bin_eql, bin_neq, un_not, un_neg, Option.bind_some, Option.bind_none, Option.map_some, cnd_true, cnd_false, pickV_true, pickV_false, gd_true, gd_false, gdV_true, gdV_false, gdH_true, gdH_false, gdS_true, gdS_false, wt_ff, wt_tt, wt_ft, wt_tf, wt_undef, obH_some', extractV_tuple, nilCheckV_ptr, againK_normal, againK_exit, againK_ret, blockK_normal, blockK_same, blockK_ret, seqK_normal, seqK_exit, seqK_ret, fin_done, if_true', if_false', Bool.not_true, Bool.not_false, idx0, idx1, idx2, idx3, idx4, chk_nil_l, chk_nil_r, done_nm]
    rw [ret46, fin_done]
    cases bs with
    | nil => rfl
    | cons b bs => 
      have : decide (((rbs (some (b :: bs))).length : Int) = 0) = false := decide_eq_false (by simp [rbs]; omega)
      rw [this]; rfl
theorem spec_RRBytes {h : Heap} {p : Nat} {r : Option (List UInt8)} (w : RdrR h p r) (most : Int) (hm0 : -2 ^ 63 ≤ most) (hm : most < 2 ^ 63) (hl : (rbs r).length < 2 ^ 40) :
    ∃ a c h', evC Try.prog 45 #[.pointer (some ⟨p, 0, none⟩), .int .i64 most] h = some (.slice a (bytesP r most.toNat).1.length c, h') ∧ HMod (Just p) h h' ∧ RdrR h' p (bytesP r most.toNat).2 ∧ AB h.blks.length h' (.slice a (bytesP r most.toNat).1.length c) (bytesP r most.toNat).1 := by
  rw [call45, c45_0_eq]
  have w0 := w
  obtain ⟨a, c, hc, ha, hne⟩ := w
  obtain ⟨h2, e2, x2, w2⟩ := spec_fail w0.nm
  cases r with
  | none =>
    have hg := spec_refGet (Am.nm h) _ (rbs none) ha.nm (by simp [rbs])
    simp -implicitDefEqProofs only [faRR0, faRR1, ldB, ldBool, hc.nm.load, List.getElem?_cons_zero, List.getElem?_cons_succ, hg, Option.isNone_none, e2, bin_add, bin_sub, bin_mul, bin_lss, bin_leq, bin_gtr, bin_geq, bin_eql, bin_neq, un_not, un_neg, Option.bind_some, Option.bind_none, Option.map_some, cnd_true, cnd_false, pickV_true, pickV_false, gd_true, gd_false, gdV_true, gdV_false, gdH_true, gdH_false, gdS_true, gdS_false, wt_ff, wt_tt, wt_ft, wt_tf, wt_undef, obH_some', extractV_tuple, nilCheckV_ptr, againK_normal, againK_exit, againK_ret, blockK_normal, blockK_same, blockK_ret, seqK_normal, seqK_exit, seqK_ret, fin_done, if_true', if_false', Bool.not_true, Bool.not_false, idx0, idx1, idx2, idx3, idx4, chk_nil_l, chk_nil_r, done_nm]
    rw [ret45, fin_done]
    exact ⟨none, 0, _, rfl, done_mod (x2.inn (by simp) fun _ _ h => h), w2.done, .nil⟩
  | some bs =>
    have hrb : rbs (some bs) = bs := rfl
    rw [hrb] at hl hc ha hne
    have hg := spec_refGet (Am.nm h) _ bs ha.nm hl
    have h64 := getL_lt bs
    have hle := getL_len bs
    simp -implicitDefEqProofs only [faRR0, faRR1, ldB, ldBool, hc.nm.load, List.getElem?_cons_zero, List.getElem?_cons_succ, hg, Option.isNone_some, bin_add, bin_sub, bin_mul, bin_lss, bin_leq, bin_gtr, bin_geq, bin_eql, bin_neq, un_not, un_neg, Option.bind_some, Option.bind_none, Option.map_some, cnd_true, cnd_false, pickV_true, pickV_false, gd_true, gd_false, gdV_true, gdV_false, gdH_true, gdH_false, gdS_true, gdS_false, wt_ff, wt_tt, wt_ft, wt_tf, wt_undef, obH_some', extractV_tuple, nilCheckV_ptr, againK_normal, againK_exit, againK_ret, blockK_normal, blockK_same, blockK_ret, seqK_normal, seqK_exit, seqK_ret, fin_done, if_true', if_false', Bool.not_true, Bool.not_false, idx0, idx1, idx2, idx3, idx4, chk_nil_l, chk_nil_r, done_nm]
    have hk63 : (getL bs).2 < 2 ^ 40 := by omega
    by_cases h1 : (getL bs).2 = 0
    · have hp : bytesP (some bs) most.toNat = ([], none) := by
        simp only [bytesP, numP]; rw [if_pos (.inl h1)]; rfl
      rw [hp]
      simp -implicitDefEqProofs (disch := omega) only [dcF, dcT, faRR0, faRR1, ldB, ldBool, hc.nm.load, List.getElem?_cons_zero, List.getElem?_cons_succ, Option.isNone_some, e2, bin_add, bin_sub, bin_mul, bin_lss, bin_leq, bin_gtr, bin_geq, bin_eql, bin_neq, un_not, un_neg, Option.bind_some, Option.bind_none, Option.map_some, cnd_true, cnd_false, pickV_true, pickV_false, gd_true, gd_false, gdV_true, gdV_false, gdH_true, gdH_false, gdS_true, gdS_false, wt_ff, wt_tt, wt_ft, wt_tf, wt_undef, obH_some', extractV_tuple, nilCheckV_ptr, againK_normal, againK_exit, againK_ret, blockK_normal, blockK_same, blockK_ret, seqK_normal, seqK_exit, seqK_ret, fin_done, if_true', if_false', Bool.not_true, Bool.not_false, idx0, idx1, idx2, idx3, idx4, chk_nil_l, chk_nil_r, done_nm]
      rw [ret45, fin_done]
      exact ⟨none, 0, _, rfl, done_mod (x2.inn (by simp) fun _ _ h => h), w2.done, .nil⟩
    · have hfail : (most < 0 ∧ 0 < (getL bs).1) ∨ (0 ≤ most ∧ most < (getL bs).1) ∨ (0 ≤ most ∧ bs.length - (getL bs).2 < (getL bs).1) →
          bytesP (some bs) most.toNat = ([], none) := by
        intro hc
        simp only [bytesP, numP]
        by_cases h2 : most.toNat < (getL bs).1
        · rw [if_pos (.inr h2)]; rfl
        · rw [if_neg (by omega)]
          simp only [takeP]
          rw [if_pos (by simp; omega)]
      have hw : IntKind.wrap .i64 ((bs.length : Int) - (getL bs).2) = ((bs.length - (getL bs).2 : Nat) : Int) := by rw [wrap_i64] <;> omega
      by_cases hneg : most < 0
      · by_cases hn : (getL bs).1 = 0
        · have hp : bytesP (some bs) most.toNat = ([], some (bs.drop (getL bs).2)) := by
            simp only [bytesP, numP]
            rw [if_neg (by omega)]
            simp only [takeP, hn]
            rw [if_neg (by omega)]; rfl
          rw [hp]
          obtain ⟨a4, c4, e4, s4, b4⟩ := sl_drop ha.nm (i := (getL bs).2) hle .i64
          simp -implicitDefEqProofs (disch := omega) only [dcF, dcT, faRR0, faRR1, ldB, ldBool, hc.nm.load, List.getElem?_cons_zero, List.getElem?_cons_succ, Option.isNone_some, e4, stB, storeN_blk hc.nm (o := 0) (vs := [.slice a4 (bs.drop (getL bs).2).length c4]) (by simp), bin_add, bin_sub, bin_mul, bin_lss, bin_leq, bin_gtr, bin_geq, bin_eql, bin_neq, un_not, un_neg, Option.bind_some, Option.bind_none, Option.map_some, cnd_true, cnd_false, pickV_true, pickV_false, gd_true, gd_false, gdV_true, gdV_false, gdH_true, gdH_false, gdS_true, gdS_false, wt_ff, wt_tt, wt_ft, wt_tf, wt_undef, obH_some', extractV_tuple, nilCheckV_ptr, againK_normal, againK_exit, againK_ret, blockK_normal, blockK_same, blockK_ret, seqK_normal, seqK_exit, seqK_ret, fin_done, if_true', if_false', Bool.not_true, Bool.not_false, idx0, idx1, idx2, idx3, idx4, chk_nil_l, chk_nil_r, done_nm]
          rw [ret45, fin_done]
          exact ⟨none, 0, _, rfl, done_mod (In.put (by simp) (.inr (show Just p p from rfl)) _), (RdrR.put (r := some (bs.drop (getL bs).2)) hc.nm s4 (hne.to b4)).done, .nil⟩
        · rw [hfail (.inl ⟨hneg, by omega⟩)]
          simp -implicitDefEqProofs (disch := omega) only [dcF, dcT, faRR0, faRR1, ldB, ldBool, hc.nm.load, List.getElem?_cons_zero, List.getElem?_cons_succ, Option.isNone_some, e2, bin_add, bin_sub, bin_mul, bin_lss, bin_leq, bin_gtr, bin_geq, bin_eql, bin_neq, un_not, un_neg, Option.bind_some, Option.bind_none, Option.map_some, cnd_true, cnd_false, pickV_true, pickV_false, gd_true, gd_false, gdV_true, gdV_false, gdH_true, gdH_false, gdS_true, gdS_false, wt_ff, wt_tt, wt_ft, wt_tf, wt_undef, obH_some', extractV_tuple, nilCheckV_ptr, againK_normal, againK_exit, againK_ret, blockK_normal, blockK_same, blockK_ret, seqK_normal, seqK_exit, seqK_ret, fin_done, if_true', if_false', Bool.not_true, Bool.not_false, idx0, idx1, idx2, idx3, idx4, chk_nil_l, chk_nil_r, done_nm]
          rw [ret45, fin_done]
          exact ⟨none, 0, _, rfl, done_mod (x2.inn (by simp) fun _ _ h => h), w2.done, .nil⟩
      · by_cases hm1 : most < (getL bs).1
        · rw [hfail (.inr (.inl ⟨by omega, hm1⟩))]
          simp -implicitDefEqProofs (disch := omega) only [dcF, dcT, faRR0, faRR1, ldB, ldBool, hc.nm.load, List.getElem?_cons_zero, List.getElem?_cons_succ, Option.isNone_some, cvI64, e2, bin_add, bin_sub, bin_mul, bin_lss, bin_leq, bin_gtr, bin_geq, bin_eql, bin_neq, un_not, un_neg, Option.bind_some, Option.bind_none, Option.map_some, cnd_true, cnd_false, pickV_true, pickV_false, gd_true, gd_false, gdV_true, gdV_false, gdH_true, gdH_false, gdS_true, gdS_false, wt_ff, wt_tt, wt_ft, wt_tf, wt_undef, obH_some', extractV_tuple, nilCheckV_ptr, againK_normal, againK_exit, againK_ret, blockK_normal, blockK_same, blockK_ret, seqK_normal, seqK_exit, seqK_ret, fin_done, if_true', if_false', Bool.not_true, Bool.not_false, idx0, idx1, idx2, idx3, idx4, chk_nil_l, chk_nil_r, done_nm]
          rw [ret45, fin_done]
          exact ⟨none, 0, _, rfl, done_mod (x2.inn (by simp) fun _ _ h => h), w2.done, .nil⟩
        · by_cases hm2 : bs.length - (getL bs).2 < (getL bs).1
          · rw [hfail (.inr (.inr ⟨by omega, hm2⟩))]
            simp -implicitDefEqProofs (disch := omega) only [dcF, dcT, faRR0, faRR1, ldB, ldBool, hc.nm.load, List.getElem?_cons_zero, List.getElem?_cons_succ, Option.isNone_some, ha.nm.row.len_eq etB.under, hw, cvI64, e2, bin_add, bin_sub, bin_mul, bin_lss, bin_leq, bin_gtr, bin_geq, bin_eql, bin_neq, un_not, un_neg, Option.bind_some, Option.bind_none, Option.map_some, cnd_true, cnd_false, pickV_true, pickV_false, gd_true, gd_false, gdV_true, gdV_false, gdH_true, gdH_false, gdS_true, gdS_false, wt_ff, wt_tt, wt_ft, wt_tf, wt_undef, obH_some', extractV_tuple, nilCheckV_ptr, againK_normal, againK_exit, againK_ret, blockK_normal, blockK_same, blockK_ret, seqK_normal, seqK_exit, seqK_ret, fin_done, if_true', if_false', Bool.not_true, Bool.not_false, idx0, idx1, idx2, idx3, idx4, chk_nil_l, chk_nil_r, done_nm]
            rw [ret45, fin_done]
            exact ⟨none, 0, _, rfl, done_mod (x2.inn (by simp) fun _ _ h => h), w2.done, .nil⟩
          · have hp : bytesP (some bs) most.toNat = ((bs.drop (getL bs).2).take (getL bs).1, some (bs.drop ((getL bs).2 + (getL bs).1))) := by
              simp only [bytesP, numP]
              rw [if_neg (by omega)]
              simp only [takeP]
              rw [if_neg (by simp; omega), List.drop_drop]
            rw [hp]
            have hw2 : IntKind.wrap .i64 (((getL bs).2 : Int) + (getL bs).1) = (((getL bs).2 + (getL bs).1 : Nat) : Int) := by rw [wrap_i64] <;> omega
            have ha1 : SB ((Am.nm h).new (.cells []) 5) (.slice a bs.length c) bs := ha.nm.keepNew _ _
            have hc1 : Cells ((Am.nm h).new (.cells []) 5) p _ _ := hc.nm.keepNew _ _
            obtain ⟨a3, c3, e3, s3, b3⟩ := sl_mid ha1 (i := (getL bs).2) (j := (getL bs).2 + (getL bs).1) (by omega) (by omega) (lo := some (.int .i64 ((getL bs).2 : Nat))) (hi := some (.int .i64 (((getL bs).2 + (getL bs).1 : Nat) : Int))) (natOf_int .i64 _) (natOf_int .i64 _)
            rw [Nat.add_sub_cancel_left] at e3 s3 b3
            obtain ⟨a5, c5, h5, e5, s5, k5, o5, _⟩ := app_bytes (n0 := h.blks.length) (by simp [Heap.new]) (AB.empty h.blks.length (Am.nm h) (by simp)) s3 (by simp; omega)
            rw [List.nil_append] at e5 s5
            have hc5 : Cells h5 p _ _ := (o5 p hc1.lt (by have := hc.lt; simp [blockOf]; omega)).trans hc1
            have ha5 : SB h5 (.slice a bs.length c) bs := ha1.keep fun b hb hv => o5 b hb (by have := ha.lt hv; simp [blockOf]; omega)
            obtain ⟨a4, c4, e4, s4, b4⟩ := sl_drop ha5 (i := (getL bs).2 + (getL bs).1) (by omega) .i64
            simp -implicitDefEqProofs (disch := omega) only [dcF, dcT, faRR0, faRR1, ldB, ldBool, hc.nm.load, List.getElem?_cons_zero, List.getElem?_cons_succ, Option.isNone_some, ha.nm.row.len_eq etB.under, hw, hw2, cvI64, cvU64, mkB0, hc1.load, hc5.load, e3, e4, e5, stB, storeN_blk hc5 (o := 0) (vs := [.slice a4 (bs.drop ((getL bs).2 + (getL bs).1)).length c4]) (by simp), bin_add, bin_sub, bin_mul, bin_lss, bin_leq, bin_gtr, bin_geq, bin_eql, bin_neq, un_not, un_neg, Option.bind_some, Option.bind_none, Option.map_some, cnd_true, cnd_false, pickV_true, pickV_false, gd_true, gd_false, gdV_true, gdV_false, gdH_true, gdH_false, gdS_true, gdS_false, wt_ff, wt_tt, wt_ft, wt_tf, wt_undef, obH_some', extractV_tuple, nilCheckV_ptr, againK_normal, againK_exit, againK_ret, blockK_normal, blockK_same, blockK_ret, seqK_normal, seqK_exit, seqK_ret, fin_done, if_true', if_false', Bool.not_true, Bool.not_false, idx0, idx1, idx2, idx3, idx4, chk_nil_l, chk_nil_r, done_nm]
            rw [ret45, fin_done]
            have hpb : blockOf (.slice a5 ((bs.drop (getL bs).2).take (getL bs).1).length c5) ≠ some p := s5.ne hc.lt
            refine ⟨a5, c5, _, rfl, done_mod (((In.new (by simp) _ _).trans k5.inn).trans (In.put (by have := k5.len; simp [Heap.new] at this; omega) (.inr (show Just p p from rfl)) _)), ?_, (s5.keepPut hpb _).done⟩
            exact (RdrR.put (r := some (bs.drop ((getL bs).2 + (getL bs).1))) hc5 s4 (hne.to b4)).done
end Go.Am
namespace Go.Am
open Go.Proofs
def goodF (ack : Bool) (num : Nat) (body : List UInt8) : Bool := if ack then decide (body.length = 0) else decide (0 < num) && decide (body.length ≤ 30000)
def putF (ack : Bool) (num : Nat) (body : List UInt8) : List UInt8 :=
  if goodF ack num body then (if ack then putL 1 ++ putL num else putL 0 ++ putL num ++ putL body.length ++ body) else []
def getF (bs : List UInt8) : Option (Bool × Nat × List UInt8) :=
  let r1 := numP (some bs) 1
  let r2 := numP r1.2 (2 ^ 64 - 1)
  let r3 := if r1.1 = 1 then ([], r2.2) else bytesP r2.2 30000
  if endP r3.2 && goodF (decide (r1.1 = 1)) r2.1 r3.1 then some (decide (r1.1 = 1), r2.1, r3.1) else none
theorem faF0 (p : Nat) : fieldAddrV Try.prog 57 (.pointer (some ⟨p, 0, none⟩)) 0 = some (.pointer (some ⟨p, 0, none⟩)) := by kernel_rfl
theorem faF1 (p : Nat) : fieldAddrV Try.prog 57 (.pointer (some ⟨p, 0, none⟩)) 1 = some (.pointer (some ⟨p, 1, none⟩)) := by kernel_rfl
theorem faF2 (p : Nat) : fieldAddrV Try.prog 57 (.pointer (some ⟨p, 0, none⟩)) 2 = some (.pointer (some ⟨p, 2, none⟩)) := by kernel_rfl
theorem bxF (a b c : Value) (h : Heap) : boxV Try.prog 57 (.agg #[a, b, c]) h = some (.pointer (some ⟨h.blks.length, 0, none⟩), h.new (.cells [a, b, c]) 57) := by kernel_rfl
theorem alF (h : Heap) : allocV Try.prog 57 h = some (.pointer (some ⟨h.blks.length, 0, none⟩), h.new (.cells [.bool false, .int .u64 0, .slice none 0 0]) 57) := by kernel_rfl
theorem ldF (p : Nat) (h : Heap) : loadV Try.prog 57 (.pointer (some ⟨p, 0, none⟩)) h = (h.loadN p 0 3).map fun cs => .agg cs.toArray := by kernel_rfl
theorem stF (p : Nat) (a : Bool) (k : IntKind) (n : Int) (ad : Option Addr) (l c : Nat) (h : Heap) : storeV Try.prog 57 (.pointer (some ⟨p, 0, none⟩)) (.agg #[.bool a, .int k n, .slice ad l c]) h = h.storeN p 0 [.bool a, .int k n, .slice ad l c] := by kernel_rfl
theorem bdF2 (a : Bool) (n : Int) : buildV Try.prog 57 #[(0, .bool a), (1, .int .u64 n)] = some (.agg #[.bool a, .int .u64 n, .slice none 0 0]) := by kernel_rfl
theorem bdF0 : buildV Try.prog 57 #[] = some (.agg #[.bool false, .int .u64 0, .slice none 0 0]) := by kernel_rfl
theorem three1 (a b c : Value) : [a, b, c][0]? = some a := (id rfl)
theorem three2 (a b c : Value) : [a, b, c][1]? = some b := (id rfl)
theorem three3 (a b c : Value) : [a, b, c][2]? = some c := (id rfl)
theorem putL_le (n : Nat) (hn : n < 2 ^ 64) : (putL n).length ≤ 10 := by rw [putL_len]; exact sizeN_le n 10 (by omega) (by omega)
/-- a frame's value -/
abbrev frV (ack : Bool) (num : Nat) (a : Option Addr) (l c : Nat) : Value := .agg #[.bool ack, .int .u64 num, .slice a l c]
theorem spec_good {h : Heap} {ack : Bool} {num : Nat} {a : Option Addr} {c : Nat} {body : List UInt8} (hb : SB h (.slice a body.length c) body) :
    ∃ h', evC Try.prog 43 #[frV ack num a body.length c] h = some (.bool (goodF ack num body), h') ∧ HExt h h' := by
  rw [call43, c43_0_eq]
  have hc := Cells.new (nm h) 57 [.bool ack, .int .u64 num, .slice a body.length c]
  have hb1 := hb.nm.keepNew (.cells [.bool ack, .int .u64 num, .slice a body.length c]) 57
  have hx : In h.blks.length No (nm h) _ := In.new (by simp) (.cells [.bool ack, .int .u64 num, .slice a body.length c]) 57
  cases ack with
  | true =>
    simp -implicitDefEqProofs (disch := omega) only [bxF, faF0, faF1, faF2, ldBool, ldB, ld64, hc.load, three1, three2, three3, hb1.row.len_eq etB.under, bin_add, bin_sub, bin_mul, bin_lss, bin_leq, bin_gtr, bin_geq, bin_eql, bin_neq, un_not, un_neg, Option.bind_some, Option.bind_none, Option.map_some, cnd_true, cnd_false, pickV_true, pickV_false, gd_true, gd_false, gdV_true, gdV_false, gdH_true, gdH_false, gdS_true, gdS_false, wt_ff, wt_tt, wt_ft, wt_tf, wt_undef, obH_some', extractV_tuple, nilCheckV_ptr, againK_normal, againK_exit, againK_ret, blockK_normal, blockK_same, blockK_ret, seqK_normal, seqK_exit, seqK_ret, fin_done, if_true', if_false', Bool.not_true, Bool.not_false, idx0, idx1, idx2, idx3, idx4, chk_nil_l, chk_nil_r, done_nm]
    rw [ret43, fin_done]
    refine ⟨_, ?_, done_ext' hx⟩
    have : decide ((body.length : Int) = 0) = goodF true num body := by simp only [goodF, if_true]; congr 1; apply propext; omega
    rw [this]
  | false =>
    by_cases h0 : 0 < num
    all_goals
      simp -implicitDefEqProofs (disch := omega) only [dcT, dcF, bxF, faF0, faF1, faF2, ldBool, ldB, ld64, hc.load, three1, three2, three3, hb1.row.len_eq etB.under, bin_add, bin_sub, bin_mul, bin_lss, bin_leq, bin_gtr, bin_geq, bin_eql, bin_neq, un_not, un_neg, Option.bind_some, Option.bind_none, Option.map_some, cnd_true, cnd_false, pickV_true, pickV_false, gd_true, gd_false, gdV_true, gdV_false, gdH_true, gdH_false, gdS_true, gdS_false, wt_ff, wt_tt, wt_ft, wt_tf, wt_undef, obH_some', extractV_tuple, nilCheckV_ptr, againK_normal, againK_exit, againK_ret, blockK_normal, blockK_same, blockK_ret, seqK_normal, seqK_exit, seqK_ret, fin_done, if_true', if_false', Bool.not_true, Bool.not_false, idx0, idx1, idx2, idx3, idx4, chk_nil_l, chk_nil_r, done_nm]
      rw [ret43, fin_done]
      refine ⟨_, ?_, done_ext' hx⟩
    · have : decide ((body.length : Int) ≤ 30000) = goodF false num body := by
        simp only [goodF, Bool.false_eq_true, if_false, decide_eq_true h0, Bool.true_and]; congr 1; apply propext; omega
      rw [this]
    · have : false = goodF false num body := by simp [goodF, h0]
      rw [← this]
theorem spec_FPut {h : Heap} {ack : Bool} {num : Nat} {a : Option Addr} {c : Nat} {body : List UInt8} (hb : SB h (.slice a body.length c) body) (hn : num < 2 ^ 64) :
    ∃ a2 c2 h', evC Try.prog 35 #[frV ack num a body.length c] h = some (.slice a2 (putF ack num body).length c2, h') ∧ HExt h h' ∧ AB h.blks.length h' (.slice a2 (putF ack num body).length c2) (putF ack num body) := by
  rw [call35, c35_0_eq]
  have hc := Cells.new (nm h) 57 [.bool ack, .int .u64 num, .slice a body.length c]
  have hb1 := hb.nm.keepNew (.cells [.bool ack, .int .u64 num, .slice a body.length c]) 57
  have hx : In h.blks.length No (nm h) _ := In.new (by simp) (.cells [.bool ack, .int .u64 num, .slice a body.length c]) 57
  generalize hh1 : (nm h).new (.cells [.bool ack, .int .u64 num, .slice a body.length c]) 57 = h1 at *
  have hbx := bxF (.bool ack) (.int .u64 num) (.slice a body.length c) (nm h)
  rw [hh1] at hbx
  obtain ⟨h2, e2, x2⟩ := spec_good (ack := ack) (num := num) hb1
  have l1 := hx.len
  simp only [nm_blks] at l1
  by_cases hg : goodF ack num body = true
  · obtain ⟨h3, e3, x3, w3, l3⟩ := spec_NewWriter h2
    have hc3 := (hc.ext x2).ext x3
    have hb3 := (hb1.ext x2).ext x3
    have hq := hc.lt
    have l2 := x2.len
    have hblk : ∀ b, blockOf (.slice a body.length c) = some b → b < h.blks.length := fun b hb' => hb.lt hb'
    simp only [nm_blks] at hq hc hc3 hbx
    cases ack with
    | true =>
      have hp : putF true num body = putL 1 ++ putL num := by simp only [putF, hg, if_true]
      rw [hp]
      obtain ⟨h4, e4, x4, w4⟩ := spec_WNum w3 x3.len 1 (by omega) (by simp)
      have l4 := x4.len
      have hc4 := hc3.mod x4 (fun e => by have : h.blks.length = h2.blks.length := e; omega)
      have p1 := putL_le 1 (by omega)
      have p2 := putL_le num hn
      obtain ⟨h5, e5, x5, w5⟩ := spec_WNum w4 l4 num hn (by simp only [List.nil_append]; omega)
      obtain ⟨a6, c6, h6, e6, x6, s6⟩ := spec_WDone w5 (by simp only [List.nil_append, List.length_append]; omega)
      have l5 := x5.len
      have hin : In h.blks.length No (nm h) h6 := (((((hx.trans (x2.inn l1)).trans (x3.inn (by omega))).trans (x4.inn (by omega) fun b hb hs => by have : b = h2.blks.length := hs; omega)).trans (x5.inn (by omega) fun b hb hs => by have : b = h2.blks.length := hs; omega)).trans (x6.inn (by omega)))
      have s7 : AB h.blks.length h6 _ _ := s6.up (by omega)
      rw [List.nil_append] at e6 s7
      simp -implicitDefEqProofs (disch := omega) only [hbx, ldF, hc.loadN (n := 3) rfl, e2, hg, e3, faF0, faF1, ldBool, ld64, hc3.load, hc4.load, three1, three2, e4, e5, e6, bin_add, bin_sub, bin_mul, bin_lss, bin_leq, bin_gtr, bin_geq, bin_eql, bin_neq, un_not, un_neg, Option.bind_some, Option.bind_none, Option.map_some, cnd_true, cnd_false, pickV_true, pickV_false, gd_true, gd_false, gdV_true, gdV_false, gdH_true, gdH_false, gdS_true, gdS_false, wt_ff, wt_tt, wt_ft, wt_tf, wt_undef, obH_some', extractV_tuple, nilCheckV_ptr, againK_normal, againK_exit, againK_ret, blockK_normal, blockK_same, blockK_ret, seqK_normal, seqK_exit, seqK_ret, fin_done, if_true', if_false', Bool.not_true, Bool.not_false, idx0, idx1, idx2, idx3, idx4, chk_nil_l, chk_nil_r, done_nm, show Value.int .u64 1 = .int .u64 ((1 : Nat) : Int) from rfl]
      rw [ret35, fin_done]
      exact ⟨a6, c6, _, rfl, done_ext' hin, s7.done⟩
    | false =>
      have hp : putF false num body = putL 0 ++ putL num ++ putL body.length ++ body := by simp only [putF, hg, if_true]; rfl
      rw [hp]
      have hbl : body.length ≤ 30000 := by
        simp only [goodF, Bool.false_eq_true, if_false, Bool.and_eq_true, decide_eq_true_eq] at hg; exact hg.2
      obtain ⟨h4, e4, x4, w4⟩ := spec_WNum w3 x3.len 0 (by omega) (by simp)
      have l4 := x4.len
      have ne : ∀ b, b < h2.blks.length → ¬ Just h2.blks.length b := fun b hb hs => by have : b = h2.blks.length := hs; omega
      have hc4 := hc3.mod x4 (ne _ (by omega))
      have p1 := putL_le 0 (by omega)
      have p2 := putL_le num hn
      have p3 := putL_le body.length (by omega)
      obtain ⟨h5, e5, x5, w5⟩ := spec_WNum w4 l4 num hn (by simp only [List.nil_append]; omega)
      have l5 := x5.len
      have hc5 := hc4.mod x5 (ne _ (by omega))
      have hb5 := (hb3.mod x4 fun b hb' => ne b (by have := hblk b hb'; omega)).mod x5 fun b hb' => ne b (by have := hblk b hb'; omega)
      obtain ⟨h6, e6, x6, w6⟩ := spec_WBytes w5 l5 hb5 (fun e => by have := hblk _ e; omega) (by simp only [List.nil_append, List.length_append]; omega) (by omega)
      have l6 := x6.len
      obtain ⟨a7, c7, h7, e7, x7, s7⟩ := spec_WDone w6 (by simp only [List.nil_append, List.length_append]; omega)
      have nn : ∀ b, b < h.blks.length → Just h2.blks.length b → No b := fun b hb hs => by have : b = h2.blks.length := hs; omega
      have hin : In h.blks.length No (nm h) h7 := ((((((hx.trans (x2.inn l1)).trans (x3.inn (by omega))).trans (x4.inn (by omega) nn)).trans (x5.inn (by omega) nn)).trans (x6.inn (by omega) nn)).trans (x7.inn (by omega)))
      have s8 : AB h.blks.length h7 _ _ := s7.up (by omega)
      rw [List.nil_append] at e7 s8
      simp -implicitDefEqProofs (disch := omega) only [hbx, ldF, hc.loadN (n := 3) rfl, e2, hg, e3, faF0, faF1, faF2, ldBool, ldB, ld64, hc3.load, hc4.load, hc5.load, three1, three2, three3, e4, e5, e6, e7, bin_add, bin_sub, bin_mul, bin_lss, bin_leq, bin_gtr, bin_geq, bin_eql, bin_neq, un_not, un_neg, Option.bind_some, Option.bind_none, Option.map_some, cnd_true, cnd_false, pickV_true, pickV_false, gd_true, gd_false, gdV_true, gdV_false, gdH_true, gdH_false, gdS_true, gdS_false, wt_ff, wt_tt, wt_ft, wt_tf, wt_undef, obH_some', extractV_tuple, nilCheckV_ptr, againK_normal, againK_exit, againK_ret, blockK_normal, blockK_same, blockK_ret, seqK_normal, seqK_exit, seqK_ret, fin_done, if_true', if_false', Bool.not_true, Bool.not_false, idx0, idx1, idx2, idx3, idx4, chk_nil_l, chk_nil_r, done_nm, show Value.int .u64 0 = .int .u64 ((0 : Nat) : Int) from rfl]
      rw [ret35, fin_done]
      exact ⟨a7, c7, _, rfl, done_ext' hin, s8.done⟩
  · have hp : putF ack num body = [] := by simp only [putF, hg, if_false]; rfl
    rw [hp]
    have hg' : goodF ack num body = false := by simpa using hg
    simp only [nm_blks] at hbx hc
    simp -implicitDefEqProofs (disch := omega) only [hbx, ldF, hc.loadN (n := 3) rfl, e2, hg', bin_add, bin_sub, bin_mul, bin_lss, bin_leq, bin_gtr, bin_geq, bin_eql, bin_neq, un_not, un_neg, Option.bind_some, Option.bind_none, Option.map_some, cnd_true, cnd_false, pickV_true, pickV_false, gd_true, gd_false, gdV_true, gdV_false, gdH_true, gdH_false, gdS_true, gdS_false, wt_ff, wt_tt, wt_ft, wt_tf, wt_undef, obH_some', extractV_tuple, nilCheckV_ptr, againK_normal, againK_exit, againK_ret, blockK_normal, blockK_same, blockK_ret, seqK_normal, seqK_exit, seqK_ret, fin_done, if_true', if_false', Bool.not_true, Bool.not_false, idx0, idx1, idx2, idx3, idx4, chk_nil_l, chk_nil_r, done_nm]
    rw [ret35, fin_done]
    exact ⟨none, 0, _, rfl, done_ext' (hx.trans (x2.inn l1)), .nil⟩
end Go.Am
namespace Go.Am
open Go.Proofs
theorem bytesP_le (r : Option (List UInt8)) (m : Nat) : (bytesP r m).1.length ≤ (rbs r).length ∧ (rbs (bytesP r m).2).length ≤ (rbs r).length := by
  have h1 := numP_le r m
  have h2 := takeP_le (numP r m).2 (numP r m).1
  unfold bytesP; omega
theorem numP_num (r : Option (List UInt8)) (m : Nat) : (numP r m).1 < 2 ^ 64 := (numP_le r m).2.1
theorem t3_put (a b c d e f : Value) : List.take 0 [a, b, c] ++ [d, e, f] ++ List.drop (0 + [d, e, f].length) [a, b, c] = [d, e, f] := (id rfl)
theorem t3_put2 (a b c d : Value) : List.take 2 [a, b, c] ++ [d] ++ List.drop (2 + [d].length) [a, b, c] = [a, b, d] := (id rfl)
theorem t3_put1 (a b c d : Value) : List.take 1 [a, b, c] ++ [d] ++ List.drop (1 + [d].length) [a, b, c] = [a, d, c] := (id rfl)
theorem t3_put0 (a b c d : Value) : List.take 0 [a, b, c] ++ [d] ++ List.drop (0 + [d].length) [a, b, c] = [d, b, c] := (id rfl)
theorem zero3 (a b c : Value) : [a, b, c].length = 3 := rfl
/-- a result frame of the heap -/
def FrRes (h0 h' : Heap) (v : Value) (e : Int) (r : Option (Bool × Nat × List UInt8)) : Prop :=
  match r with
  | none => v = frV false 0 none 0 0 ∧ e = 2
  | some (ack, num, body) => e = 0 ∧ ∃ a c, v = frV ack num a body.length c ∧ SB h' (.slice a body.length c) body
/-- the end of frame.Get -/
theorem fget_end {h0 h : Heap} {q2 q5 p : Nat} {z : List Value} {ack : Bool} {num : Nat} {a : Option Addr} {c : Nat} {body : List UInt8} {r : Option (List UInt8)} (hz : z.length = 3)
    (c2 : Cells h q2 57 z) (c5 : Cells h q5 57 [.bool ack, .int .u64 num, .slice a body.length c]) (h25 : q2 ≠ q5) (hlo : h0.blks.length ≤ q2) (hb : SB h (.slice a body.length c) body) (hbq : Lo (.slice a body.length c) q5 ∨ q2 < q5)
    (hb2 : blockOf (.slice a body.length c) ≠ some q2) (w : Rdr h p r) (hin : In h0.blks.length No (nm h0) h) (x0 x1 x6 x7 x8 x9 x10 x11 x12 x13 x14 x15 x16 x17 x18 x19 x20 x21 x22 x23 x24 x25 x26 x27 x28 x29 : Value) :
    ∃ v e h', codeK Try.prog (evC Try.prog) loopL c34_1 ⟨#[x0, x1, .pointer (some ⟨q2, 0, none⟩), .int .i64 0, .pointer (some ⟨p, 0, none⟩), .pointer (some ⟨q5, 0, none⟩), x6, x7, x8, x9, x10, x11, x12, x13, x14, x15, x16, x17, x18, x19, x20, x21, x22, x23, x24, x25, x26, x27, x28, x29], h⟩ (retK Try.f34 Try.prog h0) = some (.tuple #[v, .int .i64 e], h') ∧ HExt h0 h' ∧
      FrRes h0 h' v e (if endP r && goodF ack num body then some (ack, num, body) else none) := by
  rw [c34_1_eq]
  obtain ⟨h1, e1, x1⟩ := spec_good (ack := ack) (num := num) hb
  have hle : h0.blks.length ≤ h.blks.length := hin.len
  obtain ⟨za, zb, zc, rfl⟩ : ∃ za zb zc, z = [za, zb, zc] := by
    match z, hz with
    | [za, zb, zc], _ => exact ⟨_, _, _, rfl⟩
  have c2' := c2.ext x1
  have c5' := c5.ext x1
  by_cases he : endP r = true
  · by_cases hg : goodF ack num body = true
    · simp -implicitDefEqProofs only [spec_REnd w, he, e1, hg, ldF, c5.loadN (n := 3) rfl, c5'.loadN (n := 3) rfl, stF, storeN_blk c2' (o := 0) (vs := [.bool ack, .int .u64 num, .slice a body.length c]) (by simp), t3_put, bin_add, bin_sub, bin_mul, bin_lss, bin_leq, bin_gtr, bin_geq, bin_eql, bin_neq, un_not, un_neg, Option.bind_some, Option.bind_none, Option.map_some, cnd_true, cnd_false, pickV_true, pickV_false, gd_true, gd_false, gdV_true, gdV_false, gdH_true, gdH_false, gdS_true, gdS_false, wt_ff, wt_tt, wt_ft, wt_tf, wt_undef, obH_some', extractV_tuple, nilCheckV_ptr, againK_normal, againK_exit, againK_ret, blockK_normal, blockK_same, blockK_ret, seqK_normal, seqK_exit, seqK_ret, fin_done, if_true', if_false', Bool.not_true, Bool.not_false, idx0, idx1, idx2, idx3, idx4, chk_nil_l, chk_nil_r, done_nm]
      rw [ret34]
      have c3 := c2'.put [.bool ack, .int .u64 num, .slice a body.length c]
      simp -implicitDefEqProofs only [ldF, c3.loadN (n := 3) rfl, Option.map_some, Option.bind_some, rvals_two, fin_done]
      refine ⟨_, 0, _, rfl, done_ext' ((hin.trans (x1.inn hle)).trans (In.put (by have := x1.len; omega) (.inl hlo) _)), ?_⟩
      simp only [Bool.and_self, if_true, FrRes]
      exact ⟨trivial, a, c, rfl, ((hb.ext x1).keepPut hb2 _).done⟩
    · have hg' : goodF ack num body = false := by simpa using hg
      simp -implicitDefEqProofs only [spec_REnd w, he, e1, hg', ldF, c5.loadN (n := 3) rfl, bdF0, stF, storeN_blk c2' (o := 0) (vs := [.bool false, .int .u64 0, .slice none 0 0]) (by simp), t3_put, bin_add, bin_sub, bin_mul, bin_lss, bin_leq, bin_gtr, bin_geq, bin_eql, bin_neq, un_not, un_neg, Option.bind_some, Option.bind_none, Option.map_some, cnd_true, cnd_false, pickV_true, pickV_false, gd_true, gd_false, gdV_true, gdV_false, gdH_true, gdH_false, gdS_true, gdS_false, wt_ff, wt_tt, wt_ft, wt_tf, wt_undef, obH_some', extractV_tuple, nilCheckV_ptr, againK_normal, againK_exit, againK_ret, blockK_normal, blockK_same, blockK_ret, seqK_normal, seqK_exit, seqK_ret, fin_done, if_true', if_false', Bool.not_true, Bool.not_false, idx0, idx1, idx2, idx3, idx4, chk_nil_l, chk_nil_r, done_nm]
      rw [ret34]
      have c3 := c2'.put [.bool false, .int .u64 0, .slice none 0 0]
      simp -implicitDefEqProofs only [ldF, c3.loadN (n := 3) rfl, Option.map_some, Option.bind_some, rvals_two, fin_done]
      exact ⟨_, 2, _, rfl, done_ext' ((hin.trans (x1.inn hle)).trans (In.put (by have := x1.len; omega) (.inl hlo) _)), by simp [FrRes]⟩
  · have he' : endP r = false := by simpa using he
    simp -implicitDefEqProofs only [spec_REnd w, he', bdF0, stF, storeN_blk c2 (o := 0) (vs := [.bool false, .int .u64 0, .slice none 0 0]) (by simp), t3_put, bin_add, bin_sub, bin_mul, bin_lss, bin_leq, bin_gtr, bin_geq, bin_eql, bin_neq, un_not, un_neg, Option.bind_some, Option.bind_none, Option.map_some, cnd_true, cnd_false, pickV_true, pickV_false, gd_true, gd_false, gdV_true, gdV_false, gdH_true, gdH_false, gdS_true, gdS_false, wt_ff, wt_tt, wt_ft, wt_tf, wt_undef, obH_some', extractV_tuple, nilCheckV_ptr, againK_normal, againK_exit, againK_ret, blockK_normal, blockK_same, blockK_ret, seqK_normal, seqK_exit, seqK_ret, fin_done, if_true', if_false', Bool.not_true, Bool.not_false, idx0, idx1, idx2, idx3, idx4, chk_nil_l, chk_nil_r, done_nm]
    rw [ret34]
    have c3 := c2.put [.bool false, .int .u64 0, .slice none 0 0]
    simp -implicitDefEqProofs only [ldF, c3.loadN (n := 3) rfl, Option.map_some, Option.bind_some, rvals_two, fin_done]
    exact ⟨_, 2, _, rfl, done_ext' (hin.trans (In.put hle (.inl hlo) _)), by simp [FrRes]⟩
theorem spec_FGet {h : Heap} {x : Value} {bs : List UInt8} (hx : SB h x bs) (hl : bs.length < 2 ^ 40) :
    ∃ v e h', evC Try.prog 34 #[x] h = some (.tuple #[v, .int .i64 e], h') ∧ HExt h h' ∧ FrRes h h' v e (getF bs) := by
  rw [call34, c34_0_eq]
  have l0 : ((nm h).new (.cells [.bool false, .int .u64 0, .slice none 0 0]) 57).blks.length = h.blks.length + 1 := by simp [Heap.new]
  have c2 := Cells.new (nm h) 57 [.bool false, .int .u64 0, .slice none 0 0]
  have hal := alF (nm h)
  have hx0 : In h.blks.length No (nm h) _ := In.new (by simp) (.cells [.bool false, .int .u64 0, .slice none 0 0]) 57
  have hx1 := hx.nm.keepNew (.cells [.bool false, .int .u64 0, .slice none 0 0]) 57
  generalize (nm h).new (.cells [.bool false, .int .u64 0, .slice none 0 0]) 57 = h1 at *
  obtain ⟨h3, p, e3, x3, w3, hp⟩ := spec_NewReader hx1 (by omega)
  have l3 := x3.len
  simp only [nm_blks] at c2 hal
  have c23 := c2.ext x3
  have nj : ∀ b, b < p → ¬ Just p b := fun b hb hs => by have : b = p := hs; omega
  have nn : ∀ b, b < h.blks.length → Just p b → No b := fun b hb hs => by have : b = p := hs; omega
  obtain ⟨h5, e5, x5, w5⟩ := spec_RNum w3 1 (by omega) (by simp [rbs]; omega)
  have n5 := numP_le (some bs) 1
  have hrb : (rbs (some bs)).length = bs.length := rfl
  have l5 := x5.len
  have c25 := c23.mod x5 (nj _ (by omega))
  obtain ⟨h8, e8, x8, w8⟩ := spec_RNum w5 (2 ^ 64 - 1) (by omega) (by omega)
  have n8 := numP_le (numP (some bs) 1).2 (2 ^ 64 - 1)
  have l8 := x8.len
  have c28 := c25.mod x8 (nj _ (by omega))
  have hal8 := alF h8
  have c5 := Cells.new h8 57 [.bool false, .int .u64 0, .slice none 0 0]
  have s11 := Same.new h8 (.cells [.bool false, .int .u64 0, .slice none 0 0]) 57
  have i11 : In h.blks.length No h8 _ := In.new (by omega) (.cells [.bool false, .int .u64 0, .slice none 0 0]) 57
  generalize (h8).new (.cells [.bool false, .int .u64 0, .slice none 0 0]) 57 = h11 at *
  have hst := storeN_blk c5 (o := 0) (vs := [.bool (decide ((numP (some bs) 1).1 = 1)), .int .u64 ((numP (numP (some bs) 1).2 (2 ^ 64 - 1)).1 : Nat), .slice none 0 0]) (by simp)
  rw [t3_put] at hst
  have c52 := c5.put [.bool (decide ((numP (some bs) 1).1 = 1)), .int .u64 ((numP (numP (some bs) 1).2 (2 ^ 64 - 1)).1 : Nat), .slice none 0 0]
  have s12 := s11.put (Nat.le_refl h8.blks.length) (.cells [.bool (decide ((numP (some bs) 1).1 = 1)), .int .u64 ((numP (numP (some bs) 1).2 (2 ^ 64 - 1)).1 : Nat), .slice none 0 0])
  have i12 : In h.blks.length No h11 _ := In.put (p := h8.blks.length) (by have := s11.1; omega) (.inl (by omega)) (.cells [.bool (decide ((numP (some bs) 1).1 = 1)), .int .u64 ((numP (numP (some bs) 1).2 (2 ^ 64 - 1)).1 : Nat), .slice none 0 0])
  generalize h11.put h8.blks.length (.cells [.bool (decide ((numP (some bs) 1).1 = 1)), .int .u64 ((numP (numP (some bs) 1).2 (2 ^ 64 - 1)).1 : Nat), .slice none 0 0]) = h12 at *
  have c212 := c28.same s12
  have w12 := w8.same s12
  have hq5 : p < h8.blks.length := w8.lt
  have hin : In h.blks.length No (nm h) h12 := ((((hx0.trans (x3.inn (by omega))).trans (x5.inn (by omega) nn)).trans (x8.inn (by omega) nn)).trans i11).trans i12
  have hdec : decide (((numP (some bs) 1).1 : Int) = 1) = decide ((numP (some bs) 1).1 = 1) := by congr 1; apply propext; omega
  by_cases hk : (numP (some bs) 1).1 = 1
  · have hd : decide ((numP (some bs) 1).1 = 1) = true := decide_eq_true hk
    rw [hd] at hst c52 hdec
    simp -implicitDefEqProofs only [hal, e3, show Value.int .u64 1 = .int .u64 ((1 : Nat) : Int) from rfl, e5, show Value.int .u64 18446744073709551615 = .int .u64 ((2 ^ 64 - 1 : Nat) : Int) from rfl, e8, bin_add, bin_sub, bin_mul, bin_lss, bin_leq, bin_gtr, bin_geq, bin_eql, bin_neq, un_not, un_neg, Option.bind_some, Option.bind_none, Option.map_some, cnd_true, cnd_false, pickV_true, pickV_false, gd_true, gd_false, gdV_true, gdV_false, gdH_true, gdH_false, gdS_true, gdS_false, wt_ff, wt_tt, wt_ft, wt_tf, wt_undef, obH_some', extractV_tuple, nilCheckV_ptr, againK_normal, againK_exit, againK_ret, blockK_normal, blockK_same, blockK_ret, seqK_normal, seqK_exit, seqK_ret, fin_done, if_true', if_false', Bool.not_true, Bool.not_false, idx0, idx1, idx2, idx3, idx4, chk_nil_l, chk_nil_r, done_nm]
    simp -implicitDefEqProofs only [show ((1 : Nat) : Int) = 1 from rfl, hdec, bdF2, hal8, stF, hst, faF0, ldBool, c52.load, three1, bin_add, bin_sub, bin_mul, bin_lss, bin_leq, bin_gtr, bin_geq, bin_eql, bin_neq, un_not, un_neg, Option.bind_some, Option.bind_none, Option.map_some, cnd_true, cnd_false, pickV_true, pickV_false, gd_true, gd_false, gdV_true, gdV_false, gdH_true, gdH_false, gdS_true, gdS_false, wt_ff, wt_tt, wt_ft, wt_tf, wt_undef, obH_some', extractV_tuple, nilCheckV_ptr, againK_normal, againK_exit, againK_ret, blockK_normal, blockK_same, blockK_ret, seqK_normal, seqK_exit, seqK_ret, fin_done, if_true', if_false', Bool.not_true, Bool.not_false, idx0, idx1, idx2, idx3, idx4, chk_nil_l, chk_nil_r, done_nm]
    have := fget_end (h0 := h) (q2 := h.blks.length) (q5 := h8.blks.length) (p := p) (body := []) (a := none) (c := 0) rfl c212 c52 (by omega) (Nat.le_refl _) .nil (.inr (by omega)) (by simp [blockOf]) w12 hin
    have hgf : getF bs = if endP (numP (numP (some bs) 1).2 (2 ^ 64 - 1)).2 && goodF true (numP (numP (some bs) 1).2 (2 ^ 64 - 1)).1 [] then some (true, (numP (numP (some bs) 1).2 (2 ^ 64 - 1)).1, []) else none := by
      simp only [getF, hk, if_true, decide_true]
    rw [hgf]
    exact this _ _ _ _ _ _ _ _ _ _ _ _ _ _ _ _ _ _ _ _ _ _ _ _ _ _
  · have hd : decide ((numP (some bs) 1).1 = 1) = false := decide_eq_false hk
    rw [hd] at hst c52 hdec
    have n12 : (rbs (numP (numP (some bs) 1).2 (2 ^ 64 - 1)).2).length ≤ bs.length := by omega
    obtain ⟨a7, c7, h7, e7, x7, w7, s7⟩ := spec_RBytes w12 30000 (by omega) (by omega)
    have l12 := s12.1
    have l7 := x7.len
    have c27 := c212.mod x7 (nj _ (by omega))
    have c57 := c52.mod x7 (fun hs => by have : h8.blks.length = p := hs; omega)
    have h50 : blockOf (.slice a7 (bytesP (numP (numP (some bs) 1).2 (2 ^ 64 - 1)).2 30000).1.length c7) ≠ some h8.blks.length := s7.ne (by have := c52.lt; omega)
    have h20 : blockOf (.slice a7 (bytesP (numP (numP (some bs) 1).2 (2 ^ 64 - 1)).2 30000).1.length c7) ≠ some h.blks.length := s7.ne (by omega)
    have hst7 := storeN_blk c57 (o := 2) (vs := [.slice a7 (bytesP (numP (numP (some bs) 1).2 (2 ^ 64 - 1)).2 30000).1.length c7]) (by simp)
    rw [t3_put2] at hst7
    have c58 := c57.put [.bool false, .int .u64 ((numP (numP (some bs) 1).2 (2 ^ 64 - 1)).1 : Nat), .slice a7 (bytesP (numP (numP (some bs) 1).2 (2 ^ 64 - 1)).2 30000).1.length c7]
    have c28 := c27.keepPut (q := h8.blks.length) (by omega) (.cells [.bool false, .int .u64 ((numP (numP (some bs) 1).2 (2 ^ 64 - 1)).1 : Nat), .slice a7 (bytesP (numP (numP (some bs) 1).2 (2 ^ 64 - 1)).2 30000).1.length c7])
    have s8 := s7.sb.keepPut h50 (.cells [.bool false, .int .u64 ((numP (numP (some bs) 1).2 (2 ^ 64 - 1)).1 : Nat), .slice a7 (bytesP (numP (numP (some bs) 1).2 (2 ^ 64 - 1)).2 30000).1.length c7])
    have w8' := w7.keepPut hq5 (.cells [.bool false, .int .u64 ((numP (numP (some bs) 1).2 (2 ^ 64 - 1)).1 : Nat), .slice a7 (bytesP (numP (numP (some bs) 1).2 (2 ^ 64 - 1)).2 30000).1.length c7])
    have i8 : In h.blks.length No h7 _ := In.put (p := h8.blks.length) (by omega) (.inl (by omega)) (.cells [.bool false, .int .u64 ((numP (numP (some bs) 1).2 (2 ^ 64 - 1)).1 : Nat), .slice a7 (bytesP (numP (numP (some bs) 1).2 (2 ^ 64 - 1)).2 30000).1.length c7])
    have hin2 := (hin.trans (x7.inn (by omega) nn)).trans i8
    simp -implicitDefEqProofs only [hal, e3, show Value.int .u64 1 = .int .u64 ((1 : Nat) : Int) from rfl, e5, show Value.int .u64 18446744073709551615 = .int .u64 ((2 ^ 64 - 1 : Nat) : Int) from rfl, e8, bin_add, bin_sub, bin_mul, bin_lss, bin_leq, bin_gtr, bin_geq, bin_eql, bin_neq, un_not, un_neg, Option.bind_some, Option.bind_none, Option.map_some, cnd_true, cnd_false, pickV_true, pickV_false, gd_true, gd_false, gdV_true, gdV_false, gdH_true, gdH_false, gdS_true, gdS_false, wt_ff, wt_tt, wt_ft, wt_tf, wt_undef, obH_some', extractV_tuple, nilCheckV_ptr, againK_normal, againK_exit, againK_ret, blockK_normal, blockK_same, blockK_ret, seqK_normal, seqK_exit, seqK_ret, fin_done, if_true', if_false', Bool.not_true, Bool.not_false, idx0, idx1, idx2, idx3, idx4, chk_nil_l, chk_nil_r, done_nm]
    simp -implicitDefEqProofs only [show ((1 : Nat) : Int) = 1 from rfl, hdec, bdF2, hal8, stF, hst, faF0, faF2, ldBool, c52.load, three1, e7, show Int.toNat 30000 = 30000 from rfl, stB, hst7, bin_add, bin_sub, bin_mul, bin_lss, bin_leq, bin_gtr, bin_geq, bin_eql, bin_neq, un_not, un_neg, Option.bind_some, Option.bind_none, Option.map_some, cnd_true, cnd_false, pickV_true, pickV_false, gd_true, gd_false, gdV_true, gdV_false, gdH_true, gdH_false, gdS_true, gdS_false, wt_ff, wt_tt, wt_ft, wt_tf, wt_undef, obH_some', extractV_tuple, nilCheckV_ptr, againK_normal, againK_exit, againK_ret, blockK_normal, blockK_same, blockK_ret, seqK_normal, seqK_exit, seqK_ret, fin_done, if_true', if_false', Bool.not_true, Bool.not_false, idx0, idx1, idx2, idx3, idx4, chk_nil_l, chk_nil_r, done_nm]
    have := fget_end (h0 := h) (q2 := h.blks.length) (q5 := h8.blks.length) (p := p) rfl c28 c58 (by omega) (Nat.le_refl _) s8 (.inr (by omega)) h20 w8' hin2
    have hgf : getF bs = if endP (bytesP (numP (numP (some bs) 1).2 (2 ^ 64 - 1)).2 30000).2 && goodF false (numP (numP (some bs) 1).2 (2 ^ 64 - 1)).1 (bytesP (numP (numP (some bs) 1).2 (2 ^ 64 - 1)).2 30000).1 then some (false, (numP (numP (some bs) 1).2 (2 ^ 64 - 1)).1, (bytesP (numP (numP (some bs) 1).2 (2 ^ 64 - 1)).2 30000).1) else none := by
      simp only [getF, hk, if_false, decide_false]
    rw [hgf]
    exact this _ _ _ _ _ _ _ _ _ _ _ _ _ _ _ _ _ _ _ _ _ _ _ _ _ _
end Go.Am
namespace Go.Am
open Go.Proofs
theorem faG0 (p : Nat) : fieldAddrV Try.prog 61 (.pointer (some ⟨p, 0, none⟩)) 0 = some (.pointer (some ⟨p, 0, none⟩)) := by kernel_rfl
theorem faG1 (p : Nat) : fieldAddrV Try.prog 61 (.pointer (some ⟨p, 0, none⟩)) 1 = some (.pointer (some ⟨p, 1, none⟩)) := by kernel_rfl
theorem faG2 (p : Nat) : fieldAddrV Try.prog 61 (.pointer (some ⟨p, 0, none⟩)) 2 = some (.pointer (some ⟨p, 2, none⟩)) := by kernel_rfl
theorem bxG (a b c : Value) (h : Heap) : boxV Try.prog 61 (.agg #[a, b, c]) h = some (.pointer (some ⟨h.blks.length, 0, none⟩), h.new (.cells [a, b, c]) 61) := by kernel_rfl
theorem alG (h : Heap) : allocV Try.prog 61 h = some (.pointer (some ⟨h.blks.length, 0, none⟩), h.new (.cells [.bool false, .int .u64 0, .slice none 0 0]) 61) := by kernel_rfl
theorem ldG (p : Nat) (h : Heap) : loadV Try.prog 61 (.pointer (some ⟨p, 0, none⟩)) h = (h.loadN p 0 3).map fun cs => .agg cs.toArray := by kernel_rfl
theorem stG (p : Nat) (a : Bool) (k : IntKind) (n : Int) (ad : Option Addr) (l c : Nat) (h : Heap) : storeV Try.prog 61 (.pointer (some ⟨p, 0, none⟩)) (.agg #[.bool a, .int k n, .slice ad l c]) h = h.storeN p 0 [.bool a, .int k n, .slice ad l c] := by kernel_rfl
theorem bdG1 (a : Bool) : buildV Try.prog 61 #[(0, .bool a)] = some (.agg #[.bool a, .int .u64 0, .slice none 0 0]) := by kernel_rfl
theorem bdG0 : buildV Try.prog 61 #[] = some (.agg #[.bool false, .int .u64 0, .slice none 0 0]) := by kernel_rfl
theorem bytesP_len (r : Option (List UInt8)) (m : Nat) : (bytesP r m).1.length ≤ m := by
  have h1 := (numP_le r m).1
  unfold bytesP takeP
  split
  · simp
  · split
    · simp
    · simp; omega
theorem spec_RFPut {h : Heap} {ack : Bool} {num : Nat} {a : Option Addr} {c : Nat} {body : List UInt8} (hb : SB h (.slice a body.length c) body) (hn : num < 2 ^ 64) (hbl : body.length < 2 ^ 40) :
    ∃ a2 c2 h', evC Try.prog 37 #[frV ack num a body.length c] h = some (.slice a2 (putF ack num body).length c2, h') ∧ HExt h h' ∧ AB h.blks.length h' (.slice a2 (putF ack num body).length c2) (putF ack num body) := by
  rw [call37, c37_0_eq]
  have hc := Cells.new (nm h) 61 [.bool ack, .int .u64 num, .slice a body.length c]
  have hb1 := hb.nm.keepNew (.cells [.bool ack, .int .u64 num, .slice a body.length c]) 61
  have hx : In h.blks.length No (nm h) _ := In.new (by simp) (.cells [.bool ack, .int .u64 num, .slice a body.length c]) 61
  have l1 : ((nm h).new (.cells [.bool ack, .int .u64 num, .slice a body.length c]) 61).blks.length = h.blks.length + 1 := by simp [Heap.new]
  have hbx := bxG (.bool ack) (.int .u64 num) (.slice a body.length c) (nm h)
  generalize (nm h).new (.cells [.bool ack, .int .u64 num, .slice a body.length c]) 61 = h1 at *
  simp only [nm_blks] at hc hbx
  have hblk : ∀ b, blockOf (.slice a body.length c) = some b → b < h.blks.length := fun b hb' => hb.lt hb'
  -- the writer
  have hw := bxRW (.slice none 0 0) h1
  have w3 : WrR h1.blks.length (h1.new (.cells [.slice none 0 0]) 88) h1.blks.length [] := ⟨none, 0, Cells.new _ _ _, .nil, by simp [blockOf]⟩
  have x3 : Same h1 _ := Same.new h1 (.cells [.slice none 0 0]) 88
  have i3 : In h.blks.length No h1 _ := In.new (by omega) (.cells [.slice none 0 0]) 88
  generalize h1.new (.cells [.slice none 0 0]) 88 = h3 at *
  have hc3 := hc.same x3
  have hb3 := hb1.same x3
  have l3 := x3.1
  have ne : ∀ b, b < h1.blks.length → ¬ Just h1.blks.length b := fun b hb hs => by have : b = h1.blks.length := hs; omega
  have nn : ∀ b, b < h.blks.length → Just h1.blks.length b → No b := fun b hb hs => by have : b = h1.blks.length := hs; omega
  have p0 := putL_le 0 (by omega)
  have p1 := putL_le 1 (by omega)
  have p2 := putL_le num hn
  cases ack with
  | true =>
    by_cases hg : body.length = 0
    · have hp : putF true num body = putL 1 ++ putL num := by simp [putF, goodF, hg]
      rw [hp]
      obtain ⟨h4, e4, x4, w4⟩ := spec_RWNum w3 l3 1 (by omega) (by simp)
      have l4 := x4.len
      have hc4 := hc3.mod x4 (ne _ (by omega))
      obtain ⟨h5, e5, x5, w5⟩ := spec_RWNum w4 l4 num hn (by simp only [List.nil_append]; omega)
      obtain ⟨a6, c6, k6, s6, _⟩ := w5
      have hin : In h.blks.length No (nm h) h5 := (((hx.trans i3).trans (x4.inn (by omega) nn)).trans (x5.inn (by omega) nn))
      have s7 : AB h.blks.length h5 _ _ := s6.up (by omega)
      rw [List.nil_append] at s7 k6
      simp -implicitDefEqProofs (disch := omega) only [dcT, dcF, hbx, faG0, faG1, faG2, ldBool, ldB, ld64, hc.load, hb1.row.len_eq etB.under, bdRW, hw, hc3.load, hc4.load, three1, three2, three3, e4, e5, faRW, k6.load, List.getElem?_cons_zero, bin_add, bin_sub, bin_mul, bin_lss, bin_leq, bin_gtr, bin_geq, bin_eql, bin_neq, un_not, un_neg, Option.bind_some, Option.bind_none, Option.map_some, cnd_true, cnd_false, pickV_true, pickV_false, gd_true, gd_false, gdV_true, gdV_false, gdH_true, gdH_false, gdS_true, gdS_false, wt_ff, wt_tt, wt_ft, wt_tf, wt_undef, obH_some', extractV_tuple, nilCheckV_ptr, againK_normal, againK_exit, againK_ret, blockK_normal, blockK_same, blockK_ret, seqK_normal, seqK_exit, seqK_ret, fin_done, if_true', if_false', Bool.not_true, Bool.not_false, idx0, idx1, idx2, idx3, idx4, chk_nil_l, chk_nil_r, done_nm, show Value.int .u64 1 = .int .u64 ((1 : Nat) : Int) from rfl]
      rw [ret37, fin_done]
      exact ⟨a6, c6, _, rfl, done_ext' hin, s7.done⟩
    · have hp : putF true num body = [] := by simp [putF, goodF, hg]
      rw [hp]
      simp -implicitDefEqProofs (disch := omega) only [dcT, dcF, hbx, faG0, faG1, faG2, ldBool, ldB, ld64, hc.load, hb1.row.len_eq etB.under, three1, three2, three3, bin_add, bin_sub, bin_mul, bin_lss, bin_leq, bin_gtr, bin_geq, bin_eql, bin_neq, un_not, un_neg, Option.bind_some, Option.bind_none, Option.map_some, cnd_true, cnd_false, pickV_true, pickV_false, gd_true, gd_false, gdV_true, gdV_false, gdH_true, gdH_false, gdS_true, gdS_false, wt_ff, wt_tt, wt_ft, wt_tf, wt_undef, obH_some', extractV_tuple, nilCheckV_ptr, againK_normal, againK_exit, againK_ret, blockK_normal, blockK_same, blockK_ret, seqK_normal, seqK_exit, seqK_ret, fin_done, if_true', if_false', Bool.not_true, Bool.not_false, idx0, idx1, idx2, idx3, idx4, chk_nil_l, chk_nil_r, done_nm]
      rw [ret37, fin_done]
      exact ⟨none, 0, _, rfl, done_ext' hx, .nil⟩
  | false =>
    by_cases hg : 0 < num ∧ body.length ≤ 30000
    · have hp : putF false num body = putL 0 ++ putL num ++ putL body.length ++ body := by simp [putF, goodF, hg.1, hg.2]
      rw [hp]
      have p3 := putL_le body.length (by omega)
      obtain ⟨h4, e4, x4, w4⟩ := spec_RWNum w3 l3 0 (by omega) (by simp)
      have l4 := x4.len
      have hc4 := hc3.mod x4 (ne _ (by omega))
      obtain ⟨h5, e5, x5, w5⟩ := spec_RWNum w4 l4 num hn (by simp only [List.nil_append]; omega)
      have l5 := x5.len
      have hc5 := hc4.mod x5 (ne _ (by omega))
      have hb5 := (hb3.mod x4 fun b hb' => ne b (by have := hblk b hb'; omega)).mod x5 fun b hb' => ne b (by have := hblk b hb'; omega)
      obtain ⟨h6, e6, x6, w6⟩ := spec_RWBytes w5 l5 hb5 (fun e => by have := hblk _ e; omega) (by simp only [List.nil_append, List.length_append]; omega) (by omega)
      obtain ⟨a6, c6, k6, s6, _⟩ := w6
      have hin : In h.blks.length No (nm h) h6 := ((((hx.trans i3).trans (x4.inn (by omega) nn)).trans (x5.inn (by omega) nn)).trans (x6.inn (by omega) nn))
      have s7 : AB h.blks.length h6 _ _ := s6.up (by omega)
      rw [List.nil_append] at s7 k6
      simp -implicitDefEqProofs (disch := omega) only [dcT, dcF, hbx, faG0, faG1, faG2, ldBool, ldB, ld64, hc.load, hb1.row.len_eq etB.under, bdRW, hw, hc3.load, hc4.load, hc5.load, three1, three2, three3, e4, e5, e6, faRW, k6.load, List.getElem?_cons_zero, bin_add, bin_sub, bin_mul, bin_lss, bin_leq, bin_gtr, bin_geq, bin_eql, bin_neq, un_not, un_neg, Option.bind_some, Option.bind_none, Option.map_some, cnd_true, cnd_false, pickV_true, pickV_false, gd_true, gd_false, gdV_true, gdV_false, gdH_true, gdH_false, gdS_true, gdS_false, wt_ff, wt_tt, wt_ft, wt_tf, wt_undef, obH_some', extractV_tuple, nilCheckV_ptr, againK_normal, againK_exit, againK_ret, blockK_normal, blockK_same, blockK_ret, seqK_normal, seqK_exit, seqK_ret, fin_done, if_true', if_false', Bool.not_true, Bool.not_false, idx0, idx1, idx2, idx3, idx4, chk_nil_l, chk_nil_r, done_nm, show Value.int .u64 0 = .int .u64 ((0 : Nat) : Int) from rfl]
      rw [ret37, fin_done]
      exact ⟨a6, c6, _, rfl, done_ext' hin, s7.done⟩
    · have hp : putF false num body = [] := by
        have : goodF false num body = false := by simp [goodF]; omega
        simp [putF, this]
      rw [hp]
      by_cases h0 : num = 0
      all_goals
        simp -implicitDefEqProofs (disch := omega) only [dcT, dcF, hbx, faG0, faG1, faG2, ldBool, ldB, ld64, hc.load, hb1.row.len_eq etB.under, three1, three2, three3, bin_add, bin_sub, bin_mul, bin_lss, bin_leq, bin_gtr, bin_geq, bin_eql, bin_neq, un_not, un_neg, Option.bind_some, Option.bind_none, Option.map_some, cnd_true, cnd_false, pickV_true, pickV_false, gd_true, gd_false, gdV_true, gdV_false, gdH_true, gdH_false, gdS_true, gdS_false, wt_ff, wt_tt, wt_ft, wt_tf, wt_undef, obH_some', extractV_tuple, nilCheckV_ptr, againK_normal, againK_exit, againK_ret, blockK_normal, blockK_same, blockK_ret, seqK_normal, seqK_exit, seqK_ret, fin_done, if_true', if_false', Bool.not_true, Bool.not_false, idx0, idx1, idx2, idx3, idx4, chk_nil_l, chk_nil_r, done_nm]
        rw [ret37, fin_done]
        exact ⟨none, 0, _, rfl, done_ext' hx, .nil⟩
/-- a result frame of the reference -/
def FrResR (h' : Heap) (v : Value) (ok : Bool) (r : Option (Bool × Nat × List UInt8)) : Prop :=
  match r with
  | none => v = frV false 0 none 0 0 ∧ ok = false
  | some (ack, num, body) => ok = true ∧ ∃ a c, v = frV ack num a body.length c ∧ SB h' (.slice a body.length c) body
theorem rfget_end {h0 h : Heap} {q2 q5 p : Nat} {z : List Value} {ack : Bool} {num : Nat} {a : Option Addr} {c : Nat} {body : List UInt8} {r : Option (List UInt8)} (hz : z.length = 3)
    (c2 : Cells h q2 61 z) (c5 : Cells h q5 61 [.bool ack, .int .u64 num, .slice a body.length c]) (h25 : q2 ≠ q5) (hlo : h0.blks.length ≤ q2) (hb : SB h (.slice a body.length c) body)
    (hb2 : blockOf (.slice a body.length c) ≠ some q2) (w : RdrR h p r) (hin : In h0.blks.length No (nm h0) h) (hbl : body.length ≤ 30000) (hab : ack = true → body = []) (x0 x1 x6 x7 x8 x9 x10 x11 x12 x13 x14 x15 x16 x17 x18 x19 x20 x21 x22 x23 x24 x25 x26 x27 x28 x29 x30 x31 x32 x33 x34 x35 x36 : Value) :
    ∃ v e h', codeK Try.prog (evC Try.prog) loopL c36_1 ⟨#[x0, x1, .pointer (some ⟨q2, 0, none⟩), .bool false, .pointer (some ⟨p, 0, none⟩), .pointer (some ⟨q5, 0, none⟩), x6, x7, x8, x9, x10, x11, x12, x13, x14, x15, x16, x17, x18, x19, x20, x21, x22, x23, x24, x25, x26, x27, x28, x29, x30, x31, x32, x33, x34, x35, x36], h⟩ (retK Try.f36 Try.prog h0) = some (.tuple #[v, .bool e], h') ∧ HExt h0 h' ∧
      FrResR h' v e (if endP r && goodF ack num body then some (ack, num, body) else none) := by
  rw [c36_1_eq]
  have hle : h0.blks.length ≤ h.blks.length := hin.len
  obtain ⟨za, zb, zc, rfl⟩ : ∃ za zb zc, z = [za, zb, zc] := by
    match z, hz with
    | [za, zb, zc], _ => exact ⟨_, _, _, rfl⟩
  by_cases hg : (endP r && goodF ack num body) = true
  · rw [hg]
    simp only [Bool.and_eq_true] at hg
    have hfin : ∃ (xs : Unit), True := ⟨(), trivial⟩
    have c3 := c2.put [.bool ack, .int .u64 num, .slice a body.length c]
    cases ack with
    | true =>
      simp -implicitDefEqProofs (disch := omega) only [dcT, dcF, spec_RREnd w, hg.1, faG0, faG1, faG2, ldBool, ld64, ldG, c5.load, c5.loadN (n := 3) rfl, three1, three2, stG, storeN_blk c2 (o := 0) (vs := [.bool true, .int .u64 num, .slice a body.length c]) (by simp), t3_put, bin_add, bin_sub, bin_mul, bin_lss, bin_leq, bin_gtr, bin_geq, bin_eql, bin_neq, un_not, un_neg, Option.bind_some, Option.bind_none, Option.map_some, cnd_true, cnd_false, pickV_true, pickV_false, gd_true, gd_false, gdV_true, gdV_false, gdH_true, gdH_false, gdS_true, gdS_false, wt_ff, wt_tt, wt_ft, wt_tf, wt_undef, obH_some', extractV_tuple, nilCheckV_ptr, againK_normal, againK_exit, againK_ret, blockK_normal, blockK_same, blockK_ret, seqK_normal, seqK_exit, seqK_ret, fin_done, if_true', if_false', Bool.not_true, Bool.not_false, idx0, idx1, idx2, idx3, idx4, chk_nil_l, chk_nil_r, done_nm]
      rw [ret36]
      simp -implicitDefEqProofs only [ldG, c3.loadN (n := 3) rfl, Option.map_some, Option.bind_some, rvals_two, fin_done]
      refine ⟨_, true, _, rfl, done_ext' (hin.trans (In.put hle (.inl hlo) _)), ?_⟩
      simp only [if_true, FrResR]
      exact ⟨trivial, a, c, rfl, (hb.keepPut hb2 _).done⟩
    | false =>
      have hn0 : 0 < num := by
        have := hg.2
        simp only [goodF, Bool.false_eq_true, if_false, Bool.and_eq_true, decide_eq_true_eq] at this; exact this.1
      simp -implicitDefEqProofs (disch := omega) only [dcT, dcF, spec_RREnd w, hg.1, faG0, faG1, faG2, ldBool, ld64, ldG, c5.load, c5.loadN (n := 3) rfl, three1, three2, stG, storeN_blk c2 (o := 0) (vs := [.bool false, .int .u64 num, .slice a body.length c]) (by simp), t3_put, bin_add, bin_sub, bin_mul, bin_lss, bin_leq, bin_gtr, bin_geq, bin_eql, bin_neq, un_not, un_neg, Option.bind_some, Option.bind_none, Option.map_some, cnd_true, cnd_false, pickV_true, pickV_false, gd_true, gd_false, gdV_true, gdV_false, gdH_true, gdH_false, gdS_true, gdS_false, wt_ff, wt_tt, wt_ft, wt_tf, wt_undef, obH_some', extractV_tuple, nilCheckV_ptr, againK_normal, againK_exit, againK_ret, blockK_normal, blockK_same, blockK_ret, seqK_normal, seqK_exit, seqK_ret, fin_done, if_true', if_false', Bool.not_true, Bool.not_false, idx0, idx1, idx2, idx3, idx4, chk_nil_l, chk_nil_r, done_nm]
      rw [ret36]
      simp -implicitDefEqProofs only [ldG, c3.loadN (n := 3) rfl, Option.map_some, Option.bind_some, rvals_two, fin_done]
      refine ⟨_, true, _, rfl, done_ext' (hin.trans (In.put hle (.inl hlo) _)), ?_⟩
      simp only [if_true, FrResR]
      exact ⟨trivial, a, c, rfl, (hb.keepPut hb2 _).done⟩
  · rw [if_neg hg]
    have c3 := c2.put [.bool false, .int .u64 0, .slice none 0 0]
    have hg' : endP r = false ∨ (endP r = true ∧ ack = false ∧ num = 0) := by
      cases he : endP r with
      | false => exact .inl rfl
      | true =>
        right
        cases ack with
        | true => obtain rfl := hab rfl; simp [he, goodF] at hg
        | false => simp [he, goodF] at hg; exact ⟨rfl, rfl, by omega⟩
    rcases hg' with he | ⟨he, rfl, hn⟩
    all_goals
      simp -implicitDefEqProofs (disch := omega) only [dcT, dcF, spec_RREnd w, he, faG0, faG1, faG2, ldBool, ld64, ldG, c5.load, three1, three2, bdG0, stG, storeN_blk c2 (o := 0) (vs := [.bool false, .int .u64 0, .slice none 0 0]) (by simp), t3_put, bin_add, bin_sub, bin_mul, bin_lss, bin_leq, bin_gtr, bin_geq, bin_eql, bin_neq, un_not, un_neg, Option.bind_some, Option.bind_none, Option.map_some, cnd_true, cnd_false, pickV_true, pickV_false, gd_true, gd_false, gdV_true, gdV_false, gdH_true, gdH_false, gdS_true, gdS_false, wt_ff, wt_tt, wt_ft, wt_tf, wt_undef, obH_some', extractV_tuple, nilCheckV_ptr, againK_normal, againK_exit, againK_ret, blockK_normal, blockK_same, blockK_ret, seqK_normal, seqK_exit, seqK_ret, fin_done, if_true', if_false', Bool.not_true, Bool.not_false, idx0, idx1, idx2, idx3, idx4, chk_nil_l, chk_nil_r, done_nm]
      rw [ret36]
      simp -implicitDefEqProofs only [ldG, c3.loadN (n := 3) rfl, Option.map_some, Option.bind_some, rvals_two, fin_done]
      exact ⟨_, false, _, rfl, done_ext' (hin.trans (In.put hle (.inl hlo) _)), by simp [FrResR]⟩
theorem spec_RFGet {h : Heap} {x : Value} {bs : List UInt8} (hx : SB h x bs) (hl : bs.length < 2 ^ 40) :
    ∃ v e h', evC Try.prog 36 #[x] h = some (.tuple #[v, .bool e], h') ∧ HExt h h' ∧ FrResR h' v e (getF bs) := by
  rw [call36, c36_0_eq]
  obtain ⟨ax, cx, rfl⟩ := hx.shape
  have l0 : ((nm h).new (.cells [.bool false, .int .u64 0, .slice none 0 0]) 61).blks.length = h.blks.length + 1 := by simp [Heap.new]
  have c2 := Cells.new (nm h) 61 [.bool false, .int .u64 0, .slice none 0 0]
  have hal := alG (nm h)
  have hx0 : In h.blks.length No (nm h) _ := In.new (by simp) (.cells [.bool false, .int .u64 0, .slice none 0 0]) 61
  have hx1 : SB _ (.slice ax bs.length cx) bs := hx.nm.keepNew (.cells [.bool false, .int .u64 0, .slice none 0 0]) 61
  generalize (nm h).new (.cells [.bool false, .int .u64 0, .slice none 0 0]) 61 = h1 at *
  simp only [nm_blks] at c2 hal
  -- the reader
  have hrd := bxRR (.slice ax bs.length cx) (.bool false) h1
  have w3 : RdrR (h1.new (.cells [.slice ax bs.length cx, .bool false]) 85) h1.blks.length (some bs) := ⟨ax, cx, Cells.new _ _ _, hx1.keepNew _ _, hx1.lo⟩
  have x3 : Same h1 _ := Same.new h1 (.cells [.slice ax bs.length cx, .bool false]) 85
  have i3 : In h.blks.length No h1 _ := In.new (by omega) (.cells [.slice ax bs.length cx, .bool false]) 85
  generalize h1.new (.cells [.slice ax bs.length cx, .bool false]) 85 = h3 at *
  have l3 := x3.1
  have hp : h1.blks.length < h3.blks.length := w3.lt
  have c23 := c2.same x3
  generalize hpp : h1.blks.length = p at *
  have nj : ∀ b, b < p → ¬ Just p b := fun b hb hs => by have : b = p := hs; omega
  have nn : ∀ b, b < h.blks.length → Just p b → No b := fun b hb hs => by have : b = p := hs; omega
  obtain ⟨h5, e5, x5, w5⟩ := spec_RRNum w3 1 (by omega) (by simp [rbs]; omega)
  have n5 := numP_le (some bs) 1
  have hrb : (rbs (some bs)).length = bs.length := rfl
  have l5 := x5.len
  have c25 := c23.mod x5 (nj _ (by omega))
  have hal5 := alG h5
  have c5 := Cells.new h5 61 [.bool false, .int .u64 0, .slice none 0 0]
  have s11 := Same.new h5 (.cells [.bool false, .int .u64 0, .slice none 0 0]) 61
  have i11 : In h.blks.length No h5 _ := In.new (by omega) (.cells [.bool false, .int .u64 0, .slice none 0 0]) 61
  generalize (h5).new (.cells [.bool false, .int .u64 0, .slice none 0 0]) 61 = h11 at *
  have hst := storeN_blk c5 (o := 0) (vs := [.bool (decide ((numP (some bs) 1).1 = 1)), .int .u64 0, .slice none 0 0]) (by simp)
  rw [t3_put] at hst
  have c52 := c5.put [.bool (decide ((numP (some bs) 1).1 = 1)), .int .u64 0, .slice none 0 0]
  have s12 := s11.put (Nat.le_refl h5.blks.length) (.cells [.bool (decide ((numP (some bs) 1).1 = 1)), .int .u64 0, .slice none 0 0])
  have i12 : In h.blks.length No h11 _ := In.put (p := h5.blks.length) (by have := s11.1; omega) (.inl (by omega)) (.cells [.bool (decide ((numP (some bs) 1).1 = 1)), .int .u64 0, .slice none 0 0])
  generalize h11.put h5.blks.length (.cells [.bool (decide ((numP (some bs) 1).1 = 1)), .int .u64 0, .slice none 0 0]) = h12 at *
  have c212 := c25.same s12
  have w12 := w5.same s12
  have l12 := s12.1
  obtain ⟨h8, e8, x8, w8⟩ := spec_RRNum w12 (2 ^ 64 - 1) (by omega) (by omega)
  have n8 := numP_le (numP (some bs) 1).2 (2 ^ 64 - 1)
  have l8 := x8.len
  have c28 := c212.mod x8 (nj _ (by omega))
  have c58 := c52.mod x8 (fun hs => by have : h5.blks.length = p := hs; omega)
  have hst8 := storeN_blk c58 (o := 1) (vs := [.int .u64 ((numP (numP (some bs) 1).2 (2 ^ 64 - 1)).1 : Nat)]) (by simp)
  rw [t3_put1] at hst8
  have c59 := c58.put [.bool (decide ((numP (some bs) 1).1 = 1)), .int .u64 ((numP (numP (some bs) 1).2 (2 ^ 64 - 1)).1 : Nat), .slice none 0 0]
  have c29 := c28.keepPut (q := h5.blks.length) (by omega) (.cells [.bool (decide ((numP (some bs) 1).1 = 1)), .int .u64 ((numP (numP (some bs) 1).2 (2 ^ 64 - 1)).1 : Nat), .slice none 0 0])
  have w9 := w8.keepPut (q := h5.blks.length) (by omega) (.cells [.bool (decide ((numP (some bs) 1).1 = 1)), .int .u64 ((numP (numP (some bs) 1).2 (2 ^ 64 - 1)).1 : Nat), .slice none 0 0])
  have i9 : In h.blks.length No h8 _ := In.put (p := h5.blks.length) (by omega) (.inl (by omega)) (.cells [.bool (decide ((numP (some bs) 1).1 = 1)), .int .u64 ((numP (numP (some bs) 1).2 (2 ^ 64 - 1)).1 : Nat), .slice none 0 0])
  have l9 : (h8.put h5.blks.length (.cells [.bool (decide ((numP (some bs) 1).1 = 1)), .int .u64 ((numP (numP (some bs) 1).2 (2 ^ 64 - 1)).1 : Nat), .slice none 0 0])).blks.length = h8.blks.length := Heap.put_len _ _ _
  generalize h8.put h5.blks.length (.cells [.bool (decide ((numP (some bs) 1).1 = 1)), .int .u64 ((numP (numP (some bs) 1).2 (2 ^ 64 - 1)).1 : Nat), .slice none 0 0]) = h9 at *
  have hin : In h.blks.length No (nm h) h9 := (((((hx0.trans i3).trans (x5.inn (by omega) nn)).trans i11).trans i12).trans (x8.inn (by omega) nn)).trans i9
  have hdec : decide (((numP (some bs) 1).1 : Int) = 1) = decide ((numP (some bs) 1).1 = 1) := by congr 1; apply propext; omega
  by_cases hk : (numP (some bs) 1).1 = 1
  · have hd : decide ((numP (some bs) 1).1 = 1) = true := decide_eq_true hk
    rw [hd] at hst c52 c59 hdec
    simp -implicitDefEqProofs only [hal, bdRR, hrd, show Value.int .u64 1 = .int .u64 ((1 : Nat) : Int) from rfl, e5, bin_add, bin_sub, bin_mul, bin_lss, bin_leq, bin_gtr, bin_geq, bin_eql, bin_neq, un_not, un_neg, Option.bind_some, Option.bind_none, Option.map_some, cnd_true, cnd_false, pickV_true, pickV_false, gd_true, gd_false, gdV_true, gdV_false, gdH_true, gdH_false, gdS_true, gdS_false, wt_ff, wt_tt, wt_ft, wt_tf, wt_undef, obH_some', extractV_tuple, nilCheckV_ptr, againK_normal, againK_exit, againK_ret, blockK_normal, blockK_same, blockK_ret, seqK_normal, seqK_exit, seqK_ret, fin_done, if_true', if_false', Bool.not_true, Bool.not_false, idx0, idx1, idx2, idx3, idx4, chk_nil_l, chk_nil_r, done_nm]
    simp -implicitDefEqProofs only [show ((1 : Nat) : Int) = 1 from rfl, hdec, bdG1, hal5, stG, hst, show Value.int .u64 18446744073709551615 = .int .u64 ((2 ^ 64 - 1 : Nat) : Int) from rfl, e8, faG0, faG1, st64, hst8, ldBool, c59.load, three1, bin_add, bin_sub, bin_mul, bin_lss, bin_leq, bin_gtr, bin_geq, bin_eql, bin_neq, un_not, un_neg, Option.bind_some, Option.bind_none, Option.map_some, cnd_true, cnd_false, pickV_true, pickV_false, gd_true, gd_false, gdV_true, gdV_false, gdH_true, gdH_false, gdS_true, gdS_false, wt_ff, wt_tt, wt_ft, wt_tf, wt_undef, obH_some', extractV_tuple, nilCheckV_ptr, againK_normal, againK_exit, againK_ret, blockK_normal, blockK_same, blockK_ret, seqK_normal, seqK_exit, seqK_ret, fin_done, if_true', if_false', Bool.not_true, Bool.not_false, idx0, idx1, idx2, idx3, idx4, chk_nil_l, chk_nil_r, done_nm]
    have := rfget_end (h0 := h) (q2 := h.blks.length) (q5 := h5.blks.length) (p := p) (body := []) (a := none) (c := 0) rfl c29 c59 (by omega) (Nat.le_refl _) .nil (by simp [blockOf]) w9 hin (by simp) (fun _ => rfl)
    have hgf : getF bs = if endP (numP (numP (some bs) 1).2 (2 ^ 64 - 1)).2 && goodF true (numP (numP (some bs) 1).2 (2 ^ 64 - 1)).1 [] then some (true, (numP (numP (some bs) 1).2 (2 ^ 64 - 1)).1, []) else none := by
      simp only [getF, hk, if_true, decide_true]
    rw [hgf]
    exact this _ _ _ _ _ _ _ _ _ _ _ _ _ _ _ _ _ _ _ _ _ _ _ _ _ _ _ _ _ _ _ _ _
  · have hd : decide ((numP (some bs) 1).1 = 1) = false := decide_eq_false hk
    rw [hd] at hst c52 c59 hdec
    obtain ⟨a7, c7, h7, e7, x7, w7, s7⟩ := spec_RRBytes w9 30000 (by omega) (by omega) (by omega)
    have l7 := x7.len
    have c27 := c29.mod x7 (nj _ (by omega))
    have c57 := c59.mod x7 (fun hs => by have : h5.blks.length = p := hs; omega)
    have h50 : blockOf (.slice a7 (bytesP (numP (numP (some bs) 1).2 (2 ^ 64 - 1)).2 30000).1.length c7) ≠ some h5.blks.length := s7.ne (by have := c59.lt; omega)
    have h20 : blockOf (.slice a7 (bytesP (numP (numP (some bs) 1).2 (2 ^ 64 - 1)).2 30000).1.length c7) ≠ some h.blks.length := s7.ne (by omega)
    have hst7 := storeN_blk c57 (o := 2) (vs := [.slice a7 (bytesP (numP (numP (some bs) 1).2 (2 ^ 64 - 1)).2 30000).1.length c7]) (by simp)
    rw [t3_put2] at hst7
    have c5a := c57.put [.bool false, .int .u64 ((numP (numP (some bs) 1).2 (2 ^ 64 - 1)).1 : Nat), .slice a7 (bytesP (numP (numP (some bs) 1).2 (2 ^ 64 - 1)).2 30000).1.length c7]
    have c2a := c27.keepPut (q := h5.blks.length) (by omega) (.cells [.bool false, .int .u64 ((numP (numP (some bs) 1).2 (2 ^ 64 - 1)).1 : Nat), .slice a7 (bytesP (numP (numP (some bs) 1).2 (2 ^ 64 - 1)).2 30000).1.length c7])
    have s8 := s7.sb.keepPut h50 (.cells [.bool false, .int .u64 ((numP (numP (some bs) 1).2 (2 ^ 64 - 1)).1 : Nat), .slice a7 (bytesP (numP (numP (some bs) 1).2 (2 ^ 64 - 1)).2 30000).1.length c7])
    have w8' := w7.keepPut (q := h5.blks.length) (by omega) (.cells [.bool false, .int .u64 ((numP (numP (some bs) 1).2 (2 ^ 64 - 1)).1 : Nat), .slice a7 (bytesP (numP (numP (some bs) 1).2 (2 ^ 64 - 1)).2 30000).1.length c7])
    have i8 : In h.blks.length No h7 _ := In.put (p := h5.blks.length) (by omega) (.inl (by omega)) (.cells [.bool false, .int .u64 ((numP (numP (some bs) 1).2 (2 ^ 64 - 1)).1 : Nat), .slice a7 (bytesP (numP (numP (some bs) 1).2 (2 ^ 64 - 1)).2 30000).1.length c7])
    have hin2 := (hin.trans (x7.inn (by omega) nn)).trans i8
    simp -implicitDefEqProofs only [hal, bdRR, hrd, show Value.int .u64 1 = .int .u64 ((1 : Nat) : Int) from rfl, e5, bin_add, bin_sub, bin_mul, bin_lss, bin_leq, bin_gtr, bin_geq, bin_eql, bin_neq, un_not, un_neg, Option.bind_some, Option.bind_none, Option.map_some, cnd_true, cnd_false, pickV_true, pickV_false, gd_true, gd_false, gdV_true, gdV_false, gdH_true, gdH_false, gdS_true, gdS_false, wt_ff, wt_tt, wt_ft, wt_tf, wt_undef, obH_some', extractV_tuple, nilCheckV_ptr, againK_normal, againK_exit, againK_ret, blockK_normal, blockK_same, blockK_ret, seqK_normal, seqK_exit, seqK_ret, fin_done, if_true', if_false', Bool.not_true, Bool.not_false, idx0, idx1, idx2, idx3, idx4, chk_nil_l, chk_nil_r, done_nm]
    simp -implicitDefEqProofs only [show ((1 : Nat) : Int) = 1 from rfl, hdec, bdG1, hal5, stG, hst, show Value.int .u64 18446744073709551615 = .int .u64 ((2 ^ 64 - 1 : Nat) : Int) from rfl, e8, faG0, faG1, faG2, st64, hst8, ldBool, c59.load, three1, e7, show Int.toNat 30000 = 30000 from rfl, stB, hst7, bin_add, bin_sub, bin_mul, bin_lss, bin_leq, bin_gtr, bin_geq, bin_eql, bin_neq, un_not, un_neg, Option.bind_some, Option.bind_none, Option.map_some, cnd_true, cnd_false, pickV_true, pickV_false, gd_true, gd_false, gdV_true, gdV_false, gdH_true, gdH_false, gdS_true, gdS_false, wt_ff, wt_tt, wt_ft, wt_tf, wt_undef, obH_some', extractV_tuple, nilCheckV_ptr, againK_normal, againK_exit, againK_ret, blockK_normal, blockK_same, blockK_ret, seqK_normal, seqK_exit, seqK_ret, fin_done, if_true', if_false', Bool.not_true, Bool.not_false, idx0, idx1, idx2, idx3, idx4, chk_nil_l, chk_nil_r, done_nm]
    have := rfget_end (h0 := h) (q2 := h.blks.length) (q5 := h5.blks.length) (p := p) rfl c2a c5a (by omega) (Nat.le_refl _) s8 h20 w8' hin2 (bytesP_len _ _) (fun h => by cases h)
    have hgf : getF bs = if endP (bytesP (numP (numP (some bs) 1).2 (2 ^ 64 - 1)).2 30000).2 && goodF false (numP (numP (some bs) 1).2 (2 ^ 64 - 1)).1 (bytesP (numP (numP (some bs) 1).2 (2 ^ 64 - 1)).2 30000).1 then some (false, (numP (numP (some bs) 1).2 (2 ^ 64 - 1)).1, (bytesP (numP (numP (some bs) 1).2 (2 ^ 64 - 1)).2 30000).1) else none := by
      simp only [getF, hk, if_false, decide_false]
    rw [hgf]
    exact this _ _ _ _ _ _ _ _ _ _ _ _ _ _ _ _ _ _ _ _ _ _ _ _ _ _ _ _ _ _ _ _ _
end Go.Am
namespace Go.Am
open Go.Proofs
theorem getLoop_more : ∀ (l : List UInt8) (n i : Nat), (∀ c ∈ l, 128 ≤ c.toNat) → getLoop n i l = (0, 0)
  | [], n, i, _ => rfl
  | c :: l, n, i, h => by
    rw [getLoop]
    split
    · rfl
    · have := h c (by simp)
      simp only []
      rw [if_neg (by omega)]
      exact getLoop_more l _ _ fun d hd => h d (by simp [hd])
theorem putL_take (n : Nat) : ∀ (a : Nat), a < (putL n).length → ∀ c ∈ (putL n).take a, 128 ≤ c.toNat := by
  induction n using Nat.strongRecOn with
  | _ n ih =>
    intro a ha c hc
    rw [putL] at ha hc
    split at hc
    · rename_i h
      rw [if_pos h] at ha
      simp at ha
      subst ha
      simp at hc
    · rename_i h
      rw [if_neg h] at ha
      cases a with
      | zero => simp at hc
      | succ a =>
        rw [List.take_succ_cons] at hc
        rcases List.mem_cons.1 hc with rfl | hc
        · simp; omega
        · exact ih (n / 128) (by omega) a (by simpa using ha) c hc
theorem getL_cut (n a : Nat) (ha : a < (putL n).length) : getL ((putL n).take a) = (0, 0) := getLoop_more _ _ _ (putL_take n a ha)
theorem mlaw_LebCuts (n : Nat) (hn : n < 2 ^ 64) (a : Int) (h : Heap) : ∃ h', evC Try.prog 5 #[.int .u64 n, .int .i64 a] h = some (.bool true, h') := by
  rw [call5, c5_0_eq]
  obtain ⟨h1, e1, x1⟩ := spec_awake3 (nm h)
  obtain ⟨v, h2, e2, x2, ac⟩ := spec_Put n hn h1 (.slice none 0 0) 0 [] .nil (by omega) rfl
  have s := sizeN_le n 10 (by omega) (by omega)
  have sl := ac.sl (P := Try.prog) etB.size
  simp -implicitDefEqProofs only [e1, e2, obH_some', un_not, bnT, cnd_false, Option.bind_some, bin_lss]
  by_cases c1 : a < 0
  · simp -implicitDefEqProofs only [c1, bin_add, bin_sub, bin_mul, bin_lss, bin_leq, bin_gtr, bin_geq, bin_eql, bin_neq, un_not, un_neg, Option.bind_some, Option.bind_none, Option.map_some, cnd_true, cnd_false, pickV_true, pickV_false, gd_true, gd_false, gdV_true, gdV_false, gdH_true, gdH_false, gdS_true, gdS_false, wt_ff, wt_tt, wt_ft, wt_tf, wt_undef, obH_some', extractV_tuple, nilCheckV_ptr, againK_normal, againK_exit, againK_ret, blockK_normal, blockK_same, blockK_ret, seqK_normal, seqK_exit, seqK_ret, fin_done, if_true', if_false', Bool.not_true, Bool.not_false, idx0, idx1, idx2, idx3, idx4, chk_nil_l, chk_nil_r, done_nm, decide_true]
    rw [ret5, fin_done]
    exact ⟨_, rfl⟩
  · simp -implicitDefEqProofs only [c1, bin_add, bin_sub, bin_mul, bin_lss, bin_leq, bin_gtr, bin_geq, bin_eql, bin_neq, un_not, un_neg, Option.bind_some, Option.bind_none, Option.map_some, cnd_true, cnd_false, pickV_true, pickV_false, gd_true, gd_false, gdV_true, gdV_false, gdH_true, gdH_false, gdS_true, gdS_false, wt_ff, wt_tt, wt_ft, wt_tf, wt_undef, obH_some', extractV_tuple, nilCheckV_ptr, againK_normal, againK_exit, againK_ret, blockK_normal, blockK_same, blockK_ret, seqK_normal, seqK_exit, seqK_ret, fin_done, if_true', if_false', Bool.not_true, Bool.not_false, idx0, idx1, idx2, idx3, idx4, chk_nil_l, chk_nil_r, done_nm, decide_false, sl.row.len_eq etB.under]
    by_cases c2 : a ≥ ((0 + sizeN n : Nat) : Int)
    · simp -implicitDefEqProofs only [c2, bin_add, bin_sub, bin_mul, bin_lss, bin_leq, bin_gtr, bin_geq, bin_eql, bin_neq, un_not, un_neg, Option.bind_some, Option.bind_none, Option.map_some, cnd_true, cnd_false, pickV_true, pickV_false, gd_true, gd_false, gdV_true, gdV_false, gdH_true, gdH_false, gdS_true, gdS_false, wt_ff, wt_tt, wt_ft, wt_tf, wt_undef, obH_some', extractV_tuple, nilCheckV_ptr, againK_normal, againK_exit, againK_ret, blockK_normal, blockK_same, blockK_ret, seqK_normal, seqK_exit, seqK_ret, fin_done, if_true', if_false', Bool.not_true, Bool.not_false, idx0, idx1, idx2, idx3, idx4, chk_nil_l, chk_nil_r, done_nm, decide_true]
      rw [ret5, fin_done]
      exact ⟨_, rfl⟩
    · obtain ⟨w, e3, s3, _⟩ := sl.sub etB.under etB.size (i := 0) (j := a.toNat) (lo := none) (hi := some (.int .i64 a)) (by omega) (by omega) rfl (by
        simp [natOf?]; omega)
      simp only [Nat.zero_mul, List.drop_zero, Nat.sub_zero, Nat.mul_one, List.nil_append, ← List.map_take] at s3
      have hlen : ((putL n).take a.toNat).length = a.toNat := by rw [List.length_take, putL_len]; omega
      have s4 : Sl Try.prog h2 1 w ((putL n).take a.toNat).length (((putL n).take a.toNat).map byteV) := by rw [hlen]; exact s3
      have e5 := spec_Get h2 w _ s4.row (by rw [hlen]; omega)
      rw [getL_cut n _ (by rw [putL_len]; omega)] at e5
      simp -implicitDefEqProofs (disch := omega) only [c2, dcT, dcF, bin_add, bin_sub, bin_mul, bin_lss, bin_leq, bin_gtr, bin_geq, bin_eql, bin_neq, un_not, un_neg, Option.bind_some, Option.bind_none, Option.map_some, cnd_true, cnd_false, pickV_true, pickV_false, gd_true, gd_false, gdV_true, gdV_false, gdH_true, gdH_false, gdS_true, gdS_false, wt_ff, wt_tt, wt_ft, wt_tf, wt_undef, obH_some', extractV_tuple, nilCheckV_ptr, againK_normal, againK_exit, againK_ret, blockK_normal, blockK_same, blockK_ret, seqK_normal, seqK_exit, seqK_ret, fin_done, if_true', if_false', Bool.not_true, Bool.not_false, idx0, idx1, idx2, idx3, idx4, chk_nil_l, chk_nil_r, done_nm, decide_false, e3, e5]
      rw [ret5, fin_done]
      exact ⟨_, rfl⟩
theorem law_LebCuts (h : Heap) (vs : List Value) (dd : List DT) (r : RdAll Try.prog h [22, 3] vs dd) : ∃ h', evC Try.prog 5 vs.toArray h = some (.bool true, h') := by
  obtain ⟨v, d, vs', ds', rfl, rfl, r0, r1⟩ := r.cons_inv
  obtain ⟨v1, d1, vs', ds', rfl, rfl, ra, r2⟩ := r1.cons_inv
  obtain ⟨rfl, rfl⟩ := r2.nil_inv
  obtain ⟨n, rfl, hn⟩ := r0.u64 (by kernel_rfl)
  obtain ⟨a, rfl, _⟩ := ra.i64 (by kernel_rfl)
  exact mlaw_LebCuts n hn a h
end Go.Am
namespace Go.Am
open Go.Proofs
theorem putL_lt (n : Nat) (h : n < 128) : putL n = [UInt8.ofNat n] := by rw [putL, if_pos h]
theorem putL_ge (n : Nat) (h : 128 ≤ n) : putL n = UInt8.ofNat (n % 128 + 128) :: putL (n / 128) := by rw [putL, if_neg (by omega)]
theorem getLoop_putL (rest : List UInt8) (n : Nat) : ∀ (acc i : Nat), acc < 2 ^ (7 * i) → acc + n * 2 ^ (7 * i) < 2 ^ 64 → i + sizeN n ≤ 10 → (i = 0 ∨ 0 < n) →
    getLoop acc i (putL n ++ rest) = (acc + n * 2 ^ (7 * i), i + sizeN n) := by
  induction n using Nat.strongRecOn with
  | _ n ih =>
    intro acc i ha hs hi hn
    have hp : 0 < 2 ^ (7 * i) := Nat.two_pow_pos _
    by_cases h : n < 128
    · have e1 : sizeN n = 1 := by rw [sizeN, if_pos h]
      have ec : (UInt8.ofNat n).toNat = n := by simp; omega
      rw [putL_lt n h, List.cons_append, List.nil_append, getLoop_step _ _ _ _ (by omega) ha, ec, if_neg, if_pos h, if_neg (by omega), e1, Nat.mod_eq_of_lt h]
      rintro ⟨h9, h1⟩
      subst h9
      have : 2 * 2 ^ (7 * 9) ≤ n * 2 ^ (7 * 9) := Nat.mul_le_mul_right _ h1
      omega
    · have e1 : sizeN n = sizeN (n / 128) + 1 := by rw [sizeN, if_neg h]
      have hs1 := sizeN_pos (n / 128)
      have ec : (UInt8.ofNat (n % 128 + 128)).toNat = n % 128 + 128 := by simp; omega
      have e : 2 ^ (7 * (i + 1)) = 128 * 2 ^ (7 * i) := by rw [Nat.mul_add, Nat.pow_add, Nat.mul_comm]
      have em : (n % 128 + 128) % 128 = n % 128 := by omega
      have e2 : acc + n % 128 * 2 ^ (7 * i) + n / 128 * 2 ^ (7 * (i + 1)) = acc + n * 2 ^ (7 * i) := by
        rw [e, ← Nat.mul_assoc, Nat.add_assoc, ← Nat.add_mul]
        congr 2; omega
      rw [putL_ge n (by omega), List.cons_append, getLoop_step _ _ _ _ (by omega) ha, ec, if_neg (by omega), if_neg (by omega), em,
        ih (n / 128) (by omega) _ (i + 1) ?_ (by rw [e2]; exact hs) (by omega) (.inr (by omega)), e2, e1]
      · congr 1; omega
      · have : n % 128 * 2 ^ (7 * i) ≤ 127 * 2 ^ (7 * i) := Nat.mul_le_mul_right _ (by omega)
        omega
theorem getL_putL (n : Nat) (hn : n < 2 ^ 64) (rest : List UInt8) : getL (putL n ++ rest) = (n, (putL n).length) := by
  have := getLoop_putL rest n 0 0 (by omega) (by omega) (by have := sizeN_le n 10 (by omega) (by omega); omega) (.inl rfl)
  rw [getL, this, putL_len]
  simp
theorem putL_pos (n : Nat) : 0 < (putL n).length := by rw [putL_len]; exact sizeN_pos n
theorem numP_putL (n : Nat) (hn : n < 2 ^ 64) (rest : List UInt8) (m : Nat) (hm : n ≤ m) : numP (some (putL n ++ rest)) m = (n, some rest) := by
  have := putL_pos n
  simp only [numP, getL_putL n hn]
  rw [if_neg (by omega), List.drop_left]
theorem numP_cut (n : Nat) (hn : n < 2 ^ 64) (rest : List UInt8) (m : Nat) (hm : n ≤ m) (a : Nat) :
    numP (some ((putL n ++ rest).take a)) m = if a < (putL n).length then (0, none) else (n, some (rest.take (a - (putL n).length))) := by
  split
  · rename_i h
    rw [List.take_append_of_le_length (by omega)]
    simp only [numP, getL_cut n a h]
    rfl
  · rename_i h
    rw [List.take_append, List.take_of_length_le (by omega)]
    exact numP_putL n hn _ m hm
theorem bytesP_cut (body rest : List UInt8) (hb : body.length < 2 ^ 64) (m : Nat) (hm : body.length ≤ m) (a : Nat) (ha : a < (putL body.length ++ body).length) :
    bytesP (some ((putL body.length ++ body).take a)) m = ([], none) := by
  unfold bytesP
  rw [numP_cut _ hb _ _ hm]
  simp only [List.length_append] at ha
  split
  · rfl
  · simp only [takeP]
    rw [if_pos (by simp; omega)]
theorem bytesP_put (body rest : List UInt8) (hb : body.length < 2 ^ 64) (m : Nat) (hm : body.length ≤ m) : bytesP (some (putL body.length ++ (body ++ rest))) m = (body, some rest) := by
  unfold bytesP
  rw [numP_putL _ hb _ _ hm]
  simp only [takeP]
  rw [if_neg (by simp), List.take_left, List.drop_left]
theorem numP_none (m : Nat) : numP none m = (0, none) := rfl
theorem bytesP_none (m : Nat) : bytesP none m = ([], none) := rfl
theorem getF_putF (ack : Bool) (num : Nat) (body rest : List UInt8) (hn : num < 2 ^ 64) (hg : goodF ack num body = true) :
    getF (putF ack num body ++ rest) = if rest = [] then some (ack, num, body) else none := by
  have hend : endP (some rest) = decide (rest = []) := by cases rest <;> rfl
  cases ack with
  | true =>
    have hb : body = [] := by simpa [goodF] using hg
    subst hb
    simp only [putF, hg, if_true, getF]
    rw [List.append_assoc, numP_putL 1 (by omega) _ 1 (by omega)]
    simp only [if_true]
    rw [numP_putL num hn _ _ (by omega), hend]
    by_cases hr : rest = []
    · simp [hr, hg]
    · simp [hr]
  | false =>
    have hb : 0 < num ∧ body.length ≤ 30000 := by simpa [goodF] using hg
    simp only [putF, hg, if_true, getF, Bool.false_eq_true, if_false]
    rw [List.append_assoc, List.append_assoc, List.append_assoc, numP_putL 0 (by omega) _ 1 (by omega)]
    simp only [Nat.zero_ne_one, if_false, decide_false]
    rw [numP_putL num hn _ _ (by omega)]
    simp only []
    rw [bytesP_put _ _ (by omega) _ hb.2, hend]
    by_cases hr : rest = []
    · simp [hr, hg]
    · simp [hr]
theorem getF_cut (ack : Bool) (num : Nat) (body : List UInt8) (hn : num < 2 ^ 64) (hg : goodF ack num body = true) (a : Nat) (ha : a < (putF ack num body).length) :
    getF ((putF ack num body).take a) = none := by
  cases ack with
  | true =>
    have hb : body = [] := by simpa [goodF] using hg
    subst hb
    simp only [putF, hg, if_true] at ha ⊢
    simp only [List.length_append] at ha
    simp only [getF]
    rw [numP_cut 1 (by omega) _ 1 (by omega)]
    split
    · simp [numP_none, bytesP_none, endP]
    · simp only [if_true]
      have := numP_cut num hn [] (2 ^ 64 - 1) (by omega) (a - (putL 1).length)
      rw [List.append_nil] at this
      rw [this, if_pos (show a - (putL 1).length < (putL num).length by omega)]
      simp [endP]
  | false =>
    have hb : 0 < num ∧ body.length ≤ 30000 := by simpa [goodF] using hg
    simp only [putF, hg, if_true, Bool.false_eq_true, if_false] at ha ⊢
    rw [List.append_assoc, List.append_assoc] at ha ⊢
    simp only [getF]
    rw [numP_cut 0 (by omega) _ 1 (by omega)]
    simp only [List.length_append] at ha
    split
    · simp [numP_none, bytesP_none, endP]
    · simp only [Nat.zero_ne_one, if_false]
      rw [numP_cut num hn _ _ (by omega)]
      split
      · simp [bytesP_none, endP]
      · simp only []
        rw [bytesP_cut body [] (by omega) _ hb.2 _ (by simp only [List.length_append]; omega)]
        simp [endP]
theorem putF_nil (ack : Bool) (num : Nat) (body : List UInt8) : putF ack num body = [] ↔ goodF ack num body = false := by
  constructor
  · intro h
    by_cases hg : goodF ack num body = true
    · have := putL_pos 1
      have := putL_pos 0
      cases ack <;> simp only [putF, hg, if_true, Bool.false_eq_true, if_false] at h <;> (have h := congrArg List.length h; simp only [List.length_append, List.length_nil] at h; omega)
    · simpa using hg
  · intro h; simp [putF, h]
theorem putF_inj (a1 a2 : Bool) (n1 n2 : Nat) (b1 b2 : List UInt8) (h1 : n1 < 2 ^ 64) (h2 : n2 < 2 ^ 64) (g1 : goodF a1 n1 b1 = true) (g2 : goodF a2 n2 b2 = true) :
    putF a1 n1 b1 = putF a2 n2 b2 ↔ a1 = a2 ∧ n1 = n2 ∧ b1 = b2 := by
  constructor
  · intro h
    have e1 := getF_putF a1 n1 b1 [] h1 g1
    have e2 := getF_putF a2 n2 b2 [] h2 g2
    rw [h, e2] at e1
    simp at e1
    exact ⟨e1.1.symm, e1.2.1.symm, e1.2.2.symm⟩
  · rintro ⟨rfl, rfl, rfl⟩; rfl
end Go.Am
namespace Go.Am
open Go.Proofs
set_option maxRecDepth 100000
theorem etU : ElemT Try.prog 41 22 1 8 (.int .u64 0) := ⟨by kernel_rfl, by kernel_rfl, by kernel_rfl, by kernel_rfl, by omega, rfl, rfl⟩
theorem vld64 (p o : Nat) (h : Heap) : loadV Try.prog 22 (.pointer (some ⟨p, o, none⟩)) h = h.load1 p o := by kernel_rfl
theorem vst64 (p o : Nat) (k : IntKind) (n : Int) (h : Heap) : storeV Try.prog 22 (.pointer (some ⟨p, o, none⟩)) (.int k n) h = h.storeN p o [.int k n] := by kernel_rfl
theorem mkU0 (h : Heap) : buildSliceV Try.prog 41 0 #[] h = some (.slice (some ⟨h.blks.length, 0, none⟩) 0 0, h.new (.cells []) 22) := by kernel_rfl
theorem mkU1 (k : IntKind) (n : Int) (h : Heap) : buildSliceV Try.prog 41 1 #[(0, .int k n)] h = some (.slice (some ⟨h.blks.length, 0, none⟩) 1 1, h.new (.cells [.int k n]) 22) := by kernel_rfl
theorem mkU2 (k : IntKind) (n m : Int) (h : Heap) : buildSliceV Try.prog 41 2 #[(0, .int k n), (1, .int k m)] h = some (.slice (some ⟨h.blks.length, 0, none⟩) 2 2, h.new (.cells [.int k n, .int k m]) 22) := by kernel_rfl
theorem vbeql (xo yo : Operand) (a b : Bool) : binV Try.prog .eql 4 xo yo (.bool a) (.bool b) = some (.bool (a == b)) := bin_beql _ _ _ _ (by cases a <;> cases b <;> kernel_rfl)
abbrev SU (h : Heap) (v : Value) (ns : List Nat) : Prop := Sl Try.prog h 1 v ns.length (ns.map u64V)
abbrev AU (n0 : Nat) (h : Heap) (v : Value) (ns : List Nat) : Prop := Acc n0 h 22 1 v ns.length (ns.map u64V)
theorem AU.su {n0 : Nat} {h : Heap} {v : Value} {ns : List Nat} (a : AU n0 h v ns) : SU h v ns := a.sl etU.size
theorem nums_one (ns : List Nat) : (ns.map u64V).all Value.oneCell' = true := by
  rw [List.all_map, List.all_eq_true]; intro x _; rfl
theorem AU.lit {n0 : Nat} {h : Heap} (hn : n0 ≤ h.blks.length) (ns : List Nat) (hl : ns.length < 2 ^ 62) : AU n0 (h.new (.cells (ns.map u64V)) 22) (.slice (some ⟨h.blks.length, 0, none⟩) ns.length ns.length) ns :=
  .full hn hl (blk_new_self _ _ _) (by simp) (by rw [List.drop_zero, List.take_of_length_le (by simp)])
theorem app_nums {t t1 : TypeId} (et : ElemT Try.prog t 22 1 8 (.int .u64 0)) (et1 : Try.prog.underlying t1 = some (.slice 22)) {n0 : Nat} {h : Heap} (hn0 : n0 ≤ h.blks.length) {v x : Value} {bs cs : List Nat} (ha : AU n0 h v bs) (hx : SU h x cs) (hl : bs.length + cs.length < 2 ^ 40) :
    ∃ a c h', appendV Try.prog t (some t1) v x h = some (.slice a (bs ++ cs).length c, h') ∧ AU n0 h' (.slice a (bs ++ cs).length c) (bs ++ cs) ∧ Keeps n0 h h' ∧ (∀ b, b < h.blks.length → blockOf v ≠ some b → h'.blks[b]? = h.blks[b]?) := by
  obtain ⟨v', h', e1, e2, e3, e4, e5⟩ := append_acc et (t1 := some t1) hn0 ha (newsV_row et1 hx.row) (by simp) (by omega) (by omega) (nums_one cs)
  obtain ⟨a, c, rfl⟩ := e2.shape
  rw [← List.length_append] at e1 e2
  rw [← List.map_append] at e2
  exact ⟨a, c, h', e1, e2, e3, e4⟩
theorem getD_lt (ns : List Nat) (h : ∀ n ∈ ns, n < 2 ^ 64) (i : Nat) : ns.getD i 0 < 2 ^ 64 := by
  rw [List.getD_eq_getElem?_getD]
  cases e : ns[i]? with
  | none => simp
  | some x => exact h x (List.mem_of_getElem? e)
theorem map_get (ns : List Nat) {i : Nat} (hi : i < ns.length) : (ns.map u64V)[i]? = some (.int .u64 (ns.getD i 0 : Nat)) := by
  rw [List.getElem?_map, List.getElem?_eq_getElem hi, List.getD_eq_getElem?_getD, List.getElem?_eq_getElem hi]; rfl
theorem su_at {h : Heap} {v : Value} {ns : List Nat} (s : SU h v ns) {t : TypeId} (ht : Try.prog.underlying t = some (.slice 22)) {i : Nat} (hi : i < ns.length) :
    ∃ a, indexAddrV Try.prog t v (.int .i64 i) = some (.pointer (some a)) ∧ loadV Try.prog 22 (.pointer (some a)) h = some (.int .u64 (ns.getD i 0 : Nat)) := by
  obtain ⟨a, e1, e2, _⟩ := s.row.at1 ht etU.size (by kernel_rfl) hi .i64
  rw [map_get ns hi] at e2
  exact ⟨a, e1, e2⟩
theorem app_num {n0 : Nat} {h : Heap} (hn0 : n0 ≤ h.blks.length) {v : Value} {bs : List Nat} (ha : AU n0 h v bs) (b : Nat) (hl : bs.length < 2 ^ 39) :
    ∃ a c h', appendV Try.prog 41 (some 41) v (.slice (some ⟨h.blks.length, 0, none⟩) 1 1) (h.new (.cells [.int .u64 b]) 22) = some (.slice a (bs ++ [b]).length c, h') ∧ AU n0 h' (.slice a (bs ++ [b]).length c) (bs ++ [b]) ∧ Keeps n0 h h' ∧
      (∀ q, q < h.blks.length → blockOf v ≠ some q → h'.blks[q]? = h.blks[q]?) := by
  have ha' : AU n0 (h.new (.cells [.int .u64 b]) 22) v bs := ha.keep fun _ hb _ => Heap.new_old hb
  have hlit : SU (h.new (.cells [.int .u64 b]) 22) (.slice (some ⟨h.blks.length, 0, none⟩) 1 1) [b] :=
    .mk (by simp [Heap.loadN, Heap.cells?, blk_new_self]; rfl) (.inr ⟨Nat.le_refl _, by unfold UNK; omega⟩)
  obtain ⟨a, c, h', e1, e2, e3, e4⟩ := app_nums etU etU.under (n0 := n0) (by simp [Heap.new]; omega) ha' hlit (by simp; omega)
  exact ⟨a, c, h', e1, e2, (Keeps.new hn0 _ _).trans e3, fun q hq hne => (e4 q (by simp [Heap.new]; omega) hne).trans (Heap.new_old hq)⟩
end Go.Am
namespace Go.Am
open Go.Proofs
set_option maxRecDepth 100000
attribute [local congr] obind_congr obH_congr cnd_congr chk_congr retK_congr codeK_congr
/-- all numbers of bytes: none if they are not just numbers -/
def allF : Nat → List UInt8 → Option (List Nat)
  | 0, bs => if bs = [] then some [] else none
  | k + 1, bs => if bs = [] then some [] else if (getL bs).2 = 0 then none else (allF k (bs.drop (getL bs).2)).map ((getL bs).1 :: ·)
def allL (bs : List UInt8) : Option (List Nat) := allF bs.length bs
theorem allF_len : ∀ (k : Nat) (bs : List UInt8) (l : List Nat), allF k bs = some l → l.length ≤ bs.length ∧ ∀ n ∈ l, n < 2 ^ 64
  | 0, bs, l, h => by
    unfold allF at h
    split at h
    · cases h; simp
    · cases h
  | k + 1, bs, l, h => by
    unfold allF at h
    split at h
    · cases h; simp
    · split at h
      · cases h
      · rename_i h1 h2
        cases e : allF k (bs.drop (getL bs).2) with
        | none => rw [e] at h; cases h
        | some l' =>
          rw [e] at h
          simp only [Option.map_some, Option.some.injEq] at h
          subst h
          obtain ⟨i1, i2⟩ := allF_len k _ _ e
          have := getL_len bs
          simp only [List.length_drop] at i1
          refine ⟨by simp; omega, fun n hn => ?_⟩
          rcases List.mem_cons.1 hn with rfl | hn
          · exact getL_lt bs
          · exact i2 n hn
theorem all_loop {h0 : Heap} : ∀ (m : Nat) (h : Heap) (v r : Value) (bs : List UInt8) (acc : List Nat), bs.length ≤ m → bs.length < 2 ^ 38 → acc.length + bs.length < 2 ^ 38 → Lo v h0.blks.length → SB h v bs → AU h0.blks.length h r acc → In h0.blks.length No (nm h0) h →
    ∀ (x1 x5 x6 x7 x8 x9 x10 x11 x12 x13 x14 x15 x16 x17 x18 x19 x20 x21 x22 x23 x24 : Value),
    ∃ x c h', loopK Try.prog (evC Try.prog) c22_1 ⟨#[v, x1, .slice none 0 0, .bool false, r, x5, x6, x7, x8, x9, x10, x11, x12, x13, x14, x15, x16, x17, x18, x19, x20, x21, x22, x23, x24], h⟩ (blockK 0 (seqK Try.prog (evC Try.prog) c22_2 (retK Try.f22 Try.prog h0))) =
      some (.tuple #[.slice x (((allF m bs).map (acc ++ ·)).getD []).length c, .bool (allF m bs).isSome], h') ∧ HExt h0 h' ∧ AU h0.blks.length h' (.slice x (((allF m bs).map (acc ++ ·)).getD []).length c) (((allF m bs).map (acc ++ ·)).getD []) := by
  intro m
  induction m with
  | zero =>
    intro h v r bs acc hm h38 hacc lo sv sr hin x1 x5 x6 x7 x8 x9 x10 x11 x12 x13 x14 x15 x16 x17 x18 x19 x20 x21 x22 x23 x24
    have hb : bs = [] := List.eq_nil_of_length_eq_zero (by omega)
    subst hb
    rw [loopK_eq evC_m, c22_1_eq]
    simp -implicitDefEqProofs (disch := omega) only [dcT, dcF, sv.row.len_eq etB.under, List.length_nil, ↓c22_2_eq, ↓ret22, bin_add, bin_sub, bin_mul, bin_lss, bin_leq, bin_gtr, bin_geq, bin_eql, bin_neq, un_not, un_neg, Option.bind_some, Option.bind_none, Option.map_some, cnd_true, cnd_false, pickV_true, pickV_false, gd_true, gd_false, gdV_true, gdV_false, gdH_true, gdH_false, gdS_true, gdS_false, wt_ff, wt_tt, wt_ft, wt_tf, wt_undef, obH_some', extractV_tuple, nilCheckV_ptr, againK_normal, againK_exit, againK_ret, blockK_normal, blockK_same, blockK_ret, seqK_normal, seqK_exit, seqK_ret, fin_done, if_true', if_false', Bool.not_true, Bool.not_false, idx0, idx1, idx2, idx3, idx4, chk_nil_l, chk_nil_r, done_nm]
    obtain ⟨x, c, rfl⟩ := sr.shape
    simp only [allF, if_true, Option.map_some, Option.getD_some, List.append_nil, Option.isSome_some]
    exact ⟨x, c, _, rfl, done_ext' hin, sr.done⟩
  | succ m ih =>
    intro h v r bs acc hm h38 hacc lo sv sr hin x1 x5 x6 x7 x8 x9 x10 x11 x12 x13 x14 x15 x16 x17 x18 x19 x20 x21 x22 x23 x24
    rw [loopK_eq evC_m, c22_1_eq]
    by_cases hb : bs = []
    · subst hb
      simp -implicitDefEqProofs (disch := omega) only [dcT, dcF, sv.row.len_eq etB.under, List.length_nil, ↓c22_2_eq, ↓ret22, bin_add, bin_sub, bin_mul, bin_lss, bin_leq, bin_gtr, bin_geq, bin_eql, bin_neq, un_not, un_neg, Option.bind_some, Option.bind_none, Option.map_some, cnd_true, cnd_false, pickV_true, pickV_false, gd_true, gd_false, gdV_true, gdV_false, gdH_true, gdH_false, gdS_true, gdS_false, wt_ff, wt_tt, wt_ft, wt_tf, wt_undef, obH_some', extractV_tuple, nilCheckV_ptr, againK_normal, againK_exit, againK_ret, blockK_normal, blockK_same, blockK_ret, seqK_normal, seqK_exit, seqK_ret, fin_done, if_true', if_false', Bool.not_true, Bool.not_false, idx0, idx1, idx2, idx3, idx4, chk_nil_l, chk_nil_r, done_nm]
      obtain ⟨x, c, rfl⟩ := sr.shape
      simp only [allF, if_true, Option.map_some, Option.getD_some, List.append_nil, Option.isSome_some]
      exact ⟨x, c, _, rfl, done_ext' hin, sr.done⟩
    · have hpos : 0 < bs.length := List.length_pos_iff.2 hb
      have hg := spec_Get h v bs sv.row (by omega)
      have hle := getL_len bs
      unfold allF
      rw [if_neg hb]
      by_cases hs : (getL bs).2 = 0
      · rw [if_pos hs]
        simp -implicitDefEqProofs (disch := omega) only [dcT, dcF, sv.row.len_eq etB.under, hg, ↓ret22, bin_add, bin_sub, bin_mul, bin_lss, bin_leq, bin_gtr, bin_geq, bin_eql, bin_neq, un_not, un_neg, Option.bind_some, Option.bind_none, Option.map_some, cnd_true, cnd_false, pickV_true, pickV_false, gd_true, gd_false, gdV_true, gdV_false, gdH_true, gdH_false, gdS_true, gdS_false, wt_ff, wt_tt, wt_ft, wt_tf, wt_undef, obH_some', extractV_tuple, nilCheckV_ptr, againK_normal, againK_exit, againK_ret, blockK_normal, blockK_same, blockK_ret, seqK_normal, seqK_exit, seqK_ret, fin_done, if_true', if_false', Bool.not_true, Bool.not_false, idx0, idx1, idx2, idx3, idx4, chk_nil_l, chk_nil_r, done_nm]
        exact ⟨none, 0, _, rfl, done_ext' hin, .nil⟩
      · rw [if_neg hs]
        have hin' : h0.blks.length ≤ h.blks.length := hin.len
        obtain ⟨a, c, h2, e2, s2, k2, o2⟩ := app_num hin' sr (getL bs).1 (by omega)
        have sv2 : SB h2 v bs := sv.keep fun b hb hv => o2 b hb (fun e => by have := sr.ge e; have := lo b hv; omega)
        obtain ⟨a3, c3, e3, s3, b3⟩ := sl_drop sv2 (i := (getL bs).2) hle .i64
        have := ih h2 (.slice a3 (bs.drop (getL bs).2).length c3) (.slice a (acc ++ [(getL bs).1]).length c) (bs.drop (getL bs).2) (acc ++ [(getL bs).1]) (by simp; omega) (by simp; omega) (by simp; omega) (lo.to b3) s3 s2 (hin.trans k2.inn)
        simp -implicitDefEqProofs (disch := omega) only [dcT, dcF, sv.row.len_eq etB.under, hg, mkU1, e2, e3, bin_add, bin_sub, bin_mul, bin_lss, bin_leq, bin_gtr, bin_geq, bin_eql, bin_neq, un_not, un_neg, Option.bind_some, Option.bind_none, Option.map_some, cnd_true, cnd_false, pickV_true, pickV_false, gd_true, gd_false, gdV_true, gdV_false, gdH_true, gdH_false, gdS_true, gdS_false, wt_ff, wt_tt, wt_ft, wt_tf, wt_undef, obH_some', extractV_tuple, nilCheckV_ptr, againK_normal, againK_exit, againK_ret, blockK_normal, blockK_same, blockK_ret, seqK_normal, seqK_exit, seqK_ret, fin_done, if_true', if_false', Bool.not_true, Bool.not_false, idx0, idx1, idx2, idx3, idx4, chk_nil_l, chk_nil_r, done_nm]
        obtain ⟨x, c', h', g1, g2, g3⟩ := this _ _ _ _ _ _ _ _ _ _ _ _ _ _ _ _ _ _ _ _ _
        have e : ((Option.map ((getL bs).1 :: ·) (allF m (bs.drop (getL bs).2))).map (acc ++ ·)).getD [] = ((allF m (bs.drop (getL bs).2)).map ((acc ++ [(getL bs).1]) ++ ·)).getD [] := by
          cases allF m (bs.drop (getL bs).2) <;> simp
        have e' : (Option.map ((getL bs).1 :: ·) (allF m (bs.drop (getL bs).2))).isSome = (allF m (bs.drop (getL bs).2)).isSome := by
          cases allF m (bs.drop (getL bs).2) <;> rfl
        rw [e, e']
        exact ⟨x, c', h', g1, g2, g3⟩
theorem spec_All {h : Heap} {v : Value} {bs : List UInt8} (sv : SB h v bs) (hl : bs.length < 2 ^ 37) :
    ∃ x c h', evC Try.prog 22 #[v] h = some (.tuple #[.slice x ((allL bs).getD []).length c, .bool (allL bs).isSome], h') ∧ HExt h h' ∧ AU h.blks.length h' (.slice x ((allL bs).getD []).length c) ((allL bs).getD []) := by
  rw [call22, c22_0_eq]
  have e : ((allF bs.length bs).map (([] : List Nat) ++ ·)).getD [] = (allL bs).getD [] := by
    unfold allL; cases allF bs.length bs <;> simp
  rw [← e]
  exact all_loop (h0 := h) bs.length (nm h) v (.slice none 0 0) bs [] (Nat.le_refl _) (by omega) (by simp; omega) sv.lo sv.nm .nil (In.refl (by simp)) _ _ _ _ _ _ _ _ _ _ _ _ _ _ _ _ _ _ _ _ _
theorem whole_loop {h0 h : Heap} : ∀ (m : Nat) (v : Value) (bs : List UInt8), bs.length ≤ m → bs.length < 2 ^ 38 → SB h v bs →
    ∀ (x1 x3 x4 x5 x6 x7 x8 x9 x10 x11 x12 x13 x14 x15 x16 x17 : Value),
    loopK Try.prog (evC Try.prog) c25_1 ⟨#[v, x1, .bool false, x3, x4, x5, x6, x7, x8, x9, x10, x11, x12, x13, x14, x15, x16, x17], h⟩ (blockK 0 (seqK Try.prog (evC Try.prog) c25_2 (retK Try.f25 Try.prog h0))) =
      some (.bool (allF m bs).isSome, done h0 h) := by
  intro m
  induction m with
  | zero =>
    intro v bs hm h38 sv x1 x3 x4 x5 x6 x7 x8 x9 x10 x11 x12 x13 x14 x15 x16 x17
    have hb : bs = [] := List.eq_nil_of_length_eq_zero (by omega)
    subst hb
    rw [loopK_eq evC_m, c25_1_eq]
    simp -implicitDefEqProofs (disch := omega) only [dcT, dcF, sv.row.len_eq etB.under, List.length_nil, ↓c25_2_eq, ↓ret25, bin_add, bin_sub, bin_mul, bin_lss, bin_leq, bin_gtr, bin_geq, bin_eql, bin_neq, un_not, un_neg, Option.bind_some, Option.bind_none, Option.map_some, cnd_true, cnd_false, pickV_true, pickV_false, gd_true, gd_false, gdV_true, gdV_false, gdH_true, gdH_false, gdS_true, gdS_false, wt_ff, wt_tt, wt_ft, wt_tf, wt_undef, obH_some', extractV_tuple, nilCheckV_ptr, againK_normal, againK_exit, againK_ret, blockK_normal, blockK_same, blockK_ret, seqK_normal, seqK_exit, seqK_ret, fin_done, if_true', if_false', Bool.not_true, Bool.not_false, idx0, idx1, idx2, idx3, idx4, chk_nil_l, chk_nil_r, done_nm]
    rfl
  | succ m ih =>
    intro v bs hm h38 sv x1 x3 x4 x5 x6 x7 x8 x9 x10 x11 x12 x13 x14 x15 x16 x17
    rw [loopK_eq evC_m, c25_1_eq]
    by_cases hb : bs = []
    · subst hb
      simp -implicitDefEqProofs (disch := omega) only [dcT, dcF, sv.row.len_eq etB.under, List.length_nil, ↓c25_2_eq, ↓ret25, bin_add, bin_sub, bin_mul, bin_lss, bin_leq, bin_gtr, bin_geq, bin_eql, bin_neq, un_not, un_neg, Option.bind_some, Option.bind_none, Option.map_some, cnd_true, cnd_false, pickV_true, pickV_false, gd_true, gd_false, gdV_true, gdV_false, gdH_true, gdH_false, gdS_true, gdS_false, wt_ff, wt_tt, wt_ft, wt_tf, wt_undef, obH_some', extractV_tuple, nilCheckV_ptr, againK_normal, againK_exit, againK_ret, blockK_normal, blockK_same, blockK_ret, seqK_normal, seqK_exit, seqK_ret, fin_done, if_true', if_false', Bool.not_true, Bool.not_false, idx0, idx1, idx2, idx3, idx4, chk_nil_l, chk_nil_r, done_nm]
      rfl
    · have hpos : 0 < bs.length := List.length_pos_iff.2 hb
      have hg := spec_refGet h v bs sv (by omega)
      have hle := getL_len bs
      unfold allF
      rw [if_neg hb]
      by_cases hs : (getL bs).2 = 0
      · rw [if_pos hs]
        simp -implicitDefEqProofs (disch := omega) only [dcT, dcF, sv.row.len_eq etB.under, hg, ↓ret25, bin_add, bin_sub, bin_mul, bin_lss, bin_leq, bin_gtr, bin_geq, bin_eql, bin_neq, un_not, un_neg, Option.bind_some, Option.bind_none, Option.map_some, cnd_true, cnd_false, pickV_true, pickV_false, gd_true, gd_false, gdV_true, gdV_false, gdH_true, gdH_false, gdS_true, gdS_false, wt_ff, wt_tt, wt_ft, wt_tf, wt_undef, obH_some', extractV_tuple, nilCheckV_ptr, againK_normal, againK_exit, againK_ret, blockK_normal, blockK_same, blockK_ret, seqK_normal, seqK_exit, seqK_ret, fin_done, if_true', if_false', Bool.not_true, Bool.not_false, idx0, idx1, idx2, idx3, idx4, chk_nil_l, chk_nil_r, done_nm]
        rfl
      · rw [if_neg hs]
        obtain ⟨a3, c3, e3, s3, b3⟩ := sl_drop sv (i := (getL bs).2) hle .i64
        simp -implicitDefEqProofs (disch := omega) only [dcT, dcF, sv.row.len_eq etB.under, hg, e3, bin_add, bin_sub, bin_mul, bin_lss, bin_leq, bin_gtr, bin_geq, bin_eql, bin_neq, un_not, un_neg, Option.bind_some, Option.bind_none, Option.map_some, cnd_true, cnd_false, pickV_true, pickV_false, gd_true, gd_false, gdV_true, gdV_false, gdH_true, gdH_false, gdS_true, gdS_false, wt_ff, wt_tt, wt_ft, wt_tf, wt_undef, obH_some', extractV_tuple, nilCheckV_ptr, againK_normal, againK_exit, againK_ret, blockK_normal, blockK_same, blockK_ret, seqK_normal, seqK_exit, seqK_ret, fin_done, if_true', if_false', Bool.not_true, Bool.not_false, idx0, idx1, idx2, idx3, idx4, chk_nil_l, chk_nil_r, done_nm]
        rw [ih _ (bs.drop (getL bs).2) (by simp; omega) (by simp; omega) s3 _ _ _ _ _ _ _ _ _ _ _ _ _ _ _ _]
        cases allF m (bs.drop (getL bs).2) <;> rfl
theorem spec_whole {h : Heap} {v : Value} {bs : List UInt8} (sv : SB h v bs) (hl : bs.length < 2 ^ 37) :
    evC Try.prog 25 #[v] h = some (.bool (allL bs).isSome, h) := by
  rw [call25, c25_0_eq]
  exact whole_loop (h0 := h) bs.length v bs (Nat.le_refl _) (by omega) sv.nm _ _ _ _ _ _ _ _ _ _ _ _ _ _ _ _
theorem says_end {h0 h : Heap} {n : Nat} (hn : n < 2 ^ 64) {vb p q vl : Value} {bs : List UInt8} {l : List Nat} {ok : Bool} {at_ g k : Nat} (hl : bs.length < 2 ^ 37) (sb : SB h vb bs) (sp : SB h p (bs ++ putL n)) (sq : SB h q (bs ++ putL n)) (sl : SU h vl l)
    (h1 : ok = true → at_ = bs.length) (h2 : ok = false → l = [] ∧ (allL bs).isSome = false) (x2 x3 x14 x15 x16 x17 x18 x19 x20 x21 x22 x23 x24 x25 x26 x27 x28 x29 x30 x31 x32 x33 x34 x35 x36 x37 x38 x39 x40 x41 x42 x43 x44 x45 x46 x47 x48 x49 x50 x51 x52 x53 x54 x55 x56 x57 x58 x59 x60 x61 x62 x63 x64 x65 x66 x67 x68 x69 x70 x71 x72 x73 x74 x75 x76 x77 x78 x79 x80 x81 x82 x83 x84 x85 x86 x87 x88 x89 x90 x91 x92 x93 x94 x95 x96 x97 x98 x99 x100 x101 x102 x103 x104 x105 : Value) :
    ∃ h', codeK Try.prog (evC Try.prog) loopL c7_2 ⟨#[.int .u64 n, vb, x2, x3, .bool false, p, q, .int .u64 g, .int .i64 k, .int .u64 g, .int .i64 k, vl, .bool ok, .int .i64 at_, x14, x15, x16, x17, x18, x19, x20, x21, x22, x23, x24, x25, x26, x27, x28, x29, x30, x31, x32, x33, x34, x35, x36, x37, x38, x39, x40, x41, x42, x43, x44, x45, x46, x47, x48, x49, x50, x51, x52, x53, x54, x55, x56, x57, x58, x59, x60, x61, x62, x63, x64, x65, x66, x67, x68, x69, x70, x71, x72, x73, x74, x75, x76, x77, x78, x79, x80, x81, x82, x83, x84, x85, x86, x87, x88, x89, x90, x91, x92, x93, x94, x95, x96, x97, x98, x99, x100, x101, x102, x103, x104, x105], h⟩ (retK Try.f7 Try.prog h0) = some (.bool true, h') := by
  rw [c7_2_eq]
  have hs := spec_Size n hn h
  have hsz : sizeN n ≤ 10 := sizeN_le n 10 (by omega) (by omega)
  have hpl := putL_len n
  have hw : IntKind.wrap .i64 (((bs ++ putL n).length : Int) - bs.length) = ((sizeN n : Nat) : Int) := by
    rw [wrap_i64] <;> simp only [List.length_append] <;> omega
  cases ok with
  | true =>
    obtain rfl := h1 rfl
    simp -implicitDefEqProofs (disch := omega) only [dcT, dcF, sb.row.len_eq etB.under, ↓c7_3_eq, strB sp, strB sq, bin_streq, eq_self, decide_true, hs, sq.row.len_eq etB.under, hw, ↓ret7, bin_add, bin_sub, bin_mul, bin_lss, bin_leq, bin_gtr, bin_geq, bin_eql, bin_neq, un_not, un_neg, Option.bind_some, Option.bind_none, Option.map_some, cnd_true, cnd_false, pickV_true, pickV_false, gd_true, gd_false, gdV_true, gdV_false, gdH_true, gdH_false, gdS_true, gdS_false, wt_ff, wt_tt, wt_ft, wt_tf, wt_undef, obH_some', extractV_tuple, nilCheckV_ptr, againK_normal, againK_exit, againK_ret, blockK_normal, blockK_same, blockK_ret, seqK_normal, seqK_exit, seqK_ret, fin_done, if_true', if_false', Bool.not_true, Bool.not_false, idx0, idx1, idx2, idx3, idx4, chk_nil_l, chk_nil_r, done_nm]
    exact ⟨_, rfl⟩
  | false =>
    obtain ⟨rfl, hw0⟩ := h2 rfl
    simp -implicitDefEqProofs (disch := omega) only [dcT, dcF, sl.row.len_eq etU.under, List.length_nil, spec_whole sb hl, hw0, sb.row.len_eq etB.under, ↓c7_3_eq, strB sp, strB sq, bin_streq, eq_self, decide_true, hs, sq.row.len_eq etB.under, hw, ↓ret7, bin_add, bin_sub, bin_mul, bin_lss, bin_leq, bin_gtr, bin_geq, bin_eql, bin_neq, un_not, un_neg, Option.bind_some, Option.bind_none, Option.map_some, cnd_true, cnd_false, pickV_true, pickV_false, gd_true, gd_false, gdV_true, gdV_false, gdH_true, gdH_false, gdS_true, gdS_false, wt_ff, wt_tt, wt_ft, wt_tf, wt_undef, obH_some', extractV_tuple, nilCheckV_ptr, againK_normal, againK_exit, againK_ret, blockK_normal, blockK_same, blockK_ret, seqK_normal, seqK_exit, seqK_ret, fin_done, if_true', if_false', Bool.not_true, Bool.not_false, idx0, idx1, idx2, idx3, idx4, chk_nil_l, chk_nil_r, done_nm]
    exact ⟨_, rfl⟩
theorem allF_nil {m : Nat} {bs : List UInt8} (h : allF m bs = some []) : bs = [] := by
  cases m with
  | zero => unfold allF at h; split at h; assumption; cases h
  | succ m =>
    unfold allF at h
    split at h
    · assumption
    · split at h
      · cases h
      · cases e : allF m (bs.drop (getL bs).2) <;> rw [e] at h <;> simp at h
theorem allF_cons {m : Nat} {bs : List UInt8} {x : Nat} {l : List Nat} (h : allF m bs = some (x :: l)) : ∃ k, (getL bs).1 = x ∧ (getL bs).2 ≠ 0 ∧ allF k (bs.drop (getL bs).2) = some l := by
  cases m with
  | zero => unfold allF at h; split at h <;> simp at h
  | succ m =>
    unfold allF at h
    split at h
    · simp at h
    · split at h
      · cases h
      · rename_i hs
        cases e : allF m (bs.drop (getL bs).2) with
        | none => rw [e] at h; cases h
        | some l' =>
          rw [e] at h
          simp only [Option.map_some, Option.some.injEq, List.cons.injEq] at h
          exact ⟨m, h.1, hs, by rw [e, h.2]⟩
theorem says_loop {h0 h : Heap} {n : Nat} (hn : n < 2 ^ 64) {vb p q vl : Value} {bs : List UInt8} {l : List Nat} {ok : Bool} {g k : Nat} (hl : bs.length < 2 ^ 37) (hll : l.length < 2 ^ 38) (sb : SB h vb bs) (sp : SB h p (bs ++ putL n)) (sq : SB h q (bs ++ putL n)) (sl : SU h vl l)
    (h2 : ok = false → l = [] ∧ (allL bs).isSome = false) : ∀ (m i at_ f : Nat), l.length = i + m → at_ ≤ bs.length → (ok = true → allF f (bs.drop at_) = some (l.drop i)) → ∀ (x2 x3 x15 x16 x17 x18 x19 x20 x21 x22 x23 x24 x25 x26 x27 x28 x29 x30 x31 x32 x33 x34 x35 x36 x37 x38 x39 x40 x41 x42 x43 x44 x45 x46 x47 x48 x49 x50 x51 x52 x53 x54 x55 x56 x57 x58 x59 x60 x61 x62 x63 x64 x65 x66 x67 x68 x69 x70 x71 x72 x73 x74 x75 x76 x77 x78 x79 x80 x81 x82 x83 x84 x85 x86 x87 x88 x89 x90 x91 x92 x93 x94 x95 x96 x97 x98 x99 x100 x101 x102 x103 x104 x105 : Value),
    ∃ h', loopK Try.prog (evC Try.prog) c7_1 ⟨#[.int .u64 n, vb, x2, x3, .bool false, p, q, .int .u64 g, .int .i64 k, .int .u64 g, .int .i64 k, vl, .bool ok, .int .i64 at_, .int .i64 i, x15, x16, x17, x18, x19, x20, x21, x22, x23, x24, x25, x26, x27, x28, x29, x30, x31, x32, x33, x34, x35, x36, x37, x38, x39, x40, x41, x42, x43, x44, x45, x46, x47, x48, x49, x50, x51, x52, x53, x54, x55, x56, x57, x58, x59, x60, x61, x62, x63, x64, x65, x66, x67, x68, x69, x70, x71, x72, x73, x74, x75, x76, x77, x78, x79, x80, x81, x82, x83, x84, x85, x86, x87, x88, x89, x90, x91, x92, x93, x94, x95, x96, x97, x98, x99, x100, x101, x102, x103, x104, x105], h⟩ (blockK 0 (seqK Try.prog (evC Try.prog) c7_2 (retK Try.f7 Try.prog h0))) = some (.bool true, h') := by
  intro m
  induction m with
  | zero =>
    intro i at_ f hm hat hok x2 x3 x15 x16 x17 x18 x19 x20 x21 x22 x23 x24 x25 x26 x27 x28 x29 x30 x31 x32 x33 x34 x35 x36 x37 x38 x39 x40 x41 x42 x43 x44 x45 x46 x47 x48 x49 x50 x51 x52 x53 x54 x55 x56 x57 x58 x59 x60 x61 x62 x63 x64 x65 x66 x67 x68 x69 x70 x71 x72 x73 x74 x75 x76 x77 x78 x79 x80 x81 x82 x83 x84 x85 x86 x87 x88 x89 x90 x91 x92 x93 x94 x95 x96 x97 x98 x99 x100 x101 x102 x103 x104 x105
    rw [loopK_eq evC_m, c7_1_eq]
    simp -implicitDefEqProofs (disch := omega) only [dcT, dcF, sl.row.len_eq etU.under, bin_add, bin_sub, bin_mul, bin_lss, bin_leq, bin_gtr, bin_geq, bin_eql, bin_neq, un_not, un_neg, Option.bind_some, Option.bind_none, Option.map_some, cnd_true, cnd_false, pickV_true, pickV_false, gd_true, gd_false, gdV_true, gdV_false, gdH_true, gdH_false, gdS_true, gdS_false, wt_ff, wt_tt, wt_ft, wt_tf, wt_undef, obH_some', extractV_tuple, nilCheckV_ptr, againK_normal, againK_exit, againK_ret, blockK_normal, blockK_same, blockK_ret, seqK_normal, seqK_exit, seqK_ret, fin_done, if_true', if_false', Bool.not_true, Bool.not_false, idx0, idx1, idx2, idx3, idx4, chk_nil_l, chk_nil_r, done_nm]
    refine says_end hn hl sb sp sq sl (fun e => ?_) h2 _ _ _ _ _ _ _ _ _ _ _ _ _ _ _ _ _ _ _ _ _ _ _ _ _ _ _ _ _ _ _ _ _ _ _ _ _ _ _ _ _ _ _ _ _ _ _ _ _ _ _ _ _ _ _ _ _ _ _ _ _ _ _ _ _ _ _ _ _ _ _ _ _ _ _ _ _ _ _ _ _ _ _ _ _ _ _ _ _ _ _ _ _ _
    have := hok e
    rw [List.drop_of_length_le (by omega : l.length ≤ i)] at this
    have := congrArg List.length (allF_nil this)
    simp at this; omega
  | succ m ih =>
    intro i at_ f hm hat hok x2 x3 x15 x16 x17 x18 x19 x20 x21 x22 x23 x24 x25 x26 x27 x28 x29 x30 x31 x32 x33 x34 x35 x36 x37 x38 x39 x40 x41 x42 x43 x44 x45 x46 x47 x48 x49 x50 x51 x52 x53 x54 x55 x56 x57 x58 x59 x60 x61 x62 x63 x64 x65 x66 x67 x68 x69 x70 x71 x72 x73 x74 x75 x76 x77 x78 x79 x80 x81 x82 x83 x84 x85 x86 x87 x88 x89 x90 x91 x92 x93 x94 x95 x96 x97 x98 x99 x100 x101 x102 x103 x104 x105
    rw [loopK_eq evC_m, c7_1_eq]
    cases ok with
    | false => obtain ⟨rfl, _⟩ := h2 rfl; simp at hm
    | true =>
      have hi : i < l.length := by omega
      have hd := hok rfl
      rw [List.drop_eq_getElem_cons hi] at hd
      obtain ⟨f', e1, e2, e3⟩ := allF_cons hd
      obtain ⟨a, a1, a2⟩ := su_at sl etU.under hi
      have eg : l.getD i 0 = l[i] := by rw [List.getD_eq_getElem?_getD, List.getElem?_eq_getElem hi]; rfl
      rw [eg] at a2
      obtain ⟨ad, cd, ed, sd, _⟩ := sl_drop sb hat .i64
      have er := spec_refGet h _ _ sd (by simp; omega)
      have hle := getL_len (bs.drop at_)
      have h64 := getL_lt (bs.drop at_)
      simp only [List.length_drop] at hle
      rw [List.drop_drop] at e3
      have hw : IntKind.wrap .i64 ((at_ : Int) + (getL (bs.drop at_)).2) = ((at_ + (getL (bs.drop at_)).2 : Nat) : Int) := by rw [wrap_i64] <;> omega
      have hw2 : IntKind.wrap .i64 ((i : Int) + 1) = ((i + 1 : Nat) : Int) := by rw [wrap_i64] <;> omega
      rw [e1] at er
      simp -implicitDefEqProofs (disch := omega) only [dcT, dcF, sl.row.len_eq etU.under, ed, er, a1, a2, ne_eq, eq_self, not_true_eq_false, decide_false, hw, hw2, bin_add, bin_sub, bin_mul, bin_lss, bin_leq, bin_gtr, bin_geq, bin_eql, bin_neq, un_not, un_neg, Option.bind_some, Option.bind_none, Option.map_some, cnd_true, cnd_false, pickV_true, pickV_false, gd_true, gd_false, gdV_true, gdV_false, gdH_true, gdH_false, gdS_true, gdS_false, wt_ff, wt_tt, wt_ft, wt_tf, wt_undef, obH_some', extractV_tuple, nilCheckV_ptr, againK_normal, againK_exit, againK_ret, blockK_normal, blockK_same, blockK_ret, seqK_normal, seqK_exit, seqK_ret, fin_done, if_true', if_false', Bool.not_true, Bool.not_false, idx0, idx1, idx2, idx3, idx4, chk_nil_l, chk_nil_r, done_nm]
      exact ih (i + 1) _ f' (by omega) (by omega) (fun _ => e3) _ _ _ _ _ _ _ _ _ _ _ _ _ _ _ _ _ _ _ _ _ _ _ _ _ _ _ _ _ _ _ _ _ _ _ _ _ _ _ _ _ _ _ _ _ _ _ _ _ _ _ _ _ _ _ _ _ _ _ _ _ _ _ _ _ _ _ _ _ _ _ _ _ _ _ _ _ _ _ _ _ _ _ _ _ _ _ _ _ _ _ _ _
theorem mlaw_LebSays (n : Nat) (hn : n < 2 ^ 64) (vb : Value) (bs : List UInt8) (h : Heap) (sb : SB h vb bs) : ∃ h', evC Try.prog 7 #[.int .u64 n, vb] h = some (.bool true, h') := by
  rw [call7, c7_0_eq]
  obtain ⟨h1, e1, x1⟩ := spec_awake3 (nm h)
  have b1 := sb.nm.ext x1
  by_cases g1 : bs.length > 100
  · simp -implicitDefEqProofs (disch := omega) only [dcT, dcF, e1, b1.row.len_eq etB.under, ↓ret7, bin_add, bin_sub, bin_mul, bin_lss, bin_leq, bin_gtr, bin_geq, bin_eql, bin_neq, un_not, un_neg, Option.bind_some, Option.bind_none, Option.map_some, cnd_true, cnd_false, pickV_true, pickV_false, gd_true, gd_false, gdV_true, gdV_false, gdH_true, gdH_false, gdS_true, gdS_false, wt_ff, wt_tt, wt_ft, wt_tf, wt_undef, obH_some', extractV_tuple, nilCheckV_ptr, againK_normal, againK_exit, againK_ret, blockK_normal, blockK_same, blockK_ret, seqK_normal, seqK_exit, seqK_ret, fin_done, if_true', if_false', Bool.not_true, Bool.not_false, idx0, idx1, idx2, idx3, idx4, chk_nil_l, chk_nil_r, done_nm]
    exact ⟨_, rfl⟩
  obtain ⟨pa, pc, h2, e2, x2, s2⟩ := spec_PutB n hn h1 vb bs b1 (by omega)
  have b2 := b1.ext x2
  obtain ⟨qa, qc, h3, e3, x3, s3⟩ := spec_refPut n hn h2 vb bs b2 (by omega)
  have b3 := b2.ext x3
  have eg := spec_Get h3 vb bs b3.row (by omega)
  have er := spec_refGet h3 vb bs b3 (by omega)
  obtain ⟨la, lc, h4, e4, x4, s4⟩ := spec_All b3 (by omega)
  have b4 := b3.ext x4
  simp -implicitDefEqProofs (disch := omega) only [dcT, dcF, e1, b1.row.len_eq etB.under, e2, e3, eg, er, e4, bin_add, bin_sub, bin_mul, bin_lss, bin_leq, bin_gtr, bin_geq, bin_eql, bin_neq, un_not, un_neg, Option.bind_some, Option.bind_none, Option.map_some, cnd_true, cnd_false, pickV_true, pickV_false, gd_true, gd_false, gdV_true, gdV_false, gdH_true, gdH_false, gdS_true, gdS_false, wt_ff, wt_tt, wt_ft, wt_tf, wt_undef, obH_some', extractV_tuple, nilCheckV_ptr, againK_normal, againK_exit, againK_ret, blockK_normal, blockK_same, blockK_ret, seqK_normal, seqK_exit, seqK_ret, fin_done, if_true', if_false', Bool.not_true, Bool.not_false, idx0, idx1, idx2, idx3, idx4, chk_nil_l, chk_nil_r, done_nm]
  have hll : ((allL bs).getD []).length ≤ bs.length := by
    cases e : allL bs with
    | none => simp
    | some l => exact (allF_len _ _ _ e).1
  refine says_loop (h0 := h) hn (by omega) (by omega) b4 ((s2.sb.ext x3).ext x4) (s3.sb.ext x4) s4.su (fun e => ?_) ((allL bs).getD []).length 0 0 bs.length (by omega) (by omega) (fun e => ?_) _ _ _ _ _ _ _ _ _ _ _ _ _ _ _ _ _ _ _ _ _ _ _ _ _ _ _ _ _ _ _ _ _ _ _ _ _ _ _ _ _ _ _ _ _ _ _ _ _ _ _ _ _ _ _ _ _ _ _ _ _ _ _ _ _ _ _ _ _ _ _ _ _ _ _ _ _ _ _ _ _ _ _ _ _ _ _ _ _ _ _ _ _
  · cases ea : allL bs with
    | none => exact ⟨rfl, rfl⟩
    | some l => rw [ea] at e; cases e
  · cases ea : allL bs with
    | none => rw [ea] at e; cases e
    | some l => simpa [allL] using ea
theorem law_LebSays (h : Heap) (vs : List Value) (dd : List DT) (r : RdAll Try.prog h [22, 31] vs dd) : ∃ h', evC Try.prog 7 vs.toArray h = some (.bool true, h') := by
  obtain ⟨v, d, vs', ds', rfl, rfl, r0, r1⟩ := r.cons_inv
  obtain ⟨v1, d1, vs', ds', rfl, rfl, ra, r2⟩ := r1.cons_inv
  obtain ⟨rfl, rfl⟩ := r2.nil_inv
  obtain ⟨n, rfl, hn⟩ := r0.u64 (by kernel_rfl)
  obtain ⟨bs, hb, _⟩ := ra.bytes (e := 5) (by kernel_rfl) (by kernel_rfl) (by kernel_rfl)
  exact mlaw_LebSays n hn v1 bs h hb
end Go.Am
namespace Go.Am
open Go.Proofs
set_option maxRecDepth 100000
set_option linter.all false
attribute [local congr] obind_congr obH_congr cnd_congr chk_congr retK_congr codeK_congr
def putAll (l : List Nat) : List UInt8 := l.flatMap putL
theorem putAll_len (l : List Nat) (hl : ∀ n ∈ l, n < 2 ^ 64) : (putAll l).length ≤ 10 * l.length := by
  induction l with
  | nil => simp [putAll]
  | cons n l ih =>
    have hn := hl n (by simp)
    have h1 := sizeN_le n 10 (by omega) (by omega)
    have h2 := ih fun m hm => hl m (by simp [hm])
    have h3 := putL_len n
    simp only [putAll, List.flatMap_cons, List.length_append, List.length_cons] at h2 ⊢
    omega
theorem putAll_snoc (l : List Nat) (n : Nat) : putAll (l ++ [n]) = putAll l ++ putL n := by simp [putAll]
theorem allF_putAll : ∀ (l : List Nat) (k : Nat), (∀ n ∈ l, n < 2 ^ 64) → l.length ≤ k → allF k (putAll l) = some l
  | [], k, _, _ => by cases k <;> rfl
  | n :: l, k, h, hk => by
    cases k with
    | zero => simp at hk
    | succ k =>
      have hp := putL_pos n
      have hne : putAll (n :: l) ≠ [] := by
        intro e
        have h0 : (putAll (n :: l)).length = 0 := by rw [e]; rfl
        simp only [putAll, List.flatMap_cons, List.length_append] at h0
        omega
      have hg : getL (putAll (n :: l)) = (n, (putL n).length) := getL_putL n (h n (by simp)) (putAll l)
      unfold allF
      rw [if_neg hne, hg]
      simp only []
      rw [if_neg (show ¬ (putL n).length = 0 by omega)]
      have : (putAll (n :: l)).drop (putL n).length = putAll l := by simp [putAll]
      rw [this, allF_putAll l k (fun m hm => h m (by simp [hm])) (by simpa using hk)]
      rfl
theorem len_le_putAll (l : List Nat) : l.length ≤ (putAll l).length := by
  induction l with
  | nil => simp
  | cons n l ih =>
    have hp := putL_pos n
    simp only [putAll, List.flatMap_cons, List.length_append, List.length_cons] at ih ⊢
    omega
theorem allL_putAll (l : List Nat) (h : ∀ n ∈ l, n < 2 ^ 64) : allL (putAll l) = some l := allF_putAll l _ h (len_le_putAll l)
theorem sizeN_mono (a : Nat) : ∀ b, a ≤ b → sizeN a ≤ sizeN b := by
  induction a using Nat.strongRecOn with
  | _ a ih =>
    intro b hb
    have ea : sizeN a = if a < 128 then 1 else sizeN (a / 128) + 1 := by rw [sizeN]
    have eb : sizeN b = if b < 128 then 1 else sizeN (b / 128) + 1 := by rw [sizeN]
    have hp := sizeN_pos b
    by_cases h1 : a < 128
    · rw [ea, if_pos h1]; exact hp
    · rw [ea, eb, if_neg h1, if_neg (by omega)]
      have := ih (a / 128) (by omega) (b / 128) (Nat.div_le_div_right hb)
      omega
theorem take_snoc (l : List Nat) {i : Nat} (hi : i < l.length) : l.take i ++ [l.getD i 0] = l.take (i + 1) := by
  rw [List.take_add_one, List.getD_eq_getElem?_getD, List.getElem?_eq_getElem hi]; rfl
theorem getD_lt64 (ns : List Nat) (h : ∀ n ∈ ns, n < 2 ^ 64) (i : Nat) : ns.getD i 0 < 2 ^ 64 := getD_lt ns h i
/-- the end of the law -/
theorem back_end {h0 h : Heap} {v r b : Value} {l : List Nat} {rs : List UInt8} (hl : l.length ≤ 30) (hr : rs.length ≤ 50) (h64 : ∀ n ∈ l, n < 2 ^ 64) (sl : SU h v l) (sr : SB h r rs) (sb : SB h b (putAll l)) (x2 x3 x4 x6 x7 x8 x9 x10 x11 x12 x13 x14 x15 x16 x17 x18 x19 x20 x21 x22 x23 x24 x25 x26 x27 x28 x29 x30 x31 x32 x33 x34 x35 x36 x37 x38 x39 x40 x41 x42 x43 x44 x45 x46 x47 x48 x49 x50 x51 x52 x53 x54 x55 x56 x57 x58 x59 x60 x61 x62 x63 x64 x65 x66 x67 x68 x69 x70 x71 x72 x73 x74 x75 x76 x77 x78 x79 x80 x81 x82 x83 x84 x85 x86 x87 x88 x89 x90 x91 x92 x93 x94 x95 x96 x97 x98 x99 x100 x101 x102 x103 x104 x105 x106 x107 x108 x109 x110 x111 x112 x113 x114 x115 x116 x117 : Value) :
    ∃ h', codeK Try.prog (evC Try.prog) loopL c8_4 ⟨#[v, r, x2, x3, x4, b, x6, x7, x8, x9, x10, x11, x12, x13, x14, x15, x16, x17, x18, x19, x20, x21, x22, x23, x24, x25, x26, x27, x28, x29, x30, x31, x32, x33, x34, x35, x36, x37, x38, x39, x40, x41, x42, x43, x44, x45, x46, x47, x48, x49, x50, x51, x52, x53, x54, x55, x56, x57, x58, x59, x60, x61, x62, x63, x64, x65, x66, x67, x68, x69, x70, x71, x72, x73, x74, x75, x76, x77, x78, x79, x80, x81, x82, x83, x84, x85, x86, x87, x88, x89, x90, x91, x92, x93, x94, x95, x96, x97, x98, x99, x100, x101, x102, x103, x104, x105, x106, x107, x108, x109, x110, x111, x112, x113, x114, x115, x116, x117], h⟩ (retK Try.f8 Try.prog h0) = some (.bool true, h') := by
  rw [c8_4_eq]
  cases l with
  | nil =>
    simp -implicitDefEqProofs (disch := omega) only [dcT, dcF, sl.row.len_eq etU.under, List.length_nil, ↓ret8, bin_add, bin_sub, bin_mul, bin_lss, bin_leq, bin_gtr, bin_geq, bin_eql, bin_neq, un_not, un_neg, Option.bind_some, Option.bind_none, Option.map_some, cnd_true, cnd_false, pickV_true, pickV_false, gd_true, gd_false, gdV_true, gdV_false, gdH_true, gdH_false, gdS_true, gdS_false, wt_ff, wt_tt, wt_ft, wt_tf, wt_undef, obH_some', extractV_tuple, nilCheckV_ptr, againK_normal, againK_exit, againK_ret, blockK_normal, blockK_same, blockK_ret, seqK_normal, seqK_exit, seqK_ret, fin_done, if_true', if_false', Bool.not_true, Bool.not_false, idx0, idx1, idx2, idx3, idx4, chk_nil_l, chk_nil_r, done_nm]
    exact ⟨_, rfl⟩
  | cons n l =>
    have hb := putAll_len (n :: l) h64
    have hn := h64 n (by simp)
    have s0 := AB.empty h.blks.length h (Nat.le_refl _)
    obtain ⟨a1, c1, h1, e1, s1, k1, o1, _⟩ := app_bytes (n0 := h.blks.length) (by simp [Heap.new]) s0 (sb.keepNew (.cells []) 5) (by simp only [List.length_nil]; omega)
    rw [List.nil_append] at e1 s1
    have K1 : Same h h1 := ⟨Nat.le_trans (Same.new h (.cells []) 5).1 k1.len, fun b hb => (k1.old b hb).trans (Heap.new_old hb)⟩
    obtain ⟨a2, c2, h2, e2, s2, k2, o2, _⟩ := app_bytes (n0 := h.blks.length) K1.1 s1 (sr.same K1) (by omega)
    have K2 : Same h h2 := ⟨Nat.le_trans K1.1 k2.len, fun b hb => (k2.old b hb).trans (K1.2 b hb)⟩
    have sg := s2.sb
    have hg := spec_Get h2 _ _ sg.row (by rw [List.length_append]; omega)
    have hgl : getL (putAll (n :: l) ++ rs) = (n, (putL n).length) := by
      have := getL_putL n hn (putAll l ++ rs)
      simpa [putAll] using this
    rw [hgl] at hg
    obtain ⟨ad, ea, el⟩ := su_at (sl.same K2) etU.under (i := 0) (by simp)
    rw [show ((0 : Nat) : Int) = 0 from rfl] at ea
    have hs := spec_Size n hn
    have hz := putL_len n
    have el' : loadV Try.prog 22 (.pointer (some ad)) h2 = some (.int .u64 (n : Nat)) := el
    simp -implicitDefEqProofs (disch := omega) only [dcT, dcF, sl.row.len_eq etU.under, List.length_cons, mkB0, e1, e2, hg, ea, el', hs, hz, eq_self, decide_true, ↓ret8, bin_add, bin_sub, bin_mul, bin_lss, bin_leq, bin_gtr, bin_geq, bin_eql, bin_neq, un_not, un_neg, Option.bind_some, Option.bind_none, Option.map_some, cnd_true, cnd_false, pickV_true, pickV_false, gd_true, gd_false, gdV_true, gdV_false, gdH_true, gdH_false, gdS_true, gdS_false, wt_ff, wt_tt, wt_ft, wt_tf, wt_undef, obH_some', extractV_tuple, nilCheckV_ptr, againK_normal, againK_exit, againK_ret, blockK_normal, blockK_same, blockK_ret, seqK_normal, seqK_exit, seqK_ret, fin_done, if_true', if_false', Bool.not_true, Bool.not_false, idx0, idx1, idx2, idx3, idx4, chk_nil_l, chk_nil_r, done_nm]
    exact ⟨_, rfl⟩
theorem back_loop2 {h0 h : Heap} {v r b w : Value} {l : List Nat} {rs : List UInt8} (hl : l.length ≤ 30) (hr : rs.length ≤ 50) (h64 : ∀ n ∈ l, n < 2 ^ 64) (sl : SU h v l) (sr : SB h r rs) (sb : SB h b (putAll l)) (sm : SU h w l) : ∀ (mm i : Nat), l.length = i + mm → ∀ (x2 x3 x6 x8 x10 x11 x12 x13 x14 x15 x16 x17 x18 x19 x20 x21 x22 x23 x24 x25 x26 x27 x28 x29 x30 x31 x32 x33 x34 x35 x36 x37 x38 x39 x40 x41 x42 x43 x44 x45 x46 x47 x48 x49 x50 x51 x52 x53 x54 x55 x56 x57 x58 x59 x60 x61 x62 x63 x64 x65 x66 x67 x68 x69 x70 x71 x72 x73 x74 x75 x76 x77 x78 x79 x80 x81 x82 x83 x84 x85 x86 x87 x88 x89 x90 x91 x92 x93 x94 x95 x96 x97 x98 x99 x100 x101 x102 x103 x104 x105 x106 x107 x108 x109 x110 x111 x112 x113 x114 x115 x116 x117 : Value),
    ∃ h', loopK Try.prog (evC Try.prog) c8_3 ⟨#[v, r, x2, x3, .bool false, b, x6, w, x8, .int .i64 i, x10, x11, x12, x13, x14, x15, x16, x17, x18, x19, x20, x21, x22, x23, x24, x25, x26, x27, x28, x29, x30, x31, x32, x33, x34, x35, x36, x37, x38, x39, x40, x41, x42, x43, x44, x45, x46, x47, x48, x49, x50, x51, x52, x53, x54, x55, x56, x57, x58, x59, x60, x61, x62, x63, x64, x65, x66, x67, x68, x69, x70, x71, x72, x73, x74, x75, x76, x77, x78, x79, x80, x81, x82, x83, x84, x85, x86, x87, x88, x89, x90, x91, x92, x93, x94, x95, x96, x97, x98, x99, x100, x101, x102, x103, x104, x105, x106, x107, x108, x109, x110, x111, x112, x113, x114, x115, x116, x117], h⟩ (blockK 2 (seqK Try.prog (evC Try.prog) c8_4 (retK Try.f8 Try.prog h0))) = some (.bool true, h') := by
  intro mm
  induction mm with
  | zero =>
    intro i hi x2 x3 x6 x8 x10 x11 x12 x13 x14 x15 x16 x17 x18 x19 x20 x21 x22 x23 x24 x25 x26 x27 x28 x29 x30 x31 x32 x33 x34 x35 x36 x37 x38 x39 x40 x41 x42 x43 x44 x45 x46 x47 x48 x49 x50 x51 x52 x53 x54 x55 x56 x57 x58 x59 x60 x61 x62 x63 x64 x65 x66 x67 x68 x69 x70 x71 x72 x73 x74 x75 x76 x77 x78 x79 x80 x81 x82 x83 x84 x85 x86 x87 x88 x89 x90 x91 x92 x93 x94 x95 x96 x97 x98 x99 x100 x101 x102 x103 x104 x105 x106 x107 x108 x109 x110 x111 x112 x113 x114 x115 x116 x117
    rw [loopK_eq evC_m]
    have be := fun x2 x3 x4 x6 x7 x8 x9 x10 x11 x12 x13 x14 x15 x16 x17 x18 x19 x20 x21 x22 x23 x24 x25 x26 x27 x28 x29 x30 x31 x32 x33 x34 x35 x36 x37 x38 x39 x40 x41 x42 x43 x44 x45 x46 x47 x48 x49 x50 x51 x52 x53 x54 x55 x56 x57 x58 x59 x60 x61 x62 x63 x64 x65 x66 x67 x68 x69 x70 x71 x72 x73 x74 x75 x76 x77 x78 x79 x80 x81 x82 x83 x84 x85 x86 x87 x88 x89 x90 x91 x92 x93 x94 x95 x96 x97 x98 x99 x100 x101 x102 x103 x104 x105 x106 x107 x108 x109 x110 x111 x112 x113 x114 x115 x116 x117 => back_end (h0 := h0) hl hr h64 sl sr sb x2 x3 x4 x6 x7 x8 x9 x10 x11 x12 x13 x14 x15 x16 x17 x18 x19 x20 x21 x22 x23 x24 x25 x26 x27 x28 x29 x30 x31 x32 x33 x34 x35 x36 x37 x38 x39 x40 x41 x42 x43 x44 x45 x46 x47 x48 x49 x50 x51 x52 x53 x54 x55 x56 x57 x58 x59 x60 x61 x62 x63 x64 x65 x66 x67 x68 x69 x70 x71 x72 x73 x74 x75 x76 x77 x78 x79 x80 x81 x82 x83 x84 x85 x86 x87 x88 x89 x90 x91 x92 x93 x94 x95 x96 x97 x98 x99 x100 x101 x102 x103 x104 x105 x106 x107 x108 x109 x110 x111 x112 x113 x114 x115 x116 x117
    simp -implicitDefEqProofs (disch := omega) only [↓c8_3_eq, ↓c8_5_eq, dcT, dcF, sl.row.len_eq etU.under, bin_add, bin_sub, bin_mul, bin_lss, bin_leq, bin_gtr, bin_geq, bin_eql, bin_neq, un_not, un_neg, Option.bind_some, Option.bind_none, Option.map_some, cnd_true, cnd_false, pickV_true, pickV_false, gd_true, gd_false, gdV_true, gdV_false, gdH_true, gdH_false, gdS_true, gdS_false, wt_ff, wt_tt, wt_ft, wt_tf, wt_undef, obH_some', extractV_tuple, nilCheckV_ptr, againK_normal, againK_exit, againK_ret, blockK_normal, blockK_same, blockK_ret, seqK_normal, seqK_exit, seqK_ret, fin_done, if_true', if_false', Bool.not_true, Bool.not_false, idx0, idx1, idx2, idx3, idx4, chk_nil_l, chk_nil_r, done_nm]
    exact be _ _ _ _ _ _ _ _ _ _ _ _ _ _ _ _ _ _ _ _ _ _ _ _ _ _ _ _ _ _ _ _ _ _ _ _ _ _ _ _ _ _ _ _ _ _ _ _ _ _ _ _ _ _ _ _ _ _ _ _ _ _ _ _ _ _ _ _ _ _ _ _ _ _ _ _ _ _ _ _ _ _ _ _ _ _ _ _ _ _ _ _ _ _ _ _ _ _ _ _ _ _ _ _ _ _ _ _ _ _ _ _ _ _ _
  | succ mm ih =>
    intro i hi x2 x3 x6 x8 x10 x11 x12 x13 x14 x15 x16 x17 x18 x19 x20 x21 x22 x23 x24 x25 x26 x27 x28 x29 x30 x31 x32 x33 x34 x35 x36 x37 x38 x39 x40 x41 x42 x43 x44 x45 x46 x47 x48 x49 x50 x51 x52 x53 x54 x55 x56 x57 x58 x59 x60 x61 x62 x63 x64 x65 x66 x67 x68 x69 x70 x71 x72 x73 x74 x75 x76 x77 x78 x79 x80 x81 x82 x83 x84 x85 x86 x87 x88 x89 x90 x91 x92 x93 x94 x95 x96 x97 x98 x99 x100 x101 x102 x103 x104 x105 x106 x107 x108 x109 x110 x111 x112 x113 x114 x115 x116 x117
    rw [loopK_eq evC_m]
    obtain ⟨a1, ea1, el1⟩ := su_at sm etU.under (i := i) (by omega)
    obtain ⟨a2, ea2, el2⟩ := su_at sl etU.under (i := i) (by omega)
    have hw : IntKind.wrap .i64 ((i : Int) + 1) = ((i + 1 : Nat) : Int) := by rw [wrap_i64] <;> omega
    have ih' := ih (i + 1) (by omega)
    cases i with
    | zero =>
      rw [show ((0 : Nat) : Int) = 0 from rfl] at ea1 ea2 hw
      rw [show ((0 : Nat) : Int) = 0 from rfl]
      simp -implicitDefEqProofs (disch := omega) only [↓c8_3_eq, ↓c8_5_eq, ↓c8_6_eq, ↓c8_7_eq, ↓c8_8_eq, ↓c8_9_eq, ↓c8_10_eq, ↓c8_11_eq, ↓d8_0_0, ↓d8_0_1, ↓d8_0_2, ↓d8_0_3, ↓d8_0_4, ↓d8_0_5, ↓d8_0_6, ↓d8_0_7, ↓d8_0_8, ↓d8_0_9, ↓d8_0_10, ↓d8_0_11, ↓d8_0_12, ↓d8_0_13, ↓d8_0_14, ↓d8_0_15, ↓d8_0_16, ↓d8_0_17, ↓d8_0_18, ↓d8_0_19, ↓d8_0_20, ↓d8_0_21, ↓d8_0_22, ↓d8_0_23, ↓d8_0_24, ↓d8_0_25, ↓d8_0_26, ↓d8_0_27, ↓d8_0_28, ↓d8_0_29, ↓d8_0_30, ↓d8_0_31, ↓d8_0_32, ↓d8_0_33, ↓d8_0_34, ↓d8_0_35, ↓d8_0_36, ↓d8_0_37, ↓d8_0_38, ↓d8_0_39, dcT, dcF, sl.row.len_eq etU.under, ea1, el1, ea2, el2, hw, ne_eq, eq_self, not_true_eq_false, decide_false, bin_add, bin_sub, bin_mul, bin_lss, bin_leq, bin_gtr, bin_geq, bin_eql, bin_neq, un_not, un_neg, Option.bind_some, Option.bind_none, Option.map_some, cnd_true, cnd_false, pickV_true, pickV_false, gd_true, gd_false, gdV_true, gdV_false, gdH_true, gdH_false, gdS_true, gdS_false, wt_ff, wt_tt, wt_ft, wt_tf, wt_undef, obH_some', extractV_tuple, nilCheckV_ptr, againK_normal, againK_exit, againK_ret, blockK_normal, blockK_same, blockK_ret, seqK_normal, seqK_exit, seqK_ret, fin_done, if_true', if_false', Bool.not_true, Bool.not_false, idx0, idx1, idx2, idx3, idx4, chk_nil_l, chk_nil_r, done_nm]
      exact ih' _ _ _ _ _ _ _ _ _ _ _ _ _ _ _ _ _ _ _ _ _ _ _ _ _ _ _ _ _ _ _ _ _ _ _ _ _ _ _ _ _ _ _ _ _ _ _ _ _ _ _ _ _ _ _ _ _ _ _ _ _ _ _ _ _ _ _ _ _ _ _ _ _ _ _ _ _ _ _ _ _ _ _ _ _ _ _ _ _ _ _ _ _ _ _ _ _ _ _ _ _ _ _ _ _ _ _ _ _ _ _ _
    | succ i =>
      obtain ⟨a3, ea3, el3⟩ := su_at sl etU.under (i := i) (by omega)
      have hw2 : IntKind.wrap .i64 (((i + 1 : Nat) : Int) - 1) = (i : Int) := by rw [wrap_i64] <;> omega
      have hx := getD_lt l h64 i
      have hy := getD_lt l h64 (i + 1)
      by_cases hle : l.getD i 0 ≤ l.getD (i + 1) 0
      · have hs1 := fun h => spec_Size (l.getD i 0) hx h
        have hs2 := fun h => spec_Size (l.getD (i + 1) 0) hy h
        have hmo := sizeN_mono _ _ hle
        simp -implicitDefEqProofs (disch := omega) only [↓c8_3_eq, ↓c8_5_eq, ↓c8_6_eq, ↓c8_7_eq, ↓c8_8_eq, ↓c8_9_eq, ↓c8_10_eq, ↓c8_11_eq, ↓d8_0_0, ↓d8_0_1, ↓d8_0_2, ↓d8_0_3, ↓d8_0_4, ↓d8_0_5, ↓d8_0_6, ↓d8_0_7, ↓d8_0_8, ↓d8_0_9, ↓d8_0_10, ↓d8_0_11, ↓d8_0_12, ↓d8_0_13, ↓d8_0_14, ↓d8_0_15, ↓d8_0_16, ↓d8_0_17, ↓d8_0_18, ↓d8_0_19, ↓d8_0_20, ↓d8_0_21, ↓d8_0_22, ↓d8_0_23, ↓d8_0_24, ↓d8_0_25, ↓d8_0_26, ↓d8_0_27, ↓d8_0_28, ↓d8_0_29, ↓d8_0_30, ↓d8_0_31, ↓d8_0_32, ↓d8_0_33, ↓d8_0_34, ↓d8_0_35, ↓d8_0_36, ↓d8_0_37, ↓d8_0_38, ↓d8_0_39, dcT, dcF, sl.row.len_eq etU.under, ea1, el1, ea2, el2, ea3, el3, hw, hw2, hs1, hs2, ne_eq, eq_self, not_true_eq_false, decide_false, nm_mods, am_nm, List.append_nil, List.nil_append, bin_add, bin_sub, bin_mul, bin_lss, bin_leq, bin_gtr, bin_geq, bin_eql, bin_neq, un_not, un_neg, Option.bind_some, Option.bind_none, Option.map_some, cnd_true, cnd_false, pickV_true, pickV_false, gd_true, gd_false, gdV_true, gdV_false, gdH_true, gdH_false, gdS_true, gdS_false, wt_ff, wt_tt, wt_ft, wt_tf, wt_undef, obH_some', extractV_tuple, nilCheckV_ptr, againK_normal, againK_exit, againK_ret, blockK_normal, blockK_same, blockK_ret, seqK_normal, seqK_exit, seqK_ret, fin_done, if_true', if_false', Bool.not_true, Bool.not_false, idx0, idx1, idx2, idx3, idx4, chk_nil_l, chk_nil_r, done_nm]
        exact ih' _ _ _ _ _ _ _ _ _ _ _ _ _ _ _ _ _ _ _ _ _ _ _ _ _ _ _ _ _ _ _ _ _ _ _ _ _ _ _ _ _ _ _ _ _ _ _ _ _ _ _ _ _ _ _ _ _ _ _ _ _ _ _ _ _ _ _ _ _ _ _ _ _ _ _ _ _ _ _ _ _ _ _ _ _ _ _ _ _ _ _ _ _ _ _ _ _ _ _ _ _ _ _ _ _ _ _ _ _ _ _ _
      · simp -implicitDefEqProofs (disch := omega) only [↓c8_3_eq, ↓c8_5_eq, ↓c8_6_eq, ↓c8_7_eq, ↓c8_8_eq, ↓c8_9_eq, ↓c8_10_eq, ↓c8_11_eq, ↓d8_0_0, ↓d8_0_1, ↓d8_0_2, ↓d8_0_3, ↓d8_0_4, ↓d8_0_5, ↓d8_0_6, ↓d8_0_7, ↓d8_0_8, ↓d8_0_9, ↓d8_0_10, ↓d8_0_11, ↓d8_0_12, ↓d8_0_13, ↓d8_0_14, ↓d8_0_15, ↓d8_0_16, ↓d8_0_17, ↓d8_0_18, ↓d8_0_19, ↓d8_0_20, ↓d8_0_21, ↓d8_0_22, ↓d8_0_23, ↓d8_0_24, ↓d8_0_25, ↓d8_0_26, ↓d8_0_27, ↓d8_0_28, ↓d8_0_29, ↓d8_0_30, ↓d8_0_31, ↓d8_0_32, ↓d8_0_33, ↓d8_0_34, ↓d8_0_35, ↓d8_0_36, ↓d8_0_37, ↓d8_0_38, ↓d8_0_39, dcT, dcF, sl.row.len_eq etU.under, ea1, el1, ea2, el2, ea3, el3, hw, hw2, ne_eq, eq_self, not_true_eq_false, decide_false, nm_mods, am_nm, List.append_nil, List.nil_append, bin_add, bin_sub, bin_mul, bin_lss, bin_leq, bin_gtr, bin_geq, bin_eql, bin_neq, un_not, un_neg, Option.bind_some, Option.bind_none, Option.map_some, cnd_true, cnd_false, pickV_true, pickV_false, gd_true, gd_false, gdV_true, gdV_false, gdH_true, gdH_false, gdS_true, gdS_false, wt_ff, wt_tt, wt_ft, wt_tf, wt_undef, obH_some', extractV_tuple, nilCheckV_ptr, againK_normal, againK_exit, againK_ret, blockK_normal, blockK_same, blockK_ret, seqK_normal, seqK_exit, seqK_ret, fin_done, if_true', if_false', Bool.not_true, Bool.not_false, idx0, idx1, idx2, idx3, idx4, chk_nil_l, chk_nil_r, done_nm]
        exact ih' _ _ _ _ _ _ _ _ _ _ _ _ _ _ _ _ _ _ _ _ _ _ _ _ _ _ _ _ _ _ _ _ _ _ _ _ _ _ _ _ _ _ _ _ _ _ _ _ _ _ _ _ _ _ _ _ _ _ _ _ _ _ _ _ _ _ _ _ _ _ _ _ _ _ _ _ _ _ _ _ _ _ _ _ _ _ _ _ _ _ _ _ _ _ _ _ _ _ _ _ _ _ _ _ _ _ _ _ _ _ _ _
theorem back_loop {h0 : Heap} {v r : Value} {l : List Nat} {rs : List UInt8} (hl : l.length ≤ 30) (hr : rs.length ≤ 50) (h64 : ∀ n ∈ l, n < 2 ^ 64) : ∀ (mm i : Nat) (h : Heap) (b : Value), l.length = i + mm → SU h v l → SB h r rs → SB h b (putAll (l.take i)) → ∀ (x2 x3 x7 x8 x9 x10 x11 x12 x13 x14 x15 x16 x17 x18 x19 x20 x21 x22 x23 x24 x25 x26 x27 x28 x29 x30 x31 x32 x33 x34 x35 x36 x37 x38 x39 x40 x41 x42 x43 x44 x45 x46 x47 x48 x49 x50 x51 x52 x53 x54 x55 x56 x57 x58 x59 x60 x61 x62 x63 x64 x65 x66 x67 x68 x69 x70 x71 x72 x73 x74 x75 x76 x77 x78 x79 x80 x81 x82 x83 x84 x85 x86 x87 x88 x89 x90 x91 x92 x93 x94 x95 x96 x97 x98 x99 x100 x101 x102 x103 x104 x105 x106 x107 x108 x109 x110 x111 x112 x113 x114 x115 x116 x117 : Value),
    ∃ h', loopK Try.prog (evC Try.prog) c8_1 ⟨#[v, r, x2, x3, .bool false, b, .int .i64 i, x7, x8, x9, x10, x11, x12, x13, x14, x15, x16, x17, x18, x19, x20, x21, x22, x23, x24, x25, x26, x27, x28, x29, x30, x31, x32, x33, x34, x35, x36, x37, x38, x39, x40, x41, x42, x43, x44, x45, x46, x47, x48, x49, x50, x51, x52, x53, x54, x55, x56, x57, x58, x59, x60, x61, x62, x63, x64, x65, x66, x67, x68, x69, x70, x71, x72, x73, x74, x75, x76, x77, x78, x79, x80, x81, x82, x83, x84, x85, x86, x87, x88, x89, x90, x91, x92, x93, x94, x95, x96, x97, x98, x99, x100, x101, x102, x103, x104, x105, x106, x107, x108, x109, x110, x111, x112, x113, x114, x115, x116, x117], h⟩ (blockK 0 (seqK Try.prog (evC Try.prog) c8_2 (retK Try.f8 Try.prog h0))) = some (.bool true, h') := by
  intro mm
  induction mm with
  | zero =>
    intro i h b hi sl sr sb x2 x3 x7 x8 x9 x10 x11 x12 x13 x14 x15 x16 x17 x18 x19 x20 x21 x22 x23 x24 x25 x26 x27 x28 x29 x30 x31 x32 x33 x34 x35 x36 x37 x38 x39 x40 x41 x42 x43 x44 x45 x46 x47 x48 x49 x50 x51 x52 x53 x54 x55 x56 x57 x58 x59 x60 x61 x62 x63 x64 x65 x66 x67 x68 x69 x70 x71 x72 x73 x74 x75 x76 x77 x78 x79 x80 x81 x82 x83 x84 x85 x86 x87 x88 x89 x90 x91 x92 x93 x94 x95 x96 x97 x98 x99 x100 x101 x102 x103 x104 x105 x106 x107 x108 x109 x110 x111 x112 x113 x114 x115 x116 x117
    rw [loopK_eq evC_m]
    rw [List.take_of_length_le (by omega)] at sb
    have hb := putAll_len l h64
    obtain ⟨x, c, h', e1, x1, a1⟩ := spec_All sb (by omega)
    rw [allL_putAll l h64] at e1 a1
    simp only [Option.getD_some, Option.isSome_some] at e1 a1
    have be := fun x2 x3 x6 x8 x10 x11 x12 x13 x14 x15 x16 x17 x18 x19 x20 x21 x22 x23 x24 x25 x26 x27 x28 x29 x30 x31 x32 x33 x34 x35 x36 x37 x38 x39 x40 x41 x42 x43 x44 x45 x46 x47 x48 x49 x50 x51 x52 x53 x54 x55 x56 x57 x58 x59 x60 x61 x62 x63 x64 x65 x66 x67 x68 x69 x70 x71 x72 x73 x74 x75 x76 x77 x78 x79 x80 x81 x82 x83 x84 x85 x86 x87 x88 x89 x90 x91 x92 x93 x94 x95 x96 x97 x98 x99 x100 x101 x102 x103 x104 x105 x106 x107 x108 x109 x110 x111 x112 x113 x114 x115 x116 x117 => back_loop2 (h0 := h0) hl hr h64 (sl.ext x1) (sr.ext x1) (sb.ext x1) a1.su l.length 0 (by simp) x2 x3 x6 x8 x10 x11 x12 x13 x14 x15 x16 x17 x18 x19 x20 x21 x22 x23 x24 x25 x26 x27 x28 x29 x30 x31 x32 x33 x34 x35 x36 x37 x38 x39 x40 x41 x42 x43 x44 x45 x46 x47 x48 x49 x50 x51 x52 x53 x54 x55 x56 x57 x58 x59 x60 x61 x62 x63 x64 x65 x66 x67 x68 x69 x70 x71 x72 x73 x74 x75 x76 x77 x78 x79 x80 x81 x82 x83 x84 x85 x86 x87 x88 x89 x90 x91 x92 x93 x94 x95 x96 x97 x98 x99 x100 x101 x102 x103 x104 x105 x106 x107 x108 x109 x110 x111 x112 x113 x114 x115 x116 x117
    simp -implicitDefEqProofs (disch := omega) only [↓c8_1_eq, ↓c8_2_eq, dcT, dcF, sl.row.len_eq etU.under, (sl.ext x1).row.len_eq etU.under, e1, a1.su.row.len_eq etU.under, Option.isSome_some, Option.getD_some, ne_eq, eq_self, not_true_eq_false, decide_false, bin_add, bin_sub, bin_mul, bin_lss, bin_leq, bin_gtr, bin_geq, bin_eql, bin_neq, un_not, un_neg, Option.bind_some, Option.bind_none, Option.map_some, cnd_true, cnd_false, pickV_true, pickV_false, gd_true, gd_false, gdV_true, gdV_false, gdH_true, gdH_false, gdS_true, gdS_false, wt_ff, wt_tt, wt_ft, wt_tf, wt_undef, obH_some', extractV_tuple, nilCheckV_ptr, againK_normal, againK_exit, againK_ret, blockK_normal, blockK_same, blockK_ret, seqK_normal, seqK_exit, seqK_ret, fin_done, if_true', if_false', Bool.not_true, Bool.not_false, idx0, idx1, idx2, idx3, idx4, chk_nil_l, chk_nil_r, done_nm]
    exact be _ _ _ _ _ _ _ _ _ _ _ _ _ _ _ _ _ _ _ _ _ _ _ _ _ _ _ _ _ _ _ _ _ _ _ _ _ _ _ _ _ _ _ _ _ _ _ _ _ _ _ _ _ _ _ _ _ _ _ _ _ _ _ _ _ _ _ _ _ _ _ _ _ _ _ _ _ _ _ _ _ _ _ _ _ _ _ _ _ _ _ _ _ _ _ _ _ _ _ _ _ _ _ _ _ _ _ _ _ _ _ _
  | succ mm ih =>
    intro i h b hi sl sr sb x2 x3 x7 x8 x9 x10 x11 x12 x13 x14 x15 x16 x17 x18 x19 x20 x21 x22 x23 x24 x25 x26 x27 x28 x29 x30 x31 x32 x33 x34 x35 x36 x37 x38 x39 x40 x41 x42 x43 x44 x45 x46 x47 x48 x49 x50 x51 x52 x53 x54 x55 x56 x57 x58 x59 x60 x61 x62 x63 x64 x65 x66 x67 x68 x69 x70 x71 x72 x73 x74 x75 x76 x77 x78 x79 x80 x81 x82 x83 x84 x85 x86 x87 x88 x89 x90 x91 x92 x93 x94 x95 x96 x97 x98 x99 x100 x101 x102 x103 x104 x105 x106 x107 x108 x109 x110 x111 x112 x113 x114 x115 x116 x117
    rw [loopK_eq evC_m]
    obtain ⟨a1, ea1, el1⟩ := su_at sl etU.under (i := i) (by omega)
    have hb := putAll_len (l.take i) fun n hn => h64 n (List.mem_of_mem_take hn)
    have hb2 : (l.take i).length ≤ 30 := by simp; omega
    obtain ⟨a, c, h', e1, x1, s1⟩ := spec_PutB (l.getD i 0) (getD_lt l h64 i) h b _ sb (by omega)
    rw [← putAll_snoc, take_snoc l (by omega)] at e1 s1
    have hw : IntKind.wrap .i64 ((i : Int) + 1) = ((i + 1 : Nat) : Int) := by rw [wrap_i64] <;> omega
    simp -implicitDefEqProofs (disch := omega) only [↓c8_1_eq, dcT, dcF, sl.row.len_eq etU.under, ea1, el1, e1, hw, bin_add, bin_sub, bin_mul, bin_lss, bin_leq, bin_gtr, bin_geq, bin_eql, bin_neq, un_not, un_neg, Option.bind_some, Option.bind_none, Option.map_some, cnd_true, cnd_false, pickV_true, pickV_false, gd_true, gd_false, gdV_true, gdV_false, gdH_true, gdH_false, gdS_true, gdS_false, wt_ff, wt_tt, wt_ft, wt_tf, wt_undef, obH_some', extractV_tuple, nilCheckV_ptr, againK_normal, againK_exit, againK_ret, blockK_normal, blockK_same, blockK_ret, seqK_normal, seqK_exit, seqK_ret, fin_done, if_true', if_false', Bool.not_true, Bool.not_false, idx0, idx1, idx2, idx3, idx4, chk_nil_l, chk_nil_r, done_nm]
    exact ih (i + 1) h' _ (by omega) (sl.ext x1) (sr.ext x1) s1.sb _ _ _ _ _ _ _ _ _ _ _ _ _ _ _ _ _ _ _ _ _ _ _ _ _ _ _ _ _ _ _ _ _ _ _ _ _ _ _ _ _ _ _ _ _ _ _ _ _ _ _ _ _ _ _ _ _ _ _ _ _ _ _ _ _ _ _ _ _ _ _ _ _ _ _ _ _ _ _ _ _ _ _ _ _ _ _ _ _ _ _ _ _ _ _ _ _ _ _ _ _ _ _ _ _ _ _ _ _ _ _ _ _
theorem mlaw_LebBack (v r : Value) (l : List Nat) (rs : List UInt8) (h : Heap) (sl : SU h v l) (sr : SB h r rs) (h64 : ∀ n ∈ l, n < 2 ^ 64) (hll : l.length ≤ maxLen) (hrl : rs.length ≤ maxLen) : ∃ h', evC Try.prog 8 #[v, r] h = some (.bool true, h') := by
  rw [call8]
  obtain ⟨h1, e1, x1⟩ := spec_awake3 (nm h)
  have sl1 := sl.nm.ext x1
  have sr1 := sr.nm.ext x1
  by_cases c1 : l.length > 30
  · simp -implicitDefEqProofs (disch := omega) only [↓c8_0_eq, dcT, dcF, e1, sl1.row.len_eq etU.under, ↓ret8, bin_add, bin_sub, bin_mul, bin_lss, bin_leq, bin_gtr, bin_geq, bin_eql, bin_neq, un_not, un_neg, Option.bind_some, Option.bind_none, Option.map_some, cnd_true, cnd_false, pickV_true, pickV_false, gd_true, gd_false, gdV_true, gdV_false, gdH_true, gdH_false, gdS_true, gdS_false, wt_ff, wt_tt, wt_ft, wt_tf, wt_undef, obH_some', extractV_tuple, nilCheckV_ptr, againK_normal, againK_exit, againK_ret, blockK_normal, blockK_same, blockK_ret, seqK_normal, seqK_exit, seqK_ret, fin_done, if_true', if_false', Bool.not_true, Bool.not_false, idx0, idx1, idx2, idx3, idx4, chk_nil_l, chk_nil_r, done_nm]
    exact ⟨_, rfl⟩
  by_cases c2 : rs.length > 50
  · simp -implicitDefEqProofs (disch := omega) only [↓c8_0_eq, dcT, dcF, e1, sl1.row.len_eq etU.under, sr1.row.len_eq etB.under, ↓ret8, bin_add, bin_sub, bin_mul, bin_lss, bin_leq, bin_gtr, bin_geq, bin_eql, bin_neq, un_not, un_neg, Option.bind_some, Option.bind_none, Option.map_some, cnd_true, cnd_false, pickV_true, pickV_false, gd_true, gd_false, gdV_true, gdV_false, gdH_true, gdH_false, gdS_true, gdS_false, wt_ff, wt_tt, wt_ft, wt_tf, wt_undef, obH_some', extractV_tuple, nilCheckV_ptr, againK_normal, againK_exit, againK_ret, blockK_normal, blockK_same, blockK_ret, seqK_normal, seqK_exit, seqK_ret, fin_done, if_true', if_false', Bool.not_true, Bool.not_false, idx0, idx1, idx2, idx3, idx4, chk_nil_l, chk_nil_r, done_nm]
    exact ⟨_, rfl⟩
  have be := fun x2 x3 x7 x8 x9 x10 x11 x12 x13 x14 x15 x16 x17 x18 x19 x20 x21 x22 x23 x24 x25 x26 x27 x28 x29 x30 x31 x32 x33 x34 x35 x36 x37 x38 x39 x40 x41 x42 x43 x44 x45 x46 x47 x48 x49 x50 x51 x52 x53 x54 x55 x56 x57 x58 x59 x60 x61 x62 x63 x64 x65 x66 x67 x68 x69 x70 x71 x72 x73 x74 x75 x76 x77 x78 x79 x80 x81 x82 x83 x84 x85 x86 x87 x88 x89 x90 x91 x92 x93 x94 x95 x96 x97 x98 x99 x100 x101 x102 x103 x104 x105 x106 x107 x108 x109 x110 x111 x112 x113 x114 x115 x116 x117 => back_loop (h0 := h) (by omega) (by omega) h64 l.length 0 h1 (.slice none 0 0) (by simp) sl1 sr1 .nil x2 x3 x7 x8 x9 x10 x11 x12 x13 x14 x15 x16 x17 x18 x19 x20 x21 x22 x23 x24 x25 x26 x27 x28 x29 x30 x31 x32 x33 x34 x35 x36 x37 x38 x39 x40 x41 x42 x43 x44 x45 x46 x47 x48 x49 x50 x51 x52 x53 x54 x55 x56 x57 x58 x59 x60 x61 x62 x63 x64 x65 x66 x67 x68 x69 x70 x71 x72 x73 x74 x75 x76 x77 x78 x79 x80 x81 x82 x83 x84 x85 x86 x87 x88 x89 x90 x91 x92 x93 x94 x95 x96 x97 x98 x99 x100 x101 x102 x103 x104 x105 x106 x107 x108 x109 x110 x111 x112 x113 x114 x115 x116 x117
  simp -implicitDefEqProofs (disch := omega) only [↓c8_0_eq, dcT, dcF, e1, sl1.row.len_eq etU.under, sr1.row.len_eq etB.under, bin_add, bin_sub, bin_mul, bin_lss, bin_leq, bin_gtr, bin_geq, bin_eql, bin_neq, un_not, un_neg, Option.bind_some, Option.bind_none, Option.map_some, cnd_true, cnd_false, pickV_true, pickV_false, gd_true, gd_false, gdV_true, gdV_false, gdH_true, gdH_false, gdS_true, gdS_false, wt_ff, wt_tt, wt_ft, wt_tf, wt_undef, obH_some', extractV_tuple, nilCheckV_ptr, againK_normal, againK_exit, againK_ret, blockK_normal, blockK_same, blockK_ret, seqK_normal, seqK_exit, seqK_ret, fin_done, if_true', if_false', Bool.not_true, Bool.not_false, idx0, idx1, idx2, idx3, idx4, chk_nil_l, chk_nil_r, done_nm]
  exact be _ _ _ _ _ _ _ _ _ _ _ _ _ _ _ _ _ _ _ _ _ _ _ _ _ _ _ _ _ _ _ _ _ _ _ _ _ _ _ _ _ _ _ _ _ _ _ _ _ _ _ _ _ _ _ _ _ _ _ _ _ _ _ _ _ _ _ _ _ _ _ _ _ _ _ _ _ _ _ _ _ _ _ _ _ _ _ _ _ _ _ _ _ _ _ _ _ _ _ _ _ _ _ _ _ _ _ _ _ _ _ _ _
theorem law_LebBack (h : Heap) (vs : List Value) (dd : List DT) (r : RdAll Try.prog h [41, 31] vs dd) : ∃ h', evC Try.prog 8 vs.toArray h = some (.bool true, h') := by
  obtain ⟨v, d, vs', ds', rfl, rfl, r0, r1⟩ := r.cons_inv
  obtain ⟨v1, d1, vs', ds', rfl, rfl, ra, r2⟩ := r1.cons_inv
  obtain ⟨rfl, rfl⟩ := r2.nil_inv
  obtain ⟨l, sl, h64, hl⟩ := r0.u64s (e := 22) (by kernel_rfl) (by kernel_rfl) (by kernel_rfl)
  obtain ⟨bs, hb, hbl⟩ := ra.bytes (e := 5) (by kernel_rfl) (by kernel_rfl) (by kernel_rfl)
  exact mlaw_LebBack v v1 l bs h sl hb h64 hl hbl
end Go.Am
