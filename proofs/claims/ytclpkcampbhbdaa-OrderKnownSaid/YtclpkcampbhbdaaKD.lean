/- What the functions answer, in the machine. -/
import Derived.Test.YtclpkcampbhbdaaKC
import Derived.Test.YtclpkcampbhbdaaChecked
import Derived.KernelRfl
set_option linter.all false
namespace Go.Am
open Go.Proofs
def sizeN (n : Nat) : Nat := if n < 128 then 1 else sizeN (n / 128) + 1
theorem sizeN_le (n : Nat) : ∀ k, n < 2 ^ (7 * k) → 1 ≤ k → sizeN n ≤ k := by
  induction n using Nat.strongRecOn with
  | _ n ih =>
    intro k hk h1
    rw [sizeN]
    split
    · omega
    · rename_i h
      obtain ⟨k, rfl⟩ : ∃ j, k = j + 1 := ⟨k - 1, by omega⟩
      have : 1 ≤ k := by
        rcases Nat.eq_zero_or_pos k with rfl | h'
        · simp at hk; omega
        · exact h'
      have := ih (n / 128) (by omega) k (by
        rw [Nat.div_lt_iff_lt_mul (by omega)]
        have e : 2 ^ (7 * (k + 1)) = 2 ^ (7 * k) * 128 := by rw [Nat.mul_add, Nat.pow_add]
        omega) this
      omega
theorem fdiv_128 (n : Nat) : Int.fdiv (n : Int) 128 = ((n / 128 : Nat) : Int) := by
  rw [Int.fdiv_eq_ediv_of_nonneg _ (by omega)]; omega
theorem size_loop (h0 h : Heap) (n : Nat) : ∀ (k : Nat) (Ab Ac Ae Af Ag Ah Ai Aj Ak : Value), k + sizeN n < 1000 → 0 < k →
    loopK Try.prog (evC Try.prog) c97_1 ⟨#[.int .u64 n,Ab,Ac, .int .i64 k,Ae,Af,Ag,Ah,Ai,Aj,Ak], h⟩ (blockK 0 (seqK Try.prog (evC Try.prog) c97_2 (retK Try.f97 Try.prog h0))) =
      fin h0 (some (.int .i64 ((k - 1 + sizeN n : Nat) : Int))) h := by
  induction n using Nat.strongRecOn with
  | _ n ih =>
    intro k Ab Ac Ae Af Ag Ah Ai Aj Ak hk hk0
    rw [loopK_eq evC_m, c97_1_eq]
    simp only [bin_geq, Option.bind_some, cnd_dec]
    split
    · rename_i hge
      have hge : 128 ≤ n := by omega
      rw [bin_shr _ _ _ _ _ _ _ (by omega)]
      simp only [Option.bind_some, bin_add, againK_normal]
      have e3 : sizeN n = sizeN (n / 128) + 1 := by rw [sizeN, if_neg (by omega)]
      have e1 : Int.fdiv (n : Int) (2 ^ min (Int.toNat 7) IntKind.u64.bits) = ((n / 128 : Nat) : Int) := fdiv_128 n
      have e2 : IntKind.wrap .i64 ((k : Int) + 1) = ((k + 1 : Nat) : Int) := by rw [wrap_i64] <;> omega
      rw [e1, e2, ih (n / 128) (by omega) (k + 1) _ _ _ _ _ _ _ _ _ (by omega) (by omega)]
      have e4 : k + 1 - 1 + sizeN (n / 128) = k - 1 + sizeN n := by omega
      rw [e4]
    · rename_i hlt
      have hlt : n < 128 := by omega
      simp only [againK_exit, blockK_same, seqK_normal]
      rw [c97_2_eq, ret97]
      have e3 : k - 1 + sizeN n = k := by rw [sizeN, if_pos hlt]; omega
      rw [e3]
theorem spec_Size (n : Nat) (hn : n < 2 ^ 64) (h : Heap) : evC Try.prog 97 #[.int .u64 n] h = some (.int .i64 (sizeN n), h) := by
  rw [call97, c97_0_eq]
  have := size_loop h (nm h) n 1 undef (Go.Value.int Go.IntKind.i64 0) undef undef undef undef undef undef undef (by have := sizeN_le n 10 (by omega) (by omega); omega) (by omega)
  simp only [Nat.sub_self, Nat.zero_add] at this
  exact this.trans (fin_same _ _)
end Go.Am
namespace Go.Am
open Go.Proofs
def putL (n : Nat) : List UInt8 := if n < 128 then [UInt8.ofNat n] else UInt8.ofNat (n % 128 + 128) :: putL (n / 128)
theorem putL_len (n : Nat) : (putL n).length = sizeN n := by
  induction n using Nat.strongRecOn with
  | _ n ih =>
    rw [putL, sizeN]
    split
    · rfl
    · rw [List.length_cons, ih (n / 128) (by omega)]
theorem etB : ElemT Try.prog 33 5 1 1 (.int .u8 0) := ⟨by kernel_rfl, by kernel_rfl, by kernel_rfl, by kernel_rfl, by omega, rfl, rfl⟩
theorem bs1 (k : IntKind) (m : Int) (h : Heap) : buildSliceV Try.prog 33 1 #[(0, .int k m)] h = some (.slice (some ⟨h.blks.length, 0, none⟩) 1 1, h.new (.cells [.int k m]) 5) := by kernel_rfl
theorem conv_22_5 (k : IntKind) (n : Int) (h : Heap) : convV Try.prog 35 5 (.int k n) h = some (.int .u8 (IntKind.wrap .u8 n), h) := conv_int (ks := .u64) (by kernel_rfl) (by kernel_rfl) k n h
theorem or128 (x : Fin 256) : (IntKind.wrap .u8 ((BitVec.ofInt 8 (x.val : Int) ||| BitVec.ofInt 8 128).toNat : Int)) = ((x.val % 128 + 128 : Nat) : Int) := by
  revert x; decide +kernel
theorem bin_or (P : Program) (t : TypeId) (xo yo : Operand) (k : IntKind) (a b : Int) : binV P .or t xo yo (.int k a) (.int k b) = some (.int k (k.wrap ((BitVec.ofInt k.bits a ||| BitVec.ofInt k.bits b).toNat))) :=
  bin_int t xo yo k k a b .or rfl (by simp [eqGuard,Go.binOp,Op.intBits])
theorem wrap8 (n : Nat) : IntKind.wrap .u8 (n : Int) = ((n % 256 : Nat) : Int) := by simp only [IntKind.wrap, IntKind.bits, IntKind.signed]; simp
theorem or_byte (t : TypeId) (xo yo : Operand) (n : Nat) : binV Try.prog .or t xo yo (.int .u8 (IntKind.wrap .u8 (n : Int))) (.int .u8 128) = some (byteV (UInt8.ofNat (n % 128 + 128))) := by
  rw [bin_or, wrap8]
  have := or128 ⟨n % 256, by omega⟩
  simp only at this
  show some (Value.int .u8 (IntKind.wrap .u8 ((BitVec.ofInt 8 ((n % 256 : Nat) : Int) ||| BitVec.ofInt 8 128).toNat))) = _
  rw [this]
  unfold byteV
  have e : (UInt8.ofNat (n % 128 + 128)).toNat = n % 256 % 128 + 128 := by simp; omega
  rw [e]
theorem small_byte (n : Nat) : Value.int .u8 (IntKind.wrap .u8 (n : Int)) = byteV (UInt8.ofNat n) := by
  rw [wrap8]; unfold byteV
  have e : (UInt8.ofNat n).toNat = n % 256 := by simp
  rw [e]
theorem app1 {n0 : Nat} {h : Heap} (hn0 : n0 ≤ h.blks.length) {v : Value} {n : Nat} {cs : List Value} (ha : Acc n0 h 5 1 v n cs) (hn : n < 2 ^ 40) (b : UInt8) :
    ∃ v' h', appendV Try.prog 33 (some 33) v (.slice (some ⟨h.blks.length, 0, none⟩) 1 1) (h.new (.cells [byteV b]) 5) = some (v', h') ∧ Acc n0 h' 5 1 v' (n + 1) (cs ++ [byteV b]) ∧ Keeps n0 h h' := by
  have ha' : Acc n0 (h.new (.cells [byteV b]) 5) 5 1 v n cs := ha.keep fun b hb _ => Heap.new_old hb
  have hr : Row (h.new (.cells [byteV b]) 5) 1 (.slice (some ⟨h.blks.length, 0, none⟩) 1 1) 1 [byteV b] := .mk (by simp [Heap.loadN, Heap.cells?, Heap.new])
  obtain ⟨v', h', h1, h2, h3, h4, h5⟩ := append_acc etB (t1 := some 33) (n0 := n0) (by simp [Heap.new]; omega) ha' (newsV_row etB.under hr) (by simp) (by omega) (by omega) (by simp [byteV, Value.oneCell'])
  exact ⟨v', h', h1, h2, (Keeps.new hn0 _ _).trans h3⟩
theorem put_loop (h0 : Heap) (n : Nat) : ∀ (h : Heap) (v : Value) (k : Nat) (cs : List Value) (Aa Ac Ad Ae Ag Ah Ai Aj Ak Al An Ao Ap Aq Ar As Au Av Aw Ax Ay : Value),
    k + sizeN n < 2 ^ 40 → Keeps h0.blks.length (nm h0) h → Acc h0.blks.length h 5 1 v k cs →
    ∃ v' h', loopK Try.prog (evC Try.prog) c68_1 ⟨#[Aa, .int .u64 n,Ac,Ad,Ae, v,Ag,Ah,Ai,Aj,Ak,Al,An,Ao,Ap,Aq,Ar,As,Au,Av,Aw,Ax,Ay], h⟩ (blockK 0 (seqK Try.prog (evC Try.prog) c68_2 (retK Try.f68 Try.prog h0))) =
      some (v', h') ∧ HExt h0 h' ∧ Acc h0.blks.length h' 5 1 v' (k + sizeN n) (cs ++ (putL n).map byteV) := by
  induction n using Nat.strongRecOn with
  | _ n ih =>
    intro h v k cs Aa Ac Ad Ae Ag Ah Ai Aj Ak Al An Ao Ap Aq Ar As Au Av Aw Ax Ay hk hkeep ha
    have hle : h0.blks.length ≤ h.blks.length := hkeep.len
    rw [loopK_eq evC_m, c68_1_eq]
    simp only [bin_geq, Option.bind_some, cnd_dec]
    by_cases hge : 128 ≤ n
    · rw [if_pos (by omega)]
      simp only [conv_22_5, obH_some', or_byte, Option.bind_some]
      obtain ⟨v', h', e1, e2, e3⟩ := app1 hle ha (by omega) (UInt8.ofNat (n % 128 + 128))
      rw [show byteV (UInt8.ofNat (n % 128 + 128)) = .int .u8 ((UInt8.ofNat (n % 128 + 128)).toNat : Int) from rfl] at e1
      rw [show byteV (UInt8.ofNat (n % 128 + 128)) = .int .u8 ((UInt8.ofNat (n % 128 + 128)).toNat : Int) from rfl, bs1]
      simp only [obH_some']
      rw [e1, bin_shr _ _ _ _ _ _ _ (by omega)]
      simp only [obH_some', Option.bind_some, againK_normal]
      have f1 : Int.fdiv (n : Int) (2 ^ min (Int.toNat 7) IntKind.u64.bits) = ((n / 128 : Nat) : Int) := fdiv_128 n
      have f3 : sizeN n = sizeN (n / 128) + 1 := by rw [sizeN, if_neg (by omega)]
      rw [f1]
      obtain ⟨v2, h2, g1, g2, g3⟩ := ih (n / 128) (by omega) h' v' (k + 1) _ Aa Ac Ad Ae Ag Ah _ _ _ _ _ _ _ _ _ _ _ _ _ _ _ (by omega) (hkeep.trans e3) e2
      refine ⟨v2, h2, g1, g2, ?_⟩
      have f4 : k + sizeN n = k + 1 + sizeN (n / 128) := by omega
      have f5 : cs ++ (putL n).map byteV = cs ++ [byteV (UInt8.ofNat (n % 128 + 128))] ++ (putL (n / 128)).map byteV := by
        rw [putL, if_neg (by omega)]; simp
      rw [f4, f5]; exact g3
    · rw [if_neg (by omega)]
      simp only [againK_exit, blockK_same, seqK_normal]
      rw [c68_2_eq]
      simp only [conv_22_5, obH_some', bs1]
      obtain ⟨v', h', e1, e2, e3⟩ := app1 hle ha (by omega) (UInt8.ofNat n)
      rw [← small_byte n] at e1 e2
      rw [e1]
      simp only [obH_some']
      rw [ret68, fin_done]
      refine ⟨_, _, rfl, done_ext (hkeep.trans e3), ?_⟩
      have f3 : sizeN n = 1 := by rw [sizeN, if_pos (by omega)]
      have f5 : (putL n).map byteV = [byteV (UInt8.ofNat n)] := by rw [putL, if_pos (by omega)]; rfl
      rw [f3, f5, ← small_byte n]
      exact e2.keep fun _ _ _ => rfl
theorem spec_Put (n : Nat) (hn : n < 2 ^ 64) (h : Heap) (b : Value) (k : Nat) (cs : List Value) (hb : Row h 1 b k cs) (hk : k < 2 ^ 39) (hone : cs.all Value.oneCell' = true) :
    ∃ v' h', evC Try.prog 68 #[b, .int .u64 n] h = some (v', h') ∧ HExt h h' ∧ Acc h.blks.length h' 5 1 v' (k + sizeN n) (cs ++ (putL n).map byteV) := by
  rw [call68, c68_0_eq]
  have hs := sizeN_le n 10 (by omega) (by omega)
  have hr : Row (nm h) 1 b k cs := hb.keep fun _ _ _ => rfl
  obtain ⟨v', h', h1, h2, h3, h4, h5⟩ := append_acc etB (t1 := some 33) (n0 := h.blks.length) (h := nm h) (Nat.le_refl _) .nil (newsV_row etB.under hr) (by simpa using hr.len) (by omega) (by omega) hone
  rw [h1]
  simp only [obH_some']
  obtain ⟨v2, h2', g1, g2, g3⟩ := put_loop h n h' v' (0 + k) _ b undef undef (Go.Value.slice Option.none 0 0) b v' undef undef undef undef undef undef undef undef undef undef undef undef undef undef undef (by omega) h3 h2
  exact ⟨v2, h2', g1, g2, by simpa using g3⟩
end Go.Am
namespace Go.Am
open Go.Proofs
def getLoop (n i : Nat) : List UInt8 → Nat × Nat
  | [] => (0, 0)
  | c :: l =>
    if i = 10 then (0, 0)
    else
      let n' := n ||| (c.toNat % 128 * 2 ^ (7 * i)) % 2 ^ 64
      if c.toNat < 128 then (if sizeN n' ≠ i + 1 ∨ (i = 9 ∧ c.toNat > 1) then (0, 0) else (n', i + 1)) else getLoop n' (i + 1) l
def getL (l : List UInt8) : Nat × Nat := getLoop 0 0 l
theorem wrap64 (n : Nat) : IntKind.wrap .u64 (n : Int) = ((n % 2 ^ 64 : Nat) : Int) := by simp only [IntKind.wrap, IntKind.bits, IntKind.signed]; simp
theorem or64 (P : Program) (t : TypeId) (xo yo : Operand) (a b : Nat) (ha : a < 2 ^ 64) (hb : b < 2 ^ 64) : binV P .or t xo yo (.int .u64 a) (.int .u64 b) = some (.int .u64 ((a ||| b : Nat) : Int)) := by
  rw [bin_or]
  have e : (BitVec.ofInt IntKind.u64.bits (a : Int) ||| BitVec.ofInt IntKind.u64.bits (b : Int)).toNat = a ||| b := by
    show (BitVec.ofInt 64 (a : Int) ||| BitVec.ofInt 64 (b : Int)).toNat = a ||| b
    rw [BitVec.toNat_or]
    simp
    rw [Nat.mod_eq_of_lt ha, Nat.mod_eq_of_lt hb]
  rw [e, wrap64, Nat.mod_eq_of_lt (Nat.or_lt_two_pow ha hb)]
theorem and127 (x : Fin 256) : (IntKind.wrap .u8 ((BitVec.ofInt 8 (x.val : Int) &&& BitVec.ofInt 8 127).toNat : Int)) = ((x.val % 128 : Nat) : Int) := by
  revert x; decide +kernel
theorem bin_and (P : Program) (t : TypeId) (xo yo : Operand) (k : IntKind) (a b : Int) : binV P .and t xo yo (.int k a) (.int k b) = some (.int k (k.wrap ((BitVec.ofInt k.bits a &&& BitVec.ofInt k.bits b).toNat))) :=
  bin_int t xo yo k k a b .and rfl (by simp [eqGuard,Go.binOp,Op.intBits])
theorem and_byte (P : Program) (t : TypeId) (xo yo : Operand) (c : UInt8) : binV P .and t xo yo (byteV c) (.int .u8 127) = some (.int .u8 ((c.toNat % 128 : Nat) : Int)) := by
  unfold byteV
  rw [bin_and]
  have := and127 ⟨c.toNat, UInt8.toNat_lt c⟩
  simp only at this
  show some (Value.int .u8 (IntKind.wrap .u8 ((BitVec.ofInt 8 (c.toNat : Int) &&& BitVec.ofInt 8 127).toNat))) = _
  rw [this]
theorem conv_5_22 (n : Nat) (hn : n < 256) (h : Heap) : convV Try.prog 5 35 (.int .u8 n) h = some (.int .u64 n, h) := by
  rw [conv_int (ks := .u8) (kd := .u64) (by kernel_rfl) (by kernel_rfl), wrap64, Nat.mod_eq_of_lt (by omega)]
theorem wrapi (n : Nat) (hn : n < 2 ^ 63) : IntKind.wrap .i64 (n : Int) = n := by rw [wrap_i64] <;> omega
theorem shl64 (a i : Nat) (hi : i ≤ 9) : IntKind.wrap .u64 ((a : Int) * 2 ^ min ((7 * i : Nat) : Int).toNat IntKind.u64.bits) = ((a * 2 ^ (7 * i) % 2 ^ 64 : Nat) : Int) := by
  have e : min ((7 * i : Nat) : Int).toNat IntKind.u64.bits = 7 * i := by
    show min ((7 * i : Nat) : Int).toNat 64 = 7 * i
    omega
  have e2 : (a : Int) * 2 ^ (7 * i) = ((a * 2 ^ (7 * i) : Nat) : Int) := by push_cast; rfl
  rw [e, e2, wrap64]
theorem get_loop (h0 h : Heap) (v : Value) (bs : List UInt8) (hr : Row h 1 v bs.length (bs.map byteV)) (hk : Keeps h0.blks.length (nm h0) h) (hb : bs.length < 2 ^ 40) : ∀ (m i n : Nat), bs.length - i = m → i ≤ bs.length → n < 2 ^ 64 → i ≤ 10 →
    ∀ (Aa Ab Ad Ae Af Aj Ak Al An Ao Ap Aq Ar As Au Av Aw Ax Ay Az Ba Bb Bc Bd Be Bf Bg Bh Bi Bj Bk Bl Bm Bn Bo Bp Bq Br : Value),
    loopK Try.prog (evC Try.prog) c77_1 ⟨#[Aa,Ab, .int .u64 n,Ad,Ae,Af, v, .int .i64 bs.length, .int .i64 i,Aj,Ak,Al,An,Ao,Ap,Aq,Ar,As,Au,Av,Aw,Ax,Ay,Az,Ba,Bb,Bc,Bd,Be,Bf,Bg,Bh,Bi,Bj,Bk,Bl,Bm,Bn,Bo,Bp,Bq,Br], h⟩ (blockK 0 (seqK Try.prog (evC Try.prog) c77_2 (retK Try.f77 Try.prog h0))) =
      some (.tuple #[.int .u64 (getLoop n i (bs.drop i)).1, .int .i64 (getLoop n i (bs.drop i)).2], done h0 h) := by
  intro m
  induction m with
  | zero =>
    intro i n hm hi hn hi10 Aa Ab Ad Ae Af Aj Ak Al An Ao Ap Aq Ar As Au Av Aw Ax Ay Az Ba Bb Bc Bd Be Bf Bg Bh Bi Bj Bk Bl Bm Bn Bo Bp Bq Br
    rw [loopK_eq evC_m, c77_1_eq]
    simp only [bin_lss, Option.bind_some, cnd_dec]
    rw [if_neg (by omega)]
    simp only [againK_exit, blockK_same, seqK_normal]
    rw [c77_2_eq, ret77, fin_done, List.drop_of_length_le (by omega)]
    rfl
  | succ m ih =>
    intro i n hm hi hn hi10 Aa Ab Ad Ae Af Aj Ak Al An Ao Ap Aq Ar As Au Av Aw Ax Ay Az Ba Bb Bc Bd Be Bf Bg Bh Bi Bj Bk Bl Bm Bn Bo Bp Bq Br
    have hlt : i < bs.length := by omega
    rw [loopK_eq evC_m, c77_1_eq]
    simp only [bin_lss, Option.bind_some, cnd_dec]
    rw [if_pos (by omega)]
    obtain ⟨a, e1, e2, _⟩ := hr.at1 etB.under etB.size (by kernel_rfl) hlt .i64
    have e3 : (bs.map byteV)[i]? = some (byteV bs[i]) := by simp [hlt]
    rw [e3] at e2
    have ed : bs.drop i = bs[i] :: bs.drop (i + 1) := List.drop_eq_getElem_cons hlt
    rw [e1]
    simp only [Option.bind_some, e2, bin_eql, cnd_dec]
    generalize bs[i] = c at *
    by_cases h10 : i = 10
    · rw [if_pos (by omega)]
      simp only [againK_exit, blockK_same, seqK_normal]
      rw [c77_2_eq, ret77, fin_done, ed, getLoop, if_pos h10]
      rfl
    · rw [if_neg (by omega)]
      have hc := UInt8.toNat_lt c
      have hm7 : IntKind.wrap .i64 (7 * (i : Int)) = ((7 * i : Nat) : Int) := by rw [wrap_i64] <;> omega
      have hsh := shl64 (c.toNat % 128) i (by omega)
      have hn' : n ||| (c.toNat % 128 * 2 ^ (7 * i)) % 2 ^ 64 < 2 ^ 64 := Nat.or_lt_two_pow hn (Nat.mod_lt _ (by omega))
      have hl1 : IntKind.wrap .i64 ((i : Int) + 1) = ((i + 1 : Nat) : Int) := by rw [wrap_i64] <;> omega
      simp only [and_byte, Option.bind_some, conv_5_22 _ (show c.toNat % 128 < 256 by omega), obH_some', bin_mul, hm7, bin_shl _ _ _ _ _ _ _ (show (0 : Int) ≤ ((7 * i : Nat) : Int) by omega), hsh,
        or64 _ _ _ _ _ _ hn (Nat.mod_lt (c.toNat % 128 * 2 ^ (7 * i)) (show 0 < 2 ^ 64 by omega))]
      simp only [byteV, bin_lss, Option.bind_some, cnd_dec]
      rw [ed, getLoop, if_neg h10]
      simp only []
      generalize n ||| (c.toNat % 128 * 2 ^ (7 * i)) % 2 ^ 64 = n' at *
      by_cases h128 : c.toNat < 128
      · rw [if_pos (by omega), if_pos h128]
        rw [spec_Size n' hn' h]
        simp only [obH_some', bin_add, Option.bind_some, hl1, bin_neq]
        by_cases hs : sizeN n' = i + 1
        · have hd : decide (((sizeN n' : Nat) : Int) ≠ ((i + 1 : Nat) : Int)) = false := decide_eq_false (by omega)
          rw [hd]
          simp only [wt_ff]
          simp only [gd_true, gdV_true]
          rw [bin_eql, Option.bind_some]
          by_cases h9 : i = 9
          · have hd9 : decide ((i : Int) = 9) = true := decide_eq_true (by omega)
            rw [hd9]
            simp only [wt_tt]
            simp only [gd_true, gdV_true]
            rw [bin_gtr, Option.bind_some]
            by_cases hc1 : c.toNat > 1
            · have hdc : decide ((c.toNat : Int) > 1) = true := decide_eq_true (by omega)
              simp only [hdc, pickV_true, pickV_false, cnd_true, Option.bind_some, againK_exit, blockK_same, seqK_normal]
              rw [c77_2_eq, ret77, fin_done, if_pos (.inr ⟨h9, hc1⟩)]
              rfl
            · have hdc : decide ((c.toNat : Int) > 1) = false := decide_eq_false (by omega)
              simp only [hdc, pickV_true, pickV_false, cnd_false, Option.bind_some, againK_ret, blockK_ret, seqK_ret, bin_add, hl1]
              rw [ret77, fin_done, if_neg (by omega)]
          · have hd9 : decide ((i : Int) = 9) = false := decide_eq_false (by omega)
            simp only [hd9, wt_ft, gd_false, gdV_false, pickV_true, pickV_false, cnd_false, Option.bind_some, againK_ret, blockK_ret, seqK_ret, bin_add, hl1]
            rw [ret77, fin_done, if_neg (by omega)]
        · have hd : decide (((sizeN n' : Nat) : Int) ≠ ((i + 1 : Nat) : Int)) = true := decide_eq_true (by omega)
          simp only [hd, wt_tf, wt_undef, gd_false, gdV_false, pickV_true, cnd_true, Option.bind_some, againK_exit, blockK_same, seqK_normal]
          rw [c77_2_eq, ret77, fin_done, if_pos (.inl hs)]
          rfl
      · rw [if_neg (by omega), if_neg h128]
        simp only [bin_add, Option.bind_some, hl1, againK_normal]
        exact ih (i + 1) n' (by omega) (by omega) hn' (by omega) _ _ _ _ _ _ _ _ _ _ _ _ _ _ _ _ _ _ _ _ _ _ _ _ _ _ _ _ _ _ _ _ _ _ _ _ _ _
theorem spec_Get (h : Heap) (v : Value) (bs : List UInt8) (hr : Row h 1 v bs.length (bs.map byteV)) (hb : bs.length < 2 ^ 40) :
    evC Try.prog 77 #[v] h = some (.tuple #[.int .u64 (getL bs).1, .int .i64 (getL bs).2], h) := by
  rw [call77, c77_0_eq, (show Row (nm h) 1 v bs.length (bs.map byteV) from hr.keep fun _ _ _ => rfl).len_eq etB.under]
  simp only [Option.bind_some]
  have := get_loop h (nm h) v bs (hr.keep fun _ _ _ => rfl) (Keeps.refl (Nat.le_refl _)) hb bs.length 0 0 (by omega) (by omega) (by omega) (by omega) v undef (Go.Value.int Go.IntKind.i64 0) undef undef undef undef undef undef undef undef undef undef undef undef undef undef undef undef undef undef undef undef undef undef undef undef undef undef undef undef undef undef undef undef undef undef undef
  exact this
end Go.Am
namespace Go.Am
open Go.Proofs
theorem ldB (p o : Nat) (h : Heap) : loadV Try.prog 33 (.pointer (some ⟨p, o, none⟩)) h = h.load1 p o := by kernel_rfl
theorem ld64 (p o : Nat) (h : Heap) : loadV Try.prog 35 (.pointer (some ⟨p, o, none⟩)) h = h.load1 p o := by kernel_rfl
theorem ldBool (p o : Nat) (h : Heap) : loadV Try.prog 4 (.pointer (some ⟨p, o, none⟩)) h = h.load1 p o := by kernel_rfl
theorem ldInt (p o : Nat) (h : Heap) : loadV Try.prog 3 (.pointer (some ⟨p, o, none⟩)) h = h.load1 p o := by kernel_rfl
theorem stB (p o : Nat) (a : Option Addr) (n c : Nat) (h : Heap) : storeV Try.prog 33 (.pointer (some ⟨p, o, none⟩)) (.slice a n c) h = h.storeN p o [.slice a n c] := by kernel_rfl
theorem st64 (p o : Nat) (k : IntKind) (n : Int) (h : Heap) : storeV Try.prog 35 (.pointer (some ⟨p, o, none⟩)) (.int k n) h = h.storeN p o [.int k n] := by kernel_rfl
theorem stInt (p o : Nat) (k : IntKind) (n : Int) (h : Heap) : storeV Try.prog 3 (.pointer (some ⟨p, o, none⟩)) (.int k n) h = h.storeN p o [.int k n] := by kernel_rfl
theorem stBool (p o : Nat) (b : Bool) (h : Heap) : storeV Try.prog 4 (.pointer (some ⟨p, o, none⟩)) (.bool b) h = h.storeN p o [.bool b] := by kernel_rfl
theorem maxI (a b : Int) (h : Heap) : builtinV Try.prog .max #[3, 3] #[.int .i64 a, .int .i64 b] h = some (.int .i64 (max a b), h) := by
  have e : builtinV Try.prog .max #[3, 3] #[.int .i64 a, .int .i64 b] h = some (.int .i64 (if b > a then b else a), h) := by kernel_rfl
  rw [e]
  have : (if b > a then b else a) = max a b := by split <;> omega
  rw [this]
theorem nilB (xo yo : Operand) : binV Try.prog .eql 33 xo yo (.slice none 0 0) (.slice none 0 0) = some (.bool true) := by kernel_rfl
theorem mkB0 (h : Heap) : buildSliceV Try.prog 33 0 #[] h = some (.slice (some ⟨h.blks.length, 0, none⟩) 0 0, h.new (.cells []) 5) := by kernel_rfl
theorem mkB1 (k : IntKind) (n : Int) (h : Heap) : buildSliceV Try.prog 33 1 #[(0, .int k n)] h = some (.slice (some ⟨h.blks.length, 0, none⟩) 1 1, h.new (.cells [.int k n]) 5) := by kernel_rfl
theorem cvB8 (k : IntKind) (n : Nat) (h : Heap) : convV Try.prog 35 5 (.int k n) h = some (byteV (UInt8.ofNat n), h) := by
  rw [conv_int (ks := .u64) (kd := .u8) (by kernel_rfl) (by kernel_rfl), small_byte]
theorem cvI64 (n : Int) (h : Heap) (h0 : 0 ≤ n) (h1 : n < 2 ^ 63) : convV Try.prog 3 35 (.int .i64 n) h = some (.int .u64 n, h) := conv_u64 (ks := .i64) (by kernel_rfl) (by kernel_rfl) _ _ _ h0 (by omega)
theorem cvU64 (n : Int) (h : Heap) (h0 : 0 ≤ n) (h1 : n < 2 ^ 63) : convV Try.prog 35 3 (.int .u64 n) h = some (.int .i64 n, h) := conv_i64 (ks := .u64) (by kernel_rfl) (by kernel_rfl) _ _ _ (by omega) h1
theorem beql (xo yo : Operand) (a b : Bool) : binV Try.prog .eql 4 xo yo (.bool a) (.bool b) = some (.bool (a == b)) := bin_beql _ _ _ _ (by cases a <;> cases b <;> kernel_rfl)
theorem bneq (xo yo : Operand) (a b : Bool) : binV Try.prog .neq 4 xo yo (.bool a) (.bool b) = some (.bool (!(a == b))) := bin_bneq _ _ _ _ (by cases a <;> cases b <;> kernel_rfl)
abbrev SB (h : Heap) (v : Value) (bs : List UInt8) : Prop := Sl Try.prog h 1 v bs.length (bs.map byteV)
abbrev AB (n0 : Nat) (h : Heap) (v : Value) (bs : List UInt8) : Prop := Acc n0 h 5 1 v bs.length (bs.map byteV)
theorem AB.sb {n0 : Nat} {h : Heap} {v : Value} {bs : List UInt8} (a : AB n0 h v bs) : SB h v bs := a.sl etB.size
theorem bytes_one (bs : List UInt8) : (bs.map byteV).all Value.oneCell' = true := by
  rw [List.all_map, List.all_eq_true]; intro x _; rfl
theorem AB.empty (n0 : Nat) (h : Heap) (hn : n0 ≤ h.blks.length) : AB n0 (h.new (.cells []) 5) (.slice (some ⟨h.blks.length, 0, none⟩) 0 0) [] := .full (all := []) hn (by omega) (blk_new_self _ _ _) (by simp) rfl
theorem app_bytes {n0 : Nat} {h : Heap} (hn0 : n0 ≤ h.blks.length) {v x : Value} {bs cs : List UInt8} (ha : AB n0 h v bs) (hx : SB h x cs) (hl : bs.length + cs.length < 2 ^ 44) :
    ∃ a c h', appendV Try.prog 33 (some 33) v x h = some (.slice a (bs ++ cs).length c, h') ∧ AB n0 h' (.slice a (bs ++ cs).length c) (bs ++ cs) ∧ Keeps n0 h h' ∧ (∀ b, b < h.blks.length → blockOf v ≠ some b → h'.blks[b]? = h.blks[b]?) ∧
      (.slice a (bs ++ cs).length c = v ∧ h' = h ∨ blockOf (.slice a (bs ++ cs).length c) = some h.blks.length ∧ h.blks.length < h'.blks.length) := by
  obtain ⟨v', h', e1, e2, e3, e4, e5⟩ := append_acc etB (t1 := some 33) hn0 ha (newsV_row etB.under hx.row) (by simpa using hx.len) (by omega) (by omega) (bytes_one cs)
  obtain ⟨a, c, rfl⟩ := e2.shape
  rw [← List.length_append] at e1 e2 e5
  rw [← List.map_append] at e2
  exact ⟨a, c, h', e1, e2, e3, e4, e5⟩
theorem strB {h : Heap} {v : Value} {bs : List UInt8} (s : SB h v bs) : convV Try.prog 33 9 v h = some (strV bs, h) := by
  have hs : Try.prog.underlying 33 = some (.slice 5) := by kernel_rfl
  have hd : Try.prog.underlying 9 = some .string := by kernel_rfl
  have hb : isByteT Try.prog 5 = true := by kernel_rfl
  have hbo : ∀ l : List UInt8, bytesOf? (l.map byteV) = some l := by
    intro l
    induction l with
    | nil => rfl
    | cons x l ih =>
      rw [List.map_cons]
      unfold byteV bytesOf?
      rw [show (l.map byteV) = l.map byteV from rfl] at ih
      have : bytesOf? (l.map fun b => Value.int .u8 (b.toNat : Int)) = some l := ih
      change (bytesOf? (l.map byteV)).map _ = _
      rw [ih]
      simp
  unfold convV
  rw [hs, hd]
  rcases s.inv with ⟨rfl, _, h3⟩ | ⟨b, o, c, rfl, hl, _⟩
  · have : bs = [] := by simpa using h3
    subst this
    simp [hb]
    rfl
  · simp only [hb, if_true]
    rw [Nat.mul_one] at hl
    rw [hl, Option.bind_some, hbo]
    rfl
theorem sl_mid {h : Heap} {v : Value} {bs : List UInt8} (s : SB h v bs) {i j : Nat} (hij : i ≤ j) (hj : j ≤ bs.length) {lo hi : Option Value} (hlo : lo.elim (some 0) natOf? = some i) (hhi : hi.elim (some bs.length) natOf? = some j) :
    ∃ a c, sliceV Try.prog 33 v lo hi none h = some (.slice a ((bs.drop i).take (j - i)).length c) ∧ SB h (.slice a ((bs.drop i).take (j - i)).length c) ((bs.drop i).take (j - i)) ∧ blockOf (.slice a ((bs.drop i).take (j - i)).length c) = blockOf v := by
  obtain ⟨v3, e3, s3, b3⟩ := s.sub etB.under etB.size hij hj hlo hhi
  obtain ⟨a4, c4, rfl⟩ := s3.shape
  have el : ((bs.drop i).take (j - i)).length = j - i := by simp; omega
  rw [Nat.mul_one, Nat.mul_one, ← List.map_drop, ← List.map_take] at s3
  refine ⟨a4, c4, ?_⟩
  unfold SB
  rw [el]
  exact ⟨e3, s3, b3⟩
theorem sl_drop {h : Heap} {v : Value} {bs : List UInt8} (s : SB h v bs) {i : Nat} (hi : i ≤ bs.length) (k : IntKind) :
    ∃ a c, sliceV Try.prog 33 v (some (.int k i)) none none h = some (.slice a (bs.drop i).length c) ∧ SB h (.slice a (bs.drop i).length c) (bs.drop i) ∧ blockOf (.slice a (bs.drop i).length c) = blockOf v := by
  have := sl_mid s (i := i) (j := bs.length) hi (Nat.le_refl _) (lo := some (.int k i)) (hi := none) (natOf_int k _) rfl
  rwa [List.take_of_length_le (by simp)] at this
theorem sl_take {h : Heap} {v : Value} {bs : List UInt8} (s : SB h v bs) {i : Nat} (hi : i ≤ bs.length) (k : IntKind) :
    ∃ a c, sliceV Try.prog 33 v none (some (.int k i)) none h = some (.slice a (bs.take i).length c) ∧ SB h (.slice a (bs.take i).length c) (bs.take i) ∧ blockOf (.slice a (bs.take i).length c) = blockOf v := by
  have := sl_mid s (i := 0) (j := i) (Nat.zero_le _) hi (lo := none) (hi := some (.int k i)) rfl (natOf_int k _)
  rwa [List.drop_zero, Nat.sub_zero] at this
theorem mkBb (b : UInt8) (h : Heap) : buildSliceV Try.prog 33 1 #[(0, byteV b)] h = some (.slice (some ⟨h.blks.length, 0, none⟩) 1 1, h.new (.cells [byteV b]) 5) := mkB1 _ _ _
theorem lit1 (b : UInt8) (h : Heap) : SB (h.new (.cells [byteV b]) 5) (.slice (some ⟨h.blks.length, 0, none⟩) 1 1) [b] :=
  .mk (by simp [Heap.loadN, Heap.cells?, blk_new_self]) (.inr ⟨Nat.le_refl _, by unfold UNK; omega⟩)
theorem app_b {n0 : Nat} {h : Heap} (hn0 : n0 ≤ h.blks.length) {v : Value} {bs : List UInt8} (ha : AB n0 h v bs) (b : UInt8) (hl : bs.length < 2 ^ 43) :
    ∃ a c h', appendV Try.prog 33 (some 33) v (.slice (some ⟨h.blks.length, 0, none⟩) 1 1) (h.new (.cells [byteV b]) 5) = some (.slice a (bs ++ [b]).length c, h') ∧ AB n0 h' (.slice a (bs ++ [b]).length c) (bs ++ [b]) ∧ Keeps n0 h h' ∧
      (∀ q, q < h.blks.length → blockOf v ≠ some q → h'.blks[q]? = h.blks[q]?) := by
  have ha' : AB n0 (h.new (.cells [byteV b]) 5) v bs := ha.keep fun _ hb _ => Heap.new_old hb
  obtain ⟨a, c, h', e1, e2, e3, e4, _⟩ := app_bytes (n0 := n0) (by simp [Heap.new]; omega) ha' (lit1 b h) (by simp; omega)
  exact ⟨a, c, h', e1, e2, (Keeps.new hn0 _ _).trans e3, fun q hq hne => (e4 q (by simp [Heap.new]; omega) hne).trans (Heap.new_old hq)⟩
theorem spec_Clone (h : Heap) (x : Value) (bs : List UInt8) (hx : SB h x bs) (hl : bs.length < 2 ^ 43) :
    ∃ a c h', evC Try.prog 69 #[x] h = some (.slice a bs.length c, h') ∧ HExt h h' ∧ AB h.blks.length h' (.slice a bs.length c) bs := by
  rw [call69, c69_0_eq]
  rcases hx.inv with ⟨rfl, _, h3⟩ | ⟨b, o, c, rfl, _, _⟩
  · have : bs = [] := by simpa using h3
    subst this
    simp -implicitDefEqProofs only [nilB, ↓cnd_true, ↓cnd_false, ↓Option.bind_some, ↓obH_some', bin_add, bin_sub, bin_mul, bin_lss, bin_leq, bin_gtr, bin_geq, bin_eql, bin_neq, un_not, un_neg, Option.bind_some, Option.bind_none, Option.map_some, cnd_true, cnd_false, pickV_true, pickV_false, gd_true, gd_false, gdV_true, gdV_false, gdH_true, gdH_false, gdS_true, gdS_false, wt_ff, wt_tt, wt_ft, wt_tf, wt_undef, obH_some', extractV_tuple, nilCheckV_ptr, againK_normal, againK_exit, againK_ret, blockK_normal, blockK_same, blockK_ret, seqK_normal, seqK_exit, seqK_ret, fin_done, if_true', if_false', Bool.not_true, Bool.not_false, idx0, idx1, idx2, idx3, idx4, chk_nil_l, chk_nil_r, done_nm]
    rw [ret69, fin_done]
    exact ⟨none, 0, h, by simp, HExt.refl h, .nil⟩
  · simp -implicitDefEqProofs only [bin_nil_some (P := Try.prog) (t := 33) etB.under, mkB0, ↓cnd_true, ↓cnd_false, ↓Option.bind_some, ↓obH_some', bin_add, bin_sub, bin_mul, bin_lss, bin_leq, bin_gtr, bin_geq, bin_eql, bin_neq, un_not, un_neg, Option.bind_some, Option.bind_none, Option.map_some, cnd_true, cnd_false, pickV_true, pickV_false, gd_true, gd_false, gdV_true, gdV_false, gdH_true, gdH_false, gdS_true, gdS_false, wt_ff, wt_tt, wt_ft, wt_tf, wt_undef, obH_some', extractV_tuple, nilCheckV_ptr, againK_normal, againK_exit, againK_ret, blockK_normal, blockK_same, blockK_ret, seqK_normal, seqK_exit, seqK_ret, fin_done, if_true', if_false', Bool.not_true, Bool.not_false, idx0, idx1, idx2, idx3, idx4, chk_nil_l, chk_nil_r, done_nm]
    obtain ⟨a, c', h', e1, e2, e3, e4, e5⟩ := app_bytes (n0 := h.blks.length) (by simp [Heap.new]) (AB.empty h.blks.length (nm h) (by simp)) (hx.nm.keepNew _ _) (by simp; omega)
    rw [e1]
    simp only [obH_some']
    rw [ret69, fin_done]
    exact ⟨a, c', _, rfl, done_ext' ((In.new (S := No) (by simp) _ _).trans e3.inn), e2.done⟩
theorem spec_PutB (n : Nat) (hn : n < 2 ^ 64) (h : Heap) (b : Value) (bs : List UInt8) (hb : SB h b bs) (hk : bs.length < 2 ^ 39) :
    ∃ a c h', evC Try.prog 68 #[b, .int .u64 n] h = some (.slice a (bs ++ putL n).length c, h') ∧ HExt h h' ∧ AB h.blks.length h' (.slice a (bs ++ putL n).length c) (bs ++ putL n) := by
  obtain ⟨v, h', e1, e2, e3⟩ := spec_Put n hn h b _ _ hb.row hk (bytes_one bs)
  obtain ⟨a, c, rfl⟩ := e3.shape
  rw [← putL_len, ← List.length_append] at e1 e3
  rw [← List.map_append] at e3
  exact ⟨a, c, h', e1, e2, e3⟩
end Go.Am
namespace Go.Am
open Go.Proofs
set_option maxRecDepth 100000
set_option linter.all false
attribute [local congr] obind_congr obH_congr cnd_congr chk_congr retK_congr codeK_congr
theorem All2.lenH {α β : Type} {R : α → β → Prop} {l : List α} {m : List β} (h : All2 R l m) : l.length = m.length := by
  induction h with
  | nil => rfl
  | cons _ _ ih => simp [ih]
structure HT where
  is_ : Bool
  frm : Int
  num : Nat
  b : List UInt8
def headC (p : HT) (bv : Value) : List Value := [.bool p.is_, .int .i64 p.frm, .int .u64 p.num, bv]
def SHd (h : Heap) (v : Value) (l : List HT) : Prop := ∃ bvs, Row h 4 v l.length (List.zipWith headC l bvs).flatten ∧ All2 (fun bv p => SB h bv p.b) bvs l
theorem SHd.same {h h' : Heap} {v : Value} {l : List HT} (s : SHd h v l) (e : Same h h') : SHd h' v l := let ⟨bvs, r, b⟩ := s; ⟨bvs, r.keep fun b hb _ => e.2 b hb, b.mono fun _ _ x => x.same e⟩
theorem SHd.len {h : Heap} {v : Value} {l : List HT} (s : SHd h v l) : lenV Try.prog 38 v h = some (.int .i64 l.length) := by
  obtain ⟨bvs, r, b⟩ := s
  have hu : Try.prog.underlying 38 = some (.slice 37) := by kernel_rfl
  exact r.len_eq hu
theorem flat4 : ∀ (l : List HT) (bvs : List Value) (i k : Nat), k < 4 → l.length = bvs.length → (hi : i < l.length) → (hb : i < bvs.length) → (List.zipWith headC l bvs).flatten[i * 4 + k]? = (headC l[i] bvs[i])[k]?
  | [], _, i, k, _, _, hi, _ => by simp at hi
  | _ :: _, [], i, k, _, hl, _, _ => by simp at hl
  | p :: l, v :: bvs, 0, k, hk, hl, hi, hb => by
    simp only [List.zipWith_cons_cons, List.flatten_cons, Nat.zero_mul, Nat.zero_add, List.getElem_cons_zero]
    rw [List.getElem?_append_left (by simpa [headC] using hk)]
  | p :: l, v :: bvs, i + 1, k, hk, hl, hi, hb => by
    simp only [List.zipWith_cons_cons, List.flatten_cons, List.getElem_cons_succ]
    rw [List.getElem?_append_right (by simp [headC]; omega)]
    have : (i + 1) * 4 + k - (headC p v).length = i * 4 + k := by simp [headC]; omega
    rw [this]
    exact flat4 l bvs i k hk (by simpa using hl) (by simpa using hi) (by simpa using hb)
theorem drop4 : ∀ (l : List HT) (bvs : List Value) (i : Nat), l.length = bvs.length → (hi : i < l.length) → (hb : i < bvs.length) → ((List.zipWith headC l bvs).flatten.drop (i * 4)).take 4 = headC l[i] bvs[i]
  | [], _, i, _, hi, _ => by simp at hi
  | _ :: _, [], i, hl, _, _ => by simp at hl
  | p :: l, v :: bvs, 0, hl, hi, hb => by simp [headC]
  | p :: l, v :: bvs, i + 1, hl, hi, hb => by
    have := drop4 l bvs i (by simpa using hl) (by simpa using hi) (by simpa using hb)
    rw [show (i + 1) * 4 = i * 4 + 4 by omega]
    simpa [headC] using this
theorem faHd0 (b o : Nat) : fieldAddrV Try.prog 37 (.pointer (some ⟨b, o, none⟩)) 0 = some (.pointer (some ⟨b, o, none⟩)) := by kernel_rfl
theorem faHd1 (b o : Nat) : fieldAddrV Try.prog 37 (.pointer (some ⟨b, o, none⟩)) 1 = some (.pointer (some ⟨b, o + 1, none⟩)) := by kernel_rfl
theorem faHd2 (b o : Nat) : fieldAddrV Try.prog 37 (.pointer (some ⟨b, o, none⟩)) 2 = some (.pointer (some ⟨b, o + 2, none⟩)) := by kernel_rfl
theorem faHd3 (b o : Nat) : fieldAddrV Try.prog 37 (.pointer (some ⟨b, o, none⟩)) 3 = some (.pointer (some ⟨b, o + 3, none⟩)) := by kernel_rfl
structure HdAt (h : Heap) (v : Value) (i : Nat) (p : HT) (b o : Nat) (bv : Value) : Prop where
  at_ : indexAddrV Try.prog 38 v (.int .i64 i) = some (.pointer (some ⟨b, o, none⟩))
  l1 : h.load1 b (o + 1) = some (.int .i64 p.frm)
  lN : h.loadN b o 4 = some [.bool p.is_, .int .i64 p.frm, .int .u64 p.num, bv]
  sb : SB h bv p.b
theorem SHd.at {v : Value} {h : Heap} {l : List HT} (s : SHd h v l) {i : Nat} (hi : i < l.length) : ∃ b o bv, ∀ h', Same h h' → HdAt h' v i l[i] b o bv := by
  obtain ⟨bvs, r, hb⟩ := s
  have hl : bvs.length = l.length := hb.lenH
  have hu : Try.prog.underlying 38 = some (.slice 37) := by kernel_rfl
  have hs : sizeT Try.prog 37 = some 4 := by kernel_rfl
  cases r0 : v with
  | slice ad n c =>
    subst r0
    have r' := r
    generalize hn : l.length = n at r'
    generalize hcs : (List.zipWith headC l bvs).flatten = cs at r'
    cases r' with
    | nil => omega
    | mk hld =>
      rename_i b o
      rw [← hn, ← hcs] at hld
      refine ⟨b, o + i * 4, bvs[i], fun h' e => ?_⟩
      have hld' : h'.loadN b o (l.length * 4) = some (List.zipWith headC l bvs).flatten := by rw [loadN_of (e.2 b (loadN_lt hld))]; exact hld
      have get : ∀ k, k < 4 → h'.load1 b (o + i * 4 + k) = (headC l[i] bvs[i])[k]? := fun k hk => by
        rw [Nat.add_assoc, loadN_get hld' (by omega), flat4 l bvs i k hk hl.symm hi (by omega)]
      obtain ⟨p, hp, hsb⟩ := hb.get (i := i) (a := bvs[i]) (List.getElem?_eq_getElem (by omega))
      obtain rfl : l[i] = p := by rw [List.getElem?_eq_getElem hi] at hp; exact Option.some.inj hp
      refine ⟨?_, get 1 (by omega), ?_, hsb.same e⟩
      · unfold indexAddrV
        simp only [hu, natOf_int, hs]
        rw [if_pos (by omega)]
      · rw [loadN_sub hld' (i := i * 4) (m := 4) (by omega), drop4 l bvs i hl.symm hi (by omega)]; rfl
  | _ => subst r0; cases r
theorem reads_act {h : Heap} {f : Nat} {cs : List Value} {d : DT} (x : Reads Try.prog h f 37 cs d) : ∃ p bv, cs = headC p bv ∧ SB h bv p.b ∧ p.num < 2 ^ 64 := by
  obtain ⟨g, l, rfl, hlen, ha⟩ := reads_struct Try.underlying37 x
  rw [show Try.prog.cellsOf 37 = 4 by kernel_rfl] at hlen
  obtain ⟨c0, c1, c2, c3, rfl⟩ : ∃ c0 c1 c2 c3, cs = [c0, c1, c2, c3] := by
    match cs, hlen with
    | [a, b, c, d], _ => exact ⟨a, b, c, d, rfl⟩
  have hb : Try.prog.cellsOf 4 = 1 := by kernel_rfl
  have h0 : Try.prog.cellsOf 3 = 1 := by kernel_rfl
  have h1 : Try.prog.cellsOf 35 = 1 := by kernel_rfl
  have h3 : Try.prog.cellsOf 33 = 1 := by kernel_rfl
  cases ha with
  | cons a0 ha => cases ha with
    | cons a1 ha => cases ha with
      | cons a2 ha => cases ha with
        | cons a3 ha =>
          cases ha
          simp only [hb, h0, h1, h3] at a0 a1 a2 a3
          obtain ⟨z, _, z2⟩ := reads_bool (by kernel_rfl) a0
          obtain ⟨u, _, u2, u3⟩ := reads_int (k := .i64) (by kernel_rfl) a1
          obtain ⟨y, _, y2, y3⟩ := reads_int (k := .u64) (by kernel_rfl) a2
          obtain ⟨q, l', v, css, _, e2, e3, e4, e5⟩ := reads_slice (e := 5) (by kernel_rfl) a3
          obtain ⟨zs, g1, g2, g3⟩ := reads_ints (k := .u8) (by kernel_rfl) e4
          obtain ⟨bs, b1, b2⟩ := ints_bytes zs g3
          rw [show Try.prog.cellsOf 5 = 1 by kernel_rfl, g2, b2, ← g1, ← b1] at e3
          simp only [List.drop_zero, List.drop_succ_cons, List.take_succ_cons, List.take_zero, List.cons.injEq, and_true] at z2 u2 y2 e2
          subst z2 u2 y2 e2
          have hy := wf_nat rfl y3
          simp only [IntKind.bits] at hy
          refine ⟨⟨z, u, y.toNat, bs⟩, c3, ?_, e3, by show y.toNat < 2 ^ 64; omega⟩
          unfold headC
          simp only
          rw [Int.toNat_of_nonneg hy.1]
theorem reads_acts {h : Heap} {f : Nat} : ∀ {css : List (List Value)} {l : List DT}, All2 (fun c d => c.length = Try.prog.cellsOf 37 ∧ Reads Try.prog h f 37 c d) css l → ∃ (ps : List HT) (bvs : List Value), css.flatten = (List.zipWith headC ps bvs).flatten ∧ ps.length = l.length ∧ All2 (fun bv p => SB h bv p.b) bvs ps ∧ ∀ p ∈ ps, p.num < 2 ^ 64
  | _, _, .nil => ⟨[], [], rfl, rfl, .nil, by simp⟩
  | _, _, .cons x q => by
    obtain ⟨ps, bvs, e, hl, a, b⟩ := reads_acts q
    obtain ⟨p, bv, rfl, s, h1⟩ := reads_act x.2
    refine ⟨p :: ps, bv :: bvs, by simp [e], by simp [hl], .cons s a, fun y hy => ?_⟩
    rcases List.mem_cons.1 hy with rfl | hy
    · exact h1
    · exact b y hy
theorem Rd.acts {h : Heap} {v : Value} {d : DT} (r : Rd Try.prog h 38 v d) : ∃ ps : List HT, SHd h v ps ∧ ∀ p ∈ ps, p.num < 2 ^ 64 := by
  obtain ⟨f, l, css, rfl, h1, h2, h3⟩ := r.slice (e := 37) (by kernel_rfl)
  obtain ⟨ps, bvs, e, hl, a, b⟩ := reads_acts h2
  rw [show Try.prog.cellsOf 37 = 4 by kernel_rfl, e, ← hl] at h1
  exact ⟨ps, ⟨bvs, h1.row, a⟩, b⟩
end Go.Am
namespace Go.Am
open Go.Proofs
set_option maxRecDepth 100000
theorem etU : ElemT Try.prog 88 35 1 8 (.int .u64 0) := ⟨by kernel_rfl, by kernel_rfl, by kernel_rfl, by kernel_rfl, by omega, rfl, rfl⟩
theorem vld64 (p o : Nat) (h : Heap) : loadV Try.prog 35 (.pointer (some ⟨p, o, none⟩)) h = h.load1 p o := by kernel_rfl
theorem vst64 (p o : Nat) (k : IntKind) (n : Int) (h : Heap) : storeV Try.prog 35 (.pointer (some ⟨p, o, none⟩)) (.int k n) h = h.storeN p o [.int k n] := by kernel_rfl
theorem mkU0 (h : Heap) : buildSliceV Try.prog 88 0 #[] h = some (.slice (some ⟨h.blks.length, 0, none⟩) 0 0, h.new (.cells []) 35) := by kernel_rfl
theorem mkU1 (k : IntKind) (n : Int) (h : Heap) : buildSliceV Try.prog 88 1 #[(0, .int k n)] h = some (.slice (some ⟨h.blks.length, 0, none⟩) 1 1, h.new (.cells [.int k n]) 35) := by kernel_rfl
theorem mkU2 (k : IntKind) (n m : Int) (h : Heap) : buildSliceV Try.prog 88 2 #[(0, .int k n), (1, .int k m)] h = some (.slice (some ⟨h.blks.length, 0, none⟩) 2 2, h.new (.cells [.int k n, .int k m]) 35) := by kernel_rfl
theorem vbeql (xo yo : Operand) (a b : Bool) : binV Try.prog .eql 4 xo yo (.bool a) (.bool b) = some (.bool (a == b)) := bin_beql _ _ _ _ (by cases a <;> cases b <;> kernel_rfl)
abbrev SU (h : Heap) (v : Value) (ns : List Nat) : Prop := Sl Try.prog h 1 v ns.length (ns.map u64V)
abbrev AU (n0 : Nat) (h : Heap) (v : Value) (ns : List Nat) : Prop := Acc n0 h 35 1 v ns.length (ns.map u64V)
theorem AU.su {n0 : Nat} {h : Heap} {v : Value} {ns : List Nat} (a : AU n0 h v ns) : SU h v ns := a.sl etU.size
theorem nums_one (ns : List Nat) : (ns.map u64V).all Value.oneCell' = true := by
  rw [List.all_map, List.all_eq_true]; intro x _; rfl
theorem AU.lit {n0 : Nat} {h : Heap} (hn : n0 ≤ h.blks.length) (ns : List Nat) (hl : ns.length < 2 ^ 62) : AU n0 (h.new (.cells (ns.map u64V)) 35) (.slice (some ⟨h.blks.length, 0, none⟩) ns.length ns.length) ns :=
  .full hn hl (blk_new_self _ _ _) (by simp) (by rw [List.drop_zero, List.take_of_length_le (by simp)])
theorem app_nums {t t1 : TypeId} (et : ElemT Try.prog t 35 1 8 (.int .u64 0)) (et1 : Try.prog.underlying t1 = some (.slice 35)) {n0 : Nat} {h : Heap} (hn0 : n0 ≤ h.blks.length) {v x : Value} {bs cs : List Nat} (ha : AU n0 h v bs) (hx : SU h x cs) (hl : bs.length + cs.length < 2 ^ 40) :
    ∃ a c h', appendV Try.prog t (some t1) v x h = some (.slice a (bs ++ cs).length c, h') ∧ AU n0 h' (.slice a (bs ++ cs).length c) (bs ++ cs) ∧ Keeps n0 h h' ∧ (∀ b, b < h.blks.length → blockOf v ≠ some b → h'.blks[b]? = h.blks[b]?) := by
  obtain ⟨v', h', e1, e2, e3, e4, e5⟩ := append_acc et (t1 := some t1) hn0 ha (newsV_row et1 hx.row) (by simp) (by omega) (by omega) (nums_one cs)
  obtain ⟨a, c, rfl⟩ := e2.shape
  rw [← List.length_append] at e1 e2
  rw [← List.map_append] at e2
  exact ⟨a, c, h', e1, e2, e3, e4⟩
theorem getD_lt (ns : List Nat) (h : ∀ n ∈ ns, n < 2 ^ 64) (i : Nat) : ns.getD i 0 < 2 ^ 64 := by
  rw [List.getD_eq_getElem?_getD]
  cases e : ns[i]? with
  | none => simp
  | some x => exact h x (List.mem_of_getElem? e)
theorem map_get (ns : List Nat) {i : Nat} (hi : i < ns.length) : (ns.map u64V)[i]? = some (.int .u64 (ns.getD i 0 : Nat)) := by
  rw [List.getElem?_map, List.getElem?_eq_getElem hi, List.getD_eq_getElem?_getD, List.getElem?_eq_getElem hi]; rfl
theorem su_at {h : Heap} {v : Value} {ns : List Nat} (s : SU h v ns) {t : TypeId} (ht : Try.prog.underlying t = some (.slice 35)) {i : Nat} (hi : i < ns.length) :
    ∃ a, indexAddrV Try.prog t v (.int .i64 i) = some (.pointer (some a)) ∧ loadV Try.prog 35 (.pointer (some a)) h = some (.int .u64 (ns.getD i 0 : Nat)) := by
  obtain ⟨a, e1, e2, _⟩ := s.row.at1 ht etU.size (by kernel_rfl) hi .i64
  rw [map_get ns hi] at e2
  exact ⟨a, e1, e2⟩
theorem app_num {n0 : Nat} {h : Heap} (hn0 : n0 ≤ h.blks.length) {v : Value} {bs : List Nat} (ha : AU n0 h v bs) (b : Nat) (hl : bs.length < 2 ^ 39) :
    ∃ a c h', appendV Try.prog 88 (some 88) v (.slice (some ⟨h.blks.length, 0, none⟩) 1 1) (h.new (.cells [.int .u64 b]) 35) = some (.slice a (bs ++ [b]).length c, h') ∧ AU n0 h' (.slice a (bs ++ [b]).length c) (bs ++ [b]) ∧ Keeps n0 h h' ∧
      (∀ q, q < h.blks.length → blockOf v ≠ some q → h'.blks[q]? = h.blks[q]?) := by
  have ha' : AU n0 (h.new (.cells [.int .u64 b]) 35) v bs := ha.keep fun _ hb _ => Heap.new_old hb
  have hlit : SU (h.new (.cells [.int .u64 b]) 35) (.slice (some ⟨h.blks.length, 0, none⟩) 1 1) [b] :=
    .mk (by simp [Heap.loadN, Heap.cells?, blk_new_self]; rfl) (.inr ⟨Nat.le_refl _, by unfold UNK; omega⟩)
  obtain ⟨a, c, h', e1, e2, e3, e4⟩ := app_nums etU etU.under (n0 := n0) (by simp [Heap.new]; omega) ha' hlit (by simp; omega)
  exact ⟨a, c, h', e1, e2, (Keeps.new hn0 _ _).trans e3, fun q hq hne => (e4 q (by simp [Heap.new]; omega) hne).trans (Heap.new_old hq)⟩
end Go.Am
namespace Go.Am
open Go.Proofs
set_option maxRecDepth 100000
set_option linter.all false
theorem etO : ElemT Try.prog 43 3 1 8 (.int .i64 0) := ⟨by kernel_rfl, by kernel_rfl, by kernel_rfl, by kernel_rfl, by omega, rfl, rfl⟩
abbrev oV (n : Nat) : Value := .int .i64 (n : Int)
abbrev SO (h : Heap) (v : Value) (ns : List Nat) : Prop := Row h 1 v ns.length (ns.map oV)
abbrev AO (n0 : Nat) (h : Heap) (v : Value) (ns : List Nat) : Prop := Acc n0 h 3 1 v ns.length (ns.map oV)
theorem mkO1 (n : Int) (h : Heap) : buildSliceV Try.prog 43 1 #[(0, .int .i64 n)] h = some (.slice (some ⟨h.blks.length, 0, none⟩) 1 1, h.new (.cells [.int .i64 n]) 3) := by kernel_rfl
theorem app_o {n0 : Nat} {h : Heap} (hn0 : n0 ≤ h.blks.length) {v : Value} {bs : List Nat} (ha : AO n0 h v bs) (b : Nat) (hl : bs.length < 2 ^ 39) :
    ∃ a c h', appendV Try.prog 43 (some 43) v (.slice (some ⟨h.blks.length, 0, none⟩) 1 1) (h.new (.cells [.int .i64 b]) 3) = some (.slice a (bs ++ [b]).length c, h') ∧ AO n0 h' (.slice a (bs ++ [b]).length c) (bs ++ [b]) ∧ Keeps n0 h h' ∧
      (∀ q, q < h.blks.length → blockOf v ≠ some q → h'.blks[q]? = h.blks[q]?) := by
  have ha' : AO n0 (h.new (.cells [.int .i64 b]) 3) v bs := ha.keep fun _ hb _ => Heap.new_old hb
  have hlit : SO (h.new (.cells [.int .i64 b]) 3) (.slice (some ⟨h.blks.length, 0, none⟩) 1 1) [b] :=
    .mk (by simp [Heap.loadN, Heap.cells?, blk_new_self])
  have one : ([b].map oV).all Value.oneCell' = true := rfl
  obtain ⟨v', h', e1, e2, e3, e4, e5⟩ := append_acc etO (t1 := some 43) (n0 := n0) (by simp [Heap.new]; omega) ha' (newsV_row etO.under hlit) (by simp) (by simp; omega) (by simp; omega) one
  obtain ⟨a, c, rfl⟩ := e2.shape
  have el : bs.length + [b].length = (bs ++ [b]).length := by simp
  rw [el] at e1 e2
  rw [← List.map_append] at e2
  exact ⟨a, c, h', e1, e2, (Keeps.new hn0 _ _).trans e3, fun q hq hne => (e4 q (by simp [Heap.new]; omega) hne).trans (Heap.new_old hq)⟩
theorem taF (v : Value) : typeAssertV Try.prog (.iface 82 v) 82 true = some (.tuple #[v, .bool true]) := by kernel_rfl
theorem taFL (v : Value) : typeAssertV Try.prog (.iface 85 v) 82 true = some (.tuple #[.pointer none, .bool false]) := by kernel_rfl
theorem taL (v : Value) : typeAssertV Try.prog (.iface 85 v) 85 true = some (.tuple #[v, .bool true]) := by kernel_rfl
theorem taN1 : typeAssertV Try.prog .nilIface 82 true = some (.tuple #[.pointer none, .bool false]) := by kernel_rfl
theorem taN2 : typeAssertV Try.prog .nilIface 85 true = some (.tuple #[.pointer none, .bool false]) := by kernel_rfl
theorem spec_KindF (v : Value) (h : Heap) : evC Try.prog 15 #[.iface 82 v] h = some (.int .i64 1, h) := by
  rw [call15]
  simp -implicitDefEqProofs (disch := omega) only [↓c15_0_eq, taF, ↓ret15, ↓cnd_true, ↓cnd_false, ↓Option.bind_some, ↓obH_some', bin_add, bin_sub, bin_mul, bin_lss, bin_leq, bin_gtr, bin_geq, bin_eql, bin_neq, un_not, un_neg, Option.bind_some, Option.bind_none, Option.map_some, cnd_true, cnd_false, pickV_true, pickV_false, gd_true, gd_false, gdV_true, gdV_false, gdH_true, gdH_false, gdS_true, gdS_false, wt_ff, wt_tt, wt_ft, wt_tf, wt_undef, obH_some', extractV_tuple, nilCheckV_ptr, againK_normal, againK_exit, againK_ret, blockK_normal, blockK_same, blockK_ret, seqK_normal, seqK_exit, seqK_ret, fin_done, if_true', if_false', Bool.not_true, Bool.not_false, idx0, idx1, idx2, idx3, idx4, chk_nil_l, chk_nil_r, done_nm, up_cons, up_nil, cond_true, cond_false, Nat.reduceBEq]
theorem spec_KindL (v : Value) (h : Heap) : evC Try.prog 15 #[.iface 85 v] h = some (.int .i64 2, h) := by
  rw [call15]
  simp -implicitDefEqProofs (disch := omega) only [↓c15_0_eq, taFL, taL, ↓ret15, ↓cnd_true, ↓cnd_false, ↓Option.bind_some, ↓obH_some', bin_add, bin_sub, bin_mul, bin_lss, bin_leq, bin_gtr, bin_geq, bin_eql, bin_neq, un_not, un_neg, Option.bind_some, Option.bind_none, Option.map_some, cnd_true, cnd_false, pickV_true, pickV_false, gd_true, gd_false, gdV_true, gdV_false, gdH_true, gdH_false, gdS_true, gdS_false, wt_ff, wt_tt, wt_ft, wt_tf, wt_undef, obH_some', extractV_tuple, nilCheckV_ptr, againK_normal, againK_exit, againK_ret, blockK_normal, blockK_same, blockK_ret, seqK_normal, seqK_exit, seqK_ret, fin_done, if_true', if_false', Bool.not_true, Bool.not_false, idx0, idx1, idx2, idx3, idx4, chk_nil_l, chk_nil_r, done_nm, up_cons, up_nil, cond_true, cond_false, Nat.reduceBEq]
theorem spec_KindN (h : Heap) : evC Try.prog 15 #[.nilIface] h = some (.int .i64 0, h) := by
  rw [call15]
  simp -implicitDefEqProofs (disch := omega) only [↓c15_0_eq, taN1, taN2, ↓ret15, ↓cnd_true, ↓cnd_false, ↓Option.bind_some, ↓obH_some', bin_add, bin_sub, bin_mul, bin_lss, bin_leq, bin_gtr, bin_geq, bin_eql, bin_neq, un_not, un_neg, Option.bind_some, Option.bind_none, Option.map_some, cnd_true, cnd_false, pickV_true, pickV_false, gd_true, gd_false, gdV_true, gdV_false, gdH_true, gdH_false, gdS_true, gdS_false, wt_ff, wt_tt, wt_ft, wt_tf, wt_undef, obH_some', extractV_tuple, nilCheckV_ptr, againK_normal, againK_exit, againK_ret, blockK_normal, blockK_same, blockK_ret, seqK_normal, seqK_exit, seqK_ret, fin_done, if_true', if_false', Bool.not_true, Bool.not_false, idx0, idx1, idx2, idx3, idx4, chk_nil_l, chk_nil_r, done_nm, up_cons, up_nil, cond_true, cond_false, Nat.reduceBEq]
theorem ld_o (b o : Nat) (h : Heap) : loadV Try.prog 3 (.pointer (some ⟨b, o, none⟩)) h = h.load1 b o := by kernel_rfl
theorem so_at {h : Heap} {v : Value} {ns : List Nat} (s : SO h v ns) {i : Nat} (hi : i < ns.length) :
    ∃ a, indexAddrV Try.prog 43 v (.int .i64 i) = some (.pointer (some a)) ∧ loadV Try.prog 3 (.pointer (some a)) h = some (.int .i64 (ns.getD i 0 : Nat)) := by
  obtain ⟨a, e1, e2, _⟩ := Row.at1 s etO.under etO.size (by kernel_rfl) hi .i64
  refine ⟨a, e1, e2.trans ?_⟩
  rw [List.getElem?_map, List.getElem?_eq_getElem hi, List.getD_eq_getElem?_getD, List.getElem?_eq_getElem hi]
  rfl
theorem ints_loop {h0 h : Heap} {v w : Value} {l m : List Nat} (sv : SO h v l) (sw : SO h w m) (hl : l.length = m.length) (hb : l.length < 2 ^ 40) : ∀ (k i : Nat), l.length = i + k → ∀ (x : Nat → Value), x 0 = v → x 1 = w → x 5 = .int .i64 i →
    lK c16_1 26 x h (blockK 0 (sK c16_2 (retK Try.f16 Try.prog h0))) = some (.bool (decide (l.drop i = m.drop i)), done h0 h) := by
  intro k
  induction k with
  | zero =>
    intro i hi x Aa Ab Af
    rw [lK_eq]
    have ln := sv.len_eq etO.under
    rw [List.drop_of_length_le (by omega), List.drop_of_length_le (by omega), decide_eq_true rfl]
    simp -implicitDefEqProofs (disch := omega) only [↓c16_1_eq, ↓c16_2_eq, dcT, dcF,Aa,Ab,Af, ln, ↓ret16, ↓cnd_true, ↓cnd_false, ↓Option.bind_some, ↓obH_some', bin_add, bin_sub, bin_mul, bin_lss, bin_leq, bin_gtr, bin_geq, bin_eql, bin_neq, un_not, un_neg, Option.bind_some, Option.bind_none, Option.map_some, cnd_true, cnd_false, pickV_true, pickV_false, gd_true, gd_false, gdV_true, gdV_false, gdH_true, gdH_false, gdS_true, gdS_false, wt_ff, wt_tt, wt_ft, wt_tf, wt_undef, obH_some', extractV_tuple, nilCheckV_ptr, againK_normal, againK_exit, againK_ret, blockK_normal, blockK_same, blockK_ret, seqK_normal, seqK_exit, seqK_ret, fin_done, if_true', if_false', Bool.not_true, Bool.not_false, idx0, idx1, idx2, idx3, idx4, chk_nil_l, chk_nil_r, done_nm, up_cons, up_nil, cond_true, cond_false, Nat.reduceBEq]
  | succ k ih =>
    intro i hi x Aa Ab Af
    rw [lK_eq]
    have ln := sv.len_eq etO.under
    obtain ⟨a, e1, e2⟩ := so_at sv (i := i) (by omega)
    obtain ⟨b, f1, f2⟩ := so_at sw (i := i) (by omega)
    have w1 : IntKind.i64.wrap ((i : Int) + 1) = ((i + 1 : Nat) : Int) := by rw [wrap_i64] <;> omega
    have dl : l.drop i = l.getD i 0 :: l.drop (i + 1) := by rw [List.drop_eq_getElem_cons (by omega), List.getD_eq_getElem?_getD, List.getElem?_eq_getElem (by omega)]; rfl
    have dm : m.drop i = m.getD i 0 :: m.drop (i + 1) := by rw [List.drop_eq_getElem_cons (by omega), List.getD_eq_getElem?_getD, List.getElem?_eq_getElem (by omega)]; rfl
    by_cases c : l.getD i 0 = m.getD i 0
    · have e : decide (l.drop i = m.drop i) = decide (l.drop (i + 1) = m.drop (i + 1)) := by rw [dl, dm, c]; simp
      rw [e]
      simp -implicitDefEqProofs (disch := omega) only [↓c16_1_eq, dcT, dcF,Aa,Ab,Af, ln, e1, e2, f1, f2, w1, ↓cnd_true, ↓cnd_false, ↓Option.bind_some, ↓obH_some', bin_add, bin_sub, bin_mul, bin_lss, bin_leq, bin_gtr, bin_geq, bin_eql, bin_neq, un_not, un_neg, Option.bind_some, Option.bind_none, Option.map_some, cnd_true, cnd_false, pickV_true, pickV_false, gd_true, gd_false, gdV_true, gdV_false, gdH_true, gdH_false, gdS_true, gdS_false, wt_ff, wt_tt, wt_ft, wt_tf, wt_undef, obH_some', extractV_tuple, nilCheckV_ptr, againK_normal, againK_exit, againK_ret, blockK_normal, blockK_same, blockK_ret, seqK_normal, seqK_exit, seqK_ret, fin_done, if_true', if_false', Bool.not_true, Bool.not_false, idx0, idx1, idx2, idx3, idx4, chk_nil_l, chk_nil_r, done_nm, up_cons, up_nil, cond_true, cond_false, Nat.reduceBEq]
      refine ih (i + 1) (by omega) _ ?_ ?_ ?_
      · exact Aa
      · exact Ab
      · rfl
    · have e : decide (l.drop i = m.drop i) = false := by rw [dl, dm]; simp; intro h; exact absurd h c
      rw [e]
      simp -implicitDefEqProofs (disch := omega) only [↓c16_1_eq, dcT, dcF,Aa,Ab,Af, ln, e1, e2, f1, f2, w1, ↓ret16, ↓cnd_true, ↓cnd_false, ↓Option.bind_some, ↓obH_some', bin_add, bin_sub, bin_mul, bin_lss, bin_leq, bin_gtr, bin_geq, bin_eql, bin_neq, un_not, un_neg, Option.bind_some, Option.bind_none, Option.map_some, cnd_true, cnd_false, pickV_true, pickV_false, gd_true, gd_false, gdV_true, gdV_false, gdH_true, gdH_false, gdS_true, gdS_false, wt_ff, wt_tt, wt_ft, wt_tf, wt_undef, obH_some', extractV_tuple, nilCheckV_ptr, againK_normal, againK_exit, againK_ret, blockK_normal, blockK_same, blockK_ret, seqK_normal, seqK_exit, seqK_ret, fin_done, if_true', if_false', Bool.not_true, Bool.not_false, idx0, idx1, idx2, idx3, idx4, chk_nil_l, chk_nil_r, done_nm, up_cons, up_nil, cond_true, cond_false, Nat.reduceBEq]
theorem spec_ints {h : Heap} {v w : Value} {l m : List Nat} (sv : SO h v l) (sw : SO h w m) (hb : l.length < 2 ^ 40) (hc : m.length < 2 ^ 40) : evC Try.prog 16 #[v, w] h = some (.bool (decide (l = m)), h) := by
  rw [call16]
  have nv : SO (nm h) v l := sv.keep fun _ _ _ => rfl
  have nw : SO (nm h) w m := sw.keep fun _ _ _ => rfl
  have ln := nv.len_eq etO.under
  have lm := nw.len_eq etO.under
  by_cases c : l.length = m.length
  · have lp := ints_loop (h0 := h) nv nw c hb l.length 0 (by omega)
    rw [List.drop_zero, List.drop_zero] at lp
    simp -implicitDefEqProofs (disch := omega) only [↓c16_0_eq, dcT, dcF, ln, lm, ↓cnd_true, ↓cnd_false, ↓Option.bind_some, ↓obH_some', bin_add, bin_sub, bin_mul, bin_lss, bin_leq, bin_gtr, bin_geq, bin_eql, bin_neq, un_not, un_neg, Option.bind_some, Option.bind_none, Option.map_some, cnd_true, cnd_false, pickV_true, pickV_false, gd_true, gd_false, gdV_true, gdV_false, gdH_true, gdH_false, gdS_true, gdS_false, wt_ff, wt_tt, wt_ft, wt_tf, wt_undef, obH_some', extractV_tuple, nilCheckV_ptr, againK_normal, againK_exit, againK_ret, blockK_normal, blockK_same, blockK_ret, seqK_normal, seqK_exit, seqK_ret, fin_done, if_true', if_false', Bool.not_true, Bool.not_false, idx0, idx1, idx2, idx3, idx4, chk_nil_l, chk_nil_r, done_nm, up_cons, up_nil, cond_true, cond_false, Nat.reduceBEq]
    exact lp _ rfl rfl rfl
  · rw [decide_eq_false fun e => c (by rw [e])]
    simp -implicitDefEqProofs (disch := omega) only [↓c16_0_eq, dcT, dcF, ln, lm, ↓ret16, ↓cnd_true, ↓cnd_false, ↓Option.bind_some, ↓obH_some', bin_add, bin_sub, bin_mul, bin_lss, bin_leq, bin_gtr, bin_geq, bin_eql, bin_neq, un_not, un_neg, Option.bind_some, Option.bind_none, Option.map_some, cnd_true, cnd_false, pickV_true, pickV_false, gd_true, gd_false, gdV_true, gdV_false, gdH_true, gdH_false, gdS_true, gdS_false, wt_ff, wt_tt, wt_ft, wt_tf, wt_undef, obH_some', extractV_tuple, nilCheckV_ptr, againK_normal, againK_exit, againK_ret, blockK_normal, blockK_same, blockK_ret, seqK_normal, seqK_exit, seqK_ret, fin_done, if_true', if_false', Bool.not_true, Bool.not_false, idx0, idx1, idx2, idx3, idx4, chk_nil_l, chk_nil_r, done_nm, up_cons, up_nil, cond_true, cond_false, Nat.reduceBEq]
structure CanO (iv : Value) (P : Heap → Prop) (can : Int → Nat → List UInt8 → Bool) : Prop where
  is_ : ∃ t b, iv = .iface t (.pointer (some b))
  keep : ∀ h h', P h → Same h h' → P h'
  call : ∀ h fr k v bs, P h → SB h v bs → bs.length < 2 ^ 30 → ∃ h', invokeV Try.prog (evC Try.prog) iv "Can" #[.int .i64 fr, .int .u64 (k : Nat), v] h = some (.bool (can fr k bs), h') ∧ HExt h h'
theorem nilO (i : Nat) (t : TypeId) (b : Addr) : binV Try.prog .eql 24 (.tmp i) (.const .nilIface) (.iface t (.pointer (some b))) .nilIface = some (.bool false) := by kernel_rfl
theorem nilN (i : Nat) (t : TypeId) (b : Addr) : binV Try.prog .neq 24 (.tmp i) (.const .nilIface) (.iface t (.pointer (some b))) .nilIface = some (.bool true) := by kernel_rfl
theorem nilO0 (i : Nat) : binV Try.prog .eql 24 (.tmp i) (.const .nilIface) .nilIface .nilIface = some (.bool true) := by kernel_rfl
theorem nilN0 (i : Nat) : binV Try.prog .neq 24 (.tmp i) (.const .nilIface) .nilIface .nilIface = some (.bool false) := by kernel_rfl
theorem lnHd (a : Option Addr) (n c : Nat) (h : Heap) : lenV Try.prog 38 (.slice a n c) h = some (.int .i64 n) := by kernel_rfl
def hd0 : HT := ⟨false, 0, 0, []⟩
def hdOk (can : Int → Nat → List UInt8 → Bool) (x : HT) : Bool := x.is_ && can x.frm x.num x.b
def headsL (can : Int → Nat → List UInt8 → Bool) (hs : List HT) (i : Nat) : List Nat := (List.range i).filter fun k => hdOk can (hs.getD k hd0)
theorem headsL_succ (can : Int → Nat → List UInt8 → Bool) (hs : List HT) (i : Nat) : headsL can hs (i + 1) = headsL can hs i ++ (if hdOk can (hs.getD i hd0) = true then [i] else []) := by
  unfold headsL
  rw [List.range_succ, List.filter_append]
  simp only [List.filter_cons, List.filter_nil]
theorem headsL_len (can : Int → Nat → List UInt8 → Bool) (hs : List HT) (i : Nat) : (headsL can hs i).length ≤ i := by
  unfold headsL
  exact Nat.le_trans (List.length_filter_le _ _) (by simp)
theorem headsL_lt (can : Int → Nat → List UInt8 → Bool) (hs : List HT) (i k : Nat) (hk : k ∈ headsL can hs i) : k < i := by
  unfold headsL at hk
  exact List.mem_range.1 (List.mem_filter.1 hk).1
theorem spec_HeadsN (v : Value) (h : Heap) : evC Try.prog 17 #[.nilIface, v] h = some (.slice none 0 0, h) := by
  rw [call17]
  simp -implicitDefEqProofs (disch := omega) only [↓c17_0_eq, nilO0, ↓ret17, ↓cnd_true, ↓cnd_false, ↓Option.bind_some, ↓obH_some', bin_add, bin_sub, bin_mul, bin_lss, bin_leq, bin_gtr, bin_geq, bin_eql, bin_neq, un_not, un_neg, Option.bind_some, Option.bind_none, Option.map_some, cnd_true, cnd_false, pickV_true, pickV_false, gd_true, gd_false, gdV_true, gdV_false, gdH_true, gdH_false, gdS_true, gdS_false, wt_ff, wt_tt, wt_ft, wt_tf, wt_undef, obH_some', extractV_tuple, nilCheckV_ptr, againK_normal, againK_exit, againK_ret, blockK_normal, blockK_same, blockK_ret, seqK_normal, seqK_exit, seqK_ret, fin_done, if_true', if_false', Bool.not_true, Bool.not_false, idx0, idx1, idx2, idx3, idx4, chk_nil_l, chk_nil_r, done_nm, up_cons, up_nil, cond_true, cond_false, Nat.reduceBEq]
theorem alHd (h : Heap) : allocV Try.prog 37 h = some (.pointer (some ⟨h.blks.length, 0, none⟩), h.new (.cells [.bool false, .int .i64 0, .int .u64 0, .slice none 0 0]) 37) := by kernel_rfl
theorem ldHd (b o : Nat) (h : Heap) : loadV Try.prog 37 (.pointer (some ⟨b, o, none⟩)) h = (h.loadN b o 4).map fun cs => .agg cs.toArray := by kernel_rfl
theorem stHd (p : Nat) (b : Bool) (f n : Int) (a : Option Addr) (l c : Nat) (h : Heap) : storeV Try.prog 37 (.pointer (some ⟨p, 0, none⟩)) (.agg #[.bool b, .int .i64 f, .int .u64 n, .slice a l c]) h = h.storeN p 0 [.bool b, .int .i64 f, .int .u64 n, .slice a l c] := by kernel_rfl
theorem ldBo (b o : Nat) (h : Heap) : loadV Try.prog 4 (.pointer (some ⟨b, o, none⟩)) h = h.load1 b o := by kernel_rfl
theorem ldUo (b o : Nat) (h : Heap) : loadV Try.prog 35 (.pointer (some ⟨b, o, none⟩)) h = h.load1 b o := by kernel_rfl
theorem ldYo (b o : Nat) (h : Heap) : loadV Try.prog 33 (.pointer (some ⟨b, o, none⟩)) h = h.load1 b o := by kernel_rfl
theorem w4_put (h : Heap) (a b c d : Value) (cs : List Value) : (some ((h.put h.blks.length (.cells ([] ++ cs ++ ([] : List Value)))) : Heap)) = some (h.put h.blks.length (.cells cs)) := by simp
theorem hvar {h : Heap} (b : Bool) (f n : Int) (a : Option Addr) (l c : Nat) : storeV Try.prog 37 (.pointer (some ⟨h.blks.length, 0, none⟩)) (.agg #[.bool b, .int .i64 f, .int .u64 n, .slice a l c]) (h.new (.cells [.bool false, .int .i64 0, .int .u64 0, .slice none 0 0]) 37) =
    some ((h.new (.cells [.bool false, .int .i64 0, .int .u64 0, .slice none 0 0]) 37).put h.blks.length (.cells [.bool b, .int .i64 f, .int .u64 n, .slice a l c])) := by
  rw [stHd, storeN_blk (Cells.new h 37 [.bool false, .int .i64 0, .int .u64 0, .slice none 0 0]) (o := 0) (vs := [.bool b, .int .i64 f, .int .u64 n, .slice a l c]) (by simp)]
  rfl
theorem SHd.shape {h : Heap} {v : Value} {l : List HT} (s : SHd h v l) : ∃ a c, v = .slice a l.length c := by
  obtain ⟨bvs, r, _⟩ := s
  generalize l.length = n at *
  generalize (List.zipWith headC l bvs).flatten = cs at r
  cases r <;> exact ⟨_, _, rfl⟩
theorem heads_loop {iv : Value} {P : Heap → Prop} {can : Int → Nat → List UInt8 → Bool} (E : CanO iv P can) {h0 : Heap} {v : Value} {hs : List HT} (p0 : P (nm h0)) (sv : SHd (nm h0) v hs) (hl : hs.length < 2 ^ 38) (hb : ∀ y ∈ hs, y.b.length < 2 ^ 30) :
    ∀ (k i : Nat) (h : Heap) (a : Option Addr) (c : Nat), hs.length = i + k → In h0.blks.length No (nm h0) h → AO h0.blks.length h (.slice a (headsL can hs i).length c) (headsL can hs i) →
    ∀ (x : Nat → Value), x 0 = iv → x 10 = v → x 11 = .int .i64 hs.length → x 12 = .int .i64 i → x 5 = .slice a (headsL can hs i).length c →
    ∃ a' c' h', lK c17_1 35 x h (blockK 0 (sK c17_2 (retK Try.f17 Try.prog h0))) = some (.slice a' (headsL can hs hs.length).length c', done h0 h') ∧ In h0.blks.length No (nm h0) h' ∧ AO h0.blks.length h' (.slice a' (headsL can hs hs.length).length c') (headsL can hs hs.length) := by
  intro k
  induction k with
  | zero =>
    intro i h a c hi hin ha x Aa Ak Al An Af
    rw [lK_eq]
    obtain rfl : i = hs.length := by omega
    refine ⟨a, c, h, ?_, hin, ha⟩
    simp -implicitDefEqProofs (disch := omega) only [↓c17_1_eq, ↓c17_2_eq, dcT, dcF,Aa,Ak,Al,An,Af, ↓ret17, ↓cnd_true, ↓cnd_false, ↓Option.bind_some, ↓obH_some', bin_add, bin_sub, bin_mul, bin_lss, bin_leq, bin_gtr, bin_geq, bin_eql, bin_neq, un_not, un_neg, Option.bind_some, Option.bind_none, Option.map_some, cnd_true, cnd_false, pickV_true, pickV_false, gd_true, gd_false, gdV_true, gdV_false, gdH_true, gdH_false, gdS_true, gdS_false, wt_ff, wt_tt, wt_ft, wt_tf, wt_undef, obH_some', extractV_tuple, nilCheckV_ptr, againK_normal, againK_exit, againK_ret, blockK_normal, blockK_same, blockK_ret, seqK_normal, seqK_exit, seqK_ret, fin_done, if_true', if_false', Bool.not_true, Bool.not_false, idx0, idx1, idx2, idx3, idx4, chk_nil_l, chk_nil_r, done_nm, up_cons, up_nil, cond_true, cond_false, Nat.reduceBEq]
  | succ k ih =>
    intro i h a c hi hin ha x Aa Ak Al An Af
    rw [lK_eq]
    have ln := headsL_len can hs i
    have hi' : i < hs.length := by omega
    obtain ⟨b, o, bv, hat⟩ := sv.at hi'
    have sm : Same (nm h0) h := ⟨hin.len, fun q hq => hin.old q hq id⟩
    have g := hat h sm
    have e1 := g.at_
    have e2 : loadV Try.prog 37 (.pointer (some ⟨b, o, none⟩)) h = some (.agg #[.bool hs[i].is_, .int .i64 hs[i].frm, .int .u64 hs[i].num, bv]) := (ldHd b o h).trans (by rw [g.lN]; rfl)
    obtain ⟨ba, bl, bc, rfl⟩ : ∃ a l c, bv = .slice a l c := by
      have := g.sb.shape
      obtain ⟨a, c, e⟩ := this
      exact ⟨_, _, _, e⟩
    have e3 := alHd h
    have e4 := hvar (h := h) hs[i].is_ hs[i].frm hs[i].num ba bl bc
    have s5 : Same h ((h.new (.cells [.bool false, .int .i64 0, .int .u64 0, .slice none 0 0]) 37).put h.blks.length (.cells [.bool hs[i].is_, .int .i64 hs[i].frm, .int .u64 hs[i].num, .slice ba bl bc])) := (Same.new h _ _).put (Nat.le_refl _) _
    have c5 := (Cells.new h 37 [.bool false, .int .i64 0, .int .u64 0, .slice none 0 0]).put [.bool hs[i].is_, .int .i64 hs[i].frm, .int .u64 hs[i].num, .slice ba bl bc]
    have hle : h0.blks.length ≤ h.blks.length := Nat.le_trans hin.le hin.len
    have i5 : In h0.blks.length No (nm h0) ((h.new (.cells [.bool false, .int .i64 0, .int .u64 0, .slice none 0 0]) 37).put h.blks.length (.cells [.bool hs[i].is_, .int .i64 hs[i].frm, .int .u64 hs[i].num, .slice ba bl bc])) :=
      hin.trans ((In.new hle _ _).trans (In.put (Nat.le_trans hle (Same.new h _ _).1) (.inl hle) _))
    generalize (h.new (.cells [.bool false, .int .i64 0, .int .u64 0, .slice none 0 0]) 37).put h.blks.length (.cells [.bool hs[i].is_, .int .i64 hs[i].frm, .int .u64 hs[i].num, .slice ba bl bc]) = h5 at *
    have l0 := c5.load 0
    have l1 := c5.load 1
    have l2 := c5.load 2
    have l3 := c5.load 3
    have a5 := ha.same s5
    have p5 : P h5 := E.keep _ _ p0 ⟨i5.len, fun q hq => i5.old q hq id⟩
    have w1 : IntKind.i64.wrap ((i : Int) + 1) = ((i + 1 : Nat) : Int) := by rw [wrap_i64] <;> omega
    have gd : hs.getD i hd0 = hs[i] := by rw [List.getD_eq_getElem?_getD, List.getElem?_eq_getElem hi']; rfl
    have hsu := headsL_succ can hs i
    rw [gd] at hsu
    cases his : hs[i].is_ with
    | false =>
      have hno : hdOk can hs[i] = false := by unfold hdOk; rw [his]; rfl
      rw [hno, if_neg (by decide), List.append_nil] at hsu
      rw [his] at e2 e4 l0
      rw [← hsu] at ha Af a5
      simp -implicitDefEqProofs (disch := omega) only [↓c17_1_eq, dcT, dcF,Aa,Ak,Al,An,Af, e1, e2, e3, e4, faHd0, ldBo, l0, List.getElem?_cons_zero, w1, ↓cnd_true, ↓cnd_false, ↓Option.bind_some, ↓obH_some', bin_add, bin_sub, bin_mul, bin_lss, bin_leq, bin_gtr, bin_geq, bin_eql, bin_neq, un_not, un_neg, Option.bind_some, Option.bind_none, Option.map_some, cnd_true, cnd_false, pickV_true, pickV_false, gd_true, gd_false, gdV_true, gdV_false, gdH_true, gdH_false, gdS_true, gdS_false, wt_ff, wt_tt, wt_ft, wt_tf, wt_undef, obH_some', extractV_tuple, nilCheckV_ptr, againK_normal, againK_exit, againK_ret, blockK_normal, blockK_same, blockK_ret, seqK_normal, seqK_exit, seqK_ret, fin_done, if_true', if_false', Bool.not_true, Bool.not_false, idx0, idx1, idx2, idx3, idx4, chk_nil_l, chk_nil_r, done_nm, up_cons, up_nil, cond_true, cond_false, Nat.reduceBEq]
      refine ih (i + 1) h5 a c (by omega) i5 a5 _ ?_ ?_ ?_ ?_ ?_
      · exact Aa
      · exact Ak
      · exact Al
      · rfl
      · exact Af
    | true =>
      obtain ⟨h6, e6,Ag⟩ := E.call h5 hs[i].frm hs[i].num (.slice ba bl bc) hs[i].b p5 (g.sb.same s5) (hb _ (List.getElem_mem _))
      have i6 := i5.trans (Ag.inn i5.len)
      have a6 := a5.same Ag.same
      rw [his] at e2 e4 l0
      cases hc : can hs[i].frm hs[i].num hs[i].b with
      | false =>
        rw [hc] at e6
        have hno : hdOk can hs[i] = false := by unfold hdOk; rw [his, hc]; rfl
        rw [hno, if_neg (by decide), List.append_nil] at hsu
        rw [← hsu] at Af a6
        simp -implicitDefEqProofs (disch := omega) only [↓c17_1_eq, dcT, dcF,Aa,Ak,Al,An,Af, e1, e2, e3, e4, faHd0, faHd1, faHd2, faHd3, ldBo, ldUo, ldYo, ld_o, l0, l1, l2, l3, Nat.zero_add, List.getElem?_cons_zero, List.getElem?_cons_succ, e6, w1, ↓cnd_true, ↓cnd_false, ↓Option.bind_some, ↓obH_some', bin_add, bin_sub, bin_mul, bin_lss, bin_leq, bin_gtr, bin_geq, bin_eql, bin_neq, un_not, un_neg, Option.bind_some, Option.bind_none, Option.map_some, cnd_true, cnd_false, pickV_true, pickV_false, gd_true, gd_false, gdV_true, gdV_false, gdH_true, gdH_false, gdS_true, gdS_false, wt_ff, wt_tt, wt_ft, wt_tf, wt_undef, obH_some', extractV_tuple, nilCheckV_ptr, againK_normal, againK_exit, againK_ret, blockK_normal, blockK_same, blockK_ret, seqK_normal, seqK_exit, seqK_ret, fin_done, if_true', if_false', Bool.not_true, Bool.not_false, idx0, idx1, idx2, idx3, idx4, chk_nil_l, chk_nil_r, done_nm, up_cons, up_nil, cond_true, cond_false, Nat.reduceBEq]
        refine ih (i + 1) h6 a c (by omega) i6 a6 _ ?_ ?_ ?_ ?_ ?_
        · exact Aa
        · exact Ak
        · exact Al
        · rfl
        · exact Af
      | true =>
        rw [hc] at e6
        have hyes : hdOk can hs[i] = true := by unfold hdOk; rw [his, hc]; rfl
        rw [hyes, if_pos rfl] at hsu
        have e7 := mkO1 (i : Int) h6
        obtain ⟨a', c', h8, e8, a8, k8, o8⟩ := app_o (Nat.le_trans hle (Nat.le_trans s5.1 Ag.len)) a6 i (by omega)
        have i8 := i6.trans (Keeps.inn (S := No) k8)
        simp -implicitDefEqProofs (disch := omega) only [↓c17_1_eq, dcT, dcF,Aa,Ak,Al,An,Af, e1, e2, e3, e4, faHd0, faHd1, faHd2, faHd3, ldBo, ldUo, ldYo, ld_o, l0, l1, l2, l3, Nat.zero_add, List.getElem?_cons_zero, List.getElem?_cons_succ, e6, e7, e8, w1, ↓cnd_true, ↓cnd_false, ↓Option.bind_some, ↓obH_some', bin_add, bin_sub, bin_mul, bin_lss, bin_leq, bin_gtr, bin_geq, bin_eql, bin_neq, un_not, un_neg, Option.bind_some, Option.bind_none, Option.map_some, cnd_true, cnd_false, pickV_true, pickV_false, gd_true, gd_false, gdV_true, gdV_false, gdH_true, gdH_false, gdS_true, gdS_false, wt_ff, wt_tt, wt_ft, wt_tf, wt_undef, obH_some', extractV_tuple, nilCheckV_ptr, againK_normal, againK_exit, againK_ret, blockK_normal, blockK_same, blockK_ret, seqK_normal, seqK_exit, seqK_ret, fin_done, if_true', if_false', Bool.not_true, Bool.not_false, idx0, idx1, idx2, idx3, idx4, chk_nil_l, chk_nil_r, done_nm, up_cons, up_nil, cond_true, cond_false, Nat.reduceBEq]
        rw [← hsu] at a8
        refine ih (i + 1) h8 a' c' (by omega) i8 a8 _ ?_ ?_ ?_ ?_ ?_
        · exact Aa
        · exact Ak
        · exact Al
        · rfl
        · rw [hsu]; rfl
theorem spec_Heads {iv : Value} {P : Heap → Prop} {can : Int → Nat → List UInt8 → Bool} (E : CanO iv P can) {h : Heap} {v : Value} {hs : List HT} (p0 : P h) (sv : SHd h v hs) (hl : hs.length < 2 ^ 38) (hb : ∀ y ∈ hs, y.b.length < 2 ^ 30) :
    ∃ a c h', evC Try.prog 17 #[iv, v] h = some (.slice a (headsL can hs hs.length).length c, h') ∧ HExt h h' ∧ AO h.blks.length h' (.slice a (headsL can hs hs.length).length c) (headsL can hs hs.length) := by
  rw [call17]
  have s0 : Same h (nm h) := ⟨Nat.le_refl _, fun _ _ => rfl⟩
  have nv := sv.same s0
  have ln := nv.len
  obtain ⟨t, b, rfl⟩ := E.is_
  have lp := heads_loop E (h0 := h) (E.keep _ _ p0 s0) nv hl hb hs.length 0 (nm h) none 0 (by omega) (In.refl (Nat.le_refl _)) .nil
  have fin' : ∀ {r : Option (Value × Heap)}, (∃ a c h', r = some (.slice a (headsL can hs hs.length).length c, done h h') ∧ In h.blks.length No (nm h) h' ∧ AO h.blks.length h' (.slice a (headsL can hs hs.length).length c) (headsL can hs hs.length)) → ∃ a c h', r = some (.slice a (headsL can hs hs.length).length c, h') ∧ HExt h h' ∧ AO h.blks.length h' (.slice a (headsL can hs hs.length).length c) (headsL can hs hs.length) := fun ⟨a, c, h', q1, q2, q3⟩ => ⟨a, c, _, q1, done_ext' q2, Acc.done q3⟩
  simp -implicitDefEqProofs (disch := omega) only [↓c17_0_eq, nilO, ln, ↓cnd_true, ↓cnd_false, ↓Option.bind_some, ↓obH_some', bin_add, bin_sub, bin_mul, bin_lss, bin_leq, bin_gtr, bin_geq, bin_eql, bin_neq, un_not, un_neg, Option.bind_some, Option.bind_none, Option.map_some, cnd_true, cnd_false, pickV_true, pickV_false, gd_true, gd_false, gdV_true, gdV_false, gdH_true, gdH_false, gdS_true, gdS_false, wt_ff, wt_tt, wt_ft, wt_tf, wt_undef, obH_some', extractV_tuple, nilCheckV_ptr, againK_normal, againK_exit, againK_ret, blockK_normal, blockK_same, blockK_ret, seqK_normal, seqK_exit, seqK_ret, fin_done, if_true', if_false', Bool.not_true, Bool.not_false, idx0, idx1, idx2, idx3, idx4, chk_nil_l, chk_nil_r, done_nm, up_cons, up_nil, cond_true, cond_false, Nat.reduceBEq]
  refine fin' (lp _ ?_ ?_ ?_ ?_ ?_)
  all_goals rfl
def lstep (hs : List HT) (s : Nat × Bool) (i : Nat) : Nat × Bool := if s.2 = false ∨ (hs.getD i hd0).frm < (hs.getD s.1 hd0).frm then (i, true) else s
def leastL (hs : List HT) (l : List Nat) : Nat × Bool := l.foldl (lstep hs) (0, false)
theorem leastL_snoc (hs : List HT) (l : List Nat) (i : Nat) : leastL hs (l ++ [i]) = lstep hs (leastL hs l) i := by unfold leastL; rw [List.foldl_append]; rfl
theorem lfold_lt (hs : List HT) : ∀ (l : List Nat) (s : Nat × Bool), (∀ k ∈ l, k < hs.length) → (s.2 = true → s.1 < hs.length) → (l.foldl (lstep hs) s).2 = true → (l.foldl (lstep hs) s).1 < hs.length
  | [], s, _, h => h
  | i :: l, s, hk, h => lfold_lt hs l (lstep hs s i) (fun k hk' => hk k (by simp [hk'])) (by
      unfold lstep
      split
      · intro _; exact hk i (by simp)
      · exact h)
theorem leastL_lt (hs : List HT) (l : List Nat) (hk : ∀ k ∈ l, k < hs.length) : (leastL hs l).2 = true → (leastL hs l).1 < hs.length := lfold_lt hs l (0, false) hk (fun h => by cases h)
theorem lstep_at (hs : List HT) (l : List Nat) {i : Nat} (hi : i < l.length) : leastL hs (l.take (i + 1)) = lstep hs (leastL hs (l.take i)) (l.getD i 0) := by
  rw [← leastL_snoc, List.take_succ, List.getElem?_eq_getElem hi, List.getD_eq_getElem?_getD, List.getElem?_eq_getElem hi]
  rfl
theorem hd_frm {h : Heap} {v : Value} {hs : List HT} (sv : SHd h v hs) {k : Nat} (hk : k < hs.length) : ∃ b o, indexAddrV Try.prog 38 v (.int .i64 (k : Nat)) = some (.pointer (some ⟨b, o, none⟩)) ∧ h.load1 b (o + 1) = some (.int .i64 (hs.getD k hd0).frm) := by
  obtain ⟨b, o, bv, hat⟩ := sv.at hk
  have g := hat h (Same.refl h)
  have gd : hs.getD k hd0 = hs[k] := by rw [List.getD_eq_getElem?_getD, List.getElem?_eq_getElem hk]; rfl
  rw [gd]
  exact ⟨b, o, g.at_, g.l1⟩
theorem least_loop {h0 h : Heap} {v w : Value} {hs : List HT} {l : List Nat} (sv : SHd h v hs) (sw : SO h w l) (hlt : ∀ k ∈ l, k < hs.length) (hl : l.length < 2 ^ 40) :
    ∀ (k i : Nat), l.length = i + k → ∀ (x : Nat → Value), x 1 = v → x 12 = w → x 13 = .int .i64 l.length → x 14 = .int .i64 i → x 6 = .int .i64 (leastL hs (l.take i)).1 → x 7 = .bool (leastL hs (l.take i)).2 →
    lK c14_1 37 x h (blockK 0 (sK c14_2 (retK Try.f14 Try.prog h0))) = some (.tuple #[.int .i64 (leastL hs l).1, .bool (leastL hs l).2], done h0 h) := by
  intro k
  induction k with
  | zero =>
    intro i hi x Ab An Ao Ap Ag Ah
    rw [lK_eq]
    rw [List.take_of_length_le (by omega)] at Ag Ah
    simp -implicitDefEqProofs (disch := omega) only [↓c14_1_eq, ↓c14_2_eq, dcT, dcF,Ab,An,Ao,Ap,Ag,Ah, ↓ret14, ↓cnd_true, ↓cnd_false, ↓Option.bind_some, ↓obH_some', bin_add, bin_sub, bin_mul, bin_lss, bin_leq, bin_gtr, bin_geq, bin_eql, bin_neq, un_not, un_neg, Option.bind_some, Option.bind_none, Option.map_some, cnd_true, cnd_false, pickV_true, pickV_false, gd_true, gd_false, gdV_true, gdV_false, gdH_true, gdH_false, gdS_true, gdS_false, wt_ff, wt_tt, wt_ft, wt_tf, wt_undef, obH_some', extractV_tuple, nilCheckV_ptr, againK_normal, againK_exit, againK_ret, blockK_normal, blockK_same, blockK_ret, seqK_normal, seqK_exit, seqK_ret, fin_done, if_true', if_false', Bool.not_true, Bool.not_false, idx0, idx1, idx2, idx3, idx4, chk_nil_l, chk_nil_r, done_nm, up_cons, up_nil, cond_true, cond_false, Nat.reduceBEq]
  | succ k ih =>
    intro i hi x Ab An Ao Ap Ag Ah
    rw [lK_eq]
    obtain ⟨a, e1, e2⟩ := so_at sw (i := i) (by omega)
    have hin : l.getD i 0 < hs.length := hlt _ (by rw [List.getD_eq_getElem?_getD, List.getElem?_eq_getElem (by omega)]; exact List.getElem_mem _)
    obtain ⟨b1, o1, f1, f2⟩ := hd_frm sv hin
    have w1 : IntKind.i64.wrap ((i : Int) + 1) = ((i + 1 : Nat) : Int) := by rw [wrap_i64] <;> omega
    have st := lstep_at hs l (i := i) (by omega)
    have hlast := leastL_lt hs (l.take i) fun k hk => hlt k (List.mem_of_mem_take hk)
    generalize hS : leastL hs (l.take i) = S at *
    obtain ⟨bst, ok⟩ := S
    simp only at Ag Ah hlast
    cases ok with
    | false =>
      have st' : leastL hs (l.take (i + 1)) = (l.getD i 0, true) := by rw [st]; unfold lstep; rw [if_pos (.inl rfl)]
      simp -implicitDefEqProofs (disch := omega) only [↓c14_1_eq, dcT, dcF,Ab,An,Ao,Ap,Ag,Ah, e1, e2, w1, ↓cnd_true, ↓cnd_false, ↓Option.bind_some, ↓obH_some', bin_add, bin_sub, bin_mul, bin_lss, bin_leq, bin_gtr, bin_geq, bin_eql, bin_neq, un_not, un_neg, Option.bind_some, Option.bind_none, Option.map_some, cnd_true, cnd_false, pickV_true, pickV_false, gd_true, gd_false, gdV_true, gdV_false, gdH_true, gdH_false, gdS_true, gdS_false, wt_ff, wt_tt, wt_ft, wt_tf, wt_undef, obH_some', extractV_tuple, nilCheckV_ptr, againK_normal, againK_exit, againK_ret, blockK_normal, blockK_same, blockK_ret, seqK_normal, seqK_exit, seqK_ret, fin_done, if_true', if_false', Bool.not_true, Bool.not_false, idx0, idx1, idx2, idx3, idx4, chk_nil_l, chk_nil_r, done_nm, up_cons, up_nil, cond_true, cond_false, Nat.reduceBEq]
      refine ih (i + 1) (by omega) _ ?_ ?_ ?_ ?_ ?_ ?_
      · exact Ab
      · exact An
      · exact Ao
      · rfl
      · rw [st']; rfl
      · rw [st']; rfl
    | true =>
      obtain ⟨b2, o2, g1, g2⟩ := hd_frm sv (hlast rfl)
      by_cases c : (hs.getD (l.getD i 0) hd0).frm < (hs.getD bst hd0).frm
      · have st' : leastL hs (l.take (i + 1)) = (l.getD i 0, true) := by rw [st]; unfold lstep; rw [if_pos (.inr c)]
        simp -implicitDefEqProofs (disch := omega) only [↓c14_1_eq, dcT, dcF,Ab,An,Ao,Ap,Ag,Ah, e1, e2, f1, g1, faHd1, ld_o, f2, g2, w1, ↓cnd_true, ↓cnd_false, ↓Option.bind_some, ↓obH_some', bin_add, bin_sub, bin_mul, bin_lss, bin_leq, bin_gtr, bin_geq, bin_eql, bin_neq, un_not, un_neg, Option.bind_some, Option.bind_none, Option.map_some, cnd_true, cnd_false, pickV_true, pickV_false, gd_true, gd_false, gdV_true, gdV_false, gdH_true, gdH_false, gdS_true, gdS_false, wt_ff, wt_tt, wt_ft, wt_tf, wt_undef, obH_some', extractV_tuple, nilCheckV_ptr, againK_normal, againK_exit, againK_ret, blockK_normal, blockK_same, blockK_ret, seqK_normal, seqK_exit, seqK_ret, fin_done, if_true', if_false', Bool.not_true, Bool.not_false, idx0, idx1, idx2, idx3, idx4, chk_nil_l, chk_nil_r, done_nm, up_cons, up_nil, cond_true, cond_false, Nat.reduceBEq]
        refine ih (i + 1) (by omega) _ ?_ ?_ ?_ ?_ ?_ ?_
        · exact Ab
        · exact An
        · exact Ao
        · rfl
        · rw [st']; rfl
        · rw [st']; rfl
      · have st' : leastL hs (l.take (i + 1)) = (bst, true) := by rw [st]; unfold lstep; rw [if_neg (fun h => h.elim (fun h => by cases h) c)]
        simp -implicitDefEqProofs (disch := omega) only [↓c14_1_eq, dcT, dcF,Ab,An,Ao,Ap,Ag,Ah, e1, e2, f1, g1, faHd1, ld_o, f2, g2, w1, ↓cnd_true, ↓cnd_false, ↓Option.bind_some, ↓obH_some', bin_add, bin_sub, bin_mul, bin_lss, bin_leq, bin_gtr, bin_geq, bin_eql, bin_neq, un_not, un_neg, Option.bind_some, Option.bind_none, Option.map_some, cnd_true, cnd_false, pickV_true, pickV_false, gd_true, gd_false, gdV_true, gdV_false, gdH_true, gdH_false, gdS_true, gdS_false, wt_ff, wt_tt, wt_ft, wt_tf, wt_undef, obH_some', extractV_tuple, nilCheckV_ptr, againK_normal, againK_exit, againK_ret, blockK_normal, blockK_same, blockK_ret, seqK_normal, seqK_exit, seqK_ret, fin_done, if_true', if_false', Bool.not_true, Bool.not_false, idx0, idx1, idx2, idx3, idx4, chk_nil_l, chk_nil_r, done_nm, up_cons, up_nil, cond_true, cond_false, Nat.reduceBEq]
        refine ih (i + 1) (by omega) _ ?_ ?_ ?_ ?_ ?_ ?_
        · exact Ab
        · exact An
        · exact Ao
        · rfl
        · rw [st']; exact Ag
        · rw [st']; exact Ah
theorem spec_Least {iv : Value} {P : Heap → Prop} {can : Int → Nat → List UInt8 → Bool} (E : CanO iv P can) {h : Heap} {v : Value} {hs : List HT} (p0 : P h) (sv : SHd h v hs) (hl : hs.length < 2 ^ 38) (hb : ∀ y ∈ hs, y.b.length < 2 ^ 30) :
    ∃ h', evC Try.prog 14 #[iv, v] h = some (.tuple #[.int .i64 (leastL hs (headsL can hs hs.length)).1, .bool (leastL hs (headsL can hs hs.length)).2], h') ∧ HExt h h' := by
  rw [call14]
  have s0 : Same h (nm h) := ⟨Nat.le_refl _, fun _ _ => rfl⟩
  obtain ⟨a, c, h1, e1,Ab, a1⟩ := spec_Heads E (E.keep _ _ p0 s0) (sv.same s0) hl hb
  have hn := headsL_len can hs hs.length
  have ln : lenV Try.prog 43 (.slice a (headsL can hs hs.length).length c) h1 = some (.int .i64 (headsL can hs hs.length).length) := a1.row.len_eq etO.under
  have lp := least_loop (h0 := h) ((sv.same s0).same Ab.same) a1.row (fun k hk => headsL_lt can hs _ k hk) (by omega) _ 0 (Nat.zero_add _).symm
  refine ⟨done h h1, ?_, done_ext' (Ab.inn (Nat.le_refl _))⟩
  simp -implicitDefEqProofs (disch := omega) only [↓c14_0_eq, dcT, dcF, e1, ln, ↓cnd_true, ↓cnd_false, ↓Option.bind_some, ↓obH_some', bin_add, bin_sub, bin_mul, bin_lss, bin_leq, bin_gtr, bin_geq, bin_eql, bin_neq, un_not, un_neg, Option.bind_some, Option.bind_none, Option.map_some, cnd_true, cnd_false, pickV_true, pickV_false, gd_true, gd_false, gdV_true, gdV_false, gdH_true, gdH_false, gdS_true, gdS_false, wt_ff, wt_tt, wt_ft, wt_tf, wt_undef, obH_some', extractV_tuple, nilCheckV_ptr, againK_normal, againK_exit, againK_ret, blockK_normal, blockK_same, blockK_ret, seqK_normal, seqK_exit, seqK_ret, fin_done, if_true', if_false', Bool.not_true, Bool.not_false, idx0, idx1, idx2, idx3, idx4, chk_nil_l, chk_nil_r, done_nm, up_cons, up_nil, cond_true, cond_false, Nat.reduceBEq]
  refine lp _ ?_ ?_ ?_ ?_ ?_ ?_
  all_goals rfl
theorem spec_LeastN (v : Value) (h : Heap) : evC Try.prog 14 #[.nilIface, v] h = some (.tuple #[.int .i64 0, .bool false], h) := by
  rw [call14]
  have e1 := spec_HeadsN v (nm h)
  have ln : lenV Try.prog 43 (.slice none 0 0) (nm h) = some (.int .i64 (0 : Nat)) := (Row.nil (h := nm h) (es := 1)).len_eq etO.under
  simp -implicitDefEqProofs (disch := omega) only [↓c14_0_eq, dcT, dcF, e1, ln, ↓cnd_true, ↓cnd_false, ↓Option.bind_some, ↓obH_some', bin_add, bin_sub, bin_mul, bin_lss, bin_leq, bin_gtr, bin_geq, bin_eql, bin_neq, un_not, un_neg, Option.bind_some, Option.bind_none, Option.map_some, cnd_true, cnd_false, pickV_true, pickV_false, gd_true, gd_false, gdV_true, gdV_false, gdH_true, gdH_false, gdS_true, gdS_false, wt_ff, wt_tt, wt_ft, wt_tf, wt_undef, obH_some', extractV_tuple, nilCheckV_ptr, againK_normal, againK_exit, againK_ret, blockK_normal, blockK_same, blockK_ret, seqK_normal, seqK_exit, seqK_ret, fin_done, if_true', if_false', Bool.not_true, Bool.not_false, idx0, idx1, idx2, idx3, idx4, chk_nil_l, chk_nil_r, done_nm, up_cons, up_nil, cond_true, cond_false, Nat.reduceBEq]
  rw [lK_eq]
  simp -implicitDefEqProofs (disch := omega) only [↓c14_1_eq, ↓c14_2_eq, dcT, dcF, ↓ret14, ↓cnd_true, ↓cnd_false, ↓Option.bind_some, ↓obH_some', bin_add, bin_sub, bin_mul, bin_lss, bin_leq, bin_gtr, bin_geq, bin_eql, bin_neq, un_not, un_neg, Option.bind_some, Option.bind_none, Option.map_some, cnd_true, cnd_false, pickV_true, pickV_false, gd_true, gd_false, gdV_true, gdV_false, gdH_true, gdH_false, gdS_true, gdS_false, wt_ff, wt_tt, wt_ft, wt_tf, wt_undef, obH_some', extractV_tuple, nilCheckV_ptr, againK_normal, againK_exit, againK_ret, blockK_normal, blockK_same, blockK_ret, seqK_normal, seqK_exit, seqK_ret, fin_done, if_true', if_false', Bool.not_true, Bool.not_false, idx0, idx1, idx2, idx3, idx4, chk_nil_l, chk_nil_r, done_nm, up_cons, up_nil, cond_true, cond_false, Nat.reduceBEq]
end Go.Am
namespace Go.Am
open Go.Proofs
set_option maxRecDepth 100000
attribute [local congr] obind_congr obH_congr cnd_congr chk_congr retK_congr codeK_congr
theorem etV : ElemT Try.prog 89 35 1 8 (.int .u64 0) := ⟨by kernel_rfl, by kernel_rfl, by kernel_rfl, by kernel_rfl, by omega, rfl, rfl⟩
theorem nilV (xo yo : Operand) : binV Try.prog .eql 89 xo yo (.slice none 0 0) (.slice none 0 0) = some (.bool true) := by kernel_rfl
theorem mkV0 (h : Heap) : buildSliceV Try.prog 89 0 #[] h = some (.slice (some ⟨h.blks.length, 0, none⟩) 0 0, h.new (.cells []) 35) := by kernel_rfl
theorem mkV2 (k : IntKind) (n m : Int) (h : Heap) : buildSliceV Try.prog 89 2 #[(0, .int k n), (1, .int k m)] h = some (.slice (some ⟨h.blks.length, 0, none⟩) 2 2, h.new (.cells [.int k n, .int k m]) 35) := by kernel_rfl
theorem vmaxI (a b : Int) (h : Heap) : builtinV Try.prog .max #[3, 3] #[.int .i64 a, .int .i64 b] h = some (.int .i64 (max a b), h) := by
  have e : builtinV Try.prog .max #[3, 3] #[.int .i64 a, .int .i64 b] h = some (.int .i64 (if b > a then b else a), h) := by kernel_rfl
  rw [e]
  have : (if b > a then b else a) = max a b := by split <;> omega
  rw [this]
theorem vminI (a b : Int) (h : Heap) : builtinV Try.prog .min #[3, 3] #[.int .i64 a, .int .i64 b] h = some (.int .i64 (min a b), h) := by
  have e : builtinV Try.prog .min #[3, 3] #[.int .i64 a, .int .i64 b] h = some (.int .i64 (if b < a then b else a), h) := by kernel_rfl
  rw [e]
  have : (if b < a then b else a) = min a b := by split <;> omega
  rw [this]
theorem vmaxU (a b : Int) (h : Heap) : builtinV Try.prog .max #[35, 35] #[.int .u64 a, .int .u64 b] h = some (.int .u64 (max a b), h) := by
  have e : builtinV Try.prog .max #[35, 35] #[.int .u64 a, .int .u64 b] h = some (.int .u64 (if b > a then b else a), h) := by kernel_rfl
  rw [e]
  have : (if b > a then b else a) = max a b := by split <;> omega
  rw [this]
theorem zeros_list (z : Value) (n : Nat) : ((Array.range (n * #[z].size)).map fun i => #[z][i % #[z].size]!).toList = List.replicate n z := by
  have e : (fun i : Nat => #[z][i % #[z].size]!) = fun _ => z := by
    funext i
    have : i % #[z].size = 0 := Nat.mod_one i
    rw [this]; rfl
  rw [e]
  simp [List.map_const']
theorem news_zero (n : Nat) (hn : n < 2 ^ 40) (h : Heap) : newsV Try.prog 1 8 (.int .u64 0) (some 3) (.int .i64 n) h = some (n, (List.replicate n 0).map u64V) := by
  have hu : Try.prog.underlying 3 = some (.int .i64) := by kernel_rfl
  unfold newsV
  simp only [Option.bind_some, hu, natOf_int]
  rw [if_pos (by omega)]
  have := zeros_list (.int .u64 0) n
  rw [show (Builtin.zeroCells (Value.int .u64 0).cells n).toList = List.replicate n (.int .u64 0) from this, List.map_replicate]
  rfl
theorem app_zeros {n0 : Nat} {h : Heap} (hn0 : n0 ≤ h.blks.length) {v : Value} {bs : List Nat} (ha : AU n0 h v bs) (m : Nat) (hl : bs.length + m < 2 ^ 40) :
    ∃ a c h', appendV Try.prog 89 (some 3) v (.int .i64 m) h = some (.slice a (bs ++ List.replicate m 0).length c, h') ∧ AU n0 h' (.slice a (bs ++ List.replicate m 0).length c) (bs ++ List.replicate m 0) ∧ Keeps n0 h h' := by
  obtain ⟨v', h', e1, e2, e3, e4, e5⟩ := append_acc etV (t1 := some 3) hn0 ha (news_zero m (by omega) h) (by simp) (by omega) (by omega) (nums_one _)
  obtain ⟨a, c, rfl⟩ := e2.shape
  have el : bs.length + m = (bs ++ List.replicate m 0).length := by simp
  rw [el] at e1 e2
  rw [← List.map_append] at e2
  exact ⟨a, c, h', e1, e2, e3⟩
theorem spec_New (n : Int) (h : Heap) : ∃ a c h', evC Try.prog 42 #[.int .i64 n] h = some (.slice a (List.replicate (min (max n 0) 64).toNat 0).length c, h') ∧ HExt h h' ∧ AU h.blks.length h' (.slice a (List.replicate (min (max n 0) 64).toNat 0).length c) (List.replicate (min (max n 0) 64).toNat 0) := by
  rw [call42, c42_0_eq]
  obtain ⟨m, hm⟩ : ∃ m : Nat, min (max n 0) 64 = (m : Int) := ⟨(min (max n 0) 64).toNat, by omega⟩
  have hmk : ∀ h, makeSliceV Try.prog 89 (.int .i64 m) (.int .i64 m) h = some (.slice (some ⟨h.blks.length, 0, none⟩) m m, h.new (.cells ((List.replicate m 0).map u64V)) 35) := fun h => by
    unfold makeSliceV
    simp only [etV.under, natOf_int, etV.size, etV.bytes, etV.zero]
    rw [if_pos ⟨Nat.le_refl _, by omega, by omega, by omega, etV.zs, etV.zg⟩]
    have := zeros_list (.int .u64 0) m
    rw [show ((Array.range (m * 1)).map fun x => (Value.int .u64 0).cells[x % (Value.int .u64 0).cells.size]!).toList = List.replicate m (.int .u64 0) from this, List.map_replicate]
    rfl
  simp -implicitDefEqProofs only [vmaxI, vminI, hm, hmk, ↓ret42, ↓cnd_true, ↓cnd_false, ↓Option.bind_some, ↓obH_some', bin_add, bin_sub, bin_mul, bin_lss, bin_leq, bin_gtr, bin_geq, bin_eql, bin_neq, un_not, un_neg, Option.bind_some, Option.bind_none, Option.map_some, cnd_true, cnd_false, pickV_true, pickV_false, gd_true, gd_false, gdV_true, gdV_false, gdH_true, gdH_false, gdS_true, gdS_false, wt_ff, wt_tt, wt_ft, wt_tf, wt_undef, obH_some', extractV_tuple, nilCheckV_ptr, againK_normal, againK_exit, againK_ret, blockK_normal, blockK_same, blockK_ret, seqK_normal, seqK_exit, seqK_ret, fin_done, if_true', if_false', Bool.not_true, Bool.not_false, idx0, idx1, idx2, idx3, idx4, chk_nil_l, chk_nil_r, done_nm]
  have hl := AU.lit (h := nm h) (n0 := h.blks.length) (by simp) (List.replicate m 0) (by simp; omega)
  have e : (m : Int).toNat = m := Int.toNat_natCast m
  rw [e]
  simp only [List.length_replicate] at hl ⊢
  exact ⟨_, _, _, rfl, done_ext' (In.new (by simp) _ _), hl.done⟩
def atI (ns : List Nat) (i : Int) : Nat := if i < 0 then 0 else ns.getD i.toNat 0
theorem atI_nat (ns : List Nat) (i : Nat) : atI ns (i : Int) = ns.getD i 0 := by unfold atI; rw [if_neg (by omega), Int.toNat_natCast]
theorem spec_At {h : Heap} {v : Value} {ns : List Nat} (s : SU h v ns) (i : Int) (hl : ns.length < 2 ^ 62) : evC Try.prog 134 #[v, .int .i64 i] h = some (.int .u64 (atI ns i : Nat), h) := by
  rw [call134, c134_0_eq]
  by_cases h0 : i < 0
  · simp -implicitDefEqProofs (disch := omega) only [dcT, dcF, ↓ret134, ↓cnd_true, ↓cnd_false, ↓Option.bind_some, ↓obH_some', bin_add, bin_sub, bin_mul, bin_lss, bin_leq, bin_gtr, bin_geq, bin_eql, bin_neq, un_not, un_neg, Option.bind_some, Option.bind_none, Option.map_some, cnd_true, cnd_false, pickV_true, pickV_false, gd_true, gd_false, gdV_true, gdV_false, gdH_true, gdH_false, gdS_true, gdS_false, wt_ff, wt_tt, wt_ft, wt_tf, wt_undef, obH_some', extractV_tuple, nilCheckV_ptr, againK_normal, againK_exit, againK_ret, blockK_normal, blockK_same, blockK_ret, seqK_normal, seqK_exit, seqK_ret, fin_done, if_true', if_false', Bool.not_true, Bool.not_false, idx0, idx1, idx2, idx3, idx4, chk_nil_l, chk_nil_r, done_nm]
    rw [show atI ns i = 0 by unfold atI; rw [if_pos h0]]; rfl
  · obtain ⟨m, rfl⟩ : ∃ m : Nat, i = m := ⟨i.toNat, by omega⟩
    rw [atI_nat]
    by_cases h1 : ns.length ≤ m
    · simp -implicitDefEqProofs (disch := omega) only [dcT, dcF, s.nm.row.len_eq etV.under, ↓ret134, ↓cnd_true, ↓cnd_false, ↓Option.bind_some, ↓obH_some', bin_add, bin_sub, bin_mul, bin_lss, bin_leq, bin_gtr, bin_geq, bin_eql, bin_neq, un_not, un_neg, Option.bind_some, Option.bind_none, Option.map_some, cnd_true, cnd_false, pickV_true, pickV_false, gd_true, gd_false, gdV_true, gdV_false, gdH_true, gdH_false, gdS_true, gdS_false, wt_ff, wt_tt, wt_ft, wt_tf, wt_undef, obH_some', extractV_tuple, nilCheckV_ptr, againK_normal, againK_exit, againK_ret, blockK_normal, blockK_same, blockK_ret, seqK_normal, seqK_exit, seqK_ret, fin_done, if_true', if_false', Bool.not_true, Bool.not_false, idx0, idx1, idx2, idx3, idx4, chk_nil_l, chk_nil_r, done_nm]
      rw [List.getD_eq_getElem?_getD, List.getElem?_eq_none h1]; rfl
    · obtain ⟨a, e1, e2⟩ := su_at s.nm etV.under (i := m) (by omega)
      simp -implicitDefEqProofs (disch := omega) only [dcT, dcF, s.nm.row.len_eq etV.under, e1, e2, ↓ret134, ↓cnd_true, ↓cnd_false, ↓Option.bind_some, ↓obH_some', bin_add, bin_sub, bin_mul, bin_lss, bin_leq, bin_gtr, bin_geq, bin_eql, bin_neq, un_not, un_neg, Option.bind_some, Option.bind_none, Option.map_some, cnd_true, cnd_false, pickV_true, pickV_false, gd_true, gd_false, gdV_true, gdV_false, gdH_true, gdH_false, gdS_true, gdS_false, wt_ff, wt_tt, wt_ft, wt_tf, wt_undef, obH_some', extractV_tuple, nilCheckV_ptr, againK_normal, againK_exit, againK_ret, blockK_normal, blockK_same, blockK_ret, seqK_normal, seqK_exit, seqK_ret, fin_done, if_true', if_false', Bool.not_true, Bool.not_false, idx0, idx1, idx2, idx3, idx4, chk_nil_l, chk_nil_r, done_nm]
def longV (ns : List Nat) (n : Nat) : List Nat := ns ++ List.replicate (n - ns.length) 0
def upV (ns : List Nat) (i : Int) : List Nat × Bool :=
  if i < 0 ∨ 64 ≤ i ∨ atI ns i = 2 ^ 64 - 1 then (ns, false) else ((longV ns (i.toNat + 1)).set i.toNat (atI ns i + 1), true)
theorem longV_get (ns : List Nat) (n i : Nat) : (longV ns n).getD i 0 = ns.getD i 0 := by
  unfold longV
  simp only [List.getD_eq_getElem?_getD, List.getElem?_append]
  split
  · rfl
  · rename_i h
    rw [List.getElem?_eq_none (by omega : ns.length ≤ i)]
    rw [List.getElem?_replicate]
    split <;> rfl
theorem longV_len (ns : List Nat) (n : Nat) : (longV ns n).length = max ns.length n := by unfold longV; simp; omega
theorem set_u64 (ns : List Nat) (i m : Nat) : (ns.map u64V).set i (.int .u64 (m : Nat)) = (ns.set i m).map u64V := by rw [List.map_set]; rfl
end Go.Am
namespace Go.Am
open Go.Proofs
set_option maxRecDepth 100000
attribute [local congr] obind_congr obH_congr cnd_congr chk_congr retK_congr codeK_congr
theorem etM : ElemT Try.prog 28 89 1 24 (.slice none 0 0) := ⟨by kernel_rfl, by kernel_rfl, by kernel_rfl, by kernel_rfl, by omega, rfl, rfl⟩
theorem faM0 (p : Nat) : fieldAddrV Try.prog 30 (.pointer (some ⟨p, 0, none⟩)) 0 = some (.pointer (some ⟨p, 0, none⟩)) := by kernel_rfl
theorem faM1 (p : Nat) : fieldAddrV Try.prog 30 (.pointer (some ⟨p, 0, none⟩)) 1 = some (.pointer (some ⟨p, 1, none⟩)) := by kernel_rfl
theorem bxM (a b : Value) (h : Heap) : boxV Try.prog 30 (.agg #[a, b]) h = some (.pointer (some ⟨h.blks.length, 0, none⟩), h.new (.cells [a, b]) 30) := by kernel_rfl
theorem alM (h : Heap) : allocV Try.prog 30 h = some (.pointer (some ⟨h.blks.length, 0, none⟩), h.new (.cells [.int .i64 0, .slice none 0 0]) 30) := by kernel_rfl
theorem bdM0 : buildV Try.prog 30 #[] = some (.agg #[.int .i64 0, .slice none 0 0]) := by kernel_rfl
theorem bdM1 (n : Int) : buildV Try.prog 30 #[(0, .int .i64 n)] = some (.agg #[.int .i64 n, .slice none 0 0]) := by kernel_rfl
theorem ldM (p : Nat) (h : Heap) : loadV Try.prog 30 (.pointer (some ⟨p, 0, none⟩)) h = (h.loadN p 0 2).map fun cs => .agg cs.toArray := by kernel_rfl
theorem stM (p : Nat) (k : IntKind) (n : Int) (ad : Option Addr) (l c : Nat) (h : Heap) : storeV Try.prog 30 (.pointer (some ⟨p, 0, none⟩)) (.agg #[.int k n, .slice ad l c]) h = h.storeN p 0 [.int k n, .slice ad l c] := by kernel_rfl
theorem ldRs (p o : Nat) (h : Heap) : loadV Try.prog 28 (.pointer (some ⟨p, o, none⟩)) h = h.load1 p o := by kernel_rfl
theorem stRs (p o : Nat) (a : Option Addr) (n c : Nat) (h : Heap) : storeV Try.prog 28 (.pointer (some ⟨p, o, none⟩)) (.slice a n c) h = h.storeN p o [.slice a n c] := by kernel_rfl
theorem mldInt (p o : Nat) (h : Heap) : loadV Try.prog 3 (.pointer (some ⟨p, o, none⟩)) h = h.load1 p o := by kernel_rfl
theorem mkR1 (a : Option Addr) (n c : Nat) (h : Heap) : buildSliceV Try.prog 28 1 #[(0, .slice a n c)] h = some (.slice (some ⟨h.blks.length, 0, none⟩) 1 1, h.new (.cells [.slice a n c]) 89) := by kernel_rfl
theorem HExt.amx {h h' : Heap} (e : HExt (nm h) h') : HExt h (am h' h) ∧ h'.mods = [] := ⟨⟨e.len, e.old, by rw [am_mods, e.mods]; rfl⟩, e.mods⟩
theorem two1 (a b : Value) : [a, b][0]? = some a := (id rfl)
theorem two2 (a b : Value) : [a, b][1]? = some b := (id rfl)
theorem w2_put (a b c d : Value) : List.take 0 [a, b] ++ [c, d] ++ List.drop (0 + [c, d].length) [a, b] = [c, d] := (id rfl)
theorem w2_put1 (a b d : Value) : List.take 1 [a, b] ++ [d] ++ List.drop (1 + [d].length) [a, b] = [a, d] := (id rfl)
abbrev matV (n : Int) (v : Value) : Value := .agg #[.int .i64 n, v]
def SMv (h : Heap) (v : Value) (vs : List Value) (m : List (List Nat)) : Prop := Sl Try.prog h 1 v m.length vs ∧ All2 (SU h) vs m
def SM (h : Heap) (v : Value) (m : List (List Nat)) : Prop := ∃ vs, SMv h v vs m
theorem SMv.kp {h h' : Heap} {v : Value} {vs : List Value} {m : List (List Nat)} (s : SMv h v vs m) (k : ∀ b, b < h.blks.length → h'.blks[b]? = h.blks[b]?) : SMv h' v vs m := ⟨s.1.keep fun b hb _ => k b hb, s.2.mono fun _ _ x => x.keep fun b hb _ => k b hb⟩
theorem SM.kp {h h' : Heap} {v : Value} {m : List (List Nat)} (s : SM h v m) (k : ∀ b, b < h.blks.length → h'.blks[b]? = h.blks[b]?) : SM h' v m := let ⟨vs, x⟩ := s; ⟨vs, x.kp k⟩
theorem SM.ext {h h' : Heap} {v : Value} {m : List (List Nat)} (s : SM h v m) (e : HExt h h') : SM h' v m := s.kp e.old
theorem SM.same {h h' : Heap} {v : Value} {m : List (List Nat)} (s : SM h v m) (e : Same h h') : SM h' v m := s.kp e.2
theorem SM.nm {h : Heap} {v : Value} {m : List (List Nat)} (s : SM h v m) : SM (Am.nm h) v m := s.kp fun _ _ => rfl
theorem SM.done {h0 h : Heap} {v : Value} {m : List (List Nat)} (s : SM h v m) : SM (Am.done h0 h) v m := s.kp fun _ _ => rfl
theorem SM.new {h : Heap} {v : Value} {m : List (List Nat)} (s : SM h v m) (body : Body) (t : TypeId) : SM (h.new body t) v m := s.kp fun _ hb => Heap.new_old hb
theorem SM.put {h0 h : Heap} {v : Value} {m : List (List Nat)} (s : SM h0 v m) (sm : Same h0 h) {p : Nat} (hp : h0.blks.length ≤ p) (body : Body) : SM (h.put p body) v m := s.same (sm.put hp body)
theorem SM.shape {h : Heap} {v : Value} {m : List (List Nat)} (s : SM h v m) : ∃ a c, v = .slice a m.length c := let ⟨_, x, _⟩ := s; x.shape
theorem SM.nil (h : Heap) : SM h (.slice none 0 0) [] := ⟨[], .nil, .nil⟩
theorem All2.length_eq {α β : Type} {R : α → β → Prop} {l : List α} {m : List β} (h : All2 R l m) : l.length = m.length := by
  induction h with
  | nil => rfl
  | cons _ _ ih => simp [ih]
theorem SMv.at {h : Heap} {v : Value} {vs : List Value} {m : List (List Nat)} (s : SMv h v vs m) {t e : TypeId} (ht : Try.prog.underlying t = some (.slice e)) (hs : sizeT Try.prog e = some 1) (ha : isAggT Try.prog e = some false) {i : Nat} (hi : i < m.length) :
    ∃ a x, vs[i]? = some x ∧ indexAddrV Try.prog t v (.int .i64 i) = some (.pointer (some a)) ∧ loadV Try.prog e (.pointer (some a)) h = some x ∧ SU h x (m.getD i []) := by
  obtain ⟨a, e1, e2, _⟩ := s.1.row.at1 ht hs ha hi .i64
  obtain ⟨x, h1, h2⟩ := s.2.get' (i := i) (b := m[i]) (List.getElem?_eq_getElem hi)
  rw [h1] at e2
  refine ⟨a, x, h1, e1, e2, ?_⟩
  rw [List.getD_eq_getElem?_getD, List.getElem?_eq_getElem hi]
  exact h2
theorem SM.at {h : Heap} {v : Value} {m : List (List Nat)} (s : SM h v m) {t e : TypeId} (ht : Try.prog.underlying t = some (.slice e)) (hs : sizeT Try.prog e = some 1) (ha : isAggT Try.prog e = some false) {i : Nat} (hi : i < m.length) :
    ∃ a x, indexAddrV Try.prog t v (.int .i64 i) = some (.pointer (some a)) ∧ loadV Try.prog e (.pointer (some a)) h = some x ∧ SU h x (m.getD i []) := by
  obtain ⟨vs, x⟩ := s
  obtain ⟨a, y, _, h1, h2, h3⟩ := x.at ht hs ha hi
  exact ⟨a, y, h1, h2, h3⟩
theorem SM.atV {h : Heap} {v : Value} {m : List (List Nat)} (s : SM h v m) {i : Nat} (hi : i < m.length) :
    ∃ a x, indexAddrV Try.prog 28 v (.int .i64 i) = some (.pointer (some a)) ∧ loadV Try.prog 89 (.pointer (some a)) h = some x ∧ SU h x (m.getD i []) := s.at etM.under etM.size (by kernel_rfl) hi
theorem SM.lenRV {h : Heap} {v : Value} {m : List (List Nat)} (s : SM h v m) : lenV Try.prog 28 v h = some (.int .i64 m.length) := let ⟨_, x, _⟩ := s; x.row.len_eq etM.under
structure AMv (eo : TypeId) (n0 : Nat) (h : Heap) (v : Value) (vs : List Value) (m : List (List Nat)) : Prop where
  out : Acc n0 h eo 1 v m.length vs
  rows : All2 (AU n0 h) vs m
  apart : vs.Pairwise fun x y => ∀ b, blockOf x = some b → blockOf y ≠ some b
def AM (eo : TypeId) (n0 : Nat) (h : Heap) (v : Value) (m : List (List Nat)) : Prop := ∃ vs, AMv eo n0 h v vs m
theorem Acc.blk {n0 : Nat} {h : Heap} {elem : TypeId} {es n : Nat} {v : Value} {cs : List Value} (a : Acc n0 h elem es v n cs) {b : Nat} (hb : blockOf v = some b) : ∃ all, h.blks[b]? = some ⟨.cells all, elem, true⟩ := by
  cases a with
  | nil => cases hb
  | full _ _ h1 _ _ => cases hb; exact ⟨_, h1⟩
  | unk _ h1 _ _ => cases hb; exact ⟨_, h1⟩
theorem AMv.kp {eo : TypeId} {n0 : Nat} {h h' : Heap} {v : Value} {vs : List Value} {m : List (List Nat)} (a : AMv eo n0 h v vs m) (k : ∀ b all ty, h.blks[b]? = some ⟨.cells all, ty, true⟩ → ty = eo ∨ ty = 35 → n0 ≤ b → h'.blks[b]? = h.blks[b]?) : AMv eo n0 h' v vs m :=
  ⟨a.out.keep fun b _ hv => by obtain ⟨all, h1⟩ := a.out.blk hv; exact k b all _ h1 (.inl rfl) (a.out.ge hv), a.rows.mono fun _ _ x => x.keep fun b _ hv => by obtain ⟨all, h1⟩ := x.blk hv; exact k b all _ h1 (.inr rfl) (x.ge hv), a.apart⟩
theorem AMv.smv {eo : TypeId} (hs : sizeT Try.prog eo = some 1) {n0 : Nat} {h : Heap} {v : Value} {vs : List Value} {m : List (List Nat)} (a : AMv eo n0 h v vs m) : SMv h v vs m := ⟨a.out.sl hs, a.rows.mono fun _ _ x => x.su⟩
theorem AM.smV {n0 : Nat} {h : Heap} {v : Value} {m : List (List Nat)} (a : AM 89 n0 h v m) : SM h v m := let ⟨vs, x⟩ := a; ⟨vs, x.smv etM.size⟩
theorem AM.kp {eo : TypeId} {n0 : Nat} {h h' : Heap} {v : Value} {m : List (List Nat)} (a : AM eo n0 h v m) (k : ∀ b all ty, h.blks[b]? = some ⟨.cells all, ty, true⟩ → ty = eo ∨ ty = 35 → n0 ≤ b → h'.blks[b]? = h.blks[b]?) : AM eo n0 h' v m := let ⟨vs, x⟩ := a; ⟨vs, x.kp k⟩
theorem AM.same {eo : TypeId} {n0 : Nat} {h h' : Heap} {v : Value} {m : List (List Nat)} (a : AM eo n0 h v m) (e : Same h h') : AM eo n0 h' v m := a.kp fun b _ _ hb _ _ => e.2 b (List.getElem?_eq_some_iff.1 hb).1
theorem AM.done {eo : TypeId} {n0 : Nat} {h0 h : Heap} {v : Value} {m : List (List Nat)} (a : AM eo n0 h v m) : AM eo n0 (Am.done h0 h) v m := a.kp fun _ _ _ _ _ _ => rfl
theorem AM.nm {eo : TypeId} {n0 : Nat} {h : Heap} {v : Value} {m : List (List Nat)} (a : AM eo n0 h v m) : AM eo n0 (Am.nm h) v m := a.kp fun _ _ _ _ _ _ => rfl
theorem AM.up {eo : TypeId} {n0 n1 : Nat} {h : Heap} {v : Value} {m : List (List Nat)} (a : AM eo n0 h v m) (hn : n1 ≤ n0) : AM eo n1 h v m := let ⟨vs, x⟩ := a; ⟨vs, x.out.up hn, x.rows.mono fun _ _ y => y.up hn, x.apart⟩
theorem AMv.put {eo : TypeId} {n0 : Nat} {h : Heap} {v : Value} {vs : List Value} {m : List (List Nat)} (a : AMv eo n0 h v vs m) {p : Nat} {ty : TypeId} {cs : List Value} (c : Cells h p ty cs) (h1 : ty ≠ eo) (h2 : ty ≠ 35) (body : Body) : AMv eo n0 (h.put p body) v vs m :=
  a.kp fun b all t hb ht _ => Heap.put_other (fun e => by
    subst e
    unfold Cells at c
    rw [hb] at c
    simp only [Option.some.injEq, Blk.mk.injEq] at c
    rcases ht with ht | ht
    · exact h1 (c.2.1.symm.trans ht)
    · exact h2 (c.2.1.symm.trans ht)) _
theorem AM.put {eo : TypeId} {n0 : Nat} {h : Heap} {v : Value} {m : List (List Nat)} (a : AM eo n0 h v m) {p : Nat} {ty : TypeId} {cs : List Value} (c : Cells h p ty cs) (h1 : ty ≠ eo) (h2 : ty ≠ 35) (body : Body) : AM eo n0 (h.put p body) v m := let ⟨vs, x⟩ := a; ⟨vs, x.put c h1 h2 body⟩
theorem AM.shape {eo : TypeId} {n0 : Nat} {h : Heap} {v : Value} {m : List (List Nat)} (a : AM eo n0 h v m) : ∃ a c, v = .slice a m.length c := let ⟨_, x⟩ := a; x.out.shape
theorem AM.nil (eo : TypeId) (n0 : Nat) (h : Heap) : AM eo n0 h (.slice none 0 0) [] := ⟨[], .nil, .nil, .nil⟩
theorem Acc.blk_ne {n0 n1 : Nat} {h : Heap} {e1 e2 : TypeId} {es es' n n' : Nat} {v w : Value} {cs ds : List Value} (a : Acc n0 h e1 es v n cs) (a' : Acc n1 h e2 es' w n' ds) (hne : e1 ≠ e2) {b : Nat} (hv : blockOf v = some b) : blockOf w ≠ some b := fun hw => by
  obtain ⟨_, x⟩ := a.blk hv
  obtain ⟨_, y⟩ := a'.blk hw
  rw [x] at y
  simp only [Option.some.injEq, Blk.mk.injEq] at y
  exact hne y.2.1
theorem AM.app {t eo : TypeId} (et : ElemT Try.prog t eo 1 24 (.slice none 0 0)) (hne : eo ≠ 35) {n0 : Nat} {h1 h : Heap} (hn : n0 ≤ h1.blks.length) {v : Value} {m : List (List Nat)} (am : AM eo n0 h1 v m) (sm : Same h1 h) {a : Option Addr} {c : Nat} {r : List Nat} (ax : AU h1.blks.length h (.slice a r.length c) r) (hl : m.length < 2 ^ 38) :
    ∃ a' c' h', appendV Try.prog t (some t) v (.slice (some ⟨h.blks.length, 0, none⟩) 1 1) (h.new (.cells [.slice a r.length c]) eo) = some (.slice a' (m ++ [r]).length c', h') ∧ AM eo n0 h' (.slice a' (m ++ [r]).length c') (m ++ [r]) ∧ Keeps n0 h h' ∧ (∀ p ty cs, Cells h p ty cs → ty ≠ eo → Cells h' p ty cs) := by
  obtain ⟨vs, A⟩ := am
  have A1 := A.kp (h' := h) fun b _ _ hb _ _ => sm.2 b (List.getElem?_eq_some_iff.1 hb).1
  have A2 := A1.kp (h' := h.new (.cells [.slice a r.length c]) eo) fun b _ _ hb _ _ => Heap.new_old (List.getElem?_eq_some_iff.1 hb).1
  have hh : n0 ≤ h.blks.length := Nat.le_trans hn sm.1
  have ax2 : AU h1.blks.length (h.new (.cells [.slice a r.length c]) eo) (.slice a r.length c) r := ax.keep fun b hb _ => Heap.new_old hb
  have hrow : Row (h.new (.cells [.slice a r.length c]) eo) 1 (.slice (some ⟨h.blks.length, 0, none⟩) 1 1) 1 [.slice a r.length c] := .mk (loadN_blk (blk_new_self _ _ _) rfl)
  obtain ⟨v', h', e1, e2, e3, e4, e5⟩ := append_acc et (t1 := some t) (n0 := n0) (by simp [Heap.new]; omega) A2.out (newsV_row et.under hrow) (by simp) (by omega) (by omega) (by simp [Value.oneCell'])
  obtain ⟨a', c', rfl⟩ := e2.shape
  have el : m.length + 1 = (m ++ [r]).length := by simp
  rw [el] at e1 e2
  have kr : ∀ b, b < (h.new (.cells [.slice a r.length c]) eo).blks.length → blockOf v ≠ some b → h'.blks[b]? = (h.new (.cells [.slice a r.length c]) eo).blks[b]? := e4
  refine ⟨a', c', h', e1, ⟨vs ++ [.slice a r.length c], e2, (A2.rows.mono fun x y s => ?_).append (.cons ?_ .nil), ?_⟩, (Keeps.new hh _ _).trans e3, fun p ty cs hp ht => ?_⟩
  · exact s.keep fun b hb hv => kr b hb fun e => (s.blk_ne A2.out (Ne.symm hne) hv) e
  · exact (ax2.keep fun b hb hv => kr b hb fun e => (ax2.blk_ne A2.out (Ne.symm hne) hv) e).up hn
  · rw [List.pairwise_append]
    refine ⟨A.apart, List.pairwise_singleton _ _, fun x hx y hy b hb hb' => ?_⟩
    rw [List.mem_singleton] at hy
    subst hy
    obtain ⟨i, hi, rfl⟩ := List.getElem_of_mem hx
    obtain ⟨r', _, hr'⟩ := A.rows.get (i := i) (a := vs[i]) (List.getElem?_eq_getElem hi)
    have l1 := hr'.su.lt hb
    have l2 := ax.ge hb'
    omega
  · have hp' : Cells (h.new (.cells [.slice a r.length c]) eo) p ty cs := hp.keepNew _ _
    refine (kr p hp'.lt fun e => ?_).trans hp'
    obtain ⟨all, x⟩ := A2.out.blk e
    unfold Cells at hp'
    rw [hp'] at x
    simp only [Option.some.injEq, Blk.mk.injEq] at x
    exact ht x.2.1
theorem set_len (ns : List Nat) (j k : Nat) : (ns.set j k).length = ns.length := List.length_set ..
theorem AMv.set1q {eo : TypeId} (hne : eo ≠ 35) {n0 : Nat} {h : Heap} {v : Value} {vs : List Value} {m : List (List Nat)} (A : AMv eo n0 h v vs m) {t : TypeId} (ht : Try.prog.underlying t = some (.slice 35)) {i j : Nat} (hi : i < m.length) (hj : j < (m.getD i []).length) {x : Value} (hx : vs[i]? = some x) (k : Nat) :
    ∃ b o h', indexAddrV Try.prog t x (.int .i64 j) = some (.pointer (some ⟨b, o, none⟩)) ∧ h.load1 b o = some (.int .u64 ((m.getD i []).getD j 0 : Nat)) ∧ h.storeN b o [.int .u64 k] = some h' ∧ AMv eo n0 h' v vs (m.set i ((m.getD i []).set j k)) ∧ Keeps n0 h h' ∧ h'.blks.length = h.blks.length ∧
      (∀ p ty cs, Cells h p ty cs → ty ≠ 35 → Cells h' p ty cs) ∧ (∀ q, blockOf x ≠ some q → h'.blks[q]? = h.blks[q]?) := by
  obtain ⟨y, hy, ay⟩ := A.rows.get' (i := i) (b := m[i]) (List.getElem?_eq_getElem hi)
  obtain rfl : x = y := Option.some.inj (hx.symm.trans hy)
  have em : m.getD i [] = m[i] := by rw [List.getD_eq_getElem?_getD, List.getElem?_eq_getElem hi]; rfl
  rw [em] at hj ⊢
  obtain ⟨b, o, h', e1, l1, st, a', k', hl, hb, hq⟩ := ay.set1 ht etU.size hj (.int .u64 (k : Nat)) .i64
  rw [map_get _ hj] at l1
  rw [set_u64] at a'
  obtain ⟨all, hall⟩ := ay.blk hb
  refine ⟨b, o, h', e1, l1, st, ⟨?_, ?_, A.apart⟩, k', hl, fun p ty cs hp hty => (hq p fun e => ?_).trans hp, fun q hne => hq q fun e => hne (by rw [hb, e])⟩
  · rw [List.length_set]
    exact A.out.keep fun c _ hc => hq c fun e => by
      subst e
      exact ay.blk_ne A.out (Ne.symm hne) hb hc
  · have key : ∀ (l : List Value) (l2 : List (List Nat)), All2 (AU n0 h) l l2 → l.Pairwise (fun x y => ∀ b, blockOf x = some b → blockOf y ≠ some b) → ∀ (i : Nat) (r : List Nat), l[i]? = some x → AU n0 h' x r → All2 (AU n0 h') l (l2.set i r) := by
      intro l l2 hR
      induction hR with
      | nil => intro _ i r hi; simp at hi
      | cons p q ih =>
        rename_i aa bb la lb
        intro hp i r hi hr
        rw [List.pairwise_cons] at hp
        cases i with
        | zero =>
          simp only [List.getElem?_cons_zero, Option.some.injEq] at hi
          subst hi
          refine .cons hr ?_
          have : ∀ (l : List Value) (l2 : List (List Nat)), All2 (AU n0 h) l l2 → (∀ z ∈ l, blockOf z ≠ some b) → All2 (AU n0 h') l l2 := by
            intro l l2 hR
            induction hR with
            | nil => intro _; exact .nil
            | cons p q ih => intro hz; exact .cons (p.keep fun c _ hc => hq c fun e => hz _ List.mem_cons_self (by rw [hc, e])) (ih fun z hz' => hz z (by simp [hz']))
          exact this _ _ q fun z hz => hp.1 z hz b hb
        | succ i =>
          simp only [List.getElem?_cons_succ] at hi
          refine .cons (p.keep fun c _ hc => hq c fun e => ?_) (ih hp.2 i r hi hr)
          exact hp.1 x (List.mem_of_getElem? hi) c hc (by rw [e]; exact hb)
    refine key vs m A.rows A.apart i _ hx ?_
    unfold AU
    rw [List.length_set]
    exact a'
  · subst e
    unfold Cells at hp
    rw [hp] at hall
    simp only [Option.some.injEq, Blk.mk.injEq] at hall
    exact hty hall.2.1
theorem AMv.set1 {eo : TypeId} (hne : eo ≠ 35) {n0 : Nat} {h : Heap} {v : Value} {vs : List Value} {m : List (List Nat)} (A : AMv eo n0 h v vs m) {t : TypeId} (ht : Try.prog.underlying t = some (.slice 35)) {i j : Nat} (hi : i < m.length) (hj : j < (m.getD i []).length) {x : Value} (hx : vs[i]? = some x) (k : Nat) :
    ∃ b o h', indexAddrV Try.prog t x (.int .i64 j) = some (.pointer (some ⟨b, o, none⟩)) ∧ h.load1 b o = some (.int .u64 ((m.getD i []).getD j 0 : Nat)) ∧ h.storeN b o [.int .u64 k] = some h' ∧ AMv eo n0 h' v vs (m.set i ((m.getD i []).set j k)) ∧ Keeps n0 h h' ∧ h'.blks.length = h.blks.length ∧
      (∀ p ty cs, Cells h p ty cs → ty ≠ 35 → Cells h' p ty cs) := by
  obtain ⟨b, o, h', a1, a2, a3, a4, a5, a6, a7, _⟩ := A.set1q hne ht hi hj hx k
  exact ⟨b, o, h', a1, a2, a3, a4, a5, a6, a7⟩
def zerosM (n : Nat) : List (List Nat) := List.replicate n (List.replicate n 0)
theorem mnew_loop {h0 : Heap} {p q n : Nat} (hn : n ≤ 16) (hq : h0.blks.length ≤ q) (hpq : p ≠ q) (hp : h0.blks.length ≤ p) : ∀ (mm i : Nat) (h : Heap) (v : Value), n = i + mm → Cells h q 30 [.int .i64 0, .slice none 0 0] → Cells h p 30 [.int .i64 n, v] → AM 89 h0.blks.length h v (List.replicate i (List.replicate n 0)) → In h0.blks.length No (nm h0) h →
    ∀ (Ab Ad Af Ag Ah Ai Aj Ak Al An Ao Ar As Au Av Aw Ax Ay Az Ba Bb : Value),
    ∃ v' h', loopK Try.prog (evC Try.prog) c12_1 ⟨#[.int .i64 n,Ab, .pointer (some ⟨q, 0, none⟩),Ad, .pointer (some ⟨p, 0, none⟩),Af,Ag,Ah,Ai,Aj,Ak,Al,An,Ao, .int .i64 n, .int .i64 i,Ar,As,Au,Av,Aw,Ax,Ay,Az,Ba,Bb], h⟩ (blockK 0 (seqK Try.prog (evC Try.prog) c12_2 (retK Try.f12 Try.prog h0))) =
      some (.tuple #[matV n v', .int .i64 0], h') ∧ HExt h0 h' ∧ AM 89 h0.blks.length h' v' (zerosM n) := by
  intro mm
  induction mm with
  | zero =>
    intro i h v hi cq cp hA hin Ab Ad Af Ag Ah Ai Aj Ak Al An Ao Ar As Au Av Aw Ax Ay Az Ba Bb
    rw [loopK_eq evC_m, c12_1_eq]
    obtain rfl : n = i := by omega
    obtain ⟨a, c, rfl⟩ := hA.shape
    have cq2 := cq.put [.int .i64 n, .slice a (List.replicate n (List.replicate n 0)).length c]
    simp -implicitDefEqProofs (disch := omega) only [dcT, dcF, ↓c12_2_eq, ldM, cp.loadN (n := 2) rfl, stM, storeN_blk cq (o := 0) (vs := [.int .i64 n, .slice a (List.replicate n (List.replicate n 0)).length c]) (by simp), w2_put, ↓ret12, ↓cnd_true, ↓cnd_false, ↓Option.bind_some, ↓obH_some', bin_add, bin_sub, bin_mul, bin_lss, bin_leq, bin_gtr, bin_geq, bin_eql, bin_neq, un_not, un_neg, Option.bind_some, Option.bind_none, Option.map_some, cnd_true, cnd_false, pickV_true, pickV_false, gd_true, gd_false, gdV_true, gdV_false, gdH_true, gdH_false, gdS_true, gdS_false, wt_ff, wt_tt, wt_ft, wt_tf, wt_undef, obH_some', extractV_tuple, nilCheckV_ptr, againK_normal, againK_exit, againK_ret, blockK_normal, blockK_same, blockK_ret, seqK_normal, seqK_exit, seqK_ret, fin_done, if_true', if_false', Bool.not_true, Bool.not_false, idx0, idx1, idx2, idx3, idx4, chk_nil_l, chk_nil_r, done_nm]
    simp -implicitDefEqProofs only [ldM, cq2.loadN (n := 2) rfl, Option.map_some, Option.bind_some, rvals_two, fin_done]
    exact ⟨_, _, rfl, done_ext' (hin.trans (In.put hin.len (.inl hq) _)), (hA.put cq (by decide) (by decide) _).done⟩
  | succ mm ih =>
    intro i h v hi cq cp hA hin Ab Ad Af Ag Ah Ai Aj Ak Al An Ao Ar As Au Av Aw Ax Ay Az Ba Bb
    rw [loopK_eq evC_m, c12_1_eq]
    obtain ⟨a, c, h1, e1,Ab, s1⟩ := spec_New (n : Int) (nm h)
    have en : (min (max (n : Int) 0) 64).toNat = n := by omega
    rw [en] at e1 s1
    obtain ⟨Ab', m1⟩ := Ab.amx
    have s1' : AU h.blks.length (am h1 h) (.slice a (List.replicate n 0).length c) (List.replicate n 0) := s1.keep fun _ _ _ => rfl
    have hlen : h0.blks.length ≤ h.blks.length := hin.len
    obtain ⟨a2, c2, h2, e2, s2, k2, o2⟩ := hA.app etM (by decide) hlen Ab'.same s1' (by simp; omega)
    have cp2 := o2 _ _ _ (cp.ext Ab') (by decide)
    have cq2 := o2 _ _ _ (cq.ext Ab') (by decide)
    have er : List.replicate i (List.replicate n 0) ++ [List.replicate n 0] = List.replicate (i + 1) (List.replicate n 0) := List.replicate_succ'.symm
    have hw : IntKind.wrap .i64 ((i : Int) + 1) = ((i + 1 : Nat) : Int) := by rw [wrap_i64] <;> omega
    rw [er] at e2 s2
    have cp3 := cp2.put [.int .i64 n, .slice a2 (List.replicate (i + 1) (List.replicate n 0)).length c2]
    simp -implicitDefEqProofs (disch := omega) only [dcT, dcF, faM1, ldRs, cp.load, two2, e1, mkR1, e2, stRs, storeN_blk cp2 (o := 1) (vs := [.slice a2 (List.replicate (i + 1) (List.replicate n 0)).length c2]) (by simp), w2_put1, m1, List.append_nil, hw, ↓cnd_true, ↓cnd_false, ↓Option.bind_some, ↓obH_some', bin_add, bin_sub, bin_mul, bin_lss, bin_leq, bin_gtr, bin_geq, bin_eql, bin_neq, un_not, un_neg, Option.bind_some, Option.bind_none, Option.map_some, cnd_true, cnd_false, pickV_true, pickV_false, gd_true, gd_false, gdV_true, gdV_false, gdH_true, gdH_false, gdS_true, gdS_false, wt_ff, wt_tt, wt_ft, wt_tf, wt_undef, obH_some', extractV_tuple, nilCheckV_ptr, againK_normal, againK_exit, againK_ret, blockK_normal, blockK_same, blockK_ret, seqK_normal, seqK_exit, seqK_ret, fin_done, if_true', if_false', Bool.not_true, Bool.not_false, idx0, idx1, idx2, idx3, idx4, chk_nil_l, chk_nil_r, done_nm]
    exact ih (i + 1) _ _ (by omega) (cq2.keepPut hpq _) cp3 (s2.put cp2 (by decide) (by decide) _) (((hin.trans (Ab'.inn hlen)).trans k2.inn).trans (In.put (by have := Ab'.len; have := k2.len; omega) (.inl hp) _)) _ _ _ _ _ _ _ _ _ _ _ _ _ _ _ _ _ _ _ _ _
theorem spec_MNew (n : Int) (h : Heap) : ∃ v h', evC Try.prog 12 #[.int .i64 n] h = some (.tuple #[matV (if 1 ≤ n ∧ n ≤ 16 then n else 0) v, .int .i64 (if 1 ≤ n ∧ n ≤ 16 then 0 else 1)], h') ∧ HExt h h' ∧ AM 89 h.blks.length h' v (if 1 ≤ n ∧ n ≤ 16 then zerosM n.toNat else []) := by
  rw [call12, c12_0_eq]
  have c1 := Cells.new (nm h) 30 [.int .i64 0, .slice none 0 0]
  by_cases hc : 1 ≤ n ∧ n ≤ 16
  · obtain ⟨n, rfl⟩ : ∃ m : Nat, n = m := ⟨n.toNat, by omega⟩
    simp only [if_pos hc, Int.toNat_natCast]
    have i1 : In h.blks.length No (nm h) _ := In.new (by simp) (.cells [.int .i64 0, .slice none 0 0]) 30
    have l1 : ((nm h).new (.cells [.int .i64 0, .slice none 0 0]) 30).blks.length = h.blks.length + 1 := by simp [Heap.new]
    have al1 := alM (nm h)
    have bl : (nm h).blks.length = h.blks.length := rfl
    rw [bl] at al1 c1
    generalize (nm h).new (.cells [.int .i64 0, .slice none 0 0]) 30 = h1 at *
    have c2 := Cells.new h1 30 [.int .i64 0, .slice none 0 0]
    have c1' := c1.keepNew (.cells [.int .i64 0, .slice none 0 0]) 30
    have c3 := c2.put [.int .i64 n, .slice none 0 0]
    have i2 : In h.blks.length No h1 _ := In.new (by omega) (.cells [.int .i64 0, .slice none 0 0]) 30
    have i3 : In h.blks.length No _ _ := In.put (h := h1.new (.cells [.int .i64 0, .slice none 0 0]) 30) (p := h1.blks.length) (S := No) (Nat.le_trans (by omega) i2.len) (.inl (by omega)) (.cells [.int .i64 n, .slice none 0 0])
    simp -implicitDefEqProofs (disch := omega) only [dcT, dcF, al1, alM, bdM1, stM, storeN_blk c2 (o := 0) (vs := [.int .i64 n, .slice none 0 0]) (by simp), w2_put, ↓cnd_true, ↓cnd_false, ↓Option.bind_some, ↓obH_some', bin_add, bin_sub, bin_mul, bin_lss, bin_leq, bin_gtr, bin_geq, bin_eql, bin_neq, un_not, un_neg, Option.bind_some, Option.bind_none, Option.map_some, cnd_true, cnd_false, pickV_true, pickV_false, gd_true, gd_false, gdV_true, gdV_false, gdH_true, gdH_false, gdS_true, gdS_false, wt_ff, wt_tt, wt_ft, wt_tf, wt_undef, obH_some', extractV_tuple, nilCheckV_ptr, againK_normal, againK_exit, againK_ret, blockK_normal, blockK_same, blockK_ret, seqK_normal, seqK_exit, seqK_ret, fin_done, if_true', if_false', Bool.not_true, Bool.not_false, idx0, idx1, idx2, idx3, idx4, chk_nil_l, chk_nil_r, done_nm]
    exact mnew_loop (h0 := h) (n := n) (by omega) (by omega) (by omega) (by omega) n 0 _ _ (by omega) (c1'.keepPut (by omega) _) c3 (AM.nil _ _ _) ((i1.trans i2).trans i3) _ _ _ _ _ _ _ _ _ _ _ _ _ _ _ _ _ _ _ _ _
  · simp only [if_neg hc]
    have c2 := c1.put [.int .i64 0, .slice none 0 0]
    rcases (by omega : n < 1 ∨ 16 < n) with h1 | h1 <;>
    · simp -implicitDefEqProofs (disch := omega) only [dcT, dcF, alM, bdM0, stM, storeN_blk c1 (o := 0) (vs := [.int .i64 0, .slice none 0 0]) (by simp), w2_put, ↓ret12, ↓cnd_true, ↓cnd_false, ↓Option.bind_some, ↓obH_some', bin_add, bin_sub, bin_mul, bin_lss, bin_leq, bin_gtr, bin_geq, bin_eql, bin_neq, un_not, un_neg, Option.bind_some, Option.bind_none, Option.map_some, cnd_true, cnd_false, pickV_true, pickV_false, gd_true, gd_false, gdV_true, gdV_false, gdH_true, gdH_false, gdS_true, gdS_false, wt_ff, wt_tt, wt_ft, wt_tf, wt_undef, obH_some', extractV_tuple, nilCheckV_ptr, againK_normal, againK_exit, againK_ret, blockK_normal, blockK_same, blockK_ret, seqK_normal, seqK_exit, seqK_ret, fin_done, if_true', if_false', Bool.not_true, Bool.not_false, idx0, idx1, idx2, idx3, idx4, chk_nil_l, chk_nil_r, done_nm]
      simp -implicitDefEqProofs only [ldM, c2.loadN (n := 2) rfl, Option.map_some, Option.bind_some, rvals_two, fin_done]
      exact ⟨_, _, rfl, done_ext' ((In.new (h := nm h) (n0 := h.blks.length) (Nat.le_refl _) _ _).trans (In.put (by simp [Heap.new]) (.inl (Nat.le_refl _)) _)), AM.nil _ _ _⟩
def goodM (n : Int) (m : List (List Nat)) : Bool := decide (1 ≤ n ∧ n ≤ 16 ∧ (m.length : Int) = n) && m.all fun r => decide ((r.length : Int) = n)
theorem goodM_iff (n : Int) (m : List (List Nat)) : goodM n m = true ↔ (1 ≤ n ∧ n ≤ 16 ∧ (m.length : Int) = n) ∧ ∀ r ∈ m, (r.length : Int) = n := by
  simp [goodM]
abbrev cloV (p : Nat) : Value := .func (.func 67) #[] #[.pointer (some ⟨p, 0, none⟩)]
theorem clo116 (p : Nat) (x : Value) (h : Heap) : callV Try.prog (evC Try.prog) (cloV p) #[x] h = evC Try.prog 67 #[x, .pointer (some ⟨p, 0, none⟩)] h := by kernel_rfl
theorem call116' (x y : Value) (h : Heap) : evC Try.prog 67 #[x, y] h = codeK Try.prog (evC Try.prog) loopL c67_0 ⟨#[x, y, undef, undef, undef, undef, undef, undef, undef], nm h⟩ (retK Try.f67 Try.prog h) :=
  (evC_call 67 Try.f67 c67_0 Try.func67 (by kernel_rfl) #[x, y] h).trans (by kernel_rfl)
theorem spec_clo {h : Heap} {p : Nat} {n : Int} {v x : Value} {r : List Nat} (c : Cells h p 30 [.int .i64 n, v]) (s : SU h x r) : evC Try.prog 67 #[x, .pointer (some ⟨p, 0, none⟩)] h = some (.bool (!decide ((r.length : Int) = n)), h) := by
  rw [call116', c67_0_eq]
  have e : decide ((r.length : Int) ≠ n) = !decide ((r.length : Int) = n) := by by_cases g : (r.length : Int) = n <;> simp [g]
  simp -implicitDefEqProofs only [s.nm.row.len_eq etV.under, faM0, mldInt, c.nm.load, two1, e, ↓ret67, ↓cnd_true, ↓cnd_false, ↓Option.bind_some, ↓obH_some', bin_add, bin_sub, bin_mul, bin_lss, bin_leq, bin_gtr, bin_geq, bin_eql, bin_neq, un_not, un_neg, Option.bind_some, Option.bind_none, Option.map_some, cnd_true, cnd_false, pickV_true, pickV_false, gd_true, gd_false, gdV_true, gdV_false, gdH_true, gdH_false, gdS_true, gdS_false, wt_ff, wt_tt, wt_ft, wt_tf, wt_undef, obH_some', extractV_tuple, nilCheckV_ptr, againK_normal, againK_exit, againK_ret, blockK_normal, blockK_same, blockK_ret, seqK_normal, seqK_exit, seqK_ret, fin_done, if_true', if_false', Bool.not_true, Bool.not_false, idx0, idx1, idx2, idx3, idx4, chk_nil_l, chk_nil_r, done_nm]
def idxL (n : Int) : Int → List (List Nat) → Int
  | _, [] => -1
  | i, r :: l => if (r.length : Int) = n then idxL n (i + 1) l else i
theorem idxL_ge (n : Int) : ∀ (l : List (List Nat)) (i : Int), 0 ≤ i → (decide (idxL n i l ≥ 0) = !l.all fun r => decide ((r.length : Int) = n))
  | [], i, h => by simp [idxL]
  | r :: l, i, h => by
    unfold idxL
    by_cases g : (r.length : Int) = n
    · rw [if_pos g, idxL_ge n l (i + 1) (by omega)]; simp [g]
    · rw [if_neg g]; simp [g]; omega
theorem ifunc_loop {h0 h : Heap} {p : Nat} {n : Int} {v w : Value} {m : List (List Nat)} (c : Cells h p 30 [.int .i64 n, w]) (s : SM h v m) (hm : m.length < 2 ^ 40) : ∀ (mm i : Nat), m.length = i + mm → ∀ (Ac Ad Ae Af Ag Aj Ak Al An Ao Ap Aq Ar As Au : Value),
    loopK Try.prog (evC Try.prog) c84_1 ⟨#[v, cloV p,Ac,Ad,Ae,Af,Ag, .int .i64 m.length, .int .i64 i,Aj,Ak,Al,An,Ao,Ap,Aq,Ar,As,Au], h⟩ (blockK 0 (seqK Try.prog (evC Try.prog) c84_2 (retK Try.f84 Try.prog h0))) = some (.int .i64 (idxL n i (m.drop i)), done h0 h) := by
  intro mm
  induction mm with
  | zero =>
    intro i hi Ac Ad Ae Af Ag Aj Ak Al An Ao Ap Aq Ar As Au
    rw [loopK_eq evC_m, c84_1_eq, List.drop_of_length_le (by omega)]
    simp -implicitDefEqProofs (disch := omega) only [dcT, dcF, ↓c84_2_eq, ↓ret84, idxL, ↓cnd_true, ↓cnd_false, ↓Option.bind_some, ↓obH_some', bin_add, bin_sub, bin_mul, bin_lss, bin_leq, bin_gtr, bin_geq, bin_eql, bin_neq, un_not, un_neg, Option.bind_some, Option.bind_none, Option.map_some, cnd_true, cnd_false, pickV_true, pickV_false, gd_true, gd_false, gdV_true, gdV_false, gdH_true, gdH_false, gdS_true, gdS_false, wt_ff, wt_tt, wt_ft, wt_tf, wt_undef, obH_some', extractV_tuple, nilCheckV_ptr, againK_normal, againK_exit, againK_ret, blockK_normal, blockK_same, blockK_ret, seqK_normal, seqK_exit, seqK_ret, fin_done, if_true', if_false', Bool.not_true, Bool.not_false, idx0, idx1, idx2, idx3, idx4, chk_nil_l, chk_nil_r, done_nm]
  | succ mm ih =>
    intro i hi Ac Ad Ae Af Ag Aj Ak Al An Ao Ap Aq Ar As Au
    rw [loopK_eq evC_m, c84_1_eq]
    obtain ⟨a, x, e1, e2, s2⟩ := s.atV (i := i) (by omega)
    have hd : m.drop i = m.getD i [] :: m.drop (i + 1) := by
      rw [List.drop_eq_getElem_cons (by omega), List.getD_eq_getElem?_getD, List.getElem?_eq_getElem (by omega)]; rfl
    rw [hd]
    have hcl := spec_clo c s2
    have hw : IntKind.wrap .i64 ((i : Int) + 1) = ((i + 1 : Nat) : Int) := by rw [wrap_i64] <;> omega
    unfold idxL
    by_cases g : ((m.getD i []).length : Int) = n
    · rw [decide_eq_true g] at hcl
      rw [if_pos g]
      simp -implicitDefEqProofs (disch := omega) only [dcT, dcF, e1, e2, clo116, hcl, hw, ↓cnd_true, ↓cnd_false, ↓Option.bind_some, ↓obH_some', bin_add, bin_sub, bin_mul, bin_lss, bin_leq, bin_gtr, bin_geq, bin_eql, bin_neq, un_not, un_neg, Option.bind_some, Option.bind_none, Option.map_some, cnd_true, cnd_false, pickV_true, pickV_false, gd_true, gd_false, gdV_true, gdV_false, gdH_true, gdH_false, gdS_true, gdS_false, wt_ff, wt_tt, wt_ft, wt_tf, wt_undef, obH_some', extractV_tuple, nilCheckV_ptr, againK_normal, againK_exit, againK_ret, blockK_normal, blockK_same, blockK_ret, seqK_normal, seqK_exit, seqK_ret, fin_done, if_true', if_false', Bool.not_true, Bool.not_false, idx0, idx1, idx2, idx3, idx4, chk_nil_l, chk_nil_r, done_nm]
      exact ih (i + 1) (by omega) _ _ _ _ _ _ _ _ _ _ _ _ _ _ _
    · rw [decide_eq_false g] at hcl
      rw [if_neg g]
      simp -implicitDefEqProofs (disch := omega) only [dcT, dcF, e1, e2, clo116, hcl, ↓ret84, ↓cnd_true, ↓cnd_false, ↓Option.bind_some, ↓obH_some', bin_add, bin_sub, bin_mul, bin_lss, bin_leq, bin_gtr, bin_geq, bin_eql, bin_neq, un_not, un_neg, Option.bind_some, Option.bind_none, Option.map_some, cnd_true, cnd_false, pickV_true, pickV_false, gd_true, gd_false, gdV_true, gdV_false, gdH_true, gdH_false, gdS_true, gdS_false, wt_ff, wt_tt, wt_ft, wt_tf, wt_undef, obH_some', extractV_tuple, nilCheckV_ptr, againK_normal, againK_exit, againK_ret, blockK_normal, blockK_same, blockK_ret, seqK_normal, seqK_exit, seqK_ret, fin_done, if_true', if_false', Bool.not_true, Bool.not_false, idx0, idx1, idx2, idx3, idx4, chk_nil_l, chk_nil_r, done_nm]
theorem spec_contains {h : Heap} {p : Nat} {n : Int} {v w : Value} {m : List (List Nat)} (c : Cells h p 30 [.int .i64 n, w]) (s : SM h v m) (hm : m.length < 2 ^ 40) :
    evC Try.prog 66 #[v, cloV p] h = some (.bool (!m.all fun r => decide ((r.length : Int) = n)), h) := by
  rw [call66, c66_0_eq]
  have e1 : evC Try.prog 84 #[v, cloV p] (nm h) = some (.int .i64 (idxL n 0 m), nm h) := by
    rw [call84, c84_0_eq]
    simp -implicitDefEqProofs only [s.nm.nm.lenRV, ↓cnd_true, ↓cnd_false, ↓Option.bind_some, ↓obH_some', bin_add, bin_sub, bin_mul, bin_lss, bin_leq, bin_gtr, bin_geq, bin_eql, bin_neq, un_not, un_neg, Option.bind_some, Option.bind_none, Option.map_some, cnd_true, cnd_false, pickV_true, pickV_false, gd_true, gd_false, gdV_true, gdV_false, gdH_true, gdH_false, gdS_true, gdS_false, wt_ff, wt_tt, wt_ft, wt_tf, wt_undef, obH_some', extractV_tuple, nilCheckV_ptr, againK_normal, againK_exit, againK_ret, blockK_normal, blockK_same, blockK_ret, seqK_normal, seqK_exit, seqK_ret, fin_done, if_true', if_false', Bool.not_true, Bool.not_false, idx0, idx1, idx2, idx3, idx4, chk_nil_l, chk_nil_r, done_nm]
    exact ifunc_loop (h0 := nm h) (h := nm (nm h)) c.nm.nm s.nm.nm hm m.length 0 (by omega) _ _ _ _ _ _ _ _ _ _ _ _ _ _ _
  simp -implicitDefEqProofs only [e1, idxL_ge n m 0 (by omega), ↓ret66, ↓cnd_true, ↓cnd_false, ↓Option.bind_some, ↓obH_some', bin_add, bin_sub, bin_mul, bin_lss, bin_leq, bin_gtr, bin_geq, bin_eql, bin_neq, un_not, un_neg, Option.bind_some, Option.bind_none, Option.map_some, cnd_true, cnd_false, pickV_true, pickV_false, gd_true, gd_false, gdV_true, gdV_false, gdH_true, gdH_false, gdS_true, gdS_false, wt_ff, wt_tt, wt_ft, wt_tf, wt_undef, obH_some', extractV_tuple, nilCheckV_ptr, againK_normal, againK_exit, againK_ret, blockK_normal, blockK_same, blockK_ret, seqK_normal, seqK_exit, seqK_ret, fin_done, if_true', if_false', Bool.not_true, Bool.not_false, idx0, idx1, idx2, idx3, idx4, chk_nil_l, chk_nil_r, done_nm]
theorem spec_Good {h : Heap} {n : Int} {v : Value} {m : List (List Nat)} (s : SM h v m) (hm : m.length < 2 ^ 40) : ∃ h', evC Try.prog 43 #[matV n v] h = some (.bool (goodM n m), h') ∧ HExt h h' := by
  rw [call43, c43_0_eq]
  have c1 := Cells.new (nm h) 30 [.int .i64 n, v]
  have s1 := s.nm.new (.cells [.int .i64 n, v]) 30
  have hx : HExt h (done h ((nm h).new (.cells [.int .i64 n, v]) 30)) := done_ext' (In.new (by simp) _ _)
  by_cases h1 : n < 1
  · have e : goodM n m = false := by unfold goodM; rw [decide_eq_false (by omega)]; rfl
    simp -implicitDefEqProofs (disch := omega) only [dcT, dcF, matV, bxM, faM0, mldInt, c1.load, two1, e, ↓ret43, ↓cnd_true, ↓cnd_false, ↓Option.bind_some, ↓obH_some', bin_add, bin_sub, bin_mul, bin_lss, bin_leq, bin_gtr, bin_geq, bin_eql, bin_neq, un_not, un_neg, Option.bind_some, Option.bind_none, Option.map_some, cnd_true, cnd_false, pickV_true, pickV_false, gd_true, gd_false, gdV_true, gdV_false, gdH_true, gdH_false, gdS_true, gdS_false, wt_ff, wt_tt, wt_ft, wt_tf, wt_undef, obH_some', extractV_tuple, nilCheckV_ptr, againK_normal, againK_exit, againK_ret, blockK_normal, blockK_same, blockK_ret, seqK_normal, seqK_exit, seqK_ret, fin_done, if_true', if_false', Bool.not_true, Bool.not_false, idx0, idx1, idx2, idx3, idx4, chk_nil_l, chk_nil_r, done_nm]
    exact ⟨_, rfl, hx⟩
  by_cases h2 : 16 < n
  · have e : goodM n m = false := by unfold goodM; rw [decide_eq_false (by omega)]; rfl
    simp -implicitDefEqProofs (disch := omega) only [dcT, dcF, matV, bxM, faM0, mldInt, c1.load, two1, e, ↓ret43, ↓cnd_true, ↓cnd_false, ↓Option.bind_some, ↓obH_some', bin_add, bin_sub, bin_mul, bin_lss, bin_leq, bin_gtr, bin_geq, bin_eql, bin_neq, un_not, un_neg, Option.bind_some, Option.bind_none, Option.map_some, cnd_true, cnd_false, pickV_true, pickV_false, gd_true, gd_false, gdV_true, gdV_false, gdH_true, gdH_false, gdS_true, gdS_false, wt_ff, wt_tt, wt_ft, wt_tf, wt_undef, obH_some', extractV_tuple, nilCheckV_ptr, againK_normal, againK_exit, againK_ret, blockK_normal, blockK_same, blockK_ret, seqK_normal, seqK_exit, seqK_ret, fin_done, if_true', if_false', Bool.not_true, Bool.not_false, idx0, idx1, idx2, idx3, idx4, chk_nil_l, chk_nil_r, done_nm]
    exact ⟨_, rfl, hx⟩
  by_cases h3 : (m.length : Int) = n
  · have e : goodM n m = m.all fun r => decide ((r.length : Int) = n) := by unfold goodM; rw [decide_eq_true (by omega)]; rfl
    have ec := spec_contains c1 s1 hm
    simp -implicitDefEqProofs (disch := omega) only [dcT, dcF, matV, bxM, faM0, faM1, mldInt, ldRs, c1.load, two1, two2, s1.lenRV, ec, e, Bool.not_not, ↓ret43, ↓cnd_true, ↓cnd_false, ↓Option.bind_some, ↓obH_some', bin_add, bin_sub, bin_mul, bin_lss, bin_leq, bin_gtr, bin_geq, bin_eql, bin_neq, un_not, un_neg, Option.bind_some, Option.bind_none, Option.map_some, cnd_true, cnd_false, pickV_true, pickV_false, gd_true, gd_false, gdV_true, gdV_false, gdH_true, gdH_false, gdS_true, gdS_false, wt_ff, wt_tt, wt_ft, wt_tf, wt_undef, obH_some', extractV_tuple, nilCheckV_ptr, againK_normal, againK_exit, againK_ret, blockK_normal, blockK_same, blockK_ret, seqK_normal, seqK_exit, seqK_ret, fin_done, if_true', if_false', Bool.not_true, Bool.not_false, idx0, idx1, idx2, idx3, idx4, chk_nil_l, chk_nil_r, done_nm]
    exact ⟨_, rfl, hx⟩
  · have e : goodM n m = false := by unfold goodM; rw [decide_eq_false (by omega)]; rfl
    simp -implicitDefEqProofs (disch := omega) only [dcT, dcF, matV, bxM, faM0, faM1, mldInt, ldRs, c1.load, two1, two2, s1.lenRV, e, ↓ret43, ↓cnd_true, ↓cnd_false, ↓Option.bind_some, ↓obH_some', bin_add, bin_sub, bin_mul, bin_lss, bin_leq, bin_gtr, bin_geq, bin_eql, bin_neq, un_not, un_neg, Option.bind_some, Option.bind_none, Option.map_some, cnd_true, cnd_false, pickV_true, pickV_false, gd_true, gd_false, gdV_true, gdV_false, gdH_true, gdH_false, gdS_true, gdS_false, wt_ff, wt_tt, wt_ft, wt_tf, wt_undef, obH_some', extractV_tuple, nilCheckV_ptr, againK_normal, againK_exit, againK_ret, blockK_normal, blockK_same, blockK_ret, seqK_normal, seqK_exit, seqK_ret, fin_done, if_true', if_false', Bool.not_true, Bool.not_false, idx0, idx1, idx2, idx3, idx4, chk_nil_l, chk_nil_r, done_nm]
    exact ⟨_, rfl, hx⟩
def atM (m : List (List Nat)) (i j : Int) : Nat := if i < 0 then 0 else atI (m.getD i.toNat []) j
end Go.Am
namespace Go.Am
open Go.Proofs
set_option maxRecDepth 100000
attribute [local congr] obind_congr obH_congr cnd_congr chk_congr retK_congr codeK_congr
def lessV (a b : List Nat) (i m : Nat) : Bool := (List.range' i m).any fun j => decide (a.getD j 0 < b.getD j 0)
theorem lessV_zero (a b : List Nat) (i : Nat) : lessV a b i 0 = false := rfl
theorem lessV_succ (a b : List Nat) (i m : Nat) : lessV a b i (m + 1) = (decide (a.getD i 0 < b.getD i 0) || lessV a b (i + 1) m) := rfl
def cmpF (l m : Bool) : Int := if l then (if m then 2 else -1) else if m then 1 else 0
def cmpV (a b : List Nat) : Int := cmpF (lessV a b 0 (max a.length b.length)) (lessV b a 0 (max a.length b.length))
def leqV (a b : List Nat) (i m : Nat) : Bool := (List.range' i m).all fun j => decide (a.getD j 0 ≤ b.getD j 0)
theorem leqV_succ (a b : List Nat) (i m : Nat) : leqV a b i (m + 1) = (decide (a.getD i 0 ≤ b.getD i 0) && leqV a b (i + 1) m) := rfl
theorem leqV_not (a b : List Nat) (i m : Nat) : leqV a b i m = !lessV b a i m := by
  unfold leqV lessV
  rw [List.not_any_eq_all_not]
  congr 1
  funext j
  have : decide (b.getD j 0 < a.getD j 0) = !decide (a.getD j 0 ≤ b.getD j 0) := by
    by_cases h : a.getD j 0 ≤ b.getD j 0
    · rw [decide_eq_true h, decide_eq_false (by omega)]; rfl
    · rw [decide_eq_false h, decide_eq_true (by omega)]; rfl
  rw [this, Bool.not_not]
end Go.Am
namespace Go.Am
open Go.Proofs
set_option maxRecDepth 100000
attribute [local congr] obind_congr obH_congr cnd_congr chk_congr retK_congr codeK_congr
theorem getD_ext {a b : List Nat} (hl : a.length = b.length) (h : ∀ i, i < a.length → a.getD i 0 = b.getD i 0) : a = b := by
  refine List.ext_getElem hl fun i h1 h2 => ?_
  have := h i h1
  simpa [List.getD_eq_getElem?_getD, h1, h2] using this
def joinU (a b : List Nat) (i : Nat) : List Nat := (List.range (max a.length b.length)).map fun j => if j < i then max (a.getD j 0) (b.getD j 0) else a.getD j 0
def joinV (a b : List Nat) : List Nat := (List.range (max a.length b.length)).map fun j => max (a.getD j 0) (b.getD j 0)
theorem joinU_len (a b : List Nat) (i : Nat) : (joinU a b i).length = max a.length b.length := by simp [joinU]
theorem joinV_len (a b : List Nat) : (joinV a b).length = max a.length b.length := by simp [joinV]
theorem joinU_get (a b : List Nat) (i j : Nat) (hj : j < max a.length b.length) : (joinU a b i).getD j 0 = if j < i then max (a.getD j 0) (b.getD j 0) else a.getD j 0 := by
  simp only [joinU, List.getD_eq_getElem?_getD, List.getElem?_map, List.getElem?_range hj]; rfl
theorem joinV_get (a b : List Nat) (j : Nat) : (joinV a b).getD j 0 = max (a.getD j 0) (b.getD j 0) := by
  by_cases hj : j < max a.length b.length
  · simp only [joinV, List.getD_eq_getElem?_getD, List.getElem?_map, List.getElem?_range hj]; rfl
  · have e : ∀ l : List Nat, l.length ≤ j → l.getD j 0 = 0 := fun l h => by rw [List.getD_eq_getElem?_getD, List.getElem?_eq_none h]; rfl
    rw [e _ (by rw [joinV_len]; omega), e a (by omega), e b (by omega)]; rfl
theorem getD_set (l : List Nat) (i j x : Nat) (hi : i < l.length) : (l.set i x).getD j 0 = if j = i then x else l.getD j 0 := by
  simp only [List.getD_eq_getElem?_getD, List.getElem?_set]
  by_cases h : i = j
  · subst h; simp [hi]
  · rw [if_neg h, if_neg (fun e => h e.symm)]
theorem joinU_zero (a b : List Nat) : longV a b.length = joinU a b 0 := by
  refine getD_ext (by rw [longV_len, joinU_len]) fun i hi => ?_
  rw [longV_len] at hi
  rw [longV_get, joinU_get a b 0 i hi, if_neg (by omega)]
theorem joinU_succ (a b : List Nat) (i : Nat) (hi : i < max a.length b.length) : (joinU a b i).set i (max (a.getD i 0) (b.getD i 0)) = joinU a b (i + 1) := by
  refine getD_ext (by simp [joinU]) fun j hj => ?_
  rw [List.length_set, joinU_len] at hj
  rw [getD_set _ _ _ _ (by rw [joinU_len]; exact hi), joinU_get a b i j hj, joinU_get a b (i + 1) j hj]
  by_cases h : j = i
  · subst h; rw [if_pos rfl, if_pos (by omega)]
  · rw [if_neg h]
    by_cases h2 : j < i
    · rw [if_pos h2, if_pos (by omega)]
    · rw [if_neg h2, if_neg (by omega)]
theorem joinU_end (a b : List Nat) : joinU a b b.length = joinV a b := by
  refine getD_ext (by rw [joinU_len, joinV_len]) fun i hi => ?_
  rw [joinU_len] at hi
  rw [joinU_get a b _ i hi, joinV_get]
  split
  · rfl
  · have : b.getD i 0 = 0 := by rw [List.getD_eq_getElem?_getD, List.getElem?_eq_none (by omega)]; rfl
    rw [this]; omega
def joinT (a b : List Nat) (i : Nat) : List Nat := (List.range i).map fun j => max (a.getD j 0) (b.getD j 0)
end Go.Am
namespace Go.Am
open Go.Proofs
set_option maxRecDepth 100000
set_option linter.all false
attribute [local congr] obind_congr obH_congr cnd_congr chk_congr retK_congr codeK_congr
theorem In.same0 {h0 h : Heap} (k : In h0.blks.length No (nm h0) h) : Same h0 h := ⟨k.len, fun b hb => k.old b hb id⟩
def hasB (s : Nat) (p : Int) : Bool := decide (0 ≤ p ∧ p < 64) && s.testBit p.toNat
theorem shrN (t : TypeId) (xo yo : Operand) (yk : IntKind) (s p : Nat) (hs : s < 2 ^ 64) (hp : p < 64) : binV Try.prog .shr t xo yo (.int .u64 s) (.int yk p) = some (.int .u64 ((s / 2 ^ p : Nat) : Int)) := by
  rw [bin_shr64 _ _ _ _ _ _ (by omega) (by omega) (by omega), Int.toNat_natCast, Int.toNat_natCast]
theorem and1 (t : TypeId) (xo yo : Operand) (q : Nat) (hq : q < 2 ^ 64) : binV Try.prog .and t xo yo (.int .u64 q) (.int .u64 1) = some (.int .u64 ((q % 2 : Nat) : Int)) := by
  rw [bin_and64 _ _ _ _ _ (by omega) (by omega) (by omega) (by omega), Int.toNat_natCast, show (1 : Int).toNat = 1 from rfl, Nat.and_one_is_mod]
theorem hasB_nat (s p : Nat) (hp : p < 64) : decide (((s / 2 ^ p % 2 : Nat) : Int) = 1) = hasB s p := by
  unfold hasB
  rw [decide_eq_true (show 0 ≤ (p : Int) ∧ (p : Int) < 64 by omega), Bool.true_and, Int.toNat_natCast, Nat.testBit_eq_decide_div_mod_eq]
  congr 1
  apply propext
  omega
theorem spec_Has (s : Nat) (hs : s < 2 ^ 64) (p : Int) (h : Heap) : evC Try.prog 27 #[.int .u64 s, .int .i64 p] h = some (.bool (hasB s p), h) := by
  rw [call27, c27_0_eq]
  by_cases hc : 0 ≤ p ∧ p < 64
  · obtain ⟨p, rfl⟩ : ∃ m : Nat, p = m := ⟨p.toNat, by omega⟩
    have hq : s / 2 ^ p < 2 ^ 64 := Nat.lt_of_le_of_lt (Nat.div_le_self ..) hs
    have e1 := fun t xo yo => shrN t xo yo .i64 s p hs (by omega)
    have e2 := fun t xo yo => and1 t xo yo (s / 2 ^ p) hq
    simp -implicitDefEqProofs (disch := omega) only [dcT, dcF, e1, e2, hasB_nat, ↓ret27, ↓cnd_true, ↓cnd_false, ↓Option.bind_some, ↓obH_some', bin_add, bin_sub, bin_mul, bin_lss, bin_leq, bin_gtr, bin_geq, bin_eql, bin_neq, un_not, un_neg, Option.bind_some, Option.bind_none, Option.map_some, cnd_true, cnd_false, pickV_true, pickV_false, gd_true, gd_false, gdV_true, gdV_false, gdH_true, gdH_false, gdS_true, gdS_false, wt_ff, wt_tt, wt_ft, wt_tf, wt_undef, obH_some', extractV_tuple, nilCheckV_ptr, againK_normal, againK_exit, againK_ret, blockK_normal, blockK_same, blockK_ret, seqK_normal, seqK_exit, seqK_ret, fin_done, if_true', if_false', Bool.not_true, Bool.not_false, idx0, idx1, idx2, idx3, idx4, chk_nil_l, chk_nil_r, done_nm]
  · have e : hasB s p = false := by unfold hasB; rw [decide_eq_false hc]; rfl
    rw [e]
    by_cases h0 : 0 ≤ p
    · simp -implicitDefEqProofs (disch := omega) only [dcT, dcF, ↓ret27, ↓cnd_true, ↓cnd_false, ↓Option.bind_some, ↓obH_some', bin_add, bin_sub, bin_mul, bin_lss, bin_leq, bin_gtr, bin_geq, bin_eql, bin_neq, un_not, un_neg, Option.bind_some, Option.bind_none, Option.map_some, cnd_true, cnd_false, pickV_true, pickV_false, gd_true, gd_false, gdV_true, gdV_false, gdH_true, gdH_false, gdS_true, gdS_false, wt_ff, wt_tt, wt_ft, wt_tf, wt_undef, obH_some', extractV_tuple, nilCheckV_ptr, againK_normal, againK_exit, againK_ret, blockK_normal, blockK_same, blockK_ret, seqK_normal, seqK_exit, seqK_ret, fin_done, if_true', if_false', Bool.not_true, Bool.not_false, idx0, idx1, idx2, idx3, idx4, chk_nil_l, chk_nil_r, done_nm]
    · simp -implicitDefEqProofs (disch := omega) only [dcT, dcF, ↓ret27, ↓cnd_true, ↓cnd_false, ↓Option.bind_some, ↓obH_some', bin_add, bin_sub, bin_mul, bin_lss, bin_leq, bin_gtr, bin_geq, bin_eql, bin_neq, un_not, un_neg, Option.bind_some, Option.bind_none, Option.map_some, cnd_true, cnd_false, pickV_true, pickV_false, gd_true, gd_false, gdV_true, gdV_false, gdH_true, gdH_false, gdS_true, gdS_false, wt_ff, wt_tt, wt_ft, wt_tf, wt_undef, obH_some', extractV_tuple, nilCheckV_ptr, againK_normal, againK_exit, againK_ret, blockK_normal, blockK_same, blockK_ret, seqK_normal, seqK_exit, seqK_ret, fin_done, if_true', if_false', Bool.not_true, Bool.not_false, idx0, idx1, idx2, idx3, idx4, chk_nil_l, chk_nil_r, done_nm]
theorem take_succ_getD {α : Type} (l : List α) (d : α) {i : Nat} (hi : i < l.length) : l.take i ++ [l.getD i d] = l.take (i + 1) := by
  rw [List.take_add_one, List.getD_eq_getElem?_getD, List.getElem?_eq_getElem hi]; rfl
def Small (m : List (List Nat)) : Prop := m.length < 2 ^ 37 ∧ ∀ i, (m.getD i []).length < 2 ^ 37
def up1 (to : Nat) (k : Nat) (r : List Nat) : List Nat := (List.range r.length).map fun j => if j < k ∧ hasB to j = true ∧ r.getD j 0 < 2 ^ 64 - 1 then r.getD j 0 + 1 else r.getD j 0
theorem up1_len (to k : Nat) (r : List Nat) : (up1 to k r).length = r.length := by simp [up1]
theorem list_ext (a b : List Nat) (hl : a.length = b.length) (h : ∀ j, j < a.length → a.getD j 0 = b.getD j 0) : a = b := by
  refine List.ext_getElem hl fun j h1 h2 => ?_
  have := h j h1
  rwa [List.getD_eq_getElem?_getD, List.getD_eq_getElem?_getD, List.getElem?_eq_getElem h1, List.getElem?_eq_getElem h2] at this
theorem up1_get (to k : Nat) (r : List Nat) (j : Nat) (hj : j < r.length) : (up1 to k r).getD j 0 = if j < k ∧ hasB to j = true ∧ r.getD j 0 < 2 ^ 64 - 1 then r.getD j 0 + 1 else r.getD j 0 := by
  rw [List.getD_eq_getElem?_getD, List.getElem?_eq_getElem (by rw [up1_len]; exact hj)]
  simp [up1]
theorem up1_zero (to : Nat) (r : List Nat) : up1 to 0 r = r := by
  refine list_ext _ _ (up1_len ..) fun j hj => ?_
  rw [up1_get _ _ _ _ (by rw [up1_len] at hj; exact hj), if_neg (by omega)]
theorem set_getD (l : List Nat) (i x j : Nat) (hi : i < l.length) : (l.set i x).getD j 0 = if j = i then x else l.getD j 0 := by
  rw [List.getD_eq_getElem?_getD, List.getElem?_set]
  by_cases h : j = i
  · subst h; simp [hi]
  · rw [if_neg (Ne.symm h), if_neg h, List.getD_eq_getElem?_getD]
theorem up1_succ_yes (to k : Nat) (r : List Nat) (hk : k < r.length) (h1 : hasB to k = true) (h2 : r.getD k 0 < 2 ^ 64 - 1) : (up1 to k r).set k (r.getD k 0 + 1) = up1 to (k + 1) r := by
  refine list_ext _ _ (by rw [List.length_set, up1_len, up1_len]) fun j hj => ?_
  rw [List.length_set, up1_len] at hj
  rw [set_getD _ _ _ _ (by rw [up1_len]; exact hk), up1_get _ _ _ _ hj, up1_get _ _ _ _ hj]
  by_cases h : j = k
  · subst h; rw [if_pos rfl, if_pos ⟨by omega, h1, h2⟩]
  · rw [if_neg h]
    by_cases h3 : hasB to j = true ∧ r.getD j 0 < 2 ^ 64 - 1
    · by_cases h4 : j < k
      · rw [if_pos ⟨h4, h3⟩, if_pos ⟨by omega, h3⟩]
      · rw [if_neg (by omega), if_neg (by omega)]
    · rw [if_neg (fun x => h3 x.2), if_neg (fun x => h3 x.2)]
theorem up1_succ_no (to k : Nat) (r : List Nat) (h1 : ¬ (hasB to k = true ∧ r.getD k 0 < 2 ^ 64 - 1)) : up1 to (k + 1) r = up1 to k r := by
  refine list_ext _ _ (by rw [up1_len, up1_len]) fun j hj => ?_
  rw [up1_len] at hj
  rw [up1_get _ _ _ _ hj, up1_get _ _ _ _ hj]
  by_cases h : j = k
  · subst h; rw [if_neg (fun x => h1 x.2), if_neg (fun x => h1 x.2)]
  · by_cases h3 : hasB to j = true ∧ r.getD j 0 < 2 ^ 64 - 1
    · by_cases h4 : j < k
      · rw [if_pos ⟨by omega, h3⟩, if_pos ⟨h4, h3⟩]
      · rw [if_neg (by omega), if_neg (by omega)]
    · rw [if_neg (fun x => h3 x.2), if_neg (fun x => h3 x.2)]
def upM (n : Int) (m : List (List Nat)) (i : Int) (to : Nat) : List (List Nat) := if goodM n m = true ∧ 0 ≤ i ∧ i < n then m.set i.toNat (up1 to n.toNat (m.getD i.toNat [])) else m
theorem lset_getD {m : List (List Nat)} {i : Nat} (hi : i < m.length) (r : List Nat) : (m.set i r).getD i [] = r := by
  rw [List.getD_eq_getElem?_getD, List.getElem?_set_self hi]; rfl
theorem goodM_rows {n : Int} {m : List (List Nat)} (g : goodM n m = true) {i : Nat} (hi : i < m.length) : ((m.getD i []).length : Int) = n := by
  have := ((goodM_iff n m).1 g).2
  rw [List.getD_eq_getElem?_getD, List.getElem?_eq_getElem hi]; exact this _ (List.getElem_mem ..)
end Go.Am
namespace Go.Am
open Go.Proofs
set_option maxRecDepth 100000
set_option linter.all false
attribute [local congr] obind_congr obH_congr cnd_congr chk_congr retK_congr codeK_congr
def joinM (a b : List (List Nat)) : List (List Nat) := (List.range a.length).map fun i => joinV (a.getD i []) (b.getD i [])
def joinMt (a b : List (List Nat)) (i : Nat) : List (List Nat) := (List.range i).map fun i => joinV (a.getD i []) (b.getD i [])
theorem joinMt_succ (a b : List (List Nat)) (i : Nat) : joinMt a b i ++ [joinV (a.getD i []) (b.getD i [])] = joinMt a b (i + 1) := by unfold joinMt; rw [List.range_succ, List.map_append]; rfl
theorem joinMt_len (a b : List (List Nat)) (i : Nat) : (joinMt a b i).length = i := by simp [joinMt]
def okJ (n n2 : Int) (a b : List (List Nat)) : Bool := goodM n a && goodM n2 b && decide (n = n2)
end Go.Am
namespace Go.Am
open Go.Proofs
set_option maxRecDepth 100000
set_option linter.all false
attribute [local congr] obind_congr obH_congr cnd_congr chk_congr retK_congr codeK_congr
theorem mkV1 (k : IntKind) (n : Int) (h : Heap) : buildSliceV Try.prog 89 1 #[(0, .int k n)] h = some (.slice (some ⟨h.blks.length, 0, none⟩) 1 1, h.new (.cells [.int k n]) 35) := by kernel_rfl
theorem app_numV {n0 : Nat} {h : Heap} (hn0 : n0 ≤ h.blks.length) {v : Value} {bs : List Nat} (ha : AU n0 h v bs) (b : Nat) (hl : bs.length < 2 ^ 39) :
    ∃ a c h', appendV Try.prog 89 (some 89) v (.slice (some ⟨h.blks.length, 0, none⟩) 1 1) (h.new (.cells [.int .u64 b]) 35) = some (.slice a (bs ++ [b]).length c, h') ∧ AU n0 h' (.slice a (bs ++ [b]).length c) (bs ++ [b]) ∧ Keeps n0 h h' := by
  have hb : AU n0 (h.new (.cells [.int .u64 (b : Nat)]) 35) (.slice (some ⟨h.blks.length, 0, none⟩) 1 1) [b] := AU.lit (h := h) hn0 [b] (by simp)
  obtain ⟨a, c, h', e1, e2, e3, e4⟩ := app_nums etV etV.under (n0 := n0) (by simp [Heap.new]; omega) (ha.keep fun _ hb _ => Heap.new_old hb) hb.su (by simp; omega)
  exact ⟨a, c, h', e1, e2, (Keeps.new hn0 _ _).trans e3⟩
def colM (m : List (List Nat)) (j : Nat) : List Nat := m.map fun r => r.getD j 0
theorem colM_succ (m : List (List Nat)) (j : Nat) {i : Nat} (hi : i < m.length) : colM (m.take i) j ++ [(m.getD i []).getD j 0] = colM (m.take (i + 1)) j := by
  rw [← take_succ_getD m [] hi]; simp [colM]
theorem column_loop {h0 : Heap} {v : Value} {m : List (List Nat)} {j : Nat} (s0 : SM h0 v m) (hm : m.length < 2 ^ 37) (hj : ∀ i, i < m.length → j < (m.getD i []).length) : ∀ (mm i : Nat) (h : Heap) (w : Value), m.length = i + mm → AU h0.blks.length h w (colM (m.take i) j) → In h0.blks.length No (nm h0) h →
    ∀ (Aa Ac Ad Ae Ag Ah Ai Aj Ak Al An Ao Ap Aq Ar As Au Av Aw Ax Bb Bc Bd Be Bf Bg Bh Bi Bj Bk Bl Bm : Value),
    ∃ a c h', loopK Try.prog (evC Try.prog) c127_1 ⟨#[Aa, .int .i64 j,Ac,Ad,Ae, w,Ag,Ah,Ai,Aj,Ak,Al,An,Ao,Ap,Aq,Ar,As,Au,Av,Aw,Ax, v, .int .i64 m.length, .int .i64 i,Bb,Bc,Bd,Be,Bf,Bg,Bh,Bi,Bj,Bk,Bl,Bm], h⟩ (blockK 0 (seqK Try.prog (evC Try.prog) c127_2 (retK Try.f127 Try.prog h0))) =
      some (.slice a (colM m j).length c, h') ∧ HExt h0 h' ∧ AU h0.blks.length h' (.slice a (colM m j).length c) (colM m j) := by
  intro mm
  induction mm with
  | zero =>
    intro i h w hi hA hin Aa Ac Ad Ae Ag Ah Ai Aj Ak Al An Ao Ap Aq Ar As Au Av Aw Ax Bb Bc Bd Be Bf Bg Bh Bi Bj Bk Bl Bm
    rw [loopK_eq evC_m, c127_1_eq]
    rw [List.take_of_length_le (by omega)] at hA
    obtain ⟨a, c, rfl⟩ := hA.shape
    simp -implicitDefEqProofs (disch := omega) only [dcT, dcF, ↓c127_2_eq, ↓ret127, ↓cnd_true, ↓cnd_false, ↓Option.bind_some, ↓obH_some', bin_add, bin_sub, bin_mul, bin_lss, bin_leq, bin_gtr, bin_geq, bin_eql, bin_neq, un_not, un_neg, Option.bind_some, Option.bind_none, Option.map_some, cnd_true, cnd_false, pickV_true, pickV_false, gd_true, gd_false, gdV_true, gdV_false, gdH_true, gdH_false, gdS_true, gdS_false, wt_ff, wt_tt, wt_ft, wt_tf, wt_undef, obH_some', extractV_tuple, nilCheckV_ptr, againK_normal, againK_exit, againK_ret, blockK_normal, blockK_same, blockK_ret, seqK_normal, seqK_exit, seqK_ret, fin_done, if_true', if_false', Bool.not_true, Bool.not_false, idx0, idx1, idx2, idx3, idx4, chk_nil_l, chk_nil_r, done_nm]
    exact ⟨a, c, _, rfl, done_ext' hin, hA.done⟩
  | succ mm ih =>
    intro i h w hi hA hin Aa Ac Ad Ae Ag Ah Ai Aj Ak Al An Ao Ap Aq Ar As Au Av Aw Ax Bb Bc Bd Be Bf Bg Bh Bi Bj Bk Bl Bm
    rw [loopK_eq evC_m, c127_1_eq]
    have hlen : h0.blks.length ≤ h.blks.length := hin.len
    obtain ⟨ad, x, ea, ex, sx⟩ := (s0.same hin.same0).atV (i := i) (by omega)
    obtain ⟨bd, eb, ey⟩ := su_at sx etV.under (i := j) (hj i (by omega))
    obtain ⟨a2, c2, h2, e2, s2, k2⟩ := app_numV hlen hA ((m.getD i []).getD j 0) (by simp [colM]; omega)
    rw [colM_succ m j (by omega)] at e2 s2
    have hw : IntKind.wrap .i64 ((i : Int) + 1) = ((i + 1 : Nat) : Int) := by rw [wrap_i64] <;> omega
    simp -implicitDefEqProofs (disch := omega) only [dcT, dcF, ea, ex, eb, ey, mkV1, e2, hw, ↓cnd_true, ↓cnd_false, ↓Option.bind_some, ↓obH_some', bin_add, bin_sub, bin_mul, bin_lss, bin_leq, bin_gtr, bin_geq, bin_eql, bin_neq, un_not, un_neg, Option.bind_some, Option.bind_none, Option.map_some, cnd_true, cnd_false, pickV_true, pickV_false, gd_true, gd_false, gdV_true, gdV_false, gdH_true, gdH_false, gdS_true, gdS_false, wt_ff, wt_tt, wt_ft, wt_tf, wt_undef, obH_some', extractV_tuple, nilCheckV_ptr, againK_normal, againK_exit, againK_ret, blockK_normal, blockK_same, blockK_ret, seqK_normal, seqK_exit, seqK_ret, fin_done, if_true', if_false', Bool.not_true, Bool.not_false, idx0, idx1, idx2, idx3, idx4, chk_nil_l, chk_nil_r, done_nm]
    exact ih (i + 1) _ _ (by omega) s2 (hin.trans k2.inn) _ _ _ _ _ _ _ _ _ _ _ _ _ _ _ _ _ _ _ _ _ _ _ _ _ _ _ _ _ _ _ _
def okC (n : Int) (m : List (List Nat)) (j : Int) : Prop := goodM n m = true ∧ 0 ≤ j ∧ j < n
instance (n : Int) (m : List (List Nat)) (j : Int) : Decidable (okC n m j) := inferInstanceAs (Decidable (_ ∧ _))
def columnM (n : Int) (m : List (List Nat)) (j : Int) : List Nat := if okC n m j then colM m j.toNat else []
theorem spec_Column {h : Heap} {n : Int} {v : Value} {m : List (List Nat)} (s : SM h v m) (hm : m.length < 2 ^ 37) (j : Int) :
    ∃ a c h', evC Try.prog 127 #[matV n v, .int .i64 j] h = some (.slice a (columnM n m j).length c, h') ∧ HExt h h' ∧ AU h.blks.length h' (.slice a (columnM n m j).length c) (columnM n m j) := by
  rw [call127, c127_0_eq]
  have k0 := bxM (.int .i64 n) v (nm h)
  have c0 := Cells.new (nm h) 30 [.int .i64 n, v]
  have i0 : In h.blks.length No (nm h) _ := In.new (by simp) (.cells [.int .i64 n, v]) 30
  have bl : (nm h).blks.length = h.blks.length := rfl
  rw [bl] at k0 c0
  generalize (nm h).new (.cells [.int .i64 n, v]) 30 = g0 at *
  obtain ⟨g1, e1,Ab⟩ := spec_Good (n := n) (s.same i0.same0) (by omega)
  unfold matV at e1
  have hin := i0.trans (Ab.inn i0.len)
  have c1 := c0.ext Ab
  have sv := s.same hin.same0
  unfold columnM
  by_cases hc : okC n m j
  · rw [if_pos hc]
    obtain ⟨hg, h0, h1⟩ := hc
    obtain ⟨j, rfl⟩ : ∃ k : Nat, j = k := ⟨j.toNat, by omega⟩
    rw [hg] at e1
    rw [Int.toNat_natCast]
    have := column_loop (h0 := h) (j := j) s hm (fun i hi => by have := goodM_rows hg hi; omega) m.length 0 g1 (.slice none 0 0) (by omega) .nil hin
    simp -implicitDefEqProofs (disch := omega) only [dcT, dcF, matV, k0, ldM, c0.loadN (n := 2) rfl, e1, faM0, faM1, mldInt, c1.load, two1, two2, ldRs, sv.lenRV, ↓cnd_true, ↓cnd_false, ↓Option.bind_some, ↓obH_some', bin_add, bin_sub, bin_mul, bin_lss, bin_leq, bin_gtr, bin_geq, bin_eql, bin_neq, un_not, un_neg, Option.bind_some, Option.bind_none, Option.map_some, cnd_true, cnd_false, pickV_true, pickV_false, gd_true, gd_false, gdV_true, gdV_false, gdH_true, gdH_false, gdS_true, gdS_false, wt_ff, wt_tt, wt_ft, wt_tf, wt_undef, obH_some', extractV_tuple, nilCheckV_ptr, againK_normal, againK_exit, againK_ret, blockK_normal, blockK_same, blockK_ret, seqK_normal, seqK_exit, seqK_ret, fin_done, if_true', if_false', Bool.not_true, Bool.not_false, idx0, idx1, idx2, idx3, idx4, chk_nil_l, chk_nil_r, done_nm]
    exact this _ _ _ _ _ _ _ _ _ _ _ _ _ _ _ _ _ _ _ _ _ _ _ _ _ _ _ _ _ _ _ _
  · rw [if_neg hc]
    by_cases hg : goodM n m = true
    · rw [hg] at e1
      by_cases h0 : j < 0
      · simp -implicitDefEqProofs (disch := omega) only [dcT, dcF, matV, k0, ldM, c0.loadN (n := 2) rfl, e1, ↓ret127, ↓cnd_true, ↓cnd_false, ↓Option.bind_some, ↓obH_some', bin_add, bin_sub, bin_mul, bin_lss, bin_leq, bin_gtr, bin_geq, bin_eql, bin_neq, un_not, un_neg, Option.bind_some, Option.bind_none, Option.map_some, cnd_true, cnd_false, pickV_true, pickV_false, gd_true, gd_false, gdV_true, gdV_false, gdH_true, gdH_false, gdS_true, gdS_false, wt_ff, wt_tt, wt_ft, wt_tf, wt_undef, obH_some', extractV_tuple, nilCheckV_ptr, againK_normal, againK_exit, againK_ret, blockK_normal, blockK_same, blockK_ret, seqK_normal, seqK_exit, seqK_ret, fin_done, if_true', if_false', Bool.not_true, Bool.not_false, idx0, idx1, idx2, idx3, idx4, chk_nil_l, chk_nil_r, done_nm]
        exact ⟨_, _, _, rfl, done_ext' hin, .nil⟩
      · have h1 : ¬ j < n := fun x => hc ⟨hg, by omega, x⟩
        simp -implicitDefEqProofs (disch := omega) only [dcT, dcF, matV, k0, ldM, c0.loadN (n := 2) rfl, e1, faM0, mldInt, c1.load, two1, ↓ret127, ↓cnd_true, ↓cnd_false, ↓Option.bind_some, ↓obH_some', bin_add, bin_sub, bin_mul, bin_lss, bin_leq, bin_gtr, bin_geq, bin_eql, bin_neq, un_not, un_neg, Option.bind_some, Option.bind_none, Option.map_some, cnd_true, cnd_false, pickV_true, pickV_false, gd_true, gd_false, gdV_true, gdV_false, gdH_true, gdH_false, gdS_true, gdS_false, wt_ff, wt_tt, wt_ft, wt_tf, wt_undef, obH_some', extractV_tuple, nilCheckV_ptr, againK_normal, againK_exit, againK_ret, blockK_normal, blockK_same, blockK_ret, seqK_normal, seqK_exit, seqK_ret, fin_done, if_true', if_false', Bool.not_true, Bool.not_false, idx0, idx1, idx2, idx3, idx4, chk_nil_l, chk_nil_r, done_nm]
        exact ⟨_, _, _, rfl, done_ext' hin, .nil⟩
    · have hg' : goodM n m = false := by simpa using hg
      rw [hg'] at e1
      simp -implicitDefEqProofs (disch := omega) only [dcT, dcF, matV, k0, ldM, c0.loadN (n := 2) rfl, e1, ↓ret127, ↓cnd_true, ↓cnd_false, ↓Option.bind_some, ↓obH_some', bin_add, bin_sub, bin_mul, bin_lss, bin_leq, bin_gtr, bin_geq, bin_eql, bin_neq, un_not, un_neg, Option.bind_some, Option.bind_none, Option.map_some, cnd_true, cnd_false, pickV_true, pickV_false, gd_true, gd_false, gdV_true, gdV_false, gdH_true, gdH_false, gdS_true, gdS_false, wt_ff, wt_tt, wt_ft, wt_tf, wt_undef, obH_some', extractV_tuple, nilCheckV_ptr, againK_normal, againK_exit, againK_ret, blockK_normal, blockK_same, blockK_ret, seqK_normal, seqK_exit, seqK_ret, fin_done, if_true', if_false', Bool.not_true, Bool.not_false, idx0, idx1, idx2, idx3, idx4, chk_nil_l, chk_nil_r, done_nm]
      exact ⟨_, _, _, rfl, done_ext' hin, .nil⟩
def wi1 (a b : List (List Nat)) (k : Nat) : Bool := decide (cmpV (a.getD k []) (b.getD k []) = 0 ∨ cmpV (a.getD k []) (b.getD k []) = -1)
def wiM (a b : List (List Nat)) (i m : Nat) : Bool := (List.range' i m).all (wi1 a b)
theorem wiM_succ (a b : List (List Nat)) (i m : Nat) : wiM a b i (m + 1) = (wi1 a b i && wiM a b (i + 1) m) := rfl
def withinM (n n2 : Int) (a b : List (List Nat)) : Bool := okJ n n2 a b && wiM a b 0 a.length
end Go.Am
namespace Go.Am
open Go.Proofs
set_option maxRecDepth 100000
set_option linter.all false
attribute [local congr] obind_congr obH_congr cnd_congr chk_congr retK_congr codeK_congr
theorem cvUint (n : Int) (h : Heap) (h0 : 0 ≤ n) (h1 : n < 2 ^ 63) : convV Try.prog 3 114 (.int .i64 n) h = some (.int .u64 n, h) := conv_u64 (ks := .i64) (by kernel_rfl) (by kernel_rfl) _ _ _ h0 (by omega)
theorem drop_cons {α : Type} (l : List α) (d : α) {i : Nat} (hi : i < l.length) : l.drop i = l.getD i d :: l.drop (i + 1) := by
  rw [List.drop_eq_getElem_cons hi, List.getD_eq_getElem?_getD, List.getElem?_eq_getElem hi]; rfl
theorem In.mono0 {n0 n1 : Nat} {h h' : Heap} (k : In n1 No h h') (hn : n0 ≤ n1) : In n0 No h h' := ⟨Nat.le_trans hn k.le, k.len, fun b hb hs => k.old b (by omega) hs, fun m hm => (k.mods m hm).imp_right fun x => x.imp_left fun y => Nat.le_trans hn y⟩
theorem All2.set {α β : Type} {R : α → β → Prop} {l : List α} {m : List β} (h : All2 R l m) : ∀ (i : Nat) (a : α) (b : β), R a b → All2 R (l.set i a) (m.set i b) := by
  induction h with
  | nil => intro i a b _; exact .nil
  | cons p q ih =>
    intro i a b r
    cases i with
    | zero => exact .cons r q
    | succ i => exact .cons p (ih i a b r)
theorem apart_set {vs : List Value} (h : vs.Pairwise fun x y => ∀ b, blockOf x = some b → blockOf y ≠ some b) {x : Value} (hx : ∀ y ∈ vs, ∀ b, blockOf y = some b → blockOf x ≠ some b) : ∀ (i : Nat), (vs.set i x).Pairwise fun x y => ∀ b, blockOf x = some b → blockOf y ≠ some b := by
  induction h with
  | nil => intro i; exact .nil
  | cons p q ih =>
    intro i
    cases i with
    | zero => exact .cons (fun y hy b hb hb' => hx y (by simp [hy]) b hb' hb) q
    | succ i =>
      refine .cons (fun y hy b hb hb' => ?_) (ih (fun y hy => hx y (by simp [hy])) i)
      rcases List.mem_or_eq_of_mem_set hy with h1 | h1
      · exact p y h1 b hb hb'
      · subst h1; exact hx _ List.mem_cons_self b hb hb'
theorem AM.setRow {eo : TypeId} (hse : sizeT Try.prog eo = some 1) (hne : eo ≠ 35) {n0 : Nat} {h1 h : Heap} (hn : n0 ≤ h1.blks.length) {v : Value} {m : List (List Nat)} (aM : AM eo n0 h1 v m) (sm : Same h1 h) {x : Value} {r : List Nat} (ax : AU h1.blks.length h x r) {t : TypeId} (ht : Try.prog.underlying t = some (.slice eo)) {i : Nat} (hi : i < m.length) :
    ∃ b o h', indexAddrV Try.prog t v (.int .i64 i) = some (.pointer (some ⟨b, o, none⟩)) ∧ h.storeN b o [x] = some h' ∧ AM eo n0 h' v (m.set i r) ∧ Keeps n0 h h' := by
  obtain ⟨vs, A⟩ := aM
  have A1 := A.kp (h' := h) fun b _ _ hb _ _ => sm.2 b (List.getElem?_eq_some_iff.1 hb).1
  obtain ⟨b, o, h', e1, l1, st, a', k', hl, hb, hq⟩ := A1.out.set1 ht hse hi x .i64
  have hxr := ax
  refine ⟨b, o, h', e1, st, ⟨vs.set i x, ?_, ?_, apart_set A.apart (fun y hy c hc hc' => ?_) i⟩, k'⟩
  · rw [List.length_set]; exact a'
  · refine All2.set (A1.rows.mono fun y z s => s.keep fun c _ hc => hq c fun e => ?_) i x r ((ax.up hn).keep fun c _ hc => hq c fun e => ?_)
    · subst e; exact s.blk_ne A1.out (Ne.symm hne) hc hb
    · subst e; exact ax.blk_ne A1.out (Ne.symm hne) hc hb
  · obtain ⟨j, hj, rfl⟩ := List.getElem_of_mem hy
    obtain ⟨r', _, hr'⟩ := A.rows.get (i := j) (a := vs[j]) (List.getElem?_eq_getElem hj)
    have l1 := hr'.su.lt hc
    have l2 := ax.ge hc'
    omega
def joinS (a b : List (List Nat)) (i : Nat) : List (List Nat) := (List.range a.length).map fun k => if k < i then joinV (a.getD k []) (b.getD k []) else a.getD k []
theorem joinS_len (a b : List (List Nat)) (i : Nat) : (joinS a b i).length = a.length := by simp [joinS]
theorem joinS_get (a b : List (List Nat)) (i k : Nat) (hk : k < a.length) : (joinS a b i).getD k [] = if k < i then joinV (a.getD k []) (b.getD k []) else a.getD k [] := by
  rw [List.getD_eq_getElem?_getD, List.getElem?_eq_getElem (by rw [joinS_len]; exact hk)]; simp [joinS]
theorem llist_ext (a b : List (List Nat)) (hl : a.length = b.length) (h : ∀ j, j < a.length → a.getD j [] = b.getD j []) : a = b := by
  refine List.ext_getElem hl fun j h1 h2 => ?_
  have := h j h1
  rwa [List.getD_eq_getElem?_getD, List.getD_eq_getElem?_getD, List.getElem?_eq_getElem h1, List.getElem?_eq_getElem h2] at this
theorem joinS_zero (a b : List (List Nat)) : joinS a b 0 = a := llist_ext _ _ (joinS_len ..) fun j hj => by
  rw [joinS_len] at hj
  rw [joinS_get _ _ _ _ hj, if_neg (by omega)]
theorem joinS_all (a b : List (List Nat)) : joinS a b a.length = joinM a b := by
  unfold joinS joinM
  refine List.map_congr_left fun k hk => ?_
  rw [if_pos (by simpa using hk)]
theorem joinS_succ (a b : List (List Nat)) (i : Nat) (hi : i < a.length) : (joinS a b i).set i (joinV (a.getD i []) (b.getD i [])) = joinS a b (i + 1) := llist_ext _ _ (by rw [List.length_set, joinS_len, joinS_len]) fun j hj => by
  rw [List.length_set, joinS_len] at hj
  rw [joinS_get _ _ _ _ hj, List.getD_eq_getElem?_getD, List.getElem?_set]
  by_cases h : i = j
  · subst h; rw [if_pos rfl, if_pos (by rw [joinS_len]; exact hj), if_pos (by omega)]; rfl
  · rw [if_neg h, ← List.getD_eq_getElem?_getD, joinS_get _ _ _ _ hj]
    by_cases h2 : j < i
    · rw [if_pos h2, if_pos (by omega)]
    · rw [if_neg h2, if_neg (by omega)]
theorem stW (p o : Nat) (a : Option Addr) (n c : Nat) (h : Heap) : storeV Try.prog 88 (.pointer (some ⟨p, o, none⟩)) (.slice a n c) h = h.storeN p o [.slice a n c] := by kernel_rfl
end Go.Am
namespace Go.Am
open Go.Proofs
set_option maxRecDepth 100000
set_option linter.all false
attribute [local congr] obind_congr obH_congr cnd_congr chk_congr retK_congr codeK_congr
def intV (n : Int) : Value := .int .i64 n
theorem etI : ElemT Try.prog 43 3 1 8 (.int .i64 0) := ⟨by kernel_rfl, by kernel_rfl, by kernel_rfl, by kernel_rfl, by omega, rfl, rfl⟩
abbrev SI (h : Heap) (v : Value) (ns : List Int) : Prop := Sl Try.prog h 1 v ns.length (ns.map intV)
theorem si_at {h : Heap} {v : Value} {ns : List Int} (s : SI h v ns) {i : Nat} (hi : i < ns.length) :
    ∃ a, indexAddrV Try.prog 43 v (.int .i64 i) = some (.pointer (some a)) ∧ loadV Try.prog 3 (.pointer (some a)) h = some (.int .i64 (ns.getD i 0)) := by
  obtain ⟨a, e1, e2, _⟩ := s.row.at1 etI.under etI.size (by kernel_rfl) hi .i64
  rw [List.getElem?_map, List.getElem?_eq_getElem hi] at e2
  refine ⟨a, e1, ?_⟩
  rw [e2, List.getD_eq_getElem?_getD, List.getElem?_eq_getElem hi]; rfl
def or1 (s : Nat) (p : Int) : Nat := if 0 ≤ p ∧ p < 64 then s ||| 2 ^ p.toNat else s
def ofL (l : List Int) : Nat := l.foldl or1 0
theorem or1_lt {s : Nat} (hs : s < 2 ^ 64) (p : Int) : or1 s p < 2 ^ 64 := by
  unfold or1
  split
  · rename_i h
    exact Nat.or_lt_two_pow hs (Nat.pow_lt_pow_right (by omega) (by omega))
  · exact hs
theorem foldl_lt : ∀ (l : List Int) (s : Nat), s < 2 ^ 64 → l.foldl or1 s < 2 ^ 64
  | [], s, h => h
  | p :: l, s, h => foldl_lt l _ (or1_lt h p)
theorem ofL_lt (l : List Int) : ofL l < 2 ^ 64 := foldl_lt l 0 (by omega)
theorem shl1 (t : TypeId) (xo yo : Operand) (p : Nat) (hp : p < 64) : binV Try.prog .shl t xo yo (.int .u64 1) (.int .i64 p) = some (.int .u64 ((2 ^ p : Nat) : Int)) := by
  have h2 : 2 ^ p < 2 ^ 64 := Nat.pow_lt_pow_right (by omega) hp
  rw [bin_shl64 _ _ _ _ _ _ (by omega) (by omega) (by omega), Int.toNat_natCast, show (1 : Int).toNat = 1 from rfl, Nat.one_mul, Nat.mod_eq_of_lt h2]
theorem orN (t : TypeId) (xo yo : Operand) (a b : Nat) (ha : a < 2 ^ 64) (hb : b < 2 ^ 64) : binV Try.prog .or t xo yo (.int .u64 a) (.int .u64 b) = some (.int .u64 ((a ||| b : Nat) : Int)) := by
  rw [bin_or64 _ _ _ _ _ (by omega) (by omega) (by omega) (by omega), Int.toNat_natCast, Int.toNat_natCast]
theorem of_loop {h0 h : Heap} {v : Value} {l : List Int} (sl : SI h v l) (hl : l.length < 2 ^ 40) : ∀ (mm i : Nat) (s : Nat), s < 2 ^ 64 → l.length = i + mm → ∀ (Aa Ab Ac Ae Af Aj Ak Al An Ao Ap Aq Ar As Au Av Aw Ax Ay Az : Value),
    loopK Try.prog (evC Try.prog) c26_1 ⟨#[Aa,Ab,Ac, .int .u64 s,Ae,Af, v, .int .i64 l.length, .int .i64 i,Aj,Ak,Al,An,Ao,Ap,Aq,Ar,As,Au,Av,Aw,Ax,Ay,Az], h⟩ (blockK 0 (seqK Try.prog (evC Try.prog) c26_2 (retK Try.f26 Try.prog h0))) =
      some (.int .u64 ((l.drop i).foldl or1 s : Nat), done h0 h) := by
  intro mm
  induction mm with
  | zero =>
    intro i s hs hi Aa Ab Ac Ae Af Aj Ak Al An Ao Ap Aq Ar As Au Av Aw Ax Ay Az
    rw [loopK_eq evC_m, c26_1_eq, List.drop_of_length_le (by omega)]
    simp -implicitDefEqProofs (disch := omega) only [dcT, dcF, ↓c26_2_eq, ↓ret26, ↓cnd_true, ↓cnd_false, ↓Option.bind_some, ↓obH_some', bin_add, bin_sub, bin_mul, bin_lss, bin_leq, bin_gtr, bin_geq, bin_eql, bin_neq, un_not, un_neg, Option.bind_some, Option.bind_none, Option.map_some, cnd_true, cnd_false, pickV_true, pickV_false, gd_true, gd_false, gdV_true, gdV_false, gdH_true, gdH_false, gdS_true, gdS_false, wt_ff, wt_tt, wt_ft, wt_tf, wt_undef, obH_some', extractV_tuple, nilCheckV_ptr, againK_normal, againK_exit, againK_ret, blockK_normal, blockK_same, blockK_ret, seqK_normal, seqK_exit, seqK_ret, fin_done, if_true', if_false', Bool.not_true, Bool.not_false, idx0, idx1, idx2, idx3, idx4, chk_nil_l, chk_nil_r, done_nm]
    rfl
  | succ mm ih =>
    intro i s hs hi Aa Ab Ac Ae Af Aj Ak Al An Ao Ap Aq Ar As Au Av Aw Ax Ay Az
    rw [loopK_eq evC_m, c26_1_eq, drop_cons l 0 (by omega), List.foldl_cons]
    obtain ⟨a, ea, el⟩ := si_at sl (i := i) (by omega)
    have hw : IntKind.wrap .i64 ((i : Int) + 1) = ((i + 1 : Nat) : Int) := by rw [wrap_i64] <;> omega
    have := ih (i + 1) _ (or1_lt hs (l.getD i 0)) (by omega)
    unfold or1 at this ⊢
    generalize l.getD i 0 = p at *
    by_cases hc : 0 ≤ p ∧ p < 64
    · rw [if_pos hc] at this ⊢
      obtain ⟨p, rfl⟩ : ∃ k : Nat, p = k := ⟨p.toNat, by omega⟩
      rw [Int.toNat_natCast] at this ⊢
      have h2 : 2 ^ p < 2 ^ 64 := Nat.pow_lt_pow_right (by omega) (by omega)
      have e1 := fun t xo yo => shl1 t xo yo p (by omega)
      have e2 := fun t xo yo => orN t xo yo s (2 ^ p) hs h2
      simp -implicitDefEqProofs (disch := omega) only [dcT, dcF, ea, el, e1, e2, hw, ↓cnd_true, ↓cnd_false, ↓Option.bind_some, ↓obH_some', bin_add, bin_sub, bin_mul, bin_lss, bin_leq, bin_gtr, bin_geq, bin_eql, bin_neq, un_not, un_neg, Option.bind_some, Option.bind_none, Option.map_some, cnd_true, cnd_false, pickV_true, pickV_false, gd_true, gd_false, gdV_true, gdV_false, gdH_true, gdH_false, gdS_true, gdS_false, wt_ff, wt_tt, wt_ft, wt_tf, wt_undef, obH_some', extractV_tuple, nilCheckV_ptr, againK_normal, againK_exit, againK_ret, blockK_normal, blockK_same, blockK_ret, seqK_normal, seqK_exit, seqK_ret, fin_done, if_true', if_false', Bool.not_true, Bool.not_false, idx0, idx1, idx2, idx3, idx4, chk_nil_l, chk_nil_r, done_nm]
      exact this _ _ _ _ _ _ _ _ _ _ _ _ _ _ _ _ _ _ _ _
    · rw [if_neg hc] at this ⊢
      by_cases h0 : 0 ≤ p
      · have h1 : ¬ p < 64 := fun x => hc ⟨h0, x⟩
        simp -implicitDefEqProofs (disch := omega) only [dcT, dcF, ea, el, hw, ↓cnd_true, ↓cnd_false, ↓Option.bind_some, ↓obH_some', bin_add, bin_sub, bin_mul, bin_lss, bin_leq, bin_gtr, bin_geq, bin_eql, bin_neq, un_not, un_neg, Option.bind_some, Option.bind_none, Option.map_some, cnd_true, cnd_false, pickV_true, pickV_false, gd_true, gd_false, gdV_true, gdV_false, gdH_true, gdH_false, gdS_true, gdS_false, wt_ff, wt_tt, wt_ft, wt_tf, wt_undef, obH_some', extractV_tuple, nilCheckV_ptr, againK_normal, againK_exit, againK_ret, blockK_normal, blockK_same, blockK_ret, seqK_normal, seqK_exit, seqK_ret, fin_done, if_true', if_false', Bool.not_true, Bool.not_false, idx0, idx1, idx2, idx3, idx4, chk_nil_l, chk_nil_r, done_nm]
        exact this _ _ _ _ _ _ _ _ _ _ _ _ _ _ _ _ _ _ _ _
      · simp -implicitDefEqProofs (disch := omega) only [dcT, dcF, ea, el, hw, ↓cnd_true, ↓cnd_false, ↓Option.bind_some, ↓obH_some', bin_add, bin_sub, bin_mul, bin_lss, bin_leq, bin_gtr, bin_geq, bin_eql, bin_neq, un_not, un_neg, Option.bind_some, Option.bind_none, Option.map_some, cnd_true, cnd_false, pickV_true, pickV_false, gd_true, gd_false, gdV_true, gdV_false, gdH_true, gdH_false, gdS_true, gdS_false, wt_ff, wt_tt, wt_ft, wt_tf, wt_undef, obH_some', extractV_tuple, nilCheckV_ptr, againK_normal, againK_exit, againK_ret, blockK_normal, blockK_same, blockK_ret, seqK_normal, seqK_exit, seqK_ret, fin_done, if_true', if_false', Bool.not_true, Bool.not_false, idx0, idx1, idx2, idx3, idx4, chk_nil_l, chk_nil_r, done_nm]
        exact this _ _ _ _ _ _ _ _ _ _ _ _ _ _ _ _ _ _ _ _
theorem spec_Of {h : Heap} {v : Value} {l : List Int} (sl : SI h v l) (hl : l.length < 2 ^ 40) : evC Try.prog 26 #[v] h = some (.int .u64 (ofL l : Nat), h) := by
  rw [call26, c26_0_eq]
  simp -implicitDefEqProofs (disch := omega) only [sl.nm.row.len_eq etI.under, ↓cnd_true, ↓cnd_false, ↓Option.bind_some, ↓obH_some', bin_add, bin_sub, bin_mul, bin_lss, bin_leq, bin_gtr, bin_geq, bin_eql, bin_neq, un_not, un_neg, Option.bind_some, Option.bind_none, Option.map_some, cnd_true, cnd_false, pickV_true, pickV_false, gd_true, gd_false, gdV_true, gdV_false, gdH_true, gdH_false, gdS_true, gdS_false, wt_ff, wt_tt, wt_ft, wt_tf, wt_undef, obH_some', extractV_tuple, nilCheckV_ptr, againK_normal, againK_exit, againK_ret, blockK_normal, blockK_same, blockK_ret, seqK_normal, seqK_exit, seqK_ret, fin_done, if_true', if_false', Bool.not_true, Bool.not_false, idx0, idx1, idx2, idx3, idx4, chk_nil_l, chk_nil_r, done_nm]
  exact of_loop (h0 := h) sl.nm hl l.length 0 0 (by omega) (by omega) _ _ _ _ _ _ _ _ _ _ _ _ _ _ _ _ _ _ _ _
theorem mkI1 (k : IntKind) (n : Int) (h : Heap) : buildSliceV Try.prog 43 1 #[(0, .int k n)] h = some (.slice (some ⟨h.blks.length, 0, none⟩) 1 1, h.new (.cells [.int k n]) 3) := by kernel_rfl
theorem litI1 (h : Heap) (n : Int) : SI (h.new (.cells [.int .i64 n]) 3) (.slice (some ⟨h.blks.length, 0, none⟩) 1 1) [n] :=
  .mk (by simp [Heap.loadN, Heap.cells?, blk_new_self]; rfl) (.inr ⟨Nat.le_refl _, by unfold UNK; decide⟩)
theorem app_out {t eo : TypeId} (et : ElemT Try.prog t eo 1 24 (.slice none 0 0)) {n0 : Nat} {h : Heap} (hn0 : n0 ≤ h.blks.length) {w : Value} {cs : List Value} (ac : Acc n0 h eo 1 w cs.length cs) (a : Option Addr) (l c : Nat) (hl : cs.length < 2 ^ 38) :
    ∃ a' c' h', appendV Try.prog t (some t) w (.slice (some ⟨h.blks.length, 0, none⟩) 1 1) (h.new (.cells [.slice a l c]) eo) = some (.slice a' (cs ++ [Value.slice a l c]).length c', h') ∧ Acc n0 h' eo 1 (.slice a' (cs ++ [Value.slice a l c]).length c') (cs ++ [Value.slice a l c]).length (cs ++ [Value.slice a l c]) ∧ Keeps n0 h h' ∧ (∀ p ty cs, Cells h p ty cs → ty ≠ eo → Cells h' p ty cs) := by
  have A2 : Acc n0 (h.new (.cells [.slice a l c]) eo) eo 1 w cs.length cs := ac.keep fun b hb _ => Heap.new_old hb
  have hrow : Row (h.new (.cells [.slice a l c]) eo) 1 (.slice (some ⟨h.blks.length, 0, none⟩) 1 1) 1 [.slice a l c] := .mk (loadN_blk (blk_new_self _ _ _) rfl)
  obtain ⟨v', h', e1, e2, e3, e4, e5⟩ := append_acc et (t1 := some t) (n0 := n0) (by simp [Heap.new]; omega) A2 (newsV_row et.under hrow) (by simp) (by omega) (by omega) (by simp [Value.oneCell'])
  obtain ⟨a', c', rfl⟩ := e2.shape
  have el : cs.length + 1 = (cs ++ [Value.slice a l c]).length := by simp
  rw [el] at e1 e2
  refine ⟨a', c', h', e1, e2, (Keeps.new hn0 _ _).trans e3, fun p ty cs' hp ht => ?_⟩
  have hp' : Cells (h.new (.cells [.slice a l c]) eo) p ty cs' := hp.keepNew _ _
  refine (e4 p hp'.lt fun e => ?_).trans hp'
  obtain ⟨all, x⟩ := A2.blk e
  unfold Cells at hp'
  rw [hp'] at x
  simp only [Option.some.injEq, Blk.mk.injEq] at x
  exact ht x.2.1
theorem SM.slices {h : Heap} {v : Value} {vs : List Value} {m : List (List Nat)} (s : SMv h v vs m) {i : Nat} {x : Value} (hx : vs[i]? = some x) : ∃ a l c, x = .slice a l c := by
  obtain ⟨r, _, hr⟩ := s.2.get hx
  obtain ⟨a, c, rfl⟩ := hr.shape
  exact ⟨_, _, _, rfl⟩
theorem take_succ_get {α : Type} (l : List α) {i : Nat} {x : α} (hx : l[i]? = some x) : l.take i ++ [x] = l.take (i + 1) := by
  rw [List.take_add_one, hx]; rfl
theorem acc_put {n0 : Nat} {h : Heap} {eo : TypeId} {es n : Nat} {v : Value} {ds : List Value} (a : Acc n0 h eo es v n ds) {p : Nat} {ty : TypeId} {cs : List Value} (c : Cells h p ty cs) (h1 : ty ≠ eo) (body : Body) : Acc n0 (h.put p body) eo es v n ds :=
  a.keep fun b _ hv => Heap.put_other (fun e => by
    subst e
    obtain ⟨all, x⟩ := a.blk hv
    unfold Cells at c
    rw [c] at x
    simp only [Option.some.injEq, Blk.mk.injEq] at x
    exact h1 x.2.1) _
end Go.Am
namespace Go.Am
open Go.Proofs
set_option maxRecDepth 100000
set_option linter.all false
attribute [local congr] obind_congr obH_congr cnd_congr chk_congr retK_congr codeK_congr
theorem nmm (h : Heap) : (nm h).mods = [] := rfl
theorem mkU2' (k : IntKind) (n m : Int) (h : Heap) : buildSliceV Try.prog 88 2 #[(0, .int k n), (1, .int k m)] h = some (.slice (some ⟨h.blks.length, 0, none⟩) 2 2, h.new (.cells [.int k n, .int k m]) 35) := by kernel_rfl
theorem litU2 (h : Heap) (n m : Nat) : SU (h.new (.cells [.int .u64 n, .int .u64 m]) 35) (.slice (some ⟨h.blks.length, 0, none⟩) 2 2) [n, m] :=
  .mk (by simp [Heap.loadN, Heap.cells?, blk_new_self]; exact ⟨rfl, rfl⟩) (.inr ⟨Nat.le_refl _, by unfold UNK; decide⟩)
theorem litW2 {h : Heap} {x y : Value} {a b : List Nat} (sx : SU h x a) (sy : SU h y b) : SM (h.new (.cells [x, y]) 88) (.slice (some ⟨h.blks.length, 0, none⟩) 2 2) [a, b] :=
  ⟨[x, y], .mk (by simp [Heap.loadN, Heap.cells?, blk_new_self]) (.inr ⟨Nat.le_refl _, by unfold UNK; decide⟩), .cons (sx.keepNew _ _) (.cons (sy.keepNew _ _) .nil)⟩
theorem mvar {h : Heap} (n : Int) (a : Option Addr) (l c : Nat) : storeV Try.prog 30 (.pointer (some ⟨h.blks.length, 0, none⟩)) (.agg #[.int .i64 n, .slice a l c]) (h.new (.cells [.int .i64 0, .slice none 0 0]) 30) = some ((h.new (.cells [.int .i64 0, .slice none 0 0]) 30).put h.blks.length (.cells [.int .i64 n, .slice a l c])) := by
  rw [stM, storeN_blk (Cells.new h 30 [.int .i64 0, .slice none 0 0]) (o := 0) (vs := [.int .i64 n, .slice a l c]) (by simp), w2_put]
theorem mvar_same (h : Heap) (body body2 : Body) (t : TypeId) : Same h ((h.new body t).put h.blks.length body2) := (Same.new h body t).put (Nat.le_refl _) body2
theorem mvar_in {n0 : Nat} {h : Heap} (hn : n0 ≤ h.blks.length) (body body2 : Body) (t : TypeId) : In n0 No h ((h.new body t).put h.blks.length body2) :=
  (In.new hn body t).trans (In.put (Nat.le_trans hn (Same.new h body t).1) (.inl hn) _)
theorem mvar_cells (h : Heap) (cs cs' : List Value) (t : TypeId) : Cells ((h.new (.cells cs) t).put h.blks.length (.cells cs')) h.blks.length t cs' := (Cells.new h t cs).put cs'
theorem ldM' {h : Heap} {p : Nat} {n : Int} {v : Value} (c : Cells h p 30 [.int .i64 n, v]) : loadV Try.prog 30 (.pointer (some ⟨p, 0, none⟩)) h = some (matV n v) := by
  rw [ldM, c.loadN (n := 2) rfl]; rfl
theorem zeros2 : zerosM 2 = [[0, 0], [0, 0]] := rfl
theorem Small.of {m : List (List Nat)} (h1 : m.length ≤ 100) (h2 : ∀ r ∈ m, r.length ≤ 100) : Small m := ⟨by omega, fun i => by
  rw [List.getD_eq_getElem?_getD]
  rcases Nat.lt_or_ge i m.length with hi | hi
  · rw [List.getElem?_eq_getElem hi]; have := h2 _ (List.getElem_mem hi); simp only [Option.getD_some]; omega
  · rw [List.getElem?_eq_none hi]; simp⟩
end Go.Am
namespace Go.Am
theorem lessV_iff (a b : List Nat) (n : Nat) (hn : b.length ≤ n) : lessV a b 0 n = true ↔ ∃ j, a.getD j 0 < b.getD j 0 := by
  unfold lessV
  rw [List.any_eq_true]
  constructor
  · rintro ⟨j, _, h⟩; exact ⟨j, of_decide_eq_true h⟩
  · rintro ⟨j, h⟩
    have hj : j < n := by
      rcases Nat.lt_or_ge j b.length with h1 | h1
      · omega
      · rw [List.getD_eq_getElem?_getD (l := b), List.getElem?_eq_none h1] at h; simp at h
    exact ⟨j, by simp [List.mem_range'_1, hj], decide_eq_true h⟩
theorem cmpV_cases (a b : List Nat) : (cmpV a b = 0 ∧ (∀ j, a.getD j 0 = b.getD j 0)) ∨ (cmpV a b = -1 ∧ (∀ j, a.getD j 0 ≤ b.getD j 0) ∧ ∃ j, a.getD j 0 < b.getD j 0) ∨
    (cmpV a b = 1 ∧ (∀ j, b.getD j 0 ≤ a.getD j 0) ∧ ∃ j, b.getD j 0 < a.getD j 0) ∨ (cmpV a b = 2 ∧ (∃ j, a.getD j 0 < b.getD j 0) ∧ ∃ j, b.getD j 0 < a.getD j 0) := by
  have h1 := lessV_iff a b (max a.length b.length) (by omega)
  have h2 := lessV_iff b a (max a.length b.length) (by omega)
  unfold cmpV
  cases e1 : lessV a b 0 (max a.length b.length) <;> cases e2 : lessV b a 0 (max a.length b.length)
  · rw [e1] at h1; rw [e2] at h2
    simp only [Bool.false_eq_true, false_iff, not_exists, Nat.not_lt] at h1 h2
    exact .inl ⟨rfl, fun j => Nat.le_antisymm (h2 j) (h1 j)⟩
  · rw [e1] at h1; rw [e2] at h2
    simp only [Bool.false_eq_true, false_iff, not_exists, Nat.not_lt] at h1
    exact .inr (.inr (.inl ⟨rfl, h1, h2.1 rfl⟩))
  · rw [e1] at h1; rw [e2] at h2
    simp only [Bool.false_eq_true, false_iff, not_exists, Nat.not_lt] at h2
    exact .inr (.inl ⟨rfl, h2, h1.1 rfl⟩)
  · rw [e1] at h1; rw [e2] at h2
    exact .inr (.inr (.inr ⟨rfl, h1.1 rfl, h2.1 rfl⟩))
theorem cmpV_le {a b : List Nat} (h : ∀ j, a.getD j 0 ≤ b.getD j 0) : cmpV a b = 0 ∨ cmpV a b = -1 := by
  rcases cmpV_cases a b with ⟨e, _⟩ | ⟨e, _⟩ | ⟨_, _, j, hj⟩ | ⟨_, _, j, hj⟩
  · exact .inl e
  · exact .inr e
  · have := h j; omega
  · have := h j; omega
theorem cmpV_self (a : List Nat) : cmpV a a = 0 := by
  rcases cmpV_cases a a with ⟨e, _⟩ | ⟨_, _, j, hj⟩ | ⟨_, _, j, hj⟩ | ⟨_, _, j, hj⟩
  · exact e
  all_goals omega
theorem joinV_comm (a b : List Nat) : joinV a b = joinV b a := by
  refine getD_ext (by rw [joinV_len, joinV_len]; omega) fun i _ => ?_
  rw [joinV_get, joinV_get]; omega
theorem joinV_again (a b : List Nat) : joinV (joinV a b) a = joinV a b := by
  refine getD_ext (by rw [joinV_len, joinV_len]; omega) fun i _ => ?_
  rw [joinV_get, joinV_get]; omega
theorem cmpV_flip (a b : List Nat) : cmpV a b = 2 ∧ cmpV b a = 2 ∨ cmpV a b = 0 ∧ cmpV b a = 0 ∨ cmpV a b = -1 ∧ cmpV b a = 1 ∨ cmpV a b = 1 ∧ cmpV b a = -1 := by
  have e : cmpV b a = cmpF (lessV b a 0 (max a.length b.length)) (lessV a b 0 (max a.length b.length)) := by unfold cmpV; rw [Nat.max_comm]
  rw [e]
  unfold cmpV
  cases lessV a b 0 (max a.length b.length) <;> cases lessV b a 0 (max a.length b.length) <;> simp [cmpF]
end Go.Am
namespace Go.Am
open Go.Proofs
set_option maxRecDepth 100000
set_option linter.all false
theorem joinM_len (a b : List (List Nat)) : (joinM a b).length = a.length := by simp [joinM]
theorem joinM_get (a b : List (List Nat)) (k : Nat) (hk : k < a.length) : (joinM a b).getD k [] = joinV (a.getD k []) (b.getD k []) := by
  rw [List.getD_eq_getElem?_getD, List.getElem?_eq_getElem (by rw [joinM_len]; exact hk)]; simp [joinM]
theorem goodM_getD {n : Int} {m : List (List Nat)} (hl : 1 ≤ n ∧ n ≤ 16 ∧ (m.length : Int) = n) (h : ∀ k, k < m.length → ((m.getD k []).length : Int) = n) : goodM n m = true := by
  rw [goodM_iff]
  refine ⟨hl, fun r hr => ?_⟩
  obtain ⟨k, hk, rfl⟩ := List.getElem_of_mem hr
  have := h k hk
  rwa [List.getD_eq_getElem?_getD, List.getElem?_eq_getElem hk] at this
theorem goodM_join {n : Int} {a b : List (List Nat)} (ga : goodM n a = true) (gb : goodM n b = true) : goodM n (joinM a b) = true := by
  have ha := ((goodM_iff n a).1 ga).1
  have hb := ((goodM_iff n b).1 gb).1
  refine goodM_getD ⟨ha.1, ha.2.1, by rw [joinM_len]; exact ha.2.2⟩ fun k hk => ?_
  rw [joinM_len] at hk
  rw [joinM_get a b k hk, joinV_len]
  have h1 := goodM_rows ga hk
  have h2 := goodM_rows gb (i := k) (by omega)
  omega
theorem joinM_comm {n : Int} {a b : List (List Nat)} (ga : goodM n a = true) (gb : goodM n b = true) : joinM a b = joinM b a := by
  have ha := ((goodM_iff n a).1 ga).1
  have hb := ((goodM_iff n b).1 gb).1
  refine llist_ext _ _ (by rw [joinM_len, joinM_len]; omega) fun j hj => ?_
  rw [joinM_len] at hj
  rw [joinM_get a b j hj, joinM_get b a j (by omega), joinV_comm]
theorem joinM_again {n : Int} {a b : List (List Nat)} (ga : goodM n a = true) (gb : goodM n b = true) : joinM (joinM a b) a = joinM a b := by
  refine llist_ext _ _ (by rw [joinM_len]) fun j hj => ?_
  rw [joinM_len] at hj
  rw [joinM_get _ _ j hj]
  rw [joinM_len] at hj
  rw [joinM_get a b j hj, joinV_again]
theorem joinV_ge (a b : List Nat) (j : Nat) : a.getD j 0 ≤ (joinV a b).getD j 0 := by
  by_cases h : j < max a.length b.length
  · have : (joinV a b).getD j 0 = max (a.getD j 0) (b.getD j 0) := by
      rw [List.getD_eq_getElem?_getD, List.getElem?_eq_getElem (by rw [joinV_len]; exact h)]; simp [joinV]
    omega
  · have : a.getD j 0 = 0 := by rw [List.getD_eq_getElem?_getD, List.getElem?_eq_none (by omega)]; rfl
    omega
theorem wiM_of {a b : List (List Nat)} : ∀ (m i : Nat), (∀ k, i ≤ k → k < i + m → wi1 a b k = true) → wiM a b i m = true
  | 0, i, h => rfl
  | m + 1, i, h => by rw [wiM_succ, h i (by omega) (by omega), wiM_of m (i + 1) fun k h1 h2 => h k (by omega) (by omega)]; rfl
theorem within_join {n : Int} {a b : List (List Nat)} (ga : goodM n a = true) (gb : goodM n b = true) : withinM n n a (joinM a b) = true := by
  unfold withinM okJ
  rw [ga, goodM_join ga gb, decide_eq_true rfl, wiM_of]
  · rfl
  · intro k _ hk
    unfold wi1
    rw [joinM_get a b k (by omega)]
    exact decide_eq_true (cmpV_le fun j => joinV_ge _ _ j)
theorem okJ_of {n : Int} {a b : List (List Nat)} (ga : goodM n a = true) (gb : goodM n b = true) : okJ n n a b = true := by unfold okJ; rw [ga, gb, decide_eq_true rfl]; rfl
theorem Small.good {n : Int} {m : List (List Nat)} (g : goodM n m = true) : Small m := by
  have h := (goodM_iff n m).1 g
  exact Small.of (by omega) fun r hr => by have := h.2 r hr; omega
theorem reads_u64s {h : Heap} {e : TypeId} (hu : Try.prog.underlying e = some (.slice 35)) {f : Nat} {cs : List Value} {d : DT} (x : Reads Try.prog h f e cs d) : ∃ v bs, cs = [v] ∧ SU h v bs ∧ (∀ b ∈ bs, b < 2 ^ 64) := by
  obtain ⟨g, l, v, css, rfl, rfl, h1, h2, h3⟩ := reads_slice hu x
  obtain ⟨zs, a, b, c⟩ := reads_ints (k := .u64) (by kernel_rfl) h2
  obtain ⟨bs, a', b', c'⟩ := ints_u64 zs c
  rw [show Try.prog.cellsOf 35 = 1 by kernel_rfl, b, ← a, b', ← a'] at h1
  exact ⟨v, bs, rfl, h1, c'⟩
theorem rows_of {h : Heap} {f : Nat} : ∀ {css : List (List Value)} {l : List DT}, All2 (fun c d => c.length = Try.prog.cellsOf 88 ∧ Reads Try.prog h f 88 c d) css l → ∃ (vs : List Value) (m : List (List Nat)), css.flatten = vs ∧ m.length = l.length ∧ All2 (SU h) vs m ∧ ∀ r ∈ m, ∀ y ∈ r, y < 2 ^ 64
  | _, _, .nil => ⟨[], [], rfl, rfl, .nil, by simp⟩
  | _, _, .cons x q => by
    obtain ⟨vs, m, e, hl, a, b⟩ := rows_of q
    obtain ⟨v, bs, rfl, s, hb⟩ := reads_u64s (by kernel_rfl) x.2
    refine ⟨v :: vs, bs :: m, by simp [e], by simp [hl], .cons s a, fun r hr => ?_⟩
    rcases List.mem_cons.1 hr with rfl | hr
    · exact hb
    · exact b r hr
end Go.Am
namespace Go.Am
open Go.Proofs
def numP : Option (List UInt8) → Nat → Nat × Option (List UInt8)
  | none, _ => (0, none)
  | some bs, most => if (getL bs).2 = 0 ∨ most < (getL bs).1 then (0, none) else ((getL bs).1, some (bs.drop (getL bs).2))
def takeP : Option (List UInt8) → Nat → List UInt8 × Option (List UInt8)
  | none, _ => ([], none)
  | some bs, n => if bs.length < n then ([], none) else (bs.take n, some (bs.drop n))
def bytesP (r : Option (List UInt8)) (most : Nat) : List UInt8 × Option (List UInt8) := takeP (numP r most).2 (numP r most).1
def endP : Option (List UInt8) → Bool
  | some [] => true
  | _ => false
theorem getLoop_le : ∀ (l : List UInt8) (n i : Nat), n < 2 ^ 64 → (getLoop n i l).1 < 2 ^ 64 ∧ (getLoop n i l).2 ≤ i + l.length
  | [], n, i, h => by simp [getLoop]
  | c :: l, n, i, h => by
    rw [getLoop]
    have hn' : n ||| (c.toNat % 128 * 2 ^ (7 * i)) % 2 ^ 64 < 2 ^ 64 := Nat.or_lt_two_pow h (Nat.mod_lt _ (by omega))
    split
    · simp
    · simp only []
      split
      · split
        · simp
        · refine ⟨hn', ?_⟩
          simp only [List.length_cons]; omega
      · have := getLoop_le l _ (i + 1) hn'
        simp only [List.length_cons]
        exact ⟨this.1, by omega⟩
theorem getL_lt (l : List UInt8) : (getL l).1 < 2 ^ 64 := (getLoop_le l 0 0 (by omega)).1
theorem getL_len (l : List UInt8) : (getL l).2 ≤ l.length := by have := (getLoop_le l 0 0 (by omega)).2; unfold getL; omega
def rbs (r : Option (List UInt8)) : List UInt8 := r.getD []
def Wr (n0 : Nat) (h : Heap) (p : Nat) (bs : List UInt8) : Prop := ∃ a c, Cells h p 126 [.slice a bs.length c] ∧ AB n0 h (.slice a bs.length c) bs ∧ blockOf (.slice a bs.length c) ≠ some p
def LoP (v : Value) (L p : Nat) : Prop := ∀ b, blockOf v = some b → L ≤ b ∧ b < p
theorem LoP.ne {v : Value} {L p : Nat} (l : LoP v L p) : blockOf v ≠ some p := fun e => by have := (l p e).2; omega
theorem LoP.to {v w : Value} {L p : Nat} (l : LoP v L p) (e : blockOf w = blockOf v) : LoP w L p := fun b hb => l b (by rw [← e]; exact hb)
theorem LoP.nil (L p : Nat) : LoP (.slice none 0 0) L p := fun b hb => by cases hb
def RdrL (L : Nat) (h : Heap) (p : Nat) (r : Option (List UInt8)) : Prop := ∃ a c, Cells h p 138 [.slice a (rbs r).length c, .bool r.isNone] ∧ SB h (.slice a (rbs r).length c) (rbs r) ∧ LoP (.slice a (rbs r).length c) L p
theorem Wr.lt {n0 : Nat} {h : Heap} {p : Nat} {bs : List UInt8} (w : Wr n0 h p bs) : p < h.blks.length := let ⟨_, _, c, _⟩ := w; c.lt
abbrev Rdr (h : Heap) (p : Nat) (r : Option (List UInt8)) : Prop := RdrL 0 h p r
theorem RdrL.dn {L : Nat} {h : Heap} {p : Nat} {r : Option (List UInt8)} (w : RdrL L h p r) : Rdr h p r := let ⟨a, c, x, y, z⟩ := w; ⟨a, c, x, y, fun b hb => ⟨Nat.zero_le _, (z b hb).2⟩⟩
theorem RdrL.lt {L : Nat} {h : Heap} {p : Nat} {r : Option (List UInt8)} (w : RdrL L h p r) : p < h.blks.length := let ⟨_, _, c, _⟩ := w; c.lt
theorem faW (p : Nat) : fieldAddrV Try.prog 126 (.pointer (some ⟨p, 0, none⟩)) 0 = some (.pointer (some ⟨p, 0, none⟩)) := by kernel_rfl
theorem faR0 (p : Nat) : fieldAddrV Try.prog 138 (.pointer (some ⟨p, 0, none⟩)) 0 = some (.pointer (some ⟨p, 0, none⟩)) := by kernel_rfl
theorem faR1 (p : Nat) : fieldAddrV Try.prog 138 (.pointer (some ⟨p, 0, none⟩)) 1 = some (.pointer (some ⟨p, 1, none⟩)) := by kernel_rfl
theorem bdW : buildV Try.prog 126 #[] = some (.agg #[.slice none 0 0]) := by kernel_rfl
theorem bxW (x : Value) (h : Heap) : boxV Try.prog 126 (.agg #[x]) h = some (.pointer (some ⟨h.blks.length, 0, none⟩), h.new (.cells [x]) 126) := by kernel_rfl
theorem bdR (a : Option Addr) (n c : Nat) : buildV Try.prog 138 #[(0, .slice a n c)] = some (.agg #[.slice a n c, .bool false]) := by kernel_rfl
theorem bxR (x y : Value) (h : Heap) : boxV Try.prog 138 (.agg #[x, y]) h = some (.pointer (some ⟨h.blks.length, 0, none⟩), h.new (.cells [x, y]) 138) := by kernel_rfl
theorem spec_NewWriter (h : Heap) : ∃ h', evC Try.prog 44 #[] h = some (.pointer (some ⟨h.blks.length, 0, none⟩), h') ∧ HExt h h' ∧ Wr h.blks.length h' h.blks.length [] ∧ h'.blks.length = h.blks.length + 1 := by
  rw [call44, c44_0_eq]
  simp -implicitDefEqProofs only [bdW, bxW, ↓cnd_true, ↓cnd_false, ↓Option.bind_some, ↓obH_some', bin_add, bin_sub, bin_mul, bin_lss, bin_leq, bin_gtr, bin_geq, bin_eql, bin_neq, un_not, un_neg, Option.bind_some, Option.bind_none, Option.map_some, cnd_true, cnd_false, pickV_true, pickV_false, gd_true, gd_false, gdV_true, gdV_false, gdH_true, gdH_false, gdS_true, gdS_false, wt_ff, wt_tt, wt_ft, wt_tf, wt_undef, obH_some', extractV_tuple, nilCheckV_ptr, againK_normal, againK_exit, againK_ret, blockK_normal, blockK_same, blockK_ret, seqK_normal, seqK_exit, seqK_ret, fin_done, if_true', if_false', Bool.not_true, Bool.not_false, idx0, idx1, idx2, idx3, idx4, chk_nil_l, chk_nil_r, done_nm]
  rw [ret44, fin_done]
  exact ⟨_, rfl, done_ext' (In.new (S := No) (by simp) _ _), ⟨none, 0, (Cells.new (nm h) _ _).done, .nil, by simp [blockOf]⟩, by simp [Heap.new]⟩
theorem Wr.put {n0 : Nat} {h : Heap} {p : Nat} {a : Option Addr} {bs : List UInt8} {c : Nat} {cs : List Value} (hc : Cells h p 126 cs) (ha : AB n0 h (.slice a bs.length c) bs) (hb : blockOf (.slice a bs.length c) ≠ some p) :
    Wr n0 (h.put p (.cells [.slice a bs.length c])) p bs := ⟨a, c, hc.put _, ha.keepPut hb _, hb⟩
theorem Wr.nm {n0 : Nat} {h : Heap} {p : Nat} {bs : List UInt8} (w : Wr n0 h p bs) : Wr n0 (Am.nm h) p bs := let ⟨a, c, x, y, z⟩ := w; ⟨a, c, x, y.keep fun _ _ _ => rfl, z⟩
theorem Wr.done {n0 : Nat} {h0 h : Heap} {p : Nat} {bs : List UInt8} (w : Wr n0 h p bs) : Wr n0 (Am.done h0 h) p bs := let ⟨a, c, x, y, z⟩ := w; ⟨a, c, x.done, y.done, z⟩
theorem Wr.same {n0 : Nat} {h h' : Heap} {p : Nat} {bs : List UInt8} (w : Wr n0 h p bs) (e : Same h h') : Wr n0 h' p bs := let ⟨a, c, x, y, z⟩ := w; ⟨a, c, x.same e, y.same e, z⟩
theorem Wr.ext {n0 : Nat} {h h' : Heap} {p : Nat} {bs : List UInt8} (w : Wr n0 h p bs) (e : HExt h h') : Wr n0 h' p bs := let ⟨a, c, x, y, z⟩ := w; ⟨a, c, x.ext e, y.keep fun b hb _ => e.old b hb, z⟩
theorem Wr.up {n0 n1 : Nat} {h : Heap} {p : Nat} {bs : List UInt8} (w : Wr n0 h p bs) (hn : n1 ≤ n0) : Wr n1 h p bs := let ⟨a, c, x, y, z⟩ := w; ⟨a, c, x, y.up hn, z⟩
theorem spec_WNum {n0 : Nat} {h : Heap} {p : Nat} {bs : List UInt8} (w : Wr n0 h p bs) (hn0 : n0 ≤ h.blks.length) (n : Nat) (hn : n < 2 ^ 64) (hl : bs.length < 2 ^ 39) :
    ∃ h', evC Try.prog 45 #[.pointer (some ⟨p, 0, none⟩), .int .u64 n] h = some (.tuple #[], h') ∧ HMod (Just p) h h' ∧ Wr h.blks.length h' p (bs ++ putL n) := by
  rw [call45, c45_0_eq]
  obtain ⟨a, c, hc, ha, hne⟩ := w
  obtain ⟨a2, c2, h2, e2,Ac, ab⟩ := spec_PutB n hn (nm h) _ bs ha.sb.nm hl
  simp -implicitDefEqProofs only [faW, ldB, hc.nm.load, List.getElem?_cons_zero, e2, stB, storeN_blk (hc.nm.ext Ac) (o := 0) (vs := [.slice a2 (bs ++ putL n).length c2]) (by simp), ↓cnd_true, ↓cnd_false, ↓Option.bind_some, ↓obH_some', bin_add, bin_sub, bin_mul, bin_lss, bin_leq, bin_gtr, bin_geq, bin_eql, bin_neq, un_not, un_neg, Option.bind_some, Option.bind_none, Option.map_some, cnd_true, cnd_false, pickV_true, pickV_false, gd_true, gd_false, gdV_true, gdV_false, gdH_true, gdH_false, gdS_true, gdS_false, wt_ff, wt_tt, wt_ft, wt_tf, wt_undef, obH_some', extractV_tuple, nilCheckV_ptr, againK_normal, againK_exit, againK_ret, blockK_normal, blockK_same, blockK_ret, seqK_normal, seqK_exit, seqK_ret, fin_done, if_true', if_false', Bool.not_true, Bool.not_false, idx0, idx1, idx2, idx3, idx4, chk_nil_l, chk_nil_r, done_nm]
  rw [retn45, fin_done]
  refine ⟨_, rfl, done_mod ((Ac.inn (by simp)).trans (In.put (by have := Ac.len; simpa using this) (.inr (show Just p p from rfl)) _)), ?_⟩
  simp only [List.take_zero, List.nil_append, List.length_singleton, Nat.zero_add, List.drop_succ_cons, List.drop_nil, List.append_nil]
  exact (Wr.put (hc.nm.ext Ac) ab (ab.ne hc.lt)).done
theorem spec_WDone {n0 : Nat} {h : Heap} {p : Nat} {bs : List UInt8} (w : Wr n0 h p bs) (hl : bs.length < 2 ^ 43) :
    ∃ a c h', evC Try.prog 46 #[.pointer (some ⟨p, 0, none⟩)] h = some (.slice a bs.length c, h') ∧ HExt h h' ∧ AB h.blks.length h' (.slice a bs.length c) bs := by
  rw [call46, c46_0_eq]
  obtain ⟨a, c, hc, ha, hne⟩ := w
  obtain ⟨a2, c2, h2, e2,Ac, ab⟩ := spec_Clone (nm h) _ bs ha.sb.nm hl
  simp -implicitDefEqProofs only [faW, ldB, hc.nm.load, List.getElem?_cons_zero, e2, ↓cnd_true, ↓cnd_false, ↓Option.bind_some, ↓obH_some', bin_add, bin_sub, bin_mul, bin_lss, bin_leq, bin_gtr, bin_geq, bin_eql, bin_neq, un_not, un_neg, Option.bind_some, Option.bind_none, Option.map_some, cnd_true, cnd_false, pickV_true, pickV_false, gd_true, gd_false, gdV_true, gdV_false, gdH_true, gdH_false, gdS_true, gdS_false, wt_ff, wt_tt, wt_ft, wt_tf, wt_undef, obH_some', extractV_tuple, nilCheckV_ptr, againK_normal, againK_exit, againK_ret, blockK_normal, blockK_same, blockK_ret, seqK_normal, seqK_exit, seqK_ret, fin_done, if_true', if_false', Bool.not_true, Bool.not_false, idx0, idx1, idx2, idx3, idx4, chk_nil_l, chk_nil_r, done_nm]
  rw [ret46, fin_done]
  exact ⟨a2, c2, _, rfl, done_ext' (Ac.inn (by simp)), ab.done⟩
theorem spec_NewReaderL {h : Heap} {x : Value} {bs : List UInt8} (hx : SB h x bs) (hl : bs.length < 2 ^ 43) :
    ∃ h' p, evC Try.prog 53 #[x] h = some (.pointer (some ⟨p, 0, none⟩), h') ∧ HExt h h' ∧ RdrL h.blks.length h' p (some bs) ∧ h.blks.length ≤ p := by
  rw [call53, c53_0_eq]
  obtain ⟨a2, c2, h2, e2,Ac, ab⟩ := spec_Clone (nm h) _ bs hx.nm hl
  simp -implicitDefEqProofs only [e2, bdR, bxR, ↓cnd_true, ↓cnd_false, ↓Option.bind_some, ↓obH_some', bin_add, bin_sub, bin_mul, bin_lss, bin_leq, bin_gtr, bin_geq, bin_eql, bin_neq, un_not, un_neg, Option.bind_some, Option.bind_none, Option.map_some, cnd_true, cnd_false, pickV_true, pickV_false, gd_true, gd_false, gdV_true, gdV_false, gdH_true, gdH_false, gdS_true, gdS_false, wt_ff, wt_tt, wt_ft, wt_tf, wt_undef, obH_some', extractV_tuple, nilCheckV_ptr, againK_normal, againK_exit, againK_ret, blockK_normal, blockK_same, blockK_ret, seqK_normal, seqK_exit, seqK_ret, fin_done, if_true', if_false', Bool.not_true, Bool.not_false, idx0, idx1, idx2, idx3, idx4, chk_nil_l, chk_nil_r, done_nm]
  rw [ret53, fin_done]
  exact ⟨_, _, rfl, done_ext' ((Ac.inn (by simp)).trans (In.new Ac.len _ _)), ⟨a2, c2, (Cells.new h2 _ _).done, (ab.sb.keepNew _ _).done, fun b e => ⟨ab.ge e, ab.sb.lt e⟩⟩, Ac.len⟩
theorem spec_NewReader {h : Heap} {x : Value} {bs : List UInt8} (hx : SB h x bs) (hl : bs.length < 2 ^ 43) :
    ∃ h' p, evC Try.prog 53 #[x] h = some (.pointer (some ⟨p, 0, none⟩), h') ∧ HExt h h' ∧ Rdr h' p (some bs) ∧ h.blks.length ≤ p := by
  obtain ⟨h', p, e, x, r, l⟩ := spec_NewReaderL hx hl
  exact ⟨h', p, e, x, r.dn, l⟩
theorem RdrL.nm {L : Nat} {h : Heap} {p : Nat} {r : Option (List UInt8)} (w : RdrL L h p r) : RdrL L (Am.nm h) p r := let ⟨a, c, x, y, z⟩ := w; ⟨a, c, x, y.nm, z⟩
theorem RdrL.done {L : Nat} {h0 h : Heap} {p : Nat} {r : Option (List UInt8)} (w : RdrL L h p r) : RdrL L (Am.done h0 h) p r := let ⟨a, c, x, y, z⟩ := w; ⟨a, c, x.done, y.done, z⟩
theorem RdrL.same {L : Nat} {h h' : Heap} {p : Nat} {r : Option (List UInt8)} (w : RdrL L h p r) (e : Same h h') : RdrL L h' p r := let ⟨a, c, x, y, z⟩ := w; ⟨a, c, x.same e, y.same e, z⟩
theorem RdrL.keepPut {L : Nat} {h : Heap} {p q : Nat} {r : Option (List UInt8)} (w : RdrL L h p r) (hq : p < q) (body : Body) : RdrL L (h.put q body) p r :=
  let ⟨a, c, x, y, z⟩ := w; ⟨a, c, x.keepPut (by omega) _, y.keepPut (fun e => by have := (z _ e).2; omega) _, z⟩
theorem RdrL.ext {L : Nat} {h h' : Heap} {p : Nat} {r : Option (List UInt8)} (w : RdrL L h p r) (e : HExt h h') : RdrL L h' p r := let ⟨a, c, x, y, z⟩ := w; ⟨a, c, x.ext e, y.ext e, z⟩
theorem spec_spoil {L : Nat} {h : Heap} {p : Nat} {r : Option (List UInt8)} (w : RdrL L h p r) (b : Bool) :
    ∃ h', evC Try.prog 78 #[.pointer (some ⟨p, 0, none⟩), .bool b] h = some (.bool (b || r.isNone), h') ∧ HMod (Just p) h h' ∧ RdrL L h' p (if b then none else r) := by
  rw [call78, c78_0_eq]
  obtain ⟨a, c, hc, ha, hne⟩ := w
  cases b with
  | true =>
    have hc1 := hc.nm.put [Value.slice none 0 0, .bool r.isNone]
    have hc2 := hc1.put [Value.slice none 0 0, .bool true]
    simp -implicitDefEqProofs only [faR0, faR1, stB, stBool, storeN_blk hc.nm (o := 0) (vs := [.slice none 0 0]) (by simp), List.take_zero, List.nil_append, List.length_singleton, Nat.zero_add, List.drop_succ_cons, List.drop_zero, List.cons_append, List.singleton_append,
      storeN_blk hc1 (o := 1) (vs := [.bool true]) (by simp), List.take_succ_cons, List.drop_nil, Nat.reduceAdd, List.append_nil, c78_1_eq, ldBool, hc2.load, List.getElem?_cons_zero, List.getElem?_cons_succ, ↓cnd_true, ↓cnd_false, ↓Option.bind_some, ↓obH_some', bin_add, bin_sub, bin_mul, bin_lss, bin_leq, bin_gtr, bin_geq, bin_eql, bin_neq, un_not, un_neg, Option.bind_some, Option.bind_none, Option.map_some, cnd_true, cnd_false, pickV_true, pickV_false, gd_true, gd_false, gdV_true, gdV_false, gdH_true, gdH_false, gdS_true, gdS_false, wt_ff, wt_tt, wt_ft, wt_tf, wt_undef, obH_some', extractV_tuple, nilCheckV_ptr, againK_normal, againK_exit, againK_ret, blockK_normal, blockK_same, blockK_ret, seqK_normal, seqK_exit, seqK_ret, fin_done, if_true', if_false', Bool.not_true, Bool.not_false, idx0, idx1, idx2, idx3, idx4, chk_nil_l, chk_nil_r, done_nm]
    rw [ret78, fin_done]
    exact ⟨_, rfl, done_mod ((In.put (by simp) (.inr (show Just p p from rfl)) _).trans (In.put (by rw [Heap.put_len]; simp) (.inr (show Just p p from rfl)) _)), ⟨none, 0, hc2.done, .nil, LoP.nil _ _⟩⟩
  | false =>
    simp -implicitDefEqProofs only [c78_1_eq, faR1, ldBool, hc.nm.load, List.getElem?_cons_zero, List.getElem?_cons_succ, ↓cnd_true, ↓cnd_false, ↓Option.bind_some, ↓obH_some', bin_add, bin_sub, bin_mul, bin_lss, bin_leq, bin_gtr, bin_geq, bin_eql, bin_neq, un_not, un_neg, Option.bind_some, Option.bind_none, Option.map_some, cnd_true, cnd_false, pickV_true, pickV_false, gd_true, gd_false, gdV_true, gdV_false, gdH_true, gdH_false, gdS_true, gdS_false, wt_ff, wt_tt, wt_ft, wt_tf, wt_undef, obH_some', extractV_tuple, nilCheckV_ptr, againK_normal, againK_exit, againK_ret, blockK_normal, blockK_same, blockK_ret, seqK_normal, seqK_exit, seqK_ret, fin_done, if_true', if_false', Bool.not_true, Bool.not_false, idx0, idx1, idx2, idx3, idx4, chk_nil_l, chk_nil_r, done_nm]
    rw [ret78, fin_done]
    exact ⟨_, by simp, done_mod (In.refl (by simp)), ⟨a, c, hc.nm.done, ha.nm.done, hne⟩⟩
theorem RdrL.put {L : Nat} {h : Heap} {p : Nat} {a : Option Addr} {r : Option (List UInt8)} {c : Nat} {cs : List Value} (hc : Cells h p 138 cs) (ha : SB h (.slice a (rbs r).length c) (rbs r)) (hb : LoP (.slice a (rbs r).length c) L p) :
    RdrL L (h.put p (.cells [.slice a (rbs r).length c, .bool r.isNone])) p r := ⟨a, c, hc.put _, ha.keepPut hb.ne _, hb⟩
theorem spec_RNum {L : Nat} {h : Heap} {p : Nat} {r : Option (List UInt8)} (w : RdrL L h p r) (most : Nat) (hm : most < 2 ^ 64) (hl : (rbs r).length < 2 ^ 40) :
    ∃ h', evC Try.prog 54 #[.pointer (some ⟨p, 0, none⟩), .int .u64 most] h = some (.int .u64 (numP r most).1, h') ∧ HMod (Just p) h h' ∧ RdrL L h' p (numP r most).2 := by
  rw [call54, c54_0_eq]
  have w0 := w
  obtain ⟨a, c, hc, ha, hne⟩ := w
  obtain ⟨bs, hbs⟩ : ∃ bs, rbs r = bs := ⟨_, rfl⟩
  rw [hbs] at hl hc ha hne
  have hg := spec_Get (Am.nm h) _ bs ha.nm.row hl
  have h64 := getL_lt bs
  have hle := getL_len bs
  simp -implicitDefEqProofs only [faR0, faR1, ldB, hc.nm.load, List.getElem?_cons_zero, hg, ↓cnd_true, ↓cnd_false, ↓Option.bind_some, ↓obH_some', bin_add, bin_sub, bin_mul, bin_lss, bin_leq, bin_gtr, bin_geq, bin_eql, bin_neq, un_not, un_neg, Option.bind_some, Option.bind_none, Option.map_some, cnd_true, cnd_false, pickV_true, pickV_false, gd_true, gd_false, gdV_true, gdV_false, gdH_true, gdH_false, gdS_true, gdS_false, wt_ff, wt_tt, wt_ft, wt_tf, wt_undef, obH_some', extractV_tuple, nilCheckV_ptr, againK_normal, againK_exit, againK_ret, blockK_normal, blockK_same, blockK_ret, seqK_normal, seqK_exit, seqK_ret, fin_done, if_true', if_false', Bool.not_true, Bool.not_false, idx0, idx1, idx2, idx3, idx4, chk_nil_l, chk_nil_r, done_nm]
  by_cases hbad : (getL bs).2 = 0 ∨ most < (getL bs).1
  · obtain ⟨h2, e2,Ac, w2⟩ := spec_spoil w0.nm true
    have hp : numP r most = (0, none) := by
      cases r with
      | none => rfl
      | some bs' => have : bs' = bs := hbs
                    subst this
                    simp only [numP]; exact if_pos hbad
    rw [hp]
    by_cases h1 : (getL bs).2 = 0
    · simp -implicitDefEqProofs only [h1, Int.natCast_zero, decide_true, e2, Bool.true_or, ↓cnd_true, ↓cnd_false, ↓Option.bind_some, ↓obH_some', bin_add, bin_sub, bin_mul, bin_lss, bin_leq, bin_gtr, bin_geq, bin_eql, bin_neq, un_not, un_neg, Option.bind_some, Option.bind_none, Option.map_some, cnd_true, cnd_false, pickV_true, pickV_false, gd_true, gd_false, gdV_true, gdV_false, gdH_true, gdH_false, gdS_true, gdS_false, wt_ff, wt_tt, wt_ft, wt_tf, wt_undef, obH_some', extractV_tuple, nilCheckV_ptr, againK_normal, againK_exit, againK_ret, blockK_normal, blockK_same, blockK_ret, seqK_normal, seqK_exit, seqK_ret, fin_done, if_true', if_false', Bool.not_true, Bool.not_false, idx0, idx1, idx2, idx3, idx4, chk_nil_l, chk_nil_r, done_nm]
      rw [ret54, fin_done]
      exact ⟨_, rfl, done_mod (Ac.inn (by simp) fun _ _ h => h), w2.done⟩
    · have h3 : most < (getL bs).1 := by omega
      simp -implicitDefEqProofs (disch := omega) only [dcF, dcT, e2, Bool.true_or, ↓cnd_true, ↓cnd_false, ↓Option.bind_some, ↓obH_some', bin_add, bin_sub, bin_mul, bin_lss, bin_leq, bin_gtr, bin_geq, bin_eql, bin_neq, un_not, un_neg, Option.bind_some, Option.bind_none, Option.map_some, cnd_true, cnd_false, pickV_true, pickV_false, gd_true, gd_false, gdV_true, gdV_false, gdH_true, gdH_false, gdS_true, gdS_false, wt_ff, wt_tt, wt_ft, wt_tf, wt_undef, obH_some', extractV_tuple, nilCheckV_ptr, againK_normal, againK_exit, againK_ret, blockK_normal, blockK_same, blockK_ret, seqK_normal, seqK_exit, seqK_ret, fin_done, if_true', if_false', Bool.not_true, Bool.not_false, idx0, idx1, idx2, idx3, idx4, chk_nil_l, chk_nil_r, done_nm]
      rw [ret54, fin_done]
      exact ⟨_, rfl, done_mod (Ac.inn (by simp) fun _ _ h => h), w2.done⟩
  · obtain rfl : r = some bs := by
      cases r with
      | none => have : [] = bs := hbs
                subst this
                exact absurd (.inl rfl) hbad
      | some bs' => have : bs' = bs := hbs
                    rw [this]
    have hp : numP (some bs) most = ((getL bs).1, some (bs.drop (getL bs).2)) := by simp only [numP]; exact if_neg hbad
    rw [hp]
    obtain ⟨h2, e2,Ac, w2⟩ := spec_spoil w0.nm false
    obtain ⟨a2, c2, hc2, ha2, hne2⟩ := w2
    simp only [Bool.false_eq_true, if_false, rbs, Option.getD_some] at hc2 ha2 hne2
    obtain ⟨v3, e3, s3, b3⟩ := ha2.sub etB.under etB.size (i := (getL bs).2) (j := bs.length) (lo := some (.int .i64 ((getL bs).2 : Nat))) (hi := none) hle (Nat.le_refl _) (natOf_int .i64 _) rfl
    obtain ⟨a4, c4, rfl⟩ := s3.shape
    have s4 : SB h2 (.slice a4 (bs.drop (getL bs).2).length c4) (bs.drop (getL bs).2) := by
      have el : (bs.drop (getL bs).2).length = bs.length - (getL bs).2 := by simp
      unfold SB
      rw [el]
      rw [Nat.mul_one, Nat.mul_one, ← List.map_drop, List.take_of_length_le (by simp)] at s3
      exact s3
    have el : bs.length - (getL bs).2 = (bs.drop (getL bs).2).length := by simp
    rw [el] at e3 b3
    simp -implicitDefEqProofs (disch := omega) only [dcF, dcT, e2, Bool.false_or, Option.isNone_some, faR0, ldB, hc2.load, List.getElem?_cons_zero, e3, stB, storeN_blk hc2 (o := 0) (vs := [.slice a4 (bs.drop (getL bs).2).length c4]) (by simp), ↓cnd_true, ↓cnd_false, ↓Option.bind_some, ↓obH_some', bin_add, bin_sub, bin_mul, bin_lss, bin_leq, bin_gtr, bin_geq, bin_eql, bin_neq, un_not, un_neg, Option.bind_some, Option.bind_none, Option.map_some, cnd_true, cnd_false, pickV_true, pickV_false, gd_true, gd_false, gdV_true, gdV_false, gdH_true, gdH_false, gdS_true, gdS_false, wt_ff, wt_tt, wt_ft, wt_tf, wt_undef, obH_some', extractV_tuple, nilCheckV_ptr, againK_normal, againK_exit, againK_ret, blockK_normal, blockK_same, blockK_ret, seqK_normal, seqK_exit, seqK_ret, fin_done, if_true', if_false', Bool.not_true, Bool.not_false, idx0, idx1, idx2, idx3, idx4, chk_nil_l, chk_nil_r, done_nm]
    rw [ret54, fin_done]
    refine ⟨_, rfl, done_mod ((Ac.inn (by simp) fun _ _ h => h).trans (In.put (by have := Ac.len; simpa using this) (.inr (show Just p p from rfl)) _)), ?_⟩
    exact (RdrL.put (r := some (bs.drop (getL bs).2)) hc2 s4 (hne2.to b3)).done
theorem numP_le (r : Option (List UInt8)) (most : Nat) : (numP r most).1 ≤ most ∧ (numP r most).1 < 2 ^ 64 ∧ (rbs (numP r most).2).length ≤ (rbs r).length ∧ ((numP r most).2 = none → (numP r most).1 = 0) := by
  cases r with
  | none => simp [numP]
  | some bs =>
    simp only [numP]
    split
    · simp [rbs]
    · rename_i h
      have := getL_lt bs
      refine ⟨by omega, by omega, by simp [rbs], by simp⟩
theorem takeP_le (r : Option (List UInt8)) (n : Nat) : (takeP r n).1.length ≤ (rbs r).length ∧ (rbs (takeP r n).2).length ≤ (rbs r).length := by
  cases r with
  | none => simp [takeP]
  | some bs =>
    simp only [takeP]
    split
    · simp [rbs]
    · simp [rbs]; omega
theorem spec_REnd {L : Nat} {h : Heap} {p : Nat} {r : Option (List UInt8)} (w : RdrL L h p r) :
    evC Try.prog 57 #[.pointer (some ⟨p, 0, none⟩)] h = some (.bool (endP r), h) := by
  rw [call57, c57_0_eq]
  obtain ⟨a, c, hc, ha, hne⟩ := w
  cases r with
  | none =>
    simp -implicitDefEqProofs only [faR0, faR1, ldB, ldBool, hc.nm.load, List.getElem?_cons_zero, List.getElem?_cons_succ, Option.isNone_none, ↓cnd_true, ↓cnd_false, ↓Option.bind_some, ↓obH_some', bin_add, bin_sub, bin_mul, bin_lss, bin_leq, bin_gtr, bin_geq, bin_eql, bin_neq, un_not, un_neg, Option.bind_some, Option.bind_none, Option.map_some, cnd_true, cnd_false, pickV_true, pickV_false, gd_true, gd_false, gdV_true, gdV_false, gdH_true, gdH_false, gdS_true, gdS_false, wt_ff, wt_tt, wt_ft, wt_tf, wt_undef, obH_some', extractV_tuple, nilCheckV_ptr, againK_normal, againK_exit, againK_ret, blockK_normal, blockK_same, blockK_ret, seqK_normal, seqK_exit, seqK_ret, fin_done, if_true', if_false', Bool.not_true, Bool.not_false, idx0, idx1, idx2, idx3, idx4, chk_nil_l, chk_nil_r, done_nm]
    rw [ret57, fin_done]
    rfl
  | some bs =>
    simp -implicitDefEqProofs only [faR0, faR1, ldB, ldBool, hc.nm.load, List.getElem?_cons_zero, List.getElem?_cons_succ, Option.isNone_some, ha.nm.row.len_eq etB.under, ↓cnd_true, ↓cnd_false, ↓Option.bind_some, ↓obH_some', bin_add, bin_sub, bin_mul, bin_lss, bin_leq, bin_gtr, bin_geq, bin_eql, bin_neq, un_not, un_neg, Option.bind_some, Option.bind_none, Option.map_some, cnd_true, cnd_false, pickV_true, pickV_false, gd_true, gd_false, gdV_true, gdV_false, gdH_true, gdH_false, gdS_true, gdS_false, wt_ff, wt_tt, wt_ft, wt_tf, wt_undef, obH_some', extractV_tuple, nilCheckV_ptr, againK_normal, againK_exit, againK_ret, blockK_normal, blockK_same, blockK_ret, seqK_normal, seqK_exit, seqK_ret, fin_done, if_true', if_false', Bool.not_true, Bool.not_false, idx0, idx1, idx2, idx3, idx4, chk_nil_l, chk_nil_r, done_nm]
    rw [ret57, fin_done]
    cases bs with
    | nil => rfl
    | cons b bs => 
      have : decide (((rbs (some (b :: bs))).length : Int) = 0) = false := decide_eq_false (by simp [rbs]; omega)
      rw [this]; rfl
end Go.Am
namespace Go.Am
theorem sizeN_pos (n : Nat) : 1 ≤ sizeN n := by rw [sizeN]; split <;> omega
theorem sizeN_up (n : Nat) (h : 0 < n) : sizeN (n * 128 + 5) = sizeN n + 1 := by
  rw [sizeN, if_neg (by omega), show (n * 128 + 5) / 128 = n by omega]
theorem sizeN_ge (n : Nat) : ∀ k, 2 ^ (7 * k) ≤ n → k + 1 ≤ sizeN n := by
  induction n using Nat.strongRecOn with
  | _ n ih =>
    intro k hk
    cases k with
    | zero => have := sizeN_pos n; omega
    | succ k =>
      have e : 2 ^ (7 * (k + 1)) = 2 ^ (7 * k) * 128 := by rw [Nat.mul_add, Nat.pow_add]
      have hp : 0 < 2 ^ (7 * k) := Nat.two_pow_pos _
      rw [sizeN, if_neg (by omega)]
      have := ih (n / 128) (by omega) k (by rw [Nat.le_div_iff_mul_le (by omega)]; omega)
      omega
theorem getLoop_more : ∀ (l : List UInt8) (n i : Nat), (∀ c ∈ l, 128 ≤ c.toNat) → getLoop n i l = (0, 0)
  | [], n, i, _ => rfl
  | c :: l, n, i, h => by
    rw [getLoop]
    split
    · rfl
    · have := h c (by simp)
      simp only []
      rw [if_neg (by omega)]
      exact getLoop_more l _ _ fun d hd => h d (by simp [hd])
theorem putL_take (n : Nat) : ∀ (a : Nat), a < (putL n).length → ∀ c ∈ (putL n).take a, 128 ≤ c.toNat := by
  induction n using Nat.strongRecOn with
  | _ n ih =>
    intro a ha c hc
    rw [putL] at ha hc
    split at hc
    · rename_i h
      rw [if_pos h] at ha
      simp at ha
      subst ha
      simp at hc
    · rename_i h
      rw [if_neg h] at ha
      cases a with
      | zero => simp at hc
      | succ a =>
        rw [List.take_succ_cons] at hc
        rcases List.mem_cons.1 hc with rfl | hc
        · simp; omega
        · exact ih (n / 128) (by omega) a (by simpa using ha) c hc
theorem getL_cut (n a : Nat) (ha : a < (putL n).length) : getL ((putL n).take a) = (0, 0) := getLoop_more _ _ _ (putL_take n a ha)
end Go.Am
namespace Go.Am
open Go.Proofs
theorem bin_quo64 (P : Program) (t : TypeId) (xo yo : Operand) (a b : Int) (ha : 0 ≤ a) (ha' : a < 2 ^ 64) (hb : 0 < b) : binV P .quo t xo yo (.int .u64 a) (.int .u64 b) = some (.int .u64 ((a.toNat / b.toNat : Nat) : Int)) := by
  refine bin_int t xo yo .u64 .u64 a b .quo rfl ?_
  have h1 : ¬ (b = 0) := by omega
  have e : ((a.toNat / b.toNat : Nat) : Int) = a.tdiv b := by
    rw [Int.tdiv_eq_ediv_of_nonneg ha]
    push_cast
    rw [Int.toNat_of_nonneg ha, Int.toNat_of_nonneg (by omega)]
  have hlt : ((a.toNat / b.toNat : Nat) : Int) < 2 ^ 64 := by
    have := Nat.div_le_self a.toNat b.toNat
    omega
  simp only [eqGuard,Go.binOp,Op.intDiv]
  rw [if_neg h1, ← e, wrap_u64 (Int.natCast_nonneg _) hlt]
  rfl
theorem bin_rem64 (P : Program) (t : TypeId) (xo yo : Operand) (a b : Int) (ha : 0 ≤ a) (hb : 0 < b) : binV P .rem t xo yo (.int .u64 a) (.int .u64 b) = some (.int .u64 ((a.toNat % b.toNat : Nat) : Int)) := by
  refine bin_int t xo yo .u64 .u64 a b .rem rfl ?_
  have h1 : ¬ (b = 0) := by omega
  have e : ((a.toNat % b.toNat : Nat) : Int) = a.tmod b := by
    rw [Int.tmod_eq_emod_of_nonneg ha]
    push_cast
    rw [Int.toNat_of_nonneg ha, Int.toNat_of_nonneg (by omega)]
  simp only [eqGuard,Go.binOp,Op.intDiv]
  rw [if_neg h1, ← e]
  rfl
theorem add128 (t : TypeId) (xo yo : Operand) (n : Nat) : binV Try.prog .add t xo yo (byteV (UInt8.ofNat (n % 128))) (.int .u8 128) = some (byteV (UInt8.ofNat (n % 128 + 128))) := by
  unfold byteV
  rw [bin_add]
  have e1 : (UInt8.ofNat (n % 128)).toNat = n % 128 := by simp; omega
  have e2 : (UInt8.ofNat (n % 128 + 128)).toNat = n % 128 + 128 := by simp; omega
  rw [e1, e2]
  have : IntKind.wrap .u8 (((n % 128 : Nat) : Int) + 128) = ((n % 128 + 128 : Nat) : Int) := by rw [wrap_u8 (by omega) (by omega)]; omega
  rw [this]
theorem rput_loop (h0 : Heap) (n : Nat) : ∀ (h : Heap) (v : Value) (bs : List UInt8) (Ac Ad Ae Af Ag Ah Ai Aj Ak Al An Ao Ap Aq Ar As Au Av Aw Ax Ay Az : Value), n < 2 ^ 64 → bs.length + sizeN n < 2 ^ 40 → In h0.blks.length No (nm h0) h → AB h0.blks.length h v bs →
    ∃ a c h', loopK Try.prog (evC Try.prog) c83_1 ⟨#[v, .int .u64 n,Ac,Ad,Ae,Af,Ag,Ah,Ai,Aj,Ak,Al,An,Ao,Ap,Aq,Ar,As,Au,Av,Aw,Ax,Ay,Az], h⟩ (blockK 0 (seqK Try.prog (evC Try.prog) c83_2 (retK Try.f83 Try.prog h0))) =
      some (.slice a (bs ++ putL n).length c, h') ∧ HExt h0 h' ∧ AB h0.blks.length h' (.slice a (bs ++ putL n).length c) (bs ++ putL n) := by
  induction n using Nat.strongRecOn with
  | _ n ih =>
    intro h v bs Ac Ad Ae Af Ag Ah Ai Aj Ak Al An Ao Ap Aq Ar As Au Av Aw Ax Ay Az hn hk hin ha
    rw [loopK_eq evC_m, c83_1_eq]
    have hle : h0.blks.length ≤ h.blks.length := hin.len
    by_cases hge : 128 ≤ n
    · have f3 : sizeN n = sizeN (n / 128) + 1 := by rw [sizeN, if_neg (by omega)]
      obtain ⟨a, c, h', e1, e2, e3, _⟩ := app_b hle ha (UInt8.ofNat (n % 128 + 128)) (by omega)
      simp -implicitDefEqProofs (disch := omega) only [dcT, dcF, bin_rem64, bin_quo64, Int.toNat_natCast, Int.reduceToNat, cvB8, add128, mkBb, e1, ↓cnd_true, ↓cnd_false, ↓Option.bind_some, ↓obH_some', bin_add, bin_sub, bin_mul, bin_lss, bin_leq, bin_gtr, bin_geq, bin_eql, bin_neq, un_not, un_neg, Option.bind_some, Option.bind_none, Option.map_some, cnd_true, cnd_false, pickV_true, pickV_false, gd_true, gd_false, gdV_true, gdV_false, gdH_true, gdH_false, gdS_true, gdS_false, wt_ff, wt_tt, wt_ft, wt_tf, wt_undef, obH_some', extractV_tuple, nilCheckV_ptr, againK_normal, againK_exit, againK_ret, blockK_normal, blockK_same, blockK_ret, seqK_normal, seqK_exit, seqK_ret, fin_done, if_true', if_false', Bool.not_true, Bool.not_false, idx0, idx1, idx2, idx3, idx4, chk_nil_l, chk_nil_r, done_nm]
      obtain ⟨a2, c2, h2, g1, g2, g3⟩ := ih (n / 128) (by omega) h' _ _ _ _ _ _ _ _ _ _ _ _ _ _ _ _ _ _ _ _ _ _ _ _ (by omega) (by simp only [List.length_append, List.length_singleton]; omega) (hin.trans e3.inn) e2
      have e : bs ++ putL n = bs ++ [UInt8.ofNat (n % 128 + 128)] ++ putL (n / 128) := by rw [putL, if_neg (by omega)]; simp
      rw [e]
      exact ⟨a2, c2, h2, g1, g2, g3⟩
    · obtain ⟨a, c, h', e1, e2, e3, _⟩ := app_b hle ha (UInt8.ofNat n) (by omega)
      simp -implicitDefEqProofs (disch := omega) only [dcT, dcF, c83_2_eq, cvB8, mkBb, e1, ↓cnd_true, ↓cnd_false, ↓Option.bind_some, ↓obH_some', bin_add, bin_sub, bin_mul, bin_lss, bin_leq, bin_gtr, bin_geq, bin_eql, bin_neq, un_not, un_neg, Option.bind_some, Option.bind_none, Option.map_some, cnd_true, cnd_false, pickV_true, pickV_false, gd_true, gd_false, gdV_true, gdV_false, gdH_true, gdH_false, gdS_true, gdS_false, wt_ff, wt_tt, wt_ft, wt_tf, wt_undef, obH_some', extractV_tuple, nilCheckV_ptr, againK_normal, againK_exit, againK_ret, blockK_normal, blockK_same, blockK_ret, seqK_normal, seqK_exit, seqK_ret, fin_done, if_true', if_false', Bool.not_true, Bool.not_false, idx0, idx1, idx2, idx3, idx4, chk_nil_l, chk_nil_r, done_nm]
      rw [ret83, fin_done]
      have e : putL n = [UInt8.ofNat n] := by rw [putL, if_pos (by omega)]
      rw [e]
      exact ⟨a, c, _, rfl, done_ext' (hin.trans e3.inn), e2.done⟩
theorem spec_refPut (n : Nat) (hn : n < 2 ^ 64) (h : Heap) (b : Value) (bs : List UInt8) (hb : SB h b bs) (hk : bs.length < 2 ^ 39) :
    ∃ a c h', evC Try.prog 83 #[b, .int .u64 n] h = some (.slice a (bs ++ putL n).length c, h') ∧ HExt h h' ∧ AB h.blks.length h' (.slice a (bs ++ putL n).length c) (bs ++ putL n) := by
  rw [call83, c83_0_eq]
  have hs := sizeN_le n 10 (by omega) (by omega)
  obtain ⟨a, c, h', e1, e2, e3, _⟩ := app_bytes (n0 := h.blks.length) (by simp [Heap.new]) (AB.empty h.blks.length (nm h) (by simp)) (hb.nm.keepNew _ _) (by simp; omega)
  rw [List.nil_append] at e1 e2
  simp -implicitDefEqProofs only [mkB0, e1, ↓cnd_true, ↓cnd_false, ↓Option.bind_some, ↓obH_some', bin_add, bin_sub, bin_mul, bin_lss, bin_leq, bin_gtr, bin_geq, bin_eql, bin_neq, un_not, un_neg, Option.bind_some, Option.bind_none, Option.map_some, cnd_true, cnd_false, pickV_true, pickV_false, gd_true, gd_false, gdV_true, gdV_false, gdH_true, gdH_false, gdS_true, gdS_false, wt_ff, wt_tt, wt_ft, wt_tf, wt_undef, obH_some', extractV_tuple, nilCheckV_ptr, againK_normal, againK_exit, againK_ret, blockK_normal, blockK_same, blockK_ret, seqK_normal, seqK_exit, seqK_ret, fin_done, if_true', if_false', Bool.not_true, Bool.not_false, idx0, idx1, idx2, idx3, idx4, chk_nil_l, chk_nil_r, done_nm]
  exact rput_loop h n h' _ bs _ _ _ _ _ _ _ _ _ _ _ _ _ _ _ _ _ _ _ _ _ _ hn (by omega) ((In.new (by simp) _ _).trans e3.inn) e2
theorem sizeN_add (acc c i : Nat) (hi : i ≤ 9) (ha : acc < 2 ^ (7 * i)) (hc : c < 128) (h0 : 0 < c ∨ i = 0) : sizeN (acc + c * 2 ^ (7 * i)) = i + 1 := by
  have hp : 0 < 2 ^ (7 * i) := Nat.two_pow_pos _
  have e : 2 ^ (7 * (i + 1)) = 128 * 2 ^ (7 * i) := by rw [Nat.mul_add, Nat.pow_add, Nat.mul_comm]
  have h1 : acc + c * 2 ^ (7 * i) < 2 ^ (7 * (i + 1)) := by
    have : c * 2 ^ (7 * i) ≤ 127 * 2 ^ (7 * i) := Nat.mul_le_mul_right _ (by omega)
    omega
  have h2 := sizeN_le _ _ h1 (by omega)
  rcases h0 with h0 | rfl
  · have h3 : 2 ^ (7 * i) ≤ acc + c * 2 ^ (7 * i) := by
      have : 1 * 2 ^ (7 * i) ≤ c * 2 ^ (7 * i) := Nat.mul_le_mul_right _ h0
      omega
    have := sizeN_ge _ _ h3
    omega
  · have := sizeN_pos (acc + c * 2 ^ (7 * 0))
    omega
theorem or_add (acc c i : Nat) (ha : acc < 2 ^ (7 * i)) : acc ||| c * 2 ^ (7 * i) = acc + c * 2 ^ (7 * i) := by
  have := Nat.two_pow_add_eq_or_of_lt ha c
  rw [Nat.mul_comm, Nat.or_comm, ← this, Nat.add_comm]
theorem mod128 (c : UInt8) : c.toNat &&& 127 = c.toNat % 128 := by
  have := Nat.and_two_pow_sub_one_eq_mod c.toNat 7
  simpa using this
theorem getLoop_step (acc i : Nat) (c : UInt8) (l : List UInt8) (hi : i < 10) (ha : acc < 2 ^ (7 * i)) :
    getLoop acc i (c :: l) = if i = 9 ∧ 1 < c.toNat then (0, 0) else if c.toNat < 128 then (if c.toNat = 0 ∧ 0 < i then (0, 0) else (acc + c.toNat % 128 * 2 ^ (7 * i), i + 1)) else getLoop (acc + c.toNat % 128 * 2 ^ (7 * i)) (i + 1) l := by
  have hc := UInt8.toNat_lt c
  by_cases h9 : i = 9 ∧ 1 < c.toNat
  · rw [if_pos h9, getLoop, if_neg (by omega)]
    simp only []
    by_cases h128 : c.toNat < 128
    · rw [if_pos h128, if_pos (.inr ⟨h9.1, h9.2⟩)]
    · rw [if_neg h128]
      cases l with
      | nil => rfl
      | cons d l => rw [getLoop, if_pos (by omega)]
  · rw [if_neg h9, getLoop, if_neg (by omega)]
    simp only []
    have hlt : c.toNat % 128 * 2 ^ (7 * i) < 2 ^ 64 := by
      have h3 : (2 : Nat) ^ (7 * i) ≤ 2 ^ 63 := Nat.pow_le_pow_right (by omega) (by omega)
      by_cases h : i = 9
      · subst h
        have : c.toNat % 128 ≤ 1 := by omega
        have : c.toNat % 128 * 2 ^ (7 * 9) ≤ 1 * 2 ^ (7 * 9) := Nat.mul_le_mul_right _ this
        omega
      · have h3 : (2 : Nat) ^ (7 * i) ≤ 2 ^ 56 := Nat.pow_le_pow_right (by omega) (by omega)
        have : c.toNat % 128 * 2 ^ (7 * i) ≤ 127 * 2 ^ 56 := Nat.mul_le_mul (by omega) h3
        omega
    rw [Nat.mod_eq_of_lt hlt, or_add _ _ _ ha]
    by_cases h128 : c.toNat < 128
    · rw [if_pos h128, if_pos h128]
      by_cases h0 : c.toNat = 0 ∧ 0 < i
      · rw [if_pos h0, if_pos]
        left
        have := sizeN_le acc i (by omega) h0.2
        rw [h0.1]
        simp only [Nat.zero_mod, Nat.zero_mul, Nat.add_zero]
        omega
      · rw [if_neg h0, if_neg]
        rw [Nat.mod_eq_of_lt h128]
        rintro (h | h)
        · exact h (sizeN_add acc c.toNat i (by omega) ha h128 (by omega))
        · exact h9 ⟨h.1, h.2⟩
    · rw [if_neg h128, if_neg h128]
theorem rget_loop (h0 h : Heap) (v : Value) (bs : List UInt8) (hr : SB h v bs) (hb : bs.length < 2 ^ 40) : ∀ (m i n : Nat), bs.length - i = m → i ≤ bs.length → n < 2 ^ (7 * i) → i ≤ 10 →
    ∀ (Ab Ag Ah Ai Aj Ak Al An Ao Ap Aq Ar As Au Av Aw Ax Ay Az Ba Bb Bc Bd Be Bf Bg Bh Bi Bj Bk Bl Bm Bn Bo Bp Bq Br Bs Bt Bu Bv Bw : Value),
    loopK Try.prog (evC Try.prog) c79_1 ⟨#[v,Ab, .int .u64 0, .int .i64 0, .int .u64 n, .int .i64 i,Ag,Ah,Ai,Aj,Ak,Al,An,Ao,Ap,Aq,Ar,As,Au,Av,Aw,Ax,Ay,Az,Ba,Bb,Bc,Bd,Be,Bf,Bg,Bh,Bi,Bj,Bk,Bl,Bm,Bn,Bo,Bp,Bq,Br,Bs,Bt,Bu,Bv,Bw], h⟩ (blockK 0 (seqK Try.prog (evC Try.prog) c79_2 (retK Try.f79 Try.prog h0))) =
      some (.tuple #[.int .u64 (getLoop n i (bs.drop i)).1, .int .i64 (getLoop n i (bs.drop i)).2], done h0 h) := by
  intro m
  induction m with
  | zero =>
    intro i n hm hi hn hi10 Ab Ag Ah Ai Aj Ak Al An Ao Ap Aq Ar As Au Av Aw Ax Ay Az Ba Bb Bc Bd Be Bf Bg Bh Bi Bj Bk Bl Bm Bn Bo Bp Bq Br Bs Bt Bu Bv Bw
    rw [loopK_eq evC_m, c79_1_eq]
    simp -implicitDefEqProofs (disch := omega) only [dcT, dcF, hr.row.len_eq etB.under, c79_2_eq, ↓cnd_true, ↓cnd_false, ↓Option.bind_some, ↓obH_some', bin_add, bin_sub, bin_mul, bin_lss, bin_leq, bin_gtr, bin_geq, bin_eql, bin_neq, un_not, un_neg, Option.bind_some, Option.bind_none, Option.map_some, cnd_true, cnd_false, pickV_true, pickV_false, gd_true, gd_false, gdV_true, gdV_false, gdH_true, gdH_false, gdS_true, gdS_false, wt_ff, wt_tt, wt_ft, wt_tf, wt_undef, obH_some', extractV_tuple, nilCheckV_ptr, againK_normal, againK_exit, againK_ret, blockK_normal, blockK_same, blockK_ret, seqK_normal, seqK_exit, seqK_ret, fin_done, if_true', if_false', Bool.not_true, Bool.not_false, idx0, idx1, idx2, idx3, idx4, chk_nil_l, chk_nil_r, done_nm]
    rw [ret79, fin_done, List.drop_of_length_le (by omega)]
    rfl
  | succ m ih =>
    intro i n hm hi hn hi10 Ab Ag Ah Ai Aj Ak Al An Ao Ap Aq Ar As Au Av Aw Ax Ay Az Ba Bb Bc Bd Be Bf Bg Bh Bi Bj Bk Bl Bm Bn Bo Bp Bq Br Bs Bt Bu Bv Bw
    have hlt : i < bs.length := by omega
    rw [loopK_eq evC_m, c79_1_eq]
    have ed : bs.drop i = bs[i] :: bs.drop (i + 1) := List.drop_eq_getElem_cons hlt
    by_cases h10 : i = 10
    · simp -implicitDefEqProofs (disch := omega) only [dcT, dcF, hr.row.len_eq etB.under, c79_2_eq, ↓cnd_true, ↓cnd_false, ↓Option.bind_some, ↓obH_some', bin_add, bin_sub, bin_mul, bin_lss, bin_leq, bin_gtr, bin_geq, bin_eql, bin_neq, un_not, un_neg, Option.bind_some, Option.bind_none, Option.map_some, cnd_true, cnd_false, pickV_true, pickV_false, gd_true, gd_false, gdV_true, gdV_false, gdH_true, gdH_false, gdS_true, gdS_false, wt_ff, wt_tt, wt_ft, wt_tf, wt_undef, obH_some', extractV_tuple, nilCheckV_ptr, againK_normal, againK_exit, againK_ret, blockK_normal, blockK_same, blockK_ret, seqK_normal, seqK_exit, seqK_ret, fin_done, if_true', if_false', Bool.not_true, Bool.not_false, idx0, idx1, idx2, idx3, idx4, chk_nil_l, chk_nil_r, done_nm]
      rw [ret79, fin_done, ed, getLoop, if_pos h10]
      rfl
    · obtain ⟨a, e1, e2, _⟩ := hr.row.at1 etB.under etB.size (by kernel_rfl) hlt .i64
      have e3 : (bs.map byteV)[i]? = some (.int .u8 (bs[i].toNat)) := by simp [hlt, byteV]
      rw [e3] at e2
      generalize bs[i] = c at *
      have hc := UInt8.toNat_lt c
      rw [ed, getLoop_step n i c _ (by omega) hn]
      have e64 : (2 : Nat) ^ (7 * i) ≤ 2 ^ 63 := Nat.pow_le_pow_right (by omega) (by omega)
      by_cases h9 : i = 9 ∧ 1 < c.toNat
      · rw [if_pos h9]
        simp -implicitDefEqProofs (disch := omega) only [dcT, dcF, hr.row.len_eq etB.under, e1, e2, ↓cnd_true, ↓cnd_false, ↓Option.bind_some, ↓obH_some', bin_add, bin_sub, bin_mul, bin_lss, bin_leq, bin_gtr, bin_geq, bin_eql, bin_neq, un_not, un_neg, Option.bind_some, Option.bind_none, Option.map_some, cnd_true, cnd_false, pickV_true, pickV_false, gd_true, gd_false, gdV_true, gdV_false, gdH_true, gdH_false, gdS_true, gdS_false, wt_ff, wt_tt, wt_ft, wt_tf, wt_undef, obH_some', extractV_tuple, nilCheckV_ptr, againK_normal, againK_exit, againK_ret, blockK_normal, blockK_same, blockK_ret, seqK_normal, seqK_exit, seqK_ret, fin_done, if_true', if_false', Bool.not_true, Bool.not_false, idx0, idx1, idx2, idx3, idx4, chk_nil_l, chk_nil_r, done_nm]
        rw [ret79, fin_done]
        rfl
      · rw [if_neg h9]
        have hlt : c.toNat % 128 * 2 ^ (7 * i) < 2 ^ 64 := by
          by_cases h : i = 9
          · subst h
            have : c.toNat % 128 ≤ 1 := by omega
            have : c.toNat % 128 * 2 ^ (7 * 9) ≤ 1 * 2 ^ (7 * 9) := Nat.mul_le_mul_right _ this
            omega
          · have h3 : (2 : Nat) ^ (7 * i) ≤ 2 ^ 56 := Nat.pow_le_pow_right (by omega) (by omega)
            have : c.toNat % 128 * 2 ^ (7 * i) ≤ 127 * 2 ^ 56 := Nat.mul_le_mul (by omega) h3
            omega
        have hw : IntKind.wrap .i64 (7 * (i : Int)) = ((7 * i : Nat) : Int) := by rw [wrap_i64] <;> omega
        have hw1 : IntKind.wrap .i64 ((i : Int) + 1) = ((i + 1 : Nat) : Int) := by rw [wrap_i64] <;> omega
        have cvu : convV Try.prog 3 114 (.int .i64 ((7 * i : Nat) : Int)) h = some (.int .u64 ((7 * i : Nat) : Int), h) := conv_u64 (ks := .i64) (by kernel_rfl) (by kernel_rfl) _ _ _ (by omega) (by omega)
        have cv8 : convV Try.prog 5 35 (.int .u8 ((c.toNat % 128 : Nat) : Int)) h = some (.int .u64 ((c.toNat % 128 : Nat) : Int), h) := conv_u64 (ks := .u8) (by kernel_rfl) (by kernel_rfl) _ _ _ (by omega) (by omega)
        have h8 : ¬ (i = 9 ∧ (c.toNat : Int) > 1) := by omega
        by_cases hi9 : i = 9
        all_goals
          by_cases h128 : c.toNat < 128
          · rw [if_pos h128]
            by_cases h0 : c.toNat = 0 ∧ 0 < i
            · rw [if_pos h0]
              simp -implicitDefEqProofs (disch := omega) only [dcT, dcF, hr.row.len_eq etB.under, e1, e2, bin_and8, Int.toNat_natCast, Int.reduceToNat, mod128, cv8, hw, cvu, bin_shl64, bin_or64, Nat.mod_eq_of_lt hlt, or_add _ _ _ hn, ↓cnd_true, ↓cnd_false, ↓Option.bind_some, ↓obH_some', bin_add, bin_sub, bin_mul, bin_lss, bin_leq, bin_gtr, bin_geq, bin_eql, bin_neq, un_not, un_neg, Option.bind_some, Option.bind_none, Option.map_some, cnd_true, cnd_false, pickV_true, pickV_false, gd_true, gd_false, gdV_true, gdV_false, gdH_true, gdH_false, gdS_true, gdS_false, wt_ff, wt_tt, wt_ft, wt_tf, wt_undef, obH_some', extractV_tuple, nilCheckV_ptr, againK_normal, againK_exit, againK_ret, blockK_normal, blockK_same, blockK_ret, seqK_normal, seqK_exit, seqK_ret, fin_done, if_true', if_false', Bool.not_true, Bool.not_false, idx0, idx1, idx2, idx3, idx4, chk_nil_l, chk_nil_r, done_nm]
              rw [ret79, fin_done]
              rfl
            · rw [if_neg h0]
              by_cases h00 : c.toNat = 0
              all_goals
                simp -implicitDefEqProofs (disch := omega) only [dcT, dcF, hr.row.len_eq etB.under, e1, e2, bin_and8, Int.toNat_natCast, Int.reduceToNat, mod128, cv8, hw, cvu, bin_shl64, bin_or64, Nat.mod_eq_of_lt hlt, or_add _ _ _ hn, hw1, ↓cnd_true, ↓cnd_false, ↓Option.bind_some, ↓obH_some', bin_add, bin_sub, bin_mul, bin_lss, bin_leq, bin_gtr, bin_geq, bin_eql, bin_neq, un_not, un_neg, Option.bind_some, Option.bind_none, Option.map_some, cnd_true, cnd_false, pickV_true, pickV_false, gd_true, gd_false, gdV_true, gdV_false, gdH_true, gdH_false, gdS_true, gdS_false, wt_ff, wt_tt, wt_ft, wt_tf, wt_undef, obH_some', extractV_tuple, nilCheckV_ptr, againK_normal, againK_exit, againK_ret, blockK_normal, blockK_same, blockK_ret, seqK_normal, seqK_exit, seqK_ret, fin_done, if_true', if_false', Bool.not_true, Bool.not_false, idx0, idx1, idx2, idx3, idx4, chk_nil_l, chk_nil_r, done_nm]
                rw [ret79, fin_done]
                try (exfalso; omega)
          · rw [if_neg h128]
            simp -implicitDefEqProofs (disch := omega) only [dcT, dcF, hr.row.len_eq etB.under, e1, e2, bin_and8, Int.toNat_natCast, Int.reduceToNat, mod128, cv8, hw, cvu, bin_shl64, bin_or64, Nat.mod_eq_of_lt hlt, or_add _ _ _ hn, hw1, ↓cnd_true, ↓cnd_false, ↓Option.bind_some, ↓obH_some', bin_add, bin_sub, bin_mul, bin_lss, bin_leq, bin_gtr, bin_geq, bin_eql, bin_neq, un_not, un_neg, Option.bind_some, Option.bind_none, Option.map_some, cnd_true, cnd_false, pickV_true, pickV_false, gd_true, gd_false, gdV_true, gdV_false, gdH_true, gdH_false, gdS_true, gdS_false, wt_ff, wt_tt, wt_ft, wt_tf, wt_undef, obH_some', extractV_tuple, nilCheckV_ptr, againK_normal, againK_exit, againK_ret, blockK_normal, blockK_same, blockK_ret, seqK_normal, seqK_exit, seqK_ret, fin_done, if_true', if_false', Bool.not_true, Bool.not_false, idx0, idx1, idx2, idx3, idx4, chk_nil_l, chk_nil_r, done_nm]
            first
              | (exfalso; omega)
              | (refine ih (i + 1) _ (by omega) (by omega) ?_ (by omega) _ _ _ _ _ _ _ _ _ _ _ _ _ _ _ _ _ _ _ _ _ _ _ _ _ _ _ _ _ _ _ _ _ _ _ _ _ _ _ _ _ _
                 have e : 2 ^ (7 * (i + 1)) = 128 * 2 ^ (7 * i) := by rw [Nat.mul_add, Nat.pow_add, Nat.mul_comm]
                 have : c.toNat % 128 * 2 ^ (7 * i) ≤ 127 * 2 ^ (7 * i) := Nat.mul_le_mul_right _ (by omega)
                 omega)
theorem spec_refGet (h : Heap) (v : Value) (bs : List UInt8) (hr : SB h v bs) (hb : bs.length < 2 ^ 40) :
    evC Try.prog 79 #[v] h = some (.tuple #[.int .u64 (getL bs).1, .int .i64 (getL bs).2], h) := by
  rw [call79, c79_0_eq]
  exact rget_loop h (nm h) v bs hr.nm hb bs.length 0 0 (by omega) (by omega) (by omega) (by omega) _ _ _ _ _ _ _ _ _ _ _ _ _ _ _ _ _ _ _ _ _ _ _ _ _ _ _ _ _ _ _ _ _ _ _ _ _ _ _ _ _ _
end Go.Am
namespace Go.Am
open Go.Proofs
theorem faRW (p : Nat) : fieldAddrV Try.prog 118 (.pointer (some ⟨p, 0, none⟩)) 0 = some (.pointer (some ⟨p, 0, none⟩)) := by kernel_rfl
theorem faRR0 (p : Nat) : fieldAddrV Try.prog 109 (.pointer (some ⟨p, 0, none⟩)) 0 = some (.pointer (some ⟨p, 0, none⟩)) := by kernel_rfl
theorem faRR1 (p : Nat) : fieldAddrV Try.prog 109 (.pointer (some ⟨p, 0, none⟩)) 1 = some (.pointer (some ⟨p, 1, none⟩)) := by kernel_rfl
theorem bdRW : buildV Try.prog 118 #[] = some (.agg #[.slice none 0 0]) := by kernel_rfl
theorem bxRW (x : Value) (h : Heap) : boxV Try.prog 118 (.agg #[x]) h = some (.pointer (some ⟨h.blks.length, 0, none⟩), h.new (.cells [x]) 118) := by kernel_rfl
theorem bdRR (a : Option Addr) (n c : Nat) : buildV Try.prog 109 #[(0, .slice a n c)] = some (.agg #[.slice a n c, .bool false]) := by kernel_rfl
theorem bxRR (x y : Value) (h : Heap) : boxV Try.prog 109 (.agg #[x, y]) h = some (.pointer (some ⟨h.blks.length, 0, none⟩), h.new (.cells [x, y]) 109) := by kernel_rfl
def WrR (n0 : Nat) (h : Heap) (p : Nat) (bs : List UInt8) : Prop := ∃ a c, Cells h p 118 [.slice a bs.length c] ∧ AB n0 h (.slice a bs.length c) bs ∧ blockOf (.slice a bs.length c) ≠ some p
theorem WrR.lt {n0 : Nat} {h : Heap} {p : Nat} {bs : List UInt8} (w : WrR n0 h p bs) : p < h.blks.length := let ⟨_, _, c, _⟩ := w; c.lt
theorem WrR.put {n0 : Nat} {h : Heap} {p : Nat} {a : Option Addr} {bs : List UInt8} {c : Nat} {cs : List Value} (hc : Cells h p 118 cs) (ha : AB n0 h (.slice a bs.length c) bs) (hb : blockOf (.slice a bs.length c) ≠ some p) :
    WrR n0 (h.put p (.cells [.slice a bs.length c])) p bs := ⟨a, c, hc.put _, ha.keepPut hb _, hb⟩
theorem WrR.nm {n0 : Nat} {h : Heap} {p : Nat} {bs : List UInt8} (w : WrR n0 h p bs) : WrR n0 (Am.nm h) p bs := let ⟨a, c, x, y, z⟩ := w; ⟨a, c, x, y.keep fun _ _ _ => rfl, z⟩
theorem WrR.done {n0 : Nat} {h0 h : Heap} {p : Nat} {bs : List UInt8} (w : WrR n0 h p bs) : WrR n0 (Am.done h0 h) p bs := let ⟨a, c, x, y, z⟩ := w; ⟨a, c, x.done, y.done, z⟩
theorem WrR.same {n0 : Nat} {h h' : Heap} {p : Nat} {bs : List UInt8} (w : WrR n0 h p bs) (e : Same h h') : WrR n0 h' p bs := let ⟨a, c, x, y, z⟩ := w; ⟨a, c, x.same e, y.same e, z⟩
theorem WrR.ext {n0 : Nat} {h h' : Heap} {p : Nat} {bs : List UInt8} (w : WrR n0 h p bs) (e : HExt h h') : WrR n0 h' p bs := let ⟨a, c, x, y, z⟩ := w; ⟨a, c, x.ext e, y.keep fun b hb _ => e.old b hb, z⟩
theorem WrR.up {n0 n1 : Nat} {h : Heap} {p : Nat} {bs : List UInt8} (w : WrR n0 h p bs) (hn : n1 ≤ n0) : WrR n1 h p bs := let ⟨a, c, x, y, z⟩ := w; ⟨a, c, x, y.up hn, z⟩
theorem spec_RWNum {n0 : Nat} {h : Heap} {p : Nat} {bs : List UInt8} (w : WrR n0 h p bs) (hn0 : n0 ≤ h.blks.length) (n : Nat) (hn : n < 2 ^ 64) (hl : bs.length < 2 ^ 39) :
    ∃ h', evC Try.prog 65 #[.pointer (some ⟨p, 0, none⟩), .int .u64 n] h = some (.tuple #[], h') ∧ HMod (Just p) h h' ∧ WrR h.blks.length h' p (bs ++ putL n) := by
  rw [call65, c65_0_eq]
  obtain ⟨a, c, hc, ha, hne⟩ := w
  obtain ⟨a2, c2, h2, e2,Ac, ab⟩ := spec_refPut n hn (nm h) _ bs ha.sb.nm hl
  simp -implicitDefEqProofs only [faRW, ldB, hc.nm.load, List.getElem?_cons_zero, e2, stB, storeN_blk (hc.nm.ext Ac) (o := 0) (vs := [.slice a2 (bs ++ putL n).length c2]) (by simp), ↓cnd_true, ↓cnd_false, ↓Option.bind_some, ↓obH_some', bin_add, bin_sub, bin_mul, bin_lss, bin_leq, bin_gtr, bin_geq, bin_eql, bin_neq, un_not, un_neg, Option.bind_some, Option.bind_none, Option.map_some, cnd_true, cnd_false, pickV_true, pickV_false, gd_true, gd_false, gdV_true, gdV_false, gdH_true, gdH_false, gdS_true, gdS_false, wt_ff, wt_tt, wt_ft, wt_tf, wt_undef, obH_some', extractV_tuple, nilCheckV_ptr, againK_normal, againK_exit, againK_ret, blockK_normal, blockK_same, blockK_ret, seqK_normal, seqK_exit, seqK_ret, fin_done, if_true', if_false', Bool.not_true, Bool.not_false, idx0, idx1, idx2, idx3, idx4, chk_nil_l, chk_nil_r, done_nm]
  rw [retn65, fin_done]
  refine ⟨_, rfl, done_mod ((Ac.inn (by simp)).trans (In.put (by have := Ac.len; simpa using this) (.inr (show Just p p from rfl)) _)), ?_⟩
  simp only [List.take_zero, List.nil_append, List.length_singleton, Nat.zero_add, List.drop_succ_cons, List.drop_nil, List.append_nil]
  exact (WrR.put (hc.nm.ext Ac) ab (ab.ne hc.lt)).done
def LoR (v : Value) (N p : Nat) : Prop := Lo v N ∧ N ≤ p
theorem LoR.ne {v : Value} {N p : Nat} (l : LoR v N p) : blockOf v ≠ some p := (l.1.mono l.2).ne
theorem LoR.to {v w : Value} {N p : Nat} (l : LoR v N p) (e : blockOf w = blockOf v) : LoR w N p := ⟨l.1.to e, l.2⟩
theorem LoR.none {v : Value} {N p : Nat} (l : LoR v N p) : LoR (.slice Option.none 0 0) N p := ⟨Lo.nil _ _ _, l.2⟩
def RdrR (N : Nat) (h : Heap) (p : Nat) (r : Option (List UInt8)) : Prop := ∃ a c, Cells h p 109 [.slice a (rbs r).length c, .bool r.isNone] ∧ SB h (.slice a (rbs r).length c) (rbs r) ∧ LoR (.slice a (rbs r).length c) N p
theorem RdrR.lt {N : Nat} {h : Heap} {p : Nat} {r : Option (List UInt8)} (w : RdrR N h p r) : p < h.blks.length := let ⟨_, _, c, _⟩ := w; c.lt
theorem RdrR.nm {N : Nat} {h : Heap} {p : Nat} {r : Option (List UInt8)} (w : RdrR N h p r) : RdrR N (Am.nm h) p r := let ⟨a, c, x, y, z⟩ := w; ⟨a, c, x, y.nm, z⟩
theorem RdrR.done {N : Nat} {h0 h : Heap} {p : Nat} {r : Option (List UInt8)} (w : RdrR N h p r) : RdrR N (Am.done h0 h) p r := let ⟨a, c, x, y, z⟩ := w; ⟨a, c, x.done, y.done, z⟩
theorem RdrR.same {N : Nat} {h h' : Heap} {p : Nat} {r : Option (List UInt8)} (w : RdrR N h p r) (e : Same h h') : RdrR N h' p r := let ⟨a, c, x, y, z⟩ := w; ⟨a, c, x.same e, y.same e, z⟩
theorem RdrR.keepPut {N : Nat} {h : Heap} {p q : Nat} {r : Option (List UInt8)} (w : RdrR N h p r) (hq : p < q) (body : Body) : RdrR N (h.put q body) p r :=
  let ⟨a, c, x, y, z⟩ := w; ⟨a, c, x.keepPut (by omega) _, y.keepPut (fun e => by have := z.1 _ e; have := z.2; omega) _, z⟩
theorem RdrR.ext {N : Nat} {h h' : Heap} {p : Nat} {r : Option (List UInt8)} (w : RdrR N h p r) (e : HExt h h') : RdrR N h' p r := let ⟨a, c, x, y, z⟩ := w; ⟨a, c, x.ext e, y.ext e, z⟩
theorem RdrR.put {N : Nat} {h : Heap} {p : Nat} {a : Option Addr} {r : Option (List UInt8)} {c : Nat} {cs : List Value} (hc : Cells h p 109 cs) (ha : SB h (.slice a (rbs r).length c) (rbs r)) (hb : LoR (.slice a (rbs r).length c) N p) :
    RdrR N (h.put p (.cells [.slice a (rbs r).length c, .bool r.isNone])) p r := ⟨a, c, hc.put _, ha.keepPut hb.ne _, hb⟩
theorem spec_fail {N : Nat} {h : Heap} {p : Nat} {r : Option (List UInt8)} (w : RdrR N h p r) :
    ∃ h', evC Try.prog 80 #[.pointer (some ⟨p, 0, none⟩)] h = some (.tuple #[], h') ∧ HMod (Just p) h h' ∧ RdrR N h' p none := by
  rw [call80, c80_0_eq]
  obtain ⟨a, c, hc, ha, hne⟩ := w
  have hc1 := hc.nm.put [Value.slice a (rbs r).length c, .bool true]
  have hc2 := hc1.put [Value.slice none 0 0, .bool true]
  simp -implicitDefEqProofs only [faRR0, faRR1, stB, stBool, storeN_blk hc.nm (o := 1) (vs := [.bool true]) (by simp), List.take_zero, List.nil_append, List.length_singleton, Nat.zero_add, List.drop_succ_cons, List.drop_zero, List.cons_append, List.singleton_append,
    storeN_blk hc1 (o := 0) (vs := [.slice none 0 0]) (by simp), List.take_succ_cons, List.drop_nil, Nat.reduceAdd, List.append_nil, ↓cnd_true, ↓cnd_false, ↓Option.bind_some, ↓obH_some', bin_add, bin_sub, bin_mul, bin_lss, bin_leq, bin_gtr, bin_geq, bin_eql, bin_neq, un_not, un_neg, Option.bind_some, Option.bind_none, Option.map_some, cnd_true, cnd_false, pickV_true, pickV_false, gd_true, gd_false, gdV_true, gdV_false, gdH_true, gdH_false, gdS_true, gdS_false, wt_ff, wt_tt, wt_ft, wt_tf, wt_undef, obH_some', extractV_tuple, nilCheckV_ptr, againK_normal, againK_exit, againK_ret, blockK_normal, blockK_same, blockK_ret, seqK_normal, seqK_exit, seqK_ret, fin_done, if_true', if_false', Bool.not_true, Bool.not_false, idx0, idx1, idx2, idx3, idx4, chk_nil_l, chk_nil_r, done_nm]
  rw [retn80, fin_done]
  exact ⟨_, rfl, done_mod ((In.put (by simp) (.inr (show Just p p from rfl)) _).trans (In.put (by rw [Heap.put_len]; simp) (.inr (show Just p p from rfl)) _)), ⟨none, 0, hc2.done, .nil, hne.none⟩⟩
theorem spec_RRNum {N : Nat} {h : Heap} {p : Nat} {r : Option (List UInt8)} (w : RdrR N h p r) (most : Nat) (hm : most < 2 ^ 64) (hl : (rbs r).length < 2 ^ 40) :
    ∃ h', evC Try.prog 58 #[.pointer (some ⟨p, 0, none⟩), .int .u64 most] h = some (.int .u64 (numP r most).1, h') ∧ HMod (Just p) h h' ∧ RdrR N h' p (numP r most).2 := by
  rw [call58, c58_0_eq]
  have w0 := w
  obtain ⟨a, c, hc, ha, hne⟩ := w
  obtain ⟨h2, e2,Ac, w2⟩ := spec_fail w0.nm
  cases r with
  | none =>
    have hg := spec_refGet (Am.nm h) _ (rbs none) ha.nm (by simp [rbs])
    simp -implicitDefEqProofs only [faRR0, faRR1, ldB, ldBool, hc.nm.load, List.getElem?_cons_zero, List.getElem?_cons_succ, hg, Option.isNone_none, e2, ↓cnd_true, ↓cnd_false, ↓Option.bind_some, ↓obH_some', bin_add, bin_sub, bin_mul, bin_lss, bin_leq, bin_gtr, bin_geq, bin_eql, bin_neq, un_not, un_neg, Option.bind_some, Option.bind_none, Option.map_some, cnd_true, cnd_false, pickV_true, pickV_false, gd_true, gd_false, gdV_true, gdV_false, gdH_true, gdH_false, gdS_true, gdS_false, wt_ff, wt_tt, wt_ft, wt_tf, wt_undef, obH_some', extractV_tuple, nilCheckV_ptr, againK_normal, againK_exit, againK_ret, blockK_normal, blockK_same, blockK_ret, seqK_normal, seqK_exit, seqK_ret, fin_done, if_true', if_false', Bool.not_true, Bool.not_false, idx0, idx1, idx2, idx3, idx4, chk_nil_l, chk_nil_r, done_nm]
    rw [ret58, fin_done]
    exact ⟨_, rfl, done_mod (Ac.inn (by simp) fun _ _ h => h), w2.done⟩
  | some bs =>
    have hrb : rbs (some bs) = bs := rfl
    rw [hrb] at hl hc ha hne
    have hg := spec_refGet (Am.nm h) _ bs ha.nm hl
    have h64 := getL_lt bs
    have hle := getL_len bs
    simp -implicitDefEqProofs only [faRR0, faRR1, ldB, ldBool, hc.nm.load, List.getElem?_cons_zero, List.getElem?_cons_succ, hg, Option.isNone_some, ↓cnd_true, ↓cnd_false, ↓Option.bind_some, ↓obH_some', bin_add, bin_sub, bin_mul, bin_lss, bin_leq, bin_gtr, bin_geq, bin_eql, bin_neq, un_not, un_neg, Option.bind_some, Option.bind_none, Option.map_some, cnd_true, cnd_false, pickV_true, pickV_false, gd_true, gd_false, gdV_true, gdV_false, gdH_true, gdH_false, gdS_true, gdS_false, wt_ff, wt_tt, wt_ft, wt_tf, wt_undef, obH_some', extractV_tuple, nilCheckV_ptr, againK_normal, againK_exit, againK_ret, blockK_normal, blockK_same, blockK_ret, seqK_normal, seqK_exit, seqK_ret, fin_done, if_true', if_false', Bool.not_true, Bool.not_false, idx0, idx1, idx2, idx3, idx4, chk_nil_l, chk_nil_r, done_nm]
    by_cases hbad : (getL bs).2 = 0 ∨ most < (getL bs).1
    · have hp : numP (some bs) most = (0, none) := by simp only [numP]; exact if_pos hbad
      rw [hp]
      by_cases h1 : (getL bs).2 = 0
      all_goals
        simp -implicitDefEqProofs (disch := omega) only [dcF, dcT, e2, ↓cnd_true, ↓cnd_false, ↓Option.bind_some, ↓obH_some', bin_add, bin_sub, bin_mul, bin_lss, bin_leq, bin_gtr, bin_geq, bin_eql, bin_neq, un_not, un_neg, Option.bind_some, Option.bind_none, Option.map_some, cnd_true, cnd_false, pickV_true, pickV_false, gd_true, gd_false, gdV_true, gdV_false, gdH_true, gdH_false, gdS_true, gdS_false, wt_ff, wt_tt, wt_ft, wt_tf, wt_undef, obH_some', extractV_tuple, nilCheckV_ptr, againK_normal, againK_exit, againK_ret, blockK_normal, blockK_same, blockK_ret, seqK_normal, seqK_exit, seqK_ret, fin_done, if_true', if_false', Bool.not_true, Bool.not_false, idx0, idx1, idx2, idx3, idx4, chk_nil_l, chk_nil_r, done_nm]
        rw [ret58, fin_done]
        exact ⟨_, rfl, done_mod (Ac.inn (by simp) fun _ _ h => h), w2.done⟩
    · have hp : numP (some bs) most = ((getL bs).1, some (bs.drop (getL bs).2)) := by simp only [numP]; exact if_neg hbad
      rw [hp]
      obtain ⟨a4, c4, e4, s4, b4⟩ := sl_drop ha.nm (i := (getL bs).2) hle .i64
      simp -implicitDefEqProofs (disch := omega) only [dcF, dcT, e4, stB, storeN_blk hc.nm (o := 0) (vs := [.slice a4 (bs.drop (getL bs).2).length c4]) (by simp), ↓cnd_true, ↓cnd_false, ↓Option.bind_some, ↓obH_some', bin_add, bin_sub, bin_mul, bin_lss, bin_leq, bin_gtr, bin_geq, bin_eql, bin_neq, un_not, un_neg, Option.bind_some, Option.bind_none, Option.map_some, cnd_true, cnd_false, pickV_true, pickV_false, gd_true, gd_false, gdV_true, gdV_false, gdH_true, gdH_false, gdS_true, gdS_false, wt_ff, wt_tt, wt_ft, wt_tf, wt_undef, obH_some', extractV_tuple, nilCheckV_ptr, againK_normal, againK_exit, againK_ret, blockK_normal, blockK_same, blockK_ret, seqK_normal, seqK_exit, seqK_ret, fin_done, if_true', if_false', Bool.not_true, Bool.not_false, idx0, idx1, idx2, idx3, idx4, chk_nil_l, chk_nil_r, done_nm]
      rw [ret58, fin_done]
      exact ⟨_, rfl, done_mod (In.put (by simp) (.inr (show Just p p from rfl)) _), (RdrR.put (r := some (bs.drop (getL bs).2)) hc.nm s4 (hne.to b4)).done⟩
theorem spec_RREnd {N : Nat} {h : Heap} {p : Nat} {r : Option (List UInt8)} (w : RdrR N h p r) :
    evC Try.prog 59 #[.pointer (some ⟨p, 0, none⟩)] h = some (.bool (endP r), h) := by
  rw [call59, c59_0_eq]
  obtain ⟨a, c, hc, ha, hne⟩ := w
  cases r with
  | none =>
    simp -implicitDefEqProofs only [faRR0, faRR1, ldB, ldBool, hc.nm.load, List.getElem?_cons_zero, List.getElem?_cons_succ, Option.isNone_none, ↓cnd_true, ↓cnd_false, ↓Option.bind_some, ↓obH_some', bin_add, bin_sub, bin_mul, bin_lss, bin_leq, bin_gtr, bin_geq, bin_eql, bin_neq, un_not, un_neg, Option.bind_some, Option.bind_none, Option.map_some, cnd_true, cnd_false, pickV_true, pickV_false, gd_true, gd_false, gdV_true, gdV_false, gdH_true, gdH_false, gdS_true, gdS_false, wt_ff, wt_tt, wt_ft, wt_tf, wt_undef, obH_some', extractV_tuple, nilCheckV_ptr, againK_normal, againK_exit, againK_ret, blockK_normal, blockK_same, blockK_ret, seqK_normal, seqK_exit, seqK_ret, fin_done, if_true', if_false', Bool.not_true, Bool.not_false, idx0, idx1, idx2, idx3, idx4, chk_nil_l, chk_nil_r, done_nm]
    rw [ret59, fin_done]
    rfl
  | some bs =>
    simp -implicitDefEqProofs only [faRR0, faRR1, ldB, ldBool, hc.nm.load, List.getElem?_cons_zero, List.getElem?_cons_succ, Option.isNone_some, ha.nm.row.len_eq etB.under, ↓cnd_true, ↓cnd_false, ↓Option.bind_some, ↓obH_some', bin_add, bin_sub, bin_mul, bin_lss, bin_leq, bin_gtr, bin_geq, bin_eql, bin_neq, un_not, un_neg, Option.bind_some, Option.bind_none, Option.map_some, cnd_true, cnd_false, pickV_true, pickV_false, gd_true, gd_false, gdV_true, gdV_false, gdH_true, gdH_false, gdS_true, gdS_false, wt_ff, wt_tt, wt_ft, wt_tf, wt_undef, obH_some', extractV_tuple, nilCheckV_ptr, againK_normal, againK_exit, againK_ret, blockK_normal, blockK_same, blockK_ret, seqK_normal, seqK_exit, seqK_ret, fin_done, if_true', if_false', Bool.not_true, Bool.not_false, idx0, idx1, idx2, idx3, idx4, chk_nil_l, chk_nil_r, done_nm]
    rw [ret59, fin_done]
    cases bs with
    | nil => rfl
    | cons b bs => 
      have : decide (((rbs (some (b :: bs))).length : Int) = 0) = false := decide_eq_false (by simp [rbs]; omega)
      rw [this]; rfl
end Go.Am
namespace Go.Am
theorem putL_lt (n : Nat) (h : n < 128) : putL n = [UInt8.ofNat n] := by rw [putL, if_pos h]
theorem putL_ge (n : Nat) (h : 128 ≤ n) : putL n = UInt8.ofNat (n % 128 + 128) :: putL (n / 128) := by rw [putL, if_neg (by omega)]
theorem getLoop_putL (rest : List UInt8) (n : Nat) : ∀ (acc i : Nat), acc < 2 ^ (7 * i) → acc + n * 2 ^ (7 * i) < 2 ^ 64 → i + sizeN n ≤ 10 → (i = 0 ∨ 0 < n) →
    getLoop acc i (putL n ++ rest) = (acc + n * 2 ^ (7 * i), i + sizeN n) := by
  induction n using Nat.strongRecOn with
  | _ n ih =>
    intro acc i ha hs hi hn
    have hp : 0 < 2 ^ (7 * i) := Nat.two_pow_pos _
    by_cases h : n < 128
    · have e1 : sizeN n = 1 := by rw [sizeN, if_pos h]
      have ec : (UInt8.ofNat n).toNat = n := by simp; omega
      rw [putL_lt n h, List.cons_append, List.nil_append, getLoop_step _ _ _ _ (by omega) ha, ec, if_neg, if_pos h, if_neg (by omega), e1, Nat.mod_eq_of_lt h]
      rintro ⟨h9, h1⟩
      subst h9
      have : 2 * 2 ^ (7 * 9) ≤ n * 2 ^ (7 * 9) := Nat.mul_le_mul_right _ h1
      omega
    · have e1 : sizeN n = sizeN (n / 128) + 1 := by rw [sizeN, if_neg h]
      have hs1 := sizeN_pos (n / 128)
      have ec : (UInt8.ofNat (n % 128 + 128)).toNat = n % 128 + 128 := by simp; omega
      have e : 2 ^ (7 * (i + 1)) = 128 * 2 ^ (7 * i) := by rw [Nat.mul_add, Nat.pow_add, Nat.mul_comm]
      have em : (n % 128 + 128) % 128 = n % 128 := by omega
      have e2 : acc + n % 128 * 2 ^ (7 * i) + n / 128 * 2 ^ (7 * (i + 1)) = acc + n * 2 ^ (7 * i) := by
        rw [e, ← Nat.mul_assoc, Nat.add_assoc, ← Nat.add_mul]
        congr 2; omega
      rw [putL_ge n (by omega), List.cons_append, getLoop_step _ _ _ _ (by omega) ha, ec, if_neg (by omega), if_neg (by omega), em,
        ih (n / 128) (by omega) _ (i + 1) ?_ (by rw [e2]; exact hs) (by omega) (.inr (by omega)), e2, e1]
      · congr 1; omega
      · have : n % 128 * 2 ^ (7 * i) ≤ 127 * 2 ^ (7 * i) := Nat.mul_le_mul_right _ (by omega)
        omega
theorem getL_putL (n : Nat) (hn : n < 2 ^ 64) (rest : List UInt8) : getL (putL n ++ rest) = (n, (putL n).length) := by
  have := getLoop_putL rest n 0 0 (by omega) (by omega) (by have := sizeN_le n 10 (by omega) (by omega); omega) (.inl rfl)
  rw [getL, this, putL_len]
  simp
theorem putL_pos (n : Nat) : 0 < (putL n).length := by rw [putL_len]; exact sizeN_pos n
theorem numP_putL (n : Nat) (hn : n < 2 ^ 64) (rest : List UInt8) (m : Nat) (hm : n ≤ m) : numP (some (putL n ++ rest)) m = (n, some rest) := by
  have := putL_pos n
  simp only [numP, getL_putL n hn]
  rw [if_neg (by omega), List.drop_left]
theorem numP_cut (n : Nat) (hn : n < 2 ^ 64) (rest : List UInt8) (m : Nat) (hm : n ≤ m) (a : Nat) :
    numP (some ((putL n ++ rest).take a)) m = if a < (putL n).length then (0, none) else (n, some (rest.take (a - (putL n).length))) := by
  split
  · rename_i h
    rw [List.take_append_of_le_length (by omega)]
    simp only [numP, getL_cut n a h]
    rfl
  · rename_i h
    rw [List.take_append, List.take_of_length_le (by omega)]
    exact numP_putL n hn _ m hm
theorem bytesP_cut (body rest : List UInt8) (hb : body.length < 2 ^ 64) (m : Nat) (hm : body.length ≤ m) (a : Nat) (ha : a < (putL body.length ++ body).length) :
    bytesP (some ((putL body.length ++ body).take a)) m = ([], none) := by
  unfold bytesP
  rw [numP_cut _ hb _ _ hm]
  simp only [List.length_append] at ha
  split
  · rfl
  · simp only [takeP]
    rw [if_pos (by simp; omega)]
theorem bytesP_put (body rest : List UInt8) (hb : body.length < 2 ^ 64) (m : Nat) (hm : body.length ≤ m) : bytesP (some (putL body.length ++ (body ++ rest))) m = (body, some rest) := by
  unfold bytesP
  rw [numP_putL _ hb _ _ hm]
  simp only [takeP]
  rw [if_neg (by simp), List.take_left, List.drop_left]
theorem numP_none (m : Nat) : numP none m = (0, none) := rfl
theorem bytesP_none (m : Nat) : bytesP none m = ([], none) := rfl
end Go.Am
namespace Go.Am
open Go.Proofs
set_option maxRecDepth 100000
set_option linter.all false
attribute [local congr] obind_congr obH_congr cnd_congr chk_congr retK_congr codeK_congr
def putLs (l : List Nat) : List UInt8 := l.flatMap putL
theorem putLs_snoc (l : List Nat) (n : Nat) : putLs (l ++ [n]) = putLs l ++ putL n := by simp [putLs]
theorem putLs_app (a b : List Nat) : putLs (a ++ b) = putLs a ++ putLs b := by simp [putLs]
def stampM (n : Int) (m : List (List Nat)) : List UInt8 := if goodM n m = true then putLs m.flatten else []
theorem putLs_len (l : List Nat) (h : ∀ n ∈ l, n < 2 ^ 64) : (putLs l).length ≤ 10 * l.length := by
  induction l with
  | nil => simp [putLs]
  | cons n l ih =>
    have hn := h n (by simp)
    have h1 := sizeN_le n 10 (by omega) (by omega)
    have h2 := ih fun m hm => h m (by simp [hm])
    have h3 := putL_len n
    simp only [putLs, List.flatMap_cons, List.length_append, List.length_cons] at h2 ⊢
    omega
def MAX : Nat := 18446744073709551615
def readRow : Nat → Option (List UInt8) → List Nat × Option (List UInt8)
  | 0, r => ([], r)
  | k + 1, r => let x := numP r MAX; let y := readRow k x.2; (x.1 :: y.1, y.2)
def readRows (n : Nat) : Nat → Option (List UInt8) → List (List Nat) × Option (List UInt8)
  | 0, r => ([], r)
  | k + 1, r => let x := readRow n r; let y := readRows n k x.2; (x.1 :: y.1, y.2)
theorem readRow_len : ∀ (k : Nat) (r : Option (List UInt8)), (readRow k r).1.length = k
  | 0, r => rfl
  | k + 1, r => by simp only [readRow, List.length_cons]; rw [readRow_len k]
theorem readRow_le : ∀ (k : Nat) (r : Option (List UInt8)), (rbs (readRow k r).2).length ≤ (rbs r).length ∧ ∀ x ∈ (readRow k r).1, x < 2 ^ 64
  | 0, r => by simp [readRow]
  | k + 1, r => by
    have h1 := numP_le r MAX
    have h2 := readRow_le k (numP r MAX).2
    simp only [readRow]
    refine ⟨by omega, fun x hx => ?_⟩
    rcases List.mem_cons.1 hx with rfl | hx
    · exact h1.2.1
    · exact h2.2 x hx
theorem readRows_len (n : Nat) : ∀ (k : Nat) (r : Option (List UInt8)), (readRows n k r).1.length = k
  | 0, r => rfl
  | k + 1, r => by simp only [readRows, List.length_cons]; rw [readRows_len n k]
theorem readRows_row (n : Nat) : ∀ (k : Nat) (r : Option (List UInt8)), ∀ x ∈ (readRows n k r).1, x.length = n ∧ ∀ y ∈ x, y < 2 ^ 64
  | 0, r => by simp [readRows]
  | k + 1, r => by
    simp only [readRows]
    intro x hx
    rcases List.mem_cons.1 hx with rfl | hx
    · exact ⟨readRow_len n r, (readRow_le n r).2⟩
    · exact readRows_row n k _ x hx
def readM (n : Int) (bs : List UInt8) : Option (List (List Nat)) := if 1 ≤ n ∧ n ≤ 16 then (if endP (readRows n.toNat n.toNat (some bs)).2 = true then some (readRows n.toNat n.toNat (some bs)).1 else none) else none
theorem readRow_put : ∀ (l : List Nat) (rest : List UInt8), (∀ n ∈ l, n < 2 ^ 64) → readRow l.length (some (putLs l ++ rest)) = (l, some rest)
  | [], rest, _ => rfl
  | n :: l, rest, h => by
    have hn := h n (by simp)
    have e : putLs (n :: l) ++ rest = putL n ++ (putLs l ++ rest) := by simp [putLs]
    rw [List.length_cons, e]
    simp only [readRow]
    rw [numP_putL n hn _ MAX (by unfold MAX; omega)]
    simp only []
    rw [readRow_put l rest fun m hm => h m (by simp [hm])]
theorem readRows_put (n : Nat) : ∀ (m : List (List Nat)) (rest : List UInt8), (∀ r ∈ m, r.length = n ∧ ∀ y ∈ r, y < 2 ^ 64) → readRows n m.length (some (putLs m.flatten ++ rest)) = (m, some rest)
  | [], rest, _ => rfl
  | r :: m, rest, h => by
    have hr := h r (by simp)
    have e : putLs (r :: m).flatten ++ rest = putLs r ++ (putLs m.flatten ++ rest) := by rw [List.flatten_cons, putLs_app, List.append_assoc]
    rw [List.length_cons, e]
    simp only [readRows]
    have := readRow_put r (putLs m.flatten ++ rest) hr.2
    rw [hr.1] at this
    rw [this]
    simp only []
    rw [readRows_put n m rest fun q hq => h q (by simp [hq])]
theorem readM_stamp {n : Int} {m : List (List Nat)} (g : goodM n m = true) (h : ∀ r ∈ m, ∀ y ∈ r, y < 2 ^ 64) : readM n (stampM n m) = some m := by
  have hg := (goodM_iff n m).1 g
  unfold readM stampM
  rw [if_pos ⟨hg.1.1, hg.1.2.1⟩, if_pos g]
  have := readRows_put n.toNat m [] fun r hr => ⟨by have := hg.2 r hr; omega, h r hr⟩
  rw [List.append_nil, show m.length = n.toNat by omega] at this
  rw [this]
  rfl
theorem readM_good {n : Int} {bs : List UInt8} {m : List (List Nat)} (h : readM n bs = some m) : goodM n m = true ∧ ∀ r ∈ m, ∀ y ∈ r, y < 2 ^ 64 := by
  unfold readM at h
  split at h
  · rename_i hn
    split at h
    · cases h
      have hr := readRows_row n.toNat n.toNat (some bs)
      refine ⟨goodM_getD ⟨hn.1, hn.2, by rw [readRows_len]; omega⟩ fun k hk => ?_, fun r hr' => (hr r hr').2⟩
      have := (hr _ (List.getElem_mem hk)).1
      rw [List.getD_eq_getElem?_getD, List.getElem?_eq_getElem hk]
      simp only [Option.getD_some]
      omega
    · cases h
  · cases h
theorem SM.lo {h : Heap} {v : Value} {m : List (List Nat)} (s : SM h v m) : Lo v h.blks.length := let ⟨_, x, _⟩ := s; x.lo
theorem stamp_inner {Q : Option (Value × Heap) → Prop} {N p : Nat} {mv row : Value} {ml : Int} {r : List Nat} (i : Nat) (hr : r.length ≤ 16) (h64 : ∀ n ∈ r, n < 2 ^ 64) (hlo : Lo row N) (hmv : Lo mv N) (hp : N ≤ p) (k : Ex → St → Option (Value × Heap)) {h0 : Heap} (hN : h0.blks.length ≤ N) :
    ∀ (m j : Nat) (h : Heap) (acc : List UInt8), r.length = j + m → SU h row r → Wr 0 h p acc → acc.length + 10 * m < 2 ^ 38 → In N No h0 h →
    (∀ h', Wr 0 h' p (acc ++ putLs (r.drop j)) → In N No h0 h' → ∀ (Aa Ab Ae Af Ag Ah Ai Aj Ak Al An Ar As Au Av Aw Ax Ay Az Ba Bb Bc Bd Be Bf Bg Bh : Value), Q (k .normal ⟨#[Aa,Ab, .slice none 0 0, .pointer (some ⟨p, 0, none⟩),Ae,Af,Ag,Ah,Ai,Aj,Ak,Al,An, mv, .int .i64 ml, .int .i64 i,Ar,As,Au,Av,Aw,Ax,Ay,Az,Ba,Bb,Bc,Bd,Be,Bf,Bg,Bh], h'⟩)) →
    ∀ (Aa Ab Ae Af Ag Ah Ai Aj Ak Al An Ar As Au Ay Az Ba Bb Bc Bd Be Bf Bg Bh : Value), Q (loopK Try.prog (evC Try.prog) c13_3 ⟨#[Aa,Ab, .slice none 0 0, .pointer (some ⟨p, 0, none⟩),Ae,Af,Ag,Ah,Ai,Aj,Ak,Al,An, mv, .int .i64 ml, .int .i64 i,Ar,As,Au, row, .int .i64 r.length, .int .i64 j,Ay,Az,Ba,Bb,Bc,Bd,Be,Bf,Bg,Bh], h⟩ (blockK 2 k)) := by
  intro m
  induction m with
  | zero =>
    intro j h acc hj s w _ hin hk Aa Ab Ae Af Ag Ah Ai Aj Ak Al An Ar As Au Ay Az Ba Bb Bc Bd Be Bf Bg Bh
    rw [loopK_eq evC_m, c13_3_eq]
    rw [List.drop_of_length_le (by omega), show putLs [] = [] from rfl, List.append_nil] at hk
    have := hk h w hin
    simp -implicitDefEqProofs (disch := omega) only [dcT, dcF, ↓cnd_true, ↓cnd_false, ↓Option.bind_some, ↓obH_some', bin_add, bin_sub, bin_mul, bin_lss, bin_leq, bin_gtr, bin_geq, bin_eql, bin_neq, un_not, un_neg, Option.bind_some, Option.bind_none, Option.map_some, cnd_true, cnd_false, pickV_true, pickV_false, gd_true, gd_false, gdV_true, gdV_false, gdH_true, gdH_false, gdS_true, gdS_false, wt_ff, wt_tt, wt_ft, wt_tf, wt_undef, obH_some', extractV_tuple, nilCheckV_ptr, againK_normal, againK_exit, againK_ret, blockK_normal, blockK_same, blockK_ret, seqK_normal, seqK_exit, seqK_ret, fin_done, if_true', if_false', Bool.not_true, Bool.not_false, idx0, idx1, idx2, idx3, idx4, chk_nil_l, chk_nil_r, done_nm]
    exact this _ _ _ _ _ _ _ _ _ _ _ _ _ _ _ _ _ _ _ _ _ _ _ _ _ _ _
  | succ m ih =>
    intro j h acc hj s w hacc hin hk Aa Ab Ae Af Ag Ah Ai Aj Ak Al An Ar As Au Ay Az Ba Bb Bc Bd Be Bf Bg Bh
    rw [loopK_eq evC_m, c13_3_eq]
    obtain ⟨a, e1, e2⟩ := su_at s etV.under (i := j) (by omega)
    have hn := getD_lt r h64 j
    have hs := sizeN_le (r.getD j 0) 10 (by omega) (by omega)
    have hz := putL_len (r.getD j 0)
    obtain ⟨h2, e3,Ac, w2⟩ := spec_WNum w (Nat.zero_le _) (r.getD j 0) hn (by omega)
    have hw : IntKind.wrap .i64 ((j : Int) + 1) = ((j + 1 : Nat) : Int) := by rw [wrap_i64] <;> omega
    have s2 : SU h2 row r := s.mod Ac fun b hb e => by have := hlo b hb; have : b = p := e; omega
    have hd : r.drop j = r.getD j 0 :: r.drop (j + 1) := drop_cons r 0 (by omega)
    rw [hd] at hk
    have ih' := ih (j + 1) h2 (acc ++ putL (r.getD j 0)) (by omega) s2 (w2.up (Nat.zero_le _)) (by rw [List.length_append]; omega)
      (hin.trans (Ac.inn (by have := hin.len; have := hin.le; omega) fun b hb e => by have : b = p := e; omega)) (fun h' w' i' => hk h' (by rw [List.append_assoc] at w'; simpa [putLs] using w') i')
    simp -implicitDefEqProofs (disch := omega) only [dcT, dcF, e1, e2, e3, hw, ↓cnd_true, ↓cnd_false, ↓Option.bind_some, ↓obH_some', bin_add, bin_sub, bin_mul, bin_lss, bin_leq, bin_gtr, bin_geq, bin_eql, bin_neq, un_not, un_neg, Option.bind_some, Option.bind_none, Option.map_some, cnd_true, cnd_false, pickV_true, pickV_false, gd_true, gd_false, gdV_true, gdV_false, gdH_true, gdH_false, gdS_true, gdS_false, wt_ff, wt_tt, wt_ft, wt_tf, wt_undef, obH_some', extractV_tuple, nilCheckV_ptr, againK_normal, againK_exit, againK_ret, blockK_normal, blockK_same, blockK_ret, seqK_normal, seqK_exit, seqK_ret, fin_done, if_true', if_false', Bool.not_true, Bool.not_false, idx0, idx1, idx2, idx3, idx4, chk_nil_l, chk_nil_r, done_nm]
    exact ih' _ _ _ _ _ _ _ _ _ _ _ _ _ _ _ _ _ _ _ _ _ _ _ _
theorem putLs_take (m : List (List Nat)) {i : Nat} (hi : i < m.length) : putLs (m.take i).flatten ++ putLs (m.getD i []) = putLs (m.take (i + 1)).flatten := by
  rw [← take_succ_getD m [] hi, List.flatten_append, putLs_app]; simp
theorem good_total {n : Int} {m : List (List Nat)} (g : goodM n m = true) (h : ∀ r ∈ m, ∀ y ∈ r, y < 2 ^ 64) (i : Nat) : (putLs (m.take i).flatten).length ≤ 2560 := by
  have hg := (goodM_iff n m).1 g
  have h1 := putLs_len (m.take i).flatten fun x hx => by
    obtain ⟨r, hr, hx⟩ := List.mem_flatten.1 hx
    exact h r (List.mem_of_mem_take hr) x hx
  have h2 : ∀ (l : List (List Nat)), (∀ r ∈ l, r.length ≤ 16) → l.flatten.length ≤ 16 * l.length := by
    intro l
    induction l with
    | nil => simp
    | cons r l ih =>
      intro hl
      have a := hl r (by simp)
      have b := ih fun q hq => hl q (by simp [hq])
      rw [List.flatten_cons, List.length_append, List.length_cons]
      omega
  have h3 := h2 (m.take i) fun r hr => by have := hg.2 r (List.mem_of_mem_take hr); omega
  have h4 : (m.take i).length ≤ 16 := by simp; omega
  omega
theorem stamp_loop {h0 : Heap} {n : Int} {p : Nat} {mv : Value} {m : List (List Nat)} (g : goodM n m = true) (h64 : ∀ r ∈ m, ∀ y ∈ r, y < 2 ^ 64) {vs : List Value} (s0 : SMv h0 mv vs m) (hp : h0.blks.length ≤ p) : ∀ (mm i : Nat) (h : Heap), m.length = i + mm → Wr 0 h p (putLs (m.take i).flatten) → In h0.blks.length No (nm h0) h →
    ∀ (Aa Ab Ae Af Ag Ah Ai Aj Ak Al An Ar As Au Av Aw Ax Ay Az Ba Bb Bc Bd Be Bf Bg Bh : Value),
    ∃ a c h', loopK Try.prog (evC Try.prog) c13_1 ⟨#[Aa,Ab, .slice none 0 0, .pointer (some ⟨p, 0, none⟩),Ae,Af,Ag,Ah,Ai,Aj,Ak,Al,An, mv, .int .i64 m.length, .int .i64 i,Ar,As,Au,Av,Aw,Ax,Ay,Az,Ba,Bb,Bc,Bd,Be,Bf,Bg,Bh], h⟩ (blockK 0 (seqK Try.prog (evC Try.prog) c13_2 (retK Try.f13 Try.prog h0))) =
      some (.slice a (putLs m.flatten).length c, h') ∧ HExt h0 h' ∧ AB h0.blks.length h' (.slice a (putLs m.flatten).length c) (putLs m.flatten) := by
  have hg := (goodM_iff n m).1 g
  intro mm
  induction mm with
  | zero =>
    intro i h hi w hin Aa Ab Ae Af Ag Ah Ai Aj Ak Al An Ar As Au Av Aw Ax Ay Az Ba Bb Bc Bd Be Bf Bg Bh
    rw [loopK_eq evC_m, c13_1_eq]
    have ht := good_total g h64 i
    rw [List.take_of_length_le (by omega)] at w ht
    obtain ⟨a, c, h2, e2,Ac, s2⟩ := spec_WDone w (by omega)
    have hl := hin.len
    simp only [nm_blks] at hl
    simp -implicitDefEqProofs (disch := omega) only [dcT, dcF, ↓c13_2_eq, e2, ↓ret13, ↓cnd_true, ↓cnd_false, ↓Option.bind_some, ↓obH_some', bin_add, bin_sub, bin_mul, bin_lss, bin_leq, bin_gtr, bin_geq, bin_eql, bin_neq, un_not, un_neg, Option.bind_some, Option.bind_none, Option.map_some, cnd_true, cnd_false, pickV_true, pickV_false, gd_true, gd_false, gdV_true, gdV_false, gdH_true, gdH_false, gdS_true, gdS_false, wt_ff, wt_tt, wt_ft, wt_tf, wt_undef, obH_some', extractV_tuple, nilCheckV_ptr, againK_normal, againK_exit, againK_ret, blockK_normal, blockK_same, blockK_ret, seqK_normal, seqK_exit, seqK_ret, fin_done, if_true', if_false', Bool.not_true, Bool.not_false, idx0, idx1, idx2, idx3, idx4, chk_nil_l, chk_nil_r, done_nm]
    exact ⟨a, c, _, rfl, done_ext' (hin.trans (Ac.inn hl)), (s2.up (by omega)).done⟩
  | succ mm ih =>
    intro i h hi w hin Aa Ab Ae Af Ag Ah Ai Aj Ak Al An Ar As Au Av Aw Ax Ay Az Ba Bb Bc Bd Be Bf Bg Bh
    rw [loopK_eq evC_m, c13_1_eq]
    have ht := good_total g h64 i
    obtain ⟨ad, x, hx, ea, ex, sx⟩ := (s0.kp hin.same0.2).at etM.under etM.size (by kernel_rfl) (i := i) (by omega)
    obtain ⟨ad0, y, hy, ea0, ex0, sx0⟩ := s0.at etM.under etM.size (by kernel_rfl) (i := i) (by omega)
    obtain rfl : x = y := Option.some.inj (hx.symm.trans hy)
    have hrl := goodM_rows g (i := i) (by omega)
    have hr64 : ∀ y ∈ m.getD i [], y < 2 ^ 64 := by
      rw [List.getD_eq_getElem?_getD, List.getElem?_eq_getElem (by omega)]; exact h64 _ (List.getElem_mem _)
    have hw : IntKind.wrap .i64 ((i : Int) + 1) = ((i + 1 : Nat) : Int) := by rw [wrap_i64] <;> omega
    have inner := stamp_inner (Q := fun r => ∃ a c h', r = some (.slice a (putLs m.flatten).length c, h') ∧ HExt h0 h' ∧ AB h0.blks.length h' (.slice a (putLs m.flatten).length c) (putLs m.flatten)) (N := h0.blks.length) (p := p) (mv := mv) (row := x) (ml := m.length) (r := m.getD i []) i (by omega) hr64 sx0.lo s0.1.lo hp
      (blockK 1 (seqK Try.prog (evC Try.prog) c13_4 (againK Try.prog (evC Try.prog) c13_1 (blockK 0 (seqK Try.prog (evC Try.prog) c13_2 (retK Try.f13 Try.prog h0)))))) (h0 := nm h0) (Nat.le_refl _)
      (m.getD i []).length 0 h _ (by omega) sx w (by omega) hin (by
        intro h' w' i' Aa Ab Ae Af Ag Ah Ai Aj Ak Al An Ar As Au Av Aw Ax Ay Az Ba Bb Bc Bd Be Bf Bg Bh
        rw [List.drop_zero, putLs_take m (by omega)] at w'
        have ih' := ih (i + 1) h' (by omega) w' i'
        simp -implicitDefEqProofs (disch := omega) only [↓c13_4_eq, hw, ↓cnd_true, ↓cnd_false, ↓Option.bind_some, ↓obH_some', bin_add, bin_sub, bin_mul, bin_lss, bin_leq, bin_gtr, bin_geq, bin_eql, bin_neq, un_not, un_neg, Option.bind_some, Option.bind_none, Option.map_some, cnd_true, cnd_false, pickV_true, pickV_false, gd_true, gd_false, gdV_true, gdV_false, gdH_true, gdH_false, gdS_true, gdS_false, wt_ff, wt_tt, wt_ft, wt_tf, wt_undef, obH_some', extractV_tuple, nilCheckV_ptr, againK_normal, againK_exit, againK_ret, blockK_normal, blockK_same, blockK_ret, seqK_normal, seqK_exit, seqK_ret, fin_done, if_true', if_false', Bool.not_true, Bool.not_false, idx0, idx1, idx2, idx3, idx4, chk_nil_l, chk_nil_r, done_nm]
        exact ih' _ _ _ _ _ _ _ _ _ _ _ _ _ _ _ _ _ _ _ _ _ _ _ _ _ _ _)
    simp -implicitDefEqProofs (disch := omega) only [dcT, dcF, ea, ex, sx.row.len_eq etV.under, ↓cnd_true, ↓cnd_false, ↓Option.bind_some, ↓obH_some', bin_add, bin_sub, bin_mul, bin_lss, bin_leq, bin_gtr, bin_geq, bin_eql, bin_neq, un_not, un_neg, Option.bind_some, Option.bind_none, Option.map_some, cnd_true, cnd_false, pickV_true, pickV_false, gd_true, gd_false, gdV_true, gdV_false, gdH_true, gdH_false, gdS_true, gdS_false, wt_ff, wt_tt, wt_ft, wt_tf, wt_undef, obH_some', extractV_tuple, nilCheckV_ptr, againK_normal, againK_exit, againK_ret, blockK_normal, blockK_same, blockK_ret, seqK_normal, seqK_exit, seqK_ret, fin_done, if_true', if_false', Bool.not_true, Bool.not_false, idx0, idx1, idx2, idx3, idx4, chk_nil_l, chk_nil_r, done_nm]
    exact inner _ _ _ _ _ _ _ _ _ _ _ _ _ _ _ _ _ _ _ _ _ _ _ _
theorem spec_Stamp {h : Heap} {n : Int} {v : Value} {m : List (List Nat)} (s : SM h v m) (hm : m.length < 2 ^ 37) (h64 : ∀ r ∈ m, ∀ y ∈ r, y < 2 ^ 64) :
    ∃ a c h', evC Try.prog 13 #[matV n v] h = some (.slice a (stampM n m).length c, h') ∧ HExt h h' ∧ AB h.blks.length h' (.slice a (stampM n m).length c) (stampM n m) := by
  rw [call13, c13_0_eq]
  have k0 := bxM (.int .i64 n) v (nm h)
  have c0 := Cells.new (nm h) 30 [.int .i64 n, v]
  have i0 : In h.blks.length No (nm h) _ := In.new (by simp) (.cells [.int .i64 n, v]) 30
  have bl : (nm h).blks.length = h.blks.length := rfl
  rw [bl] at k0 c0
  generalize (nm h).new (.cells [.int .i64 n, v]) 30 = g0 at *
  obtain ⟨g1, e1,Ab⟩ := spec_Good (n := n) (s.same i0.same0) (by omega)
  have hin := i0.trans (Ab.inn i0.len)
  have c1 := c0.ext Ab
  unfold stampM
  by_cases g : goodM n m = true
  · rw [if_pos g]
    rw [g] at e1
    obtain ⟨g2, e2,Ac, w2, l2⟩ := spec_NewWriter g1
    have hin2 := hin.trans (Ac.inn hin.len)
    have c2 := c1.ext Ac
    have sv := s.same hin2.same0
    have hl1 := hin.len
    obtain ⟨vs, s0⟩ := s
    have := stamp_loop (h0 := h) (p := g1.blks.length) g h64 s0 hl1 m.length 0 g2 (by omega) (w2.up (Nat.zero_le _)) hin2
    rw [show ((0 : Nat) : Int) = 0 from rfl] at this
    simp -implicitDefEqProofs (disch := omega) only [dcT, dcF, k0, ldM' c0, e1, e2, faM1, ldRs, c2.load, two2, sv.lenRV, ↓cnd_true, ↓cnd_false, ↓Option.bind_some, ↓obH_some', bin_add, bin_sub, bin_mul, bin_lss, bin_leq, bin_gtr, bin_geq, bin_eql, bin_neq, un_not, un_neg, Option.bind_some, Option.bind_none, Option.map_some, cnd_true, cnd_false, pickV_true, pickV_false, gd_true, gd_false, gdV_true, gdV_false, gdH_true, gdH_false, gdS_true, gdS_false, wt_ff, wt_tt, wt_ft, wt_tf, wt_undef, obH_some', extractV_tuple, nilCheckV_ptr, againK_normal, againK_exit, againK_ret, blockK_normal, blockK_same, blockK_ret, seqK_normal, seqK_exit, seqK_ret, fin_done, if_true', if_false', Bool.not_true, Bool.not_false, idx0, idx1, idx2, idx3, idx4, chk_nil_l, chk_nil_r, done_nm]
    exact this _ _ _ _ _ _ _ _ _ _ _ _ _ _ _ _ _ _ _ _ _ _ _ _ _ _ _
  · have g' : goodM n m = false := by simpa using g
    rw [if_neg g]
    rw [g'] at e1
    simp -implicitDefEqProofs (disch := omega) only [dcT, dcF, k0, ldM' c0, e1, ↓ret13, ↓cnd_true, ↓cnd_false, ↓Option.bind_some, ↓obH_some', bin_add, bin_sub, bin_mul, bin_lss, bin_leq, bin_gtr, bin_geq, bin_eql, bin_neq, un_not, un_neg, Option.bind_some, Option.bind_none, Option.map_some, cnd_true, cnd_false, pickV_true, pickV_false, gd_true, gd_false, gdV_true, gdV_false, gdH_true, gdH_false, gdS_true, gdS_false, wt_ff, wt_tt, wt_ft, wt_tf, wt_undef, obH_some', extractV_tuple, nilCheckV_ptr, againK_normal, againK_exit, againK_ret, blockK_normal, blockK_same, blockK_ret, seqK_normal, seqK_exit, seqK_ret, fin_done, if_true', if_false', Bool.not_true, Bool.not_false, idx0, idx1, idx2, idx3, idx4, chk_nil_l, chk_nil_r, done_nm]
    exact ⟨_, _, _, rfl, done_ext' hin, .nil⟩
end Go.Am
namespace Go.Am
open Go.Proofs
set_option maxRecDepth 100000
set_option linter.all false
attribute [local congr] obind_congr obH_congr cnd_congr chk_congr retK_congr codeK_congr
end Go.Am
