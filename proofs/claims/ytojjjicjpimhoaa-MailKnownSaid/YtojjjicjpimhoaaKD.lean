/- What the functions answer, in the machine. -/
import Derived.Test.YtojjjicjpimhoaaKC
import Derived.Test.YtojjjicjpimhoaaChecked
import Derived.KernelRfl
set_option linter.all false
namespace Go.Am
open Go.Proofs
set_option maxRecDepth 100000
theorem vld64 (p o : Nat) (h : Heap) : loadV Try.prog 46 (.pointer (some ⟨p, o, none⟩)) h = h.load1 p o := by kernel_rfl
theorem vst64 (p o : Nat) (k : IntKind) (n : Int) (h : Heap) : storeV Try.prog 46 (.pointer (some ⟨p, o, none⟩)) (.int k n) h = h.storeN p o [.int k n] := by kernel_rfl
theorem vbeql (xo yo : Operand) (a b : Bool) : binV Try.prog .eql 4 xo yo (.bool a) (.bool b) = some (.bool (a == b)) := bin_beql _ _ _ _ (by cases a <;> cases b <;> kernel_rfl)
end Go.Am
namespace Go.Am
open Go.Proofs
set_option maxRecDepth 100000
set_option linter.all false
attribute [local congr] obind_congr obH_congr cnd_congr chk_congr retK_congr codeK_congr
theorem vmaxI (a b : Int) (h : Heap) : builtinV Try.prog .max #[3, 3] #[.int .i64 a, .int .i64 b] h = some (.int .i64 (max a b), h) := by
  have e : builtinV Try.prog .max #[3, 3] #[.int .i64 a, .int .i64 b] h = some (.int .i64 (if b > a then b else a), h) := by kernel_rfl
  rw [e]
  have : (if b > a then b else a) = max a b := by split <;> omega
  rw [this]
theorem vminI (a b : Int) (h : Heap) : builtinV Try.prog .min #[3, 3] #[.int .i64 a, .int .i64 b] h = some (.int .i64 (min a b), h) := by
  have e : builtinV Try.prog .min #[3, 3] #[.int .i64 a, .int .i64 b] h = some (.int .i64 (if b < a then b else a), h) := by kernel_rfl
  rw [e]
  have : (if b < a then b else a) = min a b := by split <;> omega
  rw [this]
theorem In.same0 {h0 h : Heap} (k : In h0.blks.length No (nm h0) h) : Same h0 h := ⟨k.len, fun b hb => k.old b hb id⟩
def hasB (s : Nat) (p : Int) : Bool := decide (0 ≤ p ∧ p < 64) && s.testBit p.toNat
theorem shrN (t : TypeId) (xo yo : Operand) (yk : IntKind) (s p : Nat) (hs : s < 2 ^ 64) (hp : p < 64) : binV Try.prog .shr t xo yo (.int .u64 s) (.int yk p) = some (.int .u64 ((s / 2 ^ p : Nat) : Int)) := by
  rw [bin_shr64 _ _ _ _ _ _ (by omega) (by omega) (by omega), Int.toNat_natCast, Int.toNat_natCast]
theorem and1 (t : TypeId) (xo yo : Operand) (q : Nat) (hq : q < 2 ^ 64) : binV Try.prog .and t xo yo (.int .u64 q) (.int .u64 1) = some (.int .u64 ((q % 2 : Nat) : Int)) := by
  rw [bin_and64 _ _ _ _ _ (by omega) (by omega) (by omega) (by omega), Int.toNat_natCast, show (1 : Int).toNat = 1 from rfl, Nat.and_one_is_mod]
theorem hasB_nat (s p : Nat) (hp : p < 64) : decide (((s / 2 ^ p % 2 : Nat) : Int) = 1) = hasB s p := by
  unfold hasB
  rw [decide_eq_true (show 0 ≤ (p : Int) ∧ (p : Int) < 64 by omega), Bool.true_and, Int.toNat_natCast, Nat.testBit_eq_decide_div_mod_eq]
  congr 1
  apply propext
  omega
theorem spec_Has (s : Nat) (hs : s < 2 ^ 64) (p : Int) (h : Heap) : evC Try.prog 112 #[.int .u64 s, .int .i64 p] h = some (.bool (hasB s p), h) := by
  rw [call112, c112_0_eq]
  by_cases hc : 0 ≤ p ∧ p < 64
  · obtain ⟨p, rfl⟩ : ∃ m : Nat, p = m := ⟨p.toNat, by omega⟩
    have hq : s / 2 ^ p < 2 ^ 64 := Nat.lt_of_le_of_lt (Nat.div_le_self ..) hs
    have e1 := fun t xo yo => shrN t xo yo .i64 s p hs (by omega)
    have e2 := fun t xo yo => and1 t xo yo (s / 2 ^ p) hq
    simp -implicitDefEqProofs (disch := omega) only [dcT, dcF, e1, e2, hasB_nat, ↓ret112, ↓cnd_true, ↓cnd_false, ↓Option.bind_some, ↓obH_some', bin_add, bin_sub, bin_mul, bin_lss, bin_leq, bin_gtr, bin_geq, bin_eql, bin_neq, un_not, un_neg, Option.bind_some, Option.bind_none, Option.map_some, cnd_true, cnd_false, pickV_true, pickV_false, gd_true, gd_false, gdV_true, gdV_false, gdH_true, gdH_false, gdS_true, gdS_false, wt_ff, wt_tt, wt_ft, wt_tf, wt_undef, obH_some', extractV_tuple, nilCheckV_ptr, againK_normal, againK_exit, againK_ret, blockK_normal, blockK_same, blockK_ret, seqK_normal, seqK_exit, seqK_ret, fin_done, if_true', if_false', Bool.not_true, Bool.not_false, idx0, idx1, idx2, idx3, idx4, chk_nil_l, chk_nil_r, done_nm]
  · have e : hasB s p = false := by unfold hasB; rw [decide_eq_false hc]; rfl
    rw [e]
    by_cases h0 : 0 ≤ p
    · simp -implicitDefEqProofs (disch := omega) only [dcT, dcF, ↓ret112, ↓cnd_true, ↓cnd_false, ↓Option.bind_some, ↓obH_some', bin_add, bin_sub, bin_mul, bin_lss, bin_leq, bin_gtr, bin_geq, bin_eql, bin_neq, un_not, un_neg, Option.bind_some, Option.bind_none, Option.map_some, cnd_true, cnd_false, pickV_true, pickV_false, gd_true, gd_false, gdV_true, gdV_false, gdH_true, gdH_false, gdS_true, gdS_false, wt_ff, wt_tt, wt_ft, wt_tf, wt_undef, obH_some', extractV_tuple, nilCheckV_ptr, againK_normal, againK_exit, againK_ret, blockK_normal, blockK_same, blockK_ret, seqK_normal, seqK_exit, seqK_ret, fin_done, if_true', if_false', Bool.not_true, Bool.not_false, idx0, idx1, idx2, idx3, idx4, chk_nil_l, chk_nil_r, done_nm]
    · simp -implicitDefEqProofs (disch := omega) only [dcT, dcF, ↓ret112, ↓cnd_true, ↓cnd_false, ↓Option.bind_some, ↓obH_some', bin_add, bin_sub, bin_mul, bin_lss, bin_leq, bin_gtr, bin_geq, bin_eql, bin_neq, un_not, un_neg, Option.bind_some, Option.bind_none, Option.map_some, cnd_true, cnd_false, pickV_true, pickV_false, gd_true, gd_false, gdV_true, gdV_false, gdH_true, gdH_false, gdS_true, gdS_false, wt_ff, wt_tt, wt_ft, wt_tf, wt_undef, obH_some', extractV_tuple, nilCheckV_ptr, againK_normal, againK_exit, againK_ret, blockK_normal, blockK_same, blockK_ret, seqK_normal, seqK_exit, seqK_ret, fin_done, if_true', if_false', Bool.not_true, Bool.not_false, idx0, idx1, idx2, idx3, idx4, chk_nil_l, chk_nil_r, done_nm]
theorem shl1 (t : TypeId) (xo yo : Operand) (p : Nat) (hp : p < 64) : binV Try.prog .shl t xo yo (.int .u64 1) (.int .i64 p) = some (.int .u64 ((2 ^ p : Nat) : Int)) := by
  have h2 : 2 ^ p < 2 ^ 64 := Nat.pow_lt_pow_right (by omega) hp
  rw [bin_shl64 _ _ _ _ _ _ (by omega) (by omega) (by omega), Int.toNat_natCast, show (1 : Int).toNat = 1 from rfl, Nat.one_mul, Nat.mod_eq_of_lt h2]
def allN (n : Nat) : Nat := 2 ^ n - 1
theorem spec_All (n : Nat) (hn : n < 64) (h : Heap) : evC Try.prog 80 #[.int .i64 n] h = some (.int .u64 (allN n : Nat), h) := by
  rw [call80, c80_0_eq]
  have hm : min (max (n : Int) 0) 64 = n := by omega
  have e1 := fun t xo yo => shl1 t xo yo n hn
  have e2 : ∀ t xo yo, binV Try.prog .sub t xo yo (.int .u64 ((2 ^ n : Nat) : Int)) (.int .u64 1) = some (.int .u64 (allN n : Nat)) := fun t xo yo => by
    have h2 : 2 ^ n < 2 ^ 64 := Nat.pow_lt_pow_right (by omega) hn
    have h1 : 1 ≤ 2 ^ n := Nat.one_le_two_pow
    rw [bin_sub, show ((2 ^ n : Nat) : Int) - 1 = (allN n : Nat) by unfold allN; omega, wrap_u64_nat, Nat.mod_eq_of_lt (by unfold allN; omega)]
  simp -implicitDefEqProofs only [vmaxI, vminI, hm, e1, e2, ↓ret80, ↓cnd_true, ↓cnd_false, ↓Option.bind_some, ↓obH_some', bin_add, bin_sub, bin_mul, bin_lss, bin_leq, bin_gtr, bin_geq, bin_eql, bin_neq, un_not, un_neg, Option.bind_some, Option.bind_none, Option.map_some, cnd_true, cnd_false, pickV_true, pickV_false, gd_true, gd_false, gdV_true, gdV_false, gdH_true, gdH_false, gdS_true, gdS_false, wt_ff, wt_tt, wt_ft, wt_tf, wt_undef, obH_some', extractV_tuple, nilCheckV_ptr, againK_normal, againK_exit, againK_ret, blockK_normal, blockK_same, blockK_ret, seqK_normal, seqK_exit, seqK_ret, fin_done, if_true', if_false', Bool.not_true, Bool.not_false, idx0, idx1, idx2, idx3, idx4, chk_nil_l, chk_nil_r, done_nm]
theorem HExt.amx {h h' : Heap} (e : HExt (nm h) h') : HExt h (am h' h) ∧ h'.mods = [] := ⟨⟨e.len, e.old, by rw [am_mods, e.mods]; rfl⟩, e.mods⟩
theorem Acc.blk {n0 : Nat} {h : Heap} {elem : TypeId} {es n : Nat} {v : Value} {cs : List Value} (a : Acc n0 h elem es v n cs) {b : Nat} (hb : blockOf v = some b) : ∃ all, h.blks[b]? = some ⟨.cells all, elem, true⟩ := by
  cases a with
  | nil => cases hb
  | full _ _ h1 _ _ => cases hb; exact ⟨_, h1⟩
  | unk _ h1 _ _ => cases hb; exact ⟨_, h1⟩
end Go.Am
namespace Go.Am
open Go.Proofs
def sizeN (n : Nat) : Nat := if n < 128 then 1 else sizeN (n / 128) + 1
theorem sizeN_le (n : Nat) : ∀ k, n < 2 ^ (7 * k) → 1 ≤ k → sizeN n ≤ k := by
  induction n using Nat.strongRecOn with
  | _ n ih =>
    intro k hk h1
    rw [sizeN]
    split
    · omega
    · rename_i h
      obtain ⟨k, rfl⟩ : ∃ j, k = j + 1 := ⟨k - 1, by omega⟩
      have : 1 ≤ k := by
        rcases Nat.eq_zero_or_pos k with rfl | h'
        · simp at hk; omega
        · exact h'
      have := ih (n / 128) (by omega) k (by
        rw [Nat.div_lt_iff_lt_mul (by omega)]
        have e : 2 ^ (7 * (k + 1)) = 2 ^ (7 * k) * 128 := by rw [Nat.mul_add, Nat.pow_add]
        omega) this
      omega
theorem fdiv_128 (n : Nat) : Int.fdiv (n : Int) 128 = ((n / 128 : Nat) : Int) := by
  rw [Int.fdiv_eq_ediv_of_nonneg _ (by omega)]; omega
theorem size_loop (h0 h : Heap) (n : Nat) : ∀ (k : Nat) (Ab Ac Ae Af Ag Ah Ai Aj Ak : Value), k + sizeN n < 1000 → 0 < k →
    loopK Try.prog (evC Try.prog) c124_1 ⟨#[.int .u64 n,Ab,Ac, .int .i64 k,Ae,Af,Ag,Ah,Ai,Aj,Ak], h⟩ (blockK 0 (seqK Try.prog (evC Try.prog) c124_2 (retK Try.f124 Try.prog h0))) =
      fin h0 (some (.int .i64 ((k - 1 + sizeN n : Nat) : Int))) h := by
  induction n using Nat.strongRecOn with
  | _ n ih =>
    intro k Ab Ac Ae Af Ag Ah Ai Aj Ak hk hk0
    rw [loopK_eq evC_m, c124_1_eq]
    simp only [bin_geq, Option.bind_some, cnd_dec]
    split
    · rename_i hge
      have hge : 128 ≤ n := by omega
      rw [bin_shr _ _ _ _ _ _ _ (by omega)]
      simp only [Option.bind_some, bin_add, againK_normal]
      have e3 : sizeN n = sizeN (n / 128) + 1 := by rw [sizeN, if_neg (by omega)]
      have e1 : Int.fdiv (n : Int) (2 ^ min (Int.toNat 7) IntKind.u64.bits) = ((n / 128 : Nat) : Int) := fdiv_128 n
      have e2 : IntKind.wrap .i64 ((k : Int) + 1) = ((k + 1 : Nat) : Int) := by rw [wrap_i64] <;> omega
      rw [e1, e2, ih (n / 128) (by omega) (k + 1) _ _ _ _ _ _ _ _ _ (by omega) (by omega)]
      have e4 : k + 1 - 1 + sizeN (n / 128) = k - 1 + sizeN n := by omega
      rw [e4]
    · rename_i hlt
      have hlt : n < 128 := by omega
      simp only [againK_exit, blockK_same, seqK_normal]
      rw [c124_2_eq, ret124]
      have e3 : k - 1 + sizeN n = k := by rw [sizeN, if_pos hlt]; omega
      rw [e3]
theorem spec_Size (n : Nat) (hn : n < 2 ^ 64) (h : Heap) : evC Try.prog 124 #[.int .u64 n] h = some (.int .i64 (sizeN n), h) := by
  rw [call124, c124_0_eq]
  have := size_loop h (nm h) n 1 undef (Go.Value.int Go.IntKind.i64 0) undef undef undef undef undef undef undef (by have := sizeN_le n 10 (by omega) (by omega); omega) (by omega)
  simp only [Nat.sub_self, Nat.zero_add] at this
  exact this.trans (fin_same _ _)
end Go.Am
namespace Go.Am
open Go.Proofs
def putL (n : Nat) : List UInt8 := if n < 128 then [UInt8.ofNat n] else UInt8.ofNat (n % 128 + 128) :: putL (n / 128)
theorem putL_len (n : Nat) : (putL n).length = sizeN n := by
  induction n using Nat.strongRecOn with
  | _ n ih =>
    rw [putL, sizeN]
    split
    · rfl
    · rw [List.length_cons, ih (n / 128) (by omega)]
theorem etB : ElemT Try.prog 23 5 1 1 (.int .u8 0) := ⟨by kernel_rfl, by kernel_rfl, by kernel_rfl, by kernel_rfl, by omega, rfl, rfl⟩
theorem bs1 (k : IntKind) (m : Int) (h : Heap) : buildSliceV Try.prog 23 1 #[(0, .int k m)] h = some (.slice (some ⟨h.blks.length, 0, none⟩) 1 1, h.new (.cells [.int k m]) 5) := by kernel_rfl
theorem conv_22_5 (k : IntKind) (n : Int) (h : Heap) : convV Try.prog 46 5 (.int k n) h = some (.int .u8 (IntKind.wrap .u8 n), h) := conv_int (ks := .u64) (by kernel_rfl) (by kernel_rfl) k n h
theorem or128 (x : Fin 256) : (IntKind.wrap .u8 ((BitVec.ofInt 8 (x.val : Int) ||| BitVec.ofInt 8 128).toNat : Int)) = ((x.val % 128 + 128 : Nat) : Int) := by
  revert x; decide +kernel
theorem bin_or (P : Program) (t : TypeId) (xo yo : Operand) (k : IntKind) (a b : Int) : binV P .or t xo yo (.int k a) (.int k b) = some (.int k (k.wrap ((BitVec.ofInt k.bits a ||| BitVec.ofInt k.bits b).toNat))) :=
  bin_int t xo yo k k a b .or rfl (by simp [eqGuard,Go.binOp,Op.intBits])
theorem wrap8 (n : Nat) : IntKind.wrap .u8 (n : Int) = ((n % 256 : Nat) : Int) := by simp only [IntKind.wrap, IntKind.bits, IntKind.signed]; simp
theorem or_byte (t : TypeId) (xo yo : Operand) (n : Nat) : binV Try.prog .or t xo yo (.int .u8 (IntKind.wrap .u8 (n : Int))) (.int .u8 128) = some (byteV (UInt8.ofNat (n % 128 + 128))) := by
  rw [bin_or, wrap8]
  have := or128 ⟨n % 256, by omega⟩
  simp only at this
  show some (Value.int .u8 (IntKind.wrap .u8 ((BitVec.ofInt 8 ((n % 256 : Nat) : Int) ||| BitVec.ofInt 8 128).toNat))) = _
  rw [this]
  unfold byteV
  have e : (UInt8.ofNat (n % 128 + 128)).toNat = n % 256 % 128 + 128 := by simp; omega
  rw [e]
theorem small_byte (n : Nat) : Value.int .u8 (IntKind.wrap .u8 (n : Int)) = byteV (UInt8.ofNat n) := by
  rw [wrap8]; unfold byteV
  have e : (UInt8.ofNat n).toNat = n % 256 := by simp
  rw [e]
theorem app1 {n0 : Nat} {h : Heap} (hn0 : n0 ≤ h.blks.length) {v : Value} {n : Nat} {cs : List Value} (ha : Acc n0 h 5 1 v n cs) (hn : n < 2 ^ 40) (b : UInt8) :
    ∃ v' h', appendV Try.prog 23 (some 23) v (.slice (some ⟨h.blks.length, 0, none⟩) 1 1) (h.new (.cells [byteV b]) 5) = some (v', h') ∧ Acc n0 h' 5 1 v' (n + 1) (cs ++ [byteV b]) ∧ Keeps n0 h h' := by
  have ha' : Acc n0 (h.new (.cells [byteV b]) 5) 5 1 v n cs := ha.keep fun b hb _ => Heap.new_old hb
  have hr : Row (h.new (.cells [byteV b]) 5) 1 (.slice (some ⟨h.blks.length, 0, none⟩) 1 1) 1 [byteV b] := .mk (by simp [Heap.loadN, Heap.cells?, Heap.new])
  obtain ⟨v', h', h1, h2, h3, h4, h5⟩ := append_acc etB (t1 := some 23) (n0 := n0) (by simp [Heap.new]; omega) ha' (newsV_row etB.under hr) (by simp) (by omega) (by omega) (by simp [byteV, Value.oneCell'])
  exact ⟨v', h', h1, h2, (Keeps.new hn0 _ _).trans h3⟩
theorem put_loop (h0 : Heap) (n : Nat) : ∀ (h : Heap) (v : Value) (k : Nat) (cs : List Value) (Aa Ac Ad Ae Ag Ah Ai Aj Ak Al An Ao Ap Aq Ar As At Au Av Aw Ax : Value),
    k + sizeN n < 2 ^ 40 → Keeps h0.blks.length (nm h0) h → Acc h0.blks.length h 5 1 v k cs →
    ∃ v' h', loopK Try.prog (evC Try.prog) c94_1 ⟨#[Aa, .int .u64 n,Ac,Ad,Ae, v,Ag,Ah,Ai,Aj,Ak,Al,An,Ao,Ap,Aq,Ar,As,At,Au,Av,Aw,Ax], h⟩ (blockK 0 (seqK Try.prog (evC Try.prog) c94_2 (retK Try.f94 Try.prog h0))) =
      some (v', h') ∧ HExt h0 h' ∧ Acc h0.blks.length h' 5 1 v' (k + sizeN n) (cs ++ (putL n).map byteV) := by
  induction n using Nat.strongRecOn with
  | _ n ih =>
    intro h v k cs Aa Ac Ad Ae Ag Ah Ai Aj Ak Al An Ao Ap Aq Ar As At Au Av Aw Ax hk hkeep ha
    have hle : h0.blks.length ≤ h.blks.length := hkeep.len
    rw [loopK_eq evC_m, c94_1_eq]
    simp only [bin_geq, Option.bind_some, cnd_dec]
    by_cases hge : 128 ≤ n
    · rw [if_pos (by omega)]
      simp only [conv_22_5, obH_some', or_byte, Option.bind_some]
      obtain ⟨v', h', e1, e2, e3⟩ := app1 hle ha (by omega) (UInt8.ofNat (n % 128 + 128))
      rw [show byteV (UInt8.ofNat (n % 128 + 128)) = .int .u8 ((UInt8.ofNat (n % 128 + 128)).toNat : Int) from rfl] at e1
      rw [show byteV (UInt8.ofNat (n % 128 + 128)) = .int .u8 ((UInt8.ofNat (n % 128 + 128)).toNat : Int) from rfl, bs1]
      simp only [obH_some']
      rw [e1, bin_shr _ _ _ _ _ _ _ (by omega)]
      simp only [obH_some', Option.bind_some, againK_normal]
      have f1 : Int.fdiv (n : Int) (2 ^ min (Int.toNat 7) IntKind.u64.bits) = ((n / 128 : Nat) : Int) := fdiv_128 n
      have f3 : sizeN n = sizeN (n / 128) + 1 := by rw [sizeN, if_neg (by omega)]
      rw [f1]
      obtain ⟨v2, h2, g1, g2, g3⟩ := ih (n / 128) (by omega) h' v' (k + 1) _ Aa Ac Ad Ae Ag Ah _ _ _ _ _ _ _ _ _ _ _ _ _ _ _ (by omega) (hkeep.trans e3) e2
      refine ⟨v2, h2, g1, g2, ?_⟩
      have f4 : k + sizeN n = k + 1 + sizeN (n / 128) := by omega
      have f5 : cs ++ (putL n).map byteV = cs ++ [byteV (UInt8.ofNat (n % 128 + 128))] ++ (putL (n / 128)).map byteV := by
        rw [putL, if_neg (by omega)]; simp
      rw [f4, f5]; exact g3
    · rw [if_neg (by omega)]
      simp only [againK_exit, blockK_same, seqK_normal]
      rw [c94_2_eq]
      simp only [conv_22_5, obH_some', bs1]
      obtain ⟨v', h', e1, e2, e3⟩ := app1 hle ha (by omega) (UInt8.ofNat n)
      rw [← small_byte n] at e1 e2
      rw [e1]
      simp only [obH_some']
      rw [ret94, fin_done]
      refine ⟨_, _, rfl, done_ext (hkeep.trans e3), ?_⟩
      have f3 : sizeN n = 1 := by rw [sizeN, if_pos (by omega)]
      have f5 : (putL n).map byteV = [byteV (UInt8.ofNat n)] := by rw [putL, if_pos (by omega)]; rfl
      rw [f3, f5, ← small_byte n]
      exact e2.keep fun _ _ _ => rfl
theorem spec_Put (n : Nat) (hn : n < 2 ^ 64) (h : Heap) (b : Value) (k : Nat) (cs : List Value) (hb : Row h 1 b k cs) (hk : k < 2 ^ 39) (hone : cs.all Value.oneCell' = true) :
    ∃ v' h', evC Try.prog 94 #[b, .int .u64 n] h = some (v', h') ∧ HExt h h' ∧ Acc h.blks.length h' 5 1 v' (k + sizeN n) (cs ++ (putL n).map byteV) := by
  rw [call94, c94_0_eq]
  have hs := sizeN_le n 10 (by omega) (by omega)
  have hr : Row (nm h) 1 b k cs := hb.keep fun _ _ _ => rfl
  obtain ⟨v', h', h1, h2, h3, h4, h5⟩ := append_acc etB (t1 := some 23) (n0 := h.blks.length) (h := nm h) (Nat.le_refl _) .nil (newsV_row etB.under hr) (by simpa using hr.len) (by omega) (by omega) hone
  rw [h1]
  simp only [obH_some']
  obtain ⟨v2, h2', g1, g2, g3⟩ := put_loop h n h' v' (0 + k) _ b undef undef (Go.Value.slice Option.none 0 0) b v' undef undef undef undef undef undef undef undef undef undef undef undef undef undef undef (by omega) h3 h2
  exact ⟨v2, h2', g1, g2, by simpa using g3⟩
end Go.Am
namespace Go.Am
open Go.Proofs
def getLoop (n i : Nat) : List UInt8 → Nat × Nat
  | [] => (0, 0)
  | c :: l =>
    if i = 10 then (0, 0)
    else
      let n' := n ||| (c.toNat % 128 * 2 ^ (7 * i)) % 2 ^ 64
      if c.toNat < 128 then (if sizeN n' ≠ i + 1 ∨ (i = 9 ∧ c.toNat > 1) then (0, 0) else (n', i + 1)) else getLoop n' (i + 1) l
def getL (l : List UInt8) : Nat × Nat := getLoop 0 0 l
theorem wrap64 (n : Nat) : IntKind.wrap .u64 (n : Int) = ((n % 2 ^ 64 : Nat) : Int) := by simp only [IntKind.wrap, IntKind.bits, IntKind.signed]; simp
theorem or64 (P : Program) (t : TypeId) (xo yo : Operand) (a b : Nat) (ha : a < 2 ^ 64) (hb : b < 2 ^ 64) : binV P .or t xo yo (.int .u64 a) (.int .u64 b) = some (.int .u64 ((a ||| b : Nat) : Int)) := by
  rw [bin_or]
  have e : (BitVec.ofInt IntKind.u64.bits (a : Int) ||| BitVec.ofInt IntKind.u64.bits (b : Int)).toNat = a ||| b := by
    show (BitVec.ofInt 64 (a : Int) ||| BitVec.ofInt 64 (b : Int)).toNat = a ||| b
    rw [BitVec.toNat_or]
    simp
    rw [Nat.mod_eq_of_lt ha, Nat.mod_eq_of_lt hb]
  rw [e, wrap64, Nat.mod_eq_of_lt (Nat.or_lt_two_pow ha hb)]
theorem and127 (x : Fin 256) : (IntKind.wrap .u8 ((BitVec.ofInt 8 (x.val : Int) &&& BitVec.ofInt 8 127).toNat : Int)) = ((x.val % 128 : Nat) : Int) := by
  revert x; decide +kernel
theorem bin_and (P : Program) (t : TypeId) (xo yo : Operand) (k : IntKind) (a b : Int) : binV P .and t xo yo (.int k a) (.int k b) = some (.int k (k.wrap ((BitVec.ofInt k.bits a &&& BitVec.ofInt k.bits b).toNat))) :=
  bin_int t xo yo k k a b .and rfl (by simp [eqGuard,Go.binOp,Op.intBits])
theorem and_byte (P : Program) (t : TypeId) (xo yo : Operand) (c : UInt8) : binV P .and t xo yo (byteV c) (.int .u8 127) = some (.int .u8 ((c.toNat % 128 : Nat) : Int)) := by
  unfold byteV
  rw [bin_and]
  have := and127 ⟨c.toNat, UInt8.toNat_lt c⟩
  simp only at this
  show some (Value.int .u8 (IntKind.wrap .u8 ((BitVec.ofInt 8 (c.toNat : Int) &&& BitVec.ofInt 8 127).toNat))) = _
  rw [this]
theorem conv_5_22 (n : Nat) (hn : n < 256) (h : Heap) : convV Try.prog 5 46 (.int .u8 n) h = some (.int .u64 n, h) := by
  rw [conv_int (ks := .u8) (kd := .u64) (by kernel_rfl) (by kernel_rfl), wrap64, Nat.mod_eq_of_lt (by omega)]
theorem shl64 (a i : Nat) (hi : i ≤ 9) : IntKind.wrap .u64 ((a : Int) * 2 ^ min ((7 * i : Nat) : Int).toNat IntKind.u64.bits) = ((a * 2 ^ (7 * i) % 2 ^ 64 : Nat) : Int) := by
  have e : min ((7 * i : Nat) : Int).toNat IntKind.u64.bits = 7 * i := by
    show min ((7 * i : Nat) : Int).toNat 64 = 7 * i
    omega
  have e2 : (a : Int) * 2 ^ (7 * i) = ((a * 2 ^ (7 * i) : Nat) : Int) := by push_cast; rfl
  rw [e, e2, wrap64]
theorem get_loop (h0 h : Heap) (v : Value) (bs : List UInt8) (hr : Row h 1 v bs.length (bs.map byteV)) (hk : Keeps h0.blks.length (nm h0) h) (hb : bs.length < 2 ^ 40) : ∀ (m i n : Nat), bs.length - i = m → i ≤ bs.length → n < 2 ^ 64 → i ≤ 10 →
    ∀ (Aa Ab Ad Ae Af Aj Ak Al An Ao Ap Aq Ar As At Au Av Aw Ax Ay Az Ba Bb Bc Bd Be Bf Bg Bh Bi Bj Bk Bl Bm Bn Bo Bp Bq : Value),
    loopK Try.prog (evC Try.prog) c96_1 ⟨#[Aa,Ab, .int .u64 n,Ad,Ae,Af, v, .int .i64 bs.length, .int .i64 i,Aj,Ak,Al,An,Ao,Ap,Aq,Ar,As,At,Au,Av,Aw,Ax,Ay,Az,Ba,Bb,Bc,Bd,Be,Bf,Bg,Bh,Bi,Bj,Bk,Bl,Bm,Bn,Bo,Bp,Bq], h⟩ (blockK 0 (seqK Try.prog (evC Try.prog) c96_2 (retK Try.f96 Try.prog h0))) =
      some (.tuple #[.int .u64 (getLoop n i (bs.drop i)).1, .int .i64 (getLoop n i (bs.drop i)).2], done h0 h) := by
  intro m
  induction m with
  | zero =>
    intro i n hm hi hn hi10 Aa Ab Ad Ae Af Aj Ak Al An Ao Ap Aq Ar As At Au Av Aw Ax Ay Az Ba Bb Bc Bd Be Bf Bg Bh Bi Bj Bk Bl Bm Bn Bo Bp Bq
    rw [loopK_eq evC_m, c96_1_eq]
    simp only [bin_lss, Option.bind_some, cnd_dec]
    rw [if_neg (by omega)]
    simp only [againK_exit, blockK_same, seqK_normal]
    rw [c96_2_eq, ret96, fin_done, List.drop_of_length_le (by omega)]
    rfl
  | succ m ih =>
    intro i n hm hi hn hi10 Aa Ab Ad Ae Af Aj Ak Al An Ao Ap Aq Ar As At Au Av Aw Ax Ay Az Ba Bb Bc Bd Be Bf Bg Bh Bi Bj Bk Bl Bm Bn Bo Bp Bq
    have hlt : i < bs.length := by omega
    rw [loopK_eq evC_m, c96_1_eq]
    simp only [bin_lss, Option.bind_some, cnd_dec]
    rw [if_pos (by omega)]
    obtain ⟨a, e1, e2, _⟩ := hr.at1 etB.under etB.size (by kernel_rfl) hlt .i64
    have e3 : (bs.map byteV)[i]? = some (byteV bs[i]) := by simp [hlt]
    rw [e3] at e2
    have ed : bs.drop i = bs[i] :: bs.drop (i + 1) := List.drop_eq_getElem_cons hlt
    rw [e1]
    simp only [Option.bind_some, e2, bin_eql, cnd_dec]
    generalize bs[i] = c at *
    by_cases h10 : i = 10
    · rw [if_pos (by omega)]
      simp only [againK_exit, blockK_same, seqK_normal]
      rw [c96_2_eq, ret96, fin_done, ed, getLoop, if_pos h10]
      rfl
    · rw [if_neg (by omega)]
      have hc := UInt8.toNat_lt c
      have hm7 : IntKind.wrap .i64 (7 * (i : Int)) = ((7 * i : Nat) : Int) := by rw [wrap_i64] <;> omega
      have hsh := shl64 (c.toNat % 128) i (by omega)
      have hn' : n ||| (c.toNat % 128 * 2 ^ (7 * i)) % 2 ^ 64 < 2 ^ 64 := Nat.or_lt_two_pow hn (Nat.mod_lt _ (by omega))
      have hl1 : IntKind.wrap .i64 ((i : Int) + 1) = ((i + 1 : Nat) : Int) := by rw [wrap_i64] <;> omega
      simp only [and_byte, Option.bind_some, conv_5_22 _ (show c.toNat % 128 < 256 by omega), obH_some', bin_mul, hm7, bin_shl _ _ _ _ _ _ _ (show (0 : Int) ≤ ((7 * i : Nat) : Int) by omega), hsh,
        or64 _ _ _ _ _ _ hn (Nat.mod_lt (c.toNat % 128 * 2 ^ (7 * i)) (show 0 < 2 ^ 64 by omega))]
      simp only [byteV, bin_lss, Option.bind_some, cnd_dec]
      rw [ed, getLoop, if_neg h10]
      simp only []
      generalize n ||| (c.toNat % 128 * 2 ^ (7 * i)) % 2 ^ 64 = n' at *
      by_cases h128 : c.toNat < 128
      · rw [if_pos (by omega), if_pos h128]
        rw [spec_Size n' hn' h]
        simp only [obH_some', bin_add, Option.bind_some, hl1, bin_neq]
        by_cases hs : sizeN n' = i + 1
        · have hd : decide (((sizeN n' : Nat) : Int) ≠ ((i + 1 : Nat) : Int)) = false := decide_eq_false (by omega)
          rw [hd]
          simp only [wt_ff]
          simp only [gd_true, gdV_true]
          rw [bin_eql, Option.bind_some]
          by_cases h9 : i = 9
          · have hd9 : decide ((i : Int) = 9) = true := decide_eq_true (by omega)
            rw [hd9]
            simp only [wt_tt]
            simp only [gd_true, gdV_true]
            rw [bin_gtr, Option.bind_some]
            by_cases hc1 : c.toNat > 1
            · have hdc : decide ((c.toNat : Int) > 1) = true := decide_eq_true (by omega)
              simp only [hdc, pickV_true, pickV_false, cnd_true, Option.bind_some, againK_exit, blockK_same, seqK_normal]
              rw [c96_2_eq, ret96, fin_done, if_pos (.inr ⟨h9, hc1⟩)]
              rfl
            · have hdc : decide ((c.toNat : Int) > 1) = false := decide_eq_false (by omega)
              simp only [hdc, pickV_true, pickV_false, cnd_false, Option.bind_some, againK_ret, blockK_ret, seqK_ret, bin_add, hl1]
              rw [ret96, fin_done, if_neg (by omega)]
          · have hd9 : decide ((i : Int) = 9) = false := decide_eq_false (by omega)
            simp only [hd9, wt_ft, gd_false, gdV_false, pickV_true, pickV_false, cnd_false, Option.bind_some, againK_ret, blockK_ret, seqK_ret, bin_add, hl1]
            rw [ret96, fin_done, if_neg (by omega)]
        · have hd : decide (((sizeN n' : Nat) : Int) ≠ ((i + 1 : Nat) : Int)) = true := decide_eq_true (by omega)
          simp only [hd, wt_tf, wt_undef, gd_false, gdV_false, pickV_true, cnd_true, Option.bind_some, againK_exit, blockK_same, seqK_normal]
          rw [c96_2_eq, ret96, fin_done, if_pos (.inl hs)]
          rfl
      · rw [if_neg (by omega), if_neg h128]
        simp only [bin_add, Option.bind_some, hl1, againK_normal]
        exact ih (i + 1) n' (by omega) (by omega) hn' (by omega) _ _ _ _ _ _ _ _ _ _ _ _ _ _ _ _ _ _ _ _ _ _ _ _ _ _ _ _ _ _ _ _ _ _ _ _ _ _
theorem spec_Get (h : Heap) (v : Value) (bs : List UInt8) (hr : Row h 1 v bs.length (bs.map byteV)) (hb : bs.length < 2 ^ 40) :
    evC Try.prog 96 #[v] h = some (.tuple #[.int .u64 (getL bs).1, .int .i64 (getL bs).2], h) := by
  rw [call96, c96_0_eq, (show Row (nm h) 1 v bs.length (bs.map byteV) from hr.keep fun _ _ _ => rfl).len_eq etB.under]
  simp only [Option.bind_some]
  have := get_loop h (nm h) v bs (hr.keep fun _ _ _ => rfl) (Keeps.refl (Nat.le_refl _)) hb bs.length 0 0 (by omega) (by omega) (by omega) (by omega) v undef (Go.Value.int Go.IntKind.i64 0) undef undef undef undef undef undef undef undef undef undef undef undef undef undef undef undef undef undef undef undef undef undef undef undef undef undef undef undef undef undef undef undef undef undef undef
  exact this
end Go.Am
namespace Go.Am
open Go.Proofs
theorem ldB (p o : Nat) (h : Heap) : loadV Try.prog 23 (.pointer (some ⟨p, o, none⟩)) h = h.load1 p o := by kernel_rfl
theorem ldBool (p o : Nat) (h : Heap) : loadV Try.prog 4 (.pointer (some ⟨p, o, none⟩)) h = h.load1 p o := by kernel_rfl
theorem stB (p o : Nat) (a : Option Addr) (n c : Nat) (h : Heap) : storeV Try.prog 23 (.pointer (some ⟨p, o, none⟩)) (.slice a n c) h = h.storeN p o [.slice a n c] := by kernel_rfl
theorem stBool (p o : Nat) (b : Bool) (h : Heap) : storeV Try.prog 4 (.pointer (some ⟨p, o, none⟩)) (.bool b) h = h.storeN p o [.bool b] := by kernel_rfl
theorem maxI (a b : Int) (h : Heap) : builtinV Try.prog .max #[3, 3] #[.int .i64 a, .int .i64 b] h = some (.int .i64 (max a b), h) := by
  have e : builtinV Try.prog .max #[3, 3] #[.int .i64 a, .int .i64 b] h = some (.int .i64 (if b > a then b else a), h) := by kernel_rfl
  rw [e]
  have : (if b > a then b else a) = max a b := by split <;> omega
  rw [this]
theorem nilB (xo yo : Operand) : binV Try.prog .eql 23 xo yo (.slice none 0 0) (.slice none 0 0) = some (.bool true) := by kernel_rfl
theorem mkB0 (h : Heap) : buildSliceV Try.prog 23 0 #[] h = some (.slice (some ⟨h.blks.length, 0, none⟩) 0 0, h.new (.cells []) 5) := by kernel_rfl
theorem mkB1 (k : IntKind) (n : Int) (h : Heap) : buildSliceV Try.prog 23 1 #[(0, .int k n)] h = some (.slice (some ⟨h.blks.length, 0, none⟩) 1 1, h.new (.cells [.int k n]) 5) := by kernel_rfl
theorem cvB8 (k : IntKind) (n : Nat) (h : Heap) : convV Try.prog 46 5 (.int k n) h = some (byteV (UInt8.ofNat n), h) := by
  rw [conv_int (ks := .u64) (kd := .u8) (by kernel_rfl) (by kernel_rfl), small_byte]
theorem cvI64 (n : Int) (h : Heap) (h0 : 0 ≤ n) (h1 : n < 2 ^ 63) : convV Try.prog 3 46 (.int .i64 n) h = some (.int .u64 n, h) := conv_u64 (ks := .i64) (by kernel_rfl) (by kernel_rfl) _ _ _ h0 (by omega)
theorem cvU64 (n : Int) (h : Heap) (h0 : 0 ≤ n) (h1 : n < 2 ^ 63) : convV Try.prog 46 3 (.int .u64 n) h = some (.int .i64 n, h) := conv_i64 (ks := .u64) (by kernel_rfl) (by kernel_rfl) _ _ _ (by omega) h1
abbrev SB (h : Heap) (v : Value) (bs : List UInt8) : Prop := Sl Try.prog h 1 v bs.length (bs.map byteV)
abbrev AB (n0 : Nat) (h : Heap) (v : Value) (bs : List UInt8) : Prop := Acc n0 h 5 1 v bs.length (bs.map byteV)
theorem AB.sb {n0 : Nat} {h : Heap} {v : Value} {bs : List UInt8} (a : AB n0 h v bs) : SB h v bs := a.sl etB.size
theorem bytes_one (bs : List UInt8) : (bs.map byteV).all Value.oneCell' = true := by
  rw [List.all_map, List.all_eq_true]; intro x _; rfl
theorem AB.empty (n0 : Nat) (h : Heap) (hn : n0 ≤ h.blks.length) : AB n0 (h.new (.cells []) 5) (.slice (some ⟨h.blks.length, 0, none⟩) 0 0) [] := .full (all := []) hn (by omega) (blk_new_self _ _ _) (by simp) rfl
theorem app_bytes {n0 : Nat} {h : Heap} (hn0 : n0 ≤ h.blks.length) {v x : Value} {bs cs : List UInt8} (ha : AB n0 h v bs) (hx : SB h x cs) (hl : bs.length + cs.length < 2 ^ 44) :
    ∃ a c h', appendV Try.prog 23 (some 23) v x h = some (.slice a (bs ++ cs).length c, h') ∧ AB n0 h' (.slice a (bs ++ cs).length c) (bs ++ cs) ∧ Keeps n0 h h' ∧ (∀ b, b < h.blks.length → blockOf v ≠ some b → h'.blks[b]? = h.blks[b]?) ∧
      (.slice a (bs ++ cs).length c = v ∧ h' = h ∨ blockOf (.slice a (bs ++ cs).length c) = some h.blks.length ∧ h.blks.length < h'.blks.length) := by
  obtain ⟨v', h', e1, e2, e3, e4, e5⟩ := append_acc etB (t1 := some 23) hn0 ha (newsV_row etB.under hx.row) (by simpa using hx.len) (by omega) (by omega) (bytes_one cs)
  obtain ⟨a, c, rfl⟩ := e2.shape
  rw [← List.length_append] at e1 e2 e5
  rw [← List.map_append] at e2
  exact ⟨a, c, h', e1, e2, e3, e4, e5⟩
theorem strB {h : Heap} {v : Value} {bs : List UInt8} (s : SB h v bs) : convV Try.prog 23 9 v h = some (strV bs, h) := by
  have hs : Try.prog.underlying 23 = some (.slice 5) := by kernel_rfl
  have hd : Try.prog.underlying 9 = some .string := by kernel_rfl
  have hb : isByteT Try.prog 5 = true := by kernel_rfl
  have hbo : ∀ l : List UInt8, bytesOf? (l.map byteV) = some l := by
    intro l
    induction l with
    | nil => rfl
    | cons x l ih =>
      rw [List.map_cons]
      unfold byteV bytesOf?
      rw [show (l.map byteV) = l.map byteV from rfl] at ih
      have : bytesOf? (l.map fun b => Value.int .u8 (b.toNat : Int)) = some l := ih
      change (bytesOf? (l.map byteV)).map _ = _
      rw [ih]
      simp
  unfold convV
  rw [hs, hd]
  rcases s.inv with ⟨rfl, _, h3⟩ | ⟨b, o, c, rfl, hl, _⟩
  · have : bs = [] := by simpa using h3
    subst this
    simp [hb]
    rfl
  · simp only [hb, if_true]
    rw [Nat.mul_one] at hl
    rw [hl, Option.bind_some, hbo]
    rfl
theorem sl_mid {h : Heap} {v : Value} {bs : List UInt8} (s : SB h v bs) {i j : Nat} (hij : i ≤ j) (hj : j ≤ bs.length) {lo hi : Option Value} (hlo : lo.elim (some 0) natOf? = some i) (hhi : hi.elim (some bs.length) natOf? = some j) :
    ∃ a c, sliceV Try.prog 23 v lo hi none h = some (.slice a ((bs.drop i).take (j - i)).length c) ∧ SB h (.slice a ((bs.drop i).take (j - i)).length c) ((bs.drop i).take (j - i)) ∧ blockOf (.slice a ((bs.drop i).take (j - i)).length c) = blockOf v := by
  obtain ⟨v3, e3, s3, b3⟩ := s.sub etB.under etB.size hij hj hlo hhi
  obtain ⟨a4, c4, rfl⟩ := s3.shape
  have el : ((bs.drop i).take (j - i)).length = j - i := by simp; omega
  rw [Nat.mul_one, Nat.mul_one, ← List.map_drop, ← List.map_take] at s3
  refine ⟨a4, c4, ?_⟩
  unfold SB
  rw [el]
  exact ⟨e3, s3, b3⟩
theorem sl_drop {h : Heap} {v : Value} {bs : List UInt8} (s : SB h v bs) {i : Nat} (hi : i ≤ bs.length) (k : IntKind) :
    ∃ a c, sliceV Try.prog 23 v (some (.int k i)) none none h = some (.slice a (bs.drop i).length c) ∧ SB h (.slice a (bs.drop i).length c) (bs.drop i) ∧ blockOf (.slice a (bs.drop i).length c) = blockOf v := by
  have := sl_mid s (i := i) (j := bs.length) hi (Nat.le_refl _) (lo := some (.int k i)) (hi := none) (natOf_int k _) rfl
  rwa [List.take_of_length_le (by simp)] at this
theorem sl_take {h : Heap} {v : Value} {bs : List UInt8} (s : SB h v bs) {i : Nat} (hi : i ≤ bs.length) (k : IntKind) :
    ∃ a c, sliceV Try.prog 23 v none (some (.int k i)) none h = some (.slice a (bs.take i).length c) ∧ SB h (.slice a (bs.take i).length c) (bs.take i) ∧ blockOf (.slice a (bs.take i).length c) = blockOf v := by
  have := sl_mid s (i := 0) (j := i) (Nat.zero_le _) hi (lo := none) (hi := some (.int k i)) rfl (natOf_int k _)
  rwa [List.drop_zero, Nat.sub_zero] at this
theorem mkBb (b : UInt8) (h : Heap) : buildSliceV Try.prog 23 1 #[(0, byteV b)] h = some (.slice (some ⟨h.blks.length, 0, none⟩) 1 1, h.new (.cells [byteV b]) 5) := mkB1 _ _ _
theorem lit1 (b : UInt8) (h : Heap) : SB (h.new (.cells [byteV b]) 5) (.slice (some ⟨h.blks.length, 0, none⟩) 1 1) [b] :=
  .mk (by simp [Heap.loadN, Heap.cells?, blk_new_self]) (.inr ⟨Nat.le_refl _, by unfold UNK; omega⟩)
theorem app_b {n0 : Nat} {h : Heap} (hn0 : n0 ≤ h.blks.length) {v : Value} {bs : List UInt8} (ha : AB n0 h v bs) (b : UInt8) (hl : bs.length < 2 ^ 43) :
    ∃ a c h', appendV Try.prog 23 (some 23) v (.slice (some ⟨h.blks.length, 0, none⟩) 1 1) (h.new (.cells [byteV b]) 5) = some (.slice a (bs ++ [b]).length c, h') ∧ AB n0 h' (.slice a (bs ++ [b]).length c) (bs ++ [b]) ∧ Keeps n0 h h' ∧
      (∀ q, q < h.blks.length → blockOf v ≠ some q → h'.blks[q]? = h.blks[q]?) := by
  have ha' : AB n0 (h.new (.cells [byteV b]) 5) v bs := ha.keep fun _ hb _ => Heap.new_old hb
  obtain ⟨a, c, h', e1, e2, e3, e4, _⟩ := app_bytes (n0 := n0) (by simp [Heap.new]; omega) ha' (lit1 b h) (by simp; omega)
  exact ⟨a, c, h', e1, e2, (Keeps.new hn0 _ _).trans e3, fun q hq hne => (e4 q (by simp [Heap.new]; omega) hne).trans (Heap.new_old hq)⟩
theorem spec_Clone (h : Heap) (x : Value) (bs : List UInt8) (hx : SB h x bs) (hl : bs.length < 2 ^ 43) :
    ∃ a c h', evC Try.prog 95 #[x] h = some (.slice a bs.length c, h') ∧ HExt h h' ∧ AB h.blks.length h' (.slice a bs.length c) bs := by
  rw [call95, c95_0_eq]
  rcases hx.inv with ⟨rfl, _, h3⟩ | ⟨b, o, c, rfl, _, _⟩
  · have : bs = [] := by simpa using h3
    subst this
    simp -implicitDefEqProofs only [nilB, ↓cnd_true, ↓cnd_false, ↓Option.bind_some, ↓obH_some', bin_add, bin_sub, bin_mul, bin_lss, bin_leq, bin_gtr, bin_geq, bin_eql, bin_neq, un_not, un_neg, Option.bind_some, Option.bind_none, Option.map_some, cnd_true, cnd_false, pickV_true, pickV_false, gd_true, gd_false, gdV_true, gdV_false, gdH_true, gdH_false, gdS_true, gdS_false, wt_ff, wt_tt, wt_ft, wt_tf, wt_undef, obH_some', extractV_tuple, nilCheckV_ptr, againK_normal, againK_exit, againK_ret, blockK_normal, blockK_same, blockK_ret, seqK_normal, seqK_exit, seqK_ret, fin_done, if_true', if_false', Bool.not_true, Bool.not_false, idx0, idx1, idx2, idx3, idx4, chk_nil_l, chk_nil_r, done_nm]
    rw [ret95, fin_done]
    exact ⟨none, 0, h, by simp, HExt.refl h, .nil⟩
  · simp -implicitDefEqProofs only [bin_nil_some (P := Try.prog) (t := 23) etB.under, mkB0, ↓cnd_true, ↓cnd_false, ↓Option.bind_some, ↓obH_some', bin_add, bin_sub, bin_mul, bin_lss, bin_leq, bin_gtr, bin_geq, bin_eql, bin_neq, un_not, un_neg, Option.bind_some, Option.bind_none, Option.map_some, cnd_true, cnd_false, pickV_true, pickV_false, gd_true, gd_false, gdV_true, gdV_false, gdH_true, gdH_false, gdS_true, gdS_false, wt_ff, wt_tt, wt_ft, wt_tf, wt_undef, obH_some', extractV_tuple, nilCheckV_ptr, againK_normal, againK_exit, againK_ret, blockK_normal, blockK_same, blockK_ret, seqK_normal, seqK_exit, seqK_ret, fin_done, if_true', if_false', Bool.not_true, Bool.not_false, idx0, idx1, idx2, idx3, idx4, chk_nil_l, chk_nil_r, done_nm]
    obtain ⟨a, c', h', e1, e2, e3, e4, e5⟩ := app_bytes (n0 := h.blks.length) (by simp [Heap.new]) (AB.empty h.blks.length (nm h) (by simp)) (hx.nm.keepNew _ _) (by simp; omega)
    rw [e1]
    simp only [obH_some']
    rw [ret95, fin_done]
    exact ⟨a, c', _, rfl, done_ext' ((In.new (S := No) (by simp) _ _).trans e3.inn), e2.done⟩
theorem spec_PutB (n : Nat) (hn : n < 2 ^ 64) (h : Heap) (b : Value) (bs : List UInt8) (hb : SB h b bs) (hk : bs.length < 2 ^ 39) :
    ∃ a c h', evC Try.prog 94 #[b, .int .u64 n] h = some (.slice a (bs ++ putL n).length c, h') ∧ HExt h h' ∧ AB h.blks.length h' (.slice a (bs ++ putL n).length c) (bs ++ putL n) := by
  obtain ⟨v, h', e1, e2, e3⟩ := spec_Put n hn h b _ _ hb.row hk (bytes_one bs)
  obtain ⟨a, c, rfl⟩ := e3.shape
  rw [← putL_len, ← List.length_append] at e1 e3
  rw [← List.map_append] at e3
  exact ⟨a, c, h', e1, e2, e3⟩
end Go.Am
namespace Go.Am
open Go.Proofs
set_option maxRecDepth 100000
set_option linter.all false
attribute [local congr] obind_congr obH_congr cnd_congr chk_congr retK_congr codeK_congr
def nanB (n : Nat) : Bool := decide (2047 * 2 ^ 52 < n % 2 ^ 63)
theorem bits_of (n : Nat) (h : Heap) : callV Try.prog (evC Try.prog) (.func (.func 109) #[] #[]) #[.float .f64 n] h = some (.int .u64 n, h) := by kernel_rfl
theorem frombits (n : Nat) (h : Heap) : callV Try.prog (evC Try.prog) (.func (.func 108) #[] #[]) #[.int .u64 n] h = some (.float .f64 n, h) := by kernel_rfl
theorem floatEq_self (n : Nat) : Op.floatEq .f64 n n = !nanB n := by
  have h1 : ∀ b : Bool, compare b.toNat b.toNat = .eq := by intro b; cases b <;> rfl
  have key : Op.floatEq .f64 n n = !(Ieee.double.read n).isNaN := by
    unfold Op.floatEq
    show (Ieee.Datum.order (Ieee.double.read n) (Ieee.double.read n) == some .eq) = _
    generalize Ieee.double.read n = d
    cases d with
    | number s m i => simp [Ieee.Datum.order, Ieee.Datum.isNaN]
    | infinity s => simp [Ieee.Datum.order, Ieee.Datum.isNaN]
    | nan s t => simp [Ieee.Datum.order, Ieee.Datum.isNaN]
  rw [key]
  congr 1
  have e1 : Ieee.double.signWeight = 2 ^ 63 := by decide
  have e2 : Ieee.double.infRung = 2047 * 2 ^ 52 := by decide
  have e3 : Ieee.double.binade = 2 ^ 52 := by decide
  unfold Ieee.Format.read nanB
  rw [e1, e2, e3]
  by_cases a : n % 2 ^ 63 < 2 ^ 52
  · rw [decide_eq_false (by omega)]; simp only [if_pos a]; rfl
  · simp only [if_neg a]
    by_cases b : n % 2 ^ 63 < 2047 * 2 ^ 52
    · rw [decide_eq_false (by omega)]; simp only [if_pos b]; rfl
    · simp only [if_neg b]
      by_cases c : n % 2 ^ 63 = 2047 * 2 ^ 52
      · rw [decide_eq_false (by omega)]; simp only [if_pos c]; rfl
      · rw [decide_eq_true (by omega)]; simp only [if_neg c]; rfl
theorem fl_neq (xo yo : Operand) (n : Nat) : binV Try.prog .neq 84 xo yo (.float .f64 n) (.float .f64 n) = some (.bool (nanB n)) := by
  have e : binV Try.prog .neq 84 xo yo (.float .f64 n) (.float .f64 n) = some (.bool (!(Op.floatEq .f64 n n))) := by kernel_rfl
  rw [e, floatEq_self, Bool.not_not]
theorem spec_IsNaN (n : Nat) (h : Heap) : evC Try.prog 125 #[.float .f64 n] h = some (.bool (nanB n), h) := by
  rw [call125, c125_0_eq]
  simp -implicitDefEqProofs only [fl_neq, ↓ret125, ↓cnd_true, ↓cnd_false, ↓Option.bind_some, ↓obH_some', bin_add, bin_sub, bin_mul, bin_lss, bin_leq, bin_gtr, bin_geq, bin_eql, bin_neq, un_not, un_neg, Option.bind_some, Option.bind_none, Option.map_some, cnd_true, cnd_false, pickV_true, pickV_false, gd_true, gd_false, gdV_true, gdV_false, gdH_true, gdH_false, gdS_true, gdS_false, wt_ff, wt_tt, wt_ft, wt_tf, wt_undef, obH_some', extractV_tuple, nilCheckV_ptr, againK_normal, againK_exit, againK_ret, blockK_normal, blockK_same, blockK_ret, seqK_normal, seqK_exit, seqK_ret, fin_done, if_true', if_false', Bool.not_true, Bool.not_false, idx0, idx1, idx2, idx3, idx4, chk_nil_l, chk_nil_r, done_nm]
def nanBits : Nat := 9221120237041090561
theorem spec_NaN (h : Heap) : evC Try.prog 76 #[] h = some (.float .f64 nanBits, h) := by
  rw [call76, c76_0_eq]
  have e := fun h => frombits nanBits h
  rw [show ((nanBits : Nat) : Int) = 9221120237041090561 from rfl] at e
  simp -implicitDefEqProofs only [e, ↓ret76, ↓cnd_true, ↓cnd_false, ↓Option.bind_some, ↓obH_some', bin_add, bin_sub, bin_mul, bin_lss, bin_leq, bin_gtr, bin_geq, bin_eql, bin_neq, un_not, un_neg, Option.bind_some, Option.bind_none, Option.map_some, cnd_true, cnd_false, pickV_true, pickV_false, gd_true, gd_false, gdV_true, gdV_false, gdH_true, gdH_false, gdS_true, gdS_false, wt_ff, wt_tt, wt_ft, wt_tf, wt_undef, obH_some', extractV_tuple, nilCheckV_ptr, againK_normal, againK_exit, againK_ret, blockK_normal, blockK_same, blockK_ret, seqK_normal, seqK_exit, seqK_ret, fin_done, if_true', if_false', Bool.not_true, Bool.not_false, idx0, idx1, idx2, idx3, idx4, chk_nil_l, chk_nil_r, done_nm]
theorem and63 (n : Nat) (hn : n < 2 ^ 64) : (n &&& 2 ^ 63 = 0) ↔ n < 2 ^ 63 := by
  have h1 : n &&& 2 ^ 63 = (n.testBit 63).toNat * 2 ^ 63 := by
    apply Nat.eq_of_testBit_eq
    intro i
    rw [Nat.testBit_and, Nat.testBit_two_pow]
    by_cases h : 63 = i
    · subst h
      cases hb : n.testBit 63 <;> simp
      decide
    · rw [decide_eq_false h, Bool.and_false]
      cases hb : n.testBit 63
      · simp
      · simp only [Bool.toNat_true, Nat.one_mul, Nat.testBit_two_pow]; rw [decide_eq_false h]
  have h2 : n.testBit 63 = decide (2 ^ 63 ≤ n) := by
    rw [Nat.testBit_eq_decide_div_mod_eq]
    congr 1
    apply propext
    omega
  rw [h1, h2]
  by_cases h : 2 ^ 63 ≤ n
  · rw [decide_eq_true h]; exact ⟨fun e => by simp at e, fun e => absurd e (by omega)⟩
  · rw [decide_eq_false h]; exact ⟨fun _ => by omega, fun _ => by simp⟩
theorem or63 (n : Nat) (hn : n < 2 ^ 63) : n ||| 2 ^ 63 = n + 2 ^ 63 := by
  have := Nat.two_pow_add_eq_or_of_lt (i := 63) hn 1
  rw [Nat.mul_one, Nat.or_comm] at this
  rw [← this]; exact Nat.add_comm _ _
def keyF (n : Nat) : Nat := if nanB n = true then 2 ^ 64 - 1 else if n < 2 ^ 63 then n + 2 ^ 63 else 2 ^ 64 - 1 - n
theorem keyF_lt {n : Nat} (hn : n < 2 ^ 64) : keyF n < 2 ^ 64 := by unfold keyF; split; omega; split <;> omega
theorem a63 (t : TypeId) (xo yo : Operand) (n : Nat) (hn : n < 2 ^ 64) : binV Try.prog .and t xo yo (.int .u64 n) (.int .u64 9223372036854775808) = some (.int .u64 ((n &&& 2 ^ 63 : Nat) : Int)) := by
  rw [bin_and64 _ _ _ _ _ (by omega) (by omega) (by omega) (by omega), Int.toNat_natCast]; rfl
theorem o63 (t : TypeId) (xo yo : Operand) (n : Nat) (hn : n < 2 ^ 63) : binV Try.prog .or t xo yo (.int .u64 n) (.int .u64 9223372036854775808) = some (.int .u64 ((n + 2 ^ 63 : Nat) : Int)) := by
  rw [bin_or64 _ _ _ _ _ (by omega) (by omega) (by omega) (by omega), Int.toNat_natCast, ← or63 n hn]; rfl
theorem Cm (n : Nat) (hn : n < 2 ^ 64) : unV Try.prog .xor (.int .u64 n) = some (.int .u64 ((2 ^ 64 - 1 - n : Nat) : Int)) := by
  rw [un_xor64 _ (by omega) (by omega), Int.toNat_natCast]
theorem m63 (t : TypeId) (xo yo : Operand) (n : Nat) (hn : n < 2 ^ 64) : binV Try.prog .and t xo yo (.int .u64 n) (.int .u64 9223372036854775807) = some (.int .u64 ((n % 2 ^ 63 : Nat) : Int)) := by
  rw [bin_and64 _ _ _ _ _ (by omega) (by omega) (by omega) (by omega), Int.toNat_natCast, show (9223372036854775807 : Int).toNat = 2 ^ 63 - 1 from rfl, Nat.and_two_pow_sub_one_eq_mod]
theorem n63 (t : TypeId) (xo yo : Operand) (n : Nat) (hn : n < 2 ^ 64) : binV Try.prog .andNot t xo yo (.int .u64 n) (.int .u64 9223372036854775808) = some (.int .u64 ((n % 2 ^ 63 : Nat) : Int)) := by
  rw [bin_andNot64 _ _ _ _ _ (by omega) (by omega) (by omega) (by omega), Int.toNat_natCast, show 2 ^ 64 - 1 - (9223372036854775808 : Int).toNat = 2 ^ 63 - 1 from rfl, Nat.and_two_pow_sub_one_eq_mod]
theorem s63 (t : TypeId) (xo yo : Operand) (n : Nat) (hn : n < 2 ^ 64) : binV Try.prog .shr t xo yo (.int .u64 n) (.int .u64 63) = some (.int .u64 ((n / 2 ^ 63 : Nat) : Int)) := by
  rw [bin_shr64 _ _ _ _ _ _ (by omega) (by omega) (by omega), Int.toNat_natCast]; rfl
theorem spec_Key (n : Nat) (hn : n < 2 ^ 64) (h : Heap) : evC Try.prog 105 #[.float .f64 n] h = some (.int .u64 (keyF n : Nat), h) := by
  rw [call105, c105_0_eq]
  unfold keyF
  by_cases c : nanB n = true
  · rw [if_pos c]
    simp -implicitDefEqProofs only [bits_of, spec_IsNaN, c, ↓ret105, ↓cnd_true, ↓cnd_false, ↓Option.bind_some, ↓obH_some', bin_add, bin_sub, bin_mul, bin_lss, bin_leq, bin_gtr, bin_geq, bin_eql, bin_neq, un_not, un_neg, Option.bind_some, Option.bind_none, Option.map_some, cnd_true, cnd_false, pickV_true, pickV_false, gd_true, gd_false, gdV_true, gdV_false, gdH_true, gdH_false, gdS_true, gdS_false, wt_ff, wt_tt, wt_ft, wt_tf, wt_undef, obH_some', extractV_tuple, nilCheckV_ptr, againK_normal, againK_exit, againK_ret, blockK_normal, blockK_same, blockK_ret, seqK_normal, seqK_exit, seqK_ret, fin_done, if_true', if_false', Bool.not_true, Bool.not_false, idx0, idx1, idx2, idx3, idx4, chk_nil_l, chk_nil_r, done_nm]
    rfl
  · rw [if_neg c]
    have c' : nanB n = false := by simpa using c
    by_cases d : n < 2 ^ 63
    · rw [if_pos d]
      have e0 := (and63 n hn).2 d
      have e1 := fun t xo yo => a63 t xo yo n hn
      rw [e0] at e1
      have e2 := fun t xo yo => o63 t xo yo n d
      simp -implicitDefEqProofs (disch := omega) only [dcT, dcF, bits_of, spec_IsNaN, c', e1, e2, ↓ret105, ↓cnd_true, ↓cnd_false, ↓Option.bind_some, ↓obH_some', bin_add, bin_sub, bin_mul, bin_lss, bin_leq, bin_gtr, bin_geq, bin_eql, bin_neq, un_not, un_neg, Option.bind_some, Option.bind_none, Option.map_some, cnd_true, cnd_false, pickV_true, pickV_false, gd_true, gd_false, gdV_true, gdV_false, gdH_true, gdH_false, gdS_true, gdS_false, wt_ff, wt_tt, wt_ft, wt_tf, wt_undef, obH_some', extractV_tuple, nilCheckV_ptr, againK_normal, againK_exit, againK_ret, blockK_normal, blockK_same, blockK_ret, seqK_normal, seqK_exit, seqK_ret, fin_done, if_true', if_false', Bool.not_true, Bool.not_false, idx0, idx1, idx2, idx3, idx4, chk_nil_l, chk_nil_r, done_nm]
    · rw [if_neg d]
      have e0 : ¬ (n &&& 2 ^ 63) = 0 := fun e => d ((and63 n hn).1 e)
      have e1 := fun t xo yo => a63 t xo yo n hn
      have e2 := Cm n hn
      generalize n &&& 2 ^ 63 = q at *
      simp -implicitDefEqProofs (disch := omega) only [dcT, dcF, bits_of, spec_IsNaN, c', e1, e2, ↓ret105, ↓cnd_true, ↓cnd_false, ↓Option.bind_some, ↓obH_some', bin_add, bin_sub, bin_mul, bin_lss, bin_leq, bin_gtr, bin_geq, bin_eql, bin_neq, un_not, un_neg, Option.bind_some, Option.bind_none, Option.map_some, cnd_true, cnd_false, pickV_true, pickV_false, gd_true, gd_false, gdV_true, gdV_false, gdH_true, gdH_false, gdS_true, gdS_false, wt_ff, wt_tt, wt_ft, wt_tf, wt_undef, obH_some', extractV_tuple, nilCheckV_ptr, againK_normal, againK_exit, againK_ret, blockK_normal, blockK_same, blockK_ret, seqK_normal, seqK_exit, seqK_ret, fin_done, if_true', if_false', Bool.not_true, Bool.not_false, idx0, idx1, idx2, idx3, idx4, chk_nil_l, chk_nil_r, done_nm]
def ofK (k : Nat) : Nat × Bool := if k = 2 ^ 64 - 1 then (nanBits, true) else
  if nanB (if k < 2 ^ 63 then 2 ^ 64 - 1 - k else k - 2 ^ 63) = true then (0, false) else (if k < 2 ^ 63 then 2 ^ 64 - 1 - k else k - 2 ^ 63, true)
theorem ofK_lt (k : Nat) (hk : k < 2 ^ 64) : (ofK k).1 < 2 ^ 64 := by
  unfold ofK
  by_cases c : k = 2 ^ 64 - 1
  · rw [if_pos c]; decide
  · rw [if_neg c]
    by_cases d : k < 2 ^ 63
    · rw [if_pos d]
      by_cases e : nanB (2 ^ 64 - 1 - k) = true
      · rw [if_pos e]; show 0 < 2 ^ 64; omega
      · rw [if_neg e]; show 2 ^ 64 - 1 - k < 2 ^ 64; omega
    · rw [if_neg d]
      by_cases e : nanB (k - 2 ^ 63) = true
      · rw [if_pos e]; show 0 < 2 ^ 64; omega
      · rw [if_neg e]; show k - 2 ^ 63 < 2 ^ 64; omega
theorem spec_flOf (k : Nat) (hk : k < 2 ^ 64) (h : Heap) : evC Try.prog 103 #[.int .u64 k] h = some (.tuple #[.float .f64 (ofK k).1, .bool (ofK k).2], h) := by
  rw [call103, c103_0_eq]
  unfold ofK
  by_cases c : k = 2 ^ 64 - 1
  · subst c
    rw [if_pos rfl]
    simp -implicitDefEqProofs (disch := omega) only [dcT, dcF, spec_NaN, ↓ret103, ↓cnd_true, ↓cnd_false, ↓Option.bind_some, ↓obH_some', bin_add, bin_sub, bin_mul, bin_lss, bin_leq, bin_gtr, bin_geq, bin_eql, bin_neq, un_not, un_neg, Option.bind_some, Option.bind_none, Option.map_some, cnd_true, cnd_false, pickV_true, pickV_false, gd_true, gd_false, gdV_true, gdV_false, gdH_true, gdH_false, gdS_true, gdS_false, wt_ff, wt_tt, wt_ft, wt_tf, wt_undef, obH_some', extractV_tuple, nilCheckV_ptr, againK_normal, againK_exit, againK_ret, blockK_normal, blockK_same, blockK_ret, seqK_normal, seqK_exit, seqK_ret, fin_done, if_true', if_false', Bool.not_true, Bool.not_false, idx0, idx1, idx2, idx3, idx4, chk_nil_l, chk_nil_r, done_nm]
  · rw [if_neg c]
    have e1 := fun t xo yo => a63 t xo yo k hk
    have e2 := Cm k hk
    have e3 := fun t xo yo => n63 t xo yo k hk
    by_cases d : k < 2 ^ 63
    · rw [if_pos d]
      have e0 := (and63 k hk).2 d
      rw [e0] at e1
      by_cases n : nanB (2 ^ 64 - 1 - k) = true
      · rw [if_pos n]
        simp -implicitDefEqProofs (disch := omega) only [dcT, dcF, e1, e2, frombits, spec_IsNaN, n, ↓ret103, ↓cnd_true, ↓cnd_false, ↓Option.bind_some, ↓obH_some', bin_add, bin_sub, bin_mul, bin_lss, bin_leq, bin_gtr, bin_geq, bin_eql, bin_neq, un_not, un_neg, Option.bind_some, Option.bind_none, Option.map_some, cnd_true, cnd_false, pickV_true, pickV_false, gd_true, gd_false, gdV_true, gdV_false, gdH_true, gdH_false, gdS_true, gdS_false, wt_ff, wt_tt, wt_ft, wt_tf, wt_undef, obH_some', extractV_tuple, nilCheckV_ptr, againK_normal, againK_exit, againK_ret, blockK_normal, blockK_same, blockK_ret, seqK_normal, seqK_exit, seqK_ret, fin_done, if_true', if_false', Bool.not_true, Bool.not_false, idx0, idx1, idx2, idx3, idx4, chk_nil_l, chk_nil_r, done_nm]
      · have n' : nanB (2 ^ 64 - 1 - k) = false := by simpa using n
        rw [if_neg n]
        simp -implicitDefEqProofs (disch := omega) only [dcT, dcF, e1, e2, frombits, spec_IsNaN, n', ↓ret103, ↓cnd_true, ↓cnd_false, ↓Option.bind_some, ↓obH_some', bin_add, bin_sub, bin_mul, bin_lss, bin_leq, bin_gtr, bin_geq, bin_eql, bin_neq, un_not, un_neg, Option.bind_some, Option.bind_none, Option.map_some, cnd_true, cnd_false, pickV_true, pickV_false, gd_true, gd_false, gdV_true, gdV_false, gdH_true, gdH_false, gdS_true, gdS_false, wt_ff, wt_tt, wt_ft, wt_tf, wt_undef, obH_some', extractV_tuple, nilCheckV_ptr, againK_normal, againK_exit, againK_ret, blockK_normal, blockK_same, blockK_ret, seqK_normal, seqK_exit, seqK_ret, fin_done, if_true', if_false', Bool.not_true, Bool.not_false, idx0, idx1, idx2, idx3, idx4, chk_nil_l, chk_nil_r, done_nm]
    · rw [if_neg d]
      have e0 : ¬ (k &&& 2 ^ 63) = 0 := fun e => d ((and63 k hk).1 e)
      rw [show k % 2 ^ 63 = k - 2 ^ 63 by omega] at e3
      generalize k &&& 2 ^ 63 = q at *
      by_cases n : nanB (k - 2 ^ 63) = true
      · rw [if_pos n]
        simp -implicitDefEqProofs (disch := omega) only [dcT, dcF, e1, e2, e3, frombits, spec_IsNaN, n, ↓ret103, ↓cnd_true, ↓cnd_false, ↓Option.bind_some, ↓obH_some', bin_add, bin_sub, bin_mul, bin_lss, bin_leq, bin_gtr, bin_geq, bin_eql, bin_neq, un_not, un_neg, Option.bind_some, Option.bind_none, Option.map_some, cnd_true, cnd_false, pickV_true, pickV_false, gd_true, gd_false, gdV_true, gdV_false, gdH_true, gdH_false, gdS_true, gdS_false, wt_ff, wt_tt, wt_ft, wt_tf, wt_undef, obH_some', extractV_tuple, nilCheckV_ptr, againK_normal, againK_exit, againK_ret, blockK_normal, blockK_same, blockK_ret, seqK_normal, seqK_exit, seqK_ret, fin_done, if_true', if_false', Bool.not_true, Bool.not_false, idx0, idx1, idx2, idx3, idx4, chk_nil_l, chk_nil_r, done_nm]
      · have n' : nanB (k - 2 ^ 63) = false := by simpa using n
        rw [if_neg n]
        simp -implicitDefEqProofs (disch := omega) only [dcT, dcF, e1, e2, e3, frombits, spec_IsNaN, n', ↓ret103, ↓cnd_true, ↓cnd_false, ↓Option.bind_some, ↓obH_some', bin_add, bin_sub, bin_mul, bin_lss, bin_leq, bin_gtr, bin_geq, bin_eql, bin_neq, un_not, un_neg, Option.bind_some, Option.bind_none, Option.map_some, cnd_true, cnd_false, pickV_true, pickV_false, gd_true, gd_false, gdV_true, gdV_false, gdH_true, gdH_false, gdS_true, gdS_false, wt_ff, wt_tt, wt_ft, wt_tf, wt_undef, obH_some', extractV_tuple, nilCheckV_ptr, againK_normal, againK_exit, againK_ret, blockK_normal, blockK_same, blockK_ret, seqK_normal, seqK_exit, seqK_ret, fin_done, if_true', if_false', Bool.not_true, Bool.not_false, idx0, idx1, idx2, idx3, idx4, chk_nil_l, chk_nil_r, done_nm]
def clsF (n : Nat) : Int := if nanB n = true then 0 else if n % 2 ^ 63 = 2047 * 2 ^ 52 then (if n < 2 ^ 63 then 6 else 1) else if n % 2 ^ 63 = 0 then (if n < 2 ^ 63 then 4 else 3) else (if n < 2 ^ 63 then 5 else 2)
theorem spec_Class (n : Nat) (hn : n < 2 ^ 64) (h : Heap) : evC Try.prog 64 #[.float .f64 n] h = some (.int .i64 (clsF n), h) := by
  rw [call64, c64_0_eq]
  have e1 := fun t xo yo => s63 t xo yo n hn
  have e2 := fun t xo yo => m63 t xo yo n hn
  unfold clsF
  by_cases c : nanB n = true
  · rw [if_pos c]
    have c2 : 2047 * 2 ^ 52 < n % 2 ^ 63 := by unfold nanB at c; simpa using c
    simp -implicitDefEqProofs (disch := omega) only [dcT, dcF, bits_of, e1, e2, ↓ret64, ↓cnd_true, ↓cnd_false, ↓Option.bind_some, ↓obH_some', bin_add, bin_sub, bin_mul, bin_lss, bin_leq, bin_gtr, bin_geq, bin_eql, bin_neq, un_not, un_neg, Option.bind_some, Option.bind_none, Option.map_some, cnd_true, cnd_false, pickV_true, pickV_false, gd_true, gd_false, gdV_true, gdV_false, gdH_true, gdH_false, gdS_true, gdS_false, wt_ff, wt_tt, wt_ft, wt_tf, wt_undef, obH_some', extractV_tuple, nilCheckV_ptr, againK_normal, againK_exit, againK_ret, blockK_normal, blockK_same, blockK_ret, seqK_normal, seqK_exit, seqK_ret, fin_done, if_true', if_false', Bool.not_true, Bool.not_false, idx0, idx1, idx2, idx3, idx4, chk_nil_l, chk_nil_r, done_nm]
  · rw [if_neg c]
    have c2 : ¬ 2047 * 2 ^ 52 < n % 2 ^ 63 := by unfold nanB at c; simpa using c
    by_cases d : n < 2 ^ 63
    · simp only [if_pos d]
      by_cases f : n % 2 ^ 63 = 2047 * 2 ^ 52
      · rw [if_pos f]
        simp -implicitDefEqProofs (disch := omega) only [dcT, dcF, bits_of, e1, e2, ↓ret64, ↓cnd_true, ↓cnd_false, ↓Option.bind_some, ↓obH_some', bin_add, bin_sub, bin_mul, bin_lss, bin_leq, bin_gtr, bin_geq, bin_eql, bin_neq, un_not, un_neg, Option.bind_some, Option.bind_none, Option.map_some, cnd_true, cnd_false, pickV_true, pickV_false, gd_true, gd_false, gdV_true, gdV_false, gdH_true, gdH_false, gdS_true, gdS_false, wt_ff, wt_tt, wt_ft, wt_tf, wt_undef, obH_some', extractV_tuple, nilCheckV_ptr, againK_normal, againK_exit, againK_ret, blockK_normal, blockK_same, blockK_ret, seqK_normal, seqK_exit, seqK_ret, fin_done, if_true', if_false', Bool.not_true, Bool.not_false, idx0, idx1, idx2, idx3, idx4, chk_nil_l, chk_nil_r, done_nm]
      · rw [if_neg f]
        by_cases g : n % 2 ^ 63 = 0
        · rw [if_pos g]
          simp -implicitDefEqProofs (disch := omega) only [dcT, dcF, bits_of, e1, e2, ↓ret64, ↓cnd_true, ↓cnd_false, ↓Option.bind_some, ↓obH_some', bin_add, bin_sub, bin_mul, bin_lss, bin_leq, bin_gtr, bin_geq, bin_eql, bin_neq, un_not, un_neg, Option.bind_some, Option.bind_none, Option.map_some, cnd_true, cnd_false, pickV_true, pickV_false, gd_true, gd_false, gdV_true, gdV_false, gdH_true, gdH_false, gdS_true, gdS_false, wt_ff, wt_tt, wt_ft, wt_tf, wt_undef, obH_some', extractV_tuple, nilCheckV_ptr, againK_normal, againK_exit, againK_ret, blockK_normal, blockK_same, blockK_ret, seqK_normal, seqK_exit, seqK_ret, fin_done, if_true', if_false', Bool.not_true, Bool.not_false, idx0, idx1, idx2, idx3, idx4, chk_nil_l, chk_nil_r, done_nm]
        · rw [if_neg g]
          simp -implicitDefEqProofs (disch := omega) only [dcT, dcF, bits_of, e1, e2, ↓ret64, ↓cnd_true, ↓cnd_false, ↓Option.bind_some, ↓obH_some', bin_add, bin_sub, bin_mul, bin_lss, bin_leq, bin_gtr, bin_geq, bin_eql, bin_neq, un_not, un_neg, Option.bind_some, Option.bind_none, Option.map_some, cnd_true, cnd_false, pickV_true, pickV_false, gd_true, gd_false, gdV_true, gdV_false, gdH_true, gdH_false, gdS_true, gdS_false, wt_ff, wt_tt, wt_ft, wt_tf, wt_undef, obH_some', extractV_tuple, nilCheckV_ptr, againK_normal, againK_exit, againK_ret, blockK_normal, blockK_same, blockK_ret, seqK_normal, seqK_exit, seqK_ret, fin_done, if_true', if_false', Bool.not_true, Bool.not_false, idx0, idx1, idx2, idx3, idx4, chk_nil_l, chk_nil_r, done_nm]
    · simp only [if_neg d]
      by_cases f : n % 2 ^ 63 = 2047 * 2 ^ 52
      · rw [if_pos f]
        simp -implicitDefEqProofs (disch := omega) only [dcT, dcF, bits_of, e1, e2, ↓ret64, ↓cnd_true, ↓cnd_false, ↓Option.bind_some, ↓obH_some', bin_add, bin_sub, bin_mul, bin_lss, bin_leq, bin_gtr, bin_geq, bin_eql, bin_neq, un_not, un_neg, Option.bind_some, Option.bind_none, Option.map_some, cnd_true, cnd_false, pickV_true, pickV_false, gd_true, gd_false, gdV_true, gdV_false, gdH_true, gdH_false, gdS_true, gdS_false, wt_ff, wt_tt, wt_ft, wt_tf, wt_undef, obH_some', extractV_tuple, nilCheckV_ptr, againK_normal, againK_exit, againK_ret, blockK_normal, blockK_same, blockK_ret, seqK_normal, seqK_exit, seqK_ret, fin_done, if_true', if_false', Bool.not_true, Bool.not_false, idx0, idx1, idx2, idx3, idx4, chk_nil_l, chk_nil_r, done_nm]
      · rw [if_neg f]
        by_cases g : n % 2 ^ 63 = 0
        · rw [if_pos g]
          simp -implicitDefEqProofs (disch := omega) only [dcT, dcF, bits_of, e1, e2, ↓ret64, ↓cnd_true, ↓cnd_false, ↓Option.bind_some, ↓obH_some', bin_add, bin_sub, bin_mul, bin_lss, bin_leq, bin_gtr, bin_geq, bin_eql, bin_neq, un_not, un_neg, Option.bind_some, Option.bind_none, Option.map_some, cnd_true, cnd_false, pickV_true, pickV_false, gd_true, gd_false, gdV_true, gdV_false, gdH_true, gdH_false, gdS_true, gdS_false, wt_ff, wt_tt, wt_ft, wt_tf, wt_undef, obH_some', extractV_tuple, nilCheckV_ptr, againK_normal, againK_exit, againK_ret, blockK_normal, blockK_same, blockK_ret, seqK_normal, seqK_exit, seqK_ret, fin_done, if_true', if_false', Bool.not_true, Bool.not_false, idx0, idx1, idx2, idx3, idx4, chk_nil_l, chk_nil_r, done_nm]
        · rw [if_neg g]
          simp -implicitDefEqProofs (disch := omega) only [dcT, dcF, bits_of, e1, e2, ↓ret64, ↓cnd_true, ↓cnd_false, ↓Option.bind_some, ↓obH_some', bin_add, bin_sub, bin_mul, bin_lss, bin_leq, bin_gtr, bin_geq, bin_eql, bin_neq, un_not, un_neg, Option.bind_some, Option.bind_none, Option.map_some, cnd_true, cnd_false, pickV_true, pickV_false, gd_true, gd_false, gdV_true, gdV_false, gdH_true, gdH_false, gdS_true, gdS_false, wt_ff, wt_tt, wt_ft, wt_tf, wt_undef, obH_some', extractV_tuple, nilCheckV_ptr, againK_normal, againK_exit, againK_ret, blockK_normal, blockK_same, blockK_ret, seqK_normal, seqK_exit, seqK_ret, fin_done, if_true', if_false', Bool.not_true, Bool.not_false, idx0, idx1, idx2, idx3, idx4, chk_nil_l, chk_nil_r, done_nm]
theorem clsF_zero (n : Nat) : clsF n = 0 ↔ nanB n = true := by
  unfold clsF
  by_cases c : nanB n = true
  · simp [c]
  · rw [if_neg c]
    constructor
    · intro h; exfalso; revert h; split
      · split <;> omega
      · split
        · split <;> omega
        · split <;> omega
    · intro h; exact absurd h c
theorem spec_refKey (n : Nat) (hn : n < 2 ^ 64) (h : Heap) : evC Try.prog 107 #[.float .f64 n] h = some (.int .u64 (keyF n : Nat), h) := by
  rw [call107, c107_0_eq]
  have ec := fun h => spec_Class n hn h
  have ez := clsF_zero n
  unfold keyF
  by_cases c : nanB n = true
  · rw [if_pos c]
    rw [ez.2 c] at ec
    simp -implicitDefEqProofs (disch := omega) only [dcT, dcF, ec, ↓ret107, ↓cnd_true, ↓cnd_false, ↓Option.bind_some, ↓obH_some', bin_add, bin_sub, bin_mul, bin_lss, bin_leq, bin_gtr, bin_geq, bin_eql, bin_neq, un_not, un_neg, Option.bind_some, Option.bind_none, Option.map_some, cnd_true, cnd_false, pickV_true, pickV_false, gd_true, gd_false, gdV_true, gdV_false, gdH_true, gdH_false, gdS_true, gdS_false, wt_ff, wt_tt, wt_ft, wt_tf, wt_undef, obH_some', extractV_tuple, nilCheckV_ptr, againK_normal, againK_exit, againK_ret, blockK_normal, blockK_same, blockK_ret, seqK_normal, seqK_exit, seqK_ret, fin_done, if_true', if_false', Bool.not_true, Bool.not_false, idx0, idx1, idx2, idx3, idx4, chk_nil_l, chk_nil_r, done_nm]
    rfl
  · rw [if_neg c]
    have c' : clsF n ≠ 0 := fun e => c (ez.1 e)
    have e1 := fun t xo yo => s63 t xo yo n hn
    generalize clsF n = q at *
    by_cases d : n < 2 ^ 63
    · rw [if_pos d]
      have e2 := fun t xo yo => o63 t xo yo n d
      simp -implicitDefEqProofs (disch := omega) only [dcT, dcF, ec, bits_of, e1, e2, ↓ret107, ↓cnd_true, ↓cnd_false, ↓Option.bind_some, ↓obH_some', bin_add, bin_sub, bin_mul, bin_lss, bin_leq, bin_gtr, bin_geq, bin_eql, bin_neq, un_not, un_neg, Option.bind_some, Option.bind_none, Option.map_some, cnd_true, cnd_false, pickV_true, pickV_false, gd_true, gd_false, gdV_true, gdV_false, gdH_true, gdH_false, gdS_true, gdS_false, wt_ff, wt_tt, wt_ft, wt_tf, wt_undef, obH_some', extractV_tuple, nilCheckV_ptr, againK_normal, againK_exit, againK_ret, blockK_normal, blockK_same, blockK_ret, seqK_normal, seqK_exit, seqK_ret, fin_done, if_true', if_false', Bool.not_true, Bool.not_false, idx0, idx1, idx2, idx3, idx4, chk_nil_l, chk_nil_r, done_nm]
    · rw [if_neg d]
      have e2 := Cm n hn
      simp -implicitDefEqProofs (disch := omega) only [dcT, dcF, ec, bits_of, e1, e2, ↓ret107, ↓cnd_true, ↓cnd_false, ↓Option.bind_some, ↓obH_some', bin_add, bin_sub, bin_mul, bin_lss, bin_leq, bin_gtr, bin_geq, bin_eql, bin_neq, un_not, un_neg, Option.bind_some, Option.bind_none, Option.map_some, cnd_true, cnd_false, pickV_true, pickV_false, gd_true, gd_false, gdV_true, gdV_false, gdH_true, gdH_false, gdS_true, gdS_false, wt_ff, wt_tt, wt_ft, wt_tf, wt_undef, obH_some', extractV_tuple, nilCheckV_ptr, againK_normal, againK_exit, againK_ret, blockK_normal, blockK_same, blockK_ret, seqK_normal, seqK_exit, seqK_ret, fin_done, if_true', if_false', Bool.not_true, Bool.not_false, idx0, idx1, idx2, idx3, idx4, chk_nil_l, chk_nil_r, done_nm]
theorem spec_refSame (a b : Nat) (ha : a < 2 ^ 64) (hb : b < 2 ^ 64) (h : Heap) : evC Try.prog 51 #[.float .f64 a, .float .f64 b] h = some (.bool (decide (keyF a = keyF b)), h) := by
  have ka := fun h => spec_refKey a ha h
  have kb := fun h => spec_refKey b hb h
  have e1 : ∀ h, evC Try.prog 101 #[.float .f64 a, .float .f64 b] h = some (.int .i64 (if keyF a < keyF b then -1 else if keyF b < keyF a then 1 else 0), h) := fun h => by
    rw [call101, c101_0_eq]
    generalize keyF a = x at *
    generalize keyF b = y at *
    by_cases c : x < y
    · rw [if_pos c]
      simp -implicitDefEqProofs (disch := omega) only [dcT, dcF, ka, kb, ↓ret101, ↓cnd_true, ↓cnd_false, ↓Option.bind_some, ↓obH_some', bin_add, bin_sub, bin_mul, bin_lss, bin_leq, bin_gtr, bin_geq, bin_eql, bin_neq, un_not, un_neg, Option.bind_some, Option.bind_none, Option.map_some, cnd_true, cnd_false, pickV_true, pickV_false, gd_true, gd_false, gdV_true, gdV_false, gdH_true, gdH_false, gdS_true, gdS_false, wt_ff, wt_tt, wt_ft, wt_tf, wt_undef, obH_some', extractV_tuple, nilCheckV_ptr, againK_normal, againK_exit, againK_ret, blockK_normal, blockK_same, blockK_ret, seqK_normal, seqK_exit, seqK_ret, fin_done, if_true', if_false', Bool.not_true, Bool.not_false, idx0, idx1, idx2, idx3, idx4, chk_nil_l, chk_nil_r, done_nm]
    · rw [if_neg c]
      by_cases d : y < x
      · rw [if_pos d]
        simp -implicitDefEqProofs (disch := omega) only [dcT, dcF, ka, kb, ↓ret101, ↓cnd_true, ↓cnd_false, ↓Option.bind_some, ↓obH_some', bin_add, bin_sub, bin_mul, bin_lss, bin_leq, bin_gtr, bin_geq, bin_eql, bin_neq, un_not, un_neg, Option.bind_some, Option.bind_none, Option.map_some, cnd_true, cnd_false, pickV_true, pickV_false, gd_true, gd_false, gdV_true, gdV_false, gdH_true, gdH_false, gdS_true, gdS_false, wt_ff, wt_tt, wt_ft, wt_tf, wt_undef, obH_some', extractV_tuple, nilCheckV_ptr, againK_normal, againK_exit, againK_ret, blockK_normal, blockK_same, blockK_ret, seqK_normal, seqK_exit, seqK_ret, fin_done, if_true', if_false', Bool.not_true, Bool.not_false, idx0, idx1, idx2, idx3, idx4, chk_nil_l, chk_nil_r, done_nm]
      · rw [if_neg d]
        simp -implicitDefEqProofs (disch := omega) only [dcT, dcF, ka, kb, ↓ret101, ↓cnd_true, ↓cnd_false, ↓Option.bind_some, ↓obH_some', bin_add, bin_sub, bin_mul, bin_lss, bin_leq, bin_gtr, bin_geq, bin_eql, bin_neq, un_not, un_neg, Option.bind_some, Option.bind_none, Option.map_some, cnd_true, cnd_false, pickV_true, pickV_false, gd_true, gd_false, gdV_true, gdV_false, gdH_true, gdH_false, gdS_true, gdS_false, wt_ff, wt_tt, wt_ft, wt_tf, wt_undef, obH_some', extractV_tuple, nilCheckV_ptr, againK_normal, againK_exit, againK_ret, blockK_normal, blockK_same, blockK_ret, seqK_normal, seqK_exit, seqK_ret, fin_done, if_true', if_false', Bool.not_true, Bool.not_false, idx0, idx1, idx2, idx3, idx4, chk_nil_l, chk_nil_r, done_nm]
  rw [call51, c51_0_eq]
  have e2 : decide ((if keyF a < keyF b then (-1 : Int) else if keyF b < keyF a then 1 else 0) = 0) = decide (keyF a = keyF b) := by
    congr 1
    apply propext
    split
    · omega
    · split <;> omega
  simp -implicitDefEqProofs only [e1, e2, ↓ret51, ↓cnd_true, ↓cnd_false, ↓Option.bind_some, ↓obH_some', bin_add, bin_sub, bin_mul, bin_lss, bin_leq, bin_gtr, bin_geq, bin_eql, bin_neq, un_not, un_neg, Option.bind_some, Option.bind_none, Option.map_some, cnd_true, cnd_false, pickV_true, pickV_false, gd_true, gd_false, gdV_true, gdV_false, gdH_true, gdH_false, gdS_true, gdS_false, wt_ff, wt_tt, wt_ft, wt_tf, wt_undef, obH_some', extractV_tuple, nilCheckV_ptr, againK_normal, againK_exit, againK_ret, blockK_normal, blockK_same, blockK_ret, seqK_normal, seqK_exit, seqK_ret, fin_done, if_true', if_false', Bool.not_true, Bool.not_false, idx0, idx1, idx2, idx3, idx4, chk_nil_l, chk_nil_r, done_nm]
end Go.Am
namespace Go.Am
open Go.Proofs
def numP : Option (List UInt8) → Nat → Nat × Option (List UInt8)
  | none, _ => (0, none)
  | some bs, most => if (getL bs).2 = 0 ∨ most < (getL bs).1 then (0, none) else ((getL bs).1, some (bs.drop (getL bs).2))
def takeP : Option (List UInt8) → Nat → List UInt8 × Option (List UInt8)
  | none, _ => ([], none)
  | some bs, n => if bs.length < n then ([], none) else (bs.take n, some (bs.drop n))
def bytesP (r : Option (List UInt8)) (most : Nat) : List UInt8 × Option (List UInt8) := takeP (numP r most).2 (numP r most).1
def endP : Option (List UInt8) → Bool
  | some [] => true
  | _ => false
theorem getLoop_le : ∀ (l : List UInt8) (n i : Nat), n < 2 ^ 64 → (getLoop n i l).1 < 2 ^ 64 ∧ (getLoop n i l).2 ≤ i + l.length
  | [], n, i, h => by simp [getLoop]
  | c :: l, n, i, h => by
    rw [getLoop]
    have hn' : n ||| (c.toNat % 128 * 2 ^ (7 * i)) % 2 ^ 64 < 2 ^ 64 := Nat.or_lt_two_pow h (Nat.mod_lt _ (by omega))
    split
    · simp
    · simp only []
      split
      · split
        · simp
        · refine ⟨hn', ?_⟩
          simp only [List.length_cons]; omega
      · have := getLoop_le l _ (i + 1) hn'
        simp only [List.length_cons]
        exact ⟨this.1, by omega⟩
theorem getL_lt (l : List UInt8) : (getL l).1 < 2 ^ 64 := (getLoop_le l 0 0 (by omega)).1
theorem getL_len (l : List UInt8) : (getL l).2 ≤ l.length := by have := (getLoop_le l 0 0 (by omega)).2; unfold getL; omega
def rbs (r : Option (List UInt8)) : List UInt8 := r.getD []
def Wr (n0 : Nat) (h : Heap) (p : Nat) (bs : List UInt8) : Prop := ∃ a c, Cells h p 146 [.slice a bs.length c] ∧ AB n0 h (.slice a bs.length c) bs ∧ blockOf (.slice a bs.length c) ≠ some p
def LoP (v : Value) (L p : Nat) : Prop := ∀ b, blockOf v = some b → L ≤ b ∧ b < p
theorem LoP.ne {v : Value} {L p : Nat} (l : LoP v L p) : blockOf v ≠ some p := fun e => by have := (l p e).2; omega
theorem LoP.to {v w : Value} {L p : Nat} (l : LoP v L p) (e : blockOf w = blockOf v) : LoP w L p := fun b hb => l b (by rw [← e]; exact hb)
theorem LoP.nil (L p : Nat) : LoP (.slice none 0 0) L p := fun b hb => by cases hb
def RdrL (L : Nat) (h : Heap) (p : Nat) (r : Option (List UInt8)) : Prop := ∃ a c, Cells h p 150 [.slice a (rbs r).length c, .bool r.isNone] ∧ SB h (.slice a (rbs r).length c) (rbs r) ∧ LoP (.slice a (rbs r).length c) L p
theorem Wr.lt {n0 : Nat} {h : Heap} {p : Nat} {bs : List UInt8} (w : Wr n0 h p bs) : p < h.blks.length := let ⟨_, _, c, _⟩ := w; c.lt
abbrev Rdr (h : Heap) (p : Nat) (r : Option (List UInt8)) : Prop := RdrL 0 h p r
theorem RdrL.dn {L : Nat} {h : Heap} {p : Nat} {r : Option (List UInt8)} (w : RdrL L h p r) : Rdr h p r := let ⟨a, c, x, y, z⟩ := w; ⟨a, c, x, y, fun b hb => ⟨Nat.zero_le _, (z b hb).2⟩⟩
theorem RdrL.lt {L : Nat} {h : Heap} {p : Nat} {r : Option (List UInt8)} (w : RdrL L h p r) : p < h.blks.length := let ⟨_, _, c, _⟩ := w; c.lt
theorem faW (p : Nat) : fieldAddrV Try.prog 146 (.pointer (some ⟨p, 0, none⟩)) 0 = some (.pointer (some ⟨p, 0, none⟩)) := by kernel_rfl
theorem faR0 (p : Nat) : fieldAddrV Try.prog 150 (.pointer (some ⟨p, 0, none⟩)) 0 = some (.pointer (some ⟨p, 0, none⟩)) := by kernel_rfl
theorem faR1 (p : Nat) : fieldAddrV Try.prog 150 (.pointer (some ⟨p, 0, none⟩)) 1 = some (.pointer (some ⟨p, 1, none⟩)) := by kernel_rfl
theorem bdW : buildV Try.prog 146 #[] = some (.agg #[.slice none 0 0]) := by kernel_rfl
theorem bxW (x : Value) (h : Heap) : boxV Try.prog 146 (.agg #[x]) h = some (.pointer (some ⟨h.blks.length, 0, none⟩), h.new (.cells [x]) 146) := by kernel_rfl
theorem bdR (a : Option Addr) (n c : Nat) : buildV Try.prog 150 #[(0, .slice a n c)] = some (.agg #[.slice a n c, .bool false]) := by kernel_rfl
theorem bxR (x y : Value) (h : Heap) : boxV Try.prog 150 (.agg #[x, y]) h = some (.pointer (some ⟨h.blks.length, 0, none⟩), h.new (.cells [x, y]) 150) := by kernel_rfl
theorem spec_NewWriter (h : Heap) : ∃ h', evC Try.prog 42 #[] h = some (.pointer (some ⟨h.blks.length, 0, none⟩), h') ∧ HExt h h' ∧ Wr h.blks.length h' h.blks.length [] ∧ h'.blks.length = h.blks.length + 1 := by
  rw [call42, c42_0_eq]
  simp -implicitDefEqProofs only [bdW, bxW, ↓cnd_true, ↓cnd_false, ↓Option.bind_some, ↓obH_some', bin_add, bin_sub, bin_mul, bin_lss, bin_leq, bin_gtr, bin_geq, bin_eql, bin_neq, un_not, un_neg, Option.bind_some, Option.bind_none, Option.map_some, cnd_true, cnd_false, pickV_true, pickV_false, gd_true, gd_false, gdV_true, gdV_false, gdH_true, gdH_false, gdS_true, gdS_false, wt_ff, wt_tt, wt_ft, wt_tf, wt_undef, obH_some', extractV_tuple, nilCheckV_ptr, againK_normal, againK_exit, againK_ret, blockK_normal, blockK_same, blockK_ret, seqK_normal, seqK_exit, seqK_ret, fin_done, if_true', if_false', Bool.not_true, Bool.not_false, idx0, idx1, idx2, idx3, idx4, chk_nil_l, chk_nil_r, done_nm]
  rw [ret42, fin_done]
  exact ⟨_, rfl, done_ext' (In.new (S := No) (by simp) _ _), ⟨none, 0, (Cells.new (nm h) _ _).done, .nil, by simp [blockOf]⟩, by simp [Heap.new]⟩
theorem Wr.put {n0 : Nat} {h : Heap} {p : Nat} {a : Option Addr} {bs : List UInt8} {c : Nat} {cs : List Value} (hc : Cells h p 146 cs) (ha : AB n0 h (.slice a bs.length c) bs) (hb : blockOf (.slice a bs.length c) ≠ some p) :
    Wr n0 (h.put p (.cells [.slice a bs.length c])) p bs := ⟨a, c, hc.put _, ha.keepPut hb _, hb⟩
theorem Wr.nm {n0 : Nat} {h : Heap} {p : Nat} {bs : List UInt8} (w : Wr n0 h p bs) : Wr n0 (Am.nm h) p bs := let ⟨a, c, x, y, z⟩ := w; ⟨a, c, x, y.keep fun _ _ _ => rfl, z⟩
theorem Wr.done {n0 : Nat} {h0 h : Heap} {p : Nat} {bs : List UInt8} (w : Wr n0 h p bs) : Wr n0 (Am.done h0 h) p bs := let ⟨a, c, x, y, z⟩ := w; ⟨a, c, x.done, y.done, z⟩
theorem Wr.same {n0 : Nat} {h h' : Heap} {p : Nat} {bs : List UInt8} (w : Wr n0 h p bs) (e : Same h h') : Wr n0 h' p bs := let ⟨a, c, x, y, z⟩ := w; ⟨a, c, x.same e, y.same e, z⟩
theorem Wr.ext {n0 : Nat} {h h' : Heap} {p : Nat} {bs : List UInt8} (w : Wr n0 h p bs) (e : HExt h h') : Wr n0 h' p bs := let ⟨a, c, x, y, z⟩ := w; ⟨a, c, x.ext e, y.keep fun b hb _ => e.old b hb, z⟩
theorem Wr.up {n0 n1 : Nat} {h : Heap} {p : Nat} {bs : List UInt8} (w : Wr n0 h p bs) (hn : n1 ≤ n0) : Wr n1 h p bs := let ⟨a, c, x, y, z⟩ := w; ⟨a, c, x, y.up hn, z⟩
theorem spec_WNum {n0 : Nat} {h : Heap} {p : Nat} {bs : List UInt8} (w : Wr n0 h p bs) (hn0 : n0 ≤ h.blks.length) (n : Nat) (hn : n < 2 ^ 64) (hl : bs.length < 2 ^ 39) :
    ∃ h', evC Try.prog 43 #[.pointer (some ⟨p, 0, none⟩), .int .u64 n] h = some (.tuple #[], h') ∧ HMod (Just p) h h' ∧ Wr h.blks.length h' p (bs ++ putL n) := by
  rw [call43, c43_0_eq]
  obtain ⟨a, c, hc, ha, hne⟩ := w
  obtain ⟨a2, c2, h2, e2,Ac, ab⟩ := spec_PutB n hn (nm h) _ bs ha.sb.nm hl
  simp -implicitDefEqProofs only [faW, ldB, hc.nm.load, List.getElem?_cons_zero, e2, stB, storeN_blk (hc.nm.ext Ac) (o := 0) (vs := [.slice a2 (bs ++ putL n).length c2]) (by simp), ↓cnd_true, ↓cnd_false, ↓Option.bind_some, ↓obH_some', bin_add, bin_sub, bin_mul, bin_lss, bin_leq, bin_gtr, bin_geq, bin_eql, bin_neq, un_not, un_neg, Option.bind_some, Option.bind_none, Option.map_some, cnd_true, cnd_false, pickV_true, pickV_false, gd_true, gd_false, gdV_true, gdV_false, gdH_true, gdH_false, gdS_true, gdS_false, wt_ff, wt_tt, wt_ft, wt_tf, wt_undef, obH_some', extractV_tuple, nilCheckV_ptr, againK_normal, againK_exit, againK_ret, blockK_normal, blockK_same, blockK_ret, seqK_normal, seqK_exit, seqK_ret, fin_done, if_true', if_false', Bool.not_true, Bool.not_false, idx0, idx1, idx2, idx3, idx4, chk_nil_l, chk_nil_r, done_nm]
  rw [retn43, fin_done]
  refine ⟨_, rfl, done_mod ((Ac.inn (by simp)).trans (In.put (by have := Ac.len; simpa using this) (.inr (show Just p p from rfl)) _)), ?_⟩
  simp only [List.take_zero, List.nil_append, List.length_singleton, Nat.zero_add, List.drop_succ_cons, List.drop_nil, List.append_nil]
  exact (Wr.put (hc.nm.ext Ac) ab (ab.ne hc.lt)).done
theorem spec_WBytes {n0 : Nat} {h : Heap} {p : Nat} {bs : List UInt8} (w : Wr n0 h p bs) (hn0 : n0 ≤ h.blks.length) {x : Value} {cs : List UInt8} (hx : SB h x cs) (hxp : blockOf x ≠ some p) (hl : bs.length < 2 ^ 39) (hl2 : cs.length < 2 ^ 39) :
    ∃ h', evC Try.prog 61 #[.pointer (some ⟨p, 0, none⟩), x] h = some (.tuple #[], h') ∧ HMod (Just p) h h' ∧ Wr h.blks.length h' p (bs ++ putL cs.length ++ cs) := by
  rw [call61, c61_0_eq]
  have hs := sizeN_le cs.length 6 (by omega) (by omega)
  obtain ⟨h2, e2,Ac, w2⟩ := spec_WNum w.nm (by simpa using hn0) cs.length (by omega) hl
  obtain ⟨a, c, hc, ha, hne⟩ := w2
  have hx2 : SB h2 x cs := hx.nm.mod Ac fun b hb e => hxp (by rw [hb, e])
  obtain ⟨a3, c3, h3, e3, ab, k3, o3, _⟩ := app_bytes (n0 := h.blks.length) (by have := Ac.len; simpa using this) ha hx2 (by simp [putL_len]; omega)
  have hc3 : Cells h3 p _ _ := (o3 p hc.lt hne).trans hc
  simp -implicitDefEqProofs (disch := omega) only [hx.nm.row.len_eq etB.under, cvI64, e2, faW, ldB, hc.load, List.getElem?_cons_zero, e3, stB, storeN_blk hc3 (o := 0) (vs := [.slice a3 (bs ++ putL cs.length ++ cs).length c3]) (by simp), ↓cnd_true, ↓cnd_false, ↓Option.bind_some, ↓obH_some', bin_add, bin_sub, bin_mul, bin_lss, bin_leq, bin_gtr, bin_geq, bin_eql, bin_neq, un_not, un_neg, Option.bind_some, Option.bind_none, Option.map_some, cnd_true, cnd_false, pickV_true, pickV_false, gd_true, gd_false, gdV_true, gdV_false, gdH_true, gdH_false, gdS_true, gdS_false, wt_ff, wt_tt, wt_ft, wt_tf, wt_undef, obH_some', extractV_tuple, nilCheckV_ptr, againK_normal, againK_exit, againK_ret, blockK_normal, blockK_same, blockK_ret, seqK_normal, seqK_exit, seqK_ret, fin_done, if_true', if_false', Bool.not_true, Bool.not_false, idx0, idx1, idx2, idx3, idx4, chk_nil_l, chk_nil_r, done_nm]
  rw [retn61, fin_done]
  refine ⟨_, rfl, done_mod (((Ac.inn (by simp) (fun b _ hb => hb)).trans (k3.inn)).trans (In.put (by have := Ac.len; have := k3.len; simp at *; omega) (.inr (show Just p p from rfl)) _)), ?_⟩
  simp only [List.take_zero, List.nil_append, List.length_singleton, Nat.zero_add, List.drop_succ_cons, List.drop_nil, List.append_nil]
  exact (Wr.put hc3 ab (ab.ne w.lt)).done
theorem spec_WDone {n0 : Nat} {h : Heap} {p : Nat} {bs : List UInt8} (w : Wr n0 h p bs) (hl : bs.length < 2 ^ 43) :
    ∃ a c h', evC Try.prog 44 #[.pointer (some ⟨p, 0, none⟩)] h = some (.slice a bs.length c, h') ∧ HExt h h' ∧ AB h.blks.length h' (.slice a bs.length c) bs := by
  rw [call44, c44_0_eq]
  obtain ⟨a, c, hc, ha, hne⟩ := w
  obtain ⟨a2, c2, h2, e2,Ac, ab⟩ := spec_Clone (nm h) _ bs ha.sb.nm hl
  simp -implicitDefEqProofs only [faW, ldB, hc.nm.load, List.getElem?_cons_zero, e2, ↓cnd_true, ↓cnd_false, ↓Option.bind_some, ↓obH_some', bin_add, bin_sub, bin_mul, bin_lss, bin_leq, bin_gtr, bin_geq, bin_eql, bin_neq, un_not, un_neg, Option.bind_some, Option.bind_none, Option.map_some, cnd_true, cnd_false, pickV_true, pickV_false, gd_true, gd_false, gdV_true, gdV_false, gdH_true, gdH_false, gdS_true, gdS_false, wt_ff, wt_tt, wt_ft, wt_tf, wt_undef, obH_some', extractV_tuple, nilCheckV_ptr, againK_normal, againK_exit, againK_ret, blockK_normal, blockK_same, blockK_ret, seqK_normal, seqK_exit, seqK_ret, fin_done, if_true', if_false', Bool.not_true, Bool.not_false, idx0, idx1, idx2, idx3, idx4, chk_nil_l, chk_nil_r, done_nm]
  rw [ret44, fin_done]
  exact ⟨a2, c2, _, rfl, done_ext' (Ac.inn (by simp)), ab.done⟩
theorem spec_NewReaderL {h : Heap} {x : Value} {bs : List UInt8} (hx : SB h x bs) (hl : bs.length < 2 ^ 43) :
    ∃ h' p, evC Try.prog 45 #[x] h = some (.pointer (some ⟨p, 0, none⟩), h') ∧ HExt h h' ∧ RdrL h.blks.length h' p (some bs) ∧ h.blks.length ≤ p := by
  rw [call45, c45_0_eq]
  obtain ⟨a2, c2, h2, e2,Ac, ab⟩ := spec_Clone (nm h) _ bs hx.nm hl
  simp -implicitDefEqProofs only [e2, bdR, bxR, ↓cnd_true, ↓cnd_false, ↓Option.bind_some, ↓obH_some', bin_add, bin_sub, bin_mul, bin_lss, bin_leq, bin_gtr, bin_geq, bin_eql, bin_neq, un_not, un_neg, Option.bind_some, Option.bind_none, Option.map_some, cnd_true, cnd_false, pickV_true, pickV_false, gd_true, gd_false, gdV_true, gdV_false, gdH_true, gdH_false, gdS_true, gdS_false, wt_ff, wt_tt, wt_ft, wt_tf, wt_undef, obH_some', extractV_tuple, nilCheckV_ptr, againK_normal, againK_exit, againK_ret, blockK_normal, blockK_same, blockK_ret, seqK_normal, seqK_exit, seqK_ret, fin_done, if_true', if_false', Bool.not_true, Bool.not_false, idx0, idx1, idx2, idx3, idx4, chk_nil_l, chk_nil_r, done_nm]
  rw [ret45, fin_done]
  exact ⟨_, _, rfl, done_ext' ((Ac.inn (by simp)).trans (In.new Ac.len _ _)), ⟨a2, c2, (Cells.new h2 _ _).done, (ab.sb.keepNew _ _).done, fun b e => ⟨ab.ge e, ab.sb.lt e⟩⟩, Ac.len⟩
theorem RdrL.nm {L : Nat} {h : Heap} {p : Nat} {r : Option (List UInt8)} (w : RdrL L h p r) : RdrL L (Am.nm h) p r := let ⟨a, c, x, y, z⟩ := w; ⟨a, c, x, y.nm, z⟩
theorem RdrL.done {L : Nat} {h0 h : Heap} {p : Nat} {r : Option (List UInt8)} (w : RdrL L h p r) : RdrL L (Am.done h0 h) p r := let ⟨a, c, x, y, z⟩ := w; ⟨a, c, x.done, y.done, z⟩
theorem RdrL.same {L : Nat} {h h' : Heap} {p : Nat} {r : Option (List UInt8)} (w : RdrL L h p r) (e : Same h h') : RdrL L h' p r := let ⟨a, c, x, y, z⟩ := w; ⟨a, c, x.same e, y.same e, z⟩
theorem RdrL.keepPut {L : Nat} {h : Heap} {p q : Nat} {r : Option (List UInt8)} (w : RdrL L h p r) (hq : p < q) (body : Body) : RdrL L (h.put q body) p r :=
  let ⟨a, c, x, y, z⟩ := w; ⟨a, c, x.keepPut (by omega) _, y.keepPut (fun e => by have := (z _ e).2; omega) _, z⟩
theorem RdrL.ext {L : Nat} {h h' : Heap} {p : Nat} {r : Option (List UInt8)} (w : RdrL L h p r) (e : HExt h h') : RdrL L h' p r := let ⟨a, c, x, y, z⟩ := w; ⟨a, c, x.ext e, y.ext e, z⟩
theorem spec_spoil {L : Nat} {h : Heap} {p : Nat} {r : Option (List UInt8)} (w : RdrL L h p r) (b : Bool) :
    ∃ h', evC Try.prog 97 #[.pointer (some ⟨p, 0, none⟩), .bool b] h = some (.bool (b || r.isNone), h') ∧ HMod (Just p) h h' ∧ RdrL L h' p (if b then none else r) := by
  rw [call97, c97_0_eq]
  obtain ⟨a, c, hc, ha, hne⟩ := w
  cases b with
  | true =>
    have hc1 := hc.nm.put [Value.slice none 0 0, .bool r.isNone]
    have hc2 := hc1.put [Value.slice none 0 0, .bool true]
    simp -implicitDefEqProofs only [faR0, faR1, stB, stBool, storeN_blk hc.nm (o := 0) (vs := [.slice none 0 0]) (by simp), List.take_zero, List.nil_append, List.length_singleton, Nat.zero_add, List.drop_succ_cons, List.drop_zero, List.cons_append, List.singleton_append,
      storeN_blk hc1 (o := 1) (vs := [.bool true]) (by simp), List.take_succ_cons, List.drop_nil, Nat.reduceAdd, List.append_nil, c97_1_eq, ldBool, hc2.load, List.getElem?_cons_zero, List.getElem?_cons_succ, ↓cnd_true, ↓cnd_false, ↓Option.bind_some, ↓obH_some', bin_add, bin_sub, bin_mul, bin_lss, bin_leq, bin_gtr, bin_geq, bin_eql, bin_neq, un_not, un_neg, Option.bind_some, Option.bind_none, Option.map_some, cnd_true, cnd_false, pickV_true, pickV_false, gd_true, gd_false, gdV_true, gdV_false, gdH_true, gdH_false, gdS_true, gdS_false, wt_ff, wt_tt, wt_ft, wt_tf, wt_undef, obH_some', extractV_tuple, nilCheckV_ptr, againK_normal, againK_exit, againK_ret, blockK_normal, blockK_same, blockK_ret, seqK_normal, seqK_exit, seqK_ret, fin_done, if_true', if_false', Bool.not_true, Bool.not_false, idx0, idx1, idx2, idx3, idx4, chk_nil_l, chk_nil_r, done_nm]
    rw [ret97, fin_done]
    exact ⟨_, rfl, done_mod ((In.put (by simp) (.inr (show Just p p from rfl)) _).trans (In.put (by rw [Heap.put_len]; simp) (.inr (show Just p p from rfl)) _)), ⟨none, 0, hc2.done, .nil, LoP.nil _ _⟩⟩
  | false =>
    simp -implicitDefEqProofs only [c97_1_eq, faR1, ldBool, hc.nm.load, List.getElem?_cons_zero, List.getElem?_cons_succ, ↓cnd_true, ↓cnd_false, ↓Option.bind_some, ↓obH_some', bin_add, bin_sub, bin_mul, bin_lss, bin_leq, bin_gtr, bin_geq, bin_eql, bin_neq, un_not, un_neg, Option.bind_some, Option.bind_none, Option.map_some, cnd_true, cnd_false, pickV_true, pickV_false, gd_true, gd_false, gdV_true, gdV_false, gdH_true, gdH_false, gdS_true, gdS_false, wt_ff, wt_tt, wt_ft, wt_tf, wt_undef, obH_some', extractV_tuple, nilCheckV_ptr, againK_normal, againK_exit, againK_ret, blockK_normal, blockK_same, blockK_ret, seqK_normal, seqK_exit, seqK_ret, fin_done, if_true', if_false', Bool.not_true, Bool.not_false, idx0, idx1, idx2, idx3, idx4, chk_nil_l, chk_nil_r, done_nm]
    rw [ret97, fin_done]
    exact ⟨_, by simp, done_mod (In.refl (by simp)), ⟨a, c, hc.nm.done, ha.nm.done, hne⟩⟩
theorem RdrL.put {L : Nat} {h : Heap} {p : Nat} {a : Option Addr} {r : Option (List UInt8)} {c : Nat} {cs : List Value} (hc : Cells h p 150 cs) (ha : SB h (.slice a (rbs r).length c) (rbs r)) (hb : LoP (.slice a (rbs r).length c) L p) :
    RdrL L (h.put p (.cells [.slice a (rbs r).length c, .bool r.isNone])) p r := ⟨a, c, hc.put _, ha.keepPut hb.ne _, hb⟩
theorem spec_RNum {L : Nat} {h : Heap} {p : Nat} {r : Option (List UInt8)} (w : RdrL L h p r) (most : Nat) (hm : most < 2 ^ 64) (hl : (rbs r).length < 2 ^ 40) :
    ∃ h', evC Try.prog 46 #[.pointer (some ⟨p, 0, none⟩), .int .u64 most] h = some (.int .u64 (numP r most).1, h') ∧ HMod (Just p) h h' ∧ RdrL L h' p (numP r most).2 := by
  rw [call46, c46_0_eq]
  have w0 := w
  obtain ⟨a, c, hc, ha, hne⟩ := w
  obtain ⟨bs, hbs⟩ : ∃ bs, rbs r = bs := ⟨_, rfl⟩
  rw [hbs] at hl hc ha hne
  have hg := spec_Get (Am.nm h) _ bs ha.nm.row hl
  have h64 := getL_lt bs
  have hle := getL_len bs
  simp -implicitDefEqProofs only [faR0, faR1, ldB, hc.nm.load, List.getElem?_cons_zero, hg, ↓cnd_true, ↓cnd_false, ↓Option.bind_some, ↓obH_some', bin_add, bin_sub, bin_mul, bin_lss, bin_leq, bin_gtr, bin_geq, bin_eql, bin_neq, un_not, un_neg, Option.bind_some, Option.bind_none, Option.map_some, cnd_true, cnd_false, pickV_true, pickV_false, gd_true, gd_false, gdV_true, gdV_false, gdH_true, gdH_false, gdS_true, gdS_false, wt_ff, wt_tt, wt_ft, wt_tf, wt_undef, obH_some', extractV_tuple, nilCheckV_ptr, againK_normal, againK_exit, againK_ret, blockK_normal, blockK_same, blockK_ret, seqK_normal, seqK_exit, seqK_ret, fin_done, if_true', if_false', Bool.not_true, Bool.not_false, idx0, idx1, idx2, idx3, idx4, chk_nil_l, chk_nil_r, done_nm]
  by_cases hbad : (getL bs).2 = 0 ∨ most < (getL bs).1
  · obtain ⟨h2, e2,Ac, w2⟩ := spec_spoil w0.nm true
    have hp : numP r most = (0, none) := by
      cases r with
      | none => rfl
      | some bs' => have : bs' = bs := hbs
                    subst this
                    simp only [numP]; exact if_pos hbad
    rw [hp]
    by_cases h1 : (getL bs).2 = 0
    · simp -implicitDefEqProofs only [h1, Int.natCast_zero, decide_true, e2, Bool.true_or, ↓cnd_true, ↓cnd_false, ↓Option.bind_some, ↓obH_some', bin_add, bin_sub, bin_mul, bin_lss, bin_leq, bin_gtr, bin_geq, bin_eql, bin_neq, un_not, un_neg, Option.bind_some, Option.bind_none, Option.map_some, cnd_true, cnd_false, pickV_true, pickV_false, gd_true, gd_false, gdV_true, gdV_false, gdH_true, gdH_false, gdS_true, gdS_false, wt_ff, wt_tt, wt_ft, wt_tf, wt_undef, obH_some', extractV_tuple, nilCheckV_ptr, againK_normal, againK_exit, againK_ret, blockK_normal, blockK_same, blockK_ret, seqK_normal, seqK_exit, seqK_ret, fin_done, if_true', if_false', Bool.not_true, Bool.not_false, idx0, idx1, idx2, idx3, idx4, chk_nil_l, chk_nil_r, done_nm]
      rw [ret46, fin_done]
      exact ⟨_, rfl, done_mod (Ac.inn (by simp) fun _ _ h => h), w2.done⟩
    · have h3 : most < (getL bs).1 := by omega
      simp -implicitDefEqProofs (disch := omega) only [dcF, dcT, e2, Bool.true_or, ↓cnd_true, ↓cnd_false, ↓Option.bind_some, ↓obH_some', bin_add, bin_sub, bin_mul, bin_lss, bin_leq, bin_gtr, bin_geq, bin_eql, bin_neq, un_not, un_neg, Option.bind_some, Option.bind_none, Option.map_some, cnd_true, cnd_false, pickV_true, pickV_false, gd_true, gd_false, gdV_true, gdV_false, gdH_true, gdH_false, gdS_true, gdS_false, wt_ff, wt_tt, wt_ft, wt_tf, wt_undef, obH_some', extractV_tuple, nilCheckV_ptr, againK_normal, againK_exit, againK_ret, blockK_normal, blockK_same, blockK_ret, seqK_normal, seqK_exit, seqK_ret, fin_done, if_true', if_false', Bool.not_true, Bool.not_false, idx0, idx1, idx2, idx3, idx4, chk_nil_l, chk_nil_r, done_nm]
      rw [ret46, fin_done]
      exact ⟨_, rfl, done_mod (Ac.inn (by simp) fun _ _ h => h), w2.done⟩
  · obtain rfl : r = some bs := by
      cases r with
      | none => have : [] = bs := hbs
                subst this
                exact absurd (.inl rfl) hbad
      | some bs' => have : bs' = bs := hbs
                    rw [this]
    have hp : numP (some bs) most = ((getL bs).1, some (bs.drop (getL bs).2)) := by simp only [numP]; exact if_neg hbad
    rw [hp]
    obtain ⟨h2, e2,Ac, w2⟩ := spec_spoil w0.nm false
    obtain ⟨a2, c2, hc2, ha2, hne2⟩ := w2
    simp only [Bool.false_eq_true, if_false, rbs, Option.getD_some] at hc2 ha2 hne2
    obtain ⟨v3, e3, s3, b3⟩ := ha2.sub etB.under etB.size (i := (getL bs).2) (j := bs.length) (lo := some (.int .i64 ((getL bs).2 : Nat))) (hi := none) hle (Nat.le_refl _) (natOf_int .i64 _) rfl
    obtain ⟨a4, c4, rfl⟩ := s3.shape
    have s4 : SB h2 (.slice a4 (bs.drop (getL bs).2).length c4) (bs.drop (getL bs).2) := by
      have el : (bs.drop (getL bs).2).length = bs.length - (getL bs).2 := by simp
      unfold SB
      rw [el]
      rw [Nat.mul_one, Nat.mul_one, ← List.map_drop, List.take_of_length_le (by simp)] at s3
      exact s3
    have el : bs.length - (getL bs).2 = (bs.drop (getL bs).2).length := by simp
    rw [el] at e3 b3
    simp -implicitDefEqProofs (disch := omega) only [dcF, dcT, e2, Bool.false_or, Option.isNone_some, faR0, ldB, hc2.load, List.getElem?_cons_zero, e3, stB, storeN_blk hc2 (o := 0) (vs := [.slice a4 (bs.drop (getL bs).2).length c4]) (by simp), ↓cnd_true, ↓cnd_false, ↓Option.bind_some, ↓obH_some', bin_add, bin_sub, bin_mul, bin_lss, bin_leq, bin_gtr, bin_geq, bin_eql, bin_neq, un_not, un_neg, Option.bind_some, Option.bind_none, Option.map_some, cnd_true, cnd_false, pickV_true, pickV_false, gd_true, gd_false, gdV_true, gdV_false, gdH_true, gdH_false, gdS_true, gdS_false, wt_ff, wt_tt, wt_ft, wt_tf, wt_undef, obH_some', extractV_tuple, nilCheckV_ptr, againK_normal, againK_exit, againK_ret, blockK_normal, blockK_same, blockK_ret, seqK_normal, seqK_exit, seqK_ret, fin_done, if_true', if_false', Bool.not_true, Bool.not_false, idx0, idx1, idx2, idx3, idx4, chk_nil_l, chk_nil_r, done_nm]
    rw [ret46, fin_done]
    refine ⟨_, rfl, done_mod ((Ac.inn (by simp) fun _ _ h => h).trans (In.put (by have := Ac.len; simpa using this) (.inr (show Just p p from rfl)) _)), ?_⟩
    exact (RdrL.put (r := some (bs.drop (getL bs).2)) hc2 s4 (hne2.to b3)).done
theorem spec_take {L : Nat} {h : Heap} {p : Nat} {r : Option (List UInt8)} (w : RdrL L h p r) (n : Nat) (hn : n < 2 ^ 64) (hl : (rbs r).length < 2 ^ 40) :
    ∃ a c h', evC Try.prog 102 #[.pointer (some ⟨p, 0, none⟩), .int .u64 n] h = some (.slice a (takeP r n).1.length c, h') ∧ HMod (Just p) h h' ∧ RdrL L h' p (takeP r n).2 ∧ SB h' (.slice a (takeP r n).1.length c) (takeP r n).1 := by
  rw [call102, c102_0_eq]
  have w0 := w
  obtain ⟨a, c, hc, ha, hne⟩ := w
  obtain ⟨bs, hbs⟩ : ∃ bs, rbs r = bs := ⟨_, rfl⟩
  rw [hbs] at hl hc ha hne
  simp -implicitDefEqProofs (disch := omega) only [faR0, ldB, hc.nm.load, List.getElem?_cons_zero, ha.nm.row.len_eq etB.under, cvI64, ↓cnd_true, ↓cnd_false, ↓Option.bind_some, ↓obH_some', bin_add, bin_sub, bin_mul, bin_lss, bin_leq, bin_gtr, bin_geq, bin_eql, bin_neq, un_not, un_neg, Option.bind_some, Option.bind_none, Option.map_some, cnd_true, cnd_false, pickV_true, pickV_false, gd_true, gd_false, gdV_true, gdV_false, gdH_true, gdH_false, gdS_true, gdS_false, wt_ff, wt_tt, wt_ft, wt_tf, wt_undef, obH_some', extractV_tuple, nilCheckV_ptr, againK_normal, againK_exit, againK_ret, blockK_normal, blockK_same, blockK_ret, seqK_normal, seqK_exit, seqK_ret, fin_done, if_true', if_false', Bool.not_true, Bool.not_false, idx0, idx1, idx2, idx3, idx4, chk_nil_l, chk_nil_r, done_nm]
  by_cases hbad : bs.length < n
  · obtain ⟨h2, e2,Ac, w2⟩ := spec_spoil w0.nm true
    have hp : takeP r n = ([], none) := by
      cases r with
      | none => rfl
      | some bs' => have : bs' = bs := hbs
                    subst this
                    simp only [takeP]; exact if_pos hbad
    rw [hp]
    simp -implicitDefEqProofs (disch := omega) only [dcT, dcF, e2, Bool.true_or, ↓cnd_true, ↓cnd_false, ↓Option.bind_some, ↓obH_some', bin_add, bin_sub, bin_mul, bin_lss, bin_leq, bin_gtr, bin_geq, bin_eql, bin_neq, un_not, un_neg, Option.bind_some, Option.bind_none, Option.map_some, cnd_true, cnd_false, pickV_true, pickV_false, gd_true, gd_false, gdV_true, gdV_false, gdH_true, gdH_false, gdS_true, gdS_false, wt_ff, wt_tt, wt_ft, wt_tf, wt_undef, obH_some', extractV_tuple, nilCheckV_ptr, againK_normal, againK_exit, againK_ret, blockK_normal, blockK_same, blockK_ret, seqK_normal, seqK_exit, seqK_ret, fin_done, if_true', if_false', Bool.not_true, Bool.not_false, idx0, idx1, idx2, idx3, idx4, chk_nil_l, chk_nil_r, done_nm]
    rw [ret102, fin_done]
    exact ⟨none, 0, _, rfl, done_mod (Ac.inn (by simp) fun _ _ h => h), w2.done, .nil⟩
  · cases r with
    | none =>
      obtain rfl : n = 0 := by have : bs.length = 0 := by rw [← hbs]; rfl
                               omega
      obtain ⟨h2, e2,Ac, w2⟩ := spec_spoil w0.nm false
      simp -implicitDefEqProofs (disch := omega) only [dcT, dcF, e2, Bool.false_or, Option.isNone_none, ↓cnd_true, ↓cnd_false, ↓Option.bind_some, ↓obH_some', bin_add, bin_sub, bin_mul, bin_lss, bin_leq, bin_gtr, bin_geq, bin_eql, bin_neq, un_not, un_neg, Option.bind_some, Option.bind_none, Option.map_some, cnd_true, cnd_false, pickV_true, pickV_false, gd_true, gd_false, gdV_true, gdV_false, gdH_true, gdH_false, gdS_true, gdS_false, wt_ff, wt_tt, wt_ft, wt_tf, wt_undef, obH_some', extractV_tuple, nilCheckV_ptr, againK_normal, againK_exit, againK_ret, blockK_normal, blockK_same, blockK_ret, seqK_normal, seqK_exit, seqK_ret, fin_done, if_true', if_false', Bool.not_true, Bool.not_false, idx0, idx1, idx2, idx3, idx4, chk_nil_l, chk_nil_r, done_nm]
      rw [ret102, fin_done]
      exact ⟨none, 0, _, rfl, done_mod (Ac.inn (by simp) fun _ _ h => h), w2.done, .nil⟩
    | some bs' =>
      obtain rfl : bs' = bs := hbs
      have hp : takeP (some bs') n = (bs'.take n, some (bs'.drop n)) := by simp only [takeP]; exact if_neg hbad
      rw [hp]
      obtain ⟨h2, e2,Ac, w2⟩ := spec_spoil w0.nm false
      obtain ⟨a2, c2, hc2, ha2, hne2⟩ := w2
      simp only [Bool.false_eq_true, if_false, rbs, Option.getD_some] at hc2 ha2 hne2
      obtain ⟨a3, c3, e3, s3, b3⟩ := sl_take ha2 (i := n) (by omega) .u64
      obtain ⟨a4, c4, e4, s4, b4⟩ := sl_drop ha2 (i := n) (by omega) .u64
      simp -implicitDefEqProofs (disch := omega) only [dcF, dcT, e2, Bool.false_or, Option.isNone_some, faR0, ldB, hc2.load, List.getElem?_cons_zero, e3, e4, stB, storeN_blk hc2 (o := 0) (vs := [.slice a4 (bs'.drop n).length c4]) (by simp), ↓cnd_true, ↓cnd_false, ↓Option.bind_some, ↓obH_some', bin_add, bin_sub, bin_mul, bin_lss, bin_leq, bin_gtr, bin_geq, bin_eql, bin_neq, un_not, un_neg, Option.bind_some, Option.bind_none, Option.map_some, cnd_true, cnd_false, pickV_true, pickV_false, gd_true, gd_false, gdV_true, gdV_false, gdH_true, gdH_false, gdS_true, gdS_false, wt_ff, wt_tt, wt_ft, wt_tf, wt_undef, obH_some', extractV_tuple, nilCheckV_ptr, againK_normal, againK_exit, againK_ret, blockK_normal, blockK_same, blockK_ret, seqK_normal, seqK_exit, seqK_ret, fin_done, if_true', if_false', Bool.not_true, Bool.not_false, idx0, idx1, idx2, idx3, idx4, chk_nil_l, chk_nil_r, done_nm]
      rw [ret102, fin_done]
      refine ⟨a3, c3, _, rfl, done_mod ((Ac.inn (by simp) fun _ _ h => h).trans (In.put (by have := Ac.len; simpa using this) (.inr (show Just p p from rfl)) _)), ?_, (s3.keepPut (hne2.to b3).ne _).done⟩
      exact (RdrL.put (r := some (bs'.drop n)) hc2 s4 (hne2.to b4)).done
theorem numP_le (r : Option (List UInt8)) (most : Nat) : (numP r most).1 ≤ most ∧ (numP r most).1 < 2 ^ 64 ∧ (rbs (numP r most).2).length ≤ (rbs r).length ∧ ((numP r most).2 = none → (numP r most).1 = 0) := by
  cases r with
  | none => simp [numP]
  | some bs =>
    simp only [numP]
    split
    · simp [rbs]
    · rename_i h
      have := getL_lt bs
      refine ⟨by omega, by omega, by simp [rbs], by simp⟩
theorem takeP_le (r : Option (List UInt8)) (n : Nat) : (takeP r n).1.length ≤ (rbs r).length ∧ (rbs (takeP r n).2).length ≤ (rbs r).length := by
  cases r with
  | none => simp [takeP]
  | some bs =>
    simp only [takeP]
    split
    · simp [rbs]
    · simp [rbs]; omega
theorem spec_RBytes {L : Nat} {h : Heap} {p : Nat} {r : Option (List UInt8)} (w : RdrL L h p r) (most : Int) (hm : most < 2 ^ 63) (hl : (rbs r).length < 2 ^ 40) :
    ∃ a c h', evC Try.prog 54 #[.pointer (some ⟨p, 0, none⟩), .int .i64 most] h = some (.slice a (bytesP r most.toNat).1.length c, h') ∧ HMod (Just p) h h' ∧ RdrL L h' p (bytesP r most.toNat).2 ∧ AB h.blks.length h' (.slice a (bytesP r most.toNat).1.length c) (bytesP r most.toNat).1 := by
  rw [call54, c54_0_eq]
  have hmx : max most 0 = ((most.toNat : Nat) : Int) := by omega
  obtain ⟨h2, e2,Ac, w2⟩ := spec_RNum w.nm most.toNat (by omega) hl
  obtain ⟨_, n64, nl, nn⟩ := numP_le r most.toNat
  obtain ⟨a3, c3, h3, e3,Ad, w3, s3⟩ := spec_take w2 (numP r most.toNat).1 n64 (by omega)
  obtain ⟨t1, t2⟩ := takeP_le (numP r most.toNat).2 (numP r most.toNat).1
  obtain ⟨a4, c4, h4, e4,Ae, s4⟩ := spec_Clone h3 _ _ s3 (by omega)
  simp -implicitDefEqProofs (disch := omega) only [maxI, hmx, cvI64, e2, e3, e4, ↓cnd_true, ↓cnd_false, ↓Option.bind_some, ↓obH_some', bin_add, bin_sub, bin_mul, bin_lss, bin_leq, bin_gtr, bin_geq, bin_eql, bin_neq, un_not, un_neg, Option.bind_some, Option.bind_none, Option.map_some, cnd_true, cnd_false, pickV_true, pickV_false, gd_true, gd_false, gdV_true, gdV_false, gdH_true, gdH_false, gdS_true, gdS_false, wt_ff, wt_tt, wt_ft, wt_tf, wt_undef, obH_some', extractV_tuple, nilCheckV_ptr, againK_normal, againK_exit, againK_ret, blockK_normal, blockK_same, blockK_ret, seqK_normal, seqK_exit, seqK_ret, fin_done, if_true', if_false', Bool.not_true, Bool.not_false, idx0, idx1, idx2, idx3, idx4, chk_nil_l, chk_nil_r, done_nm]
  rw [ret54, fin_done]
  have l2 := Ac.len
  have l3 := Ad.len
  simp only [nm_blks] at l2
  exact ⟨a4, c4, _, rfl, done_mod (((Ac.inn (by simp) fun _ _ h => h).trans (Ad.inn l2 fun _ _ h => h)).trans (Ae.inn (by omega))), (w3.ext Ae).done, (s4.up (by omega)).done⟩
theorem spec_REnd {L : Nat} {h : Heap} {p : Nat} {r : Option (List UInt8)} (w : RdrL L h p r) :
    evC Try.prog 47 #[.pointer (some ⟨p, 0, none⟩)] h = some (.bool (endP r), h) := by
  rw [call47, c47_0_eq]
  obtain ⟨a, c, hc, ha, hne⟩ := w
  cases r with
  | none =>
    simp -implicitDefEqProofs only [faR0, faR1, ldB, ldBool, hc.nm.load, List.getElem?_cons_zero, List.getElem?_cons_succ, Option.isNone_none, ↓cnd_true, ↓cnd_false, ↓Option.bind_some, ↓obH_some', bin_add, bin_sub, bin_mul, bin_lss, bin_leq, bin_gtr, bin_geq, bin_eql, bin_neq, un_not, un_neg, Option.bind_some, Option.bind_none, Option.map_some, cnd_true, cnd_false, pickV_true, pickV_false, gd_true, gd_false, gdV_true, gdV_false, gdH_true, gdH_false, gdS_true, gdS_false, wt_ff, wt_tt, wt_ft, wt_tf, wt_undef, obH_some', extractV_tuple, nilCheckV_ptr, againK_normal, againK_exit, againK_ret, blockK_normal, blockK_same, blockK_ret, seqK_normal, seqK_exit, seqK_ret, fin_done, if_true', if_false', Bool.not_true, Bool.not_false, idx0, idx1, idx2, idx3, idx4, chk_nil_l, chk_nil_r, done_nm]
    rw [ret47, fin_done]
    rfl
  | some bs =>
    simp -implicitDefEqProofs only [faR0, faR1, ldB, ldBool, hc.nm.load, List.getElem?_cons_zero, List.getElem?_cons_succ, Option.isNone_some, ha.nm.row.len_eq etB.under, ↓cnd_true, ↓cnd_false, ↓Option.bind_some, ↓obH_some', bin_add, bin_sub, bin_mul, bin_lss, bin_leq, bin_gtr, bin_geq, bin_eql, bin_neq, un_not, un_neg, Option.bind_some, Option.bind_none, Option.map_some, cnd_true, cnd_false, pickV_true, pickV_false, gd_true, gd_false, gdV_true, gdV_false, gdH_true, gdH_false, gdS_true, gdS_false, wt_ff, wt_tt, wt_ft, wt_tf, wt_undef, obH_some', extractV_tuple, nilCheckV_ptr, againK_normal, againK_exit, againK_ret, blockK_normal, blockK_same, blockK_ret, seqK_normal, seqK_exit, seqK_ret, fin_done, if_true', if_false', Bool.not_true, Bool.not_false, idx0, idx1, idx2, idx3, idx4, chk_nil_l, chk_nil_r, done_nm]
    rw [ret47, fin_done]
    cases bs with
    | nil => rfl
    | cons b bs => 
      have : decide (((rbs (some (b :: bs))).length : Int) = 0) = false := decide_eq_false (by simp [rbs]; omega)
      rw [this]; rfl
end Go.Am
namespace Go.Am
end Go.Am
namespace Go.Am
open Go.Proofs
end Go.Am
namespace Go.Am
open Go.Proofs
def WrR (n0 : Nat) (h : Heap) (p : Nat) (bs : List UInt8) : Prop := ∃ a c, Cells h p 97 [.slice a bs.length c] ∧ AB n0 h (.slice a bs.length c) bs ∧ blockOf (.slice a bs.length c) ≠ some p
theorem WrR.lt {n0 : Nat} {h : Heap} {p : Nat} {bs : List UInt8} (w : WrR n0 h p bs) : p < h.blks.length := let ⟨_, _, c, _⟩ := w; c.lt
theorem WrR.put {n0 : Nat} {h : Heap} {p : Nat} {a : Option Addr} {bs : List UInt8} {c : Nat} {cs : List Value} (hc : Cells h p 97 cs) (ha : AB n0 h (.slice a bs.length c) bs) (hb : blockOf (.slice a bs.length c) ≠ some p) :
    WrR n0 (h.put p (.cells [.slice a bs.length c])) p bs := ⟨a, c, hc.put _, ha.keepPut hb _, hb⟩
theorem WrR.nm {n0 : Nat} {h : Heap} {p : Nat} {bs : List UInt8} (w : WrR n0 h p bs) : WrR n0 (Am.nm h) p bs := let ⟨a, c, x, y, z⟩ := w; ⟨a, c, x, y.keep fun _ _ _ => rfl, z⟩
theorem WrR.done {n0 : Nat} {h0 h : Heap} {p : Nat} {bs : List UInt8} (w : WrR n0 h p bs) : WrR n0 (Am.done h0 h) p bs := let ⟨a, c, x, y, z⟩ := w; ⟨a, c, x.done, y.done, z⟩
theorem WrR.same {n0 : Nat} {h h' : Heap} {p : Nat} {bs : List UInt8} (w : WrR n0 h p bs) (e : Same h h') : WrR n0 h' p bs := let ⟨a, c, x, y, z⟩ := w; ⟨a, c, x.same e, y.same e, z⟩
theorem WrR.ext {n0 : Nat} {h h' : Heap} {p : Nat} {bs : List UInt8} (w : WrR n0 h p bs) (e : HExt h h') : WrR n0 h' p bs := let ⟨a, c, x, y, z⟩ := w; ⟨a, c, x.ext e, y.keep fun b hb _ => e.old b hb, z⟩
theorem WrR.up {n0 n1 : Nat} {h : Heap} {p : Nat} {bs : List UInt8} (w : WrR n0 h p bs) (hn : n1 ≤ n0) : WrR n1 h p bs := let ⟨a, c, x, y, z⟩ := w; ⟨a, c, x, y.up hn, z⟩
def LoR (v : Value) (N p : Nat) : Prop := Lo v N ∧ N ≤ p
theorem LoR.ne {v : Value} {N p : Nat} (l : LoR v N p) : blockOf v ≠ some p := (l.1.mono l.2).ne
theorem LoR.to {v w : Value} {N p : Nat} (l : LoR v N p) (e : blockOf w = blockOf v) : LoR w N p := ⟨l.1.to e, l.2⟩
theorem LoR.none {v : Value} {N p : Nat} (l : LoR v N p) : LoR (.slice Option.none 0 0) N p := ⟨Lo.nil _ _ _, l.2⟩
def RdrR (N : Nat) (h : Heap) (p : Nat) (r : Option (List UInt8)) : Prop := ∃ a c, Cells h p 83 [.slice a (rbs r).length c, .bool r.isNone] ∧ SB h (.slice a (rbs r).length c) (rbs r) ∧ LoR (.slice a (rbs r).length c) N p
theorem RdrR.lt {N : Nat} {h : Heap} {p : Nat} {r : Option (List UInt8)} (w : RdrR N h p r) : p < h.blks.length := let ⟨_, _, c, _⟩ := w; c.lt
theorem RdrR.nm {N : Nat} {h : Heap} {p : Nat} {r : Option (List UInt8)} (w : RdrR N h p r) : RdrR N (Am.nm h) p r := let ⟨a, c, x, y, z⟩ := w; ⟨a, c, x, y.nm, z⟩
theorem RdrR.done {N : Nat} {h0 h : Heap} {p : Nat} {r : Option (List UInt8)} (w : RdrR N h p r) : RdrR N (Am.done h0 h) p r := let ⟨a, c, x, y, z⟩ := w; ⟨a, c, x.done, y.done, z⟩
theorem RdrR.same {N : Nat} {h h' : Heap} {p : Nat} {r : Option (List UInt8)} (w : RdrR N h p r) (e : Same h h') : RdrR N h' p r := let ⟨a, c, x, y, z⟩ := w; ⟨a, c, x.same e, y.same e, z⟩
theorem RdrR.keepPut {N : Nat} {h : Heap} {p q : Nat} {r : Option (List UInt8)} (w : RdrR N h p r) (hq : p < q) (body : Body) : RdrR N (h.put q body) p r :=
  let ⟨a, c, x, y, z⟩ := w; ⟨a, c, x.keepPut (by omega) _, y.keepPut (fun e => by have := z.1 _ e; have := z.2; omega) _, z⟩
theorem RdrR.ext {N : Nat} {h h' : Heap} {p : Nat} {r : Option (List UInt8)} (w : RdrR N h p r) (e : HExt h h') : RdrR N h' p r := let ⟨a, c, x, y, z⟩ := w; ⟨a, c, x.ext e, y.ext e, z⟩
theorem RdrR.put {N : Nat} {h : Heap} {p : Nat} {a : Option Addr} {r : Option (List UInt8)} {c : Nat} {cs : List Value} (hc : Cells h p 83 cs) (ha : SB h (.slice a (rbs r).length c) (rbs r)) (hb : LoR (.slice a (rbs r).length c) N p) :
    RdrR N (h.put p (.cells [.slice a (rbs r).length c, .bool r.isNone])) p r := ⟨a, c, hc.put _, ha.keepPut hb.ne _, hb⟩
end Go.Am
namespace Go.Am
end Go.Am
namespace Go.Am
open Go.Proofs
set_option maxRecDepth 100000
set_option linter.all false
attribute [local congr] obind_congr obH_congr cnd_congr chk_congr retK_congr codeK_congr
def outB (n w : Nat) : Nat := n &&& (2 ^ 64 - 1 - w)
def setP : Option (List UInt8) → Nat → Nat × Option (List UInt8)
  | none, _ => (0, none)
  | some bs, w => if (getL bs).2 = 0 ∨ outB (getL bs).1 w ≠ 0 then (0, none) else ((getL bs).1, some (bs.drop (getL bs).2))
theorem anN (t : TypeId) (xo yo : Operand) (n w : Nat) (hn : n < 2 ^ 64) (hw : w < 2 ^ 64) : binV Try.prog .andNot t xo yo (.int .u64 n) (.int .u64 w) = some (.int .u64 ((outB n w : Nat) : Int)) := by
  rw [bin_andNot64 _ _ _ _ _ (by omega) (by omega) (by omega) (by omega), Int.toNat_natCast, Int.toNat_natCast]; rfl
theorem spec_Within (n w : Nat) (hn : n < 2 ^ 64) (hw : w < 2 ^ 64) (h : Heap) : evC Try.prog 100 #[.int .u64 n, .int .u64 w] h = some (.bool (decide (outB n w = 0)), h) := by
  rw [call100, c100_0_eq]
  have e := fun t xo yo => anN t xo yo n w hn hw
  have d : decide (((outB n w : Nat) : Int) = 0) = decide (outB n w = 0) := by congr 1; apply propext; omega
  simp -implicitDefEqProofs only [e, d, ↓ret100, ↓cnd_true, ↓cnd_false, ↓Option.bind_some, ↓obH_some', bin_add, bin_sub, bin_mul, bin_lss, bin_leq, bin_gtr, bin_geq, bin_eql, bin_neq, un_not, un_neg, Option.bind_some, Option.bind_none, Option.map_some, cnd_true, cnd_false, pickV_true, pickV_false, gd_true, gd_false, gdV_true, gdV_false, gdH_true, gdH_false, gdS_true, gdS_false, wt_ff, wt_tt, wt_ft, wt_tf, wt_undef, obH_some', extractV_tuple, nilCheckV_ptr, againK_normal, againK_exit, againK_ret, blockK_normal, blockK_same, blockK_ret, seqK_normal, seqK_exit, seqK_ret, fin_done, if_true', if_false', Bool.not_true, Bool.not_false, idx0, idx1, idx2, idx3, idx4, chk_nil_l, chk_nil_r, done_nm]
theorem spec_RSet {h : Heap} {p : Nat} {r : Option (List UInt8)} (w : Rdr h p r) (most : Nat) (hm : most < 2 ^ 64) (hl : (rbs r).length < 2 ^ 40) :
    ∃ h', evC Try.prog 49 #[.pointer (some ⟨p, 0, none⟩), .int .u64 most] h = some (.int .u64 (setP r most).1, h') ∧ HMod (Just p) h h' ∧ Rdr h' p (setP r most).2 := by
  rw [call49, c49_0_eq]
  have w0 := w
  obtain ⟨a, c, hc, ha, hne⟩ := w
  obtain ⟨bs, hbs⟩ : ∃ bs, rbs r = bs := ⟨_, rfl⟩
  rw [hbs] at hl hc ha hne
  have hg := spec_Get (Am.nm h) _ bs ha.nm.row hl
  have h64 := getL_lt bs
  have hle := getL_len bs
  have hin := fun h => spec_Within (getL bs).1 most h64 hm h
  by_cases hbad : (getL bs).2 = 0 ∨ outB (getL bs).1 most ≠ 0
  · obtain ⟨h2, e2,Ac, w2⟩ := spec_spoil w0.nm true
    have hp : setP r most = (0, none) := by
      cases r with
      | none => rfl
      | some bs' => have : bs' = bs := hbs
                    subst this
                    simp only [setP]; exact if_pos hbad
    rw [hp]
    by_cases h1 : (getL bs).2 = 0
    · simp -implicitDefEqProofs (disch := omega) only [faR0, faR1, ldB, hc.nm.load, List.getElem?_cons_zero, hg, h1, dcT, dcF, Int.natCast_zero, decide_true, e2, Bool.true_or, ↓ret49, ↓cnd_true, ↓cnd_false, ↓Option.bind_some, ↓obH_some', bin_add, bin_sub, bin_mul, bin_lss, bin_leq, bin_gtr, bin_geq, bin_eql, bin_neq, un_not, un_neg, Option.bind_some, Option.bind_none, Option.map_some, cnd_true, cnd_false, pickV_true, pickV_false, gd_true, gd_false, gdV_true, gdV_false, gdH_true, gdH_false, gdS_true, gdS_false, wt_ff, wt_tt, wt_ft, wt_tf, wt_undef, obH_some', extractV_tuple, nilCheckV_ptr, againK_normal, againK_exit, againK_ret, blockK_normal, blockK_same, blockK_ret, seqK_normal, seqK_exit, seqK_ret, fin_done, if_true', if_false', Bool.not_true, Bool.not_false, idx0, idx1, idx2, idx3, idx4, chk_nil_l, chk_nil_r, done_nm]
      exact ⟨_, rfl, done_mod (Ac.inn (by simp) fun _ _ h => h), w2.done⟩
    · have h3 : outB (getL bs).1 most ≠ 0 := by omega
      rw [decide_eq_false h3] at hin
      simp -implicitDefEqProofs (disch := omega) only [faR0, faR1, ldB, hc.nm.load, List.getElem?_cons_zero, hg, dcF, dcT, hin, e2, Bool.true_or, ↓ret49, ↓cnd_true, ↓cnd_false, ↓Option.bind_some, ↓obH_some', bin_add, bin_sub, bin_mul, bin_lss, bin_leq, bin_gtr, bin_geq, bin_eql, bin_neq, un_not, un_neg, Option.bind_some, Option.bind_none, Option.map_some, cnd_true, cnd_false, pickV_true, pickV_false, gd_true, gd_false, gdV_true, gdV_false, gdH_true, gdH_false, gdS_true, gdS_false, wt_ff, wt_tt, wt_ft, wt_tf, wt_undef, obH_some', extractV_tuple, nilCheckV_ptr, againK_normal, againK_exit, againK_ret, blockK_normal, blockK_same, blockK_ret, seqK_normal, seqK_exit, seqK_ret, fin_done, if_true', if_false', Bool.not_true, Bool.not_false, idx0, idx1, idx2, idx3, idx4, chk_nil_l, chk_nil_r, done_nm]
      exact ⟨_, rfl, done_mod (Ac.inn (by simp) fun _ _ h => h), w2.done⟩
  · obtain rfl : r = some bs := by
      cases r with
      | none => have : [] = bs := hbs
                subst this
                exact absurd (.inl rfl) hbad
      | some bs' => have : bs' = bs := hbs
                    rw [this]
    have hp : setP (some bs) most = ((getL bs).1, some (bs.drop (getL bs).2)) := by simp only [setP]; exact if_neg hbad
    rw [hp]
    have hb1 : (getL bs).2 ≠ 0 := fun e => hbad (.inl e)
    have hb2 : outB (getL bs).1 most = 0 := Classical.byContradiction fun e => hbad (.inr e)
    rw [decide_eq_true hb2] at hin
    obtain ⟨h2, e2,Ac, w2⟩ := spec_spoil w0.nm false
    obtain ⟨a2, c2, hc2, ha2, hne2⟩ := w2
    simp only [Bool.false_eq_true, if_false, rbs, Option.getD_some] at hc2 ha2 hne2
    obtain ⟨a4, c4, e4, s4, b4⟩ := sl_drop ha2 (i := (getL bs).2) hle .i64
    simp -implicitDefEqProofs (disch := omega) only [faR0, faR1, ldB, hc.nm.load, List.getElem?_cons_zero, hg, dcF, dcT, hin, e2, Bool.false_or, Option.isNone_some, hc2.load, e4, stB, storeN_blk hc2 (o := 0) (vs := [.slice a4 (bs.drop (getL bs).2).length c4]) (by simp), ↓ret49, ↓cnd_true, ↓cnd_false, ↓Option.bind_some, ↓obH_some', bin_add, bin_sub, bin_mul, bin_lss, bin_leq, bin_gtr, bin_geq, bin_eql, bin_neq, un_not, un_neg, Option.bind_some, Option.bind_none, Option.map_some, cnd_true, cnd_false, pickV_true, pickV_false, gd_true, gd_false, gdV_true, gdV_false, gdH_true, gdH_false, gdS_true, gdS_false, wt_ff, wt_tt, wt_ft, wt_tf, wt_undef, obH_some', extractV_tuple, nilCheckV_ptr, againK_normal, againK_exit, againK_ret, blockK_normal, blockK_same, blockK_ret, seqK_normal, seqK_exit, seqK_ret, fin_done, if_true', if_false', Bool.not_true, Bool.not_false, idx0, idx1, idx2, idx3, idx4, chk_nil_l, chk_nil_r, done_nm]
    refine ⟨_, rfl, done_mod ((Ac.inn (by simp) fun _ _ h => h).trans (In.put (by have := Ac.len; simpa using this) (.inr (show Just p p from rfl)) _)), ?_⟩
    exact (RdrL.put (r := some (bs.drop (getL bs).2)) hc2 s4 (hne2.to b4)).done
theorem setP_le (r : Option (List UInt8)) (most : Nat) : (setP r most).1 < 2 ^ 64 ∧ (rbs (setP r most).2).length ≤ (rbs r).length := by
  cases r with
  | none => simp [setP]
  | some bs =>
    simp only [setP]
    have := getL_lt bs
    split
    · simp [rbs]
    · exact ⟨this, by simp [rbs]⟩
theorem spec_WSet {n0 : Nat} {h : Heap} {p : Nat} {bs : List UInt8} (w : Wr n0 h p bs) (hn0 : n0 ≤ h.blks.length) (n : Nat) (hn : n < 2 ^ 64) (hl : bs.length < 2 ^ 39) :
    ∃ h', evC Try.prog 59 #[.pointer (some ⟨p, 0, none⟩), .int .u64 n] h = some (.tuple #[], h') ∧ HMod (Just p) h h' ∧ Wr h.blks.length h' p (bs ++ putL n) := by
  rw [call59, c59_0_eq]
  obtain ⟨h2, e2,Ac, w2⟩ := spec_WNum w.nm (by simpa using hn0) n hn hl
  simp -implicitDefEqProofs only [e2, ↓retn59, ↓cnd_true, ↓cnd_false, ↓Option.bind_some, ↓obH_some', bin_add, bin_sub, bin_mul, bin_lss, bin_leq, bin_gtr, bin_geq, bin_eql, bin_neq, un_not, un_neg, Option.bind_some, Option.bind_none, Option.map_some, cnd_true, cnd_false, pickV_true, pickV_false, gd_true, gd_false, gdV_true, gdV_false, gdH_true, gdH_false, gdS_true, gdS_false, wt_ff, wt_tt, wt_ft, wt_tf, wt_undef, obH_some', extractV_tuple, nilCheckV_ptr, againK_normal, againK_exit, againK_ret, blockK_normal, blockK_same, blockK_ret, seqK_normal, seqK_exit, seqK_ret, fin_done, if_true', if_false', Bool.not_true, Bool.not_false, idx0, idx1, idx2, idx3, idx4, chk_nil_l, chk_nil_r, done_nm]
  exact ⟨_, rfl, done_mod (Ac.inn (by simp) fun _ _ h => h), w2.done⟩
def beN (l : List UInt8) : Nat := l.foldl (fun k c => k * 256 + c.toNat) 0
theorem beN_snoc (l : List UInt8) (c : UInt8) : beN (l ++ [c]) = beN l * 256 + c.toNat := by simp [beN]
theorem beN_lt : ∀ (m : Nat) (l : List UInt8), l.length = m → beN l < 256 ^ m
  | 0, l, h => by
    have : l = [] := List.eq_nil_of_length_eq_zero h
    subst this
    decide
  | m + 1, l, h => by
    have hne : l ≠ [] := by intro e; rw [e] at h; simp at h
    have e := List.dropLast_concat_getLast hne
    rw [← e, beN_snoc]
    have := beN_lt m l.dropLast (by simp; omega)
    have hc := (l.getLast hne).toNat_lt
    rw [Nat.pow_succ]
    omega
def floatP : Option (List UInt8) → Nat × Option (List UInt8)
  | none => (0, none)
  | some bs => if bs.length < 8 then (0, none) else if (ofK (beN (bs.take 8))).2 = true then ((ofK (beN (bs.take 8))).1, some (bs.drop 8)) else (0, none)
theorem floatP_le (r : Option (List UInt8)) : (floatP r).1 < 2 ^ 64 ∧ (rbs (floatP r).2).length ≤ (rbs r).length := by
  cases r with
  | none => simp [floatP]
  | some bs =>
    simp only [floatP]
    split
    · simp [rbs]
    · split
      · refine ⟨ofK_lt _ ?_, by simp [rbs]⟩
        have := beN_lt 8 (bs.take 8) (by simp; omega)
        exact this
      · simp [rbs]
theorem cv8 (b : UInt8) (h : Heap) : convV Try.prog 5 46 (byteV b) h = some (.int .u64 ((b.toNat : Nat) : Int), h) := by
  have hb := b.toNat_lt
  exact conv_u64 (ks := .u8) (by kernel_rfl) (by kernel_rfl) .u8 (b.toNat : Int) h (by omega) (by omega)
theorem shl8 (t : TypeId) (xo yo : Operand) (k : Nat) (hk : k < 2 ^ 56) : binV Try.prog .shl t xo yo (.int .u64 k) (.int .u64 8) = some (.int .u64 ((k * 256 : Nat) : Int)) := by
  rw [bin_shl64 _ _ _ _ _ _ (by omega) (by omega) (by omega), Int.toNat_natCast, show (8 : Int).toNat = 8 from rfl, Nat.mod_eq_of_lt (by omega)]
theorem or8 (t : TypeId) (xo yo : Operand) (k : Nat) (b : UInt8) (hk : k < 2 ^ 56) : binV Try.prog .or t xo yo (.int .u64 ((k * 256 : Nat) : Int)) (.int .u64 ((b.toNat : Nat) : Int)) = some (.int .u64 ((k * 256 + b.toNat : Nat) : Int)) := by
  have hb := b.toNat_lt
  have e := Nat.two_pow_add_eq_or_of_lt (i := 8) (b := b.toNat) (by omega) k
  rw [bin_or64 _ _ _ _ _ (by omega) (by omega) (by omega) (by omega), Int.toNat_natCast, Int.toNat_natCast, show k * 256 = 2 ^ 8 * k by omega, ← e]
theorem sb_at {h : Heap} {v : Value} {bs : List UInt8} (s : SB h v bs) {i : Nat} (hi : i < bs.length) :
    ∃ a, indexAddrV Try.prog 23 v (.int .i64 i) = some (.pointer (some a)) ∧ loadV Try.prog 5 (.pointer (some a)) h = some (byteV bs[i]) := by
  obtain ⟨a, e1, e2, _⟩ := s.row.at1 etB.under etB.size (by kernel_rfl) hi .i64
  rw [List.getElem?_map, List.getElem?_eq_getElem hi] at e2
  exact ⟨a, e1, e2⟩
theorem beN_take (l : List UInt8) {i : Nat} (hi : i < l.length) : beN (l.take i) * 256 + l[i].toNat = beN (l.take (i + 1)) := by
  rw [List.take_add_one, List.getElem?_eq_getElem hi, Option.toList_some, beN_snoc]
theorem beN_take_lt (l : List UInt8) {i : Nat} (hi : i < 8) (hl : i ≤ l.length) : beN (l.take i) < 2 ^ 56 := by
  have := beN_lt i (l.take i) (by simp; omega)
  have h2 : 256 ^ i ≤ 256 ^ 7 := Nat.pow_le_pow_right (by omega) (by omega)
  have h3 : (256 : Nat) ^ 7 = 2 ^ 56 := by decide
  omega
theorem rfloat_end {h0 h : Heap} {p : Nat} {r : Option (List UInt8)} (w : Rdr h p r) (hin : In h0.blks.length (Just p) (nm h0) h) (k : Nat) (hk : k < 2 ^ 64) (hr : r = none → (ofK k).2 = false) (Ab Ac Ae Af Ag Ah Ai Aj Ak Al An Ao Ap Aq Ar As At Au Av Aw Ax Ay Az Ba Bb Bc Bd Be Bf Bg Bh : Value) :
    ∃ h', codeK Try.prog (evC Try.prog) loopL c52_2 ⟨#[.pointer (some ⟨p, 0, none⟩),Ab,Ac, .int .u64 k,Ae,Af,Ag,Ah,Ai,Aj,Ak,Al,An,Ao,Ap,Aq,Ar,As,At,Au,Av,Aw,Ax,Ay,Az,Ba,Bb,Bc,Bd,Be,Bf,Bg,Bh], h⟩ (retK Try.f52 Try.prog h0) =
      some (.float .f64 (if (ofK k).2 = true then (ofK k).1 else 0), h') ∧ HMod (Just p) h0 h' ∧ Rdr h' p (if (ofK k).2 = true then r else none) := by
  rw [c52_2_eq]
  have e1 := spec_flOf k hk h
  obtain ⟨h2, e2,Ac, w2⟩ := spec_spoil w (!(ofK k).2)
  have hm := done_mod (hin.trans (Ac.inn hin.len fun _ _ h => h))
  cases hb : (ofK k).2 with
  | true =>
    rw [hb] at e1 e2 w2
    have hn : r.isNone = false := by
      cases r with
      | none => have := hr rfl; rw [hb] at this; cases this
      | some _ => rfl
    simp only [Bool.not_true, Bool.false_or, hn, Bool.false_eq_true, if_false] at e2 w2
    simp -implicitDefEqProofs (disch := omega) only [e1, Bool.not_true, e2, ↓ret52, ↓cnd_true, ↓cnd_false, ↓Option.bind_some, ↓obH_some', bin_add, bin_sub, bin_mul, bin_lss, bin_leq, bin_gtr, bin_geq, bin_eql, bin_neq, un_not, un_neg, Option.bind_some, Option.bind_none, Option.map_some, cnd_true, cnd_false, pickV_true, pickV_false, gd_true, gd_false, gdV_true, gdV_false, gdH_true, gdH_false, gdS_true, gdS_false, wt_ff, wt_tt, wt_ft, wt_tf, wt_undef, obH_some', extractV_tuple, nilCheckV_ptr, againK_normal, againK_exit, againK_ret, blockK_normal, blockK_same, blockK_ret, seqK_normal, seqK_exit, seqK_ret, fin_done, if_true', if_false', Bool.not_true, Bool.not_false, idx0, idx1, idx2, idx3, idx4, chk_nil_l, chk_nil_r, done_nm]
    exact ⟨_, rfl, hm, w2.done⟩
  | false =>
    rw [hb] at e1 e2 w2
    simp only [Bool.not_false, Bool.true_or, if_true] at e2 w2
    simp -implicitDefEqProofs (disch := omega) only [e1, Bool.not_false, e2, ↓ret52, ↓cnd_true, ↓cnd_false, ↓Option.bind_some, ↓obH_some', bin_add, bin_sub, bin_mul, bin_lss, bin_leq, bin_gtr, bin_geq, bin_eql, bin_neq, un_not, un_neg, Option.bind_some, Option.bind_none, Option.map_some, cnd_true, cnd_false, pickV_true, pickV_false, gd_true, gd_false, gdV_true, gdV_false, gdH_true, gdH_false, gdS_true, gdS_false, wt_ff, wt_tt, wt_ft, wt_tf, wt_undef, obH_some', extractV_tuple, nilCheckV_ptr, againK_normal, againK_exit, againK_ret, blockK_normal, blockK_same, blockK_ret, seqK_normal, seqK_exit, seqK_ret, fin_done, if_true', if_false', Bool.not_true, Bool.not_false, idx0, idx1, idx2, idx3, idx4, chk_nil_l, chk_nil_r, done_nm]
    exact ⟨_, rfl, hm, w2.done⟩
theorem rfloat_loop {h0 h : Heap} {p : Nat} {v : Value} {r : Option (List UInt8)} {l : List UInt8} (w : Rdr h p r) (s : SB h v l) (hl : l.length ≤ 8) (hr : r = none → (ofK (beN l)).2 = false) (hin : In h0.blks.length (Just p) (nm h0) h) :
    ∀ (mm i : Nat), l.length = i + mm → ∀ (Ab Ac Ae Af Ag Ah Ai Aj Ak Ap Aq Ar As At Au Av Aw Ax Ay Az Ba Bb Bc Bd Be Bf Bg Bh : Value),
    ∃ h', loopK Try.prog (evC Try.prog) c52_1 ⟨#[.pointer (some ⟨p, 0, none⟩),Ab,Ac, .int .u64 (beN (l.take i) : Nat),Ae,Af,Ag,Ah,Ai,Aj,Ak, v, .int .i64 l.length, .int .i64 i,Ap,Aq,Ar,As,At,Au,Av,Aw,Ax,Ay,Az,Ba,Bb,Bc,Bd,Be,Bf,Bg,Bh], h⟩ (blockK 0 (seqK Try.prog (evC Try.prog) c52_2 (retK Try.f52 Try.prog h0))) =
      some (.float .f64 (if (ofK (beN l)).2 = true then (ofK (beN l)).1 else 0), h') ∧ HMod (Just p) h0 h' ∧ Rdr h' p (if (ofK (beN l)).2 = true then r else none) := by
  have h64 : beN l < 2 ^ 64 := by
    have := beN_lt l.length l rfl
    have h2 : 256 ^ l.length ≤ 256 ^ 8 := Nat.pow_le_pow_right (by omega) hl
    have h3 : (256 : Nat) ^ 8 = 2 ^ 64 := by decide
    omega
  intro mm
  induction mm with
  | zero =>
    intro i hi Ab Ac Ae Af Ag Ah Ai Aj Ak Ap Aq Ar As At Au Av Aw Ax Ay Az Ba Bb Bc Bd Be Bf Bg Bh
    rw [loopK_eq evC_m, c52_1_eq, List.take_of_length_le (by omega)]
    have := fun Ab Ac Ae Af Ag Ah Ai Aj Ak Al An Ao Ap Aq Ar As At Au Av Aw Ax Ay Az Ba Bb Bc Bd Be Bf Bg Bh => rfloat_end (h0 := h0) w hin (beN l) h64 hr Ab Ac Ae Af Ag Ah Ai Aj Ak Al An Ao Ap Aq Ar As At Au Av Aw Ax Ay Az Ba Bb Bc Bd Be Bf Bg Bh
    simp -implicitDefEqProofs (disch := omega) only [dcT, dcF, ↓cnd_true, ↓cnd_false, ↓Option.bind_some, ↓obH_some', bin_add, bin_sub, bin_mul, bin_lss, bin_leq, bin_gtr, bin_geq, bin_eql, bin_neq, un_not, un_neg, Option.bind_some, Option.bind_none, Option.map_some, cnd_true, cnd_false, pickV_true, pickV_false, gd_true, gd_false, gdV_true, gdV_false, gdH_true, gdH_false, gdS_true, gdS_false, wt_ff, wt_tt, wt_ft, wt_tf, wt_undef, obH_some', extractV_tuple, nilCheckV_ptr, againK_normal, againK_exit, againK_ret, blockK_normal, blockK_same, blockK_ret, seqK_normal, seqK_exit, seqK_ret, fin_done, if_true', if_false', Bool.not_true, Bool.not_false, idx0, idx1, idx2, idx3, idx4, chk_nil_l, chk_nil_r, done_nm]
    exact this _ _ _ _ _ _ _ _ _ _ _ _ _ _ _ _ _ _ _ _ _ _ _ _ _ _ _ _ _ _ _
  | succ mm ih =>
    intro i hi Ab Ac Ae Af Ag Ah Ai Aj Ak Ap Aq Ar As At Au Av Aw Ax Ay Az Ba Bb Bc Bd Be Bf Bg Bh
    rw [loopK_eq evC_m, c52_1_eq]
    obtain ⟨a, e1, e2⟩ := sb_at s (i := i) (by omega)
    have hw : IntKind.wrap .i64 ((i : Int) + 1) = ((i + 1 : Nat) : Int) := by rw [wrap_i64] <;> omega
    have hk := beN_take_lt l (i := i) (by omega) (by omega)
    have e3 := fun t xo yo => shl8 t xo yo (beN (l.take i)) hk
    have e4 := fun t xo yo => or8 t xo yo (beN (l.take i)) l[i] hk
    rw [beN_take l (by omega)] at e4
    simp -implicitDefEqProofs (disch := omega) only [dcT, dcF, e1, e2, e3, cv8, e4, hw, ↓cnd_true, ↓cnd_false, ↓Option.bind_some, ↓obH_some', bin_add, bin_sub, bin_mul, bin_lss, bin_leq, bin_gtr, bin_geq, bin_eql, bin_neq, un_not, un_neg, Option.bind_some, Option.bind_none, Option.map_some, cnd_true, cnd_false, pickV_true, pickV_false, gd_true, gd_false, gdV_true, gdV_false, gdH_true, gdH_false, gdS_true, gdS_false, wt_ff, wt_tt, wt_ft, wt_tf, wt_undef, obH_some', extractV_tuple, nilCheckV_ptr, againK_normal, againK_exit, againK_ret, blockK_normal, blockK_same, blockK_ret, seqK_normal, seqK_exit, seqK_ret, fin_done, if_true', if_false', Bool.not_true, Bool.not_false, idx0, idx1, idx2, idx3, idx4, chk_nil_l, chk_nil_r, done_nm]
    exact ih (i + 1) (by omega) _ _ _ _ _ _ _ _ _ _ _ _ _ _ _ _ _ _ _ _ _ _ _ _ _ _ _ _
theorem spec_RFloat {h : Heap} {p : Nat} {r : Option (List UInt8)} (w : Rdr h p r) (hl : (rbs r).length < 2 ^ 40) :
    ∃ h', evC Try.prog 52 #[.pointer (some ⟨p, 0, none⟩)] h = some (.float .f64 (floatP r).1, h') ∧ HMod (Just p) h h' ∧ Rdr h' p (floatP r).2 := by
  rw [call52, c52_0_eq]
  obtain ⟨a, c, h2, e2,Ac, w2, s2⟩ := spec_take w.nm 8 (by omega) hl
  rw [show ((8 : Nat) : Int) = 8 from rfl] at e2
  have hin := Ac.inn (S := Just p) (n0 := h.blks.length) (by simp) fun _ _ h => h
  have h8 : (takeP r 8).1.length ≤ 8 := by
    cases r with
    | none => simp [takeP]
    | some bs => simp only [takeP]; split <;> simp; omega
  have hz : (takeP r 8).2 = none → (ofK (beN (takeP r 8).1)).2 = false := by
    cases r with
    | none => intro _; decide
    | some bs =>
      simp only [takeP]
      split
      · intro _; decide
      · intro e; cases e
  have := rfloat_loop (h0 := h) w2 s2 h8 hz hin (takeP r 8).1.length 0 (by omega)
  have ef : floatP r = (if (ofK (beN (takeP r 8).1)).2 = true then (ofK (beN (takeP r 8).1)).1 else 0, if (ofK (beN (takeP r 8).1)).2 = true then (takeP r 8).2 else none) := by
    cases r with
    | none => decide
    | some bs =>
      by_cases c : bs.length < 8
      · have ht : takeP (some bs) 8 = ([], none) := by simp only [takeP]; exact if_pos c
        have hf : floatP (some bs) = (0, none) := by simp only [floatP]; exact if_pos c
        simp only [ht, hf]; decide
      · have ht : takeP (some bs) 8 = (bs.take 8, some (bs.drop 8)) := by simp only [takeP]; exact if_neg c
        simp only [ht, floatP, if_neg c]
        split <;> rfl
  rw [ef]
  simp -implicitDefEqProofs (disch := omega) only [e2, s2.row.len_eq etB.under, ↓cnd_true, ↓cnd_false, ↓Option.bind_some, ↓obH_some', bin_add, bin_sub, bin_mul, bin_lss, bin_leq, bin_gtr, bin_geq, bin_eql, bin_neq, un_not, un_neg, Option.bind_some, Option.bind_none, Option.map_some, cnd_true, cnd_false, pickV_true, pickV_false, gd_true, gd_false, gdV_true, gdV_false, gdH_true, gdH_false, gdS_true, gdS_false, wt_ff, wt_tt, wt_ft, wt_tf, wt_undef, obH_some', extractV_tuple, nilCheckV_ptr, againK_normal, againK_exit, againK_ret, blockK_normal, blockK_same, blockK_ret, seqK_normal, seqK_exit, seqK_ret, fin_done, if_true', if_false', Bool.not_true, Bool.not_false, idx0, idx1, idx2, idx3, idx4, chk_nil_l, chk_nil_r, done_nm]
  exact this _ _ _ _ _ _ _ _ _ _ _ _ _ _ _ _ _ _ _ _ _ _ _ _ _ _ _ _
end Go.Am
namespace Go.Am
open Go.Proofs
set_option maxRecDepth 100000
set_option linter.all false
attribute [local congr] obind_congr obH_congr cnd_congr chk_congr retK_congr codeK_congr
theorem put_mods (h : Heap) (b : Nat) (body : Body) : ∀ m ∈ (h.put b body).mods, m ∈ h.mods ∨ m = b := by
  intro m hm
  unfold Heap.put at hm
  split at hm
  · rcases List.mem_cons.1 hm with h1 | h1
    · exact .inr h1
    · exact .inl h1
  · exact .inl hm
theorem append_mods {P : Program} {t : TypeId} {t1 : Option TypeId} {x v v' : Value} {h h' : Heap} (e : appendV P t t1 v x h = some (v', h')) : ∀ m ∈ h'.mods, m ∈ h.mods ∨ blockOf v = some m := by
  unfold appendV at e
  repeat' split at e
  all_goals first
    | cases e; done
    | (cases e; exact fun m hm => .inl hm)
    | (cases e
       intro m hm
       rcases put_mods _ _ _ m hm with h1 | h1
       · exact .inl h1
       · subst h1; exact .inr rfl)
    | (obtain ⟨y, h1, h2⟩ := Option.map_eq_some_iff.1 e
       cases h2
       exact fun m hm => .inl hm)
    | (obtain ⟨y, h1, h2⟩ := Option.map_eq_some_iff.1 e
       cases h2
       unfold Heap.storeN at h1
       split at h1
       · split at h1
         · cases h1
           intro m hm
           rcases put_mods _ _ _ m hm with h1 | h1
           · exact .inl h1
           · subst h1; exact .inr rfl
         · cases h1
       · cases h1)
theorem Acc.raise {n0 n1 : Nat} {h : Heap} {elem : TypeId} {es n : Nat} {v : Value} {cs : List Value} (a : Acc n0 h elem es v n cs) (hv : ∀ b, blockOf v = some b → n1 ≤ b) : Acc n1 h elem es v n cs := by
  cases a with
  | nil => exact .nil
  | full h1 hn hb hle he => exact .full (hv _ rfl) hn hb hle he
  | unk h1 hb hle he => exact .unk (hv _ rfl) hb hle he
theorem app_bS {S : Nat → Prop} {n0 : Nat} {h : Heap} (hn0 : n0 ≤ h.blks.length) {v : Value} {bs : List UInt8} (ha : AB 0 h v bs) (hS : ∀ b, blockOf v = some b → n0 ≤ b ∨ S b) (b : UInt8) (hl : bs.length < 2 ^ 43) :
    ∃ a c h', appendV Try.prog 23 (some 23) v (.slice (some ⟨h.blks.length, 0, none⟩) 1 1) (h.new (.cells [byteV b]) 5) = some (.slice a (bs ++ [b]).length c, h') ∧ AB 0 h' (.slice a (bs ++ [b]).length c) (bs ++ [b]) ∧ In n0 S h h' ∧
      (∀ q, q < h.blks.length → blockOf v ≠ some q → h'.blks[q]? = h.blks[q]?) ∧ (∀ q, blockOf (.slice a (bs ++ [b]).length c) = some q → h.blks.length ≤ q) ∧ h.blks.length ≤ h'.blks.length := by
  have ha' : AB 0 (h.new (.cells [byteV b]) 5) v bs := ha.keep fun _ hb _ => Heap.new_old hb
  obtain ⟨a, c, h', e1, e2, e3, e4, e5⟩ := app_bytes (n0 := 0) (by omega) ha' (lit1 b h) (by simp; omega)
  have hnl : h.blks.length < (h.new (.cells [byteV b]) 5).blks.length := by simp [Heap.new]
  refine ⟨a, c, h', e1, e2, ⟨hn0, by have := e3.len; omega, fun q hq hs => ?_, fun m hm => ?_⟩, fun q hq hne => (e4 q (by omega) hne).trans (Heap.new_old hq), fun q hq => ?_, by have := e3.len; omega⟩
  · refine (e4 q (by omega) fun hv => ?_).trans (Heap.new_old (by omega))
    rcases hS q hv with h1 | h1
    · omega
    · exact hs h1
  · rcases append_mods e1 m hm with h1 | h1
    · exact .inl h1
    · exact .inr (hS m h1)
  · rcases e5 with ⟨h1, h2⟩ | ⟨h1, h2⟩
    · exfalso
      have : (bs ++ [b]).length = bs.length := by
        obtain ⟨a', c', rfl⟩ := ha.shape
        injection h1
      simp at this
    · rw [h1] at hq; cases hq; omega
def Wrv (T : TypeId) (h : Heap) (p : Nat) (v : Value) (bs : List UInt8) : Prop := Cells h p T [v] ∧ AB 0 h v bs ∧ blockOf v ≠ some p
theorem Wrv.kp {T : TypeId} {h h' : Heap} {p : Nat} {v : Value} {bs : List UInt8} (w : Wrv T h p v bs) (k : ∀ b, b < h.blks.length → (b = p ∨ blockOf v = some b) → h'.blks[b]? = h.blks[b]?) : Wrv T h' p v bs :=
  ⟨(k p w.1.lt (.inl rfl)).trans w.1, w.2.1.keep fun b hb hv => k b hb (.inr hv), w.2.2⟩
theorem Wrv.nm {T : TypeId} {h : Heap} {p : Nat} {v : Value} {bs : List UInt8} (w : Wrv T h p v bs) : Wrv T (Am.nm h) p v bs := w.kp fun _ _ _ => rfl
theorem Wrv.done {T : TypeId} {h0 h : Heap} {p : Nat} {v : Value} {bs : List UInt8} (w : Wrv T h p v bs) : Wrv T (Am.done h0 h) p v bs := w.kp fun _ _ _ => rfl
theorem Wrv.same {T : TypeId} {h h' : Heap} {p : Nat} {v : Value} {bs : List UInt8} (w : Wrv T h p v bs) (e : Same h h') : Wrv T h' p v bs := w.kp fun b hb _ => e.2 b hb
theorem Wrv.mod {T : TypeId} {S : Nat → Prop} {h h' : Heap} {p : Nat} {v : Value} {bs : List UInt8} (w : Wrv T h p v bs) (e : HMod S h h') (h1 : ¬ S p) (h2 : ∀ b, blockOf v = some b → ¬ S b) : Wrv T h' p v bs :=
  w.kp fun b hb hv => e.old b hb (by rcases hv with rfl | hv; exact h1; exact h2 b hv)
theorem Wrv.lt {T : TypeId} {h : Heap} {p : Nat} {v : Value} {bs : List UInt8} (w : Wrv T h p v bs) {b : Nat} (hb : blockOf v = some b) : b < h.blks.length := w.2.1.sb.lt hb
theorem Wr.v {n0 : Nat} {h : Heap} {p : Nat} {bs : List UInt8} (w : Wr n0 h p bs) : ∃ v, Wrv 146 h p v bs ∧ ∀ b, blockOf v = some b → n0 ≤ b := let ⟨_, _, x, y, z⟩ := w; ⟨_, ⟨x, y.up (Nat.zero_le _), z⟩, fun b hb => y.ge hb⟩
theorem Wrv.w {h : Heap} {p : Nat} {v : Value} {bs : List UInt8} (w : Wrv 146 h p v bs) {n0 : Nat} (hn : ∀ b, blockOf v = some b → n0 ≤ b) : Wr n0 h p bs := by
  obtain ⟨x, y, z⟩ := w
  obtain ⟨a, c, rfl⟩ := y.shape
  exact ⟨a, c, x, y.raise hn, z⟩
theorem WrR.v {n0 : Nat} {h : Heap} {p : Nat} {bs : List UInt8} (w : WrR n0 h p bs) : ∃ v, Wrv 97 h p v bs ∧ ∀ b, blockOf v = some b → n0 ≤ b := let ⟨_, _, x, y, z⟩ := w; ⟨_, ⟨x, y.up (Nat.zero_le _), z⟩, fun b hb => y.ge hb⟩
theorem Wrv.put {T : TypeId} {h : Heap} {p : Nat} {cs : List Value} {a : Option Addr} {bs : List UInt8} {c : Nat} (hc : Cells h p T cs) (ha : AB 0 h (.slice a bs.length c) bs) (hb : blockOf (.slice a bs.length c) ≠ some p) : Wrv T (h.put p (.cells [.slice a bs.length c])) p (.slice a bs.length c) bs := ⟨hc.put _, ha.keepPut hb _, hb⟩
def beT (k j : Nat) : List UInt8 := (List.range j).map fun i => UInt8.ofNat (k / 2 ^ (56 - 8 * i))
theorem beT_succ (k j : Nat) : beT k j ++ [UInt8.ofNat (k / 2 ^ (56 - 8 * j))] = beT k (j + 1) := by unfold beT; rw [List.range_succ, List.map_append]; rfl
theorem beT_len (k j : Nat) : (beT k j).length = j := by simp [beT]
theorem shrI (t : TypeId) (xo yo : Operand) (yk : IntKind) (k m : Nat) (hk : k < 2 ^ 64) (hm : m ≤ 64) : binV Try.prog .shr t xo yo (.int .u64 k) (.int yk m) = some (.int .u64 ((k / 2 ^ m : Nat) : Int)) := by
  rw [bin_shr64 _ _ _ _ _ _ (by omega) (by omega) (by omega), Int.toNat_natCast, Int.toNat_natCast]
def Turn (p : Nat) (v : Value) : Nat → Prop := fun b => b = p ∨ blockOf v = some b
theorem wfloat_loop {h0 : Heap} {p k : Nat} (hk : k < 2 ^ 64) {v0 : Value} {bs : List UInt8} (hl : bs.length < 2 ^ 39) : ∀ (m j : Nat) (h : Heap) (v : Value), 8 = j + m → Wrv 146 h p v (bs ++ beT k j) → In h0.blks.length (Turn p v0) (nm h0) h → (∀ b, blockOf v = some b → h0.blks.length ≤ b ∨ v = v0 ∧ j = 0) →
    ∀ (Ab Ac Ad Ag Ah Ai Aj Ak Al An Ao Ap Aq Ar As At Au Av Aw Ax Ay Az Ba : Value),
    ∃ v' h', loopK Try.prog (evC Try.prog) c57_1 ⟨#[.pointer (some ⟨p, 0, none⟩),Ab,Ac,Ad, .int .u64 k, .int .i64 (7 - (j : Int)),Ag,Ah,Ai,Aj,Ak,Al,An,Ao,Ap,Aq,Ar,As,At,Au,Av,Aw,Ax,Ay,Az,Ba], h⟩ (blockK 0 (retK Try.f57 Try.prog h0)) = some (.tuple #[], h') ∧ HMod (Turn p v0) h0 h' ∧
      Wrv 146 h' p v' (bs ++ beT k 8) ∧ (∀ b, blockOf v' = some b → h0.blks.length ≤ b) := by
  intro m
  induction m with
  | zero =>
    intro j h v hj w hin hv Ab Ac Ad Ag Ah Ai Aj Ak Al An Ao Ap Aq Ar As At Au Av Aw Ax Ay Az Ba
    obtain rfl : j = 8 := by omega
    rw [loopK_eq evC_m, c57_1_eq]
    simp -implicitDefEqProofs (disch := omega) only [dcT, dcF, ↓retn57, ↓cnd_true, ↓cnd_false, ↓Option.bind_some, ↓obH_some', bin_add, bin_sub, bin_mul, bin_lss, bin_leq, bin_gtr, bin_geq, bin_eql, bin_neq, un_not, un_neg, Option.bind_some, Option.bind_none, Option.map_some, cnd_true, cnd_false, pickV_true, pickV_false, gd_true, gd_false, gdV_true, gdV_false, gdH_true, gdH_false, gdS_true, gdS_false, wt_ff, wt_tt, wt_ft, wt_tf, wt_undef, obH_some', extractV_tuple, nilCheckV_ptr, againK_normal, againK_exit, againK_ret, blockK_normal, blockK_same, blockK_ret, seqK_normal, seqK_exit, seqK_ret, fin_done, if_true', if_false', Bool.not_true, Bool.not_false, idx0, idx1, idx2, idx3, idx4, chk_nil_l, chk_nil_r, done_nm]
    exact ⟨v, _, rfl, done_mod hin, w.done, fun b hb => (hv b hb).elim id fun x => by omega⟩
  | succ m ih =>
    intro j h v hj w hin hv Ab Ac Ad Ag Ah Ai Aj Ak Al An Ao Ap Aq Ar As At Au Av Aw Ax Ay Az Ba
    rw [loopK_eq evC_m, c57_1_eq]
    obtain ⟨hc, ha, hne⟩ := w
    have hlen : h0.blks.length ≤ h.blks.length := hin.len
    obtain ⟨a, c, h2, e2, s2, i2, o2, f2, l2⟩ := app_bS (S := Turn p v0) (n0 := h0.blks.length) hlen ha (fun b hb => (hv b hb).imp_right fun x => .inr (by rw [← x.1]; exact hb)) (UInt8.ofNat (k / 2 ^ (56 - 8 * j))) (by rw [List.length_append, beT_len]; omega)
    rw [List.append_assoc, beT_succ] at e2 s2
    rw [List.append_assoc, beT_succ] at f2
    have hc2 : Cells h2 p _ _ := (o2 p hc.lt hne).trans hc
    have hb2 : blockOf (.slice a (bs ++ beT k (j + 1)).length c) ≠ some p := fun e => by have := f2 p e; have := hc.lt; omega
    have w3 := Wrv.put hc2 s2 hb2
    have hw1 : IntKind.wrap .i64 (8 * (7 - (j : Int))) = ((56 - 8 * j : Nat) : Int) := by rw [wrap_i64] <;> omega
    have hw2 : IntKind.wrap .i64 (7 - (j : Int) - 1) = 7 - ((j + 1 : Nat) : Int) := by rw [wrap_i64] <;> omega
    have es := fun t xo yo => shrI t xo yo .i64 k (56 - 8 * j) hk (by omega)
    have hin2 := (hin.trans i2).trans (In.put (n0 := h0.blks.length) (S := Turn p v0) (by omega) (.inr (.inl rfl)) (.cells [.slice a (bs ++ beT k (j + 1)).length c]))
    simp -implicitDefEqProofs (disch := omega) only [dcT, dcF, faW, ldB, hc.load, List.getElem?_cons_zero, hw1, es, cvB8, mkBb, e2, stB, storeN_blk hc2 (o := 0) (vs := [.slice a (bs ++ beT k (j + 1)).length c]) (by simp), List.take_zero, List.nil_append, List.length_singleton, Nat.zero_add, List.drop_succ_cons, List.drop_nil, List.append_nil, hw2, ↓cnd_true, ↓cnd_false, ↓Option.bind_some, ↓obH_some', bin_add, bin_sub, bin_mul, bin_lss, bin_leq, bin_gtr, bin_geq, bin_eql, bin_neq, un_not, un_neg, Option.bind_some, Option.bind_none, Option.map_some, cnd_true, cnd_false, pickV_true, pickV_false, gd_true, gd_false, gdV_true, gdV_false, gdH_true, gdH_false, gdS_true, gdS_false, wt_ff, wt_tt, wt_ft, wt_tf, wt_undef, obH_some', extractV_tuple, nilCheckV_ptr, againK_normal, againK_exit, againK_ret, blockK_normal, blockK_same, blockK_ret, seqK_normal, seqK_exit, seqK_ret, fin_done, if_true', if_false', Bool.not_true, Bool.not_false, idx0, idx1, idx2, idx3, idx4, chk_nil_l, chk_nil_r, done_nm]
    exact ih (j + 1) _ _ (by omega) w3 hin2 (fun b hb => .inl (by have := f2 b hb; omega)) _ _ _ _ _ _ _ _ _ _ _ _ _ _ _ _ _ _ _ _ _ _ _
theorem spec_WFloat {h : Heap} {p : Nat} {v : Value} {bs : List UInt8} (w : Wrv 146 h p v bs) (n : Nat) (hn : n < 2 ^ 64) (hl : bs.length < 2 ^ 39) :
    ∃ v' h', evC Try.prog 57 #[.pointer (some ⟨p, 0, none⟩), .float .f64 n] h = some (.tuple #[], h') ∧ HMod (Turn p v) h h' ∧ Wrv 146 h' p v' (bs ++ beT (keyF n) 8) ∧ (∀ b, blockOf v' = some b → h.blks.length ≤ b) := by
  rw [call57, c57_0_eq]
  have e1 := spec_Key n hn (nm h)
  have := wfloat_loop (h0 := h) (keyF_lt hn) (v0 := v) hl 8 0 (nm h) v (by omega) (by rw [show beT (keyF n) 0 = [] from rfl, List.append_nil]; exact w.nm) (In.refl (Nat.le_refl _)) (fun b hb => .inr ⟨rfl, rfl⟩)
  rw [show (7 : Int) - ((0 : Nat) : Int) = 7 from rfl] at this
  simp -implicitDefEqProofs (disch := omega) only [e1, ↓cnd_true, ↓cnd_false, ↓Option.bind_some, ↓obH_some', bin_add, bin_sub, bin_mul, bin_lss, bin_leq, bin_gtr, bin_geq, bin_eql, bin_neq, un_not, un_neg, Option.bind_some, Option.bind_none, Option.map_some, cnd_true, cnd_false, pickV_true, pickV_false, gd_true, gd_false, gdV_true, gdV_false, gdH_true, gdH_false, gdS_true, gdS_false, wt_ff, wt_tt, wt_ft, wt_tf, wt_undef, obH_some', extractV_tuple, nilCheckV_ptr, againK_normal, againK_exit, againK_ret, blockK_normal, blockK_same, blockK_ret, seqK_normal, seqK_exit, seqK_ret, fin_done, if_true', if_false', Bool.not_true, Bool.not_false, idx0, idx1, idx2, idx3, idx4, chk_nil_l, chk_nil_r, done_nm]
  exact this _ _ _ _ _ _ _ _ _ _ _ _ _ _ _ _ _ _ _ _ _ _ _
end Go.Am
namespace Go.Am
open Go.Proofs
set_option maxRecDepth 100000
set_option linter.all false
attribute [local congr] obind_congr obH_congr cnd_congr chk_congr retK_congr codeK_congr
structure MT where
  frm : Int
  num : Nat
  to : Nat
  kind : Int
  var : Int
  val : Nat
  wr : Int
  tag : Nat
  body : List UInt8
  stamp : List UInt8
deriving DecidableEq
abbrev msgL (m : MT) (bv sv : Value) : List Value := [.int .i64 m.frm, .int .u64 m.num, .int .u64 m.to, .int .i64 m.kind, .int .i64 m.var, .float .f64 m.val, .int .i64 m.wr, .int .u64 m.tag, bv, sv]
abbrev msgA (m : MT) (bv sv : Value) : Value := .agg #[.int .i64 m.frm, .int .u64 m.num, .int .u64 m.to, .int .i64 m.kind, .int .i64 m.var, .float .f64 m.val, .int .i64 m.wr, .int .u64 m.tag, bv, sv]
structure MTok (m : MT) : Prop where
  f0 : -2 ^ 63 ≤ m.frm
  f1 : m.frm < 2 ^ 63
  num : m.num < 2 ^ 64
  to : m.to < 2 ^ 64
  k0 : -2 ^ 63 ≤ m.kind
  k1 : m.kind < 2 ^ 63
  v0 : -2 ^ 63 ≤ m.var
  v1 : m.var < 2 ^ 63
  val : m.val < 2 ^ 64
  w0 : -2 ^ 63 ≤ m.wr
  w1 : m.wr < 2 ^ 63
  tag : m.tag < 2 ^ 64
  body : m.body.length < 2 ^ 38
  stamp : m.stamp.length < 2 ^ 38
theorem bxMM (a b c d e f g i j k : Value) (h : Heap) : boxV Try.prog 104 (.agg #[a, b, c, d, e, f, g, i, j, k]) h = some (.pointer (some ⟨h.blks.length, 0, none⟩), h.new (.cells [a, b, c, d, e, f, g, i, j, k]) 104) := by kernel_rfl
theorem faMM0 (p : Nat) : fieldAddrV Try.prog 104 (.pointer (some ⟨p, 0, none⟩)) 0 = some (.pointer (some ⟨p, 0, none⟩)) := by kernel_rfl
theorem faMM1 (p : Nat) : fieldAddrV Try.prog 104 (.pointer (some ⟨p, 0, none⟩)) 1 = some (.pointer (some ⟨p, 1, none⟩)) := by kernel_rfl
theorem faMM2 (p : Nat) : fieldAddrV Try.prog 104 (.pointer (some ⟨p, 0, none⟩)) 2 = some (.pointer (some ⟨p, 2, none⟩)) := by kernel_rfl
theorem faMM3 (p : Nat) : fieldAddrV Try.prog 104 (.pointer (some ⟨p, 0, none⟩)) 3 = some (.pointer (some ⟨p, 3, none⟩)) := by kernel_rfl
theorem faMM4 (p : Nat) : fieldAddrV Try.prog 104 (.pointer (some ⟨p, 0, none⟩)) 4 = some (.pointer (some ⟨p, 4, none⟩)) := by kernel_rfl
theorem faMM5 (p : Nat) : fieldAddrV Try.prog 104 (.pointer (some ⟨p, 0, none⟩)) 5 = some (.pointer (some ⟨p, 5, none⟩)) := by kernel_rfl
theorem faMM6 (p : Nat) : fieldAddrV Try.prog 104 (.pointer (some ⟨p, 0, none⟩)) 6 = some (.pointer (some ⟨p, 6, none⟩)) := by kernel_rfl
theorem faMM7 (p : Nat) : fieldAddrV Try.prog 104 (.pointer (some ⟨p, 0, none⟩)) 7 = some (.pointer (some ⟨p, 7, none⟩)) := by kernel_rfl
theorem faMM8 (p : Nat) : fieldAddrV Try.prog 104 (.pointer (some ⟨p, 0, none⟩)) 8 = some (.pointer (some ⟨p, 8, none⟩)) := by kernel_rfl
theorem faMM9 (p : Nat) : fieldAddrV Try.prog 104 (.pointer (some ⟨p, 0, none⟩)) 9 = some (.pointer (some ⟨p, 9, none⟩)) := by kernel_rfl
theorem ldSetV (p o : Nat) (h : Heap) : loadV Try.prog 47 (.pointer (some ⟨p, o, none⟩)) h = h.load1 p o := by kernel_rfl
theorem ldFlV (p o : Nat) (h : Heap) : loadV Try.prog 84 (.pointer (some ⟨p, o, none⟩)) h = h.load1 p o := by kernel_rfl
theorem ldIntV (p o : Nat) (h : Heap) : loadV Try.prog 3 (.pointer (some ⟨p, o, none⟩)) h = h.load1 p o := by kernel_rfl
theorem ldMM (p : Nat) (h : Heap) : loadV Try.prog 104 (.pointer (some ⟨p, 0, none⟩)) h = (h.loadN p 0 10).map fun cs => .agg cs.toArray := by kernel_rfl
structure MC (T : TypeId) (h : Heap) (p : Nat) (m : MT) (bv sv : Value) : Prop where
  c : Cells h p T (msgL m bv sv)
  b : SB h bv m.body
  s : SB h sv m.stamp
variable {T : TypeId} {h h' : Heap} {p : Nat} {m : MT} {bv sv : Value}
theorem MC.l0 (x : MC T h p m bv sv) : h.load1 p 0 = some (.int .i64 m.frm) := by rw [x.c.load]; rfl
theorem MC.l1 (x : MC T h p m bv sv) : h.load1 p 1 = some (.int .u64 m.num) := by rw [x.c.load]; rfl
theorem MC.l2 (x : MC T h p m bv sv) : h.load1 p 2 = some (.int .u64 m.to) := by rw [x.c.load]; rfl
theorem MC.l3 (x : MC T h p m bv sv) : h.load1 p 3 = some (.int .i64 m.kind) := by rw [x.c.load]; rfl
theorem MC.l4 (x : MC T h p m bv sv) : h.load1 p 4 = some (.int .i64 m.var) := by rw [x.c.load]; rfl
theorem MC.l5 (x : MC T h p m bv sv) : h.load1 p 5 = some (.float .f64 m.val) := by rw [x.c.load]; rfl
theorem MC.l6 (x : MC T h p m bv sv) : h.load1 p 6 = some (.int .i64 m.wr) := by rw [x.c.load]; rfl
theorem MC.l7 (x : MC T h p m bv sv) : h.load1 p 7 = some (.int .u64 m.tag) := by rw [x.c.load]; rfl
theorem MC.l8 (x : MC T h p m bv sv) : h.load1 p 8 = some bv := by rw [x.c.load]; rfl
theorem MC.l9 (x : MC T h p m bv sv) : h.load1 p 9 = some sv := by rw [x.c.load]; rfl
theorem MC.same (x : MC T h p m bv sv) (s : Same h h') : MC T h' p m bv sv := ⟨x.c.same s, x.b.same s, x.s.same s⟩
theorem MC.ext (x : MC T h p m bv sv) (s : HExt h h') : MC T h' p m bv sv := x.same s.same
theorem MC.new (T : TypeId) (hb : SB h bv m.body) (hs : SB h sv m.stamp) : MC T (h.new (.cells (msgL m bv sv)) T) h.blks.length m bv sv :=
  ⟨Cells.new _ _ _, hb.keepNew _ _, hs.keepNew _ _⟩
theorem MC.ld (x : MC 104 h p m bv sv) : loadV Try.prog 104 (.pointer (some ⟨p, 0, none⟩)) h = some (msgA m bv sv) := by rw [ldMM, x.c.loadN (n := 10) rfl]; rfl
theorem spec_in (n a b : Int) (h : Heap) : evC Try.prog 111 #[.int .i64 n, .int .i64 a, .int .i64 b] h = some (.bool (decide (a ≤ n ∧ n ≤ b)), h) := by
  rw [call111, c111_0_eq]
  by_cases h1 : a ≤ n
  · by_cases h2 : n ≤ b
    · rw [decide_eq_true (And.intro h1 h2)]
      simp -implicitDefEqProofs (disch := omega) only [dcT, dcF, ↓ret111, ↓cnd_true, ↓cnd_false, ↓Option.bind_some, ↓obH_some', bin_add, bin_sub, bin_mul, bin_lss, bin_leq, bin_gtr, bin_geq, bin_eql, bin_neq, un_not, un_neg, Option.bind_some, Option.bind_none, Option.map_some, cnd_true, cnd_false, pickV_true, pickV_false, gd_true, gd_false, gdV_true, gdV_false, gdH_true, gdH_false, gdS_true, gdS_false, wt_ff, wt_tt, wt_ft, wt_tf, wt_undef, obH_some', extractV_tuple, nilCheckV_ptr, againK_normal, againK_exit, againK_ret, blockK_normal, blockK_same, blockK_ret, seqK_normal, seqK_exit, seqK_ret, fin_done, if_true', if_false', Bool.not_true, Bool.not_false, idx0, idx1, idx2, idx3, idx4, chk_nil_l, chk_nil_r, done_nm]
    · rw [decide_eq_false (fun x => h2 x.2)]
      simp -implicitDefEqProofs (disch := omega) only [dcT, dcF, ↓ret111, ↓cnd_true, ↓cnd_false, ↓Option.bind_some, ↓obH_some', bin_add, bin_sub, bin_mul, bin_lss, bin_leq, bin_gtr, bin_geq, bin_eql, bin_neq, un_not, un_neg, Option.bind_some, Option.bind_none, Option.map_some, cnd_true, cnd_false, pickV_true, pickV_false, gd_true, gd_false, gdV_true, gdV_false, gdH_true, gdH_false, gdS_true, gdS_false, wt_ff, wt_tt, wt_ft, wt_tf, wt_undef, obH_some', extractV_tuple, nilCheckV_ptr, againK_normal, againK_exit, againK_ret, blockK_normal, blockK_same, blockK_ret, seqK_normal, seqK_exit, seqK_ret, fin_done, if_true', if_false', Bool.not_true, Bool.not_false, idx0, idx1, idx2, idx3, idx4, chk_nil_l, chk_nil_r, done_nm]
  · rw [decide_eq_false (fun x => h1 x.1)]
    simp -implicitDefEqProofs (disch := omega) only [dcT, dcF, ↓ret111, ↓cnd_true, ↓cnd_false, ↓Option.bind_some, ↓obH_some', bin_add, bin_sub, bin_mul, bin_lss, bin_leq, bin_gtr, bin_geq, bin_eql, bin_neq, un_not, un_neg, Option.bind_some, Option.bind_none, Option.map_some, cnd_true, cnd_false, pickV_true, pickV_false, gd_true, gd_false, gdV_true, gdV_false, gdH_true, gdH_false, gdS_true, gdS_false, wt_ff, wt_tt, wt_ft, wt_tf, wt_undef, obH_some', extractV_tuple, nilCheckV_ptr, againK_normal, againK_exit, againK_ret, blockK_normal, blockK_same, blockK_ret, seqK_normal, seqK_exit, seqK_ret, fin_done, if_true', if_false', Bool.not_true, Bool.not_false, idx0, idx1, idx2, idx3, idx4, chk_nil_l, chk_nil_r, done_nm]
theorem spec_valued (k : Int) (h : Heap) : evC Try.prog 110 #[.int .i64 k] h = some (.bool (decide (k = 1 ∨ k = 3)), h) := by
  rw [call110, c110_0_eq]
  by_cases h1 : k = 1
  · subst h1
    simp -implicitDefEqProofs (disch := omega) only [dcT, dcF, eq_self, decide_true, ↓ret110, ↓cnd_true, ↓cnd_false, ↓Option.bind_some, ↓obH_some', bin_add, bin_sub, bin_mul, bin_lss, bin_leq, bin_gtr, bin_geq, bin_eql, bin_neq, un_not, un_neg, Option.bind_some, Option.bind_none, Option.map_some, cnd_true, cnd_false, pickV_true, pickV_false, gd_true, gd_false, gdV_true, gdV_false, gdH_true, gdH_false, gdS_true, gdS_false, wt_ff, wt_tt, wt_ft, wt_tf, wt_undef, obH_some', extractV_tuple, nilCheckV_ptr, againK_normal, againK_exit, againK_ret, blockK_normal, blockK_same, blockK_ret, seqK_normal, seqK_exit, seqK_ret, fin_done, if_true', if_false', Bool.not_true, Bool.not_false, idx0, idx1, idx2, idx3, idx4, chk_nil_l, chk_nil_r, done_nm]
    rfl
  · have e1 : decide (k = 1) = false := decide_eq_false h1
    by_cases h3 : k = 3
    · subst h3
      simp -implicitDefEqProofs (disch := omega) only [dcT, dcF, eq_self, decide_true, ↓ret110, ↓cnd_true, ↓cnd_false, ↓Option.bind_some, ↓obH_some', bin_add, bin_sub, bin_mul, bin_lss, bin_leq, bin_gtr, bin_geq, bin_eql, bin_neq, un_not, un_neg, Option.bind_some, Option.bind_none, Option.map_some, cnd_true, cnd_false, pickV_true, pickV_false, gd_true, gd_false, gdV_true, gdV_false, gdH_true, gdH_false, gdS_true, gdS_false, wt_ff, wt_tt, wt_ft, wt_tf, wt_undef, obH_some', extractV_tuple, nilCheckV_ptr, againK_normal, againK_exit, againK_ret, blockK_normal, blockK_same, blockK_ret, seqK_normal, seqK_exit, seqK_ret, fin_done, if_true', if_false', Bool.not_true, Bool.not_false, idx0, idx1, idx2, idx3, idx4, chk_nil_l, chk_nil_r, done_nm]
      rfl
    · have e3 : decide (k = 3) = false := decide_eq_false h3
      rw [decide_eq_false (fun x : k = 1 ∨ k = 3 => x.elim h1 h3)]
      simp -implicitDefEqProofs (disch := omega) only [dcT, dcF, e1, e3, ↓ret110, ↓cnd_true, ↓cnd_false, ↓Option.bind_some, ↓obH_some', bin_add, bin_sub, bin_mul, bin_lss, bin_leq, bin_gtr, bin_geq, bin_eql, bin_neq, un_not, un_neg, Option.bind_some, Option.bind_none, Option.map_some, cnd_true, cnd_false, pickV_true, pickV_false, gd_true, gd_false, gdV_true, gdV_false, gdH_true, gdH_false, gdS_true, gdS_false, wt_ff, wt_tt, wt_ft, wt_tf, wt_undef, obH_some', extractV_tuple, nilCheckV_ptr, againK_normal, againK_exit, againK_ret, blockK_normal, blockK_same, blockK_ret, seqK_normal, seqK_exit, seqK_ret, fin_done, if_true', if_false', Bool.not_true, Bool.not_false, idx0, idx1, idx2, idx3, idx4, chk_nil_l, chk_nil_r, done_nm]
theorem spec_isNaNU (a : Nat) (h : Heap) : evC Try.prog 130 #[.int .u64 a] h = some (.bool false, h) := by
  rw [call130, c130_0_eq]
  simp -implicitDefEqProofs only [eq_self, ne_eq, not_true_eq_false, decide_false, ↓ret130, ↓cnd_true, ↓cnd_false, ↓Option.bind_some, ↓obH_some', bin_add, bin_sub, bin_mul, bin_lss, bin_leq, bin_gtr, bin_geq, bin_eql, bin_neq, un_not, un_neg, Option.bind_some, Option.bind_none, Option.map_some, cnd_true, cnd_false, pickV_true, pickV_false, gd_true, gd_false, gdV_true, gdV_false, gdH_true, gdH_false, gdS_true, gdS_false, wt_ff, wt_tt, wt_ft, wt_tf, wt_undef, obH_some', extractV_tuple, nilCheckV_ptr, againK_normal, againK_exit, againK_ret, blockK_normal, blockK_same, blockK_ret, seqK_normal, seqK_exit, seqK_ret, fin_done, if_true', if_false', Bool.not_true, Bool.not_false, idx0, idx1, idx2, idx3, idx4, chk_nil_l, chk_nil_r, done_nm]
def cmpN (a b : Nat) : Int := if a < b then -1 else if b < a then 1 else 0
theorem spec_Compare (a b : Nat) (h : Heap) : evC Try.prog 129 #[.int .u64 a, .int .u64 b] h = some (.int .i64 (cmpN a b), h) := by
  rw [call129, c129_0_eq]
  have e1 := fun h => spec_isNaNU a h
  have e2 := fun h => spec_isNaNU b h
  unfold cmpN
  by_cases h1 : a < b
  · rw [if_pos h1]
    simp -implicitDefEqProofs (disch := omega) only [dcT, dcF, e1, e2, ↓ret129, ↓cnd_true, ↓cnd_false, ↓Option.bind_some, ↓obH_some', bin_add, bin_sub, bin_mul, bin_lss, bin_leq, bin_gtr, bin_geq, bin_eql, bin_neq, un_not, un_neg, Option.bind_some, Option.bind_none, Option.map_some, cnd_true, cnd_false, pickV_true, pickV_false, gd_true, gd_false, gdV_true, gdV_false, gdH_true, gdH_false, gdS_true, gdS_false, wt_ff, wt_tt, wt_ft, wt_tf, wt_undef, obH_some', extractV_tuple, nilCheckV_ptr, againK_normal, againK_exit, againK_ret, blockK_normal, blockK_same, blockK_ret, seqK_normal, seqK_exit, seqK_ret, fin_done, if_true', if_false', Bool.not_true, Bool.not_false, idx0, idx1, idx2, idx3, idx4, chk_nil_l, chk_nil_r, done_nm]
  · rw [if_neg h1]
    by_cases h2 : b < a
    · rw [if_pos h2]
      simp -implicitDefEqProofs (disch := omega) only [dcT, dcF, e1, e2, ↓ret129, ↓cnd_true, ↓cnd_false, ↓Option.bind_some, ↓obH_some', bin_add, bin_sub, bin_mul, bin_lss, bin_leq, bin_gtr, bin_geq, bin_eql, bin_neq, un_not, un_neg, Option.bind_some, Option.bind_none, Option.map_some, cnd_true, cnd_false, pickV_true, pickV_false, gd_true, gd_false, gdV_true, gdV_false, gdH_true, gdH_false, gdS_true, gdS_false, wt_ff, wt_tt, wt_ft, wt_tf, wt_undef, obH_some', extractV_tuple, nilCheckV_ptr, againK_normal, againK_exit, againK_ret, blockK_normal, blockK_same, blockK_ret, seqK_normal, seqK_exit, seqK_ret, fin_done, if_true', if_false', Bool.not_true, Bool.not_false, idx0, idx1, idx2, idx3, idx4, chk_nil_l, chk_nil_r, done_nm]
    · rw [if_neg h2]
      simp -implicitDefEqProofs (disch := omega) only [dcT, dcF, e1, e2, ↓ret129, ↓cnd_true, ↓cnd_false, ↓Option.bind_some, ↓obH_some', bin_add, bin_sub, bin_mul, bin_lss, bin_leq, bin_gtr, bin_geq, bin_eql, bin_neq, un_not, un_neg, Option.bind_some, Option.bind_none, Option.map_some, cnd_true, cnd_false, pickV_true, pickV_false, gd_true, gd_false, gdV_true, gdV_false, gdH_true, gdH_false, gdS_true, gdS_false, wt_ff, wt_tt, wt_ft, wt_tf, wt_undef, obH_some', extractV_tuple, nilCheckV_ptr, againK_normal, againK_exit, againK_ret, blockK_normal, blockK_same, blockK_ret, seqK_normal, seqK_exit, seqK_ret, fin_done, if_true', if_false', Bool.not_true, Bool.not_false, idx0, idx1, idx2, idx3, idx4, chk_nil_l, chk_nil_r, done_nm]
theorem spec_FCmp (a b : Nat) (ha : a < 2 ^ 64) (hb : b < 2 ^ 64) (h : Heap) : evC Try.prog 128 #[.float .f64 a, .float .f64 b] h = some (.int .i64 (cmpN (keyF a) (keyF b)), h) := by
  rw [call128, c128_0_eq]
  have e1 := fun h => spec_Key a ha h
  have e2 := fun h => spec_Key b hb h
  have e3 := fun h => spec_Compare (keyF a) (keyF b) h
  simp -implicitDefEqProofs only [e1, e2, e3, ↓ret128, ↓cnd_true, ↓cnd_false, ↓Option.bind_some, ↓obH_some', bin_add, bin_sub, bin_mul, bin_lss, bin_leq, bin_gtr, bin_geq, bin_eql, bin_neq, un_not, un_neg, Option.bind_some, Option.bind_none, Option.map_some, cnd_true, cnd_false, pickV_true, pickV_false, gd_true, gd_false, gdV_true, gdV_false, gdH_true, gdH_false, gdS_true, gdS_false, wt_ff, wt_tt, wt_ft, wt_tf, wt_undef, obH_some', extractV_tuple, nilCheckV_ptr, againK_normal, againK_exit, againK_ret, blockK_normal, blockK_same, blockK_ret, seqK_normal, seqK_exit, seqK_ret, fin_done, if_true', if_false', Bool.not_true, Bool.not_false, idx0, idx1, idx2, idx3, idx4, chk_nil_l, chk_nil_r, done_nm]
theorem spec_Same (a b : Nat) (ha : a < 2 ^ 64) (hb : b < 2 ^ 64) (h : Heap) : evC Try.prog 126 #[.float .f64 a, .float .f64 b] h = some (.bool (decide (keyF a = keyF b)), h) := by
  rw [call126, c126_0_eq]
  have e3 := fun h => spec_FCmp a b ha hb h
  have ec : decide (cmpN (keyF a) (keyF b) = 0) = decide (keyF a = keyF b) := by
    congr 1; apply propext; unfold cmpN
    constructor
    · intro x; split at x
      · omega
      · split at x <;> omega
    · intro x; rw [if_neg (by omega), if_neg (by omega)]
  simp -implicitDefEqProofs only [e3, ec, ↓ret126, ↓cnd_true, ↓cnd_false, ↓Option.bind_some, ↓obH_some', bin_add, bin_sub, bin_mul, bin_lss, bin_leq, bin_gtr, bin_geq, bin_eql, bin_neq, un_not, un_neg, Option.bind_some, Option.bind_none, Option.map_some, cnd_true, cnd_false, pickV_true, pickV_false, gd_true, gd_false, gdV_true, gdV_false, gdH_true, gdH_false, gdS_true, gdS_false, wt_ff, wt_tt, wt_ft, wt_tf, wt_undef, obH_some', extractV_tuple, nilCheckV_ptr, againK_normal, againK_exit, againK_ret, blockK_normal, blockK_same, blockK_ret, seqK_normal, seqK_exit, seqK_ret, fin_done, if_true', if_false', Bool.not_true, Bool.not_false, idx0, idx1, idx2, idx3, idx4, chk_nil_l, chk_nil_r, done_nm]
def taggedB (m : MT) : Bool :=
  if m.kind = 1 then decide (m.wr = m.frm) && decide (0 < m.tag)
  else if m.kind = 3 then decide (-1 ≤ m.wr ∧ m.wr ≤ 15) && (decide (m.tag = 0) == decide (m.wr = -1))
  else decide (m.wr = 0) && (decide (m.tag = 0) && decide (keyF m.val = keyF 0))
theorem spec_tagged (hb : SB h bv m.body) (hs : SB h sv m.stamp) (ok : MTok m) : ∃ h', evC Try.prog 113 #[msgA m bv sv] h = some (.bool (taggedB m), h') ∧ HExt h h' := by
  rw [call113, c113_0_eq]
  have M := MC.new (h := nm h) 104 hb.nm hs.nm
  have i0 : In h.blks.length No (nm h) _ := In.new (by simp) (.cells (msgL m bv sv)) 104
  have k0 := bxMM (.int .i64 m.frm) (.int .u64 m.num) (.int .u64 m.to) (.int .i64 m.kind) (.int .i64 m.var) (.float .f64 m.val) (.int .i64 m.wr) (.int .u64 m.tag) bv sv (nm h)
  have bl : (nm h).blks.length = h.blks.length := rfl
  rw [bl] at M k0
  generalize (nm h).new (.cells (msgL m bv sv)) 104 = g0 at *
  unfold taggedB
  by_cases c1 : m.kind = 1
  · rw [if_pos c1]
    have e1 : decide (m.kind = 1) = true := decide_eq_true c1
    by_cases c2 : m.wr = m.frm
    · have e2 : decide (m.wr = m.frm) = true := decide_eq_true c2
      have e3 : decide (((0 : Int)) < (m.tag : Nat)) = decide (0 < m.tag) := by congr 1; apply propext; omega
      rw [e2, Bool.true_and]
      simp -implicitDefEqProofs (disch := omega) only [dcT, dcF, k0, faMM0, faMM3, faMM6, faMM7, ldIntV, vld64, M.l0, M.l3, M.l6, M.l7, e1, e2, e3, ↓ret113, ↓cnd_true, ↓cnd_false, ↓Option.bind_some, ↓obH_some', bin_add, bin_sub, bin_mul, bin_lss, bin_leq, bin_gtr, bin_geq, bin_eql, bin_neq, un_not, un_neg, Option.bind_some, Option.bind_none, Option.map_some, cnd_true, cnd_false, pickV_true, pickV_false, gd_true, gd_false, gdV_true, gdV_false, gdH_true, gdH_false, gdS_true, gdS_false, wt_ff, wt_tt, wt_ft, wt_tf, wt_undef, obH_some', extractV_tuple, nilCheckV_ptr, againK_normal, againK_exit, againK_ret, blockK_normal, blockK_same, blockK_ret, seqK_normal, seqK_exit, seqK_ret, fin_done, if_true', if_false', Bool.not_true, Bool.not_false, idx0, idx1, idx2, idx3, idx4, chk_nil_l, chk_nil_r, done_nm]
      exact ⟨_, rfl, done_ext' i0⟩
    · have e2 : decide (m.wr = m.frm) = false := decide_eq_false c2
      rw [e2, Bool.false_and]
      simp -implicitDefEqProofs (disch := omega) only [dcT, dcF, k0, faMM0, faMM3, faMM6, faMM7, ldIntV, vld64, M.l0, M.l3, M.l6, M.l7, e1, e2, ↓ret113, ↓cnd_true, ↓cnd_false, ↓Option.bind_some, ↓obH_some', bin_add, bin_sub, bin_mul, bin_lss, bin_leq, bin_gtr, bin_geq, bin_eql, bin_neq, un_not, un_neg, Option.bind_some, Option.bind_none, Option.map_some, cnd_true, cnd_false, pickV_true, pickV_false, gd_true, gd_false, gdV_true, gdV_false, gdH_true, gdH_false, gdS_true, gdS_false, wt_ff, wt_tt, wt_ft, wt_tf, wt_undef, obH_some', extractV_tuple, nilCheckV_ptr, againK_normal, againK_exit, againK_ret, blockK_normal, blockK_same, blockK_ret, seqK_normal, seqK_exit, seqK_ret, fin_done, if_true', if_false', Bool.not_true, Bool.not_false, idx0, idx1, idx2, idx3, idx4, chk_nil_l, chk_nil_r, done_nm]
      exact ⟨_, rfl, done_ext' i0⟩
  · rw [if_neg c1]
    have e1 : decide (m.kind = 1) = false := decide_eq_false c1
    have e4 : decide (((m.tag : Nat) : Int) = 0) = decide (m.tag = 0) := by congr 1; apply propext; omega
    by_cases c3 : m.kind = 3
    · rw [if_pos c3]
      have e3 : decide (m.kind = 3) = true := decide_eq_true c3
      have ei := fun h => spec_in m.wr (-1) 15 h
      have ew : decide ((-1 : Int) = m.wr) = decide (m.wr = -1) := by congr 1; apply propext; omega
      by_cases c5 : -1 ≤ m.wr ∧ m.wr ≤ 15
      · rw [decide_eq_true c5, Bool.true_and]
        rw [decide_eq_true c5] at ei
        simp -implicitDefEqProofs (disch := omega) only [dcT, dcF, k0, faMM0, faMM3, faMM6, faMM7, ldIntV, vld64, M.l0, M.l3, M.l6, M.l7, e1, e3, e4, ei, ew, vbeql, ↓ret113, ↓cnd_true, ↓cnd_false, ↓Option.bind_some, ↓obH_some', bin_add, bin_sub, bin_mul, bin_lss, bin_leq, bin_gtr, bin_geq, bin_eql, bin_neq, un_not, un_neg, Option.bind_some, Option.bind_none, Option.map_some, cnd_true, cnd_false, pickV_true, pickV_false, gd_true, gd_false, gdV_true, gdV_false, gdH_true, gdH_false, gdS_true, gdS_false, wt_ff, wt_tt, wt_ft, wt_tf, wt_undef, obH_some', extractV_tuple, nilCheckV_ptr, againK_normal, againK_exit, againK_ret, blockK_normal, blockK_same, blockK_ret, seqK_normal, seqK_exit, seqK_ret, fin_done, if_true', if_false', Bool.not_true, Bool.not_false, idx0, idx1, idx2, idx3, idx4, chk_nil_l, chk_nil_r, done_nm]
        exact ⟨_, rfl, done_ext' i0⟩
      · rw [decide_eq_false c5, Bool.false_and]
        rw [decide_eq_false c5] at ei
        simp -implicitDefEqProofs (disch := omega) only [dcT, dcF, k0, faMM0, faMM3, faMM6, faMM7, ldIntV, vld64, M.l0, M.l3, M.l6, M.l7, e1, e3, e4, ei, ↓ret113, ↓cnd_true, ↓cnd_false, ↓Option.bind_some, ↓obH_some', bin_add, bin_sub, bin_mul, bin_lss, bin_leq, bin_gtr, bin_geq, bin_eql, bin_neq, un_not, un_neg, Option.bind_some, Option.bind_none, Option.map_some, cnd_true, cnd_false, pickV_true, pickV_false, gd_true, gd_false, gdV_true, gdV_false, gdH_true, gdH_false, gdS_true, gdS_false, wt_ff, wt_tt, wt_ft, wt_tf, wt_undef, obH_some', extractV_tuple, nilCheckV_ptr, againK_normal, againK_exit, againK_ret, blockK_normal, blockK_same, blockK_ret, seqK_normal, seqK_exit, seqK_ret, fin_done, if_true', if_false', Bool.not_true, Bool.not_false, idx0, idx1, idx2, idx3, idx4, chk_nil_l, chk_nil_r, done_nm]
        exact ⟨_, rfl, done_ext' i0⟩
    · rw [if_neg c3]
      have e3 : decide (m.kind = 3) = false := decide_eq_false c3
      have es := fun h => spec_Same m.val 0 ok.val (by omega) h
      by_cases c6 : m.wr = 0
      · have e6 : decide (m.wr = 0) = true := decide_eq_true c6
        by_cases c7 : m.tag = 0
        · have e7 : decide (m.tag = 0) = true := decide_eq_true c7
          rw [e6, e7, Bool.true_and, Bool.true_and]
          simp -implicitDefEqProofs (disch := omega) only [dcT, dcF, k0, faMM0, faMM3, faMM5, faMM6, faMM7, ldIntV, ldFlV, vld64, M.l0, M.l3, M.l5, M.l6, M.l7, e1, e3, e4, e6, e7, es, ↓ret113, ↓cnd_true, ↓cnd_false, ↓Option.bind_some, ↓obH_some', bin_add, bin_sub, bin_mul, bin_lss, bin_leq, bin_gtr, bin_geq, bin_eql, bin_neq, un_not, un_neg, Option.bind_some, Option.bind_none, Option.map_some, cnd_true, cnd_false, pickV_true, pickV_false, gd_true, gd_false, gdV_true, gdV_false, gdH_true, gdH_false, gdS_true, gdS_false, wt_ff, wt_tt, wt_ft, wt_tf, wt_undef, obH_some', extractV_tuple, nilCheckV_ptr, againK_normal, againK_exit, againK_ret, blockK_normal, blockK_same, blockK_ret, seqK_normal, seqK_exit, seqK_ret, fin_done, if_true', if_false', Bool.not_true, Bool.not_false, idx0, idx1, idx2, idx3, idx4, chk_nil_l, chk_nil_r, done_nm]
          exact ⟨_, rfl, done_ext' i0⟩
        · have e7 : decide (m.tag = 0) = false := decide_eq_false c7
          rw [e6, e7, Bool.true_and, Bool.false_and]
          simp -implicitDefEqProofs (disch := omega) only [dcT, dcF, k0, faMM0, faMM3, faMM5, faMM6, faMM7, ldIntV, ldFlV, vld64, M.l0, M.l3, M.l5, M.l6, M.l7, e1, e3, e4, e6, e7, ↓ret113, ↓cnd_true, ↓cnd_false, ↓Option.bind_some, ↓obH_some', bin_add, bin_sub, bin_mul, bin_lss, bin_leq, bin_gtr, bin_geq, bin_eql, bin_neq, un_not, un_neg, Option.bind_some, Option.bind_none, Option.map_some, cnd_true, cnd_false, pickV_true, pickV_false, gd_true, gd_false, gdV_true, gdV_false, gdH_true, gdH_false, gdS_true, gdS_false, wt_ff, wt_tt, wt_ft, wt_tf, wt_undef, obH_some', extractV_tuple, nilCheckV_ptr, againK_normal, againK_exit, againK_ret, blockK_normal, blockK_same, blockK_ret, seqK_normal, seqK_exit, seqK_ret, fin_done, if_true', if_false', Bool.not_true, Bool.not_false, idx0, idx1, idx2, idx3, idx4, chk_nil_l, chk_nil_r, done_nm]
          exact ⟨_, rfl, done_ext' i0⟩
      · have e6 : decide (m.wr = 0) = false := decide_eq_false c6
        rw [e6, Bool.false_and]
        simp -implicitDefEqProofs (disch := omega) only [dcT, dcF, k0, faMM0, faMM3, faMM5, faMM6, faMM7, ldIntV, ldFlV, vld64, M.l0, M.l3, M.l5, M.l6, M.l7, e1, e3, e6, ↓ret113, ↓cnd_true, ↓cnd_false, ↓Option.bind_some, ↓obH_some', bin_add, bin_sub, bin_mul, bin_lss, bin_leq, bin_gtr, bin_geq, bin_eql, bin_neq, un_not, un_neg, Option.bind_some, Option.bind_none, Option.map_some, cnd_true, cnd_false, pickV_true, pickV_false, gd_true, gd_false, gdV_true, gdV_false, gdH_true, gdH_false, gdS_true, gdS_false, wt_ff, wt_tt, wt_ft, wt_tf, wt_undef, obH_some', extractV_tuple, nilCheckV_ptr, againK_normal, againK_exit, againK_ret, blockK_normal, blockK_same, blockK_ret, seqK_normal, seqK_exit, seqK_ret, fin_done, if_true', if_false', Bool.not_true, Bool.not_false, idx0, idx1, idx2, idx3, idx4, chk_nil_l, chk_nil_r, done_nm]
        exact ⟨_, rfl, done_ext' i0⟩
end Go.Am
namespace Go.Am
open Go.Proofs
set_option maxRecDepth 100000
set_option linter.all false
attribute [local congr] obind_congr obH_congr cnd_congr chk_congr retK_congr codeK_congr
variable {T : TypeId} {h h' : Heap} {p : Nat} {m : MT} {bv sv : Value}
theorem outB_16 {n : Nat} (hn : n < 2 ^ 64) : outB n 65535 = 0 ↔ n ≤ 65535 := by
  unfold outB
  have hb : ∀ j, (2 ^ 64 - 1 - 65535 : Nat).testBit j = (decide (j < 64) && !decide (j < 16)) := fun j => by
    have := Nat.testBit_two_pow_sub_succ (n := 64) (x := 65535) (by decide) j
    rw [show (65535 : Nat) = 2 ^ 16 - 1 from rfl, Nat.testBit_two_pow_sub_one] at this
    exact this
  constructor
  · intro h
    refine Nat.le_of_not_lt fun hlt => ?_
    have hne : n / 2 ^ 16 ≠ 0 := by omega
    obtain ⟨i, hi⟩ := Nat.exists_testBit_of_ne_zero hne
    rw [Nat.testBit_div_two_pow] at hi
    have h64 : 16 + i < 64 := by
      refine Nat.lt_of_not_le fun hge => ?_
      rw [Nat.testBit_lt_two_pow (Nat.lt_of_lt_of_le hn (Nat.pow_le_pow_right (by omega) (by omega)))] at hi
      cases hi
    have : (n &&& (2 ^ 64 - 1 - 65535)).testBit (16 + i) = true := by
      rw [Nat.testBit_and, hb, decide_eq_true h64, decide_eq_false (by omega), Nat.add_comm, hi]; rfl
    rw [h] at this
    simp at this
  · intro h
    refine Nat.eq_of_testBit_eq fun j => ?_
    rw [Nat.testBit_and, hb, Nat.zero_testBit]
    by_cases hj : j < 16
    · rw [decide_eq_true hj]; simp
    · rw [Nat.testBit_lt_two_pow (Nat.lt_of_le_of_lt h (Nat.lt_of_lt_of_le (by decide : 65535 < 2 ^ 16) (Nat.pow_le_pow_right (by omega) (by omega))))]; rfl
def goodMsg (m : MT) : Bool :=
  decide (0 ≤ m.frm ∧ m.frm ≤ 15) && (decide (1 ≤ m.num) && (decide (m.to ≠ 0) && (decide (m.to ≤ 65535) && (!hasB m.to m.frm && (decide (0 ≤ m.kind ∧ m.kind ≤ 3) && (taggedB m && (decide (m.stamp.length ≤ 20000) &&
    (if m.kind = 0 then decide (m.body.length ≤ 256) && decide (m.var = 0) else decide (m.body.length = 0) && decide (0 ≤ m.var ∧ m.var ≤ 15)))))))))
theorem spec_GoodM (hb : SB h bv m.body) (hs : SB h sv m.stamp) (ok : MTok m) : ∃ h', evC Try.prog 71 #[msgA m bv sv] h = some (.bool (goodMsg m), h') ∧ HExt h h' := by
  rw [call71, c71_0_eq]
  have M := MC.new (h := nm h) 104 hb.nm hs.nm
  have i0 : In h.blks.length No (nm h) _ := In.new (by simp) (.cells (msgL m bv sv)) 104
  have k0 := bxMM (.int .i64 m.frm) (.int .u64 m.num) (.int .u64 m.to) (.int .i64 m.kind) (.int .i64 m.var) (.float .f64 m.val) (.int .i64 m.wr) (.int .u64 m.tag) bv sv (nm h)
  have bl : (nm h).blks.length = h.blks.length := rfl
  rw [bl] at M k0
  generalize (nm h).new (.cells (msgL m bv sv)) 104 = g0 at *
  have am1 : am (nm g0) g0 = g0 := by show Heap.mk _ _ = _; rfl
  have a1 := fun h => spec_in m.frm 0 15 h
  have a2 := fun h => spec_All 16 (by omega) h
  rw [show ((16 : Nat) : Int) = 16 from rfl, show ((allN 16 : Nat) : Int) = (65535 : Nat) from rfl] at a2
  have a3 := fun h => spec_Within m.to 65535 ok.to (by omega) h
  have a4 := fun h => spec_Has m.to ok.to m.frm h
  have a5 := fun h => spec_in m.kind 0 3 h
  have a7 := fun h => spec_in m.var 0 15 h
  unfold goodMsg
  by_cases c1 : 0 ≤ m.frm ∧ m.frm ≤ 15
  rotate_left
  · rw [decide_eq_false c1, Bool.false_and]
    rw [decide_eq_false c1] at a1
    simp -implicitDefEqProofs (maxSteps := 1000000) (disch := omega) only [↓c71_1_eq, ↓c71_2_eq, ↓c71_3_eq, ↓c71_4_eq, ↓c71_5_eq, ↓c71_6_eq, ↓d71_0_0, ↓d71_0_1, ↓d71_0_2, ↓d71_0_3, ↓d71_0_4, ↓d71_0_5, ↓d71_0_6, ↓d71_0_7, ↓d71_0_8, ↓d71_0_9, ↓d71_0_10, ↓d71_0_11, ↓d71_0_12, ↓d71_0_13, ↓d71_0_14, ↓d71_0_15, ↓d71_0_16, ↓d71_0_17, ↓d71_0_18, ↓d71_0_19, ↓d71_0_20, ↓d71_0_21, ↓d71_0_22, ↓d71_0_23, ↓d71_0_24, ↓d71_0_25, ↓d71_0_26, ↓d71_0_27, ↓d71_0_28, dcT, dcF, k0, M.l0, M.l1, M.l2, M.l3, M.l4, M.l8, M.l9, faMM0, faMM1, faMM2, faMM3, faMM4, faMM8, faMM9, ldIntV, vld64, ldSetV, ldB, M.ld, a1, nm_mods, List.append_nil, List.nil_append, ↓ret71, ↓cnd_true, ↓cnd_false, ↓Option.bind_some, ↓obH_some', bin_add, bin_sub, bin_mul, bin_lss, bin_leq, bin_gtr, bin_geq, bin_eql, bin_neq, un_not, un_neg, Option.bind_some, Option.bind_none, Option.map_some, cnd_true, cnd_false, pickV_true, pickV_false, gd_true, gd_false, gdV_true, gdV_false, gdH_true, gdH_false, gdS_true, gdS_false, wt_ff, wt_tt, wt_ft, wt_tf, wt_undef, obH_some', extractV_tuple, nilCheckV_ptr, againK_normal, againK_exit, againK_ret, blockK_normal, blockK_same, blockK_ret, seqK_normal, seqK_exit, seqK_ret, fin_done, if_true', if_false', Bool.not_true, Bool.not_false, idx0, idx1, idx2, idx3, idx4, chk_nil_l, chk_nil_r, done_nm]
    exact ⟨_, rfl, done_ext' i0⟩
  rw [decide_eq_true c1, Bool.true_and]
  rw [decide_eq_true c1] at a1
  by_cases c2 : 1 ≤ m.num
  rotate_left
  · rw [decide_eq_false c2, Bool.false_and]
    simp -implicitDefEqProofs (maxSteps := 1000000) (disch := omega) only [↓c71_1_eq, ↓c71_2_eq, ↓c71_3_eq, ↓c71_4_eq, ↓c71_5_eq, ↓c71_6_eq, ↓d71_0_0, ↓d71_0_1, ↓d71_0_2, ↓d71_0_3, ↓d71_0_4, ↓d71_0_5, ↓d71_0_6, ↓d71_0_7, ↓d71_0_8, ↓d71_0_9, ↓d71_0_10, ↓d71_0_11, ↓d71_0_12, ↓d71_0_13, ↓d71_0_14, ↓d71_0_15, ↓d71_0_16, ↓d71_0_17, ↓d71_0_18, ↓d71_0_19, ↓d71_0_20, ↓d71_0_21, ↓d71_0_22, ↓d71_0_23, ↓d71_0_24, ↓d71_0_25, ↓d71_0_26, ↓d71_0_27, ↓d71_0_28, dcT, dcF, k0, M.l0, M.l1, M.l2, M.l3, M.l4, M.l8, M.l9, faMM0, faMM1, faMM2, faMM3, faMM4, faMM8, faMM9, ldIntV, vld64, ldSetV, ldB, M.ld, a1, nm_mods, List.append_nil, List.nil_append, ↓ret71, ↓cnd_true, ↓cnd_false, ↓Option.bind_some, ↓obH_some', bin_add, bin_sub, bin_mul, bin_lss, bin_leq, bin_gtr, bin_geq, bin_eql, bin_neq, un_not, un_neg, Option.bind_some, Option.bind_none, Option.map_some, cnd_true, cnd_false, pickV_true, pickV_false, gd_true, gd_false, gdV_true, gdV_false, gdH_true, gdH_false, gdS_true, gdS_false, wt_ff, wt_tt, wt_ft, wt_tf, wt_undef, obH_some', extractV_tuple, nilCheckV_ptr, againK_normal, againK_exit, againK_ret, blockK_normal, blockK_same, blockK_ret, seqK_normal, seqK_exit, seqK_ret, fin_done, if_true', if_false', Bool.not_true, Bool.not_false, idx0, idx1, idx2, idx3, idx4, chk_nil_l, chk_nil_r, done_nm]
    exact ⟨_, rfl, done_ext' i0⟩
  rw [decide_eq_true c2, Bool.true_and]
  have d3 : decide (((m.to : Nat) : Int) = 0) = decide (m.to = 0) := by congr 1; apply propext; omega
  by_cases c3 : m.to = 0
  · rw [decide_eq_false (fun x : m.to ≠ 0 => x c3), Bool.false_and]
    rw [decide_eq_true c3] at d3
    simp -implicitDefEqProofs (maxSteps := 1000000) (disch := omega) only [↓c71_1_eq, ↓c71_2_eq, ↓c71_3_eq, ↓c71_4_eq, ↓c71_5_eq, ↓c71_6_eq, ↓d71_0_0, ↓d71_0_1, ↓d71_0_2, ↓d71_0_3, ↓d71_0_4, ↓d71_0_5, ↓d71_0_6, ↓d71_0_7, ↓d71_0_8, ↓d71_0_9, ↓d71_0_10, ↓d71_0_11, ↓d71_0_12, ↓d71_0_13, ↓d71_0_14, ↓d71_0_15, ↓d71_0_16, ↓d71_0_17, ↓d71_0_18, ↓d71_0_19, ↓d71_0_20, ↓d71_0_21, ↓d71_0_22, ↓d71_0_23, ↓d71_0_24, ↓d71_0_25, ↓d71_0_26, ↓d71_0_27, ↓d71_0_28, dcT, dcF, k0, M.l0, M.l1, M.l2, M.l3, M.l4, M.l8, M.l9, faMM0, faMM1, faMM2, faMM3, faMM4, faMM8, faMM9, ldIntV, vld64, ldSetV, ldB, M.ld, a1, d3, nm_mods, List.append_nil, List.nil_append, ↓ret71, ↓cnd_true, ↓cnd_false, ↓Option.bind_some, ↓obH_some', bin_add, bin_sub, bin_mul, bin_lss, bin_leq, bin_gtr, bin_geq, bin_eql, bin_neq, un_not, un_neg, Option.bind_some, Option.bind_none, Option.map_some, cnd_true, cnd_false, pickV_true, pickV_false, gd_true, gd_false, gdV_true, gdV_false, gdH_true, gdH_false, gdS_true, gdS_false, wt_ff, wt_tt, wt_ft, wt_tf, wt_undef, obH_some', extractV_tuple, nilCheckV_ptr, againK_normal, againK_exit, againK_ret, blockK_normal, blockK_same, blockK_ret, seqK_normal, seqK_exit, seqK_ret, fin_done, if_true', if_false', Bool.not_true, Bool.not_false, idx0, idx1, idx2, idx3, idx4, chk_nil_l, chk_nil_r, done_nm]
    exact ⟨_, rfl, done_ext' i0⟩
  rw [decide_eq_true (show m.to ≠ 0 from c3), Bool.true_and]
  rw [decide_eq_false c3] at d3
  by_cases c4 : m.to ≤ 65535
  rotate_left
  · rw [decide_eq_false c4, Bool.false_and]
    rw [decide_eq_false (fun x => c4 ((outB_16 ok.to).1 x))] at a3
    simp -implicitDefEqProofs (maxSteps := 1000000) (disch := omega) only [↓c71_1_eq, ↓c71_2_eq, ↓c71_3_eq, ↓c71_4_eq, ↓c71_5_eq, ↓c71_6_eq, ↓d71_0_0, ↓d71_0_1, ↓d71_0_2, ↓d71_0_3, ↓d71_0_4, ↓d71_0_5, ↓d71_0_6, ↓d71_0_7, ↓d71_0_8, ↓d71_0_9, ↓d71_0_10, ↓d71_0_11, ↓d71_0_12, ↓d71_0_13, ↓d71_0_14, ↓d71_0_15, ↓d71_0_16, ↓d71_0_17, ↓d71_0_18, ↓d71_0_19, ↓d71_0_20, ↓d71_0_21, ↓d71_0_22, ↓d71_0_23, ↓d71_0_24, ↓d71_0_25, ↓d71_0_26, ↓d71_0_27, ↓d71_0_28, dcT, dcF, k0, M.l0, M.l1, M.l2, M.l3, M.l4, M.l8, M.l9, faMM0, faMM1, faMM2, faMM3, faMM4, faMM8, faMM9, ldIntV, vld64, ldSetV, ldB, M.ld, a1, d3, a2, am1, a3, nm_mods, List.append_nil, List.nil_append, ↓ret71, ↓cnd_true, ↓cnd_false, ↓Option.bind_some, ↓obH_some', bin_add, bin_sub, bin_mul, bin_lss, bin_leq, bin_gtr, bin_geq, bin_eql, bin_neq, un_not, un_neg, Option.bind_some, Option.bind_none, Option.map_some, cnd_true, cnd_false, pickV_true, pickV_false, gd_true, gd_false, gdV_true, gdV_false, gdH_true, gdH_false, gdS_true, gdS_false, wt_ff, wt_tt, wt_ft, wt_tf, wt_undef, obH_some', extractV_tuple, nilCheckV_ptr, againK_normal, againK_exit, againK_ret, blockK_normal, blockK_same, blockK_ret, seqK_normal, seqK_exit, seqK_ret, fin_done, if_true', if_false', Bool.not_true, Bool.not_false, idx0, idx1, idx2, idx3, idx4, chk_nil_l, chk_nil_r, done_nm]
    exact ⟨_, rfl, done_ext' i0⟩
  rw [decide_eq_true c4, Bool.true_and]
  rw [decide_eq_true ((outB_16 ok.to).2 c4)] at a3
  cases c5 : hasB m.to m.frm with
  | true =>
    rw [c5] at a4
    rw [Bool.not_true, Bool.false_and]
    simp -implicitDefEqProofs (maxSteps := 1000000) (disch := omega) only [↓c71_1_eq, ↓c71_2_eq, ↓c71_3_eq, ↓c71_4_eq, ↓c71_5_eq, ↓c71_6_eq, ↓d71_0_0, ↓d71_0_1, ↓d71_0_2, ↓d71_0_3, ↓d71_0_4, ↓d71_0_5, ↓d71_0_6, ↓d71_0_7, ↓d71_0_8, ↓d71_0_9, ↓d71_0_10, ↓d71_0_11, ↓d71_0_12, ↓d71_0_13, ↓d71_0_14, ↓d71_0_15, ↓d71_0_16, ↓d71_0_17, ↓d71_0_18, ↓d71_0_19, ↓d71_0_20, ↓d71_0_21, ↓d71_0_22, ↓d71_0_23, ↓d71_0_24, ↓d71_0_25, ↓d71_0_26, ↓d71_0_27, ↓d71_0_28, dcT, dcF, k0, M.l0, M.l1, M.l2, M.l3, M.l4, M.l8, M.l9, faMM0, faMM1, faMM2, faMM3, faMM4, faMM8, faMM9, ldIntV, vld64, ldSetV, ldB, M.ld, a1, d3, a2, am1, a3, a4, nm_mods, List.append_nil, List.nil_append, ↓ret71, ↓cnd_true, ↓cnd_false, ↓Option.bind_some, ↓obH_some', bin_add, bin_sub, bin_mul, bin_lss, bin_leq, bin_gtr, bin_geq, bin_eql, bin_neq, un_not, un_neg, Option.bind_some, Option.bind_none, Option.map_some, cnd_true, cnd_false, pickV_true, pickV_false, gd_true, gd_false, gdV_true, gdV_false, gdH_true, gdH_false, gdS_true, gdS_false, wt_ff, wt_tt, wt_ft, wt_tf, wt_undef, obH_some', extractV_tuple, nilCheckV_ptr, againK_normal, againK_exit, againK_ret, blockK_normal, blockK_same, blockK_ret, seqK_normal, seqK_exit, seqK_ret, fin_done, if_true', if_false', Bool.not_true, Bool.not_false, idx0, idx1, idx2, idx3, idx4, chk_nil_l, chk_nil_r, done_nm]
    exact ⟨_, rfl, done_ext' i0⟩
  | false =>
  rw [c5] at a4
  rw [Bool.not_false, Bool.true_and]
  by_cases c6 : 0 ≤ m.kind ∧ m.kind ≤ 3
  rotate_left
  · rw [decide_eq_false c6, Bool.false_and]
    rw [decide_eq_false c6] at a5
    simp -implicitDefEqProofs (maxSteps := 1000000) (disch := omega) only [↓c71_1_eq, ↓c71_2_eq, ↓c71_3_eq, ↓c71_4_eq, ↓c71_5_eq, ↓c71_6_eq, ↓d71_0_0, ↓d71_0_1, ↓d71_0_2, ↓d71_0_3, ↓d71_0_4, ↓d71_0_5, ↓d71_0_6, ↓d71_0_7, ↓d71_0_8, ↓d71_0_9, ↓d71_0_10, ↓d71_0_11, ↓d71_0_12, ↓d71_0_13, ↓d71_0_14, ↓d71_0_15, ↓d71_0_16, ↓d71_0_17, ↓d71_0_18, ↓d71_0_19, ↓d71_0_20, ↓d71_0_21, ↓d71_0_22, ↓d71_0_23, ↓d71_0_24, ↓d71_0_25, ↓d71_0_26, ↓d71_0_27, ↓d71_0_28, dcT, dcF, k0, M.l0, M.l1, M.l2, M.l3, M.l4, M.l8, M.l9, faMM0, faMM1, faMM2, faMM3, faMM4, faMM8, faMM9, ldIntV, vld64, ldSetV, ldB, M.ld, a1, d3, a2, am1, a3, a4, a5, nm_mods, List.append_nil, List.nil_append, ↓ret71, ↓cnd_true, ↓cnd_false, ↓Option.bind_some, ↓obH_some', bin_add, bin_sub, bin_mul, bin_lss, bin_leq, bin_gtr, bin_geq, bin_eql, bin_neq, un_not, un_neg, Option.bind_some, Option.bind_none, Option.map_some, cnd_true, cnd_false, pickV_true, pickV_false, gd_true, gd_false, gdV_true, gdV_false, gdH_true, gdH_false, gdS_true, gdS_false, wt_ff, wt_tt, wt_ft, wt_tf, wt_undef, obH_some', extractV_tuple, nilCheckV_ptr, againK_normal, againK_exit, againK_ret, blockK_normal, blockK_same, blockK_ret, seqK_normal, seqK_exit, seqK_ret, fin_done, if_true', if_false', Bool.not_true, Bool.not_false, idx0, idx1, idx2, idx3, idx4, chk_nil_l, chk_nil_r, done_nm]
    exact ⟨_, rfl, done_ext' i0⟩
  rw [decide_eq_true c6, Bool.true_and]
  rw [decide_eq_true c6] at a5
  obtain ⟨g1, e6,Ag⟩ := spec_tagged M.b M.s ok
  have M1 := M.ext Ag
  have i1 := i0.trans (Ag.inn i0.len)
  have ls := M1.s.row.len_eq etB.under
  have lb := M1.b.row.len_eq etB.under
  cases c7 : taggedB m with
  | false =>
    rw [c7] at e6
    rw [Bool.false_and]
    simp -implicitDefEqProofs (maxSteps := 1000000) (disch := omega) only [↓c71_1_eq, ↓c71_2_eq, ↓c71_3_eq, ↓c71_4_eq, ↓c71_5_eq, ↓c71_6_eq, ↓d71_0_0, ↓d71_0_1, ↓d71_0_2, ↓d71_0_3, ↓d71_0_4, ↓d71_0_5, ↓d71_0_6, ↓d71_0_7, ↓d71_0_8, ↓d71_0_9, ↓d71_0_10, ↓d71_0_11, ↓d71_0_12, ↓d71_0_13, ↓d71_0_14, ↓d71_0_15, ↓d71_0_16, ↓d71_0_17, ↓d71_0_18, ↓d71_0_19, ↓d71_0_20, ↓d71_0_21, ↓d71_0_22, ↓d71_0_23, ↓d71_0_24, ↓d71_0_25, ↓d71_0_26, ↓d71_0_27, ↓d71_0_28, dcT, dcF, k0, M.l0, M.l1, M.l2, M.l3, M.l4, M.l8, M.l9, faMM0, faMM1, faMM2, faMM3, faMM4, faMM8, faMM9, ldIntV, vld64, ldSetV, ldB, M.ld, a1, d3, a2, am1, a3, a4, a5, e6, nm_mods, List.append_nil, List.nil_append, ↓ret71, ↓cnd_true, ↓cnd_false, ↓Option.bind_some, ↓obH_some', bin_add, bin_sub, bin_mul, bin_lss, bin_leq, bin_gtr, bin_geq, bin_eql, bin_neq, un_not, un_neg, Option.bind_some, Option.bind_none, Option.map_some, cnd_true, cnd_false, pickV_true, pickV_false, gd_true, gd_false, gdV_true, gdV_false, gdH_true, gdH_false, gdS_true, gdS_false, wt_ff, wt_tt, wt_ft, wt_tf, wt_undef, obH_some', extractV_tuple, nilCheckV_ptr, againK_normal, againK_exit, againK_ret, blockK_normal, blockK_same, blockK_ret, seqK_normal, seqK_exit, seqK_ret, fin_done, if_true', if_false', Bool.not_true, Bool.not_false, idx0, idx1, idx2, idx3, idx4, chk_nil_l, chk_nil_r, done_nm]
    exact ⟨_, rfl, done_ext' i1⟩
  | true =>
  rw [c7] at e6
  rw [Bool.true_and]
  by_cases c8 : m.stamp.length ≤ 20000
  rotate_left
  · rw [decide_eq_false c8, Bool.false_and]
    simp -implicitDefEqProofs (maxSteps := 1000000) (disch := omega) only [↓c71_1_eq, ↓c71_2_eq, ↓c71_3_eq, ↓c71_4_eq, ↓c71_5_eq, ↓c71_6_eq, ↓d71_0_0, ↓d71_0_1, ↓d71_0_2, ↓d71_0_3, ↓d71_0_4, ↓d71_0_5, ↓d71_0_6, ↓d71_0_7, ↓d71_0_8, ↓d71_0_9, ↓d71_0_10, ↓d71_0_11, ↓d71_0_12, ↓d71_0_13, ↓d71_0_14, ↓d71_0_15, ↓d71_0_16, ↓d71_0_17, ↓d71_0_18, ↓d71_0_19, ↓d71_0_20, ↓d71_0_21, ↓d71_0_22, ↓d71_0_23, ↓d71_0_24, ↓d71_0_25, ↓d71_0_26, ↓d71_0_27, ↓d71_0_28, dcT, dcF, k0, M.l0, M.l1, M.l2, M.l3, M.l4, M.l8, M.l9, faMM0, faMM1, faMM2, faMM3, faMM4, faMM8, faMM9, ldIntV, vld64, ldSetV, ldB, M.ld, a1, d3, a2, am1, a3, a4, a5, e6, M1.l9, ls, nm_mods, List.append_nil, List.nil_append, ↓ret71, ↓cnd_true, ↓cnd_false, ↓Option.bind_some, ↓obH_some', bin_add, bin_sub, bin_mul, bin_lss, bin_leq, bin_gtr, bin_geq, bin_eql, bin_neq, un_not, un_neg, Option.bind_some, Option.bind_none, Option.map_some, cnd_true, cnd_false, pickV_true, pickV_false, gd_true, gd_false, gdV_true, gdV_false, gdH_true, gdH_false, gdS_true, gdS_false, wt_ff, wt_tt, wt_ft, wt_tf, wt_undef, obH_some', extractV_tuple, nilCheckV_ptr, againK_normal, againK_exit, againK_ret, blockK_normal, blockK_same, blockK_ret, seqK_normal, seqK_exit, seqK_ret, fin_done, if_true', if_false', Bool.not_true, Bool.not_false, idx0, idx1, idx2, idx3, idx4, chk_nil_l, chk_nil_r, done_nm]
    exact ⟨_, rfl, done_ext' i1⟩
  rw [decide_eq_true c8, Bool.true_and]
  by_cases c9 : m.kind = 0
  · rw [if_pos c9]
    have d9 : decide (m.kind = 0) = true := decide_eq_true c9
    by_cases c10 : m.body.length ≤ 256
    · rw [decide_eq_true c10, Bool.true_and]
      simp -implicitDefEqProofs (maxSteps := 1000000) (disch := omega) only [↓c71_1_eq, ↓c71_2_eq, ↓c71_3_eq, ↓c71_4_eq, ↓c71_5_eq, ↓c71_6_eq, ↓d71_0_0, ↓d71_0_1, ↓d71_0_2, ↓d71_0_3, ↓d71_0_4, ↓d71_0_5, ↓d71_0_6, ↓d71_0_7, ↓d71_0_8, ↓d71_0_9, ↓d71_0_10, ↓d71_0_11, ↓d71_0_12, ↓d71_0_13, ↓d71_0_14, ↓d71_0_15, ↓d71_0_16, ↓d71_0_17, ↓d71_0_18, ↓d71_0_19, ↓d71_0_20, ↓d71_0_21, ↓d71_0_22, ↓d71_0_23, ↓d71_0_24, ↓d71_0_25, ↓d71_0_26, ↓d71_0_27, ↓d71_0_28, dcT, dcF, k0, M.l0, M.l1, M.l2, M.l3, M.l4, M.l8, M.l9, faMM0, faMM1, faMM2, faMM3, faMM4, faMM8, faMM9, ldIntV, vld64, ldSetV, ldB, M.ld, a1, d3, a2, am1, a3, a4, a5, e6, M1.l9, ls, M1.l3, d9, M1.l8, lb, M1.l4, nm_mods, List.append_nil, List.nil_append, ↓ret71, ↓cnd_true, ↓cnd_false, ↓Option.bind_some, ↓obH_some', bin_add, bin_sub, bin_mul, bin_lss, bin_leq, bin_gtr, bin_geq, bin_eql, bin_neq, un_not, un_neg, Option.bind_some, Option.bind_none, Option.map_some, cnd_true, cnd_false, pickV_true, pickV_false, gd_true, gd_false, gdV_true, gdV_false, gdH_true, gdH_false, gdS_true, gdS_false, wt_ff, wt_tt, wt_ft, wt_tf, wt_undef, obH_some', extractV_tuple, nilCheckV_ptr, againK_normal, againK_exit, againK_ret, blockK_normal, blockK_same, blockK_ret, seqK_normal, seqK_exit, seqK_ret, fin_done, if_true', if_false', Bool.not_true, Bool.not_false, idx0, idx1, idx2, idx3, idx4, chk_nil_l, chk_nil_r, done_nm]
      exact ⟨_, rfl, done_ext' i1⟩
    · rw [decide_eq_false c10, Bool.false_and]
      simp -implicitDefEqProofs (maxSteps := 1000000) (disch := omega) only [↓c71_1_eq, ↓c71_2_eq, ↓c71_3_eq, ↓c71_4_eq, ↓c71_5_eq, ↓c71_6_eq, ↓d71_0_0, ↓d71_0_1, ↓d71_0_2, ↓d71_0_3, ↓d71_0_4, ↓d71_0_5, ↓d71_0_6, ↓d71_0_7, ↓d71_0_8, ↓d71_0_9, ↓d71_0_10, ↓d71_0_11, ↓d71_0_12, ↓d71_0_13, ↓d71_0_14, ↓d71_0_15, ↓d71_0_16, ↓d71_0_17, ↓d71_0_18, ↓d71_0_19, ↓d71_0_20, ↓d71_0_21, ↓d71_0_22, ↓d71_0_23, ↓d71_0_24, ↓d71_0_25, ↓d71_0_26, ↓d71_0_27, ↓d71_0_28, dcT, dcF, k0, M.l0, M.l1, M.l2, M.l3, M.l4, M.l8, M.l9, faMM0, faMM1, faMM2, faMM3, faMM4, faMM8, faMM9, ldIntV, vld64, ldSetV, ldB, M.ld, a1, d3, a2, am1, a3, a4, a5, e6, M1.l9, ls, M1.l3, d9, M1.l8, lb, M1.l4, nm_mods, List.append_nil, List.nil_append, ↓ret71, ↓cnd_true, ↓cnd_false, ↓Option.bind_some, ↓obH_some', bin_add, bin_sub, bin_mul, bin_lss, bin_leq, bin_gtr, bin_geq, bin_eql, bin_neq, un_not, un_neg, Option.bind_some, Option.bind_none, Option.map_some, cnd_true, cnd_false, pickV_true, pickV_false, gd_true, gd_false, gdV_true, gdV_false, gdH_true, gdH_false, gdS_true, gdS_false, wt_ff, wt_tt, wt_ft, wt_tf, wt_undef, obH_some', extractV_tuple, nilCheckV_ptr, againK_normal, againK_exit, againK_ret, blockK_normal, blockK_same, blockK_ret, seqK_normal, seqK_exit, seqK_ret, fin_done, if_true', if_false', Bool.not_true, Bool.not_false, idx0, idx1, idx2, idx3, idx4, chk_nil_l, chk_nil_r, done_nm]
      exact ⟨_, rfl, done_ext' i1⟩
  · rw [if_neg c9]
    have d9 : decide (m.kind = 0) = false := decide_eq_false c9
    have d10 : decide (((m.body.length : Nat) : Int) = 0) = decide (m.body.length = 0) := by congr 1; apply propext; omega
    by_cases c10 : m.body.length = 0
    · rw [decide_eq_true c10] at d10 ⊢
      rw [Bool.true_and]
      simp -implicitDefEqProofs (maxSteps := 1000000) (disch := omega) only [↓c71_1_eq, ↓c71_2_eq, ↓c71_3_eq, ↓c71_4_eq, ↓c71_5_eq, ↓c71_6_eq, ↓d71_0_0, ↓d71_0_1, ↓d71_0_2, ↓d71_0_3, ↓d71_0_4, ↓d71_0_5, ↓d71_0_6, ↓d71_0_7, ↓d71_0_8, ↓d71_0_9, ↓d71_0_10, ↓d71_0_11, ↓d71_0_12, ↓d71_0_13, ↓d71_0_14, ↓d71_0_15, ↓d71_0_16, ↓d71_0_17, ↓d71_0_18, ↓d71_0_19, ↓d71_0_20, ↓d71_0_21, ↓d71_0_22, ↓d71_0_23, ↓d71_0_24, ↓d71_0_25, ↓d71_0_26, ↓d71_0_27, ↓d71_0_28, dcT, dcF, k0, M.l0, M.l1, M.l2, M.l3, M.l4, M.l8, M.l9, faMM0, faMM1, faMM2, faMM3, faMM4, faMM8, faMM9, ldIntV, vld64, ldSetV, ldB, M.ld, a1, d3, a2, am1, a3, a4, a5, e6, M1.l9, ls, M1.l3, d9, M1.l8, lb, d10, M1.l4, a7, nm_mods, List.append_nil, List.nil_append, ↓ret71, ↓cnd_true, ↓cnd_false, ↓Option.bind_some, ↓obH_some', bin_add, bin_sub, bin_mul, bin_lss, bin_leq, bin_gtr, bin_geq, bin_eql, bin_neq, un_not, un_neg, Option.bind_some, Option.bind_none, Option.map_some, cnd_true, cnd_false, pickV_true, pickV_false, gd_true, gd_false, gdV_true, gdV_false, gdH_true, gdH_false, gdS_true, gdS_false, wt_ff, wt_tt, wt_ft, wt_tf, wt_undef, obH_some', extractV_tuple, nilCheckV_ptr, againK_normal, againK_exit, againK_ret, blockK_normal, blockK_same, blockK_ret, seqK_normal, seqK_exit, seqK_ret, fin_done, if_true', if_false', Bool.not_true, Bool.not_false, idx0, idx1, idx2, idx3, idx4, chk_nil_l, chk_nil_r, done_nm]
      exact ⟨_, rfl, done_ext' i1⟩
    · rw [decide_eq_false c10] at d10 ⊢
      rw [Bool.false_and]
      simp -implicitDefEqProofs (maxSteps := 1000000) (disch := omega) only [↓c71_1_eq, ↓c71_2_eq, ↓c71_3_eq, ↓c71_4_eq, ↓c71_5_eq, ↓c71_6_eq, ↓d71_0_0, ↓d71_0_1, ↓d71_0_2, ↓d71_0_3, ↓d71_0_4, ↓d71_0_5, ↓d71_0_6, ↓d71_0_7, ↓d71_0_8, ↓d71_0_9, ↓d71_0_10, ↓d71_0_11, ↓d71_0_12, ↓d71_0_13, ↓d71_0_14, ↓d71_0_15, ↓d71_0_16, ↓d71_0_17, ↓d71_0_18, ↓d71_0_19, ↓d71_0_20, ↓d71_0_21, ↓d71_0_22, ↓d71_0_23, ↓d71_0_24, ↓d71_0_25, ↓d71_0_26, ↓d71_0_27, ↓d71_0_28, dcT, dcF, k0, M.l0, M.l1, M.l2, M.l3, M.l4, M.l8, M.l9, faMM0, faMM1, faMM2, faMM3, faMM4, faMM8, faMM9, ldIntV, vld64, ldSetV, ldB, M.ld, a1, d3, a2, am1, a3, a4, a5, e6, M1.l9, ls, M1.l3, d9, M1.l8, lb, d10, nm_mods, List.append_nil, List.nil_append, ↓ret71, ↓cnd_true, ↓cnd_false, ↓Option.bind_some, ↓obH_some', bin_add, bin_sub, bin_mul, bin_lss, bin_leq, bin_gtr, bin_geq, bin_eql, bin_neq, un_not, un_neg, Option.bind_some, Option.bind_none, Option.map_some, cnd_true, cnd_false, pickV_true, pickV_false, gd_true, gd_false, gdV_true, gdV_false, gdH_true, gdH_false, gdS_true, gdS_false, wt_ff, wt_tt, wt_ft, wt_tf, wt_undef, obH_some', extractV_tuple, nilCheckV_ptr, againK_normal, againK_exit, againK_ret, blockK_normal, blockK_same, blockK_ret, seqK_normal, seqK_exit, seqK_ret, fin_done, if_true', if_false', Bool.not_true, Bool.not_false, idx0, idx1, idx2, idx3, idx4, chk_nil_l, chk_nil_r, done_nm]
      exact ⟨_, rfl, done_ext' i1⟩
end Go.Am
namespace Go.Am
open Go.Proofs
set_option maxRecDepth 100000
set_option linter.all false
attribute [local congr] obind_congr obH_congr cnd_congr chk_congr retK_congr codeK_congr
def encV (m : MT) : List UInt8 := if m.kind = 1 ∨ m.kind = 3 then beT (keyF m.val) 8 ++ putL (m.wr + 1).toNat ++ putL m.tag else []
def encB (m : MT) : List UInt8 := if m.kind = 0 then putL m.body.length ++ m.body else putL m.var.toNat
def encH (m : MT) : List UInt8 := putL m.frm.toNat ++ putL m.num ++ putL m.to ++ putL m.kind.toNat
def encM (m : MT) : List UInt8 := encH m ++ encB m ++ encV m ++ (putL m.stamp.length ++ m.stamp)
def putM (m : MT) : List UInt8 := if goodMsg m = true then encM m else []
structure GoodF (m : MT) : Prop where
  f0 : 0 ≤ m.frm
  f1 : m.frm ≤ 15
  num : 1 ≤ m.num
  to0 : m.to ≠ 0
  to : m.to ≤ 65535
  nh : hasB m.to m.frm = false
  k0 : 0 ≤ m.kind
  k3 : m.kind ≤ 3
  tg : taggedB m = true
  st : m.stamp.length ≤ 20000
  k : if m.kind = 0 then m.body.length ≤ 256 ∧ m.var = 0 else m.body.length = 0 ∧ 0 ≤ m.var ∧ m.var ≤ 15
theorem goodF {m : MT} : goodMsg m = true ↔ GoodF m := by
  unfold goodMsg
  constructor
  · intro h
    simp only [Bool.and_eq_true, decide_eq_true_eq, Bool.not_eq_true'] at h
    obtain ⟨h1, h2, h3, h4, h5, h6, h7, h8, h9⟩ := h
    refine ⟨h1.1, h1.2, h2, h3, h4, h5, h6.1, h6.2, h7, h8, ?_⟩
    split at h9
    · rename_i c; rw [if_pos c]; simpa using h9
    · rename_i c; rw [if_neg c]; simpa using h9
  · intro ⟨f0, f1, num, to0, to, nh, k0, k3, tg, st, k⟩
    simp only [Bool.and_eq_true, decide_eq_true_eq, Bool.not_eq_true']
    refine ⟨⟨f0, f1⟩, num, to0, to, nh, ⟨k0, k3⟩, tg, st, ?_⟩
    split
    · rename_i c; rw [if_pos c] at k; simpa using k
    · rename_i c; rw [if_neg c] at k; simpa using k
theorem GoodF.wr {m : MT} (g : GoodF m) : -1 ≤ m.wr ∧ m.wr ≤ 15 := by
  have := g.tg
  unfold taggedB at this
  have h0 := g.f0
  have h1 := g.f1
  split at this
  · simp only [Bool.and_eq_true, decide_eq_true_eq] at this; omega
  · split at this
    · simp only [Bool.and_eq_true, decide_eq_true_eq] at this; exact this.1
    · simp only [Bool.and_eq_true, decide_eq_true_eq] at this; omega
theorem GoodF.body {m : MT} (g : GoodF m) : m.body.length ≤ 256 := by
  have := g.k
  split at this <;> omega
variable {h0 h h' : Heap} {p1 p : Nat} {m : MT} {bv sv : Value} {bs : List UInt8}
theorem MC.mod {T : TypeId} {N : Nat} (x : MC T h p m bv sv) {S : Nat → Prop} (e : HMod S h h') (h1 : ¬ S p) (lb : Lo bv N) (ls : Lo sv N) (hS : ∀ b, b < N → ¬ S b) : MC T h' p m bv sv :=
  ⟨x.c.mod e h1, x.b.mod e fun b hb => hS b (lb b hb), x.s.mod e fun b hb => hS b (ls b hb)⟩
structure PS (h0 h : Heap) (p1 p : Nat) (m : MT) (bv sv : Value) (bs : List UInt8) : Prop where
  M : MC 104 h p1 m bv sv
  w : Wr h0.blks.length h p bs
  hin : In h0.blks.length No (nm h0) h
  lb : Lo bv h0.blks.length
  ls : Lo sv h0.blks.length
  h1 : h0.blks.length ≤ p1
  h2 : p1 < p
  own : ∀ v, Wrv 146 h p v bs → blockOf v ≠ some p1
theorem PS.next (x : PS h0 h p1 p m bv sv bs) {bs' : List UInt8} (e : HMod (Just p) h h') (w : Wr h.blks.length h' p bs') : PS h0 h' p1 p m bv sv bs' := by
  have hl : h0.blks.length ≤ h.blks.length := x.hin.len
  have := x.h1
  have := x.h2
  have lt1 := x.M.c.lt
  refine ⟨x.M.mod e (fun e => by have : p1 = p := e; omega) x.lb x.ls fun b hb e => (by have : b = p := e; omega), w.up hl, x.hin.trans (e.inn hl fun b hb e => by have : b = p := e; omega), x.lb, x.ls, x.h1, x.h2, fun v wv hv => ?_⟩
  obtain ⟨v', w', hv'⟩ := w.v
  obtain rfl : v = v' := by
    have a := wv.1; have b := w'.1
    unfold Cells at a b
    rw [a] at b
    simpa using b
  have := hv' _ hv
  omega
theorem PS.num (x : PS h0 h p1 p m bv sv bs) (n : Nat) (hn : n < 2 ^ 64) (hl : bs.length < 2 ^ 39) : ∃ h', evC Try.prog 43 #[.pointer (some ⟨p, 0, none⟩), .int .u64 n] h = some (.tuple #[], h') ∧ PS h0 h' p1 p m bv sv (bs ++ putL n) := by
  obtain ⟨h', e, k, w⟩ := spec_WNum x.w x.hin.len n hn hl
  exact ⟨h', e, x.next k w⟩
theorem PS.set (x : PS h0 h p1 p m bv sv bs) (n : Nat) (hn : n < 2 ^ 64) (hl : bs.length < 2 ^ 39) : ∃ h', evC Try.prog 59 #[.pointer (some ⟨p, 0, none⟩), .int .u64 n] h = some (.tuple #[], h') ∧ PS h0 h' p1 p m bv sv (bs ++ putL n) := by
  obtain ⟨h', e, k, w⟩ := spec_WSet x.w x.hin.len n hn hl
  exact ⟨h', e, x.next k w⟩
theorem PS.bytes (x : PS h0 h p1 p m bv sv bs) {y : Value} {cs : List UInt8} (sy : SB h y cs) (ly : Lo y h0.blks.length) (hl : bs.length < 2 ^ 39) (hl2 : cs.length < 2 ^ 39) : ∃ h', evC Try.prog 61 #[.pointer (some ⟨p, 0, none⟩), y] h = some (.tuple #[], h') ∧ PS h0 h' p1 p m bv sv (bs ++ putL cs.length ++ cs) := by
  obtain ⟨h', e, k, w⟩ := spec_WBytes x.w x.hin.len sy (fun hy => by have := ly _ hy; have := x.h1; have := x.h2; omega) hl hl2
  exact ⟨h', e, x.next k w⟩
theorem PS.float (x : PS h0 h p1 p m bv sv bs) (n : Nat) (hn : n < 2 ^ 64) (hl : bs.length < 2 ^ 39) : ∃ h', evC Try.prog 57 #[.pointer (some ⟨p, 0, none⟩), .float .f64 n] h = some (.tuple #[], h') ∧ PS h0 h' p1 p m bv sv (bs ++ beT (keyF n) 8) := by
  obtain ⟨v, wv, hv⟩ := x.w.v
  obtain ⟨v', h', e, k, w, hn'⟩ := spec_WFloat wv n hn hl
  have hl0 : h0.blks.length ≤ h.blks.length := x.hin.len
  have := x.h1
  have := x.h2
  have lt1 := x.M.c.lt
  have tS : ∀ b, Turn p v b → h0.blks.length ≤ b ∧ b ≠ p1 := fun b hb => by
    rcases hb with hb | hb
    · have : b = p := hb
      omega
    · exact ⟨hv b hb, fun e => x.own v wv (by rw [hb, e])⟩
  refine ⟨h', e, x.M.mod k (fun e => (tS _ e).2 rfl) x.lb x.ls fun b hb e => (by have := (tS _ e).1; omega), w.w fun b hb => (by have := hn' b hb; omega), x.hin.trans (k.inn hl0 fun b hb e => by have := (tS _ e).1; omega), x.lb, x.ls, x.h1, x.h2, fun u wu hu => ?_⟩
  obtain rfl : u = v' := by
    have a := wu.1; have b := w.1
    unfold Cells at a b
    rw [a] at b
    simpa using b
  have := hn' _ hu
  omega
theorem put2 (x : PS h0 h p1 p m bv sv bs) (hl : bs.length < 2 ^ 38) (hs : m.stamp.length < 2 ^ 38) : ∀ (Aa Ac Ae Af Ag Ah Ai Aj Ak Al An Ao Ap Aq Ar As At Au Av Aw Ax Ay Az Ba Bb Bc Bd Be Bf Bg Bh Bi Bj Bk Bl Bm Bn Bo Bp Bq Br Bs Bt Bu Bv Bw Bx By Bz Ca Cb Cc Cd Ce Cf Cg Ch Ci Cj : Value),
    ∃ a c h', codeK Try.prog (evC Try.prog) loopL c66_2 ⟨#[Aa, .pointer (some ⟨p1, 0, none⟩),Ac, .pointer (some ⟨p, 0, none⟩),Ae,Af,Ag,Ah,Ai,Aj,Ak,Al,An,Ao,Ap,Aq,Ar,As,At,Au,Av,Aw,Ax,Ay,Az,Ba,Bb,Bc,Bd,Be,Bf,Bg,Bh,Bi,Bj,Bk,Bl,Bm,Bn,Bo,Bp,Bq,Br,Bs,Bt,Bu,Bv,Bw,Bx,By,Bz,Ca,Cb,Cc,Cd,Ce,Cf,Cg,Ch,Ci,Cj], h⟩ (retK Try.f66 Try.prog h0) =
      some (.slice a (bs ++ (putL m.stamp.length ++ m.stamp)).length c, h') ∧ HExt h0 h' ∧ AB h0.blks.length h' (.slice a (bs ++ (putL m.stamp.length ++ m.stamp)).length c) (bs ++ (putL m.stamp.length ++ m.stamp)) := by
  intro Aa Ac Ae Af Ag Ah Ai Aj Ak Al An Ao Ap Aq Ar As At Au Av Aw Ax Ay Az Ba Bb Bc Bd Be Bf Bg Bh Bi Bj Bk Bl Bm Bn Bo Bp Bq Br Bs Bt Bu Bv Bw Bx By Bz Ca Cb Cc Cd Ce Cf Cg Ch Ci Cj
  rw [c66_2_eq]
  obtain ⟨h2, e2,Ac⟩ := x.bytes x.M.s x.ls (by omega) (by omega)
  have hz := putL_len m.stamp.length
  have hs' := sizeN_le m.stamp.length 10 (by omega) (by omega)
  obtain ⟨a, c, h3, e3, k3, s3⟩ := spec_WDone Ac.w (by simp; omega)
  rw [List.append_assoc] at e3 s3
  simp -implicitDefEqProofs (disch := omega) only [faMM9, ldB, x.M.l9, e2, e3, ↓ret66, ↓cnd_true, ↓cnd_false, ↓Option.bind_some, ↓obH_some', bin_add, bin_sub, bin_mul, bin_lss, bin_leq, bin_gtr, bin_geq, bin_eql, bin_neq, un_not, un_neg, Option.bind_some, Option.bind_none, Option.map_some, cnd_true, cnd_false, pickV_true, pickV_false, gd_true, gd_false, gdV_true, gdV_false, gdH_true, gdH_false, gdS_true, gdS_false, wt_ff, wt_tt, wt_ft, wt_tf, wt_undef, obH_some', extractV_tuple, nilCheckV_ptr, againK_normal, againK_exit, againK_ret, blockK_normal, blockK_same, blockK_ret, seqK_normal, seqK_exit, seqK_ret, fin_done, if_true', if_false', Bool.not_true, Bool.not_false, idx0, idx1, idx2, idx3, idx4, chk_nil_l, chk_nil_r, done_nm]
  exact ⟨_, _, _, rfl, done_ext' (Ac.hin.trans (k3.inn Ac.hin.len)), (s3.up Ac.hin.len).done⟩
theorem encV_len (m : MT) (ok : MTok m) (g : GoodF m) : (encV m).length ≤ 40 := by
  unfold encV
  split
  · have h1 := sizeN_le (m.wr + 1).toNat 10 (by have := g.wr; omega) (by have := g.wr; omega)
    have h2 := sizeN_le m.tag 10 (by have := ok.tag; omega) (by have := ok.tag; omega)
    have h3 := putL_len (m.wr + 1).toNat
    have h4 := putL_len m.tag
    simp only [List.length_append, beT_len]; omega
  · simp
theorem put1 (x : PS h0 h p1 p m bv sv bs) (ok : MTok m) (g : GoodF m) (hl : bs.length < 2 ^ 37) : ∀ (Aa Ac Ae Af Ag Ah Ai Aj Ak Al An Ao Ap Aq Ar As At Au Av Aw Ax Ay Az Ba Bb Bc Bd Be Bf Bg Bh Bi Bj Bk Bl Bm Bn Bo Bp Bq Br Bs Bt Bu Bv Bw Bx By Bz Ca Cb Cc Cd Ce Cf Cg Ch Ci Cj : Value),
    ∃ a c h', codeK Try.prog (evC Try.prog) loopL c66_1 ⟨#[Aa, .pointer (some ⟨p1, 0, none⟩),Ac, .pointer (some ⟨p, 0, none⟩),Ae,Af,Ag,Ah,Ai,Aj,Ak,Al,An,Ao,Ap,Aq,Ar,As,At,Au,Av,Aw,Ax,Ay,Az,Ba,Bb,Bc,Bd,Be,Bf,Bg,Bh,Bi,Bj,Bk,Bl,Bm,Bn,Bo,Bp,Bq,Br,Bs,Bt,Bu,Bv,Bw,Bx,By,Bz,Ca,Cb,Cc,Cd,Ce,Cf,Cg,Ch,Ci,Cj], h⟩ (retK Try.f66 Try.prog h0) =
      some (.slice a (bs ++ encV m ++ (putL m.stamp.length ++ m.stamp)).length c, h') ∧ HExt h0 h' ∧ AB h0.blks.length h' (.slice a (bs ++ encV m ++ (putL m.stamp.length ++ m.stamp)).length c) (bs ++ encV m ++ (putL m.stamp.length ++ m.stamp)) := by
  intro Aa Ac Ae Af Ag Ah Ai Aj Ak Al An Ao Ap Aq Ar As At Au Av Aw Ax Ay Az Ba Bb Bc Bd Be Bf Bg Bh Bi Bj Bk Bl Bm Bn Bo Bp Bq Br Bs Bt Bu Bv Bw Bx By Bz Ca Cb Cc Cd Ce Cf Cg Ch Ci Cj
  rw [c66_1_eq]
  have ev := fun h => spec_valued m.kind h
  have hel := encV_len m ok g
  have hw := g.wr
  by_cases c : m.kind = 1 ∨ m.kind = 3
  · rw [decide_eq_true c] at ev
    unfold encV at hel ⊢
    rw [if_pos c] at hel ⊢
    obtain ⟨h2, e2,Ac⟩ := x.float m.val ok.val (by omega)
    have l2 : (bs ++ beT (keyF m.val) 8).length < 2 ^ 39 := by rw [List.length_append, beT_len]; omega
    have hwr : IntKind.wrap .i64 (m.wr + 1) = (((m.wr + 1).toNat : Nat) : Int) := by rw [wrap_i64] <;> omega
    have cv := fun h => cvI64 (((m.wr + 1).toNat : Nat) : Int) h (by omega) (by omega)
    obtain ⟨h3, e3,Ad⟩ := Ac.num (m.wr + 1).toNat (by omega) l2
    have h1 := sizeN_le (m.wr + 1).toNat 10 (by omega) (by omega)
    have h4 := putL_len (m.wr + 1).toNat
    obtain ⟨h5, e5,Af⟩ := Ad.num m.tag ok.tag (by simp only [List.length_append] at hel ⊢; omega)
    have main := put2 Af (by simp only [List.length_append] at hel ⊢; omega) ok.stamp
    rw [show bs ++ beT (keyF m.val) 8 ++ putL (m.wr + 1).toNat ++ putL m.tag = bs ++ (beT (keyF m.val) 8 ++ putL (m.wr + 1).toNat ++ putL m.tag) by simp] at main
    simp -implicitDefEqProofs (disch := omega) only [faMM3, faMM5, faMM6, faMM7, ldIntV, ldFlV, vld64, x.M.l3, ev, x.M.l5, e2,Ac.M.l6, hwr, cv, e3,Ad.M.l7, e5, ↓cnd_true, ↓cnd_false, ↓Option.bind_some, ↓obH_some', bin_add, bin_sub, bin_mul, bin_lss, bin_leq, bin_gtr, bin_geq, bin_eql, bin_neq, un_not, un_neg, Option.bind_some, Option.bind_none, Option.map_some, cnd_true, cnd_false, pickV_true, pickV_false, gd_true, gd_false, gdV_true, gdV_false, gdH_true, gdH_false, gdS_true, gdS_false, wt_ff, wt_tt, wt_ft, wt_tf, wt_undef, obH_some', extractV_tuple, nilCheckV_ptr, againK_normal, againK_exit, againK_ret, blockK_normal, blockK_same, blockK_ret, seqK_normal, seqK_exit, seqK_ret, fin_done, if_true', if_false', Bool.not_true, Bool.not_false, idx0, idx1, idx2, idx3, idx4, chk_nil_l, chk_nil_r, done_nm]
    exact main _ _ _ _ _ _ _ _ _ _ _ _ _ _ _ _ _ _ _ _ _ _ _ _ _ _ _ _ _ _ _ _ _ _ _ _ _ _ _ _ _ _ _ _ _ _ _ _ _ _ _ _ _ _ _ _ _ _ _
  · rw [decide_eq_false c] at ev
    unfold encV
    rw [if_neg c, List.append_nil]
    have main := put2 x (by omega) ok.stamp
    simp -implicitDefEqProofs (disch := omega) only [faMM3, ldIntV, x.M.l3, ev, ↓cnd_true, ↓cnd_false, ↓Option.bind_some, ↓obH_some', bin_add, bin_sub, bin_mul, bin_lss, bin_leq, bin_gtr, bin_geq, bin_eql, bin_neq, un_not, un_neg, Option.bind_some, Option.bind_none, Option.map_some, cnd_true, cnd_false, pickV_true, pickV_false, gd_true, gd_false, gdV_true, gdV_false, gdH_true, gdH_false, gdS_true, gdS_false, wt_ff, wt_tt, wt_ft, wt_tf, wt_undef, obH_some', extractV_tuple, nilCheckV_ptr, againK_normal, againK_exit, againK_ret, blockK_normal, blockK_same, blockK_ret, seqK_normal, seqK_exit, seqK_ret, fin_done, if_true', if_false', Bool.not_true, Bool.not_false, idx0, idx1, idx2, idx3, idx4, chk_nil_l, chk_nil_r, done_nm]
    exact main _ _ _ _ _ _ _ _ _ _ _ _ _ _ _ _ _ _ _ _ _ _ _ _ _ _ _ _ _ _ _ _ _ _ _ _ _ _ _ _ _ _ _ _ _ _ _ _ _ _ _ _ _ _ _ _ _ _ _
theorem spec_PutM (hb : SB h bv m.body) (hs : SB h sv m.stamp) (ok : MTok m) :
    ∃ a c h', evC Try.prog 66 #[msgA m bv sv] h = some (.slice a (putM m).length c, h') ∧ HExt h h' ∧ AB h.blks.length h' (.slice a (putM m).length c) (putM m) := by
  rw [call66, c66_0_eq]
  have M := MC.new (h := nm h) 104 hb.nm hs.nm
  have i0 : In h.blks.length No (nm h) _ := In.new (by simp) (.cells (msgL m bv sv)) 104
  have k0 := bxMM (.int .i64 m.frm) (.int .u64 m.num) (.int .u64 m.to) (.int .i64 m.kind) (.int .i64 m.var) (.float .f64 m.val) (.int .i64 m.wr) (.int .u64 m.tag) bv sv (nm h)
  have bl : (nm h).blks.length = h.blks.length := rfl
  rw [bl] at M k0
  generalize (nm h).new (.cells (msgL m bv sv)) 104 = g0 at *
  obtain ⟨g1, e1,Ab⟩ := spec_GoodM M.b M.s ok
  have M1 := M.ext Ab
  have i1 := i0.trans (Ab.inn i0.len)
  unfold putM
  cases hg : goodMsg m with
  | false =>
    rw [hg] at e1
    simp -implicitDefEqProofs (disch := omega) only [k0, M.ld, e1, ↓ret66, ↓cnd_true, ↓cnd_false, ↓Option.bind_some, ↓obH_some', bin_add, bin_sub, bin_mul, bin_lss, bin_leq, bin_gtr, bin_geq, bin_eql, bin_neq, un_not, un_neg, Option.bind_some, Option.bind_none, Option.map_some, cnd_true, cnd_false, pickV_true, pickV_false, gd_true, gd_false, gdV_true, gdV_false, gdH_true, gdH_false, gdS_true, gdS_false, wt_ff, wt_tt, wt_ft, wt_tf, wt_undef, obH_some', extractV_tuple, nilCheckV_ptr, againK_normal, againK_exit, againK_ret, blockK_normal, blockK_same, blockK_ret, seqK_normal, seqK_exit, seqK_ret, fin_done, if_true', if_false', Bool.not_true, Bool.not_false, idx0, idx1, idx2, idx3, idx4, chk_nil_l, chk_nil_r, done_nm]
    exact ⟨_, _, _, rfl, done_ext' i1, .nil⟩
  | true =>
    rw [hg] at e1
    have g := goodF.1 hg
    obtain ⟨g2, e2,Ac, w2, l2⟩ := spec_NewWriter g1
    have lM := M1.c.lt
    have P2 : PS h g2 h.blks.length g1.blks.length m bv sv [] := ⟨M1.ext Ac, w2.up i1.len, i1.trans (Ac.inn i1.len), hb.lo, hs.lo, Nat.le_refl _, lM, fun v wv hv => by
      obtain ⟨v', w', hv'⟩ := w2.v
      obtain rfl : v = v' := by
        have a := wv.1; have b := w'.1
        unfold Cells at a b
        rw [a] at b
        simpa using b
      have := hv' _ hv
      omega⟩
    have f0 := g.f0
    have f1 := g.f1
    have q0 := g.k0
    have q3 := g.k3
    have cf : ∀ h, convV Try.prog 3 46 (.int .i64 m.frm) h = some (.int .u64 ((m.frm.toNat : Nat) : Int), h) := fun h => by rw [show ((m.frm.toNat : Nat) : Int) = m.frm by omega]; exact cvI64 m.frm h (by omega) (by omega)
    have ck : ∀ h, convV Try.prog 3 46 (.int .i64 m.kind) h = some (.int .u64 ((m.kind.toNat : Nat) : Int), h) := fun h => by rw [show ((m.kind.toNat : Nat) : Int) = m.kind by omega]; exact cvI64 m.kind h (by omega) (by omega)
    have s1 := sizeN_le m.frm.toNat 10 (by omega) (by omega)
    have s2 := sizeN_le m.num 10 (by have := ok.num; omega) (by have := ok.num; omega)
    have s3 := sizeN_le m.to 10 (by have := ok.to; omega) (by have := ok.to; omega)
    have s4 := sizeN_le m.kind.toNat 10 (by omega) (by omega)
    have p1 := putL_len m.frm.toNat
    have p2 := putL_len m.num
    have p3 := putL_len m.to
    have p4 := putL_len m.kind.toNat
    obtain ⟨g3, e3, P3⟩ := P2.num m.frm.toNat (by omega) (by simp)
    rw [List.nil_append] at P3
    obtain ⟨g4, e4, P4⟩ := P3.num m.num ok.num (by omega)
    obtain ⟨g5, e5, P5⟩ := P4.set m.to ok.to (by rw [List.length_append]; omega)
    obtain ⟨g6, e6, P6⟩ := P5.num m.kind.toNat (by omega) (by simp only [List.length_append]; omega)
    rw [show putL m.frm.toNat ++ putL m.num ++ putL m.to ++ putL m.kind.toNat = encH m from rfl] at P6
    have lH : (encH m).length ≤ 40 := by unfold encH; simp only [List.length_append]; omega
    unfold encM encB
    by_cases c : m.kind = 0
    · have d : decide (m.kind = 0) = true := decide_eq_true c
      have gb := g.body
      obtain ⟨g7, e7, P7⟩ := P6.bytes P6.M.b P6.lb (by omega) (by omega)
      have s5 := sizeN_le m.body.length 10 (by omega) (by omega)
      have p5 := putL_len m.body.length
      have main := put1 P7 ok g (by simp only [List.length_append]; omega)
      rw [List.append_assoc (encH m)] at main
      simp only [if_pos c, if_true]
      simp -implicitDefEqProofs (disch := omega) only [k0, M.ld, e1, e2, faMM0, faMM1, faMM2, faMM3, faMM8, ldIntV, vld64, ldSetV, ldB, P2.M.l0, cf, e3, P3.M.l1, e4, P4.M.l2, e5, P5.M.l3, ck, e6, P6.M.l3, d, P6.M.l8, e7, ↓cnd_true, ↓cnd_false, ↓Option.bind_some, ↓obH_some', bin_add, bin_sub, bin_mul, bin_lss, bin_leq, bin_gtr, bin_geq, bin_eql, bin_neq, un_not, un_neg, Option.bind_some, Option.bind_none, Option.map_some, cnd_true, cnd_false, pickV_true, pickV_false, gd_true, gd_false, gdV_true, gdV_false, gdH_true, gdH_false, gdS_true, gdS_false, wt_ff, wt_tt, wt_ft, wt_tf, wt_undef, obH_some', extractV_tuple, nilCheckV_ptr, againK_normal, againK_exit, againK_ret, blockK_normal, blockK_same, blockK_ret, seqK_normal, seqK_exit, seqK_ret, fin_done, if_true', if_false', Bool.not_true, Bool.not_false, idx0, idx1, idx2, idx3, idx4, chk_nil_l, chk_nil_r, done_nm]
      exact main _ _ _ _ _ _ _ _ _ _ _ _ _ _ _ _ _ _ _ _ _ _ _ _ _ _ _ _ _ _ _ _ _ _ _ _ _ _ _ _ _ _ _ _ _ _ _ _ _ _ _ _ _ _ _ _ _ _ _
    · have d : decide (m.kind = 0) = false := decide_eq_false c
      have gk := g.k
      rw [if_neg c] at gk
      have cv : ∀ h, convV Try.prog 3 46 (.int .i64 m.var) h = some (.int .u64 ((m.var.toNat : Nat) : Int), h) := fun h => by rw [show ((m.var.toNat : Nat) : Int) = m.var by omega]; exact cvI64 m.var h (by omega) (by omega)
      obtain ⟨g7, e7, P7⟩ := P6.num m.var.toNat (by omega) (by omega)
      have s5 := sizeN_le m.var.toNat 10 (by omega) (by omega)
      have p5 := putL_len m.var.toNat
      have main := put1 P7 ok g (by simp only [List.length_append]; omega)
      simp only [if_neg c, if_true]
      simp -implicitDefEqProofs (disch := omega) only [k0, M.ld, e1, e2, faMM0, faMM1, faMM2, faMM3, faMM4, ldIntV, vld64, ldSetV, ldB, P2.M.l0, cf, e3, P3.M.l1, e4, P4.M.l2, e5, P5.M.l3, ck, e6, P6.M.l3, d, P6.M.l4, cv, e7, ↓cnd_true, ↓cnd_false, ↓Option.bind_some, ↓obH_some', bin_add, bin_sub, bin_mul, bin_lss, bin_leq, bin_gtr, bin_geq, bin_eql, bin_neq, un_not, un_neg, Option.bind_some, Option.bind_none, Option.map_some, cnd_true, cnd_false, pickV_true, pickV_false, gd_true, gd_false, gdV_true, gdV_false, gdH_true, gdH_false, gdS_true, gdS_false, wt_ff, wt_tt, wt_ft, wt_tf, wt_undef, obH_some', extractV_tuple, nilCheckV_ptr, againK_normal, againK_exit, againK_ret, blockK_normal, blockK_same, blockK_ret, seqK_normal, seqK_exit, seqK_ret, fin_done, if_true', if_false', Bool.not_true, Bool.not_false, idx0, idx1, idx2, idx3, idx4, chk_nil_l, chk_nil_r, done_nm]
      exact main _ _ _ _ _ _ _ _ _ _ _ _ _ _ _ _ _ _ _ _ _ _ _ _ _ _ _ _ _ _ _ _ _ _ _ _ _ _ _ _ _ _ _ _ _ _ _ _ _ _ _ _ _ _ _ _ _ _ _
theorem spec_SizeM (hb : SB h bv m.body) (hs : SB h sv m.stamp) (ok : MTok m) :
    ∃ h', evC Try.prog 73 #[msgA m bv sv] h = some (.int .i64 (putM m).length, h') ∧ HExt h h' := by
  rw [call73, c73_0_eq]
  have M := MC.new (h := nm h) 104 hb.nm hs.nm
  have i0 : In h.blks.length No (nm h) _ := In.new (by simp) (.cells (msgL m bv sv)) 104
  have k0 := bxMM (.int .i64 m.frm) (.int .u64 m.num) (.int .u64 m.to) (.int .i64 m.kind) (.int .i64 m.var) (.float .f64 m.val) (.int .i64 m.wr) (.int .u64 m.tag) bv sv (nm h)
  have bl : (nm h).blks.length = h.blks.length := rfl
  rw [bl] at M k0
  generalize (nm h).new (.cells (msgL m bv sv)) 104 = g0 at *
  obtain ⟨a, c, g1, e1,Ab, a1⟩ := spec_PutM M.b M.s ok
  have ln := (a1.sl etB.size).row.len_eq etB.under
  simp -implicitDefEqProofs (disch := omega) only [k0, M.ld, e1, ln, ↓ret73, ↓cnd_true, ↓cnd_false, ↓Option.bind_some, ↓obH_some', bin_add, bin_sub, bin_mul, bin_lss, bin_leq, bin_gtr, bin_geq, bin_eql, bin_neq, un_not, un_neg, Option.bind_some, Option.bind_none, Option.map_some, cnd_true, cnd_false, pickV_true, pickV_false, gd_true, gd_false, gdV_true, gdV_false, gdH_true, gdH_false, gdS_true, gdS_false, wt_ff, wt_tt, wt_ft, wt_tf, wt_undef, obH_some', extractV_tuple, nilCheckV_ptr, againK_normal, againK_exit, againK_ret, blockK_normal, blockK_same, blockK_ret, seqK_normal, seqK_exit, seqK_ret, fin_done, if_true', if_false', Bool.not_true, Bool.not_false, idx0, idx1, idx2, idx3, idx4, chk_nil_l, chk_nil_r, done_nm]
  exact ⟨_, rfl, done_ext' (i0.trans (Ab.inn i0.len))⟩
end Go.Am
namespace Go.Am
open Go.Proofs
set_option maxRecDepth 100000
set_option linter.all false
attribute [local congr] obind_congr obH_congr cnd_congr chk_congr retK_congr codeK_congr
def m00 : MT := ⟨0, 0, 0, 0, 0, 0, 0, 0, [], []⟩
abbrev nilSl : Value := .slice none 0 0
def U64M : Nat := 18446744073709551615
def hdR (bs : List UInt8) : MT × Option (List UInt8) :=
  let a := numP (some bs) 16
  let b := numP a.2 U64M
  let c := setP b.2 65535
  let d := numP c.2 3
  (⟨a.1, b.1, c.1, d.1, 0, 0, 0, 0, [], []⟩, d.2)
def bodyR (x : MT × Option (List UInt8)) : MT × Option (List UInt8) :=
  if x.1.kind = 0 then ({ x.1 with body := (bytesP x.2 256).1 }, (bytesP x.2 256).2) else ({ x.1 with var := (numP x.2 16).1 }, (numP x.2 16).2)
def valR (x : MT × Option (List UInt8)) : MT × Option (List UInt8) :=
  if x.1.kind = 1 ∨ x.1.kind = 3 then
    let f := floatP x.2
    let w := numP f.2 16
    let t := numP w.2 U64M
    ({ x.1 with val := f.1, wr := (w.1 : Int) - 1, tag := t.1 }, t.2)
  else x
def stR (x : MT × Option (List UInt8)) : MT × Option (List UInt8) := ({ x.1 with stamp := (bytesP x.2 20000).1 }, (bytesP x.2 20000).2)
def finR (x : MT × Option (List UInt8)) : Option MT := if endP x.2 = true ∧ goodMsg x.1 = true then some x.1 else none
def getM (bs : List UInt8) : Option MT := finR (stR (valR (bodyR (hdR bs))))
def gotV (o : Option MT) : MT := o.getD m00
def gotE (o : Option MT) : Int := if o.isSome = true then 0 else 2
theorem alMM (h : Heap) : allocV Try.prog 104 h = some (.pointer (some ⟨h.blks.length, 0, none⟩), h.new (.cells (msgL m00 nilSl nilSl)) 104) := by kernel_rfl
theorem bdMM0 : buildV Try.prog 104 #[] = some (msgA m00 nilSl nilSl) := by kernel_rfl
theorem bdMM4 (a b c d : Int) : buildV Try.prog 104 #[(0, .int .i64 a), (1, .int .u64 b), (2, .int .u64 c), (3, .int .i64 d)] = some (.agg #[.int .i64 a, .int .u64 b, .int .u64 c, .int .i64 d, .int .i64 0, .float .f64 0, .int .i64 0, .int .u64 0, .slice none 0 0, .slice none 0 0]) := by kernel_rfl
theorem stMM (p : Nat) (a b c d e g t : Int) (f : Nat) (x y : Option Addr) (l k l2 k2 : Nat) (h : Heap) : storeV Try.prog 104 (.pointer (some ⟨p, 0, none⟩)) (.agg #[.int .i64 a, .int .u64 b, .int .u64 c, .int .i64 d, .int .i64 e, .float .f64 f, .int .i64 g, .int .u64 t, .slice x l k, .slice y l2 k2]) h = h.storeN p 0 [.int .i64 a, .int .u64 b, .int .u64 c, .int .i64 d, .int .i64 e, .float .f64 f, .int .i64 g, .int .u64 t, .slice x l k, .slice y l2 k2] := by kernel_rfl
theorem smI (p o : Nat) (k : IntKind) (n : Int) (h : Heap) : storeV Try.prog 3 (.pointer (some ⟨p, o, none⟩)) (.int k n) h = h.storeN p o [.int k n] := by kernel_rfl
theorem smF (p o : Nat) (n : Nat) (h : Heap) : storeV Try.prog 84 (.pointer (some ⟨p, o, none⟩)) (.float .f64 n) h = h.storeN p o [.float .f64 n] := by kernel_rfl
theorem smB (p o : Nat) (a : Option Addr) (n c : Nat) (h : Heap) : storeV Try.prog 23 (.pointer (some ⟨p, o, none⟩)) (.slice a n c) h = h.storeN p o [.slice a n c] := by kernel_rfl
variable {h0 h h' : Heap} {p2 p5 rp : Nat} {m m' : MT} {bv sv : Value} {r r' : Option (List UInt8)}
theorem AB.kpC {n0 : Nat} {h h' : Heap} {v : Value} {bs : List UInt8} (a : AB n0 h v bs) {p : Nat} {T : TypeId} {cs : List Value} (c : Cells h p T cs) (hT : T ≠ 5) (k : ∀ b, b < h.blks.length → b ≠ p → h'.blks[b]? = h.blks[b]?) : AB n0 h' v bs :=
  a.keep fun b hb hv => k b hb fun e => by
    subst e
    obtain ⟨all, h1⟩ := a.blk hv
    unfold Cells at c
    rw [c] at h1
    simp only [Option.some.injEq, Blk.mk.injEq] at h1
    exact hT h1.2.1
structure GS (h0 h : Heap) (p2 p5 rp : Nat) (m : MT) (bv sv : Value) (r : Option (List UInt8)) : Prop where
  c : Cells h p5 104 (msgL m bv sv)
  b : AB h0.blks.length h bv m.body
  s : AB h0.blks.length h sv m.stamp
  c2 : Cells h p2 104 (msgL m00 nilSl nilSl)
  w : Rdr h rp r
  hin : In h0.blks.length No (nm h0) h
  h2 : h0.blks.length ≤ p2
  h25 : p2 < rp
  hr5 : rp < p5
  ok : MTok m
  rl : (rbs r).length < 2 ^ 38
theorem GS.next (x : GS h0 h p2 p5 rp m bv sv r) (e : HMod (Just rp) h h') (w : Rdr h' rp r') (hr : (rbs r').length ≤ (rbs r).length) : GS h0 h' p2 p5 rp m bv sv r' := by
  have hl : h0.blks.length ≤ h.blks.length := x.hin.len
  have := x.h2
  have := x.h25
  have := x.hr5
  have lt := x.c.lt
  obtain ⟨cs, hc⟩ : ∃ cs, Cells h rp 150 cs := let ⟨_, _, c, _⟩ := x.w; ⟨_, c⟩
  exact ⟨x.c.mod e (fun e => by have : p5 = rp := e; omega), x.b.kpC hc (by decide) fun b hb hne => e.old b hb hne, x.s.kpC hc (by decide) fun b hb hne => e.old b hb hne, x.c2.mod e (fun e => by have : p2 = rp := e; omega), w, x.hin.trans (e.inn hl fun b hb e => by have : b = rp := e; omega), x.h2, x.h25, x.hr5, x.ok, Nat.lt_of_le_of_lt hr x.rl⟩
theorem GS.set (x : GS h0 h p2 p5 rp m bv sv r) (k : Nat) (v : Value) {m' : MT} {bv' sv' : Value} (hk : k + 1 ≤ 10) (he : List.take k (msgL m bv sv) ++ [v] ++ List.drop (k + [v].length) (msgL m bv sv) = msgL m' bv' sv') (hb : AB h0.blks.length h bv' m'.body) (hs : AB h0.blks.length h sv' m'.stamp) (ok : MTok m') :
    ∃ h', h.storeN p5 k [v] = some h' ∧ GS h0 h' p2 p5 rp m' bv' sv' r := by
  have st := storeN_blk x.c (o := k) (vs := [v]) (by simpa using hk)
  rw [he] at st
  have hl : h0.blks.length ≤ h.blks.length := x.hin.len
  have := x.h2
  have := x.h25
  have := x.hr5
  exact ⟨_, st, x.c.put _, hb.kpC x.c (by decide) fun b hb hne => Heap.put_other hne _, hs.kpC x.c (by decide) fun b hb hne => Heap.put_other hne _, x.c2.keepPut (by omega) _, x.w.keepPut x.hr5 _, x.hin.trans (In.put hl (.inl (by omega)) _), x.h2, x.h25, x.hr5, ok, x.rl⟩
theorem GS.l3 (x : GS h0 h p2 p5 rp m bv sv r) : h.load1 p5 3 = some (.int .i64 m.kind) := by rw [x.c.load]; rfl
theorem GS.num (x : GS h0 h p2 p5 rp m bv sv r) (most : Nat) (hm : most < 2 ^ 64) : ∃ h', evC Try.prog 46 #[.pointer (some ⟨rp, 0, none⟩), .int .u64 most] h = some (.int .u64 (numP r most).1, h') ∧ GS h0 h' p2 p5 rp m bv sv (numP r most).2 := by
  obtain ⟨h', e, k, w⟩ := spec_RNum x.w most hm (by have := x.rl; omega)
  exact ⟨h', e, x.next k w (numP_le r most).2.2.1⟩
theorem bytesP_le (r : Option (List UInt8)) (k : Nat) : (rbs (bytesP r k).2).length ≤ (rbs r).length ∧ (bytesP r k).1.length ≤ (rbs r).length := by
  have h1 := (numP_le r k).2.2.1
  unfold bytesP
  cases h : (numP r k).2 with
  | none => simp [takeP, rbs]
  | some bs =>
    rw [h] at h1
    simp only [takeP]
    split
    · simp [rbs]
    · simp only [rbs, Option.getD_some, List.length_drop, List.length_take] at h1 ⊢; omega
theorem get3 (x : GS h0 h p2 p5 rp m bv sv r) : ∀ (Aa Ab Ad Ag Ah Ai Aj Ak Al An Ao Ap Aq Ar As At Au Av Aw Ax Ay Az Ba Bb Bc Bd Be Bf Bg Bh Bi Bj Bk Bl Bm Bn Bo Bp Bq Br Bs Bt Bu Bv Bw Bx By Bz Ca Cb Cc Cd Ce Cf : Value),
    ∃ bv' sv' h', codeK Try.prog (evC Try.prog) loopL c69_2 ⟨#[Aa,Ab, .pointer (some ⟨p2, 0, none⟩),Ad, .pointer (some ⟨rp, 0, none⟩), .pointer (some ⟨p5, 0, none⟩),Ag,Ah,Ai,Aj,Ak,Al,An,Ao,Ap,Aq,Ar,As,At,Au,Av,Aw,Ax,Ay,Az,Ba,Bb,Bc,Bd,Be,Bf,Bg,Bh,Bi,Bj,Bk,Bl,Bm,Bn,Bo,Bp,Bq,Br,Bs,Bt,Bu,Bv,Bw,Bx,By,Bz,Ca,Cb,Cc,Cd,Ce,Cf], h⟩ (retK Try.f69 Try.prog h0) =
      some (.tuple #[msgA (gotV (finR (stR (m, r)))) bv' sv', .int .i64 (gotE (finR (stR (m, r))))], h') ∧ HExt h0 h' ∧ AB h0.blks.length h' bv' (gotV (finR (stR (m, r)))).body ∧ AB h0.blks.length h' sv' (gotV (finR (stR (m, r)))).stamp := by
  intro Aa Ab Ad Ag Ah Ai Aj Ak Al An Ao Ap Aq Ar As At Au Av Aw Ax Ay Az Ba Bb Bc Bd Be Bf Bg Bh Bi Bj Bk Bl Bm Bn Bo Bp Bq Br Bs Bt Bu Bv Bw Bx By Bz Ca Cb Cc Cd Ce Cf
  rw [c69_2_eq]
  have hl : h0.blks.length ≤ h.blks.length := x.hin.len
  have hle := bytesP_le r 20000
  have hrl := x.rl
  obtain ⟨a, c, h2, e2, k2, w2, s2⟩ := spec_RBytes x.w 20000 (by omega) (by omega)
  rw [show (20000 : Int).toNat = 20000 from rfl] at e2 w2 s2
  have Ac := x.next k2 w2 hle.1
  have ok2 : MTok { m with stamp := (bytesP r 20000).1 } := ⟨x.ok.f0, x.ok.f1, x.ok.num, x.ok.to, x.ok.k0, x.ok.k1, x.ok.v0, x.ok.v1, x.ok.val, x.ok.w0, x.ok.w1, x.ok.tag, x.ok.body, by show (bytesP r 20000).1.length < 2 ^ 38; omega⟩
  obtain ⟨h3, e3,Ad⟩ := Ac.set 9 (.slice a (bytesP r 20000).1.length c) (m' := { m with stamp := (bytesP r 20000).1 }) (by omega) rfl Ac.b (s2.up hl) ok2
  have e4 := spec_REnd Ad.w
  have ld3 : loadV Try.prog 104 (.pointer (some ⟨p5, 0, none⟩)) h3 = some (msgA { m with stamp := (bytesP r 20000).1 } bv (.slice a (bytesP r 20000).1.length c)) := by rw [ldMM,Ad.c.loadN (n := 10) rfl]; rfl
  have e9 : stR (m, r) = ({ m with stamp := (bytesP r 20000).1 }, (bytesP r 20000).2) := rfl
  rw [e9]
  generalize hm' : ({ m with stamp := (bytesP r 20000).1 } : MT) = m' at *
  have hl3 : h0.blks.length ≤ h3.blks.length := Ad.hin.len
  have bad : ∀ h4, Same h3 h4 → In h0.blks.length No (nm h0) h4 → finR (m', (bytesP r 20000).2) = none → (h4.storeN p2 0 (msgL m00 nilSl nilSl)) = some (h4.put p2 (.cells (msgL m00 nilSl nilSl))) ∧ Cells (h4.put p2 (.cells (msgL m00 nilSl nilSl))) p2 104 (msgL m00 nilSl nilSl) ∧ In h0.blks.length No (nm h0) (h4.put p2 (.cells (msgL m00 nilSl nilSl))) := fun h4 s4 i4 _ => by
    have c2 := Ad.c2.same s4
    exact ⟨storeN_blk c2 (o := 0) (vs := msgL m00 nilSl nilSl) (by simp), c2.put _, i4.trans (In.put i4.len (.inl Ad.h2) _)⟩
  cases hE : endP (bytesP r 20000).2 with
  | false =>
    rw [hE] at e4
    have hf : finR (m', (bytesP r 20000).2) = none := by unfold finR; rw [if_neg (by rw [hE]; simp)]
    rw [hf]
    obtain ⟨b1, b2, b3⟩ := bad h3 (Same.refl _) Ad.hin hf
    simp -implicitDefEqProofs (disch := omega) only [dcT, dcF, e2, faMM9, smB, e3, e4, bdMM0, stMM, b1, ↓ret69, ↓cnd_true, ↓cnd_false, ↓Option.bind_some, ↓obH_some', bin_add, bin_sub, bin_mul, bin_lss, bin_leq, bin_gtr, bin_geq, bin_eql, bin_neq, un_not, un_neg, Option.bind_some, Option.bind_none, Option.map_some, cnd_true, cnd_false, pickV_true, pickV_false, gd_true, gd_false, gdV_true, gdV_false, gdH_true, gdH_false, gdS_true, gdS_false, wt_ff, wt_tt, wt_ft, wt_tf, wt_undef, obH_some', extractV_tuple, nilCheckV_ptr, againK_normal, againK_exit, againK_ret, blockK_normal, blockK_same, blockK_ret, seqK_normal, seqK_exit, seqK_ret, fin_done, if_true', if_false', Bool.not_true, Bool.not_false, idx0, idx1, idx2, idx3, idx4, chk_nil_l, chk_nil_r, done_nm]
    simp -implicitDefEqProofs only [ldMM, b2.loadN (n := 10) rfl, Option.map_some, Option.bind_some, rvals_two, fin_done]
    exact ⟨_, _, _, rfl, done_ext' b3, .nil, .nil⟩
  | true =>
    rw [hE] at e4
    obtain ⟨h4, e5, k5⟩ := spec_GoodM (Ad.b.sl etB.size) (Ad.s.sl etB.size) Ad.ok
    have i4 := Ad.hin.trans (k5.inn hl3)
    cases hG : goodMsg m' with
    | false =>
      rw [hG] at e5
      have hf : finR (m', (bytesP r 20000).2) = none := by unfold finR; rw [if_neg (by rw [hG]; simp)]
      rw [hf]
      obtain ⟨b1, b2, b3⟩ := bad h4 k5.same i4 hf
      simp -implicitDefEqProofs (disch := omega) only [dcT, dcF, e2, faMM9, smB, e3, e4, ld3, e5, bdMM0, stMM, b1, ↓ret69, ↓cnd_true, ↓cnd_false, ↓Option.bind_some, ↓obH_some', bin_add, bin_sub, bin_mul, bin_lss, bin_leq, bin_gtr, bin_geq, bin_eql, bin_neq, un_not, un_neg, Option.bind_some, Option.bind_none, Option.map_some, cnd_true, cnd_false, pickV_true, pickV_false, gd_true, gd_false, gdV_true, gdV_false, gdH_true, gdH_false, gdS_true, gdS_false, wt_ff, wt_tt, wt_ft, wt_tf, wt_undef, obH_some', extractV_tuple, nilCheckV_ptr, againK_normal, againK_exit, againK_ret, blockK_normal, blockK_same, blockK_ret, seqK_normal, seqK_exit, seqK_ret, fin_done, if_true', if_false', Bool.not_true, Bool.not_false, idx0, idx1, idx2, idx3, idx4, chk_nil_l, chk_nil_r, done_nm]
      simp -implicitDefEqProofs only [ldMM, b2.loadN (n := 10) rfl, Option.map_some, Option.bind_some, rvals_two, fin_done]
      exact ⟨_, _, _, rfl, done_ext' b3, .nil, .nil⟩
    | true =>
      rw [hG] at e5
      have hf : finR (m', (bytesP r 20000).2) = some m' := by unfold finR; rw [if_pos ⟨hE, hG⟩]
      rw [hf]
      obtain ⟨ba, bc, rfl⟩ := Ad.b.shape
      have c5 := Ad.c.same k5.same
      have c52 := Ad.c2.same k5.same
      have ld4 : loadV Try.prog 104 (.pointer (some ⟨p5, 0, none⟩)) h4 = some (msgA m' (.slice ba m'.body.length bc) (.slice a (bytesP r 20000).1.length c)) := by rw [ldMM, c5.loadN (n := 10) rfl]; rfl
      have b1 := storeN_blk c52 (o := 0) (vs := msgL m' (.slice ba m'.body.length bc) (.slice a (bytesP r 20000).1.length c)) (by simp)
      rw [show List.take 0 (msgL m00 nilSl nilSl) ++ msgL m' (.slice ba m'.body.length bc) (.slice a (bytesP r 20000).1.length c) ++ List.drop (0 + (msgL m' (.slice ba m'.body.length bc) (.slice a (bytesP r 20000).1.length c)).length) (msgL m00 nilSl nilSl) = msgL m' (.slice ba m'.body.length bc) (.slice a (bytesP r 20000).1.length c) from rfl] at b1
      have b2 := c52.put (msgL m' (.slice ba m'.body.length bc) (.slice a (bytesP r 20000).1.length c))
      have b3 := i4.trans (In.put (p := p2) i4.len (.inl Ad.h2) (.cells (msgL m' (.slice ba m'.body.length bc) (.slice a (bytesP r 20000).1.length c))))
      have s6 := AB.kpC (Ad.b.same k5.same) c52 (by decide) fun b hb hne => Heap.put_other (body := .cells (msgL m' (.slice ba m'.body.length bc) (.slice a (bytesP r 20000).1.length c))) hne
      have s7 := AB.kpC (Ad.s.same k5.same) c52 (by decide) fun b hb hne => Heap.put_other (body := .cells (msgL m' (.slice ba m'.body.length bc) (.slice a (bytesP r 20000).1.length c))) hne
      simp -implicitDefEqProofs (disch := omega) only [dcT, dcF, e2, faMM9, smB, e3, e4, ld3, e5, ld4, stMM, b1, ↓ret69, ↓cnd_true, ↓cnd_false, ↓Option.bind_some, ↓obH_some', bin_add, bin_sub, bin_mul, bin_lss, bin_leq, bin_gtr, bin_geq, bin_eql, bin_neq, un_not, un_neg, Option.bind_some, Option.bind_none, Option.map_some, cnd_true, cnd_false, pickV_true, pickV_false, gd_true, gd_false, gdV_true, gdV_false, gdH_true, gdH_false, gdS_true, gdS_false, wt_ff, wt_tt, wt_ft, wt_tf, wt_undef, obH_some', extractV_tuple, nilCheckV_ptr, againK_normal, againK_exit, againK_ret, blockK_normal, blockK_same, blockK_ret, seqK_normal, seqK_exit, seqK_ret, fin_done, if_true', if_false', Bool.not_true, Bool.not_false, idx0, idx1, idx2, idx3, idx4, chk_nil_l, chk_nil_r, done_nm]
      simp -implicitDefEqProofs only [ldMM, b2.loadN (n := 10) rfl, Option.map_some, Option.bind_some, rvals_two, fin_done]
      exact ⟨_, _, _, rfl, done_ext' b3, s6.done, s7.done⟩
theorem get2 (x : GS h0 h p2 p5 rp m bv sv r) : ∀ (Aa Ab Ad Ag Ah Ai Aj Ak Al An Ao Ap Aq Ar As At Au Av Aw Ax Ay Az Ba Bb Bc Bd Be Bf Bg Bh Bi Bj Bk Bl Bm Bn Bo Bp Bq Br Bs Bt Bu Bv Bw Bx By Bz Ca Cb Cc Cd Ce Cf : Value),
    ∃ bv' sv' h', codeK Try.prog (evC Try.prog) loopL c69_1 ⟨#[Aa,Ab, .pointer (some ⟨p2, 0, none⟩),Ad, .pointer (some ⟨rp, 0, none⟩), .pointer (some ⟨p5, 0, none⟩),Ag,Ah,Ai,Aj,Ak,Al,An,Ao,Ap,Aq,Ar,As,At,Au,Av,Aw,Ax,Ay,Az,Ba,Bb,Bc,Bd,Be,Bf,Bg,Bh,Bi,Bj,Bk,Bl,Bm,Bn,Bo,Bp,Bq,Br,Bs,Bt,Bu,Bv,Bw,Bx,By,Bz,Ca,Cb,Cc,Cd,Ce,Cf], h⟩ (retK Try.f69 Try.prog h0) =
      some (.tuple #[msgA (gotV (finR (stR (valR (m, r))))) bv' sv', .int .i64 (gotE (finR (stR (valR (m, r)))))], h') ∧ HExt h0 h' ∧ AB h0.blks.length h' bv' (gotV (finR (stR (valR (m, r))))).body ∧ AB h0.blks.length h' sv' (gotV (finR (stR (valR (m, r))))).stamp := by
  intro Aa Ab Ad Ag Ah Ai Aj Ak Al An Ao Ap Aq Ar As At Au Av Aw Ax Ay Az Ba Bb Bc Bd Be Bf Bg Bh Bi Bj Bk Bl Bm Bn Bo Bp Bq Br Bs Bt Bu Bv Bw Bx By Bz Ca Cb Cc Cd Ce Cf
  rw [c69_1_eq]
  have ev := fun h => spec_valued m.kind h
  by_cases c : m.kind = 1 ∨ m.kind = 3
  · rw [decide_eq_true c] at ev
    have hv : valR (m, r) = ({ m with val := (floatP r).1, wr := ((numP (floatP r).2 16).1 : Int) - 1, tag := (numP (numP (floatP r).2 16).2 U64M).1 }, (numP (numP (floatP r).2 16).2 U64M).2) := by unfold valR; rw [if_pos c]
    rw [hv]
    have fl := floatP_le r
    have n1 := numP_le (floatP r).2 16
    have n2 := numP_le (numP (floatP r).2 16).2 U64M
    obtain ⟨h2, e2, k2, w2⟩ := spec_RFloat x.w (by have := x.rl; omega)
    have Ac := x.next k2 w2 fl.2
    have ok2 : MTok { m with val := (floatP r).1 } := ⟨x.ok.f0, x.ok.f1, x.ok.num, x.ok.to, x.ok.k0, x.ok.k1, x.ok.v0, x.ok.v1, fl.1, x.ok.w0, x.ok.w1, x.ok.tag, x.ok.body, x.ok.stamp⟩
    obtain ⟨h3, e3,Ad⟩ := Ac.set 5 (.float .f64 (floatP r).1) (m' := { m with val := (floatP r).1 }) (by omega) rfl Ac.b Ac.s ok2
    obtain ⟨h4, e4,Ae⟩ := Ad.num 16 (by omega)
    have cv := fun h => cvU64 (((numP (floatP r).2 16).1 : Nat) : Int) h (by omega) (by omega)
    have hs : IntKind.wrap .i64 ((((numP (floatP r).2 16).1 : Nat) : Int) - 1) = (((numP (floatP r).2 16).1 : Nat) : Int) - 1 := by rw [wrap_i64] <;> omega
    have ok5 : MTok { m with val := (floatP r).1, wr := ((numP (floatP r).2 16).1 : Int) - 1 } := ⟨x.ok.f0, x.ok.f1, x.ok.num, x.ok.to, x.ok.k0, x.ok.k1, x.ok.v0, x.ok.v1, fl.1, by show -2 ^ 63 ≤ (((numP (floatP r).2 16).1 : Nat) : Int) - 1; omega, by show (((numP (floatP r).2 16).1 : Nat) : Int) - 1 < 2 ^ 63; omega, x.ok.tag, x.ok.body, x.ok.stamp⟩
    obtain ⟨h5, e5,Af⟩ := Ae.set 6 (.int .i64 ((((numP (floatP r).2 16).1 : Nat) : Int) - 1)) (m' := { m with val := (floatP r).1, wr := ((numP (floatP r).2 16).1 : Int) - 1 }) (by omega) rfl Ae.b Ae.s ok5
    obtain ⟨h6, e6,Ag⟩ := Af.num U64M (by unfold U64M; omega)
    rw [show ((U64M : Nat) : Int) = 18446744073709551615 from rfl] at e6
    have ok7 : MTok { m with val := (floatP r).1, wr := ((numP (floatP r).2 16).1 : Int) - 1, tag := (numP (numP (floatP r).2 16).2 U64M).1 } := ⟨x.ok.f0, x.ok.f1, x.ok.num, x.ok.to, x.ok.k0, x.ok.k1, x.ok.v0, x.ok.v1, fl.1, ok5.w0, ok5.w1, n2.2.1, x.ok.body, x.ok.stamp⟩
    obtain ⟨h7, e7,Ah⟩ := Ag.set 7 (.int .u64 ((numP (numP (floatP r).2 16).2 U64M).1 : Nat)) (m' := { m with val := (floatP r).1, wr := ((numP (floatP r).2 16).1 : Int) - 1, tag := (numP (numP (floatP r).2 16).2 U64M).1 }) (by omega) rfl Ag.b Ag.s ok7
    have main := get3 Ah
    rw [show ((16 : Nat) : Int) = 16 from rfl] at e4
    simp -implicitDefEqProofs (disch := omega) only [faMM3, faMM5, faMM6, faMM7, ldIntV, x.l3, ev, e2, smF, e3, e4, cv, hs, smI, e5, e6, vst64, e7, ↓cnd_true, ↓cnd_false, ↓Option.bind_some, ↓obH_some', bin_add, bin_sub, bin_mul, bin_lss, bin_leq, bin_gtr, bin_geq, bin_eql, bin_neq, un_not, un_neg, Option.bind_some, Option.bind_none, Option.map_some, cnd_true, cnd_false, pickV_true, pickV_false, gd_true, gd_false, gdV_true, gdV_false, gdH_true, gdH_false, gdS_true, gdS_false, wt_ff, wt_tt, wt_ft, wt_tf, wt_undef, obH_some', extractV_tuple, nilCheckV_ptr, againK_normal, againK_exit, againK_ret, blockK_normal, blockK_same, blockK_ret, seqK_normal, seqK_exit, seqK_ret, fin_done, if_true', if_false', Bool.not_true, Bool.not_false, idx0, idx1, idx2, idx3, idx4, chk_nil_l, chk_nil_r, done_nm]
    exact main _ _ _ _ _ _ _ _ _ _ _ _ _ _ _ _ _ _ _ _ _ _ _ _ _ _ _ _ _ _ _ _ _ _ _ _ _ _ _ _ _ _ _ _ _ _ _ _ _ _ _ _ _ _
  · rw [decide_eq_false c] at ev
    have hv : valR (m, r) = (m, r) := by unfold valR; rw [if_neg c]
    rw [hv]
    have main := get3 x
    simp -implicitDefEqProofs (disch := omega) only [faMM3, ldIntV, x.l3, ev, ↓cnd_true, ↓cnd_false, ↓Option.bind_some, ↓obH_some', bin_add, bin_sub, bin_mul, bin_lss, bin_leq, bin_gtr, bin_geq, bin_eql, bin_neq, un_not, un_neg, Option.bind_some, Option.bind_none, Option.map_some, cnd_true, cnd_false, pickV_true, pickV_false, gd_true, gd_false, gdV_true, gdV_false, gdH_true, gdH_false, gdS_true, gdS_false, wt_ff, wt_tt, wt_ft, wt_tf, wt_undef, obH_some', extractV_tuple, nilCheckV_ptr, againK_normal, againK_exit, againK_ret, blockK_normal, blockK_same, blockK_ret, seqK_normal, seqK_exit, seqK_ret, fin_done, if_true', if_false', Bool.not_true, Bool.not_false, idx0, idx1, idx2, idx3, idx4, chk_nil_l, chk_nil_r, done_nm]
    exact main _ _ _ _ _ _ _ _ _ _ _ _ _ _ _ _ _ _ _ _ _ _ _ _ _ _ _ _ _ _ _ _ _ _ _ _ _ _ _ _ _ _ _ _ _ _ _ _ _ _ _ _ _ _
theorem spec_GetM {b : Value} {bs : List UInt8} (sb : SB h b bs) (hb : bs.length < 2 ^ 38) :
    ∃ bv' sv' h', evC Try.prog 69 #[b] h = some (.tuple #[msgA (gotV (getM bs)) bv' sv', .int .i64 (gotE (getM bs))], h') ∧ HExt h h' ∧ AB h.blks.length h' bv' (gotV (getM bs)).body ∧ AB h.blks.length h' sv' (gotV (getM bs)).stamp := by
  rw [call69, c69_0_eq]
  have k1 := alMM (nm h)
  have c1 := Cells.new (nm h) 104 (msgL m00 nilSl nilSl)
  have i1 : In h.blks.length No (nm h) _ := In.new (by simp) (.cells (msgL m00 nilSl nilSl)) 104
  have s1 : Same h _ := i1.same0
  have bl : (nm h).blks.length = h.blks.length := rfl
  rw [bl] at k1 c1
  generalize (nm h).new (.cells (msgL m00 nilSl nilSl)) 104 = g1 at *
  obtain ⟨g2, rp, e2,Ac, r2, lr⟩ := spec_NewReaderL (sb.same s1) (by omega)
  have i2 := i1.trans (Ac.inn i1.len)
  have c2 := c1.ext Ac
  have lt1 := c1.lt
  have w2 := r2.dn
  have n1 := numP_le (some bs) 16
  have n2 := numP_le (numP (some bs) 16).2 U64M
  have n3 := setP_le (numP (numP (some bs) 16).2 U64M).2 65535
  have n4 := numP_le (setP (numP (numP (some bs) 16).2 U64M).2 65535).2 3
  rw [show (rbs (some bs)).length = bs.length from rfl] at n1
  obtain ⟨g3, e3,Ad, w3⟩ := spec_RNum w2 16 (by omega) (by rw [show (rbs (some bs)).length = bs.length from rfl]; omega)
  obtain ⟨g4, e4,Ae, w4⟩ := spec_RNum w3 U64M (by unfold U64M; omega) (by omega)
  obtain ⟨g5, e5,Af, w5⟩ := spec_RSet w4 65535 (by omega) (by omega)
  obtain ⟨g6, e6,Ag, w6⟩ := spec_RNum w5 3 (by omega) (by omega)
  have jr : ∀ b, b < h.blks.length → Just rp b → No b := fun b hb e => by have : b = rp := e; omega
  have i6 := (((i2.trans (Ad.inn i2.len jr)).trans (Ae.inn (i2.trans (Ad.inn i2.len jr)).len jr)).trans (Af.inn ((i2.trans (Ad.inn i2.len jr)).trans (Ae.inn (i2.trans (Ad.inn i2.len jr)).len jr)).len jr))
  have i6 := i6.trans (Ag.inn i6.len jr)
  have np : ¬ Just rp h.blks.length := fun e => by have : h.blks.length = rp := e; omega
  have c6 := (((c2.mod Ad np).mod Ae np).mod Af np).mod Ag np
  have a2 := fun h => spec_All 16 (by omega) h
  rw [show ((16 : Nat) : Int) = 16 from rfl, show ((allN 16 : Nat) : Int) = 65535 from rfl] at a2
  rw [show ((16 : Nat) : Int) = 16 from rfl] at e3
  rw [show ((U64M : Nat) : Int) = 18446744073709551615 from rfl] at e4
  rw [show ((65535 : Nat) : Int) = 65535 from rfl] at e5
  rw [show ((3 : Nat) : Int) = 3 from rfl] at e6
  have cv1 := fun h => cvU64 (((numP (some bs) 16).1 : Nat) : Int) h (by omega) (by omega)
  have hm : (hdR bs).1 = ⟨(numP (some bs) 16).1, (numP (numP (some bs) 16).2 U64M).1, (setP (numP (numP (some bs) 16).2 U64M).2 65535).1, (numP (setP (numP (numP (some bs) 16).2 U64M).2 65535).2 3).1, 0, 0, 0, 0, [], []⟩ := rfl
  have hr : (hdR bs).2 = (numP (setP (numP (numP (some bs) 16).2 U64M).2 65535).2 3).2 := rfl
  unfold getM
  generalize (numP (setP (numP (numP (some bs) 16).2 U64M).2 65535).2 3).2 = r at *
  generalize (numP (setP (numP (numP (some bs) 16).2 U64M).2 65535).2 3).1 = nd at *
  generalize (setP (numP (numP (some bs) 16).2 U64M).2 65535).1 = nc at *
  generalize (numP (numP (some bs) 16).2 U64M).1 = nb at *
  generalize (numP (some bs) 16).1 = na at *
  have cv2 := fun h => cvU64 ((nd : Nat) : Int) h (by omega) (by omega)
  have ok : MTok (hdR bs).1 := by rw [hm]; exact ⟨by show -2 ^ 63 ≤ (na : Int); omega, by show (na : Int) < 2 ^ 63; omega, n2.2.1, n3.1, by show -2 ^ 63 ≤ (nd : Int); omega, by show (nd : Int) < 2 ^ 63; omega, by show (-2 ^ 63 : Int) ≤ 0; decide, by show (0 : Int) < 2 ^ 63; decide, by show (0 : Nat) < 2 ^ 64; decide, by show (-2 ^ 63 : Int) ≤ 0; decide, by show (0 : Int) < 2 ^ 63; decide, by show (0 : Nat) < 2 ^ 64; decide, by show ([] : List UInt8).length < 2 ^ 38; decide, by show ([] : List UInt8).length < 2 ^ 38; decide⟩
  have k7 := alMM g6
  have c7 := Cells.new g6 104 (msgL m00 nilSl nilSl)
  have st7 := storeN_blk c7 (o := 0) (vs := msgL (hdR bs).1 nilSl nilSl) (by simp)
  rw [show List.take 0 (msgL m00 nilSl nilSl) ++ msgL (hdR bs).1 nilSl nilSl ++ List.drop (0 + (msgL (hdR bs).1 nilSl nilSl).length) (msgL m00 nilSl nilSl) = msgL (hdR bs).1 nilSl nilSl from rfl] at st7
  have c8 := c7.put (msgL (hdR bs).1 nilSl nilSl)
  have i8 := (i6.trans (In.new i6.len (.cells (msgL m00 nilSl nilSl)) 104)).trans (In.put (p := g6.blks.length) (i6.trans (In.new i6.len (.cells (msgL m00 nilSl nilSl)) 104)).len (.inl i6.len) (.cells (msgL (hdR bs).1 nilSl nilSl)))
  have sm := (Same.new g6 (.cells (msgL m00 nilSl nilSl)) 104).put (Nat.le_refl _) (.cells (msgL (hdR bs).1 nilSl nilSl))
  have lw := w6.lt
  generalize hq5 : g6.blks.length = q5 at *
  generalize (g6.new (.cells (msgL m00 nilSl nilSl)) 104).put q5 (.cells (msgL (hdR bs).1 nilSl nilSl)) = g8 at *
  have G : GS h g8 h.blks.length q5 rp (hdR bs).1 nilSl nilSl r := ⟨c8, by rw [hm]; exact .nil, by rw [hm]; exact .nil, c6.same sm, w6.same sm, i8, Nat.le_refl _, by omega, by omega, ok, by omega⟩
  have hpair : hdR bs = ((hdR bs).1, r) := by rw [← hr]
  rw [hpair]
  have kd : (hdR bs).1.kind = nd := by rw [hm]
  have mA : msgL (hdR bs).1 nilSl nilSl = [.int .i64 na, .int .u64 nb, .int .u64 nc, .int .i64 nd, .int .i64 0, .float .f64 0, .int .i64 0, .int .u64 0, .slice none 0 0, .slice none 0 0] := by rw [hm]; rfl
  rw [mA] at st7
  by_cases c : (hdR bs).1.kind = 0
  · have d : decide ((hdR bs).1.kind = 0) = true := decide_eq_true c
    have hv : bodyR ((hdR bs).1, r) = ({ (hdR bs).1 with body := (bytesP r 256).1 }, (bytesP r 256).2) := by unfold bodyR; rw [if_pos c]
    rw [hv]
    have hle := bytesP_le r 256
    have rl := G.rl
    obtain ⟨ba, bc, g9, e9,Aj, w9, s9⟩ := spec_RBytes G.w 256 (by omega) (by omega)
    rw [show (256 : Int).toNat = 256 from rfl] at e9 w9 s9
    have G9 := G.next Aj w9 hle.1
    have ok9 : MTok { (hdR bs).1 with body := (bytesP r 256).1 } := ⟨ok.f0, ok.f1, ok.num, ok.to, ok.k0, ok.k1, ok.v0, ok.v1, ok.val, ok.w0, ok.w1, ok.tag, by show (bytesP r 256).1.length < 2 ^ 38; omega, ok.stamp⟩
    obtain ⟨g10, e10, G10⟩ := G9.set 8 (.slice ba (bytesP r 256).1.length bc) (m' := { (hdR bs).1 with body := (bytesP r 256).1 }) (by omega) rfl (s9.up G.hin.len) G9.s ok9
    have main := get2 G10
    simp -implicitDefEqProofs (disch := omega) only [dcT, dcF, k1, e2, e3, cv1, e4, a2, e5, e6, cv2, bdMM4, k7, stMM, st7, faMM3, faMM8, ldIntV, G.l3, d, e9, smB, e10, ↓cnd_true, ↓cnd_false, ↓Option.bind_some, ↓obH_some', bin_add, bin_sub, bin_mul, bin_lss, bin_leq, bin_gtr, bin_geq, bin_eql, bin_neq, un_not, un_neg, Option.bind_some, Option.bind_none, Option.map_some, cnd_true, cnd_false, pickV_true, pickV_false, gd_true, gd_false, gdV_true, gdV_false, gdH_true, gdH_false, gdS_true, gdS_false, wt_ff, wt_tt, wt_ft, wt_tf, wt_undef, obH_some', extractV_tuple, nilCheckV_ptr, againK_normal, againK_exit, againK_ret, blockK_normal, blockK_same, blockK_ret, seqK_normal, seqK_exit, seqK_ret, fin_done, if_true', if_false', Bool.not_true, Bool.not_false, idx0, idx1, idx2, idx3, idx4, chk_nil_l, chk_nil_r, done_nm]
    exact main _ _ _ _ _ _ _ _ _ _ _ _ _ _ _ _ _ _ _ _ _ _ _ _ _ _ _ _ _ _ _ _ _ _ _ _ _ _ _ _ _ _ _ _ _ _ _ _ _ _ _ _ _ _
  · have d : decide ((hdR bs).1.kind = 0) = false := decide_eq_false c
    have hv : bodyR ((hdR bs).1, r) = ({ (hdR bs).1 with var := (numP r 16).1 }, (numP r 16).2) := by unfold bodyR; rw [if_neg c]
    rw [hv]
    have n9 := numP_le r 16
    obtain ⟨g9, e9, G9⟩ := G.num 16 (by omega)
    rw [show ((16 : Nat) : Int) = 16 from rfl] at e9
    have cv3 := fun h => cvU64 (((numP r 16).1 : Nat) : Int) h (by omega) (by omega)
    have ok9 : MTok { (hdR bs).1 with var := (numP r 16).1 } := ⟨ok.f0, ok.f1, ok.num, ok.to, ok.k0, ok.k1, by show -2 ^ 63 ≤ (((numP r 16).1 : Nat) : Int); omega, by show (((numP r 16).1 : Nat) : Int) < 2 ^ 63; omega, ok.val, ok.w0, ok.w1, ok.tag, ok.body, ok.stamp⟩
    obtain ⟨g10, e10, G10⟩ := G9.set 4 (.int .i64 ((numP r 16).1 : Nat)) (m' := { (hdR bs).1 with var := (numP r 16).1 }) (by omega) rfl G9.b G9.s ok9
    have main := get2 G10
    simp -implicitDefEqProofs (disch := omega) only [dcT, dcF, k1, e2, e3, cv1, e4, a2, e5, e6, cv2, bdMM4, k7, stMM, st7, faMM3, faMM4, ldIntV, G.l3, d, e9, cv3, smI, e10, ↓cnd_true, ↓cnd_false, ↓Option.bind_some, ↓obH_some', bin_add, bin_sub, bin_mul, bin_lss, bin_leq, bin_gtr, bin_geq, bin_eql, bin_neq, un_not, un_neg, Option.bind_some, Option.bind_none, Option.map_some, cnd_true, cnd_false, pickV_true, pickV_false, gd_true, gd_false, gdV_true, gdV_false, gdH_true, gdH_false, gdS_true, gdS_false, wt_ff, wt_tt, wt_ft, wt_tf, wt_undef, obH_some', extractV_tuple, nilCheckV_ptr, againK_normal, againK_exit, againK_ret, blockK_normal, blockK_same, blockK_ret, seqK_normal, seqK_exit, seqK_ret, fin_done, if_true', if_false', Bool.not_true, Bool.not_false, idx0, idx1, idx2, idx3, idx4, chk_nil_l, chk_nil_r, done_nm]
    exact main _ _ _ _ _ _ _ _ _ _ _ _ _ _ _ _ _ _ _ _ _ _ _ _ _ _ _ _ _ _ _ _ _ _ _ _ _ _ _ _ _ _ _ _ _ _ _ _ _ _ _ _ _ _
end Go.Am
namespace Go.Am
open Go.Proofs
set_option maxRecDepth 100000
attribute [local congr] obind_congr obH_congr cnd_congr chk_congr retK_congr codeK_congr
theorem put_same {h : Heap} {b : Nat} {cs : List Value} {ty : TypeId} (hb : Cells h b ty cs) : (h.put b (.cells cs)).blks = h.blks := by
  rw [Heap.put_eq hb]
  simp only
  refine List.ext_getElem? fun i => ?_
  rw [List.getElem?_set]
  split
  · rename_i e
    subst e
    rw [if_pos hb.lt]
    exact hb.symm
  · rfl
theorem cvBB {h : Heap} {b n c : Nat} {cs : List Value} (hb : Cells h b 5 cs) (hn : n ≠ 0) : convV Try.prog 23 23 (.slice (some ⟨b, 0, none⟩) n c) h = some (.slice (some ⟨b, 0, none⟩) n c, h.put b (.cells cs)) := by
  have hs : Try.prog.underlying 23 = some (.slice 5) := by kernel_rfl
  have hbt : isByteT Try.prog 5 = true := by kernel_rfl
  unfold convV
  rw [hs]
  unfold Cells at hb
  simp only [hb, hbt, hn, ne_eq, not_false_eq_true, and_self, if_true]
theorem lit_str {h : Heap} {n0 : Nat} (hn0 : n0 ≤ h.blks.length) (b : UInt8) : ∃ h1 h2, buildSliceV Try.prog 23 1 #[(0, .int .u8 b.toNat)] h = some (.slice (some ⟨h.blks.length, 0, none⟩) 1 1, h1) ∧
    convV Try.prog 23 23 (.slice (some ⟨h.blks.length, 0, none⟩) 1 1) h1 = some (.slice (some ⟨h.blks.length, 0, none⟩) 1 1, h2) ∧ SB h2 (.slice (some ⟨h.blks.length, 0, none⟩) 1 1) [b] ∧ Same h h2 ∧ (∀ S,In n0 S h h2) ∧ h2.blks.length = h.blks.length + 1 := by
  have hc := Cells.new h 5 [byteV b]
  have hp := put_same hc
  refine ⟨h.new (.cells [byteV b]) 5, (h.new (.cells [byteV b]) 5).put h.blks.length (.cells [byteV b]), mkB1 _ _ _, cvBB hc (by omega), ?_, ?_, fun S => (In.new hn0 _ _).trans (In.put (by simp [Heap.new]; omega) (.inl hn0) _), by rw [hp]; simp [Heap.new]⟩
  · exact (lit1 b h).keep fun q _ _ => by rw [hp]
  · exact ⟨by rw [hp]; simp [Heap.new], fun q hq => by rw [hp]; exact Heap.new_old hq⟩
end Go.Am
namespace Go.Am
open Go.Proofs
set_option maxRecDepth 100000
set_option linter.all false
attribute [local congr] obind_congr obH_congr cnd_congr chk_congr retK_congr codeK_congr
variable {h h' : Heap} {p : Nat} {m n : MT} {bv sv bw sw : Value}
theorem faRM0 (p : Nat) : fieldAddrV Try.prog 108 (.pointer (some ⟨p, 0, none⟩)) 0 = some (.pointer (some ⟨p, 0, none⟩)) := by kernel_rfl
theorem faRM1 (p : Nat) : fieldAddrV Try.prog 108 (.pointer (some ⟨p, 0, none⟩)) 1 = some (.pointer (some ⟨p, 1, none⟩)) := by kernel_rfl
theorem faRM2 (p : Nat) : fieldAddrV Try.prog 108 (.pointer (some ⟨p, 0, none⟩)) 2 = some (.pointer (some ⟨p, 2, none⟩)) := by kernel_rfl
theorem faRM3 (p : Nat) : fieldAddrV Try.prog 108 (.pointer (some ⟨p, 0, none⟩)) 3 = some (.pointer (some ⟨p, 3, none⟩)) := by kernel_rfl
theorem faRM4 (p : Nat) : fieldAddrV Try.prog 108 (.pointer (some ⟨p, 0, none⟩)) 4 = some (.pointer (some ⟨p, 4, none⟩)) := by kernel_rfl
theorem faRM5 (p : Nat) : fieldAddrV Try.prog 108 (.pointer (some ⟨p, 0, none⟩)) 5 = some (.pointer (some ⟨p, 5, none⟩)) := by kernel_rfl
theorem faRM6 (p : Nat) : fieldAddrV Try.prog 108 (.pointer (some ⟨p, 0, none⟩)) 6 = some (.pointer (some ⟨p, 6, none⟩)) := by kernel_rfl
theorem faRM7 (p : Nat) : fieldAddrV Try.prog 108 (.pointer (some ⟨p, 0, none⟩)) 7 = some (.pointer (some ⟨p, 7, none⟩)) := by kernel_rfl
theorem faRM8 (p : Nat) : fieldAddrV Try.prog 108 (.pointer (some ⟨p, 0, none⟩)) 8 = some (.pointer (some ⟨p, 8, none⟩)) := by kernel_rfl
theorem faRM9 (p : Nat) : fieldAddrV Try.prog 108 (.pointer (some ⟨p, 0, none⟩)) 9 = some (.pointer (some ⟨p, 9, none⟩)) := by kernel_rfl
theorem bxRM (a b c d e f g i j k : Value) (h : Heap) : boxV Try.prog 108 (.agg #[a, b, c, d, e, f, g, i, j, k]) h = some (.pointer (some ⟨h.blks.length, 0, none⟩), h.new (.cells [a, b, c, d, e, f, g, i, j, k]) 108) := by kernel_rfl
theorem alRM (h : Heap) : allocV Try.prog 108 h = some (.pointer (some ⟨h.blks.length, 0, none⟩), h.new (.cells (msgL m00 nilSl nilSl)) 108) := by kernel_rfl
theorem bdRM10 (a b c d e g t : Int) (f : Nat) (x y : Option Addr) (l k l2 k2 : Nat) : buildV Try.prog 108 #[(0, .int .i64 a), (1, .int .u64 b), (2, .int .u64 c), (3, .int .i64 d), (4, .int .i64 e), (5, .float .f64 f), (6, .int .i64 g), (7, .int .u64 t), (8, .slice x l k), (9, .slice y l2 k2)] = some (.agg #[.int .i64 a, .int .u64 b, .int .u64 c, .int .i64 d, .int .i64 e, .float .f64 f, .int .i64 g, .int .u64 t, .slice x l k, .slice y l2 k2]) := by kernel_rfl
theorem stRM (p : Nat) (a b c d e g t : Int) (f : Nat) (x y : Option Addr) (l k l2 k2 : Nat) (h : Heap) : storeV Try.prog 108 (.pointer (some ⟨p, 0, none⟩)) (.agg #[.int .i64 a, .int .u64 b, .int .u64 c, .int .i64 d, .int .i64 e, .float .f64 f, .int .i64 g, .int .u64 t, .slice x l k, .slice y l2 k2]) h = h.storeN p 0 [.int .i64 a, .int .u64 b, .int .u64 c, .int .i64 d, .int .i64 e, .float .f64 f, .int .i64 g, .int .u64 t, .slice x l k, .slice y l2 k2] := by kernel_rfl
theorem ldRMs (p : Nat) (h : Heap) : loadV Try.prog 108 (.pointer (some ⟨p, 0, none⟩)) h = (h.loadN p 0 10).map fun cs => .agg cs.toArray := by kernel_rfl
theorem msgL_put (m m' : MT) (a b c d : Value) : List.take 0 (msgL m a b) ++ msgL m' c d ++ List.drop (0 + (msgL m' c d).length) (msgL m a b) = msgL m' c d := (id rfl)
theorem spec_own (hb : SB h bv m.body) (hs : SB h sv m.stamp) : ∃ h', evC Try.prog 68 #[msgA m bv sv] h = some (msgA m bv sv, h') ∧ HExt h h' := by
  rw [call68, c68_0_eq]
  obtain ⟨ba, bc, rfl⟩ := hb.shape
  obtain ⟨sa, sc, rfl⟩ := hs.shape
  have M := MC.new (h := nm h) 104 hb.nm hs.nm
  have i0 : In h.blks.length No (nm h) _ := In.new (by simp) (.cells (msgL m (.slice ba m.body.length bc) (.slice sa m.stamp.length sc))) 104
  have k0 := bxMM (.int .i64 m.frm) (.int .u64 m.num) (.int .u64 m.to) (.int .i64 m.kind) (.int .i64 m.var) (.float .f64 m.val) (.int .i64 m.wr) (.int .u64 m.tag) (.slice ba m.body.length bc) (.slice sa m.stamp.length sc) (nm h)
  have bl : (nm h).blks.length = h.blks.length := rfl
  rw [bl] at M k0
  generalize (nm h).new (.cells (msgL m (.slice ba m.body.length bc) (.slice sa m.stamp.length sc))) 104 = g0 at *
  have k1 := alRM g0
  have c1 := Cells.new g0 108 (msgL m00 nilSl nilSl)
  have M1 := M.same (Same.new g0 (.cells (msgL m00 nilSl nilSl)) 108)
  have i1 := i0.trans (In.new i0.len (.cells (msgL m00 nilSl nilSl)) 108)
  have st := storeN_blk c1 (o := 0) (vs := msgL m (.slice ba m.body.length bc) (.slice sa m.stamp.length sc)) (by simp)
  rw [msgL_put] at st
  have c2 := c1.put (msgL m (.slice ba m.body.length bc) (.slice sa m.stamp.length sc))
  have i2 := i1.trans (In.put (p := g0.blks.length) i1.len (.inl i0.len) (.cells (msgL m (.slice ba m.body.length bc) (.slice sa m.stamp.length sc))))
  generalize g0.new (.cells (msgL m00 nilSl nilSl)) 108 = g1 at *
  simp -implicitDefEqProofs (disch := omega) only [k0, k1, faMM0, faMM1, faMM2, faMM3, faMM4, faMM5, faMM6, faMM7, faMM8, faMM9, ldIntV, vld64, ldSetV, ldFlV, ldB, M1.l0, M1.l1, M1.l2, M1.l3, M1.l4, M1.l5, M1.l6, M1.l7, M1.l8, M1.l9, bdRM10, stRM, st, ↓ret68, ↓cnd_true, ↓cnd_false, ↓Option.bind_some, ↓obH_some', bin_add, bin_sub, bin_mul, bin_lss, bin_leq, bin_gtr, bin_geq, bin_eql, bin_neq, un_not, un_neg, Option.bind_some, Option.bind_none, Option.map_some, cnd_true, cnd_false, pickV_true, pickV_false, gd_true, gd_false, gdV_true, gdV_false, gdH_true, gdH_false, gdS_true, gdS_false, wt_ff, wt_tt, wt_ft, wt_tf, wt_undef, obH_some', extractV_tuple, nilCheckV_ptr, againK_normal, againK_exit, againK_ret, blockK_normal, blockK_same, blockK_ret, seqK_normal, seqK_exit, seqK_ret, fin_done, if_true', if_false', Bool.not_true, Bool.not_false, idx0, idx1, idx2, idx3, idx4, chk_nil_l, chk_nil_r, done_nm]
  simp -implicitDefEqProofs only [ldRMs, c2.loadN (n := 10) rfl, Option.map_some, Option.bind_some, rvals_one, fin_done]
  exact ⟨_, rfl, done_ext' i2⟩
def Alike (m n : MT) : Prop := m.frm = n.frm ∧ m.num = n.num ∧ m.to = n.to ∧ m.kind = n.kind ∧ m.var = n.var ∧ keyF m.val = keyF n.val ∧ m.wr = n.wr ∧ m.tag = n.tag ∧ m.body = n.body ∧ m.stamp = n.stamp
theorem Alike.refl (m : MT) : Alike m m := ⟨rfl, rfl, rfl, rfl, rfl, rfl, rfl, rfl, rfl, rfl⟩
theorem spec_alike (hb : SB h bv m.body) (hs : SB h sv m.stamp) (hb2 : SB h bw n.body) (hs2 : SB h sw n.stamp) (a : Alike m n) (hv : m.val < 2 ^ 64) (hv2 : n.val < 2 ^ 64) : ∃ h', evC Try.prog 74 #[msgA m bv sv, msgA n bw sw] h = some (.bool true, h') ∧ HExt h h' := by
  rw [call74, c74_0_eq]
  have M := MC.new (h := nm h) 108 hb.nm hs.nm
  have i0 : In h.blks.length No (nm h) _ := In.new (by simp) (.cells (msgL m bv sv)) 108
  have k0 := bxRM (.int .i64 m.frm) (.int .u64 m.num) (.int .u64 m.to) (.int .i64 m.kind) (.int .i64 m.var) (.float .f64 m.val) (.int .i64 m.wr) (.int .u64 m.tag) bv sv (nm h)
  have bl : (nm h).blks.length = h.blks.length := rfl
  rw [bl] at M k0
  have b2 := hb2.same i0.same0
  have s2 := hs2.same i0.same0
  generalize (nm h).new (.cells (msgL m bv sv)) 108 = g0 at *
  have N := MC.new (h := g0) (m := n) 108 b2 s2
  have i1 := i0.trans (In.new i0.len (.cells (msgL n bw sw)) 108)
  have k1 := bxRM (.int .i64 n.frm) (.int .u64 n.num) (.int .u64 n.to) (.int .i64 n.kind) (.int .i64 n.var) (.float .f64 n.val) (.int .i64 n.wr) (.int .u64 n.tag) bw sw g0
  have M1 := M.same (Same.new g0 (.cells (msgL n bw sw)) 108)
  generalize g0.new (.cells (msgL n bw sw)) 108 = g1 at *
  obtain ⟨a0, a1, a2, a3, a4, a5, a6, a7, a8, a9⟩ := a
  have es := fun h => spec_refSame m.val n.val hv hv2 h
  rw [decide_eq_true a5] at es
  have f1 := strB M1.b
  have f2 := strB N.b
  have f3 := strB M1.s
  have f4 := strB N.s
  rw [← a8] at f2
  rw [← a9] at f4
  have hse : ∀ xo yo (x : List UInt8), binV Try.prog .eql 9 xo yo (strV x) (strV x) = some (.bool true) := fun xo yo x => by rw [bin_streq, decide_eq_true rfl]
  have L0 := N.l0
  have L1 := N.l1
  have L2 := N.l2
  have L3 := N.l3
  have L4 := N.l4
  have L6 := N.l6
  have L7 := N.l7
  rw [← a0] at L0
  rw [← a1] at L1
  rw [← a2] at L2
  rw [← a3] at L3
  rw [← a4] at L4
  rw [← a6] at L6
  rw [← a7] at L7
  simp -implicitDefEqProofs (disch := omega) only [dcT, dcF, k0, k1, faRM0, faRM1, faRM2, faRM3, faRM4, faRM5, faRM6, faRM7, faRM8, faRM9, ldIntV, vld64, ldFlV, ldB, M1.l0, M1.l1, M1.l2, M1.l3, M1.l4, M1.l5, M1.l6, M1.l7, M1.l8, M1.l9, L0, L1, L2, L3, L4, N.l5, L6, L7, N.l8, N.l9, es, f1, f2, f3, f4, hse, eq_self, decide_true, ↓ret74, ↓cnd_true, ↓cnd_false, ↓Option.bind_some, ↓obH_some', bin_add, bin_sub, bin_mul, bin_lss, bin_leq, bin_gtr, bin_geq, bin_eql, bin_neq, un_not, un_neg, Option.bind_some, Option.bind_none, Option.map_some, cnd_true, cnd_false, pickV_true, pickV_false, gd_true, gd_false, gdV_true, gdV_false, gdH_true, gdH_false, gdS_true, gdS_false, wt_ff, wt_tt, wt_ft, wt_tf, wt_undef, obH_some', extractV_tuple, nilCheckV_ptr, againK_normal, againK_exit, againK_ret, blockK_normal, blockK_same, blockK_ret, seqK_normal, seqK_exit, seqK_ret, fin_done, if_true', if_false', Bool.not_true, Bool.not_false, idx0, idx1, idx2, idx3, idx4, chk_nil_l, chk_nil_r, done_nm]
  exact ⟨_, rfl, done_ext' i1⟩
def wordM : MT := ⟨0, 1, 2, 0, 0, 0, 0, 0, [97], []⟩
theorem bdMMw (a : Option Addr) (l c : Nat) : buildV Try.prog 104 #[(1, .int .u64 1), (2, .int .u64 2), (8, .slice a l c)] = some (.agg #[.int .i64 0, .int .u64 1, .int .u64 2, .int .i64 0, .int .i64 0, .float .f64 0, .int .i64 0, .int .u64 0, .slice a l c, .slice none 0 0]) := by kernel_rfl
theorem spec_word (h : Heap) : ∃ bv h', evC Try.prog 75 #[] h = some (msgA wordM bv nilSl, h') ∧ HExt h h' ∧ SB h' bv wordM.body := by
  rw [call75, c75_0_eq]
  have k1 := alMM (nm h)
  have c1 := Cells.new (nm h) 104 (msgL m00 nilSl nilSl)
  have i1 : In h.blks.length No (nm h) _ := In.new (by simp) (.cells (msgL m00 nilSl nilSl)) 104
  have bl : (nm h).blks.length = h.blks.length := rfl
  rw [bl] at k1 c1
  generalize (nm h).new (.cells (msgL m00 nilSl nilSl)) 104 = g1 at *
  have lt := c1.lt
  obtain ⟨g2, g3, k2, k3, s3, m3, i3, l3⟩ := lit_str (h := g1) (n0 := h.blks.length) i1.len 97
  rw [show (((97 : UInt8).toNat : Nat) : Int) = 97 from rfl] at k2
  have c3 := c1.same m3
  have i3 := i1.trans (i3 No)
  have st := storeN_blk c3 (o := 0) (vs := msgL wordM (.slice (some ⟨g1.blks.length, 0, none⟩) 1 1) nilSl) (by simp)
  rw [msgL_put] at st
  have c4 := c3.put (msgL wordM (.slice (some ⟨g1.blks.length, 0, none⟩) 1 1) nilSl)
  have i4 := i3.trans (In.put (p := h.blks.length) i3.len (.inl (Nat.le_refl _)) (.cells (msgL wordM (.slice (some ⟨g1.blks.length, 0, none⟩) 1 1) nilSl)))
  have b4 := s3.keepPut (p := h.blks.length) (by simp [blockOf]; omega) (.cells (msgL wordM (.slice (some ⟨g1.blks.length, 0, none⟩) 1 1) nilSl))
  rw [show msgL wordM (.slice (some ⟨g1.blks.length, 0, none⟩) 1 1) nilSl = [.int .i64 0, .int .u64 1, .int .u64 2, .int .i64 0, .int .i64 0, .float .f64 0, .int .i64 0, .int .u64 0, .slice (some ⟨g1.blks.length, 0, none⟩) 1 1, .slice none 0 0] from rfl] at st c4 i4 b4
  simp -implicitDefEqProofs (disch := omega) only [k1, k2, k3, bdMMw, stMM, st, ↓ret75, ↓cnd_true, ↓cnd_false, ↓Option.bind_some, ↓obH_some', bin_add, bin_sub, bin_mul, bin_lss, bin_leq, bin_gtr, bin_geq, bin_eql, bin_neq, un_not, un_neg, Option.bind_some, Option.bind_none, Option.map_some, cnd_true, cnd_false, pickV_true, pickV_false, gd_true, gd_false, gdV_true, gdV_false, gdH_true, gdH_false, gdS_true, gdS_false, wt_ff, wt_tt, wt_ft, wt_tf, wt_undef, obH_some', extractV_tuple, nilCheckV_ptr, againK_normal, againK_exit, againK_ret, blockK_normal, blockK_same, blockK_ret, seqK_normal, seqK_exit, seqK_ret, fin_done, if_true', if_false', Bool.not_true, Bool.not_false, idx0, idx1, idx2, idx3, idx4, chk_nil_l, chk_nil_r, done_nm]
  simp -implicitDefEqProofs only [ldMM, c4.loadN (n := 10) rfl, Option.map_some, Option.bind_some, rvals_one, fin_done]
  exact ⟨_, _, rfl, done_ext' i4, b4.done⟩
theorem wordOk : MTok wordM := ⟨by decide, by decide, by decide, by decide, by decide, by decide, by decide, by decide, by decide, by decide, by decide, by decide, by decide, by decide⟩
theorem word_put : (putM wordM).length = 7 := by decide +kernel
theorem word_get : getM (putM wordM) = some wordM := by decide +kernel
theorem mmvar {n0 : Nat} {g : Heap} (hn : n0 ≤ g.blks.length) (m : MT) (x y : Option Addr) (l k l2 k2 : Nat) : ∃ g', storeV Try.prog 104 (.pointer (some ⟨g.blks.length, 0, none⟩)) (msgA m (.slice x l k) (.slice y l2 k2)) (g.new (.cells (msgL m00 nilSl nilSl)) 104) = some g' ∧ Cells g' g.blks.length 104 (msgL m (.slice x l k) (.slice y l2 k2)) ∧ Same g g' ∧ (∀ S,In n0 S g g') := by
  have c := Cells.new g 104 (msgL m00 nilSl nilSl)
  have st := storeN_blk c (o := 0) (vs := msgL m (.slice x l k) (.slice y l2 k2)) (by simp)
  rw [msgL_put] at st
  refine ⟨_, by rw [stMM]; exact st, c.put _, (Same.new g _ _).put (Nat.le_refl _) _, fun S => (In.new hn _ _).trans (In.put (Nat.le_trans hn (Same.new g _ _).1) (.inl hn) _)⟩
theorem ldCM {g : Heap} {p : Nat} {m : MT} {bv sv : Value} (c : Cells g p 104 (msgL m bv sv)) : loadV Try.prog 104 (.pointer (some ⟨p, 0, none⟩)) g = some (msgA m bv sv) := by rw [ldMM, c.loadN (n := 10) rfl]; rfl
theorem word_good : goodMsg wordM = true := by decide +kernel
theorem spec_awake7 (h : Heap) : ∃ h', evC Try.prog 65 #[] h = some (.bool true, h') ∧ HExt h h' := by
  rw [call65, c65_0_eq]
  obtain ⟨wv, h1, e1,Ab, b1⟩ := spec_word (nm h)
  have i1 : In h.blks.length No (nm h) h1 := Ab.inn (Nat.le_refl _)
  obtain ⟨pa, pc, h2, e2,Ac, a2⟩ := spec_PutM (sv := nilSl) (m := wordM) b1 .nil wordOk
  have i2 := i1.trans (Ac.inn i1.len)
  obtain ⟨gb, gs, h3, e3,Ad, ab3, as3⟩ := spec_GetM (a2.sl etB.size) (by rw [word_put]; decide)
  have i3 := i2.trans (Ad.inn i2.len)
  rw [word_get] at e3 ab3 as3
  rw [show gotV (some wordM) = wordM from rfl] at e3 ab3 as3
  rw [show gotE (some wordM) = 0 from rfl] at e3
  obtain ⟨ba, bc, rfl⟩ := ab3.shape
  obtain ⟨sa, sc, rfl⟩ := as3.shape
  have k4 := alMM h3
  obtain ⟨h4, st4, c4, s4, i4⟩ := mmvar (n0 := h.blks.length) (g := h3) i3.len wordM ba sa wordM.body.length bc wordM.stamp.length sc
  have i4 := i3.trans (i4 No)
  have l4 := ((a2.sl etB.size).same (Ad.same.trans s4)).row.len_eq etB.under
  rw [show (((putM wordM).length : Nat) : Int) = 7 by rw [word_put]; rfl] at l4
  have ab4 : SB h4 (.slice ba wordM.body.length bc) wordM.body := (ab3.same s4).sl etB.size
  have as4 : SB h4 (.slice sa wordM.stamp.length sc) wordM.stamp := (as3.same s4).sl etB.size
  obtain ⟨h5, e5,Af⟩ := spec_own ab4 as4
  have i5 := i4.trans (Af.inn i4.len)
  obtain ⟨wv6, h6, e6,Ag, b6⟩ := spec_word h5
  have i6 := i5.trans (Ag.inn i5.len)
  obtain ⟨h7, e7,Ah⟩ := spec_own (m := wordM) (sv := nilSl) b6 .nil
  have i7 := i6.trans (Ah.inn i6.len)
  have S47 := (Af.same.trans Ag.same).trans Ah.same
  obtain ⟨h8, e8,Ai⟩ := spec_alike (n := wordM) (sw := nilSl) (ab4.same S47) (as4.same S47) (b6.same Ah.same) .nil (Alike.refl _) wordOk.val wordOk.val
  have i8 := i7.trans (Ai.inn i7.len)
  obtain ⟨wv9, h9, e9,Aj, b9⟩ := spec_word h8
  have i9 := i8.trans (Aj.inn i8.len)
  obtain ⟨h10, e10,Ak⟩ := spec_SizeM (m := wordM) (sv := nilSl) b9 .nil wordOk
  rw [word_put, show ((7 : Nat) : Int) = 7 from rfl] at e10
  have i10 := i9.trans (Ak.inn i9.len)
  obtain ⟨wv11, h11, e11,Al, b11⟩ := spec_word h10
  have i11 := i10.trans (Al.inn i10.len)
  obtain ⟨h12, e12,An⟩ := spec_GoodM (m := wordM) (sv := nilSl) b11 .nil wordOk
  rw [word_good] at e12
  have i12 := i11.trans (An.inn i11.len)
  simp -implicitDefEqProofs (maxSteps := 1000000) (disch := omega) only [dcT, dcF, e1, e2, e3, k4, st4, l4, ldCM c4, e5, e6, e7, e8, e9, e10, e11, e12, eq_self, decide_true, ↓ret65, ↓cnd_true, ↓cnd_false, ↓Option.bind_some, ↓obH_some', bin_add, bin_sub, bin_mul, bin_lss, bin_leq, bin_gtr, bin_geq, bin_eql, bin_neq, un_not, un_neg, Option.bind_some, Option.bind_none, Option.map_some, cnd_true, cnd_false, pickV_true, pickV_false, gd_true, gd_false, gdV_true, gdV_false, gdH_true, gdH_false, gdS_true, gdS_false, wt_ff, wt_tt, wt_ft, wt_tf, wt_undef, obH_some', extractV_tuple, nilCheckV_ptr, againK_normal, againK_exit, againK_ret, blockK_normal, blockK_same, blockK_ret, seqK_normal, seqK_exit, seqK_ret, fin_done, if_true', if_false', Bool.not_true, Bool.not_false, idx0, idx1, idx2, idx3, idx4, chk_nil_l, chk_nil_r, done_nm]
  exact ⟨_, rfl, done_ext' i12⟩
end Go.Am
namespace Go.Am
open Go.Proofs
set_option maxRecDepth 100000
set_option linter.all false
abbrev MB := MT × Value × Value
abbrev mbL (x : MB) : List Value := msgL x.1 x.2.1 x.2.2
def mcells : List MB → List Value
  | [] => []
  | x :: l => mbL x ++ mcells l
theorem mcells_len : ∀ l : List MB, (mcells l).length = l.length * 10
  | [] => rfl
  | x :: l => by
    show (mbL x ++ mcells l).length = (l.length + 1) * 10
    rw [List.length_append, mcells_len l]
    show 10 + l.length * 10 = _
    omega
theorem mcells_drop : ∀ (l : List MB) (i : Nat) (hi : i < l.length), ((mcells l).drop (i * 10)).take 10 = mbL l[i]
  | x :: l, 0, _ => by
    rw [mcells, Nat.zero_mul, List.drop_zero, List.take_append_of_le_length (by show 10 ≤ 10; omega)]; rfl
  | x :: l, i + 1, hi => by
    rw [mcells, show (i + 1) * 10 = (mbL x).length + i * 10 by show _ = 10 + _; omega, List.drop_length_add_append]
    exact mcells_drop l i (by simpa using hi)
theorem mcells_set : ∀ (l : List MB) (i k : Nat) (v : Value) (y : MB) (hi : i < l.length), k < 10 → mbL y = (mbL l[i]).set k v → (mcells l).take (i * 10 + k) ++ [v] ++ (mcells l).drop (i * 10 + k + 1) = mcells (l.set i y)
  | x :: l, 0, k, v, y, _, hk, hy => by
    have hl : (mbL x).length = 10 := rfl
    rw [List.set_cons_zero, mcells, mcells, Nat.zero_mul, Nat.zero_add, List.take_append_of_le_length (by omega), List.drop_append_of_le_length (by omega), hy, List.getElem_cons_zero, List.set_eq_take_append_cons_drop, if_pos (by omega)]
    simp
  | x :: l, i + 1, k, v, y, hi, hk, hy => by
    rw [List.set_cons_succ, mcells, mcells, show (i + 1) * 10 + k = (mbL x).length + (i * 10 + k) by show _ = 10 + _; omega, List.take_length_add_append, Nat.add_assoc, List.drop_length_add_append, ← mcells_set l i k v y (by simpa using hi) hk hy]
    simp
theorem mcells_put : ∀ (l : List MB) (i : Nat) (y : MB), i < l.length → (mcells l).take (i * 10) ++ mbL y ++ (mcells l).drop (i * 10 + 10) = mcells (l.set i y)
  | x :: l, 0, y, _ => by
    rw [List.set_cons_zero, mcells, mcells, Nat.zero_mul, Nat.zero_add, List.take_zero, List.nil_append, show (10 : Nat) = (mbL x).length from rfl, List.drop_left]
  | x :: l, i + 1, y, hi => by
    rw [List.set_cons_succ, mcells, mcells, show (i + 1) * 10 = (mbL x).length + i * 10 by show _ = 10 + _; omega, List.take_length_add_append, Nat.add_assoc, List.drop_length_add_append, ← mcells_put l i y (by simpa using hi)]
    simp
structure MRow (h : Heap) (p : Nat) (l : List MB) : Prop where
  c : Cells h p 104 (mcells l)
  b : ∀ x ∈ l, SB h x.2.1 x.1.body ∧ blockOf x.2.1 ≠ some p
  s : ∀ x ∈ l, SB h x.2.2 x.1.stamp ∧ blockOf x.2.2 ≠ some p
theorem MRow.same {h h' : Heap} {p : Nat} {l : List MB} (M : MRow h p l) (s : Same h h') : MRow h' p l :=
  ⟨M.c.same s, fun x hx => ⟨(M.b x hx).1.same s, (M.b x hx).2⟩, fun x hx => ⟨(M.s x hx).1.same s, (M.s x hx).2⟩⟩
theorem MRow.ld {h : Heap} {p : Nat} {l : List MB} (M : MRow h p l) {i : Nat} (hi : i < l.length) : h.loadN p (i * 10) 10 = some (mbL l[i]) := by
  have := loadN_sub (M.c.loadN (mcells_len l)) (i := i * 10) (m := 10) (by have := hi; omega)
  rw [Nat.zero_add, mcells_drop l i hi] at this
  exact this
theorem mem_set' {α : Type} {l : List α} {i : Nat} {x y : α} (h : x ∈ l.set i y) : x ∈ l ∨ x = y := List.mem_or_eq_of_mem_set h
theorem MRow.st {h : Heap} {p : Nat} {l : List MB} (M : MRow h p l) {i k : Nat} (v : Value) (y : MB) (hi : i < l.length) (hk : k < 10) (hy : mbL y = (mbL l[i]).set k v) (hb : SB h y.2.1 y.1.body ∧ blockOf y.2.1 ≠ some p) (hs : SB h y.2.2 y.1.stamp ∧ blockOf y.2.2 ≠ some p) :
    ∃ h', h.storeN p (i * 10 + k) [v] = some h' ∧ MRow h' p (l.set i y) ∧ h'.blks.length = h.blks.length ∧ (∀ q, q ≠ p → h'.blks[q]? = h.blks[q]?) := by
  have st := storeN_blk M.c (o := i * 10 + k) (vs := [v]) (by rw [mcells_len]; show _ + 1 ≤ _; omega)
  rw [show i * 10 + k + [v].length = i * 10 + k + 1 from rfl, mcells_set l i k v y hi hk hy] at st
  refine ⟨_, st, ⟨M.c.put _, fun x hx => ?_, fun x hx => ?_⟩, Heap.put_len _ _ _, fun q hq => Heap.put_other hq _⟩
  · rcases mem_set' hx with hx | rfl
    · exact ⟨(M.b x hx).1.keepPut (M.b x hx).2 _, (M.b x hx).2⟩
    · exact ⟨hb.1.keepPut hb.2 _, hb.2⟩
  · rcases mem_set' hx with hx | rfl
    · exact ⟨(M.s x hx).1.keepPut (M.s x hx).2 _, (M.s x hx).2⟩
    · exact ⟨hs.1.keepPut hs.2 _, hs.2⟩
theorem MRow.stM {h : Heap} {p : Nat} {l : List MB} (M : MRow h p l) {i : Nat} (y : MB) (hi : i < l.length) (hb : SB h y.2.1 y.1.body ∧ blockOf y.2.1 ≠ some p) (hs : SB h y.2.2 y.1.stamp ∧ blockOf y.2.2 ≠ some p) :
    ∃ h', h.storeN p (i * 10) (mbL y) = some h' ∧ MRow h' p (l.set i y) ∧ h'.blks.length = h.blks.length ∧ (∀ q, q ≠ p → h'.blks[q]? = h.blks[q]?) := by
  have st := storeN_blk M.c (o := i * 10) (vs := mbL y) (by rw [mcells_len]; show _ + 10 ≤ _; omega)
  rw [show i * 10 + (mbL y).length = i * 10 + 10 from rfl, mcells_put l i y hi] at st
  refine ⟨_, st, ⟨M.c.put _, fun x hx => ?_, fun x hx => ?_⟩, Heap.put_len _ _ _, fun q hq => Heap.put_other hq _⟩
  · rcases mem_set' hx with hx | rfl
    · exact ⟨(M.b x hx).1.keepPut (M.b x hx).2 _, (M.b x hx).2⟩
    · exact ⟨hb.1.keepPut hb.2 _, hb.2⟩
  · rcases mem_set' hx with hx | rfl
    · exact ⟨(M.s x hx).1.keepPut (M.s x hx).2 _, (M.s x hx).2⟩
    · exact ⟨hs.1.keepPut hs.2 _, hs.2⟩
theorem faMo0 (p o : Nat) : fieldAddrV Try.prog 104 (.pointer (some ⟨p, o, none⟩)) 0 = some (.pointer (some ⟨p, o + 0, none⟩)) := by kernel_rfl
theorem faMo1 (p o : Nat) : fieldAddrV Try.prog 104 (.pointer (some ⟨p, o, none⟩)) 1 = some (.pointer (some ⟨p, o + 1, none⟩)) := by kernel_rfl
theorem faMo2 (p o : Nat) : fieldAddrV Try.prog 104 (.pointer (some ⟨p, o, none⟩)) 2 = some (.pointer (some ⟨p, o + 2, none⟩)) := by kernel_rfl
theorem faMo3 (p o : Nat) : fieldAddrV Try.prog 104 (.pointer (some ⟨p, o, none⟩)) 3 = some (.pointer (some ⟨p, o + 3, none⟩)) := by kernel_rfl
theorem faMo4 (p o : Nat) : fieldAddrV Try.prog 104 (.pointer (some ⟨p, o, none⟩)) 4 = some (.pointer (some ⟨p, o + 4, none⟩)) := by kernel_rfl
theorem faMo5 (p o : Nat) : fieldAddrV Try.prog 104 (.pointer (some ⟨p, o, none⟩)) 5 = some (.pointer (some ⟨p, o + 5, none⟩)) := by kernel_rfl
theorem faMo6 (p o : Nat) : fieldAddrV Try.prog 104 (.pointer (some ⟨p, o, none⟩)) 6 = some (.pointer (some ⟨p, o + 6, none⟩)) := by kernel_rfl
theorem faMo7 (p o : Nat) : fieldAddrV Try.prog 104 (.pointer (some ⟨p, o, none⟩)) 7 = some (.pointer (some ⟨p, o + 7, none⟩)) := by kernel_rfl
theorem faMo8 (p o : Nat) : fieldAddrV Try.prog 104 (.pointer (some ⟨p, o, none⟩)) 8 = some (.pointer (some ⟨p, o + 8, none⟩)) := by kernel_rfl
theorem faMo9 (p o : Nat) : fieldAddrV Try.prog 104 (.pointer (some ⟨p, o, none⟩)) 9 = some (.pointer (some ⟨p, o + 9, none⟩)) := by kernel_rfl
theorem ldMo (p o : Nat) (h : Heap) : loadV Try.prog 104 (.pointer (some ⟨p, o, none⟩)) h = (h.loadN p o 10).map fun cs => .agg cs.toArray := by kernel_rfl
theorem stMo (p o : Nat) (a b c d e g t : Int) (f : Nat) (x y : Option Addr) (l k l2 k2 : Nat) (h : Heap) : storeV Try.prog 104 (.pointer (some ⟨p, o, none⟩)) (.agg #[.int .i64 a, .int .u64 b, .int .u64 c, .int .i64 d, .int .i64 e, .float .f64 f, .int .i64 g, .int .u64 t, .slice x l k, .slice y l2 k2]) h = h.storeN p o [.int .i64 a, .int .u64 b, .int .u64 c, .int .i64 d, .int .i64 e, .float .f64 f, .int .i64 g, .int .u64 t, .slice x l k, .slice y l2 k2] := by kernel_rfl
theorem stU (p o : Nat) (k : IntKind) (n : Int) (h : Heap) : storeV Try.prog 46 (.pointer (some ⟨p, o, none⟩)) (.int k n) h = h.storeN p o [.int k n] := by kernel_rfl
theorem stSet (p o : Nat) (k : IntKind) (n : Int) (h : Heap) : storeV Try.prog 47 (.pointer (some ⟨p, o, none⟩)) (.int k n) h = h.storeN p o [.int k n] := by kernel_rfl
theorem iaM (p n c j : Nat) (hj : j < n) : indexAddrV Try.prog 120 (.slice (some ⟨p, 0, none⟩) n c) (.int .i64 j) = some (.pointer (some ⟨p, j * 10, none⟩)) := by
  unfold indexAddrV
  simp only [show Try.prog.underlying 120 = some (.slice 104) by kernel_rfl, natOf_int, show sizeT Try.prog 104 = some 10 by kernel_rfl, if_pos hj, Nat.zero_add]
theorem MRow.ldA {h : Heap} {p : Nat} {l : List MB} (M : MRow h p l) {i : Nat} (hi : i < l.length) : loadV Try.prog 104 (.pointer (some ⟨p, i * 10, none⟩)) h = some (msgA l[i].1 l[i].2.1 l[i].2.2) := by
  rw [ldMo, M.ld hi]; rfl
attribute [local congr] obind_congr obH_congr cnd_congr chk_congr retK_congr codeK_congr
theorem spec_wordF (h : Heap) : ∃ bv h', evC Try.prog 75 #[] h = some (msgA wordM bv nilSl, h') ∧ HExt h h' ∧ SB h' bv wordM.body ∧ ∃ a c, bv = .slice a 1 c ∧ ∀ b, blockOf bv = some b → h.blks.length ≤ b := by
  rw [call75, c75_0_eq]
  have k1 := alMM (nm h)
  have c1 := Cells.new (nm h) 104 (msgL m00 nilSl nilSl)
  have i1 : In h.blks.length No (nm h) _ := In.new (by simp) (.cells (msgL m00 nilSl nilSl)) 104
  have bl : (nm h).blks.length = h.blks.length := rfl
  rw [bl] at k1 c1
  generalize (nm h).new (.cells (msgL m00 nilSl nilSl)) 104 = g1 at *
  have lt := c1.lt
  obtain ⟨g2, g3, k2, k3, s3, m3, i3, l3⟩ := lit_str (h := g1) (n0 := h.blks.length) i1.len 97
  rw [show (((97 : UInt8).toNat : Nat) : Int) = 97 from rfl] at k2
  have c3 := c1.same m3
  have i3 := i1.trans (i3 No)
  have st := storeN_blk c3 (o := 0) (vs := msgL wordM (.slice (some ⟨g1.blks.length, 0, none⟩) 1 1) nilSl) (by simp)
  rw [msgL_put] at st
  have c4 := c3.put (msgL wordM (.slice (some ⟨g1.blks.length, 0, none⟩) 1 1) nilSl)
  have i4 := i3.trans (In.put (p := h.blks.length) i3.len (.inl (Nat.le_refl _)) (.cells (msgL wordM (.slice (some ⟨g1.blks.length, 0, none⟩) 1 1) nilSl)))
  have b4 := s3.keepPut (p := h.blks.length) (by simp [blockOf]; omega) (.cells (msgL wordM (.slice (some ⟨g1.blks.length, 0, none⟩) 1 1) nilSl))
  rw [show msgL wordM (.slice (some ⟨g1.blks.length, 0, none⟩) 1 1) nilSl = [.int .i64 0, .int .u64 1, .int .u64 2, .int .i64 0, .int .i64 0, .float .f64 0, .int .i64 0, .int .u64 0, .slice (some ⟨g1.blks.length, 0, none⟩) 1 1, .slice none 0 0] from rfl] at st c4 i4 b4
  simp -implicitDefEqProofs (disch := omega) only [k1, k2, k3, bdMMw, stMM, st, ↓ret75, ↓cnd_true, ↓cnd_false, ↓Option.bind_some, ↓obH_some', bin_add, bin_sub, bin_mul, bin_lss, bin_leq, bin_gtr, bin_geq, bin_eql, bin_neq, un_not, un_neg, Option.bind_some, Option.bind_none, Option.map_some, cnd_true, cnd_false, pickV_true, pickV_false, gd_true, gd_false, gdV_true, gdV_false, gdH_true, gdH_false, gdS_true, gdS_false, wt_ff, wt_tt, wt_ft, wt_tf, wt_undef, obH_some', extractV_tuple, nilCheckV_ptr, againK_normal, againK_exit, againK_ret, blockK_normal, blockK_same, blockK_ret, seqK_normal, seqK_exit, seqK_ret, fin_done, if_true', if_false', Bool.not_true, Bool.not_false, idx0, idx1, idx2, idx3, idx4, chk_nil_l, chk_nil_r, done_nm]
  simp -implicitDefEqProofs only [ldMM, c4.loadN (n := 10) rfl, Option.map_some, Option.bind_some, rvals_one, fin_done]
  exact ⟨_, _, rfl, done_ext' i4, b4.done, _, _, rfl, fun b hb => by cases hb; exact Nat.le_of_lt lt⟩
end Go.Am
