/- What the functions answer, in the machine. -/
import Derived.Test.YtojjjicjpimhoaaKD
import Derived.Test.YtojjjicjpimhoaaChecked
import Derived.KernelRfl
set_option linter.all false
namespace Go.Am
open Go.Proofs
set_option maxRecDepth 100000
theorem etU : ElemT Try.prog 52 46 1 8 (.int .u64 0) := ⟨by kernel_rfl, by kernel_rfl, by kernel_rfl, by kernel_rfl, by omega, rfl, rfl⟩
theorem vld64 (p o : Nat) (h : Heap) : loadV Try.prog 46 (.pointer (some ⟨p, o, none⟩)) h = h.load1 p o := by kernel_rfl
theorem vst64 (p o : Nat) (k : IntKind) (n : Int) (h : Heap) : storeV Try.prog 46 (.pointer (some ⟨p, o, none⟩)) (.int k n) h = h.storeN p o [.int k n] := by kernel_rfl
theorem mkU0 (h : Heap) : buildSliceV Try.prog 52 0 #[] h = some (.slice (some ⟨h.blks.length, 0, none⟩) 0 0, h.new (.cells []) 46) := by kernel_rfl
theorem mkU1 (k : IntKind) (n : Int) (h : Heap) : buildSliceV Try.prog 52 1 #[(0, .int k n)] h = some (.slice (some ⟨h.blks.length, 0, none⟩) 1 1, h.new (.cells [.int k n]) 46) := by kernel_rfl
theorem mkU2 (k : IntKind) (n m : Int) (h : Heap) : buildSliceV Try.prog 52 2 #[(0, .int k n), (1, .int k m)] h = some (.slice (some ⟨h.blks.length, 0, none⟩) 2 2, h.new (.cells [.int k n, .int k m]) 46) := by kernel_rfl
theorem vbeql (xo yo : Operand) (a b : Bool) : binV Try.prog .eql 4 xo yo (.bool a) (.bool b) = some (.bool (a == b)) := bin_beql _ _ _ _ (by cases a <;> cases b <;> kernel_rfl)
abbrev SU (h : Heap) (v : Value) (ns : List Nat) : Prop := Sl Try.prog h 1 v ns.length (ns.map u64V)
abbrev AU (n0 : Nat) (h : Heap) (v : Value) (ns : List Nat) : Prop := Acc n0 h 46 1 v ns.length (ns.map u64V)
theorem AU.su {n0 : Nat} {h : Heap} {v : Value} {ns : List Nat} (a : AU n0 h v ns) : SU h v ns := a.sl etU.size
theorem nums_one (ns : List Nat) : (ns.map u64V).all Value.oneCell' = true := by
  rw [List.all_map, List.all_eq_true]; intro x _; rfl
theorem AU.lit {n0 : Nat} {h : Heap} (hn : n0 ≤ h.blks.length) (ns : List Nat) (hl : ns.length < 2 ^ 62) : AU n0 (h.new (.cells (ns.map u64V)) 46) (.slice (some ⟨h.blks.length, 0, none⟩) ns.length ns.length) ns :=
  .full hn hl (blk_new_self _ _ _) (by simp) (by rw [List.drop_zero, List.take_of_length_le (by simp)])
theorem app_nums {t t1 : TypeId} (et : ElemT Try.prog t 46 1 8 (.int .u64 0)) (et1 : Try.prog.underlying t1 = some (.slice 46)) {n0 : Nat} {h : Heap} (hn0 : n0 ≤ h.blks.length) {v x : Value} {bs cs : List Nat} (ha : AU n0 h v bs) (hx : SU h x cs) (hl : bs.length + cs.length < 2 ^ 40) :
    ∃ a c h', appendV Try.prog t (some t1) v x h = some (.slice a (bs ++ cs).length c, h') ∧ AU n0 h' (.slice a (bs ++ cs).length c) (bs ++ cs) ∧ Keeps n0 h h' ∧ (∀ b, b < h.blks.length → blockOf v ≠ some b → h'.blks[b]? = h.blks[b]?) := by
  obtain ⟨v', h', e1, e2, e3, e4, e5⟩ := append_acc et (t1 := some t1) hn0 ha (newsV_row et1 hx.row) (by simp) (by omega) (by omega) (nums_one cs)
  obtain ⟨a, c, rfl⟩ := e2.shape
  rw [← List.length_append] at e1 e2
  rw [← List.map_append] at e2
  exact ⟨a, c, h', e1, e2, e3, e4⟩
theorem getD_lt (ns : List Nat) (h : ∀ n ∈ ns, n < 2 ^ 64) (i : Nat) : ns.getD i 0 < 2 ^ 64 := by
  rw [List.getD_eq_getElem?_getD]
  cases e : ns[i]? with
  | none => simp
  | some x => exact h x (List.mem_of_getElem? e)
theorem map_get (ns : List Nat) {i : Nat} (hi : i < ns.length) : (ns.map u64V)[i]? = some (.int .u64 (ns.getD i 0 : Nat)) := by
  rw [List.getElem?_map, List.getElem?_eq_getElem hi, List.getD_eq_getElem?_getD, List.getElem?_eq_getElem hi]; rfl
theorem su_at {h : Heap} {v : Value} {ns : List Nat} (s : SU h v ns) {t : TypeId} (ht : Try.prog.underlying t = some (.slice 46)) {i : Nat} (hi : i < ns.length) :
    ∃ a, indexAddrV Try.prog t v (.int .i64 i) = some (.pointer (some a)) ∧ loadV Try.prog 46 (.pointer (some a)) h = some (.int .u64 (ns.getD i 0 : Nat)) := by
  obtain ⟨a, e1, e2, _⟩ := s.row.at1 ht etU.size (by kernel_rfl) hi .i64
  rw [map_get ns hi] at e2
  exact ⟨a, e1, e2⟩
theorem app_num {n0 : Nat} {h : Heap} (hn0 : n0 ≤ h.blks.length) {v : Value} {bs : List Nat} (ha : AU n0 h v bs) (b : Nat) (hl : bs.length < 2 ^ 39) :
    ∃ a c h', appendV Try.prog 52 (some 52) v (.slice (some ⟨h.blks.length, 0, none⟩) 1 1) (h.new (.cells [.int .u64 b]) 46) = some (.slice a (bs ++ [b]).length c, h') ∧ AU n0 h' (.slice a (bs ++ [b]).length c) (bs ++ [b]) ∧ Keeps n0 h h' ∧
      (∀ q, q < h.blks.length → blockOf v ≠ some q → h'.blks[q]? = h.blks[q]?) := by
  have ha' : AU n0 (h.new (.cells [.int .u64 b]) 46) v bs := ha.keep fun _ hb _ => Heap.new_old hb
  have hlit : SU (h.new (.cells [.int .u64 b]) 46) (.slice (some ⟨h.blks.length, 0, none⟩) 1 1) [b] :=
    .mk (by simp [Heap.loadN, Heap.cells?, blk_new_self]; rfl) (.inr ⟨Nat.le_refl _, by unfold UNK; omega⟩)
  obtain ⟨a, c, h', e1, e2, e3, e4⟩ := app_nums etU etU.under (n0 := n0) (by simp [Heap.new]; omega) ha' hlit (by simp; omega)
  exact ⟨a, c, h', e1, e2, (Keeps.new hn0 _ _).trans e3, fun q hq hne => (e4 q (by simp [Heap.new]; omega) hne).trans (Heap.new_old hq)⟩
end Go.Am
namespace Go.Am
open Go.Proofs
set_option maxRecDepth 100000
set_option linter.all false
attribute [local congr] obind_congr obH_congr cnd_congr chk_congr retK_congr codeK_congr
theorem vmaxI (a b : Int) (h : Heap) : builtinV Try.prog .max #[3, 3] #[.int .i64 a, .int .i64 b] h = some (.int .i64 (max a b), h) := by
  have e : builtinV Try.prog .max #[3, 3] #[.int .i64 a, .int .i64 b] h = some (.int .i64 (if b > a then b else a), h) := by kernel_rfl
  rw [e]
  have : (if b > a then b else a) = max a b := by split <;> omega
  rw [this]
theorem vminI (a b : Int) (h : Heap) : builtinV Try.prog .min #[3, 3] #[.int .i64 a, .int .i64 b] h = some (.int .i64 (min a b), h) := by
  have e : builtinV Try.prog .min #[3, 3] #[.int .i64 a, .int .i64 b] h = some (.int .i64 (if b < a then b else a), h) := by kernel_rfl
  rw [e]
  have : (if b < a then b else a) = min a b := by split <;> omega
  rw [this]
theorem In.same0 {h0 h : Heap} (k : In h0.blks.length No (nm h0) h) : Same h0 h := ⟨k.len, fun b hb => k.old b hb id⟩
def hasB (s : Nat) (p : Int) : Bool := decide (0 ≤ p ∧ p < 64) && s.testBit p.toNat
theorem shrN (t : TypeId) (xo yo : Operand) (yk : IntKind) (s p : Nat) (hs : s < 2 ^ 64) (hp : p < 64) : binV Try.prog .shr t xo yo (.int .u64 s) (.int yk p) = some (.int .u64 ((s / 2 ^ p : Nat) : Int)) := by
  rw [bin_shr64 _ _ _ _ _ _ (by omega) (by omega) (by omega), Int.toNat_natCast, Int.toNat_natCast]
theorem and1 (t : TypeId) (xo yo : Operand) (q : Nat) (hq : q < 2 ^ 64) : binV Try.prog .and t xo yo (.int .u64 q) (.int .u64 1) = some (.int .u64 ((q % 2 : Nat) : Int)) := by
  rw [bin_and64 _ _ _ _ _ (by omega) (by omega) (by omega) (by omega), Int.toNat_natCast, show (1 : Int).toNat = 1 from rfl, Nat.and_one_is_mod]
theorem hasB_nat (s p : Nat) (hp : p < 64) : decide (((s / 2 ^ p % 2 : Nat) : Int) = 1) = hasB s p := by
  unfold hasB
  rw [decide_eq_true (show 0 ≤ (p : Int) ∧ (p : Int) < 64 by omega), Bool.true_and, Int.toNat_natCast, Nat.testBit_eq_decide_div_mod_eq]
  congr 1
  apply propext
  omega
theorem spec_Has (s : Nat) (hs : s < 2 ^ 64) (p : Int) (h : Heap) : evC Try.prog 112 #[.int .u64 s, .int .i64 p] h = some (.bool (hasB s p), h) := by
  rw [call112, c112_0_eq]
  by_cases hc : 0 ≤ p ∧ p < 64
  · obtain ⟨p, rfl⟩ : ∃ m : Nat, p = m := ⟨p.toNat, by omega⟩
    have hq : s / 2 ^ p < 2 ^ 64 := Nat.lt_of_le_of_lt (Nat.div_le_self ..) hs
    have e1 := fun t xo yo => shrN t xo yo .i64 s p hs (by omega)
    have e2 := fun t xo yo => and1 t xo yo (s / 2 ^ p) hq
    simp -implicitDefEqProofs (disch := omega) only [dcT, dcF, e1, e2, hasB_nat, ↓ret112, ↓cnd_true, ↓cnd_false, ↓Option.bind_some, ↓obH_some', bin_add, bin_sub, bin_mul, bin_lss, bin_leq, bin_gtr, bin_geq, bin_eql, bin_neq, un_not, un_neg, Option.bind_some, Option.bind_none, Option.map_some, cnd_true, cnd_false, pickV_true, pickV_false, gd_true, gd_false, gdV_true, gdV_false, gdH_true, gdH_false, gdS_true, gdS_false, wt_ff, wt_tt, wt_ft, wt_tf, wt_undef, obH_some', extractV_tuple, nilCheckV_ptr, againK_normal, againK_exit, againK_ret, blockK_normal, blockK_same, blockK_ret, seqK_normal, seqK_exit, seqK_ret, fin_done, if_true', if_false', Bool.not_true, Bool.not_false, idx0, idx1, idx2, idx3, idx4, chk_nil_l, chk_nil_r, done_nm]
  · have e : hasB s p = false := by unfold hasB; rw [decide_eq_false hc]; rfl
    rw [e]
    by_cases h0 : 0 ≤ p
    · simp -implicitDefEqProofs (disch := omega) only [dcT, dcF, ↓ret112, ↓cnd_true, ↓cnd_false, ↓Option.bind_some, ↓obH_some', bin_add, bin_sub, bin_mul, bin_lss, bin_leq, bin_gtr, bin_geq, bin_eql, bin_neq, un_not, un_neg, Option.bind_some, Option.bind_none, Option.map_some, cnd_true, cnd_false, pickV_true, pickV_false, gd_true, gd_false, gdV_true, gdV_false, gdH_true, gdH_false, gdS_true, gdS_false, wt_ff, wt_tt, wt_ft, wt_tf, wt_undef, obH_some', extractV_tuple, nilCheckV_ptr, againK_normal, againK_exit, againK_ret, blockK_normal, blockK_same, blockK_ret, seqK_normal, seqK_exit, seqK_ret, fin_done, if_true', if_false', Bool.not_true, Bool.not_false, idx0, idx1, idx2, idx3, idx4, chk_nil_l, chk_nil_r, done_nm]
    · simp -implicitDefEqProofs (disch := omega) only [dcT, dcF, ↓ret112, ↓cnd_true, ↓cnd_false, ↓Option.bind_some, ↓obH_some', bin_add, bin_sub, bin_mul, bin_lss, bin_leq, bin_gtr, bin_geq, bin_eql, bin_neq, un_not, un_neg, Option.bind_some, Option.bind_none, Option.map_some, cnd_true, cnd_false, pickV_true, pickV_false, gd_true, gd_false, gdV_true, gdV_false, gdH_true, gdH_false, gdS_true, gdS_false, wt_ff, wt_tt, wt_ft, wt_tf, wt_undef, obH_some', extractV_tuple, nilCheckV_ptr, againK_normal, againK_exit, againK_ret, blockK_normal, blockK_same, blockK_ret, seqK_normal, seqK_exit, seqK_ret, fin_done, if_true', if_false', Bool.not_true, Bool.not_false, idx0, idx1, idx2, idx3, idx4, chk_nil_l, chk_nil_r, done_nm]
theorem cvUint (n : Int) (h : Heap) (h0 : 0 ≤ n) (h1 : n < 2 ^ 63) : convV Try.prog 3 138 (.int .i64 n) h = some (.int .u64 n, h) := conv_u64 (ks := .i64) (by kernel_rfl) (by kernel_rfl) _ _ _ h0 (by omega)
theorem spec_In (s : Nat) (hs : s < 2 ^ 64) (p : Int) (h : Heap) : evC Try.prog 114 #[.int .u64 s, .int .i64 p] h = some (.bool (hasB s p), h) := by
  rw [call114, c114_0_eq]
  by_cases hc : 0 ≤ p ∧ p < 64
  · obtain ⟨p, rfl⟩ : ∃ m : Nat, p = m := ⟨p.toNat, by omega⟩
    have hq : s / 2 ^ p < 2 ^ 64 := Nat.lt_of_le_of_lt (Nat.div_le_self ..) hs
    have e1 := fun t xo yo => shrN t xo yo .u64 s p hs (by omega)
    have e2 := fun t xo yo => and1 t xo yo (s / 2 ^ p) hq
    simp -implicitDefEqProofs (disch := omega) only [dcT, dcF, cvUint, e1, e2, hasB_nat, ↓ret114, ↓cnd_true, ↓cnd_false, ↓Option.bind_some, ↓obH_some', bin_add, bin_sub, bin_mul, bin_lss, bin_leq, bin_gtr, bin_geq, bin_eql, bin_neq, un_not, un_neg, Option.bind_some, Option.bind_none, Option.map_some, cnd_true, cnd_false, pickV_true, pickV_false, gd_true, gd_false, gdV_true, gdV_false, gdH_true, gdH_false, gdS_true, gdS_false, wt_ff, wt_tt, wt_ft, wt_tf, wt_undef, obH_some', extractV_tuple, nilCheckV_ptr, againK_normal, againK_exit, againK_ret, blockK_normal, blockK_same, blockK_ret, seqK_normal, seqK_exit, seqK_ret, fin_done, if_true', if_false', Bool.not_true, Bool.not_false, idx0, idx1, idx2, idx3, idx4, chk_nil_l, chk_nil_r, done_nm]
  · have e : hasB s p = false := by unfold hasB; rw [decide_eq_false hc]; rfl
    rw [e]
    by_cases h0 : 0 ≤ p
    · simp -implicitDefEqProofs (disch := omega) only [dcT, dcF, ↓ret114, ↓cnd_true, ↓cnd_false, ↓Option.bind_some, ↓obH_some', bin_add, bin_sub, bin_mul, bin_lss, bin_leq, bin_gtr, bin_geq, bin_eql, bin_neq, un_not, un_neg, Option.bind_some, Option.bind_none, Option.map_some, cnd_true, cnd_false, pickV_true, pickV_false, gd_true, gd_false, gdV_true, gdV_false, gdH_true, gdH_false, gdS_true, gdS_false, wt_ff, wt_tt, wt_ft, wt_tf, wt_undef, obH_some', extractV_tuple, nilCheckV_ptr, againK_normal, againK_exit, againK_ret, blockK_normal, blockK_same, blockK_ret, seqK_normal, seqK_exit, seqK_ret, fin_done, if_true', if_false', Bool.not_true, Bool.not_false, idx0, idx1, idx2, idx3, idx4, chk_nil_l, chk_nil_r, done_nm]
    · simp -implicitDefEqProofs (disch := omega) only [dcT, dcF, ↓ret114, ↓cnd_true, ↓cnd_false, ↓Option.bind_some, ↓obH_some', bin_add, bin_sub, bin_mul, bin_lss, bin_leq, bin_gtr, bin_geq, bin_eql, bin_neq, un_not, un_neg, Option.bind_some, Option.bind_none, Option.map_some, cnd_true, cnd_false, pickV_true, pickV_false, gd_true, gd_false, gdV_true, gdV_false, gdH_true, gdH_false, gdS_true, gdS_false, wt_ff, wt_tt, wt_ft, wt_tf, wt_undef, obH_some', extractV_tuple, nilCheckV_ptr, againK_normal, againK_exit, againK_ret, blockK_normal, blockK_same, blockK_ret, seqK_normal, seqK_exit, seqK_ret, fin_done, if_true', if_false', Bool.not_true, Bool.not_false, idx0, idx1, idx2, idx3, idx4, chk_nil_l, chk_nil_r, done_nm]
theorem shl1 (t : TypeId) (xo yo : Operand) (p : Nat) (hp : p < 64) : binV Try.prog .shl t xo yo (.int .u64 1) (.int .i64 p) = some (.int .u64 ((2 ^ p : Nat) : Int)) := by
  have h2 : 2 ^ p < 2 ^ 64 := Nat.pow_lt_pow_right (by omega) hp
  rw [bin_shl64 _ _ _ _ _ _ (by omega) (by omega) (by omega), Int.toNat_natCast, show (1 : Int).toNat = 1 from rfl, Nat.one_mul, Nat.mod_eq_of_lt h2]
def allN (n : Nat) : Nat := 2 ^ n - 1
theorem spec_All (n : Nat) (hn : n < 64) (h : Heap) : evC Try.prog 80 #[.int .i64 n] h = some (.int .u64 (allN n : Nat), h) := by
  rw [call80, c80_0_eq]
  have hm : min (max (n : Int) 0) 64 = n := by omega
  have e1 := fun t xo yo => shl1 t xo yo n hn
  have e2 : ∀ t xo yo, binV Try.prog .sub t xo yo (.int .u64 ((2 ^ n : Nat) : Int)) (.int .u64 1) = some (.int .u64 (allN n : Nat)) := fun t xo yo => by
    have h2 : 2 ^ n < 2 ^ 64 := Nat.pow_lt_pow_right (by omega) hn
    have h1 : 1 ≤ 2 ^ n := Nat.one_le_two_pow
    rw [bin_sub, show ((2 ^ n : Nat) : Int) - 1 = (allN n : Nat) by unfold allN; omega, wrap_u64_nat, Nat.mod_eq_of_lt (by unfold allN; omega)]
  simp -implicitDefEqProofs only [vmaxI, vminI, hm, e1, e2, ↓ret80, ↓cnd_true, ↓cnd_false, ↓Option.bind_some, ↓obH_some', bin_add, bin_sub, bin_mul, bin_lss, bin_leq, bin_gtr, bin_geq, bin_eql, bin_neq, un_not, un_neg, Option.bind_some, Option.bind_none, Option.map_some, cnd_true, cnd_false, pickV_true, pickV_false, gd_true, gd_false, gdV_true, gdV_false, gdH_true, gdH_false, gdS_true, gdS_false, wt_ff, wt_tt, wt_ft, wt_tf, wt_undef, obH_some', extractV_tuple, nilCheckV_ptr, againK_normal, againK_exit, againK_ret, blockK_normal, blockK_same, blockK_ret, seqK_normal, seqK_exit, seqK_ret, fin_done, if_true', if_false', Bool.not_true, Bool.not_false, idx0, idx1, idx2, idx3, idx4, chk_nil_l, chk_nil_r, done_nm]
theorem HExt.amx {h h' : Heap} (e : HExt (nm h) h') : HExt h (am h' h) ∧ h'.mods = [] := ⟨⟨e.len, e.old, by rw [am_mods, e.mods]; rfl⟩, e.mods⟩
theorem Acc.blk {n0 : Nat} {h : Heap} {elem : TypeId} {es n : Nat} {v : Value} {cs : List Value} (a : Acc n0 h elem es v n cs) {b : Nat} (hb : blockOf v = some b) : ∃ all, h.blks[b]? = some ⟨.cells all, elem, true⟩ := by
  cases a with
  | nil => cases hb
  | full _ _ h1 _ _ => cases hb; exact ⟨_, h1⟩
  | unk _ h1 _ _ => cases hb; exact ⟨_, h1⟩
end Go.Am
namespace Go.Am
open Go.Proofs
/-- how many bytes a number takes -/
def sizeN (n : Nat) : Nat := if n < 128 then 1 else sizeN (n / 128) + 1
theorem sizeN_le (n : Nat) : ∀ k, n < 2 ^ (7 * k) → 1 ≤ k → sizeN n ≤ k := by
  induction n using Nat.strongRecOn with
  | _ n ih =>
    intro k hk h1
    rw [sizeN]
    split
    · omega
    · rename_i h
      obtain ⟨k, rfl⟩ : ∃ j, k = j + 1 := ⟨k - 1, by omega⟩
      have : 1 ≤ k := by
        rcases Nat.eq_zero_or_pos k with rfl | h'
        · simp at hk; omega
        · exact h'
      have := ih (n / 128) (by omega) k (by
        rw [Nat.div_lt_iff_lt_mul (by omega)]
        have e : 2 ^ (7 * (k + 1)) = 2 ^ (7 * k) * 128 := by rw [Nat.mul_add, Nat.pow_add]
        omega) this
      omega
theorem fdiv_128 (n : Nat) : Int.fdiv (n : Int) 128 = ((n / 128 : Nat) : Int) := by
  rw [Int.fdiv_eq_ediv_of_nonneg _ (by omega)]; omega
theorem size_loop (h0 h : Heap) (n : Nat) : ∀ (k : Nat) (x1 x2 x4 x5 x6 x7 x8 x9 x10 : Value), k + sizeN n < 1000 → 0 < k →
    loopK Try.prog (evC Try.prog) c124_1 ⟨#[.int .u64 n, x1, x2, .int .i64 k, x4, x5, x6, x7, x8, x9, x10], h⟩ (blockK 0 (seqK Try.prog (evC Try.prog) c124_2 (retK Try.f124 Try.prog h0))) =
      fin h0 (some (.int .i64 ((k - 1 + sizeN n : Nat) : Int))) h := by
  induction n using Nat.strongRecOn with
  | _ n ih =>
    intro k x1 x2 x4 x5 x6 x7 x8 x9 x10 hk hk0
    rw [loopK_eq evC_m, c124_1_eq]
    simp only [bin_geq, Option.bind_some, cnd_dec]
    split
    · rename_i hge
      have hge : 128 ≤ n := by omega
      rw [bin_shr _ _ _ _ _ _ _ (by omega)]
      simp only [Option.bind_some, bin_add, againK_normal]
      have e3 : sizeN n = sizeN (n / 128) + 1 := by rw [sizeN, if_neg (by omega)]
      have e1 : Int.fdiv (n : Int) (2 ^ min (Int.toNat 7) IntKind.u64.bits) = ((n / 128 : Nat) : Int) := fdiv_128 n
      have e2 : IntKind.wrap .i64 ((k : Int) + 1) = ((k + 1 : Nat) : Int) := by rw [wrap_i64] <;> omega
      rw [e1, e2, ih (n / 128) (by omega) (k + 1) _ _ _ _ _ _ _ _ _ (by omega) (by omega)]
      have e4 : k + 1 - 1 + sizeN (n / 128) = k - 1 + sizeN n := by omega
      rw [e4]
    · rename_i hlt
      have hlt : n < 128 := by omega
      simp only [againK_exit, blockK_same, seqK_normal]
      rw [c124_2_eq, ret124]
      have e3 : k - 1 + sizeN n = k := by rw [sizeN, if_pos hlt]; omega
      rw [e3]
theorem spec_Size (n : Nat) (hn : n < 2 ^ 64) (h : Heap) : evC Try.prog 124 #[.int .u64 n] h = some (.int .i64 (sizeN n), h) := by
  rw [call124, c124_0_eq]
  have := size_loop h (nm h) n 1 undef (Go.Value.int Go.IntKind.i64 0) undef undef undef undef undef undef undef (by have := sizeN_le n 10 (by omega) (by omega); omega) (by omega)
  simp only [Nat.sub_self, Nat.zero_add] at this
  exact this.trans (fin_same _ _)
end Go.Am
namespace Go.Am
open Go.Proofs
/-- a number's bytes -/
def putL (n : Nat) : List UInt8 := if n < 128 then [UInt8.ofNat n] else UInt8.ofNat (n % 128 + 128) :: putL (n / 128)
theorem putL_len (n : Nat) : (putL n).length = sizeN n := by
  induction n using Nat.strongRecOn with
  | _ n ih =>
    rw [putL, sizeN]
    split
    · rfl
    · rw [List.length_cons, ih (n / 128) (by omega)]
theorem etB : ElemT Try.prog 23 5 1 1 (.int .u8 0) := ⟨by kernel_rfl, by kernel_rfl, by kernel_rfl, by kernel_rfl, by omega, rfl, rfl⟩
theorem bs1 (k : IntKind) (m : Int) (h : Heap) : buildSliceV Try.prog 23 1 #[(0, .int k m)] h = some (.slice (some ⟨h.blks.length, 0, none⟩) 1 1, h.new (.cells [.int k m]) 5) := by kernel_rfl
theorem conv_22_5 (k : IntKind) (n : Int) (h : Heap) : convV Try.prog 46 5 (.int k n) h = some (.int .u8 (IntKind.wrap .u8 n), h) := conv_int (ks := .u64) (by kernel_rfl) (by kernel_rfl) k n h
theorem or128 (x : Fin 256) : (IntKind.wrap .u8 ((BitVec.ofInt 8 (x.val : Int) ||| BitVec.ofInt 8 128).toNat : Int)) = ((x.val % 128 + 128 : Nat) : Int) := by
  revert x; decide +kernel
theorem bin_or (P : Program) (t : TypeId) (xo yo : Operand) (k : IntKind) (a b : Int) : binV P .or t xo yo (.int k a) (.int k b) = some (.int k (k.wrap ((BitVec.ofInt k.bits a ||| BitVec.ofInt k.bits b).toNat))) :=
  bin_int t xo yo k k a b .or rfl (by simp [eqGuard, Go.binOp, Op.intBits])
theorem wrap8 (n : Nat) : IntKind.wrap .u8 (n : Int) = ((n % 256 : Nat) : Int) := by simp only [IntKind.wrap, IntKind.bits, IntKind.signed]; simp
theorem or_byte (t : TypeId) (xo yo : Operand) (n : Nat) : binV Try.prog .or t xo yo (.int .u8 (IntKind.wrap .u8 (n : Int))) (.int .u8 128) = some (byteV (UInt8.ofNat (n % 128 + 128))) := by
  rw [bin_or, wrap8]
  have := or128 ⟨n % 256, by omega⟩
  simp only at this
  show some (Value.int .u8 (IntKind.wrap .u8 ((BitVec.ofInt 8 ((n % 256 : Nat) : Int) ||| BitVec.ofInt 8 128).toNat))) = _
  rw [this]
  unfold byteV
  have e : (UInt8.ofNat (n % 128 + 128)).toNat = n % 256 % 128 + 128 := by simp; omega
  rw [e]
theorem small_byte (n : Nat) : Value.int .u8 (IntKind.wrap .u8 (n : Int)) = byteV (UInt8.ofNat n) := by
  rw [wrap8]; unfold byteV
  have e : (UInt8.ofNat n).toNat = n % 256 := by simp
  rw [e]
/-- one byte is appended -/
theorem app1 {n0 : Nat} {h : Heap} (hn0 : n0 ≤ h.blks.length) {v : Value} {n : Nat} {cs : List Value} (ha : Acc n0 h 5 1 v n cs) (hn : n < 2 ^ 40) (b : UInt8) :
    ∃ v' h', appendV Try.prog 23 (some 23) v (.slice (some ⟨h.blks.length, 0, none⟩) 1 1) (h.new (.cells [byteV b]) 5) = some (v', h') ∧ Acc n0 h' 5 1 v' (n + 1) (cs ++ [byteV b]) ∧ Keeps n0 h h' := by
  have ha' : Acc n0 (h.new (.cells [byteV b]) 5) 5 1 v n cs := ha.keep fun b hb _ => Heap.new_old hb
  have hr : Row (h.new (.cells [byteV b]) 5) 1 (.slice (some ⟨h.blks.length, 0, none⟩) 1 1) 1 [byteV b] := .mk (by simp [Heap.loadN, Heap.cells?, Heap.new])
  obtain ⟨v', h', h1, h2, h3, h4, h5⟩ := append_acc etB (t1 := some 23) (n0 := n0) (by simp [Heap.new]; omega) ha' (newsV_row etB.under hr) (by simp) (by omega) (by omega) (by simp [byteV, Value.oneCell'])
  exact ⟨v', h', h1, h2, (Keeps.new hn0 _ _).trans h3⟩
theorem put_loop (h0 : Heap) (n : Nat) : ∀ (h : Heap) (v : Value) (k : Nat) (cs : List Value) (x0 x2 x3 x4 x6 x7 x8 x9 x10 x11 x12 x13 x14 x15 x16 x17 x18 x19 x20 x21 x22 : Value),
    k + sizeN n < 2 ^ 40 → Keeps h0.blks.length (nm h0) h → Acc h0.blks.length h 5 1 v k cs →
    ∃ v' h', loopK Try.prog (evC Try.prog) c94_1 ⟨#[x0, .int .u64 n, x2, x3, x4, v, x6, x7, x8, x9, x10, x11, x12, x13, x14, x15, x16, x17, x18, x19, x20, x21, x22], h⟩ (blockK 0 (seqK Try.prog (evC Try.prog) c94_2 (retK Try.f94 Try.prog h0))) =
      some (v', h') ∧ HExt h0 h' ∧ Acc h0.blks.length h' 5 1 v' (k + sizeN n) (cs ++ (putL n).map byteV) := by
  induction n using Nat.strongRecOn with
  | _ n ih =>
    intro h v k cs x0 x2 x3 x4 x6 x7 x8 x9 x10 x11 x12 x13 x14 x15 x16 x17 x18 x19 x20 x21 x22 hk hkeep ha
    have hle : h0.blks.length ≤ h.blks.length := hkeep.len
    rw [loopK_eq evC_m, c94_1_eq]
    simp only [bin_geq, Option.bind_some, cnd_dec]
    by_cases hge : 128 ≤ n
    · rw [if_pos (by omega)]
      simp only [conv_22_5, obH_some', or_byte, Option.bind_some]
      obtain ⟨v', h', e1, e2, e3⟩ := app1 hle ha (by omega) (UInt8.ofNat (n % 128 + 128))
      rw [show byteV (UInt8.ofNat (n % 128 + 128)) = .int .u8 ((UInt8.ofNat (n % 128 + 128)).toNat : Int) from rfl] at e1
      rw [show byteV (UInt8.ofNat (n % 128 + 128)) = .int .u8 ((UInt8.ofNat (n % 128 + 128)).toNat : Int) from rfl, bs1]
      simp only [obH_some']
      rw [e1, bin_shr _ _ _ _ _ _ _ (by omega)]
      simp only [obH_some', Option.bind_some, againK_normal]
      have f1 : Int.fdiv (n : Int) (2 ^ min (Int.toNat 7) IntKind.u64.bits) = ((n / 128 : Nat) : Int) := fdiv_128 n
      have f3 : sizeN n = sizeN (n / 128) + 1 := by rw [sizeN, if_neg (by omega)]
      rw [f1]
      obtain ⟨v2, h2, g1, g2, g3⟩ := ih (n / 128) (by omega) h' v' (k + 1) _ x0 x2 x3 x4 x6 x7 _ _ _ _ _ _ _ _ _ _ _ _ _ _ _ (by omega) (hkeep.trans e3) e2
      refine ⟨v2, h2, g1, g2, ?_⟩
      have f4 : k + sizeN n = k + 1 + sizeN (n / 128) := by omega
      have f5 : cs ++ (putL n).map byteV = cs ++ [byteV (UInt8.ofNat (n % 128 + 128))] ++ (putL (n / 128)).map byteV := by
        rw [putL, if_neg (by omega)]; simp
      rw [f4, f5]; exact g3
    · rw [if_neg (by omega)]
      simp only [againK_exit, blockK_same, seqK_normal]
      rw [c94_2_eq]
      simp only [conv_22_5, obH_some', bs1]
      obtain ⟨v', h', e1, e2, e3⟩ := app1 hle ha (by omega) (UInt8.ofNat n)
      rw [← small_byte n] at e1 e2
      rw [e1]
      simp only [obH_some']
      rw [ret94, fin_done]
      refine ⟨_, _, rfl, done_ext (hkeep.trans e3), ?_⟩
      have f3 : sizeN n = 1 := by rw [sizeN, if_pos (by omega)]
      have f5 : (putL n).map byteV = [byteV (UInt8.ofNat n)] := by rw [putL, if_pos (by omega)]; rfl
      rw [f3, f5, ← small_byte n]
      exact e2.keep fun _ _ _ => rfl
theorem spec_Put (n : Nat) (hn : n < 2 ^ 64) (h : Heap) (b : Value) (k : Nat) (cs : List Value) (hb : Row h 1 b k cs) (hk : k < 2 ^ 39) (hone : cs.all Value.oneCell' = true) :
    ∃ v' h', evC Try.prog 94 #[b, .int .u64 n] h = some (v', h') ∧ HExt h h' ∧ Acc h.blks.length h' 5 1 v' (k + sizeN n) (cs ++ (putL n).map byteV) := by
  rw [call94, c94_0_eq]
  have hs := sizeN_le n 10 (by omega) (by omega)
  have hr : Row (nm h) 1 b k cs := hb.keep fun _ _ _ => rfl
  obtain ⟨v', h', h1, h2, h3, h4, h5⟩ := append_acc etB (t1 := some 23) (n0 := h.blks.length) (h := nm h) (Nat.le_refl _) .nil (newsV_row etB.under hr) (by simpa using hr.len) (by omega) (by omega) hone
  rw [h1]
  simp only [obH_some']
  obtain ⟨v2, h2', g1, g2, g3⟩ := put_loop h n h' v' (0 + k) _ b undef undef (Go.Value.slice Option.none 0 0) b v' undef undef undef undef undef undef undef undef undef undef undef undef undef undef undef (by omega) h3 h2
  exact ⟨v2, h2', g1, g2, by simpa using g3⟩
end Go.Am
namespace Go.Am
open Go.Proofs
def getLoop (n i : Nat) : List UInt8 → Nat × Nat
  | [] => (0, 0)
  | c :: l =>
    if i = 10 then (0, 0)
    else
      let n' := n ||| (c.toNat % 128 * 2 ^ (7 * i)) % 2 ^ 64
      if c.toNat < 128 then (if sizeN n' ≠ i + 1 ∨ (i = 9 ∧ c.toNat > 1) then (0, 0) else (n', i + 1)) else getLoop n' (i + 1) l
/-- the number that bytes begin with, and how many they are -/
def getL (l : List UInt8) : Nat × Nat := getLoop 0 0 l
theorem wrap64 (n : Nat) : IntKind.wrap .u64 (n : Int) = ((n % 2 ^ 64 : Nat) : Int) := by simp only [IntKind.wrap, IntKind.bits, IntKind.signed]; simp
theorem or64 (P : Program) (t : TypeId) (xo yo : Operand) (a b : Nat) (ha : a < 2 ^ 64) (hb : b < 2 ^ 64) : binV P .or t xo yo (.int .u64 a) (.int .u64 b) = some (.int .u64 ((a ||| b : Nat) : Int)) := by
  rw [bin_or]
  have e : (BitVec.ofInt IntKind.u64.bits (a : Int) ||| BitVec.ofInt IntKind.u64.bits (b : Int)).toNat = a ||| b := by
    show (BitVec.ofInt 64 (a : Int) ||| BitVec.ofInt 64 (b : Int)).toNat = a ||| b
    rw [BitVec.toNat_or]
    simp
    rw [Nat.mod_eq_of_lt ha, Nat.mod_eq_of_lt hb]
  rw [e, wrap64, Nat.mod_eq_of_lt (Nat.or_lt_two_pow ha hb)]
theorem and127 (x : Fin 256) : (IntKind.wrap .u8 ((BitVec.ofInt 8 (x.val : Int) &&& BitVec.ofInt 8 127).toNat : Int)) = ((x.val % 128 : Nat) : Int) := by
  revert x; decide +kernel
theorem bin_and (P : Program) (t : TypeId) (xo yo : Operand) (k : IntKind) (a b : Int) : binV P .and t xo yo (.int k a) (.int k b) = some (.int k (k.wrap ((BitVec.ofInt k.bits a &&& BitVec.ofInt k.bits b).toNat))) :=
  bin_int t xo yo k k a b .and rfl (by simp [eqGuard, Go.binOp, Op.intBits])
theorem and_byte (P : Program) (t : TypeId) (xo yo : Operand) (c : UInt8) : binV P .and t xo yo (byteV c) (.int .u8 127) = some (.int .u8 ((c.toNat % 128 : Nat) : Int)) := by
  unfold byteV
  rw [bin_and]
  have := and127 ⟨c.toNat, UInt8.toNat_lt c⟩
  simp only at this
  show some (Value.int .u8 (IntKind.wrap .u8 ((BitVec.ofInt 8 (c.toNat : Int) &&& BitVec.ofInt 8 127).toNat))) = _
  rw [this]
theorem conv_5_22 (n : Nat) (hn : n < 256) (h : Heap) : convV Try.prog 5 46 (.int .u8 n) h = some (.int .u64 n, h) := by
  rw [conv_int (ks := .u8) (kd := .u64) (by kernel_rfl) (by kernel_rfl), wrap64, Nat.mod_eq_of_lt (by omega)]
theorem wrapi (n : Nat) (hn : n < 2 ^ 63) : IntKind.wrap .i64 (n : Int) = n := by rw [wrap_i64] <;> omega
theorem shl64 (a i : Nat) (hi : i ≤ 9) : IntKind.wrap .u64 ((a : Int) * 2 ^ min ((7 * i : Nat) : Int).toNat IntKind.u64.bits) = ((a * 2 ^ (7 * i) % 2 ^ 64 : Nat) : Int) := by
  have e : min ((7 * i : Nat) : Int).toNat IntKind.u64.bits = 7 * i := by
    show min ((7 * i : Nat) : Int).toNat 64 = 7 * i
    omega
  have e2 : (a : Int) * 2 ^ (7 * i) = ((a * 2 ^ (7 * i) : Nat) : Int) := by push_cast; rfl
  rw [e, e2, wrap64]
theorem get_loop (h0 h : Heap) (v : Value) (bs : List UInt8) (hr : Row h 1 v bs.length (bs.map byteV)) (hk : Keeps h0.blks.length (nm h0) h) (hb : bs.length < 2 ^ 40) : ∀ (m i n : Nat), bs.length - i = m → i ≤ bs.length → n < 2 ^ 64 → i ≤ 10 →
    ∀ (x0 x1 x3 x4 x5 x9 x10 x11 x12 x13 x14 x15 x16 x17 x18 x19 x20 x21 x22 x23 x24 x25 x26 x27 x28 x29 x30 x31 x32 x33 x34 x35 x36 x37 x38 x39 x40 x41 : Value),
    loopK Try.prog (evC Try.prog) c96_1 ⟨#[x0, x1, .int .u64 n, x3, x4, x5, v, .int .i64 bs.length, .int .i64 i, x9, x10, x11, x12, x13, x14, x15, x16, x17, x18, x19, x20, x21, x22, x23, x24, x25, x26, x27, x28, x29, x30, x31, x32, x33, x34, x35, x36, x37, x38, x39, x40, x41], h⟩ (blockK 0 (seqK Try.prog (evC Try.prog) c96_2 (retK Try.f96 Try.prog h0))) =
      some (.tuple #[.int .u64 (getLoop n i (bs.drop i)).1, .int .i64 (getLoop n i (bs.drop i)).2], done h0 h) := by
  intro m
  induction m with
  | zero =>
    intro i n hm hi hn hi10 x0 x1 x3 x4 x5 x9 x10 x11 x12 x13 x14 x15 x16 x17 x18 x19 x20 x21 x22 x23 x24 x25 x26 x27 x28 x29 x30 x31 x32 x33 x34 x35 x36 x37 x38 x39 x40 x41
    rw [loopK_eq evC_m, c96_1_eq]
    simp only [bin_lss, Option.bind_some, cnd_dec]
    rw [if_neg (by omega)]
    simp only [againK_exit, blockK_same, seqK_normal]
    rw [c96_2_eq, ret96, fin_done, List.drop_of_length_le (by omega)]
    rfl
  | succ m ih =>
    intro i n hm hi hn hi10 x0 x1 x3 x4 x5 x9 x10 x11 x12 x13 x14 x15 x16 x17 x18 x19 x20 x21 x22 x23 x24 x25 x26 x27 x28 x29 x30 x31 x32 x33 x34 x35 x36 x37 x38 x39 x40 x41
    have hlt : i < bs.length := by omega
    rw [loopK_eq evC_m, c96_1_eq]
    simp only [bin_lss, Option.bind_some, cnd_dec]
    rw [if_pos (by omega)]
    obtain ⟨a, e1, e2, _⟩ := hr.at1 etB.under etB.size (by kernel_rfl) hlt .i64
    have e3 : (bs.map byteV)[i]? = some (byteV bs[i]) := by simp [hlt]
    rw [e3] at e2
    have ed : bs.drop i = bs[i] :: bs.drop (i + 1) := List.drop_eq_getElem_cons hlt
    rw [e1]
    simp only [Option.bind_some, e2, bin_eql, cnd_dec]
    generalize bs[i] = c at *
    by_cases h10 : i = 10
    · rw [if_pos (by omega)]
      simp only [againK_exit, blockK_same, seqK_normal]
      rw [c96_2_eq, ret96, fin_done, ed, getLoop, if_pos h10]
      rfl
    · rw [if_neg (by omega)]
      have hc := UInt8.toNat_lt c
      have hm7 : IntKind.wrap .i64 (7 * (i : Int)) = ((7 * i : Nat) : Int) := by rw [wrap_i64] <;> omega
      have hsh := shl64 (c.toNat % 128) i (by omega)
      have hn' : n ||| (c.toNat % 128 * 2 ^ (7 * i)) % 2 ^ 64 < 2 ^ 64 := Nat.or_lt_two_pow hn (Nat.mod_lt _ (by omega))
      have hl1 : IntKind.wrap .i64 ((i : Int) + 1) = ((i + 1 : Nat) : Int) := by rw [wrap_i64] <;> omega
      simp only [and_byte, Option.bind_some, conv_5_22 _ (show c.toNat % 128 < 256 by omega), obH_some', bin_mul, hm7, bin_shl _ _ _ _ _ _ _ (show (0 : Int) ≤ ((7 * i : Nat) : Int) by omega), hsh,
        or64 _ _ _ _ _ _ hn (Nat.mod_lt (c.toNat % 128 * 2 ^ (7 * i)) (show 0 < 2 ^ 64 by omega))]
      simp only [byteV, bin_lss, Option.bind_some, cnd_dec]
      rw [ed, getLoop, if_neg h10]
      simp only []
      generalize n ||| (c.toNat % 128 * 2 ^ (7 * i)) % 2 ^ 64 = n' at *
      by_cases h128 : c.toNat < 128
      · rw [if_pos (by omega), if_pos h128]
        rw [spec_Size n' hn' h]
        simp only [obH_some', bin_add, Option.bind_some, hl1, bin_neq]
        by_cases hs : sizeN n' = i + 1
        · have hd : decide (((sizeN n' : Nat) : Int) ≠ ((i + 1 : Nat) : Int)) = false := decide_eq_false (by omega)
          rw [hd]
          simp only [wt_ff]
          simp only [gd_true, gdV_true]
          rw [bin_eql, Option.bind_some]
          by_cases h9 : i = 9
          · have hd9 : decide ((i : Int) = 9) = true := decide_eq_true (by omega)
            rw [hd9]
            simp only [wt_tt]
            simp only [gd_true, gdV_true]
            rw [bin_gtr, Option.bind_some]
            by_cases hc1 : c.toNat > 1
            · have hdc : decide ((c.toNat : Int) > 1) = true := decide_eq_true (by omega)
              simp only [hdc, pickV_true, pickV_false, cnd_true, Option.bind_some, againK_exit, blockK_same, seqK_normal]
              rw [c96_2_eq, ret96, fin_done, if_pos (.inr ⟨h9, hc1⟩)]
              rfl
            · have hdc : decide ((c.toNat : Int) > 1) = false := decide_eq_false (by omega)
              simp only [hdc, pickV_true, pickV_false, cnd_false, Option.bind_some, againK_ret, blockK_ret, seqK_ret, bin_add, hl1]
              rw [ret96, fin_done, if_neg (by omega)]
          · have hd9 : decide ((i : Int) = 9) = false := decide_eq_false (by omega)
            simp only [hd9, wt_ft, gd_false, gdV_false, pickV_true, pickV_false, cnd_false, Option.bind_some, againK_ret, blockK_ret, seqK_ret, bin_add, hl1]
            rw [ret96, fin_done, if_neg (by omega)]
        · have hd : decide (((sizeN n' : Nat) : Int) ≠ ((i + 1 : Nat) : Int)) = true := decide_eq_true (by omega)
          simp only [hd, wt_tf, wt_undef, gd_false, gdV_false, pickV_true, cnd_true, Option.bind_some, againK_exit, blockK_same, seqK_normal]
          rw [c96_2_eq, ret96, fin_done, if_pos (.inl hs)]
          rfl
      · rw [if_neg (by omega), if_neg h128]
        simp only [bin_add, Option.bind_some, hl1, againK_normal]
        exact ih (i + 1) n' (by omega) (by omega) hn' (by omega) _ _ _ _ _ _ _ _ _ _ _ _ _ _ _ _ _ _ _ _ _ _ _ _ _ _ _ _ _ _ _ _ _ _ _ _ _ _
theorem spec_Get (h : Heap) (v : Value) (bs : List UInt8) (hr : Row h 1 v bs.length (bs.map byteV)) (hb : bs.length < 2 ^ 40) :
    evC Try.prog 96 #[v] h = some (.tuple #[.int .u64 (getL bs).1, .int .i64 (getL bs).2], h) := by
  rw [call96, c96_0_eq, (show Row (nm h) 1 v bs.length (bs.map byteV) from hr.keep fun _ _ _ => rfl).len_eq etB.under]
  simp only [Option.bind_some]
  have := get_loop h (nm h) v bs (hr.keep fun _ _ _ => rfl) (Keeps.refl (Nat.le_refl _)) hb bs.length 0 0 (by omega) (by omega) (by omega) (by omega) v undef (Go.Value.int Go.IntKind.i64 0) undef undef undef undef undef undef undef undef undef undef undef undef undef undef undef undef undef undef undef undef undef undef undef undef undef undef undef undef undef undef undef undef undef undef undef
  exact this
end Go.Am
namespace Go.Am
open Go.Proofs
theorem ldB (p o : Nat) (h : Heap) : loadV Try.prog 23 (.pointer (some ⟨p, o, none⟩)) h = h.load1 p o := by kernel_rfl
theorem ld64 (p o : Nat) (h : Heap) : loadV Try.prog 46 (.pointer (some ⟨p, o, none⟩)) h = h.load1 p o := by kernel_rfl
theorem ldBool (p o : Nat) (h : Heap) : loadV Try.prog 4 (.pointer (some ⟨p, o, none⟩)) h = h.load1 p o := by kernel_rfl
theorem ldInt (p o : Nat) (h : Heap) : loadV Try.prog 3 (.pointer (some ⟨p, o, none⟩)) h = h.load1 p o := by kernel_rfl
theorem stB (p o : Nat) (a : Option Addr) (n c : Nat) (h : Heap) : storeV Try.prog 23 (.pointer (some ⟨p, o, none⟩)) (.slice a n c) h = h.storeN p o [.slice a n c] := by kernel_rfl
theorem st64 (p o : Nat) (k : IntKind) (n : Int) (h : Heap) : storeV Try.prog 46 (.pointer (some ⟨p, o, none⟩)) (.int k n) h = h.storeN p o [.int k n] := by kernel_rfl
theorem stInt (p o : Nat) (k : IntKind) (n : Int) (h : Heap) : storeV Try.prog 3 (.pointer (some ⟨p, o, none⟩)) (.int k n) h = h.storeN p o [.int k n] := by kernel_rfl
theorem stBool (p o : Nat) (b : Bool) (h : Heap) : storeV Try.prog 4 (.pointer (some ⟨p, o, none⟩)) (.bool b) h = h.storeN p o [.bool b] := by kernel_rfl
theorem maxI (a b : Int) (h : Heap) : builtinV Try.prog .max #[3, 3] #[.int .i64 a, .int .i64 b] h = some (.int .i64 (max a b), h) := by
  have e : builtinV Try.prog .max #[3, 3] #[.int .i64 a, .int .i64 b] h = some (.int .i64 (if b > a then b else a), h) := by kernel_rfl
  rw [e]
  have : (if b > a then b else a) = max a b := by split <;> omega
  rw [this]
theorem nilB (xo yo : Operand) : binV Try.prog .eql 23 xo yo (.slice none 0 0) (.slice none 0 0) = some (.bool true) := by kernel_rfl
theorem mkB0 (h : Heap) : buildSliceV Try.prog 23 0 #[] h = some (.slice (some ⟨h.blks.length, 0, none⟩) 0 0, h.new (.cells []) 5) := by kernel_rfl
theorem mkB1 (k : IntKind) (n : Int) (h : Heap) : buildSliceV Try.prog 23 1 #[(0, .int k n)] h = some (.slice (some ⟨h.blks.length, 0, none⟩) 1 1, h.new (.cells [.int k n]) 5) := by kernel_rfl
theorem cvB8 (k : IntKind) (n : Nat) (h : Heap) : convV Try.prog 46 5 (.int k n) h = some (byteV (UInt8.ofNat n), h) := by
  rw [conv_int (ks := .u64) (kd := .u8) (by kernel_rfl) (by kernel_rfl), small_byte]
theorem cvI64 (n : Int) (h : Heap) (h0 : 0 ≤ n) (h1 : n < 2 ^ 63) : convV Try.prog 3 46 (.int .i64 n) h = some (.int .u64 n, h) := conv_u64 (ks := .i64) (by kernel_rfl) (by kernel_rfl) _ _ _ h0 (by omega)
theorem cvU64 (n : Int) (h : Heap) (h0 : 0 ≤ n) (h1 : n < 2 ^ 63) : convV Try.prog 46 3 (.int .u64 n) h = some (.int .i64 n, h) := conv_i64 (ks := .u64) (by kernel_rfl) (by kernel_rfl) _ _ _ (by omega) h1
theorem beql (xo yo : Operand) (a b : Bool) : binV Try.prog .eql 4 xo yo (.bool a) (.bool b) = some (.bool (a == b)) := bin_beql _ _ _ _ (by cases a <;> cases b <;> kernel_rfl)
theorem bneq (xo yo : Operand) (a b : Bool) : binV Try.prog .neq 4 xo yo (.bool a) (.bool b) = some (.bool (!(a == b))) := bin_bneq _ _ _ _ (by cases a <;> cases b <;> kernel_rfl)
/-- bytes, held by a slice -/
abbrev SB (h : Heap) (v : Value) (bs : List UInt8) : Prop := Sl Try.prog h 1 v bs.length (bs.map byteV)
abbrev AB (n0 : Nat) (h : Heap) (v : Value) (bs : List UInt8) : Prop := Acc n0 h 5 1 v bs.length (bs.map byteV)
theorem AB.sb {n0 : Nat} {h : Heap} {v : Value} {bs : List UInt8} (a : AB n0 h v bs) : SB h v bs := a.sl etB.size
theorem bytes_one (bs : List UInt8) : (bs.map byteV).all Value.oneCell' = true := by
  rw [List.all_map, List.all_eq_true]; intro x _; rfl
theorem AB.empty (n0 : Nat) (h : Heap) (hn : n0 ≤ h.blks.length) : AB n0 (h.new (.cells []) 5) (.slice (some ⟨h.blks.length, 0, none⟩) 0 0) [] := .full (all := []) hn (by omega) (blk_new_self _ _ _) (by simp) rfl
/-- bytes are appended -/
theorem app_bytes {n0 : Nat} {h : Heap} (hn0 : n0 ≤ h.blks.length) {v x : Value} {bs cs : List UInt8} (ha : AB n0 h v bs) (hx : SB h x cs) (hl : bs.length + cs.length < 2 ^ 44) :
    ∃ a c h', appendV Try.prog 23 (some 23) v x h = some (.slice a (bs ++ cs).length c, h') ∧ AB n0 h' (.slice a (bs ++ cs).length c) (bs ++ cs) ∧ Keeps n0 h h' ∧ (∀ b, b < h.blks.length → blockOf v ≠ some b → h'.blks[b]? = h.blks[b]?) ∧
      (.slice a (bs ++ cs).length c = v ∧ h' = h ∨ blockOf (.slice a (bs ++ cs).length c) = some h.blks.length ∧ h.blks.length < h'.blks.length) := by
  obtain ⟨v', h', e1, e2, e3, e4, e5⟩ := append_acc etB (t1 := some 23) hn0 ha (newsV_row etB.under hx.row) (by simpa using hx.len) (by omega) (by omega) (bytes_one cs)
  obtain ⟨a, c, rfl⟩ := e2.shape
  rw [← List.length_append] at e1 e2 e5
  rw [← List.map_append] at e2
  exact ⟨a, c, h', e1, e2, e3, e4, e5⟩
theorem strB {h : Heap} {v : Value} {bs : List UInt8} (s : SB h v bs) : convV Try.prog 23 9 v h = some (strV bs, h) := by
  have hs : Try.prog.underlying 23 = some (.slice 5) := by kernel_rfl
  have hd : Try.prog.underlying 9 = some .string := by kernel_rfl
  have hb : isByteT Try.prog 5 = true := by kernel_rfl
  have hbo : ∀ l : List UInt8, bytesOf? (l.map byteV) = some l := by
    intro l
    induction l with
    | nil => rfl
    | cons x l ih =>
      rw [List.map_cons]
      unfold byteV bytesOf?
      rw [show (l.map byteV) = l.map byteV from rfl] at ih
      have : bytesOf? (l.map fun b => Value.int .u8 (b.toNat : Int)) = some l := ih
      change (bytesOf? (l.map byteV)).map _ = _
      rw [ih]
      simp
  unfold convV
  rw [hs, hd]
  rcases s.inv with ⟨rfl, _, h3⟩ | ⟨b, o, c, rfl, hl, _⟩
  · have : bs = [] := by simpa using h3
    subst this
    simp [hb]
    rfl
  · simp only [hb, if_true]
    rw [Nat.mul_one] at hl
    rw [hl, Option.bind_some, hbo]
    rfl
theorem sl_mid {h : Heap} {v : Value} {bs : List UInt8} (s : SB h v bs) {i j : Nat} (hij : i ≤ j) (hj : j ≤ bs.length) {lo hi : Option Value} (hlo : lo.elim (some 0) natOf? = some i) (hhi : hi.elim (some bs.length) natOf? = some j) :
    ∃ a c, sliceV Try.prog 23 v lo hi none h = some (.slice a ((bs.drop i).take (j - i)).length c) ∧ SB h (.slice a ((bs.drop i).take (j - i)).length c) ((bs.drop i).take (j - i)) ∧ blockOf (.slice a ((bs.drop i).take (j - i)).length c) = blockOf v := by
  obtain ⟨v3, e3, s3, b3⟩ := s.sub etB.under etB.size hij hj hlo hhi
  obtain ⟨a4, c4, rfl⟩ := s3.shape
  have el : ((bs.drop i).take (j - i)).length = j - i := by simp; omega
  rw [Nat.mul_one, Nat.mul_one, ← List.map_drop, ← List.map_take] at s3
  refine ⟨a4, c4, ?_⟩
  unfold SB
  rw [el]
  exact ⟨e3, s3, b3⟩
theorem sl_drop {h : Heap} {v : Value} {bs : List UInt8} (s : SB h v bs) {i : Nat} (hi : i ≤ bs.length) (k : IntKind) :
    ∃ a c, sliceV Try.prog 23 v (some (.int k i)) none none h = some (.slice a (bs.drop i).length c) ∧ SB h (.slice a (bs.drop i).length c) (bs.drop i) ∧ blockOf (.slice a (bs.drop i).length c) = blockOf v := by
  have := sl_mid s (i := i) (j := bs.length) hi (Nat.le_refl _) (lo := some (.int k i)) (hi := none) (natOf_int k _) rfl
  rwa [List.take_of_length_le (by simp)] at this
theorem sl_take {h : Heap} {v : Value} {bs : List UInt8} (s : SB h v bs) {i : Nat} (hi : i ≤ bs.length) (k : IntKind) :
    ∃ a c, sliceV Try.prog 23 v none (some (.int k i)) none h = some (.slice a (bs.take i).length c) ∧ SB h (.slice a (bs.take i).length c) (bs.take i) ∧ blockOf (.slice a (bs.take i).length c) = blockOf v := by
  have := sl_mid s (i := 0) (j := i) (Nat.zero_le _) hi (lo := none) (hi := some (.int k i)) rfl (natOf_int k _)
  rwa [List.drop_zero, Nat.sub_zero] at this
theorem mkBb (b : UInt8) (h : Heap) : buildSliceV Try.prog 23 1 #[(0, byteV b)] h = some (.slice (some ⟨h.blks.length, 0, none⟩) 1 1, h.new (.cells [byteV b]) 5) := mkB1 _ _ _
theorem lit1 (b : UInt8) (h : Heap) : SB (h.new (.cells [byteV b]) 5) (.slice (some ⟨h.blks.length, 0, none⟩) 1 1) [b] :=
  .mk (by simp [Heap.loadN, Heap.cells?, blk_new_self]) (.inr ⟨Nat.le_refl _, by unfold UNK; omega⟩)
/-- one byte more: the literal and the append -/
theorem app_b {n0 : Nat} {h : Heap} (hn0 : n0 ≤ h.blks.length) {v : Value} {bs : List UInt8} (ha : AB n0 h v bs) (b : UInt8) (hl : bs.length < 2 ^ 43) :
    ∃ a c h', appendV Try.prog 23 (some 23) v (.slice (some ⟨h.blks.length, 0, none⟩) 1 1) (h.new (.cells [byteV b]) 5) = some (.slice a (bs ++ [b]).length c, h') ∧ AB n0 h' (.slice a (bs ++ [b]).length c) (bs ++ [b]) ∧ Keeps n0 h h' ∧
      (∀ q, q < h.blks.length → blockOf v ≠ some q → h'.blks[q]? = h.blks[q]?) := by
  have ha' : AB n0 (h.new (.cells [byteV b]) 5) v bs := ha.keep fun _ hb _ => Heap.new_old hb
  obtain ⟨a, c, h', e1, e2, e3, e4, _⟩ := app_bytes (n0 := n0) (by simp [Heap.new]; omega) ha' (lit1 b h) (by simp; omega)
  exact ⟨a, c, h', e1, e2, (Keeps.new hn0 _ _).trans e3, fun q hq hne => (e4 q (by simp [Heap.new]; omega) hne).trans (Heap.new_old hq)⟩
theorem spec_Clone (h : Heap) (x : Value) (bs : List UInt8) (hx : SB h x bs) (hl : bs.length < 2 ^ 43) :
    ∃ a c h', evC Try.prog 95 #[x] h = some (.slice a bs.length c, h') ∧ HExt h h' ∧ AB h.blks.length h' (.slice a bs.length c) bs := by
  rw [call95, c95_0_eq]
  rcases hx.inv with ⟨rfl, _, h3⟩ | ⟨b, o, c, rfl, _, _⟩
  · have : bs = [] := by simpa using h3
    subst this
    simp -implicitDefEqProofs only [nilB, bin_add, bin_sub, bin_mul, bin_lss, bin_leq, bin_gtr, bin_geq, bin_eql, bin_neq, un_not, un_neg, Option.bind_some, Option.bind_none, Option.map_some, cnd_true, cnd_false, pickV_true, pickV_false, gd_true, gd_false, gdV_true, gdV_false, gdH_true, gdH_false, gdS_true, gdS_false, wt_ff, wt_tt, wt_ft, wt_tf, wt_undef, obH_some', extractV_tuple, nilCheckV_ptr, againK_normal, againK_exit, againK_ret, blockK_normal, blockK_same, blockK_ret, seqK_normal, seqK_exit, seqK_ret, fin_done, if_true', if_false', Bool.not_true, Bool.not_false, idx0, idx1, idx2, idx3, idx4, chk_nil_l, chk_nil_r, done_nm]
    rw [ret95, fin_done]
    exact ⟨none, 0, h, by simp, HExt.refl h, .nil⟩
  · simp -implicitDefEqProofs only [bin_nil_some (P := Try.prog) (t := 23) etB.under, mkB0, bin_add, bin_sub, bin_mul, bin_lss, bin_leq, bin_gtr, bin_geq, bin_eql, bin_neq, un_not, un_neg, Option.bind_some, Option.bind_none, Option.map_some, cnd_true, cnd_false, pickV_true, pickV_false, gd_true, gd_false, gdV_true, gdV_false, gdH_true, gdH_false, gdS_true, gdS_false, wt_ff, wt_tt, wt_ft, wt_tf, wt_undef, obH_some', extractV_tuple, nilCheckV_ptr, againK_normal, againK_exit, againK_ret, blockK_normal, blockK_same, blockK_ret, seqK_normal, seqK_exit, seqK_ret, fin_done, if_true', if_false', Bool.not_true, Bool.not_false, idx0, idx1, idx2, idx3, idx4, chk_nil_l, chk_nil_r, done_nm]
    obtain ⟨a, c', h', e1, e2, e3, e4, e5⟩ := app_bytes (n0 := h.blks.length) (by simp [Heap.new]) (AB.empty h.blks.length (nm h) (by simp)) (hx.nm.keepNew _ _) (by simp; omega)
    rw [e1]
    simp only [obH_some']
    rw [ret95, fin_done]
    exact ⟨a, c', _, rfl, done_ext' ((In.new (S := No) (by simp) _ _).trans e3.inn), e2.done⟩
theorem spec_PutB (n : Nat) (hn : n < 2 ^ 64) (h : Heap) (b : Value) (bs : List UInt8) (hb : SB h b bs) (hk : bs.length < 2 ^ 39) :
    ∃ a c h', evC Try.prog 94 #[b, .int .u64 n] h = some (.slice a (bs ++ putL n).length c, h') ∧ HExt h h' ∧ AB h.blks.length h' (.slice a (bs ++ putL n).length c) (bs ++ putL n) := by
  obtain ⟨v, h', e1, e2, e3⟩ := spec_Put n hn h b _ _ hb.row hk (bytes_one bs)
  obtain ⟨a, c, rfl⟩ := e3.shape
  rw [← putL_len, ← List.length_append] at e1 e3
  rw [← List.map_append] at e3
  exact ⟨a, c, h', e1, e2, e3⟩
end Go.Am
namespace Go.Am
open Go.Proofs
set_option maxRecDepth 100000
set_option linter.all false
attribute [local congr] obind_congr obH_congr cnd_congr chk_congr retK_congr codeK_congr
def flV (n : Nat) : Value := .float .f64 n
def nanB (n : Nat) : Bool := decide (2047 * 2 ^ 52 < n % 2 ^ 63)
theorem bits_of (n : Nat) (h : Heap) : callV Try.prog (evC Try.prog) (.func (.func 109) #[] #[]) #[.float .f64 n] h = some (.int .u64 n, h) := by kernel_rfl
theorem frombits (n : Nat) (h : Heap) : callV Try.prog (evC Try.prog) (.func (.func 108) #[] #[]) #[.int .u64 n] h = some (.float .f64 n, h) := by kernel_rfl
theorem floatEq_self (n : Nat) : Op.floatEq .f64 n n = !nanB n := by
  have h1 : ∀ b : Bool, compare b.toNat b.toNat = .eq := by intro b; cases b <;> rfl
  have key : Op.floatEq .f64 n n = !(Ieee.double.read n).isNaN := by
    unfold Op.floatEq
    show (Ieee.Datum.order (Ieee.double.read n) (Ieee.double.read n) == some .eq) = _
    generalize Ieee.double.read n = d
    cases d with
    | number s m i => simp [Ieee.Datum.order, Ieee.Datum.isNaN]
    | infinity s => simp [Ieee.Datum.order, Ieee.Datum.isNaN]
    | nan s t => simp [Ieee.Datum.order, Ieee.Datum.isNaN]
  rw [key]
  congr 1
  have e1 : Ieee.double.signWeight = 2 ^ 63 := by decide
  have e2 : Ieee.double.infRung = 2047 * 2 ^ 52 := by decide
  have e3 : Ieee.double.binade = 2 ^ 52 := by decide
  unfold Ieee.Format.read nanB
  rw [e1, e2, e3]
  by_cases a : n % 2 ^ 63 < 2 ^ 52
  · rw [decide_eq_false (by omega)]; simp only [if_pos a]; rfl
  · simp only [if_neg a]
    by_cases b : n % 2 ^ 63 < 2047 * 2 ^ 52
    · rw [decide_eq_false (by omega)]; simp only [if_pos b]; rfl
    · simp only [if_neg b]
      by_cases c : n % 2 ^ 63 = 2047 * 2 ^ 52
      · rw [decide_eq_false (by omega)]; simp only [if_pos c]; rfl
      · rw [decide_eq_true (by omega)]; simp only [if_neg c]; rfl
theorem fl_neq (xo yo : Operand) (n : Nat) : binV Try.prog .neq 84 xo yo (.float .f64 n) (.float .f64 n) = some (.bool (nanB n)) := by
  have e : binV Try.prog .neq 84 xo yo (.float .f64 n) (.float .f64 n) = some (.bool (!(Op.floatEq .f64 n n))) := by kernel_rfl
  rw [e, floatEq_self, Bool.not_not]
theorem fl_eql (xo yo : Operand) (n : Nat) : binV Try.prog .eql 84 xo yo (.float .f64 n) (.float .f64 n) = some (.bool (!nanB n)) := by
  have e : binV Try.prog .eql 84 xo yo (.float .f64 n) (.float .f64 n) = some (.bool (Op.floatEq .f64 n n)) := by kernel_rfl
  rw [e, floatEq_self]
theorem spec_IsNaN (n : Nat) (h : Heap) : evC Try.prog 125 #[.float .f64 n] h = some (.bool (nanB n), h) := by
  rw [call125, c125_0_eq]
  simp -implicitDefEqProofs only [fl_neq, ↓ret125, ↓cnd_true, ↓cnd_false, ↓Option.bind_some, ↓obH_some', bin_add, bin_sub, bin_mul, bin_lss, bin_leq, bin_gtr, bin_geq, bin_eql, bin_neq, un_not, un_neg, Option.bind_some, Option.bind_none, Option.map_some, cnd_true, cnd_false, pickV_true, pickV_false, gd_true, gd_false, gdV_true, gdV_false, gdH_true, gdH_false, gdS_true, gdS_false, wt_ff, wt_tt, wt_ft, wt_tf, wt_undef, obH_some', extractV_tuple, nilCheckV_ptr, againK_normal, againK_exit, againK_ret, blockK_normal, blockK_same, blockK_ret, seqK_normal, seqK_exit, seqK_ret, fin_done, if_true', if_false', Bool.not_true, Bool.not_false, idx0, idx1, idx2, idx3, idx4, chk_nil_l, chk_nil_r, done_nm]
def nanBits : Nat := 9221120237041090561
theorem spec_NaN (h : Heap) : evC Try.prog 76 #[] h = some (.float .f64 nanBits, h) := by
  rw [call76, c76_0_eq]
  have e := fun h => frombits nanBits h
  rw [show ((nanBits : Nat) : Int) = 9221120237041090561 from rfl] at e
  simp -implicitDefEqProofs only [e, ↓ret76, ↓cnd_true, ↓cnd_false, ↓Option.bind_some, ↓obH_some', bin_add, bin_sub, bin_mul, bin_lss, bin_leq, bin_gtr, bin_geq, bin_eql, bin_neq, un_not, un_neg, Option.bind_some, Option.bind_none, Option.map_some, cnd_true, cnd_false, pickV_true, pickV_false, gd_true, gd_false, gdV_true, gdV_false, gdH_true, gdH_false, gdS_true, gdS_false, wt_ff, wt_tt, wt_ft, wt_tf, wt_undef, obH_some', extractV_tuple, nilCheckV_ptr, againK_normal, againK_exit, againK_ret, blockK_normal, blockK_same, blockK_ret, seqK_normal, seqK_exit, seqK_ret, fin_done, if_true', if_false', Bool.not_true, Bool.not_false, idx0, idx1, idx2, idx3, idx4, chk_nil_l, chk_nil_r, done_nm]
/-! bits -/
theorem and63 (n : Nat) (hn : n < 2 ^ 64) : (n &&& 2 ^ 63 = 0) ↔ n < 2 ^ 63 := by
  have h1 : n &&& 2 ^ 63 = (n.testBit 63).toNat * 2 ^ 63 := by
    apply Nat.eq_of_testBit_eq
    intro i
    rw [Nat.testBit_and, Nat.testBit_two_pow]
    by_cases h : 63 = i
    · subst h
      cases hb : n.testBit 63 <;> simp
      decide
    · rw [decide_eq_false h, Bool.and_false]
      cases hb : n.testBit 63
      · simp
      · simp only [Bool.toNat_true, Nat.one_mul, Nat.testBit_two_pow]; rw [decide_eq_false h]
  have h2 : n.testBit 63 = decide (2 ^ 63 ≤ n) := by
    rw [Nat.testBit_eq_decide_div_mod_eq]
    congr 1
    apply propext
    omega
  rw [h1, h2]
  by_cases h : 2 ^ 63 ≤ n
  · rw [decide_eq_true h]; exact ⟨fun e => by simp at e, fun e => absurd e (by omega)⟩
  · rw [decide_eq_false h]; exact ⟨fun _ => by omega, fun _ => by simp⟩
theorem or63 (n : Nat) (hn : n < 2 ^ 63) : n ||| 2 ^ 63 = n + 2 ^ 63 := by
  have := Nat.two_pow_add_eq_or_of_lt (i := 63) hn 1
  rw [Nat.mul_one, Nat.or_comm] at this
  rw [← this]; exact Nat.add_comm _ _
def keyF (n : Nat) : Nat := if nanB n = true then 2 ^ 64 - 1 else if n < 2 ^ 63 then n + 2 ^ 63 else 2 ^ 64 - 1 - n
theorem keyF_lt {n : Nat} (hn : n < 2 ^ 64) : keyF n < 2 ^ 64 := by unfold keyF; split; omega; split <;> omega
theorem a63 (t : TypeId) (xo yo : Operand) (n : Nat) (hn : n < 2 ^ 64) : binV Try.prog .and t xo yo (.int .u64 n) (.int .u64 9223372036854775808) = some (.int .u64 ((n &&& 2 ^ 63 : Nat) : Int)) := by
  rw [bin_and64 _ _ _ _ _ (by omega) (by omega) (by omega) (by omega), Int.toNat_natCast]; rfl
theorem o63 (t : TypeId) (xo yo : Operand) (n : Nat) (hn : n < 2 ^ 63) : binV Try.prog .or t xo yo (.int .u64 n) (.int .u64 9223372036854775808) = some (.int .u64 ((n + 2 ^ 63 : Nat) : Int)) := by
  rw [bin_or64 _ _ _ _ _ (by omega) (by omega) (by omega) (by omega), Int.toNat_natCast, ← or63 n hn]; rfl
theorem x63 (n : Nat) (hn : n < 2 ^ 64) : unV Try.prog .xor (.int .u64 n) = some (.int .u64 ((2 ^ 64 - 1 - n : Nat) : Int)) := by
  rw [un_xor64 _ (by omega) (by omega), Int.toNat_natCast]
theorem m63 (t : TypeId) (xo yo : Operand) (n : Nat) (hn : n < 2 ^ 64) : binV Try.prog .and t xo yo (.int .u64 n) (.int .u64 9223372036854775807) = some (.int .u64 ((n % 2 ^ 63 : Nat) : Int)) := by
  rw [bin_and64 _ _ _ _ _ (by omega) (by omega) (by omega) (by omega), Int.toNat_natCast, show (9223372036854775807 : Int).toNat = 2 ^ 63 - 1 from rfl, Nat.and_two_pow_sub_one_eq_mod]
theorem n63 (t : TypeId) (xo yo : Operand) (n : Nat) (hn : n < 2 ^ 64) : binV Try.prog .andNot t xo yo (.int .u64 n) (.int .u64 9223372036854775808) = some (.int .u64 ((n % 2 ^ 63 : Nat) : Int)) := by
  rw [bin_andNot64 _ _ _ _ _ (by omega) (by omega) (by omega) (by omega), Int.toNat_natCast, show 2 ^ 64 - 1 - (9223372036854775808 : Int).toNat = 2 ^ 63 - 1 from rfl, Nat.and_two_pow_sub_one_eq_mod]
theorem s63 (t : TypeId) (xo yo : Operand) (n : Nat) (hn : n < 2 ^ 64) : binV Try.prog .shr t xo yo (.int .u64 n) (.int .u64 63) = some (.int .u64 ((n / 2 ^ 63 : Nat) : Int)) := by
  rw [bin_shr64 _ _ _ _ _ _ (by omega) (by omega) (by omega), Int.toNat_natCast]; rfl
theorem spec_Key (n : Nat) (hn : n < 2 ^ 64) (h : Heap) : evC Try.prog 105 #[.float .f64 n] h = some (.int .u64 (keyF n : Nat), h) := by
  rw [call105, c105_0_eq]
  unfold keyF
  by_cases c : nanB n = true
  · rw [if_pos c]
    simp -implicitDefEqProofs only [bits_of, spec_IsNaN, c, ↓ret105, ↓cnd_true, ↓cnd_false, ↓Option.bind_some, ↓obH_some', bin_add, bin_sub, bin_mul, bin_lss, bin_leq, bin_gtr, bin_geq, bin_eql, bin_neq, un_not, un_neg, Option.bind_some, Option.bind_none, Option.map_some, cnd_true, cnd_false, pickV_true, pickV_false, gd_true, gd_false, gdV_true, gdV_false, gdH_true, gdH_false, gdS_true, gdS_false, wt_ff, wt_tt, wt_ft, wt_tf, wt_undef, obH_some', extractV_tuple, nilCheckV_ptr, againK_normal, againK_exit, againK_ret, blockK_normal, blockK_same, blockK_ret, seqK_normal, seqK_exit, seqK_ret, fin_done, if_true', if_false', Bool.not_true, Bool.not_false, idx0, idx1, idx2, idx3, idx4, chk_nil_l, chk_nil_r, done_nm]
    rfl
  · rw [if_neg c]
    have c' : nanB n = false := by simpa using c
    by_cases d : n < 2 ^ 63
    · rw [if_pos d]
      have e0 := (and63 n hn).2 d
      have e1 := fun t xo yo => a63 t xo yo n hn
      rw [e0] at e1
      have e2 := fun t xo yo => o63 t xo yo n d
      simp -implicitDefEqProofs (disch := omega) only [dcT, dcF, bits_of, spec_IsNaN, c', e1, e2, ↓ret105, ↓cnd_true, ↓cnd_false, ↓Option.bind_some, ↓obH_some', bin_add, bin_sub, bin_mul, bin_lss, bin_leq, bin_gtr, bin_geq, bin_eql, bin_neq, un_not, un_neg, Option.bind_some, Option.bind_none, Option.map_some, cnd_true, cnd_false, pickV_true, pickV_false, gd_true, gd_false, gdV_true, gdV_false, gdH_true, gdH_false, gdS_true, gdS_false, wt_ff, wt_tt, wt_ft, wt_tf, wt_undef, obH_some', extractV_tuple, nilCheckV_ptr, againK_normal, againK_exit, againK_ret, blockK_normal, blockK_same, blockK_ret, seqK_normal, seqK_exit, seqK_ret, fin_done, if_true', if_false', Bool.not_true, Bool.not_false, idx0, idx1, idx2, idx3, idx4, chk_nil_l, chk_nil_r, done_nm]
    · rw [if_neg d]
      have e0 : ¬ (n &&& 2 ^ 63) = 0 := fun e => d ((and63 n hn).1 e)
      have e1 := fun t xo yo => a63 t xo yo n hn
      have e2 := x63 n hn
      generalize n &&& 2 ^ 63 = q at *
      simp -implicitDefEqProofs (disch := omega) only [dcT, dcF, bits_of, spec_IsNaN, c', e1, e2, ↓ret105, ↓cnd_true, ↓cnd_false, ↓Option.bind_some, ↓obH_some', bin_add, bin_sub, bin_mul, bin_lss, bin_leq, bin_gtr, bin_geq, bin_eql, bin_neq, un_not, un_neg, Option.bind_some, Option.bind_none, Option.map_some, cnd_true, cnd_false, pickV_true, pickV_false, gd_true, gd_false, gdV_true, gdV_false, gdH_true, gdH_false, gdS_true, gdS_false, wt_ff, wt_tt, wt_ft, wt_tf, wt_undef, obH_some', extractV_tuple, nilCheckV_ptr, againK_normal, againK_exit, againK_ret, blockK_normal, blockK_same, blockK_ret, seqK_normal, seqK_exit, seqK_ret, fin_done, if_true', if_false', Bool.not_true, Bool.not_false, idx0, idx1, idx2, idx3, idx4, chk_nil_l, chk_nil_r, done_nm]
def ofK (k : Nat) : Nat × Bool := if k = 2 ^ 64 - 1 then (nanBits, true) else
  if nanB (if k < 2 ^ 63 then 2 ^ 64 - 1 - k else k - 2 ^ 63) = true then (0, false) else (if k < 2 ^ 63 then 2 ^ 64 - 1 - k else k - 2 ^ 63, true)
theorem ofK_lt (k : Nat) (hk : k < 2 ^ 64) : (ofK k).1 < 2 ^ 64 := by
  unfold ofK
  by_cases c : k = 2 ^ 64 - 1
  · rw [if_pos c]; decide
  · rw [if_neg c]
    by_cases d : k < 2 ^ 63
    · rw [if_pos d]
      by_cases e : nanB (2 ^ 64 - 1 - k) = true
      · rw [if_pos e]; show 0 < 2 ^ 64; omega
      · rw [if_neg e]; show 2 ^ 64 - 1 - k < 2 ^ 64; omega
    · rw [if_neg d]
      by_cases e : nanB (k - 2 ^ 63) = true
      · rw [if_pos e]; show 0 < 2 ^ 64; omega
      · rw [if_neg e]; show k - 2 ^ 63 < 2 ^ 64; omega
theorem spec_flOf (k : Nat) (hk : k < 2 ^ 64) (h : Heap) : evC Try.prog 103 #[.int .u64 k] h = some (.tuple #[.float .f64 (ofK k).1, .bool (ofK k).2], h) := by
  rw [call103, c103_0_eq]
  unfold ofK
  by_cases c : k = 2 ^ 64 - 1
  · subst c
    rw [if_pos rfl]
    simp -implicitDefEqProofs (disch := omega) only [dcT, dcF, spec_NaN, ↓ret103, ↓cnd_true, ↓cnd_false, ↓Option.bind_some, ↓obH_some', bin_add, bin_sub, bin_mul, bin_lss, bin_leq, bin_gtr, bin_geq, bin_eql, bin_neq, un_not, un_neg, Option.bind_some, Option.bind_none, Option.map_some, cnd_true, cnd_false, pickV_true, pickV_false, gd_true, gd_false, gdV_true, gdV_false, gdH_true, gdH_false, gdS_true, gdS_false, wt_ff, wt_tt, wt_ft, wt_tf, wt_undef, obH_some', extractV_tuple, nilCheckV_ptr, againK_normal, againK_exit, againK_ret, blockK_normal, blockK_same, blockK_ret, seqK_normal, seqK_exit, seqK_ret, fin_done, if_true', if_false', Bool.not_true, Bool.not_false, idx0, idx1, idx2, idx3, idx4, chk_nil_l, chk_nil_r, done_nm]
  · rw [if_neg c]
    have e1 := fun t xo yo => a63 t xo yo k hk
    have e2 := x63 k hk
    have e3 := fun t xo yo => n63 t xo yo k hk
    by_cases d : k < 2 ^ 63
    · rw [if_pos d]
      have e0 := (and63 k hk).2 d
      rw [e0] at e1
      by_cases n : nanB (2 ^ 64 - 1 - k) = true
      · rw [if_pos n]
        simp -implicitDefEqProofs (disch := omega) only [dcT, dcF, e1, e2, frombits, spec_IsNaN, n, ↓ret103, ↓cnd_true, ↓cnd_false, ↓Option.bind_some, ↓obH_some', bin_add, bin_sub, bin_mul, bin_lss, bin_leq, bin_gtr, bin_geq, bin_eql, bin_neq, un_not, un_neg, Option.bind_some, Option.bind_none, Option.map_some, cnd_true, cnd_false, pickV_true, pickV_false, gd_true, gd_false, gdV_true, gdV_false, gdH_true, gdH_false, gdS_true, gdS_false, wt_ff, wt_tt, wt_ft, wt_tf, wt_undef, obH_some', extractV_tuple, nilCheckV_ptr, againK_normal, againK_exit, againK_ret, blockK_normal, blockK_same, blockK_ret, seqK_normal, seqK_exit, seqK_ret, fin_done, if_true', if_false', Bool.not_true, Bool.not_false, idx0, idx1, idx2, idx3, idx4, chk_nil_l, chk_nil_r, done_nm]
      · have n' : nanB (2 ^ 64 - 1 - k) = false := by simpa using n
        rw [if_neg n]
        simp -implicitDefEqProofs (disch := omega) only [dcT, dcF, e1, e2, frombits, spec_IsNaN, n', ↓ret103, ↓cnd_true, ↓cnd_false, ↓Option.bind_some, ↓obH_some', bin_add, bin_sub, bin_mul, bin_lss, bin_leq, bin_gtr, bin_geq, bin_eql, bin_neq, un_not, un_neg, Option.bind_some, Option.bind_none, Option.map_some, cnd_true, cnd_false, pickV_true, pickV_false, gd_true, gd_false, gdV_true, gdV_false, gdH_true, gdH_false, gdS_true, gdS_false, wt_ff, wt_tt, wt_ft, wt_tf, wt_undef, obH_some', extractV_tuple, nilCheckV_ptr, againK_normal, againK_exit, againK_ret, blockK_normal, blockK_same, blockK_ret, seqK_normal, seqK_exit, seqK_ret, fin_done, if_true', if_false', Bool.not_true, Bool.not_false, idx0, idx1, idx2, idx3, idx4, chk_nil_l, chk_nil_r, done_nm]
    · rw [if_neg d]
      have e0 : ¬ (k &&& 2 ^ 63) = 0 := fun e => d ((and63 k hk).1 e)
      rw [show k % 2 ^ 63 = k - 2 ^ 63 by omega] at e3
      generalize k &&& 2 ^ 63 = q at *
      by_cases n : nanB (k - 2 ^ 63) = true
      · rw [if_pos n]
        simp -implicitDefEqProofs (disch := omega) only [dcT, dcF, e1, e2, e3, frombits, spec_IsNaN, n, ↓ret103, ↓cnd_true, ↓cnd_false, ↓Option.bind_some, ↓obH_some', bin_add, bin_sub, bin_mul, bin_lss, bin_leq, bin_gtr, bin_geq, bin_eql, bin_neq, un_not, un_neg, Option.bind_some, Option.bind_none, Option.map_some, cnd_true, cnd_false, pickV_true, pickV_false, gd_true, gd_false, gdV_true, gdV_false, gdH_true, gdH_false, gdS_true, gdS_false, wt_ff, wt_tt, wt_ft, wt_tf, wt_undef, obH_some', extractV_tuple, nilCheckV_ptr, againK_normal, againK_exit, againK_ret, blockK_normal, blockK_same, blockK_ret, seqK_normal, seqK_exit, seqK_ret, fin_done, if_true', if_false', Bool.not_true, Bool.not_false, idx0, idx1, idx2, idx3, idx4, chk_nil_l, chk_nil_r, done_nm]
      · have n' : nanB (k - 2 ^ 63) = false := by simpa using n
        rw [if_neg n]
        simp -implicitDefEqProofs (disch := omega) only [dcT, dcF, e1, e2, e3, frombits, spec_IsNaN, n', ↓ret103, ↓cnd_true, ↓cnd_false, ↓Option.bind_some, ↓obH_some', bin_add, bin_sub, bin_mul, bin_lss, bin_leq, bin_gtr, bin_geq, bin_eql, bin_neq, un_not, un_neg, Option.bind_some, Option.bind_none, Option.map_some, cnd_true, cnd_false, pickV_true, pickV_false, gd_true, gd_false, gdV_true, gdV_false, gdH_true, gdH_false, gdS_true, gdS_false, wt_ff, wt_tt, wt_ft, wt_tf, wt_undef, obH_some', extractV_tuple, nilCheckV_ptr, againK_normal, againK_exit, againK_ret, blockK_normal, blockK_same, blockK_ret, seqK_normal, seqK_exit, seqK_ret, fin_done, if_true', if_false', Bool.not_true, Bool.not_false, idx0, idx1, idx2, idx3, idx4, chk_nil_l, chk_nil_r, done_nm]
/-! the reference's -/
def clsF (n : Nat) : Int := if nanB n = true then 0 else if n % 2 ^ 63 = 2047 * 2 ^ 52 then (if n < 2 ^ 63 then 6 else 1) else if n % 2 ^ 63 = 0 then (if n < 2 ^ 63 then 4 else 3) else (if n < 2 ^ 63 then 5 else 2)
theorem spec_Class (n : Nat) (hn : n < 2 ^ 64) (h : Heap) : evC Try.prog 64 #[.float .f64 n] h = some (.int .i64 (clsF n), h) := by
  rw [call64, c64_0_eq]
  have e1 := fun t xo yo => s63 t xo yo n hn
  have e2 := fun t xo yo => m63 t xo yo n hn
  unfold clsF
  by_cases c : nanB n = true
  · rw [if_pos c]
    have c2 : 2047 * 2 ^ 52 < n % 2 ^ 63 := by unfold nanB at c; simpa using c
    simp -implicitDefEqProofs (disch := omega) only [dcT, dcF, bits_of, e1, e2, ↓ret64, ↓cnd_true, ↓cnd_false, ↓Option.bind_some, ↓obH_some', bin_add, bin_sub, bin_mul, bin_lss, bin_leq, bin_gtr, bin_geq, bin_eql, bin_neq, un_not, un_neg, Option.bind_some, Option.bind_none, Option.map_some, cnd_true, cnd_false, pickV_true, pickV_false, gd_true, gd_false, gdV_true, gdV_false, gdH_true, gdH_false, gdS_true, gdS_false, wt_ff, wt_tt, wt_ft, wt_tf, wt_undef, obH_some', extractV_tuple, nilCheckV_ptr, againK_normal, againK_exit, againK_ret, blockK_normal, blockK_same, blockK_ret, seqK_normal, seqK_exit, seqK_ret, fin_done, if_true', if_false', Bool.not_true, Bool.not_false, idx0, idx1, idx2, idx3, idx4, chk_nil_l, chk_nil_r, done_nm]
  · rw [if_neg c]
    have c2 : ¬ 2047 * 2 ^ 52 < n % 2 ^ 63 := by unfold nanB at c; simpa using c
    by_cases d : n < 2 ^ 63
    · simp only [if_pos d]
      by_cases f : n % 2 ^ 63 = 2047 * 2 ^ 52
      · rw [if_pos f]
        simp -implicitDefEqProofs (disch := omega) only [dcT, dcF, bits_of, e1, e2, ↓ret64, ↓cnd_true, ↓cnd_false, ↓Option.bind_some, ↓obH_some', bin_add, bin_sub, bin_mul, bin_lss, bin_leq, bin_gtr, bin_geq, bin_eql, bin_neq, un_not, un_neg, Option.bind_some, Option.bind_none, Option.map_some, cnd_true, cnd_false, pickV_true, pickV_false, gd_true, gd_false, gdV_true, gdV_false, gdH_true, gdH_false, gdS_true, gdS_false, wt_ff, wt_tt, wt_ft, wt_tf, wt_undef, obH_some', extractV_tuple, nilCheckV_ptr, againK_normal, againK_exit, againK_ret, blockK_normal, blockK_same, blockK_ret, seqK_normal, seqK_exit, seqK_ret, fin_done, if_true', if_false', Bool.not_true, Bool.not_false, idx0, idx1, idx2, idx3, idx4, chk_nil_l, chk_nil_r, done_nm]
      · rw [if_neg f]
        by_cases g : n % 2 ^ 63 = 0
        · rw [if_pos g]
          simp -implicitDefEqProofs (disch := omega) only [dcT, dcF, bits_of, e1, e2, ↓ret64, ↓cnd_true, ↓cnd_false, ↓Option.bind_some, ↓obH_some', bin_add, bin_sub, bin_mul, bin_lss, bin_leq, bin_gtr, bin_geq, bin_eql, bin_neq, un_not, un_neg, Option.bind_some, Option.bind_none, Option.map_some, cnd_true, cnd_false, pickV_true, pickV_false, gd_true, gd_false, gdV_true, gdV_false, gdH_true, gdH_false, gdS_true, gdS_false, wt_ff, wt_tt, wt_ft, wt_tf, wt_undef, obH_some', extractV_tuple, nilCheckV_ptr, againK_normal, againK_exit, againK_ret, blockK_normal, blockK_same, blockK_ret, seqK_normal, seqK_exit, seqK_ret, fin_done, if_true', if_false', Bool.not_true, Bool.not_false, idx0, idx1, idx2, idx3, idx4, chk_nil_l, chk_nil_r, done_nm]
        · rw [if_neg g]
          simp -implicitDefEqProofs (disch := omega) only [dcT, dcF, bits_of, e1, e2, ↓ret64, ↓cnd_true, ↓cnd_false, ↓Option.bind_some, ↓obH_some', bin_add, bin_sub, bin_mul, bin_lss, bin_leq, bin_gtr, bin_geq, bin_eql, bin_neq, un_not, un_neg, Option.bind_some, Option.bind_none, Option.map_some, cnd_true, cnd_false, pickV_true, pickV_false, gd_true, gd_false, gdV_true, gdV_false, gdH_true, gdH_false, gdS_true, gdS_false, wt_ff, wt_tt, wt_ft, wt_tf, wt_undef, obH_some', extractV_tuple, nilCheckV_ptr, againK_normal, againK_exit, againK_ret, blockK_normal, blockK_same, blockK_ret, seqK_normal, seqK_exit, seqK_ret, fin_done, if_true', if_false', Bool.not_true, Bool.not_false, idx0, idx1, idx2, idx3, idx4, chk_nil_l, chk_nil_r, done_nm]
    · simp only [if_neg d]
      by_cases f : n % 2 ^ 63 = 2047 * 2 ^ 52
      · rw [if_pos f]
        simp -implicitDefEqProofs (disch := omega) only [dcT, dcF, bits_of, e1, e2, ↓ret64, ↓cnd_true, ↓cnd_false, ↓Option.bind_some, ↓obH_some', bin_add, bin_sub, bin_mul, bin_lss, bin_leq, bin_gtr, bin_geq, bin_eql, bin_neq, un_not, un_neg, Option.bind_some, Option.bind_none, Option.map_some, cnd_true, cnd_false, pickV_true, pickV_false, gd_true, gd_false, gdV_true, gdV_false, gdH_true, gdH_false, gdS_true, gdS_false, wt_ff, wt_tt, wt_ft, wt_tf, wt_undef, obH_some', extractV_tuple, nilCheckV_ptr, againK_normal, againK_exit, againK_ret, blockK_normal, blockK_same, blockK_ret, seqK_normal, seqK_exit, seqK_ret, fin_done, if_true', if_false', Bool.not_true, Bool.not_false, idx0, idx1, idx2, idx3, idx4, chk_nil_l, chk_nil_r, done_nm]
      · rw [if_neg f]
        by_cases g : n % 2 ^ 63 = 0
        · rw [if_pos g]
          simp -implicitDefEqProofs (disch := omega) only [dcT, dcF, bits_of, e1, e2, ↓ret64, ↓cnd_true, ↓cnd_false, ↓Option.bind_some, ↓obH_some', bin_add, bin_sub, bin_mul, bin_lss, bin_leq, bin_gtr, bin_geq, bin_eql, bin_neq, un_not, un_neg, Option.bind_some, Option.bind_none, Option.map_some, cnd_true, cnd_false, pickV_true, pickV_false, gd_true, gd_false, gdV_true, gdV_false, gdH_true, gdH_false, gdS_true, gdS_false, wt_ff, wt_tt, wt_ft, wt_tf, wt_undef, obH_some', extractV_tuple, nilCheckV_ptr, againK_normal, againK_exit, againK_ret, blockK_normal, blockK_same, blockK_ret, seqK_normal, seqK_exit, seqK_ret, fin_done, if_true', if_false', Bool.not_true, Bool.not_false, idx0, idx1, idx2, idx3, idx4, chk_nil_l, chk_nil_r, done_nm]
        · rw [if_neg g]
          simp -implicitDefEqProofs (disch := omega) only [dcT, dcF, bits_of, e1, e2, ↓ret64, ↓cnd_true, ↓cnd_false, ↓Option.bind_some, ↓obH_some', bin_add, bin_sub, bin_mul, bin_lss, bin_leq, bin_gtr, bin_geq, bin_eql, bin_neq, un_not, un_neg, Option.bind_some, Option.bind_none, Option.map_some, cnd_true, cnd_false, pickV_true, pickV_false, gd_true, gd_false, gdV_true, gdV_false, gdH_true, gdH_false, gdS_true, gdS_false, wt_ff, wt_tt, wt_ft, wt_tf, wt_undef, obH_some', extractV_tuple, nilCheckV_ptr, againK_normal, againK_exit, againK_ret, blockK_normal, blockK_same, blockK_ret, seqK_normal, seqK_exit, seqK_ret, fin_done, if_true', if_false', Bool.not_true, Bool.not_false, idx0, idx1, idx2, idx3, idx4, chk_nil_l, chk_nil_r, done_nm]
theorem clsF_zero (n : Nat) : clsF n = 0 ↔ nanB n = true := by
  unfold clsF
  by_cases c : nanB n = true
  · simp [c]
  · rw [if_neg c]
    constructor
    · intro h; exfalso; revert h; split
      · split <;> omega
      · split
        · split <;> omega
        · split <;> omega
    · intro h; exact absurd h c
theorem spec_refKey (n : Nat) (hn : n < 2 ^ 64) (h : Heap) : evC Try.prog 107 #[.float .f64 n] h = some (.int .u64 (keyF n : Nat), h) := by
  rw [call107, c107_0_eq]
  have ec := fun h => spec_Class n hn h
  have ez := clsF_zero n
  unfold keyF
  by_cases c : nanB n = true
  · rw [if_pos c]
    rw [ez.2 c] at ec
    simp -implicitDefEqProofs (disch := omega) only [dcT, dcF, ec, ↓ret107, ↓cnd_true, ↓cnd_false, ↓Option.bind_some, ↓obH_some', bin_add, bin_sub, bin_mul, bin_lss, bin_leq, bin_gtr, bin_geq, bin_eql, bin_neq, un_not, un_neg, Option.bind_some, Option.bind_none, Option.map_some, cnd_true, cnd_false, pickV_true, pickV_false, gd_true, gd_false, gdV_true, gdV_false, gdH_true, gdH_false, gdS_true, gdS_false, wt_ff, wt_tt, wt_ft, wt_tf, wt_undef, obH_some', extractV_tuple, nilCheckV_ptr, againK_normal, againK_exit, againK_ret, blockK_normal, blockK_same, blockK_ret, seqK_normal, seqK_exit, seqK_ret, fin_done, if_true', if_false', Bool.not_true, Bool.not_false, idx0, idx1, idx2, idx3, idx4, chk_nil_l, chk_nil_r, done_nm]
    rfl
  · rw [if_neg c]
    have c' : clsF n ≠ 0 := fun e => c (ez.1 e)
    have e1 := fun t xo yo => s63 t xo yo n hn
    generalize clsF n = q at *
    by_cases d : n < 2 ^ 63
    · rw [if_pos d]
      have e2 := fun t xo yo => o63 t xo yo n d
      simp -implicitDefEqProofs (disch := omega) only [dcT, dcF, ec, bits_of, e1, e2, ↓ret107, ↓cnd_true, ↓cnd_false, ↓Option.bind_some, ↓obH_some', bin_add, bin_sub, bin_mul, bin_lss, bin_leq, bin_gtr, bin_geq, bin_eql, bin_neq, un_not, un_neg, Option.bind_some, Option.bind_none, Option.map_some, cnd_true, cnd_false, pickV_true, pickV_false, gd_true, gd_false, gdV_true, gdV_false, gdH_true, gdH_false, gdS_true, gdS_false, wt_ff, wt_tt, wt_ft, wt_tf, wt_undef, obH_some', extractV_tuple, nilCheckV_ptr, againK_normal, againK_exit, againK_ret, blockK_normal, blockK_same, blockK_ret, seqK_normal, seqK_exit, seqK_ret, fin_done, if_true', if_false', Bool.not_true, Bool.not_false, idx0, idx1, idx2, idx3, idx4, chk_nil_l, chk_nil_r, done_nm]
    · rw [if_neg d]
      have e2 := x63 n hn
      simp -implicitDefEqProofs (disch := omega) only [dcT, dcF, ec, bits_of, e1, e2, ↓ret107, ↓cnd_true, ↓cnd_false, ↓Option.bind_some, ↓obH_some', bin_add, bin_sub, bin_mul, bin_lss, bin_leq, bin_gtr, bin_geq, bin_eql, bin_neq, un_not, un_neg, Option.bind_some, Option.bind_none, Option.map_some, cnd_true, cnd_false, pickV_true, pickV_false, gd_true, gd_false, gdV_true, gdV_false, gdH_true, gdH_false, gdS_true, gdS_false, wt_ff, wt_tt, wt_ft, wt_tf, wt_undef, obH_some', extractV_tuple, nilCheckV_ptr, againK_normal, againK_exit, againK_ret, blockK_normal, blockK_same, blockK_ret, seqK_normal, seqK_exit, seqK_ret, fin_done, if_true', if_false', Bool.not_true, Bool.not_false, idx0, idx1, idx2, idx3, idx4, chk_nil_l, chk_nil_r, done_nm]
theorem spec_refOf (k : Nat) (hk : k < 2 ^ 64) (h : Heap) : evC Try.prog 104 #[.int .u64 k] h = some (.tuple #[.float .f64 (ofK k).1, .bool (ofK k).2], h) := by
  rw [call104, c104_0_eq]
  unfold ofK
  by_cases c : k = 2 ^ 64 - 1
  · subst c
    rw [if_pos rfl]
    simp -implicitDefEqProofs (disch := omega) only [dcT, dcF, spec_NaN, ↓ret104, ↓cnd_true, ↓cnd_false, ↓Option.bind_some, ↓obH_some', bin_add, bin_sub, bin_mul, bin_lss, bin_leq, bin_gtr, bin_geq, bin_eql, bin_neq, un_not, un_neg, Option.bind_some, Option.bind_none, Option.map_some, cnd_true, cnd_false, pickV_true, pickV_false, gd_true, gd_false, gdV_true, gdV_false, gdH_true, gdH_false, gdS_true, gdS_false, wt_ff, wt_tt, wt_ft, wt_tf, wt_undef, obH_some', extractV_tuple, nilCheckV_ptr, againK_normal, againK_exit, againK_ret, blockK_normal, blockK_same, blockK_ret, seqK_normal, seqK_exit, seqK_ret, fin_done, if_true', if_false', Bool.not_true, Bool.not_false, idx0, idx1, idx2, idx3, idx4, chk_nil_l, chk_nil_r, done_nm]
  · rw [if_neg c]
    have e1 := fun t xo yo => s63 t xo yo k hk
    have e2 := x63 k hk
    have e3 := fun t xo yo => m63 t xo yo k hk
    by_cases d : k < 2 ^ 63
    · rw [if_pos d]
      have ec := fun h => spec_Class (2 ^ 64 - 1 - k) (by omega) h
      have ez := clsF_zero (2 ^ 64 - 1 - k)
      by_cases n : nanB (2 ^ 64 - 1 - k) = true
      · rw [if_pos n]
        rw [ez.2 n] at ec
        simp -implicitDefEqProofs (disch := omega) only [dcT, dcF, e1, e2, frombits, ec, eq_self, decide_true, ↓ret104, ↓cnd_true, ↓cnd_false, ↓Option.bind_some, ↓obH_some', bin_add, bin_sub, bin_mul, bin_lss, bin_leq, bin_gtr, bin_geq, bin_eql, bin_neq, un_not, un_neg, Option.bind_some, Option.bind_none, Option.map_some, cnd_true, cnd_false, pickV_true, pickV_false, gd_true, gd_false, gdV_true, gdV_false, gdH_true, gdH_false, gdS_true, gdS_false, wt_ff, wt_tt, wt_ft, wt_tf, wt_undef, obH_some', extractV_tuple, nilCheckV_ptr, againK_normal, againK_exit, againK_ret, blockK_normal, blockK_same, blockK_ret, seqK_normal, seqK_exit, seqK_ret, fin_done, if_true', if_false', Bool.not_true, Bool.not_false, idx0, idx1, idx2, idx3, idx4, chk_nil_l, chk_nil_r, done_nm]
      · rw [if_neg n]
        have c' : clsF (2 ^ 64 - 1 - k) ≠ 0 := fun e => n (ez.1 e)
        generalize clsF (2 ^ 64 - 1 - k) = q at *
        simp -implicitDefEqProofs (disch := omega) only [dcT, dcF, e1, e2, frombits, ec, eq_self, decide_true, ↓ret104, ↓cnd_true, ↓cnd_false, ↓Option.bind_some, ↓obH_some', bin_add, bin_sub, bin_mul, bin_lss, bin_leq, bin_gtr, bin_geq, bin_eql, bin_neq, un_not, un_neg, Option.bind_some, Option.bind_none, Option.map_some, cnd_true, cnd_false, pickV_true, pickV_false, gd_true, gd_false, gdV_true, gdV_false, gdH_true, gdH_false, gdS_true, gdS_false, wt_ff, wt_tt, wt_ft, wt_tf, wt_undef, obH_some', extractV_tuple, nilCheckV_ptr, againK_normal, againK_exit, againK_ret, blockK_normal, blockK_same, blockK_ret, seqK_normal, seqK_exit, seqK_ret, fin_done, if_true', if_false', Bool.not_true, Bool.not_false, idx0, idx1, idx2, idx3, idx4, chk_nil_l, chk_nil_r, done_nm]
    · rw [if_neg d]
      rw [show k % 2 ^ 63 = k - 2 ^ 63 by omega] at e3
      have ec := fun h => spec_Class (k - 2 ^ 63) (by omega) h
      have ez := clsF_zero (k - 2 ^ 63)
      by_cases n : nanB (k - 2 ^ 63) = true
      · rw [if_pos n]
        rw [ez.2 n] at ec
        simp -implicitDefEqProofs (disch := omega) only [dcT, dcF, e1, e2, e3, frombits, ec, eq_self, decide_true, ↓ret104, ↓cnd_true, ↓cnd_false, ↓Option.bind_some, ↓obH_some', bin_add, bin_sub, bin_mul, bin_lss, bin_leq, bin_gtr, bin_geq, bin_eql, bin_neq, un_not, un_neg, Option.bind_some, Option.bind_none, Option.map_some, cnd_true, cnd_false, pickV_true, pickV_false, gd_true, gd_false, gdV_true, gdV_false, gdH_true, gdH_false, gdS_true, gdS_false, wt_ff, wt_tt, wt_ft, wt_tf, wt_undef, obH_some', extractV_tuple, nilCheckV_ptr, againK_normal, againK_exit, againK_ret, blockK_normal, blockK_same, blockK_ret, seqK_normal, seqK_exit, seqK_ret, fin_done, if_true', if_false', Bool.not_true, Bool.not_false, idx0, idx1, idx2, idx3, idx4, chk_nil_l, chk_nil_r, done_nm]
      · rw [if_neg n]
        have c' : clsF (k - 2 ^ 63) ≠ 0 := fun e => n (ez.1 e)
        generalize clsF (k - 2 ^ 63) = q at *
        simp -implicitDefEqProofs (disch := omega) only [dcT, dcF, e1, e2, e3, frombits, ec, eq_self, decide_true, ↓ret104, ↓cnd_true, ↓cnd_false, ↓Option.bind_some, ↓obH_some', bin_add, bin_sub, bin_mul, bin_lss, bin_leq, bin_gtr, bin_geq, bin_eql, bin_neq, un_not, un_neg, Option.bind_some, Option.bind_none, Option.map_some, cnd_true, cnd_false, pickV_true, pickV_false, gd_true, gd_false, gdV_true, gdV_false, gdH_true, gdH_false, gdS_true, gdS_false, wt_ff, wt_tt, wt_ft, wt_tf, wt_undef, obH_some', extractV_tuple, nilCheckV_ptr, againK_normal, againK_exit, againK_ret, blockK_normal, blockK_same, blockK_ret, seqK_normal, seqK_exit, seqK_ret, fin_done, if_true', if_false', Bool.not_true, Bool.not_false, idx0, idx1, idx2, idx3, idx4, chk_nil_l, chk_nil_r, done_nm]
theorem spec_refSame (a b : Nat) (ha : a < 2 ^ 64) (hb : b < 2 ^ 64) (h : Heap) : evC Try.prog 51 #[.float .f64 a, .float .f64 b] h = some (.bool (decide (keyF a = keyF b)), h) := by
  have ka := fun h => spec_refKey a ha h
  have kb := fun h => spec_refKey b hb h
  have e1 : ∀ h, evC Try.prog 101 #[.float .f64 a, .float .f64 b] h = some (.int .i64 (if keyF a < keyF b then -1 else if keyF b < keyF a then 1 else 0), h) := fun h => by
    rw [call101, c101_0_eq]
    generalize keyF a = x at *
    generalize keyF b = y at *
    by_cases c : x < y
    · rw [if_pos c]
      simp -implicitDefEqProofs (disch := omega) only [dcT, dcF, ka, kb, ↓ret101, ↓cnd_true, ↓cnd_false, ↓Option.bind_some, ↓obH_some', bin_add, bin_sub, bin_mul, bin_lss, bin_leq, bin_gtr, bin_geq, bin_eql, bin_neq, un_not, un_neg, Option.bind_some, Option.bind_none, Option.map_some, cnd_true, cnd_false, pickV_true, pickV_false, gd_true, gd_false, gdV_true, gdV_false, gdH_true, gdH_false, gdS_true, gdS_false, wt_ff, wt_tt, wt_ft, wt_tf, wt_undef, obH_some', extractV_tuple, nilCheckV_ptr, againK_normal, againK_exit, againK_ret, blockK_normal, blockK_same, blockK_ret, seqK_normal, seqK_exit, seqK_ret, fin_done, if_true', if_false', Bool.not_true, Bool.not_false, idx0, idx1, idx2, idx3, idx4, chk_nil_l, chk_nil_r, done_nm]
    · rw [if_neg c]
      by_cases d : y < x
      · rw [if_pos d]
        simp -implicitDefEqProofs (disch := omega) only [dcT, dcF, ka, kb, ↓ret101, ↓cnd_true, ↓cnd_false, ↓Option.bind_some, ↓obH_some', bin_add, bin_sub, bin_mul, bin_lss, bin_leq, bin_gtr, bin_geq, bin_eql, bin_neq, un_not, un_neg, Option.bind_some, Option.bind_none, Option.map_some, cnd_true, cnd_false, pickV_true, pickV_false, gd_true, gd_false, gdV_true, gdV_false, gdH_true, gdH_false, gdS_true, gdS_false, wt_ff, wt_tt, wt_ft, wt_tf, wt_undef, obH_some', extractV_tuple, nilCheckV_ptr, againK_normal, againK_exit, againK_ret, blockK_normal, blockK_same, blockK_ret, seqK_normal, seqK_exit, seqK_ret, fin_done, if_true', if_false', Bool.not_true, Bool.not_false, idx0, idx1, idx2, idx3, idx4, chk_nil_l, chk_nil_r, done_nm]
      · rw [if_neg d]
        simp -implicitDefEqProofs (disch := omega) only [dcT, dcF, ka, kb, ↓ret101, ↓cnd_true, ↓cnd_false, ↓Option.bind_some, ↓obH_some', bin_add, bin_sub, bin_mul, bin_lss, bin_leq, bin_gtr, bin_geq, bin_eql, bin_neq, un_not, un_neg, Option.bind_some, Option.bind_none, Option.map_some, cnd_true, cnd_false, pickV_true, pickV_false, gd_true, gd_false, gdV_true, gdV_false, gdH_true, gdH_false, gdS_true, gdS_false, wt_ff, wt_tt, wt_ft, wt_tf, wt_undef, obH_some', extractV_tuple, nilCheckV_ptr, againK_normal, againK_exit, againK_ret, blockK_normal, blockK_same, blockK_ret, seqK_normal, seqK_exit, seqK_ret, fin_done, if_true', if_false', Bool.not_true, Bool.not_false, idx0, idx1, idx2, idx3, idx4, chk_nil_l, chk_nil_r, done_nm]
  rw [call51, c51_0_eq]
  have e2 : decide ((if keyF a < keyF b then (-1 : Int) else if keyF b < keyF a then 1 else 0) = 0) = decide (keyF a = keyF b) := by
    congr 1
    apply propext
    split
    · omega
    · split <;> omega
  simp -implicitDefEqProofs only [e1, e2, ↓ret51, ↓cnd_true, ↓cnd_false, ↓Option.bind_some, ↓obH_some', bin_add, bin_sub, bin_mul, bin_lss, bin_leq, bin_gtr, bin_geq, bin_eql, bin_neq, un_not, un_neg, Option.bind_some, Option.bind_none, Option.map_some, cnd_true, cnd_false, pickV_true, pickV_false, gd_true, gd_false, gdV_true, gdV_false, gdH_true, gdH_false, gdS_true, gdS_false, wt_ff, wt_tt, wt_ft, wt_tf, wt_undef, obH_some', extractV_tuple, nilCheckV_ptr, againK_normal, againK_exit, againK_ret, blockK_normal, blockK_same, blockK_ret, seqK_normal, seqK_exit, seqK_ret, fin_done, if_true', if_false', Bool.not_true, Bool.not_false, idx0, idx1, idx2, idx3, idx4, chk_nil_l, chk_nil_r, done_nm]
theorem ofK_keyF (n : Nat) (hn : n < 2 ^ 64) : ofK (keyF n) = (if nanB n = true then nanBits else n, true) := by
  unfold keyF
  by_cases c : nanB n = true
  · rw [if_pos c, if_pos c]; rfl
  · rw [if_neg c, if_neg c]
    have c2 : ¬ 2047 * 2 ^ 52 < n % 2 ^ 63 := by unfold nanB at c; simpa using c
    unfold ofK
    by_cases d : n < 2 ^ 63
    · rw [if_pos d, if_neg (show ¬ n + 2 ^ 63 = 2 ^ 64 - 1 by omega), if_neg (show ¬ n + 2 ^ 63 < 2 ^ 63 by omega), show n + 2 ^ 63 - 2 ^ 63 = n by omega, if_neg c]
    · rw [if_neg d, if_neg (show ¬ 2 ^ 64 - 1 - n = 2 ^ 64 - 1 by omega), if_pos (show 2 ^ 64 - 1 - n < 2 ^ 63 by omega), show 2 ^ 64 - 1 - (2 ^ 64 - 1 - n) = n by omega, if_neg c]
end Go.Am
namespace Go.Am
open Go.Proofs
/-! plain: a reader, as what is left (none: bad) -/
def numP : Option (List UInt8) → Nat → Nat × Option (List UInt8)
  | none, _ => (0, none)
  | some bs, most => if (getL bs).2 = 0 ∨ most < (getL bs).1 then (0, none) else ((getL bs).1, some (bs.drop (getL bs).2))
def takeP : Option (List UInt8) → Nat → List UInt8 × Option (List UInt8)
  | none, _ => ([], none)
  | some bs, n => if bs.length < n then ([], none) else (bs.take n, some (bs.drop n))
def bytesP (r : Option (List UInt8)) (most : Nat) : List UInt8 × Option (List UInt8) := takeP (numP r most).2 (numP r most).1
def endP : Option (List UInt8) → Bool
  | some [] => true
  | _ => false
theorem getLoop_le : ∀ (l : List UInt8) (n i : Nat), n < 2 ^ 64 → (getLoop n i l).1 < 2 ^ 64 ∧ (getLoop n i l).2 ≤ i + l.length
  | [], n, i, h => by simp [getLoop]
  | c :: l, n, i, h => by
    rw [getLoop]
    have hn' : n ||| (c.toNat % 128 * 2 ^ (7 * i)) % 2 ^ 64 < 2 ^ 64 := Nat.or_lt_two_pow h (Nat.mod_lt _ (by omega))
    split
    · simp
    · simp only []
      split
      · split
        · simp
        · refine ⟨hn', ?_⟩
          simp only [List.length_cons]; omega
      · have := getLoop_le l _ (i + 1) hn'
        simp only [List.length_cons]
        exact ⟨this.1, by omega⟩
theorem getL_lt (l : List UInt8) : (getL l).1 < 2 ^ 64 := (getLoop_le l 0 0 (by omega)).1
theorem getL_len (l : List UInt8) : (getL l).2 ≤ l.length := by have := (getLoop_le l 0 0 (by omega)).2; unfold getL; omega
/-! the objects -/
def rbs (r : Option (List UInt8)) : List UInt8 := r.getD []
def Wr (n0 : Nat) (h : Heap) (p : Nat) (bs : List UInt8) : Prop := ∃ a c, Cells h p 146 [.slice a bs.length c] ∧ AB n0 h (.slice a bs.length c) bs ∧ blockOf (.slice a bs.length c) ≠ some p
/-- where a value leads: from L on, below p -/
def LoP (v : Value) (L p : Nat) : Prop := ∀ b, blockOf v = some b → L ≤ b ∧ b < p
theorem LoP.ne {v : Value} {L p : Nat} (l : LoP v L p) : blockOf v ≠ some p := fun e => by have := (l p e).2; omega
theorem LoP.to {v w : Value} {L p : Nat} (l : LoP v L p) (e : blockOf w = blockOf v) : LoP w L p := fun b hb => l b (by rw [← e]; exact hb)
theorem LoP.nil (L p : Nat) : LoP (.slice none 0 0) L p := fun b hb => by cases hb
def RdrL (L : Nat) (h : Heap) (p : Nat) (r : Option (List UInt8)) : Prop := ∃ a c, Cells h p 150 [.slice a (rbs r).length c, .bool r.isNone] ∧ SB h (.slice a (rbs r).length c) (rbs r) ∧ LoP (.slice a (rbs r).length c) L p
theorem Wr.lt {n0 : Nat} {h : Heap} {p : Nat} {bs : List UInt8} (w : Wr n0 h p bs) : p < h.blks.length := let ⟨_, _, c, _⟩ := w; c.lt
abbrev Rdr (h : Heap) (p : Nat) (r : Option (List UInt8)) : Prop := RdrL 0 h p r
theorem RdrL.dn {L : Nat} {h : Heap} {p : Nat} {r : Option (List UInt8)} (w : RdrL L h p r) : Rdr h p r := let ⟨a, c, x, y, z⟩ := w; ⟨a, c, x, y, fun b hb => ⟨Nat.zero_le _, (z b hb).2⟩⟩
theorem RdrL.lt {L : Nat} {h : Heap} {p : Nat} {r : Option (List UInt8)} (w : RdrL L h p r) : p < h.blks.length := let ⟨_, _, c, _⟩ := w; c.lt
theorem faW (p : Nat) : fieldAddrV Try.prog 146 (.pointer (some ⟨p, 0, none⟩)) 0 = some (.pointer (some ⟨p, 0, none⟩)) := by kernel_rfl
theorem faR0 (p : Nat) : fieldAddrV Try.prog 150 (.pointer (some ⟨p, 0, none⟩)) 0 = some (.pointer (some ⟨p, 0, none⟩)) := by kernel_rfl
theorem faR1 (p : Nat) : fieldAddrV Try.prog 150 (.pointer (some ⟨p, 0, none⟩)) 1 = some (.pointer (some ⟨p, 1, none⟩)) := by kernel_rfl
theorem bdW : buildV Try.prog 146 #[] = some (.agg #[.slice none 0 0]) := by kernel_rfl
theorem bxW (x : Value) (h : Heap) : boxV Try.prog 146 (.agg #[x]) h = some (.pointer (some ⟨h.blks.length, 0, none⟩), h.new (.cells [x]) 146) := by kernel_rfl
theorem bdR (a : Option Addr) (n c : Nat) : buildV Try.prog 150 #[(0, .slice a n c)] = some (.agg #[.slice a n c, .bool false]) := by kernel_rfl
theorem bxR (x y : Value) (h : Heap) : boxV Try.prog 150 (.agg #[x, y]) h = some (.pointer (some ⟨h.blks.length, 0, none⟩), h.new (.cells [x, y]) 150) := by kernel_rfl
theorem spec_NewWriter (h : Heap) : ∃ h', evC Try.prog 42 #[] h = some (.pointer (some ⟨h.blks.length, 0, none⟩), h') ∧ HExt h h' ∧ Wr h.blks.length h' h.blks.length [] ∧ h'.blks.length = h.blks.length + 1 := by
  rw [call42, c42_0_eq]
  simp -implicitDefEqProofs only [bdW, bxW, ↓cnd_true, ↓cnd_false, ↓Option.bind_some, ↓obH_some', bin_add, bin_sub, bin_mul, bin_lss, bin_leq, bin_gtr, bin_geq, bin_eql, bin_neq, un_not, un_neg, Option.bind_some, Option.bind_none, Option.map_some, cnd_true, cnd_false, pickV_true, pickV_false, gd_true, gd_false, gdV_true, gdV_false, gdH_true, gdH_false, gdS_true, gdS_false, wt_ff, wt_tt, wt_ft, wt_tf, wt_undef, obH_some', extractV_tuple, nilCheckV_ptr, againK_normal, againK_exit, againK_ret, blockK_normal, blockK_same, blockK_ret, seqK_normal, seqK_exit, seqK_ret, fin_done, if_true', if_false', Bool.not_true, Bool.not_false, idx0, idx1, idx2, idx3, idx4, chk_nil_l, chk_nil_r, done_nm]
  rw [ret42, fin_done]
  exact ⟨_, rfl, done_ext' (In.new (S := No) (by simp) _ _), ⟨none, 0, (Cells.new (nm h) _ _).done, .nil, by simp [blockOf]⟩, by simp [Heap.new]⟩
theorem Wr.put {n0 : Nat} {h : Heap} {p : Nat} {a : Option Addr} {bs : List UInt8} {c : Nat} {cs : List Value} (hc : Cells h p 146 cs) (ha : AB n0 h (.slice a bs.length c) bs) (hb : blockOf (.slice a bs.length c) ≠ some p) :
    Wr n0 (h.put p (.cells [.slice a bs.length c])) p bs := ⟨a, c, hc.put _, ha.keepPut hb _, hb⟩
theorem Wr.nm {n0 : Nat} {h : Heap} {p : Nat} {bs : List UInt8} (w : Wr n0 h p bs) : Wr n0 (Am.nm h) p bs := let ⟨a, c, x, y, z⟩ := w; ⟨a, c, x, y.keep fun _ _ _ => rfl, z⟩
theorem Wr.done {n0 : Nat} {h0 h : Heap} {p : Nat} {bs : List UInt8} (w : Wr n0 h p bs) : Wr n0 (Am.done h0 h) p bs := let ⟨a, c, x, y, z⟩ := w; ⟨a, c, x.done, y.done, z⟩
theorem Wr.same {n0 : Nat} {h h' : Heap} {p : Nat} {bs : List UInt8} (w : Wr n0 h p bs) (e : Same h h') : Wr n0 h' p bs := let ⟨a, c, x, y, z⟩ := w; ⟨a, c, x.same e, y.same e, z⟩
theorem Wr.ext {n0 : Nat} {h h' : Heap} {p : Nat} {bs : List UInt8} (w : Wr n0 h p bs) (e : HExt h h') : Wr n0 h' p bs := let ⟨a, c, x, y, z⟩ := w; ⟨a, c, x.ext e, y.keep fun b hb _ => e.old b hb, z⟩
theorem Wr.up {n0 n1 : Nat} {h : Heap} {p : Nat} {bs : List UInt8} (w : Wr n0 h p bs) (hn : n1 ≤ n0) : Wr n1 h p bs := let ⟨a, c, x, y, z⟩ := w; ⟨a, c, x, y.up hn, z⟩
theorem spec_WNum {n0 : Nat} {h : Heap} {p : Nat} {bs : List UInt8} (w : Wr n0 h p bs) (hn0 : n0 ≤ h.blks.length) (n : Nat) (hn : n < 2 ^ 64) (hl : bs.length < 2 ^ 39) :
    ∃ h', evC Try.prog 43 #[.pointer (some ⟨p, 0, none⟩), .int .u64 n] h = some (.tuple #[], h') ∧ HMod (Just p) h h' ∧ Wr h.blks.length h' p (bs ++ putL n) := by
  rw [call43, c43_0_eq]
  obtain ⟨a, c, hc, ha, hne⟩ := w
  obtain ⟨a2, c2, h2, e2, x2, ab⟩ := spec_PutB n hn (nm h) _ bs ha.sb.nm hl
  simp -implicitDefEqProofs only [faW, ldB, hc.nm.load, List.getElem?_cons_zero, e2, stB, storeN_blk (hc.nm.ext x2) (o := 0) (vs := [.slice a2 (bs ++ putL n).length c2]) (by simp), ↓cnd_true, ↓cnd_false, ↓Option.bind_some, ↓obH_some', bin_add, bin_sub, bin_mul, bin_lss, bin_leq, bin_gtr, bin_geq, bin_eql, bin_neq, un_not, un_neg, Option.bind_some, Option.bind_none, Option.map_some, cnd_true, cnd_false, pickV_true, pickV_false, gd_true, gd_false, gdV_true, gdV_false, gdH_true, gdH_false, gdS_true, gdS_false, wt_ff, wt_tt, wt_ft, wt_tf, wt_undef, obH_some', extractV_tuple, nilCheckV_ptr, againK_normal, againK_exit, againK_ret, blockK_normal, blockK_same, blockK_ret, seqK_normal, seqK_exit, seqK_ret, fin_done, if_true', if_false', Bool.not_true, Bool.not_false, idx0, idx1, idx2, idx3, idx4, chk_nil_l, chk_nil_r, done_nm]
  rw [retn43, fin_done]
  refine ⟨_, rfl, done_mod ((x2.inn (by simp)).trans (In.put (by have := x2.len; simpa using this) (.inr (show Just p p from rfl)) _)), ?_⟩
  simp only [List.take_zero, List.nil_append, List.length_singleton, Nat.zero_add, List.drop_succ_cons, List.drop_nil, List.append_nil]
  exact (Wr.put (hc.nm.ext x2) ab (ab.ne hc.lt)).done
theorem spec_WBytes {n0 : Nat} {h : Heap} {p : Nat} {bs : List UInt8} (w : Wr n0 h p bs) (hn0 : n0 ≤ h.blks.length) {x : Value} {cs : List UInt8} (hx : SB h x cs) (hxp : blockOf x ≠ some p) (hl : bs.length < 2 ^ 39) (hl2 : cs.length < 2 ^ 39) :
    ∃ h', evC Try.prog 61 #[.pointer (some ⟨p, 0, none⟩), x] h = some (.tuple #[], h') ∧ HMod (Just p) h h' ∧ Wr h.blks.length h' p (bs ++ putL cs.length ++ cs) := by
  rw [call61, c61_0_eq]
  have hs := sizeN_le cs.length 6 (by omega) (by omega)
  obtain ⟨h2, e2, x2, w2⟩ := spec_WNum w.nm (by simpa using hn0) cs.length (by omega) hl
  obtain ⟨a, c, hc, ha, hne⟩ := w2
  have hx2 : SB h2 x cs := hx.nm.mod x2 fun b hb e => hxp (by rw [hb, e])
  obtain ⟨a3, c3, h3, e3, ab, k3, o3, _⟩ := app_bytes (n0 := h.blks.length) (by have := x2.len; simpa using this) ha hx2 (by simp [putL_len]; omega)
  have hc3 : Cells h3 p _ _ := (o3 p hc.lt hne).trans hc
  simp -implicitDefEqProofs (disch := omega) only [hx.nm.row.len_eq etB.under, cvI64, e2, faW, ldB, hc.load, List.getElem?_cons_zero, e3, stB, storeN_blk hc3 (o := 0) (vs := [.slice a3 (bs ++ putL cs.length ++ cs).length c3]) (by simp), ↓cnd_true, ↓cnd_false, ↓Option.bind_some, ↓obH_some', bin_add, bin_sub, bin_mul, bin_lss, bin_leq, bin_gtr, bin_geq, bin_eql, bin_neq, un_not, un_neg, Option.bind_some, Option.bind_none, Option.map_some, cnd_true, cnd_false, pickV_true, pickV_false, gd_true, gd_false, gdV_true, gdV_false, gdH_true, gdH_false, gdS_true, gdS_false, wt_ff, wt_tt, wt_ft, wt_tf, wt_undef, obH_some', extractV_tuple, nilCheckV_ptr, againK_normal, againK_exit, againK_ret, blockK_normal, blockK_same, blockK_ret, seqK_normal, seqK_exit, seqK_ret, fin_done, if_true', if_false', Bool.not_true, Bool.not_false, idx0, idx1, idx2, idx3, idx4, chk_nil_l, chk_nil_r, done_nm]
  rw [retn61, fin_done]
  refine ⟨_, rfl, done_mod (((x2.inn (by simp) (fun b _ hb => hb)).trans (k3.inn)).trans (In.put (by have := x2.len; have := k3.len; simp at *; omega) (.inr (show Just p p from rfl)) _)), ?_⟩
  simp only [List.take_zero, List.nil_append, List.length_singleton, Nat.zero_add, List.drop_succ_cons, List.drop_nil, List.append_nil]
  exact (Wr.put hc3 ab (ab.ne w.lt)).done
theorem spec_WDone {n0 : Nat} {h : Heap} {p : Nat} {bs : List UInt8} (w : Wr n0 h p bs) (hl : bs.length < 2 ^ 43) :
    ∃ a c h', evC Try.prog 44 #[.pointer (some ⟨p, 0, none⟩)] h = some (.slice a bs.length c, h') ∧ HExt h h' ∧ AB h.blks.length h' (.slice a bs.length c) bs := by
  rw [call44, c44_0_eq]
  obtain ⟨a, c, hc, ha, hne⟩ := w
  obtain ⟨a2, c2, h2, e2, x2, ab⟩ := spec_Clone (nm h) _ bs ha.sb.nm hl
  simp -implicitDefEqProofs only [faW, ldB, hc.nm.load, List.getElem?_cons_zero, e2, ↓cnd_true, ↓cnd_false, ↓Option.bind_some, ↓obH_some', bin_add, bin_sub, bin_mul, bin_lss, bin_leq, bin_gtr, bin_geq, bin_eql, bin_neq, un_not, un_neg, Option.bind_some, Option.bind_none, Option.map_some, cnd_true, cnd_false, pickV_true, pickV_false, gd_true, gd_false, gdV_true, gdV_false, gdH_true, gdH_false, gdS_true, gdS_false, wt_ff, wt_tt, wt_ft, wt_tf, wt_undef, obH_some', extractV_tuple, nilCheckV_ptr, againK_normal, againK_exit, againK_ret, blockK_normal, blockK_same, blockK_ret, seqK_normal, seqK_exit, seqK_ret, fin_done, if_true', if_false', Bool.not_true, Bool.not_false, idx0, idx1, idx2, idx3, idx4, chk_nil_l, chk_nil_r, done_nm]
  rw [ret44, fin_done]
  exact ⟨a2, c2, _, rfl, done_ext' (x2.inn (by simp)), ab.done⟩
theorem spec_NewReaderL {h : Heap} {x : Value} {bs : List UInt8} (hx : SB h x bs) (hl : bs.length < 2 ^ 43) :
    ∃ h' p, evC Try.prog 45 #[x] h = some (.pointer (some ⟨p, 0, none⟩), h') ∧ HExt h h' ∧ RdrL h.blks.length h' p (some bs) ∧ h.blks.length ≤ p := by
  rw [call45, c45_0_eq]
  obtain ⟨a2, c2, h2, e2, x2, ab⟩ := spec_Clone (nm h) _ bs hx.nm hl
  simp -implicitDefEqProofs only [e2, bdR, bxR, ↓cnd_true, ↓cnd_false, ↓Option.bind_some, ↓obH_some', bin_add, bin_sub, bin_mul, bin_lss, bin_leq, bin_gtr, bin_geq, bin_eql, bin_neq, un_not, un_neg, Option.bind_some, Option.bind_none, Option.map_some, cnd_true, cnd_false, pickV_true, pickV_false, gd_true, gd_false, gdV_true, gdV_false, gdH_true, gdH_false, gdS_true, gdS_false, wt_ff, wt_tt, wt_ft, wt_tf, wt_undef, obH_some', extractV_tuple, nilCheckV_ptr, againK_normal, againK_exit, againK_ret, blockK_normal, blockK_same, blockK_ret, seqK_normal, seqK_exit, seqK_ret, fin_done, if_true', if_false', Bool.not_true, Bool.not_false, idx0, idx1, idx2, idx3, idx4, chk_nil_l, chk_nil_r, done_nm]
  rw [ret45, fin_done]
  exact ⟨_, _, rfl, done_ext' ((x2.inn (by simp)).trans (In.new x2.len _ _)), ⟨a2, c2, (Cells.new h2 _ _).done, (ab.sb.keepNew _ _).done, fun b e => ⟨ab.ge e, ab.sb.lt e⟩⟩, x2.len⟩
theorem spec_NewReader {h : Heap} {x : Value} {bs : List UInt8} (hx : SB h x bs) (hl : bs.length < 2 ^ 43) :
    ∃ h' p, evC Try.prog 45 #[x] h = some (.pointer (some ⟨p, 0, none⟩), h') ∧ HExt h h' ∧ Rdr h' p (some bs) ∧ h.blks.length ≤ p := by
  obtain ⟨h', p, e, x, r, l⟩ := spec_NewReaderL hx hl
  exact ⟨h', p, e, x, r.dn, l⟩
theorem RdrL.nm {L : Nat} {h : Heap} {p : Nat} {r : Option (List UInt8)} (w : RdrL L h p r) : RdrL L (Am.nm h) p r := let ⟨a, c, x, y, z⟩ := w; ⟨a, c, x, y.nm, z⟩
theorem RdrL.done {L : Nat} {h0 h : Heap} {p : Nat} {r : Option (List UInt8)} (w : RdrL L h p r) : RdrL L (Am.done h0 h) p r := let ⟨a, c, x, y, z⟩ := w; ⟨a, c, x.done, y.done, z⟩
theorem RdrL.same {L : Nat} {h h' : Heap} {p : Nat} {r : Option (List UInt8)} (w : RdrL L h p r) (e : Same h h') : RdrL L h' p r := let ⟨a, c, x, y, z⟩ := w; ⟨a, c, x.same e, y.same e, z⟩
theorem RdrL.keepPut {L : Nat} {h : Heap} {p q : Nat} {r : Option (List UInt8)} (w : RdrL L h p r) (hq : p < q) (body : Body) : RdrL L (h.put q body) p r :=
  let ⟨a, c, x, y, z⟩ := w; ⟨a, c, x.keepPut (by omega) _, y.keepPut (fun e => by have := (z _ e).2; omega) _, z⟩
theorem RdrL.ext {L : Nat} {h h' : Heap} {p : Nat} {r : Option (List UInt8)} (w : RdrL L h p r) (e : HExt h h') : RdrL L h' p r := let ⟨a, c, x, y, z⟩ := w; ⟨a, c, x.ext e, y.ext e, z⟩
theorem spec_spoil {L : Nat} {h : Heap} {p : Nat} {r : Option (List UInt8)} (w : RdrL L h p r) (b : Bool) :
    ∃ h', evC Try.prog 97 #[.pointer (some ⟨p, 0, none⟩), .bool b] h = some (.bool (b || r.isNone), h') ∧ HMod (Just p) h h' ∧ RdrL L h' p (if b then none else r) := by
  rw [call97, c97_0_eq]
  obtain ⟨a, c, hc, ha, hne⟩ := w
  cases b with
  | true =>
    have hc1 := hc.nm.put [Value.slice none 0 0, .bool r.isNone]
    have hc2 := hc1.put [Value.slice none 0 0, .bool true]
    simp -implicitDefEqProofs only [faR0, faR1, stB, stBool, storeN_blk hc.nm (o := 0) (vs := [.slice none 0 0]) (by simp), List.take_zero, List.nil_append, List.length_singleton, Nat.zero_add, List.drop_succ_cons, List.drop_zero, List.cons_append, List.singleton_append,
      storeN_blk hc1 (o := 1) (vs := [.bool true]) (by simp), List.take_succ_cons, List.drop_nil, Nat.reduceAdd, List.append_nil, c97_1_eq, ldBool, hc2.load, List.getElem?_cons_zero, List.getElem?_cons_succ, ↓cnd_true, ↓cnd_false, ↓Option.bind_some, ↓obH_some', bin_add, bin_sub, bin_mul, bin_lss, bin_leq, bin_gtr, bin_geq, bin_eql, bin_neq, un_not, un_neg, Option.bind_some, Option.bind_none, Option.map_some, cnd_true, cnd_false, pickV_true, pickV_false, gd_true, gd_false, gdV_true, gdV_false, gdH_true, gdH_false, gdS_true, gdS_false, wt_ff, wt_tt, wt_ft, wt_tf, wt_undef, obH_some', extractV_tuple, nilCheckV_ptr, againK_normal, againK_exit, againK_ret, blockK_normal, blockK_same, blockK_ret, seqK_normal, seqK_exit, seqK_ret, fin_done, if_true', if_false', Bool.not_true, Bool.not_false, idx0, idx1, idx2, idx3, idx4, chk_nil_l, chk_nil_r, done_nm]
    rw [ret97, fin_done]
    exact ⟨_, rfl, done_mod ((In.put (by simp) (.inr (show Just p p from rfl)) _).trans (In.put (by rw [Heap.put_len]; simp) (.inr (show Just p p from rfl)) _)), ⟨none, 0, hc2.done, .nil, LoP.nil _ _⟩⟩
  | false =>
    simp -implicitDefEqProofs only [c97_1_eq, faR1, ldBool, hc.nm.load, List.getElem?_cons_zero, List.getElem?_cons_succ, ↓cnd_true, ↓cnd_false, ↓Option.bind_some, ↓obH_some', bin_add, bin_sub, bin_mul, bin_lss, bin_leq, bin_gtr, bin_geq, bin_eql, bin_neq, un_not, un_neg, Option.bind_some, Option.bind_none, Option.map_some, cnd_true, cnd_false, pickV_true, pickV_false, gd_true, gd_false, gdV_true, gdV_false, gdH_true, gdH_false, gdS_true, gdS_false, wt_ff, wt_tt, wt_ft, wt_tf, wt_undef, obH_some', extractV_tuple, nilCheckV_ptr, againK_normal, againK_exit, againK_ret, blockK_normal, blockK_same, blockK_ret, seqK_normal, seqK_exit, seqK_ret, fin_done, if_true', if_false', Bool.not_true, Bool.not_false, idx0, idx1, idx2, idx3, idx4, chk_nil_l, chk_nil_r, done_nm]
    rw [ret97, fin_done]
    exact ⟨_, by simp, done_mod (In.refl (by simp)), ⟨a, c, hc.nm.done, ha.nm.done, hne⟩⟩
theorem RdrL.put {L : Nat} {h : Heap} {p : Nat} {a : Option Addr} {r : Option (List UInt8)} {c : Nat} {cs : List Value} (hc : Cells h p 150 cs) (ha : SB h (.slice a (rbs r).length c) (rbs r)) (hb : LoP (.slice a (rbs r).length c) L p) :
    RdrL L (h.put p (.cells [.slice a (rbs r).length c, .bool r.isNone])) p r := ⟨a, c, hc.put _, ha.keepPut hb.ne _, hb⟩
theorem spec_RNum {L : Nat} {h : Heap} {p : Nat} {r : Option (List UInt8)} (w : RdrL L h p r) (most : Nat) (hm : most < 2 ^ 64) (hl : (rbs r).length < 2 ^ 40) :
    ∃ h', evC Try.prog 46 #[.pointer (some ⟨p, 0, none⟩), .int .u64 most] h = some (.int .u64 (numP r most).1, h') ∧ HMod (Just p) h h' ∧ RdrL L h' p (numP r most).2 := by
  rw [call46, c46_0_eq]
  have w0 := w
  obtain ⟨a, c, hc, ha, hne⟩ := w
  obtain ⟨bs, hbs⟩ : ∃ bs, rbs r = bs := ⟨_, rfl⟩
  rw [hbs] at hl hc ha hne
  have hg := spec_Get (Am.nm h) _ bs ha.nm.row hl
  have h64 := getL_lt bs
  have hle := getL_len bs
  simp -implicitDefEqProofs only [faR0, faR1, ldB, hc.nm.load, List.getElem?_cons_zero, hg, ↓cnd_true, ↓cnd_false, ↓Option.bind_some, ↓obH_some', bin_add, bin_sub, bin_mul, bin_lss, bin_leq, bin_gtr, bin_geq, bin_eql, bin_neq, un_not, un_neg, Option.bind_some, Option.bind_none, Option.map_some, cnd_true, cnd_false, pickV_true, pickV_false, gd_true, gd_false, gdV_true, gdV_false, gdH_true, gdH_false, gdS_true, gdS_false, wt_ff, wt_tt, wt_ft, wt_tf, wt_undef, obH_some', extractV_tuple, nilCheckV_ptr, againK_normal, againK_exit, againK_ret, blockK_normal, blockK_same, blockK_ret, seqK_normal, seqK_exit, seqK_ret, fin_done, if_true', if_false', Bool.not_true, Bool.not_false, idx0, idx1, idx2, idx3, idx4, chk_nil_l, chk_nil_r, done_nm]
  by_cases hbad : (getL bs).2 = 0 ∨ most < (getL bs).1
  · obtain ⟨h2, e2, x2, w2⟩ := spec_spoil w0.nm true
    have hp : numP r most = (0, none) := by
      cases r with
      | none => rfl
      | some bs' => have : bs' = bs := hbs
                    subst this
                    simp only [numP]; exact if_pos hbad
    rw [hp]
    by_cases h1 : (getL bs).2 = 0
    · simp -implicitDefEqProofs only [h1, Int.natCast_zero, decide_true, e2, Bool.true_or, ↓cnd_true, ↓cnd_false, ↓Option.bind_some, ↓obH_some', bin_add, bin_sub, bin_mul, bin_lss, bin_leq, bin_gtr, bin_geq, bin_eql, bin_neq, un_not, un_neg, Option.bind_some, Option.bind_none, Option.map_some, cnd_true, cnd_false, pickV_true, pickV_false, gd_true, gd_false, gdV_true, gdV_false, gdH_true, gdH_false, gdS_true, gdS_false, wt_ff, wt_tt, wt_ft, wt_tf, wt_undef, obH_some', extractV_tuple, nilCheckV_ptr, againK_normal, againK_exit, againK_ret, blockK_normal, blockK_same, blockK_ret, seqK_normal, seqK_exit, seqK_ret, fin_done, if_true', if_false', Bool.not_true, Bool.not_false, idx0, idx1, idx2, idx3, idx4, chk_nil_l, chk_nil_r, done_nm]
      rw [ret46, fin_done]
      exact ⟨_, rfl, done_mod (x2.inn (by simp) fun _ _ h => h), w2.done⟩
    · have h3 : most < (getL bs).1 := by omega
      simp -implicitDefEqProofs (disch := omega) only [dcF, dcT, e2, Bool.true_or, ↓cnd_true, ↓cnd_false, ↓Option.bind_some, ↓obH_some', bin_add, bin_sub, bin_mul, bin_lss, bin_leq, bin_gtr, bin_geq, bin_eql, bin_neq, un_not, un_neg, Option.bind_some, Option.bind_none, Option.map_some, cnd_true, cnd_false, pickV_true, pickV_false, gd_true, gd_false, gdV_true, gdV_false, gdH_true, gdH_false, gdS_true, gdS_false, wt_ff, wt_tt, wt_ft, wt_tf, wt_undef, obH_some', extractV_tuple, nilCheckV_ptr, againK_normal, againK_exit, againK_ret, blockK_normal, blockK_same, blockK_ret, seqK_normal, seqK_exit, seqK_ret, fin_done, if_true', if_false', Bool.not_true, Bool.not_false, idx0, idx1, idx2, idx3, idx4, chk_nil_l, chk_nil_r, done_nm]
      rw [ret46, fin_done]
      exact ⟨_, rfl, done_mod (x2.inn (by simp) fun _ _ h => h), w2.done⟩
  · obtain rfl : r = some bs := by
      cases r with
      | none => have : [] = bs := hbs
                subst this
                exact absurd (.inl rfl) hbad
      | some bs' => have : bs' = bs := hbs
                    rw [this]
    have hp : numP (some bs) most = ((getL bs).1, some (bs.drop (getL bs).2)) := by simp only [numP]; exact if_neg hbad
    rw [hp]
    obtain ⟨h2, e2, x2, w2⟩ := spec_spoil w0.nm false
    obtain ⟨a2, c2, hc2, ha2, hne2⟩ := w2
    simp only [Bool.false_eq_true, if_false, rbs, Option.getD_some] at hc2 ha2 hne2
    obtain ⟨v3, e3, s3, b3⟩ := ha2.sub etB.under etB.size (i := (getL bs).2) (j := bs.length) (lo := some (.int .i64 ((getL bs).2 : Nat))) (hi := none) hle (Nat.le_refl _) (natOf_int .i64 _) rfl
    obtain ⟨a4, c4, rfl⟩ := s3.shape
    have s4 : SB h2 (.slice a4 (bs.drop (getL bs).2).length c4) (bs.drop (getL bs).2) := by
      have el : (bs.drop (getL bs).2).length = bs.length - (getL bs).2 := by simp
      unfold SB
      rw [el]
      rw [Nat.mul_one, Nat.mul_one, ← List.map_drop, List.take_of_length_le (by simp)] at s3
      exact s3
    have el : bs.length - (getL bs).2 = (bs.drop (getL bs).2).length := by simp
    rw [el] at e3 b3
    simp -implicitDefEqProofs (disch := omega) only [dcF, dcT, e2, Bool.false_or, Option.isNone_some, faR0, ldB, hc2.load, List.getElem?_cons_zero, e3, stB, storeN_blk hc2 (o := 0) (vs := [.slice a4 (bs.drop (getL bs).2).length c4]) (by simp), ↓cnd_true, ↓cnd_false, ↓Option.bind_some, ↓obH_some', bin_add, bin_sub, bin_mul, bin_lss, bin_leq, bin_gtr, bin_geq, bin_eql, bin_neq, un_not, un_neg, Option.bind_some, Option.bind_none, Option.map_some, cnd_true, cnd_false, pickV_true, pickV_false, gd_true, gd_false, gdV_true, gdV_false, gdH_true, gdH_false, gdS_true, gdS_false, wt_ff, wt_tt, wt_ft, wt_tf, wt_undef, obH_some', extractV_tuple, nilCheckV_ptr, againK_normal, againK_exit, againK_ret, blockK_normal, blockK_same, blockK_ret, seqK_normal, seqK_exit, seqK_ret, fin_done, if_true', if_false', Bool.not_true, Bool.not_false, idx0, idx1, idx2, idx3, idx4, chk_nil_l, chk_nil_r, done_nm]
    rw [ret46, fin_done]
    refine ⟨_, rfl, done_mod ((x2.inn (by simp) fun _ _ h => h).trans (In.put (by have := x2.len; simpa using this) (.inr (show Just p p from rfl)) _)), ?_⟩
    exact (RdrL.put (r := some (bs.drop (getL bs).2)) hc2 s4 (hne2.to b3)).done
theorem spec_take {L : Nat} {h : Heap} {p : Nat} {r : Option (List UInt8)} (w : RdrL L h p r) (n : Nat) (hn : n < 2 ^ 64) (hl : (rbs r).length < 2 ^ 40) :
    ∃ a c h', evC Try.prog 102 #[.pointer (some ⟨p, 0, none⟩), .int .u64 n] h = some (.slice a (takeP r n).1.length c, h') ∧ HMod (Just p) h h' ∧ RdrL L h' p (takeP r n).2 ∧ SB h' (.slice a (takeP r n).1.length c) (takeP r n).1 := by
  rw [call102, c102_0_eq]
  have w0 := w
  obtain ⟨a, c, hc, ha, hne⟩ := w
  obtain ⟨bs, hbs⟩ : ∃ bs, rbs r = bs := ⟨_, rfl⟩
  rw [hbs] at hl hc ha hne
  simp -implicitDefEqProofs (disch := omega) only [faR0, ldB, hc.nm.load, List.getElem?_cons_zero, ha.nm.row.len_eq etB.under, cvI64, ↓cnd_true, ↓cnd_false, ↓Option.bind_some, ↓obH_some', bin_add, bin_sub, bin_mul, bin_lss, bin_leq, bin_gtr, bin_geq, bin_eql, bin_neq, un_not, un_neg, Option.bind_some, Option.bind_none, Option.map_some, cnd_true, cnd_false, pickV_true, pickV_false, gd_true, gd_false, gdV_true, gdV_false, gdH_true, gdH_false, gdS_true, gdS_false, wt_ff, wt_tt, wt_ft, wt_tf, wt_undef, obH_some', extractV_tuple, nilCheckV_ptr, againK_normal, againK_exit, againK_ret, blockK_normal, blockK_same, blockK_ret, seqK_normal, seqK_exit, seqK_ret, fin_done, if_true', if_false', Bool.not_true, Bool.not_false, idx0, idx1, idx2, idx3, idx4, chk_nil_l, chk_nil_r, done_nm]
  by_cases hbad : bs.length < n
  · obtain ⟨h2, e2, x2, w2⟩ := spec_spoil w0.nm true
    have hp : takeP r n = ([], none) := by
      cases r with
      | none => rfl
      | some bs' => have : bs' = bs := hbs
                    subst this
                    simp only [takeP]; exact if_pos hbad
    rw [hp]
    simp -implicitDefEqProofs (disch := omega) only [dcT, dcF, e2, Bool.true_or, ↓cnd_true, ↓cnd_false, ↓Option.bind_some, ↓obH_some', bin_add, bin_sub, bin_mul, bin_lss, bin_leq, bin_gtr, bin_geq, bin_eql, bin_neq, un_not, un_neg, Option.bind_some, Option.bind_none, Option.map_some, cnd_true, cnd_false, pickV_true, pickV_false, gd_true, gd_false, gdV_true, gdV_false, gdH_true, gdH_false, gdS_true, gdS_false, wt_ff, wt_tt, wt_ft, wt_tf, wt_undef, obH_some', extractV_tuple, nilCheckV_ptr, againK_normal, againK_exit, againK_ret, blockK_normal, blockK_same, blockK_ret, seqK_normal, seqK_exit, seqK_ret, fin_done, if_true', if_false', Bool.not_true, Bool.not_false, idx0, idx1, idx2, idx3, idx4, chk_nil_l, chk_nil_r, done_nm]
    rw [ret102, fin_done]
    exact ⟨none, 0, _, rfl, done_mod (x2.inn (by simp) fun _ _ h => h), w2.done, .nil⟩
  · cases r with
    | none =>
      obtain rfl : n = 0 := by have : bs.length = 0 := by rw [← hbs]; rfl
                               omega
      obtain ⟨h2, e2, x2, w2⟩ := spec_spoil w0.nm false
      simp -implicitDefEqProofs (disch := omega) only [dcT, dcF, e2, Bool.false_or, Option.isNone_none, ↓cnd_true, ↓cnd_false, ↓Option.bind_some, ↓obH_some', bin_add, bin_sub, bin_mul, bin_lss, bin_leq, bin_gtr, bin_geq, bin_eql, bin_neq, un_not, un_neg, Option.bind_some, Option.bind_none, Option.map_some, cnd_true, cnd_false, pickV_true, pickV_false, gd_true, gd_false, gdV_true, gdV_false, gdH_true, gdH_false, gdS_true, gdS_false, wt_ff, wt_tt, wt_ft, wt_tf, wt_undef, obH_some', extractV_tuple, nilCheckV_ptr, againK_normal, againK_exit, againK_ret, blockK_normal, blockK_same, blockK_ret, seqK_normal, seqK_exit, seqK_ret, fin_done, if_true', if_false', Bool.not_true, Bool.not_false, idx0, idx1, idx2, idx3, idx4, chk_nil_l, chk_nil_r, done_nm]
      rw [ret102, fin_done]
      exact ⟨none, 0, _, rfl, done_mod (x2.inn (by simp) fun _ _ h => h), w2.done, .nil⟩
    | some bs' =>
      obtain rfl : bs' = bs := hbs
      have hp : takeP (some bs') n = (bs'.take n, some (bs'.drop n)) := by simp only [takeP]; exact if_neg hbad
      rw [hp]
      obtain ⟨h2, e2, x2, w2⟩ := spec_spoil w0.nm false
      obtain ⟨a2, c2, hc2, ha2, hne2⟩ := w2
      simp only [Bool.false_eq_true, if_false, rbs, Option.getD_some] at hc2 ha2 hne2
      obtain ⟨a3, c3, e3, s3, b3⟩ := sl_take ha2 (i := n) (by omega) .u64
      obtain ⟨a4, c4, e4, s4, b4⟩ := sl_drop ha2 (i := n) (by omega) .u64
      simp -implicitDefEqProofs (disch := omega) only [dcF, dcT, e2, Bool.false_or, Option.isNone_some, faR0, ldB, hc2.load, List.getElem?_cons_zero, e3, e4, stB, storeN_blk hc2 (o := 0) (vs := [.slice a4 (bs'.drop n).length c4]) (by simp), ↓cnd_true, ↓cnd_false, ↓Option.bind_some, ↓obH_some', bin_add, bin_sub, bin_mul, bin_lss, bin_leq, bin_gtr, bin_geq, bin_eql, bin_neq, un_not, un_neg, Option.bind_some, Option.bind_none, Option.map_some, cnd_true, cnd_false, pickV_true, pickV_false, gd_true, gd_false, gdV_true, gdV_false, gdH_true, gdH_false, gdS_true, gdS_false, wt_ff, wt_tt, wt_ft, wt_tf, wt_undef, obH_some', extractV_tuple, nilCheckV_ptr, againK_normal, againK_exit, againK_ret, blockK_normal, blockK_same, blockK_ret, seqK_normal, seqK_exit, seqK_ret, fin_done, if_true', if_false', Bool.not_true, Bool.not_false, idx0, idx1, idx2, idx3, idx4, chk_nil_l, chk_nil_r, done_nm]
      rw [ret102, fin_done]
      refine ⟨a3, c3, _, rfl, done_mod ((x2.inn (by simp) fun _ _ h => h).trans (In.put (by have := x2.len; simpa using this) (.inr (show Just p p from rfl)) _)), ?_, (s3.keepPut (hne2.to b3).ne _).done⟩
      exact (RdrL.put (r := some (bs'.drop n)) hc2 s4 (hne2.to b4)).done
theorem numP_le (r : Option (List UInt8)) (most : Nat) : (numP r most).1 ≤ most ∧ (numP r most).1 < 2 ^ 64 ∧ (rbs (numP r most).2).length ≤ (rbs r).length ∧ ((numP r most).2 = none → (numP r most).1 = 0) := by
  cases r with
  | none => simp [numP]
  | some bs =>
    simp only [numP]
    split
    · simp [rbs]
    · rename_i h
      have := getL_lt bs
      refine ⟨by omega, by omega, by simp [rbs], by simp⟩
theorem takeP_le (r : Option (List UInt8)) (n : Nat) : (takeP r n).1.length ≤ (rbs r).length ∧ (rbs (takeP r n).2).length ≤ (rbs r).length := by
  cases r with
  | none => simp [takeP]
  | some bs =>
    simp only [takeP]
    split
    · simp [rbs]
    · simp [rbs]; omega
theorem spec_RBytes {L : Nat} {h : Heap} {p : Nat} {r : Option (List UInt8)} (w : RdrL L h p r) (most : Int) (hm : most < 2 ^ 63) (hl : (rbs r).length < 2 ^ 40) :
    ∃ a c h', evC Try.prog 54 #[.pointer (some ⟨p, 0, none⟩), .int .i64 most] h = some (.slice a (bytesP r most.toNat).1.length c, h') ∧ HMod (Just p) h h' ∧ RdrL L h' p (bytesP r most.toNat).2 ∧ AB h.blks.length h' (.slice a (bytesP r most.toNat).1.length c) (bytesP r most.toNat).1 := by
  rw [call54, c54_0_eq]
  have hmx : max most 0 = ((most.toNat : Nat) : Int) := by omega
  obtain ⟨h2, e2, x2, w2⟩ := spec_RNum w.nm most.toNat (by omega) hl
  obtain ⟨_, n64, nl, nn⟩ := numP_le r most.toNat
  obtain ⟨a3, c3, h3, e3, x3, w3, s3⟩ := spec_take w2 (numP r most.toNat).1 n64 (by omega)
  obtain ⟨t1, t2⟩ := takeP_le (numP r most.toNat).2 (numP r most.toNat).1
  obtain ⟨a4, c4, h4, e4, x4, s4⟩ := spec_Clone h3 _ _ s3 (by omega)
  simp -implicitDefEqProofs (disch := omega) only [maxI, hmx, cvI64, e2, e3, e4, ↓cnd_true, ↓cnd_false, ↓Option.bind_some, ↓obH_some', bin_add, bin_sub, bin_mul, bin_lss, bin_leq, bin_gtr, bin_geq, bin_eql, bin_neq, un_not, un_neg, Option.bind_some, Option.bind_none, Option.map_some, cnd_true, cnd_false, pickV_true, pickV_false, gd_true, gd_false, gdV_true, gdV_false, gdH_true, gdH_false, gdS_true, gdS_false, wt_ff, wt_tt, wt_ft, wt_tf, wt_undef, obH_some', extractV_tuple, nilCheckV_ptr, againK_normal, againK_exit, againK_ret, blockK_normal, blockK_same, blockK_ret, seqK_normal, seqK_exit, seqK_ret, fin_done, if_true', if_false', Bool.not_true, Bool.not_false, idx0, idx1, idx2, idx3, idx4, chk_nil_l, chk_nil_r, done_nm]
  rw [ret54, fin_done]
  have l2 := x2.len
  have l3 := x3.len
  simp only [nm_blks] at l2
  exact ⟨a4, c4, _, rfl, done_mod (((x2.inn (by simp) fun _ _ h => h).trans (x3.inn l2 fun _ _ h => h)).trans (x4.inn (by omega))), (w3.ext x4).done, (s4.up (by omega)).done⟩
theorem spec_REnd {L : Nat} {h : Heap} {p : Nat} {r : Option (List UInt8)} (w : RdrL L h p r) :
    evC Try.prog 47 #[.pointer (some ⟨p, 0, none⟩)] h = some (.bool (endP r), h) := by
  rw [call47, c47_0_eq]
  obtain ⟨a, c, hc, ha, hne⟩ := w
  cases r with
  | none =>
    simp -implicitDefEqProofs only [faR0, faR1, ldB, ldBool, hc.nm.load, List.getElem?_cons_zero, List.getElem?_cons_succ, Option.isNone_none, ↓cnd_true, ↓cnd_false, ↓Option.bind_some, ↓obH_some', bin_add, bin_sub, bin_mul, bin_lss, bin_leq, bin_gtr, bin_geq, bin_eql, bin_neq, un_not, un_neg, Option.bind_some, Option.bind_none, Option.map_some, cnd_true, cnd_false, pickV_true, pickV_false, gd_true, gd_false, gdV_true, gdV_false, gdH_true, gdH_false, gdS_true, gdS_false, wt_ff, wt_tt, wt_ft, wt_tf, wt_undef, obH_some', extractV_tuple, nilCheckV_ptr, againK_normal, againK_exit, againK_ret, blockK_normal, blockK_same, blockK_ret, seqK_normal, seqK_exit, seqK_ret, fin_done, if_true', if_false', Bool.not_true, Bool.not_false, idx0, idx1, idx2, idx3, idx4, chk_nil_l, chk_nil_r, done_nm]
    rw [ret47, fin_done]
    rfl
  | some bs =>
    simp -implicitDefEqProofs only [faR0, faR1, ldB, ldBool, hc.nm.load, List.getElem?_cons_zero, List.getElem?_cons_succ, Option.isNone_some, ha.nm.row.len_eq etB.under, ↓cnd_true, ↓cnd_false, ↓Option.bind_some, ↓obH_some', bin_add, bin_sub, bin_mul, bin_lss, bin_leq, bin_gtr, bin_geq, bin_eql, bin_neq, un_not, un_neg, Option.bind_some, Option.bind_none, Option.map_some, cnd_true, cnd_false, pickV_true, pickV_false, gd_true, gd_false, gdV_true, gdV_false, gdH_true, gdH_false, gdS_true, gdS_false, wt_ff, wt_tt, wt_ft, wt_tf, wt_undef, obH_some', extractV_tuple, nilCheckV_ptr, againK_normal, againK_exit, againK_ret, blockK_normal, blockK_same, blockK_ret, seqK_normal, seqK_exit, seqK_ret, fin_done, if_true', if_false', Bool.not_true, Bool.not_false, idx0, idx1, idx2, idx3, idx4, chk_nil_l, chk_nil_r, done_nm]
    rw [ret47, fin_done]
    cases bs with
    | nil => rfl
    | cons b bs => 
      have : decide (((rbs (some (b :: bs))).length : Int) = 0) = false := decide_eq_false (by simp [rbs]; omega)
      rw [this]; rfl
end Go.Am
namespace Go.Am
theorem sizeN_pos (n : Nat) : 1 ≤ sizeN n := by rw [sizeN]; split <;> omega
theorem sizeN_up (n : Nat) (h : 0 < n) : sizeN (n * 128 + 5) = sizeN n + 1 := by
  rw [sizeN, if_neg (by omega), show (n * 128 + 5) / 128 = n by omega]
theorem sizeN_ge (n : Nat) : ∀ k, 2 ^ (7 * k) ≤ n → k + 1 ≤ sizeN n := by
  induction n using Nat.strongRecOn with
  | _ n ih =>
    intro k hk
    cases k with
    | zero => have := sizeN_pos n; omega
    | succ k =>
      have e : 2 ^ (7 * (k + 1)) = 2 ^ (7 * k) * 128 := by rw [Nat.mul_add, Nat.pow_add]
      have hp : 0 < 2 ^ (7 * k) := Nat.two_pow_pos _
      rw [sizeN, if_neg (by omega)]
      have := ih (n / 128) (by omega) k (by rw [Nat.le_div_iff_mul_le (by omega)]; omega)
      omega
theorem getLoop_more : ∀ (l : List UInt8) (n i : Nat), (∀ c ∈ l, 128 ≤ c.toNat) → getLoop n i l = (0, 0)
  | [], n, i, _ => rfl
  | c :: l, n, i, h => by
    rw [getLoop]
    split
    · rfl
    · have := h c (by simp)
      simp only []
      rw [if_neg (by omega)]
      exact getLoop_more l _ _ fun d hd => h d (by simp [hd])
theorem putL_take (n : Nat) : ∀ (a : Nat), a < (putL n).length → ∀ c ∈ (putL n).take a, 128 ≤ c.toNat := by
  induction n using Nat.strongRecOn with
  | _ n ih =>
    intro a ha c hc
    rw [putL] at ha hc
    split at hc
    · rename_i h
      rw [if_pos h] at ha
      simp at ha
      subst ha
      simp at hc
    · rename_i h
      rw [if_neg h] at ha
      cases a with
      | zero => simp at hc
      | succ a =>
        rw [List.take_succ_cons] at hc
        rcases List.mem_cons.1 hc with rfl | hc
        · simp; omega
        · exact ih (n / 128) (by omega) a (by simpa using ha) c hc
theorem getL_cut (n a : Nat) (ha : a < (putL n).length) : getL ((putL n).take a) = (0, 0) := getLoop_more _ _ _ (putL_take n a ha)
end Go.Am
namespace Go.Am
open Go.Proofs
theorem bin_quo64 (P : Program) (t : TypeId) (xo yo : Operand) (a b : Int) (ha : 0 ≤ a) (ha' : a < 2 ^ 64) (hb : 0 < b) : binV P .quo t xo yo (.int .u64 a) (.int .u64 b) = some (.int .u64 ((a.toNat / b.toNat : Nat) : Int)) := by
  refine bin_int t xo yo .u64 .u64 a b .quo rfl ?_
  have h1 : ¬ (b = 0) := by omega
  have e : ((a.toNat / b.toNat : Nat) : Int) = a.tdiv b := by
    rw [Int.tdiv_eq_ediv_of_nonneg ha]
    push_cast
    rw [Int.toNat_of_nonneg ha, Int.toNat_of_nonneg (by omega)]
  have hlt : ((a.toNat / b.toNat : Nat) : Int) < 2 ^ 64 := by
    have := Nat.div_le_self a.toNat b.toNat
    omega
  simp only [eqGuard, Go.binOp, Op.intDiv]
  rw [if_neg h1, ← e, wrap_u64 (Int.natCast_nonneg _) hlt]
  rfl
theorem bin_rem64 (P : Program) (t : TypeId) (xo yo : Operand) (a b : Int) (ha : 0 ≤ a) (hb : 0 < b) : binV P .rem t xo yo (.int .u64 a) (.int .u64 b) = some (.int .u64 ((a.toNat % b.toNat : Nat) : Int)) := by
  refine bin_int t xo yo .u64 .u64 a b .rem rfl ?_
  have h1 : ¬ (b = 0) := by omega
  have e : ((a.toNat % b.toNat : Nat) : Int) = a.tmod b := by
    rw [Int.tmod_eq_emod_of_nonneg ha]
    push_cast
    rw [Int.toNat_of_nonneg ha, Int.toNat_of_nonneg (by omega)]
  simp only [eqGuard, Go.binOp, Op.intDiv]
  rw [if_neg h1, ← e]
  rfl
theorem add128 (t : TypeId) (xo yo : Operand) (n : Nat) : binV Try.prog .add t xo yo (byteV (UInt8.ofNat (n % 128))) (.int .u8 128) = some (byteV (UInt8.ofNat (n % 128 + 128))) := by
  unfold byteV
  rw [bin_add]
  have e1 : (UInt8.ofNat (n % 128)).toNat = n % 128 := by simp; omega
  have e2 : (UInt8.ofNat (n % 128 + 128)).toNat = n % 128 + 128 := by simp; omega
  rw [e1, e2]
  have : IntKind.wrap .u8 (((n % 128 : Nat) : Int) + 128) = ((n % 128 + 128 : Nat) : Int) := by rw [wrap_u8 (by omega) (by omega)]; omega
  rw [this]
theorem rput_loop (h0 : Heap) (n : Nat) : ∀ (h : Heap) (v : Value) (bs : List UInt8) (x2 x3 x4 x5 x6 x7 x8 x9 x10 x11 x12 x13 x14 x15 x16 x17 x18 x19 x20 x21 x22 x23 : Value), n < 2 ^ 64 → bs.length + sizeN n < 2 ^ 40 → In h0.blks.length No (nm h0) h → AB h0.blks.length h v bs →
    ∃ a c h', loopK Try.prog (evC Try.prog) c106_1 ⟨#[v, .int .u64 n, x2, x3, x4, x5, x6, x7, x8, x9, x10, x11, x12, x13, x14, x15, x16, x17, x18, x19, x20, x21, x22, x23], h⟩ (blockK 0 (seqK Try.prog (evC Try.prog) c106_2 (retK Try.f106 Try.prog h0))) =
      some (.slice a (bs ++ putL n).length c, h') ∧ HExt h0 h' ∧ AB h0.blks.length h' (.slice a (bs ++ putL n).length c) (bs ++ putL n) := by
  induction n using Nat.strongRecOn with
  | _ n ih =>
    intro h v bs x2 x3 x4 x5 x6 x7 x8 x9 x10 x11 x12 x13 x14 x15 x16 x17 x18 x19 x20 x21 x22 x23 hn hk hin ha
    rw [loopK_eq evC_m, c106_1_eq]
    have hle : h0.blks.length ≤ h.blks.length := hin.len
    by_cases hge : 128 ≤ n
    · have f3 : sizeN n = sizeN (n / 128) + 1 := by rw [sizeN, if_neg (by omega)]
      obtain ⟨a, c, h', e1, e2, e3, _⟩ := app_b hle ha (UInt8.ofNat (n % 128 + 128)) (by omega)
      simp -implicitDefEqProofs (disch := omega) only [dcT, dcF, bin_rem64, bin_quo64, Int.toNat_natCast, Int.reduceToNat, cvB8, add128, mkBb, e1, ↓cnd_true, ↓cnd_false, ↓Option.bind_some, ↓obH_some', bin_add, bin_sub, bin_mul, bin_lss, bin_leq, bin_gtr, bin_geq, bin_eql, bin_neq, un_not, un_neg, Option.bind_some, Option.bind_none, Option.map_some, cnd_true, cnd_false, pickV_true, pickV_false, gd_true, gd_false, gdV_true, gdV_false, gdH_true, gdH_false, gdS_true, gdS_false, wt_ff, wt_tt, wt_ft, wt_tf, wt_undef, obH_some', extractV_tuple, nilCheckV_ptr, againK_normal, againK_exit, againK_ret, blockK_normal, blockK_same, blockK_ret, seqK_normal, seqK_exit, seqK_ret, fin_done, if_true', if_false', Bool.not_true, Bool.not_false, idx0, idx1, idx2, idx3, idx4, chk_nil_l, chk_nil_r, done_nm]
      obtain ⟨a2, c2, h2, g1, g2, g3⟩ := ih (n / 128) (by omega) h' _ _ _ _ _ _ _ _ _ _ _ _ _ _ _ _ _ _ _ _ _ _ _ _ (by omega) (by simp only [List.length_append, List.length_singleton]; omega) (hin.trans e3.inn) e2
      have e : bs ++ putL n = bs ++ [UInt8.ofNat (n % 128 + 128)] ++ putL (n / 128) := by rw [putL, if_neg (by omega)]; simp
      rw [e]
      exact ⟨a2, c2, h2, g1, g2, g3⟩
    · obtain ⟨a, c, h', e1, e2, e3, _⟩ := app_b hle ha (UInt8.ofNat n) (by omega)
      simp -implicitDefEqProofs (disch := omega) only [dcT, dcF, c106_2_eq, cvB8, mkBb, e1, ↓cnd_true, ↓cnd_false, ↓Option.bind_some, ↓obH_some', bin_add, bin_sub, bin_mul, bin_lss, bin_leq, bin_gtr, bin_geq, bin_eql, bin_neq, un_not, un_neg, Option.bind_some, Option.bind_none, Option.map_some, cnd_true, cnd_false, pickV_true, pickV_false, gd_true, gd_false, gdV_true, gdV_false, gdH_true, gdH_false, gdS_true, gdS_false, wt_ff, wt_tt, wt_ft, wt_tf, wt_undef, obH_some', extractV_tuple, nilCheckV_ptr, againK_normal, againK_exit, againK_ret, blockK_normal, blockK_same, blockK_ret, seqK_normal, seqK_exit, seqK_ret, fin_done, if_true', if_false', Bool.not_true, Bool.not_false, idx0, idx1, idx2, idx3, idx4, chk_nil_l, chk_nil_r, done_nm]
      rw [ret106, fin_done]
      have e : putL n = [UInt8.ofNat n] := by rw [putL, if_pos (by omega)]
      rw [e]
      exact ⟨a, c, _, rfl, done_ext' (hin.trans e3.inn), e2.done⟩
theorem spec_refPut (n : Nat) (hn : n < 2 ^ 64) (h : Heap) (b : Value) (bs : List UInt8) (hb : SB h b bs) (hk : bs.length < 2 ^ 39) :
    ∃ a c h', evC Try.prog 106 #[b, .int .u64 n] h = some (.slice a (bs ++ putL n).length c, h') ∧ HExt h h' ∧ AB h.blks.length h' (.slice a (bs ++ putL n).length c) (bs ++ putL n) := by
  rw [call106, c106_0_eq]
  have hs := sizeN_le n 10 (by omega) (by omega)
  obtain ⟨a, c, h', e1, e2, e3, _⟩ := app_bytes (n0 := h.blks.length) (by simp [Heap.new]) (AB.empty h.blks.length (nm h) (by simp)) (hb.nm.keepNew _ _) (by simp; omega)
  rw [List.nil_append] at e1 e2
  simp -implicitDefEqProofs only [mkB0, e1, ↓cnd_true, ↓cnd_false, ↓Option.bind_some, ↓obH_some', bin_add, bin_sub, bin_mul, bin_lss, bin_leq, bin_gtr, bin_geq, bin_eql, bin_neq, un_not, un_neg, Option.bind_some, Option.bind_none, Option.map_some, cnd_true, cnd_false, pickV_true, pickV_false, gd_true, gd_false, gdV_true, gdV_false, gdH_true, gdH_false, gdS_true, gdS_false, wt_ff, wt_tt, wt_ft, wt_tf, wt_undef, obH_some', extractV_tuple, nilCheckV_ptr, againK_normal, againK_exit, againK_ret, blockK_normal, blockK_same, blockK_ret, seqK_normal, seqK_exit, seqK_ret, fin_done, if_true', if_false', Bool.not_true, Bool.not_false, idx0, idx1, idx2, idx3, idx4, chk_nil_l, chk_nil_r, done_nm]
  exact rput_loop h n h' _ bs _ _ _ _ _ _ _ _ _ _ _ _ _ _ _ _ _ _ _ _ _ _ hn (by omega) ((In.new (by simp) _ _).trans e3.inn) e2
/-! Get -/
theorem sizeN_add (acc c i : Nat) (hi : i ≤ 9) (ha : acc < 2 ^ (7 * i)) (hc : c < 128) (h0 : 0 < c ∨ i = 0) : sizeN (acc + c * 2 ^ (7 * i)) = i + 1 := by
  have hp : 0 < 2 ^ (7 * i) := Nat.two_pow_pos _
  have e : 2 ^ (7 * (i + 1)) = 128 * 2 ^ (7 * i) := by rw [Nat.mul_add, Nat.pow_add, Nat.mul_comm]
  have h1 : acc + c * 2 ^ (7 * i) < 2 ^ (7 * (i + 1)) := by
    have : c * 2 ^ (7 * i) ≤ 127 * 2 ^ (7 * i) := Nat.mul_le_mul_right _ (by omega)
    omega
  have h2 := sizeN_le _ _ h1 (by omega)
  rcases h0 with h0 | rfl
  · have h3 : 2 ^ (7 * i) ≤ acc + c * 2 ^ (7 * i) := by
      have : 1 * 2 ^ (7 * i) ≤ c * 2 ^ (7 * i) := Nat.mul_le_mul_right _ h0
      omega
    have := sizeN_ge _ _ h3
    omega
  · have := sizeN_pos (acc + c * 2 ^ (7 * 0))
    omega
theorem or_add (acc c i : Nat) (ha : acc < 2 ^ (7 * i)) : acc ||| c * 2 ^ (7 * i) = acc + c * 2 ^ (7 * i) := by
  have := Nat.two_pow_add_eq_or_of_lt ha c
  rw [Nat.mul_comm, Nat.or_comm, ← this, Nat.add_comm]
theorem mod128 (c : UInt8) : c.toNat &&& 127 = c.toNat % 128 := by
  have := Nat.and_two_pow_sub_one_eq_mod c.toNat 7
  simpa using this
/-- a round of Get, as the reference has it -/
theorem getLoop_step (acc i : Nat) (c : UInt8) (l : List UInt8) (hi : i < 10) (ha : acc < 2 ^ (7 * i)) :
    getLoop acc i (c :: l) = if i = 9 ∧ 1 < c.toNat then (0, 0) else if c.toNat < 128 then (if c.toNat = 0 ∧ 0 < i then (0, 0) else (acc + c.toNat % 128 * 2 ^ (7 * i), i + 1)) else getLoop (acc + c.toNat % 128 * 2 ^ (7 * i)) (i + 1) l := by
  have hc := UInt8.toNat_lt c
  by_cases h9 : i = 9 ∧ 1 < c.toNat
  · rw [if_pos h9, getLoop, if_neg (by omega)]
    simp only []
    by_cases h128 : c.toNat < 128
    · rw [if_pos h128, if_pos (.inr ⟨h9.1, h9.2⟩)]
    · rw [if_neg h128]
      cases l with
      | nil => rfl
      | cons d l => rw [getLoop, if_pos (by omega)]
  · rw [if_neg h9, getLoop, if_neg (by omega)]
    simp only []
    have hlt : c.toNat % 128 * 2 ^ (7 * i) < 2 ^ 64 := by
      have h3 : (2 : Nat) ^ (7 * i) ≤ 2 ^ 63 := Nat.pow_le_pow_right (by omega) (by omega)
      by_cases h : i = 9
      · subst h
        have : c.toNat % 128 ≤ 1 := by omega
        have : c.toNat % 128 * 2 ^ (7 * 9) ≤ 1 * 2 ^ (7 * 9) := Nat.mul_le_mul_right _ this
        omega
      · have h3 : (2 : Nat) ^ (7 * i) ≤ 2 ^ 56 := Nat.pow_le_pow_right (by omega) (by omega)
        have : c.toNat % 128 * 2 ^ (7 * i) ≤ 127 * 2 ^ 56 := Nat.mul_le_mul (by omega) h3
        omega
    rw [Nat.mod_eq_of_lt hlt, or_add _ _ _ ha]
    by_cases h128 : c.toNat < 128
    · rw [if_pos h128, if_pos h128]
      by_cases h0 : c.toNat = 0 ∧ 0 < i
      · rw [if_pos h0, if_pos]
        left
        have := sizeN_le acc i (by omega) h0.2
        rw [h0.1]
        simp only [Nat.zero_mod, Nat.zero_mul, Nat.add_zero]
        omega
      · rw [if_neg h0, if_neg]
        rw [Nat.mod_eq_of_lt h128]
        rintro (h | h)
        · exact h (sizeN_add acc c.toNat i (by omega) ha h128 (by omega))
        · exact h9 ⟨h.1, h.2⟩
    · rw [if_neg h128, if_neg h128]
theorem rget_loop (h0 h : Heap) (v : Value) (bs : List UInt8) (hr : SB h v bs) (hb : bs.length < 2 ^ 40) : ∀ (m i n : Nat), bs.length - i = m → i ≤ bs.length → n < 2 ^ (7 * i) → i ≤ 10 →
    ∀ (x1 x6 x7 x8 x9 x10 x11 x12 x13 x14 x15 x16 x17 x18 x19 x20 x21 x22 x23 x24 x25 x26 x27 x28 x29 x30 x31 x32 x33 x34 x35 x36 x37 x38 x39 x40 x41 x42 x43 x44 x45 x46 : Value),
    loopK Try.prog (evC Try.prog) c98_1 ⟨#[v, x1, .int .u64 0, .int .i64 0, .int .u64 n, .int .i64 i, x6, x7, x8, x9, x10, x11, x12, x13, x14, x15, x16, x17, x18, x19, x20, x21, x22, x23, x24, x25, x26, x27, x28, x29, x30, x31, x32, x33, x34, x35, x36, x37, x38, x39, x40, x41, x42, x43, x44, x45, x46], h⟩ (blockK 0 (seqK Try.prog (evC Try.prog) c98_2 (retK Try.f98 Try.prog h0))) =
      some (.tuple #[.int .u64 (getLoop n i (bs.drop i)).1, .int .i64 (getLoop n i (bs.drop i)).2], done h0 h) := by
  intro m
  induction m with
  | zero =>
    intro i n hm hi hn hi10 x1 x6 x7 x8 x9 x10 x11 x12 x13 x14 x15 x16 x17 x18 x19 x20 x21 x22 x23 x24 x25 x26 x27 x28 x29 x30 x31 x32 x33 x34 x35 x36 x37 x38 x39 x40 x41 x42 x43 x44 x45 x46
    rw [loopK_eq evC_m, c98_1_eq]
    simp -implicitDefEqProofs (disch := omega) only [dcT, dcF, hr.row.len_eq etB.under, c98_2_eq, ↓cnd_true, ↓cnd_false, ↓Option.bind_some, ↓obH_some', bin_add, bin_sub, bin_mul, bin_lss, bin_leq, bin_gtr, bin_geq, bin_eql, bin_neq, un_not, un_neg, Option.bind_some, Option.bind_none, Option.map_some, cnd_true, cnd_false, pickV_true, pickV_false, gd_true, gd_false, gdV_true, gdV_false, gdH_true, gdH_false, gdS_true, gdS_false, wt_ff, wt_tt, wt_ft, wt_tf, wt_undef, obH_some', extractV_tuple, nilCheckV_ptr, againK_normal, againK_exit, againK_ret, blockK_normal, blockK_same, blockK_ret, seqK_normal, seqK_exit, seqK_ret, fin_done, if_true', if_false', Bool.not_true, Bool.not_false, idx0, idx1, idx2, idx3, idx4, chk_nil_l, chk_nil_r, done_nm]
    rw [ret98, fin_done, List.drop_of_length_le (by omega)]
    rfl
  | succ m ih =>
    intro i n hm hi hn hi10 x1 x6 x7 x8 x9 x10 x11 x12 x13 x14 x15 x16 x17 x18 x19 x20 x21 x22 x23 x24 x25 x26 x27 x28 x29 x30 x31 x32 x33 x34 x35 x36 x37 x38 x39 x40 x41 x42 x43 x44 x45 x46
    have hlt : i < bs.length := by omega
    rw [loopK_eq evC_m, c98_1_eq]
    have ed : bs.drop i = bs[i] :: bs.drop (i + 1) := List.drop_eq_getElem_cons hlt
    by_cases h10 : i = 10
    · simp -implicitDefEqProofs (disch := omega) only [dcT, dcF, hr.row.len_eq etB.under, c98_2_eq, ↓cnd_true, ↓cnd_false, ↓Option.bind_some, ↓obH_some', bin_add, bin_sub, bin_mul, bin_lss, bin_leq, bin_gtr, bin_geq, bin_eql, bin_neq, un_not, un_neg, Option.bind_some, Option.bind_none, Option.map_some, cnd_true, cnd_false, pickV_true, pickV_false, gd_true, gd_false, gdV_true, gdV_false, gdH_true, gdH_false, gdS_true, gdS_false, wt_ff, wt_tt, wt_ft, wt_tf, wt_undef, obH_some', extractV_tuple, nilCheckV_ptr, againK_normal, againK_exit, againK_ret, blockK_normal, blockK_same, blockK_ret, seqK_normal, seqK_exit, seqK_ret, fin_done, if_true', if_false', Bool.not_true, Bool.not_false, idx0, idx1, idx2, idx3, idx4, chk_nil_l, chk_nil_r, done_nm]
      rw [ret98, fin_done, ed, getLoop, if_pos h10]
      rfl
    · obtain ⟨a, e1, e2, _⟩ := hr.row.at1 etB.under etB.size (by kernel_rfl) hlt .i64
      have e3 : (bs.map byteV)[i]? = some (.int .u8 (bs[i].toNat)) := by simp [hlt, byteV]
      rw [e3] at e2
      generalize bs[i] = c at *
      have hc := UInt8.toNat_lt c
      rw [ed, getLoop_step n i c _ (by omega) hn]
      have e64 : (2 : Nat) ^ (7 * i) ≤ 2 ^ 63 := Nat.pow_le_pow_right (by omega) (by omega)
      by_cases h9 : i = 9 ∧ 1 < c.toNat
      · rw [if_pos h9]
        simp -implicitDefEqProofs (disch := omega) only [dcT, dcF, hr.row.len_eq etB.under, e1, e2, ↓cnd_true, ↓cnd_false, ↓Option.bind_some, ↓obH_some', bin_add, bin_sub, bin_mul, bin_lss, bin_leq, bin_gtr, bin_geq, bin_eql, bin_neq, un_not, un_neg, Option.bind_some, Option.bind_none, Option.map_some, cnd_true, cnd_false, pickV_true, pickV_false, gd_true, gd_false, gdV_true, gdV_false, gdH_true, gdH_false, gdS_true, gdS_false, wt_ff, wt_tt, wt_ft, wt_tf, wt_undef, obH_some', extractV_tuple, nilCheckV_ptr, againK_normal, againK_exit, againK_ret, blockK_normal, blockK_same, blockK_ret, seqK_normal, seqK_exit, seqK_ret, fin_done, if_true', if_false', Bool.not_true, Bool.not_false, idx0, idx1, idx2, idx3, idx4, chk_nil_l, chk_nil_r, done_nm]
        rw [ret98, fin_done]
        rfl
      · rw [if_neg h9]
        have hlt : c.toNat % 128 * 2 ^ (7 * i) < 2 ^ 64 := by
          by_cases h : i = 9
          · subst h
            have : c.toNat % 128 ≤ 1 := by omega
            have : c.toNat % 128 * 2 ^ (7 * 9) ≤ 1 * 2 ^ (7 * 9) := Nat.mul_le_mul_right _ this
            omega
          · have h3 : (2 : Nat) ^ (7 * i) ≤ 2 ^ 56 := Nat.pow_le_pow_right (by omega) (by omega)
            have : c.toNat % 128 * 2 ^ (7 * i) ≤ 127 * 2 ^ 56 := Nat.mul_le_mul (by omega) h3
            omega
        have hw : IntKind.wrap .i64 (7 * (i : Int)) = ((7 * i : Nat) : Int) := by rw [wrap_i64] <;> omega
        have hw1 : IntKind.wrap .i64 ((i : Int) + 1) = ((i + 1 : Nat) : Int) := by rw [wrap_i64] <;> omega
        have cvu : convV Try.prog 3 138 (.int .i64 ((7 * i : Nat) : Int)) h = some (.int .u64 ((7 * i : Nat) : Int), h) := conv_u64 (ks := .i64) (by kernel_rfl) (by kernel_rfl) _ _ _ (by omega) (by omega)
        have cv8 : convV Try.prog 5 46 (.int .u8 ((c.toNat % 128 : Nat) : Int)) h = some (.int .u64 ((c.toNat % 128 : Nat) : Int), h) := conv_u64 (ks := .u8) (by kernel_rfl) (by kernel_rfl) _ _ _ (by omega) (by omega)
        have h8 : ¬ (i = 9 ∧ (c.toNat : Int) > 1) := by omega
        by_cases hi9 : i = 9
        all_goals
          by_cases h128 : c.toNat < 128
          · rw [if_pos h128]
            by_cases h0 : c.toNat = 0 ∧ 0 < i
            · rw [if_pos h0]
              simp -implicitDefEqProofs (disch := omega) only [dcT, dcF, hr.row.len_eq etB.under, e1, e2, bin_and8, Int.toNat_natCast, Int.reduceToNat, mod128, cv8, hw, cvu, bin_shl64, bin_or64, Nat.mod_eq_of_lt hlt, or_add _ _ _ hn, ↓cnd_true, ↓cnd_false, ↓Option.bind_some, ↓obH_some', bin_add, bin_sub, bin_mul, bin_lss, bin_leq, bin_gtr, bin_geq, bin_eql, bin_neq, un_not, un_neg, Option.bind_some, Option.bind_none, Option.map_some, cnd_true, cnd_false, pickV_true, pickV_false, gd_true, gd_false, gdV_true, gdV_false, gdH_true, gdH_false, gdS_true, gdS_false, wt_ff, wt_tt, wt_ft, wt_tf, wt_undef, obH_some', extractV_tuple, nilCheckV_ptr, againK_normal, againK_exit, againK_ret, blockK_normal, blockK_same, blockK_ret, seqK_normal, seqK_exit, seqK_ret, fin_done, if_true', if_false', Bool.not_true, Bool.not_false, idx0, idx1, idx2, idx3, idx4, chk_nil_l, chk_nil_r, done_nm]
              rw [ret98, fin_done]
              rfl
            · rw [if_neg h0]
              by_cases h00 : c.toNat = 0
              all_goals
                simp -implicitDefEqProofs (disch := omega) only [dcT, dcF, hr.row.len_eq etB.under, e1, e2, bin_and8, Int.toNat_natCast, Int.reduceToNat, mod128, cv8, hw, cvu, bin_shl64, bin_or64, Nat.mod_eq_of_lt hlt, or_add _ _ _ hn, hw1, ↓cnd_true, ↓cnd_false, ↓Option.bind_some, ↓obH_some', bin_add, bin_sub, bin_mul, bin_lss, bin_leq, bin_gtr, bin_geq, bin_eql, bin_neq, un_not, un_neg, Option.bind_some, Option.bind_none, Option.map_some, cnd_true, cnd_false, pickV_true, pickV_false, gd_true, gd_false, gdV_true, gdV_false, gdH_true, gdH_false, gdS_true, gdS_false, wt_ff, wt_tt, wt_ft, wt_tf, wt_undef, obH_some', extractV_tuple, nilCheckV_ptr, againK_normal, againK_exit, againK_ret, blockK_normal, blockK_same, blockK_ret, seqK_normal, seqK_exit, seqK_ret, fin_done, if_true', if_false', Bool.not_true, Bool.not_false, idx0, idx1, idx2, idx3, idx4, chk_nil_l, chk_nil_r, done_nm]
                rw [ret98, fin_done]
                try (exfalso; omega)
          · rw [if_neg h128]
            simp -implicitDefEqProofs (disch := omega) only [dcT, dcF, hr.row.len_eq etB.under, e1, e2, bin_and8, Int.toNat_natCast, Int.reduceToNat, mod128, cv8, hw, cvu, bin_shl64, bin_or64, Nat.mod_eq_of_lt hlt, or_add _ _ _ hn, hw1, ↓cnd_true, ↓cnd_false, ↓Option.bind_some, ↓obH_some', bin_add, bin_sub, bin_mul, bin_lss, bin_leq, bin_gtr, bin_geq, bin_eql, bin_neq, un_not, un_neg, Option.bind_some, Option.bind_none, Option.map_some, cnd_true, cnd_false, pickV_true, pickV_false, gd_true, gd_false, gdV_true, gdV_false, gdH_true, gdH_false, gdS_true, gdS_false, wt_ff, wt_tt, wt_ft, wt_tf, wt_undef, obH_some', extractV_tuple, nilCheckV_ptr, againK_normal, againK_exit, againK_ret, blockK_normal, blockK_same, blockK_ret, seqK_normal, seqK_exit, seqK_ret, fin_done, if_true', if_false', Bool.not_true, Bool.not_false, idx0, idx1, idx2, idx3, idx4, chk_nil_l, chk_nil_r, done_nm]
            first
              | (exfalso; omega)
              | (refine ih (i + 1) _ (by omega) (by omega) ?_ (by omega) _ _ _ _ _ _ _ _ _ _ _ _ _ _ _ _ _ _ _ _ _ _ _ _ _ _ _ _ _ _ _ _ _ _ _ _ _ _ _ _ _ _
                 have e : 2 ^ (7 * (i + 1)) = 128 * 2 ^ (7 * i) := by rw [Nat.mul_add, Nat.pow_add, Nat.mul_comm]
                 have : c.toNat % 128 * 2 ^ (7 * i) ≤ 127 * 2 ^ (7 * i) := Nat.mul_le_mul_right _ (by omega)
                 omega)
theorem spec_refGet (h : Heap) (v : Value) (bs : List UInt8) (hr : SB h v bs) (hb : bs.length < 2 ^ 40) :
    evC Try.prog 98 #[v] h = some (.tuple #[.int .u64 (getL bs).1, .int .i64 (getL bs).2], h) := by
  rw [call98, c98_0_eq]
  exact rget_loop h (nm h) v bs hr.nm hb bs.length 0 0 (by omega) (by omega) (by omega) (by omega) _ _ _ _ _ _ _ _ _ _ _ _ _ _ _ _ _ _ _ _ _ _ _ _ _ _ _ _ _ _ _ _ _ _ _ _ _ _ _ _ _ _
end Go.Am
namespace Go.Am
open Go.Proofs
theorem faRW (p : Nat) : fieldAddrV Try.prog 97 (.pointer (some ⟨p, 0, none⟩)) 0 = some (.pointer (some ⟨p, 0, none⟩)) := by kernel_rfl
theorem faRR0 (p : Nat) : fieldAddrV Try.prog 83 (.pointer (some ⟨p, 0, none⟩)) 0 = some (.pointer (some ⟨p, 0, none⟩)) := by kernel_rfl
theorem faRR1 (p : Nat) : fieldAddrV Try.prog 83 (.pointer (some ⟨p, 0, none⟩)) 1 = some (.pointer (some ⟨p, 1, none⟩)) := by kernel_rfl
theorem bdRW : buildV Try.prog 97 #[] = some (.agg #[.slice none 0 0]) := by kernel_rfl
theorem bxRW (x : Value) (h : Heap) : boxV Try.prog 97 (.agg #[x]) h = some (.pointer (some ⟨h.blks.length, 0, none⟩), h.new (.cells [x]) 97) := by kernel_rfl
theorem bdRR (a : Option Addr) (n c : Nat) : buildV Try.prog 83 #[(0, .slice a n c)] = some (.agg #[.slice a n c, .bool false]) := by kernel_rfl
theorem bxRR (x y : Value) (h : Heap) : boxV Try.prog 83 (.agg #[x, y]) h = some (.pointer (some ⟨h.blks.length, 0, none⟩), h.new (.cells [x, y]) 83) := by kernel_rfl
def WrR (n0 : Nat) (h : Heap) (p : Nat) (bs : List UInt8) : Prop := ∃ a c, Cells h p 97 [.slice a bs.length c] ∧ AB n0 h (.slice a bs.length c) bs ∧ blockOf (.slice a bs.length c) ≠ some p
theorem WrR.lt {n0 : Nat} {h : Heap} {p : Nat} {bs : List UInt8} (w : WrR n0 h p bs) : p < h.blks.length := let ⟨_, _, c, _⟩ := w; c.lt
theorem WrR.put {n0 : Nat} {h : Heap} {p : Nat} {a : Option Addr} {bs : List UInt8} {c : Nat} {cs : List Value} (hc : Cells h p 97 cs) (ha : AB n0 h (.slice a bs.length c) bs) (hb : blockOf (.slice a bs.length c) ≠ some p) :
    WrR n0 (h.put p (.cells [.slice a bs.length c])) p bs := ⟨a, c, hc.put _, ha.keepPut hb _, hb⟩
theorem WrR.nm {n0 : Nat} {h : Heap} {p : Nat} {bs : List UInt8} (w : WrR n0 h p bs) : WrR n0 (Am.nm h) p bs := let ⟨a, c, x, y, z⟩ := w; ⟨a, c, x, y.keep fun _ _ _ => rfl, z⟩
theorem WrR.done {n0 : Nat} {h0 h : Heap} {p : Nat} {bs : List UInt8} (w : WrR n0 h p bs) : WrR n0 (Am.done h0 h) p bs := let ⟨a, c, x, y, z⟩ := w; ⟨a, c, x.done, y.done, z⟩
theorem WrR.same {n0 : Nat} {h h' : Heap} {p : Nat} {bs : List UInt8} (w : WrR n0 h p bs) (e : Same h h') : WrR n0 h' p bs := let ⟨a, c, x, y, z⟩ := w; ⟨a, c, x.same e, y.same e, z⟩
theorem WrR.ext {n0 : Nat} {h h' : Heap} {p : Nat} {bs : List UInt8} (w : WrR n0 h p bs) (e : HExt h h') : WrR n0 h' p bs := let ⟨a, c, x, y, z⟩ := w; ⟨a, c, x.ext e, y.keep fun b hb _ => e.old b hb, z⟩
theorem WrR.up {n0 n1 : Nat} {h : Heap} {p : Nat} {bs : List UInt8} (w : WrR n0 h p bs) (hn : n1 ≤ n0) : WrR n1 h p bs := let ⟨a, c, x, y, z⟩ := w; ⟨a, c, x, y.up hn, z⟩
theorem spec_RWNum {n0 : Nat} {h : Heap} {p : Nat} {bs : List UInt8} (w : WrR n0 h p bs) (hn0 : n0 ≤ h.blks.length) (n : Nat) (hn : n < 2 ^ 64) (hl : bs.length < 2 ^ 39) :
    ∃ h', evC Try.prog 58 #[.pointer (some ⟨p, 0, none⟩), .int .u64 n] h = some (.tuple #[], h') ∧ HMod (Just p) h h' ∧ WrR h.blks.length h' p (bs ++ putL n) := by
  rw [call58, c58_0_eq]
  obtain ⟨a, c, hc, ha, hne⟩ := w
  obtain ⟨a2, c2, h2, e2, x2, ab⟩ := spec_refPut n hn (nm h) _ bs ha.sb.nm hl
  simp -implicitDefEqProofs only [faRW, ldB, hc.nm.load, List.getElem?_cons_zero, e2, stB, storeN_blk (hc.nm.ext x2) (o := 0) (vs := [.slice a2 (bs ++ putL n).length c2]) (by simp), ↓cnd_true, ↓cnd_false, ↓Option.bind_some, ↓obH_some', bin_add, bin_sub, bin_mul, bin_lss, bin_leq, bin_gtr, bin_geq, bin_eql, bin_neq, un_not, un_neg, Option.bind_some, Option.bind_none, Option.map_some, cnd_true, cnd_false, pickV_true, pickV_false, gd_true, gd_false, gdV_true, gdV_false, gdH_true, gdH_false, gdS_true, gdS_false, wt_ff, wt_tt, wt_ft, wt_tf, wt_undef, obH_some', extractV_tuple, nilCheckV_ptr, againK_normal, againK_exit, againK_ret, blockK_normal, blockK_same, blockK_ret, seqK_normal, seqK_exit, seqK_ret, fin_done, if_true', if_false', Bool.not_true, Bool.not_false, idx0, idx1, idx2, idx3, idx4, chk_nil_l, chk_nil_r, done_nm]
  rw [retn58, fin_done]
  refine ⟨_, rfl, done_mod ((x2.inn (by simp)).trans (In.put (by have := x2.len; simpa using this) (.inr (show Just p p from rfl)) _)), ?_⟩
  simp only [List.take_zero, List.nil_append, List.length_singleton, Nat.zero_add, List.drop_succ_cons, List.drop_nil, List.append_nil]
  exact (WrR.put (hc.nm.ext x2) ab (ab.ne hc.lt)).done
theorem spec_RWBytes {n0 : Nat} {h : Heap} {p : Nat} {bs : List UInt8} (w : WrR n0 h p bs) (hn0 : n0 ≤ h.blks.length) {x : Value} {cs : List UInt8} (hx : SB h x cs) (hxp : blockOf x ≠ some p) (hl : bs.length < 2 ^ 39) (hl2 : cs.length < 2 ^ 39) :
    ∃ h', evC Try.prog 62 #[.pointer (some ⟨p, 0, none⟩), x] h = some (.tuple #[], h') ∧ HMod (Just p) h h' ∧ WrR h.blks.length h' p (bs ++ putL cs.length ++ cs) := by
  rw [call62, c62_0_eq]
  have hs := sizeN_le cs.length 6 (by omega) (by omega)
  obtain ⟨h2, e2, x2, w2⟩ := spec_RWNum w.nm (by simpa using hn0) cs.length (by omega) hl
  obtain ⟨a, c, hc, ha, hne⟩ := w2
  have hx2 : SB h2 x cs := hx.nm.mod x2 fun b hb e => hxp (by rw [hb, e])
  obtain ⟨a3, c3, h3, e3, ab, k3, o3, _⟩ := app_bytes (n0 := h.blks.length) (by have := x2.len; simpa using this) ha hx2 (by simp [putL_len]; omega)
  have hc3 : Cells h3 p _ _ := (o3 p hc.lt hne).trans hc
  simp -implicitDefEqProofs (disch := omega) only [hx.nm.row.len_eq etB.under, cvI64, e2, faRW, ldB, hc.load, List.getElem?_cons_zero, e3, stB, storeN_blk hc3 (o := 0) (vs := [.slice a3 (bs ++ putL cs.length ++ cs).length c3]) (by simp), ↓cnd_true, ↓cnd_false, ↓Option.bind_some, ↓obH_some', bin_add, bin_sub, bin_mul, bin_lss, bin_leq, bin_gtr, bin_geq, bin_eql, bin_neq, un_not, un_neg, Option.bind_some, Option.bind_none, Option.map_some, cnd_true, cnd_false, pickV_true, pickV_false, gd_true, gd_false, gdV_true, gdV_false, gdH_true, gdH_false, gdS_true, gdS_false, wt_ff, wt_tt, wt_ft, wt_tf, wt_undef, obH_some', extractV_tuple, nilCheckV_ptr, againK_normal, againK_exit, againK_ret, blockK_normal, blockK_same, blockK_ret, seqK_normal, seqK_exit, seqK_ret, fin_done, if_true', if_false', Bool.not_true, Bool.not_false, idx0, idx1, idx2, idx3, idx4, chk_nil_l, chk_nil_r, done_nm]
  rw [retn62, fin_done]
  refine ⟨_, rfl, done_mod (((x2.inn (by simp) (fun b _ hb => hb)).trans (k3.inn)).trans (In.put (by have := x2.len; have := k3.len; simp at *; omega) (.inr (show Just p p from rfl)) _)), ?_⟩
  simp only [List.take_zero, List.nil_append, List.length_singleton, Nat.zero_add, List.drop_succ_cons, List.drop_nil, List.append_nil]
  exact (WrR.put hc3 ab (ab.ne w.lt)).done

/-- where a value leads: all below N, which is at most p -/
def LoR (v : Value) (N p : Nat) : Prop := Lo v N ∧ N ≤ p
theorem LoR.ne {v : Value} {N p : Nat} (l : LoR v N p) : blockOf v ≠ some p := (l.1.mono l.2).ne
theorem LoR.to {v w : Value} {N p : Nat} (l : LoR v N p) (e : blockOf w = blockOf v) : LoR w N p := ⟨l.1.to e, l.2⟩
theorem LoR.none {v : Value} {N p : Nat} (l : LoR v N p) : LoR (.slice Option.none 0 0) N p := ⟨Lo.nil _ _ _, l.2⟩
def RdrR (N : Nat) (h : Heap) (p : Nat) (r : Option (List UInt8)) : Prop := ∃ a c, Cells h p 83 [.slice a (rbs r).length c, .bool r.isNone] ∧ SB h (.slice a (rbs r).length c) (rbs r) ∧ LoR (.slice a (rbs r).length c) N p
theorem RdrR.lt {N : Nat} {h : Heap} {p : Nat} {r : Option (List UInt8)} (w : RdrR N h p r) : p < h.blks.length := let ⟨_, _, c, _⟩ := w; c.lt
theorem RdrR.nm {N : Nat} {h : Heap} {p : Nat} {r : Option (List UInt8)} (w : RdrR N h p r) : RdrR N (Am.nm h) p r := let ⟨a, c, x, y, z⟩ := w; ⟨a, c, x, y.nm, z⟩
theorem RdrR.done {N : Nat} {h0 h : Heap} {p : Nat} {r : Option (List UInt8)} (w : RdrR N h p r) : RdrR N (Am.done h0 h) p r := let ⟨a, c, x, y, z⟩ := w; ⟨a, c, x.done, y.done, z⟩
theorem RdrR.same {N : Nat} {h h' : Heap} {p : Nat} {r : Option (List UInt8)} (w : RdrR N h p r) (e : Same h h') : RdrR N h' p r := let ⟨a, c, x, y, z⟩ := w; ⟨a, c, x.same e, y.same e, z⟩
theorem RdrR.keepPut {N : Nat} {h : Heap} {p q : Nat} {r : Option (List UInt8)} (w : RdrR N h p r) (hq : p < q) (body : Body) : RdrR N (h.put q body) p r :=
  let ⟨a, c, x, y, z⟩ := w; ⟨a, c, x.keepPut (by omega) _, y.keepPut (fun e => by have := z.1 _ e; have := z.2; omega) _, z⟩
theorem RdrR.ext {N : Nat} {h h' : Heap} {p : Nat} {r : Option (List UInt8)} (w : RdrR N h p r) (e : HExt h h') : RdrR N h' p r := let ⟨a, c, x, y, z⟩ := w; ⟨a, c, x.ext e, y.ext e, z⟩
theorem RdrR.put {N : Nat} {h : Heap} {p : Nat} {a : Option Addr} {r : Option (List UInt8)} {c : Nat} {cs : List Value} (hc : Cells h p 83 cs) (ha : SB h (.slice a (rbs r).length c) (rbs r)) (hb : LoR (.slice a (rbs r).length c) N p) :
    RdrR N (h.put p (.cells [.slice a (rbs r).length c, .bool r.isNone])) p r := ⟨a, c, hc.put _, ha.keepPut hb.ne _, hb⟩
theorem spec_fail {N : Nat} {h : Heap} {p : Nat} {r : Option (List UInt8)} (w : RdrR N h p r) :
    ∃ h', evC Try.prog 99 #[.pointer (some ⟨p, 0, none⟩)] h = some (.tuple #[], h') ∧ HMod (Just p) h h' ∧ RdrR N h' p none := by
  rw [call99, c99_0_eq]
  obtain ⟨a, c, hc, ha, hne⟩ := w
  have hc1 := hc.nm.put [Value.slice a (rbs r).length c, .bool true]
  have hc2 := hc1.put [Value.slice none 0 0, .bool true]
  simp -implicitDefEqProofs only [faRR0, faRR1, stB, stBool, storeN_blk hc.nm (o := 1) (vs := [.bool true]) (by simp), List.take_zero, List.nil_append, List.length_singleton, Nat.zero_add, List.drop_succ_cons, List.drop_zero, List.cons_append, List.singleton_append,
    storeN_blk hc1 (o := 0) (vs := [.slice none 0 0]) (by simp), List.take_succ_cons, List.drop_nil, Nat.reduceAdd, List.append_nil, ↓cnd_true, ↓cnd_false, ↓Option.bind_some, ↓obH_some', bin_add, bin_sub, bin_mul, bin_lss, bin_leq, bin_gtr, bin_geq, bin_eql, bin_neq, un_not, un_neg, Option.bind_some, Option.bind_none, Option.map_some, cnd_true, cnd_false, pickV_true, pickV_false, gd_true, gd_false, gdV_true, gdV_false, gdH_true, gdH_false, gdS_true, gdS_false, wt_ff, wt_tt, wt_ft, wt_tf, wt_undef, obH_some', extractV_tuple, nilCheckV_ptr, againK_normal, againK_exit, againK_ret, blockK_normal, blockK_same, blockK_ret, seqK_normal, seqK_exit, seqK_ret, fin_done, if_true', if_false', Bool.not_true, Bool.not_false, idx0, idx1, idx2, idx3, idx4, chk_nil_l, chk_nil_r, done_nm]
  rw [retn99, fin_done]
  exact ⟨_, rfl, done_mod ((In.put (by simp) (.inr (show Just p p from rfl)) _).trans (In.put (by rw [Heap.put_len]; simp) (.inr (show Just p p from rfl)) _)), ⟨none, 0, hc2.done, .nil, hne.none⟩⟩
theorem spec_RRNum {N : Nat} {h : Heap} {p : Nat} {r : Option (List UInt8)} (w : RdrR N h p r) (most : Nat) (hm : most < 2 ^ 64) (hl : (rbs r).length < 2 ^ 40) :
    ∃ h', evC Try.prog 48 #[.pointer (some ⟨p, 0, none⟩), .int .u64 most] h = some (.int .u64 (numP r most).1, h') ∧ HMod (Just p) h h' ∧ RdrR N h' p (numP r most).2 := by
  rw [call48, c48_0_eq]
  have w0 := w
  obtain ⟨a, c, hc, ha, hne⟩ := w
  obtain ⟨h2, e2, x2, w2⟩ := spec_fail w0.nm
  cases r with
  | none =>
    have hg := spec_refGet (Am.nm h) _ (rbs none) ha.nm (by simp [rbs])
    simp -implicitDefEqProofs only [faRR0, faRR1, ldB, ldBool, hc.nm.load, List.getElem?_cons_zero, List.getElem?_cons_succ, hg, Option.isNone_none, e2, ↓cnd_true, ↓cnd_false, ↓Option.bind_some, ↓obH_some', bin_add, bin_sub, bin_mul, bin_lss, bin_leq, bin_gtr, bin_geq, bin_eql, bin_neq, un_not, un_neg, Option.bind_some, Option.bind_none, Option.map_some, cnd_true, cnd_false, pickV_true, pickV_false, gd_true, gd_false, gdV_true, gdV_false, gdH_true, gdH_false, gdS_true, gdS_false, wt_ff, wt_tt, wt_ft, wt_tf, wt_undef, obH_some', extractV_tuple, nilCheckV_ptr, againK_normal, againK_exit, againK_ret, blockK_normal, blockK_same, blockK_ret, seqK_normal, seqK_exit, seqK_ret, fin_done, if_true', if_false', Bool.not_true, Bool.not_false, idx0, idx1, idx2, idx3, idx4, chk_nil_l, chk_nil_r, done_nm]
    rw [ret48, fin_done]
    exact ⟨_, rfl, done_mod (x2.inn (by simp) fun _ _ h => h), w2.done⟩
  | some bs =>
    have hrb : rbs (some bs) = bs := rfl
    rw [hrb] at hl hc ha hne
    have hg := spec_refGet (Am.nm h) _ bs ha.nm hl
    have h64 := getL_lt bs
    have hle := getL_len bs
    simp -implicitDefEqProofs only [faRR0, faRR1, ldB, ldBool, hc.nm.load, List.getElem?_cons_zero, List.getElem?_cons_succ, hg, Option.isNone_some, ↓cnd_true, ↓cnd_false, ↓Option.bind_some, ↓obH_some', bin_add, bin_sub, bin_mul, bin_lss, bin_leq, bin_gtr, bin_geq, bin_eql, bin_neq, un_not, un_neg, Option.bind_some, Option.bind_none, Option.map_some, cnd_true, cnd_false, pickV_true, pickV_false, gd_true, gd_false, gdV_true, gdV_false, gdH_true, gdH_false, gdS_true, gdS_false, wt_ff, wt_tt, wt_ft, wt_tf, wt_undef, obH_some', extractV_tuple, nilCheckV_ptr, againK_normal, againK_exit, againK_ret, blockK_normal, blockK_same, blockK_ret, seqK_normal, seqK_exit, seqK_ret, fin_done, if_true', if_false', Bool.not_true, Bool.not_false, idx0, idx1, idx2, idx3, idx4, chk_nil_l, chk_nil_r, done_nm]
    by_cases hbad : (getL bs).2 = 0 ∨ most < (getL bs).1
    · have hp : numP (some bs) most = (0, none) := by simp only [numP]; exact if_pos hbad
      rw [hp]
      by_cases h1 : (getL bs).2 = 0
      all_goals
        simp -implicitDefEqProofs (disch := omega) only [dcF, dcT, e2, ↓cnd_true, ↓cnd_false, ↓Option.bind_some, ↓obH_some', bin_add, bin_sub, bin_mul, bin_lss, bin_leq, bin_gtr, bin_geq, bin_eql, bin_neq, un_not, un_neg, Option.bind_some, Option.bind_none, Option.map_some, cnd_true, cnd_false, pickV_true, pickV_false, gd_true, gd_false, gdV_true, gdV_false, gdH_true, gdH_false, gdS_true, gdS_false, wt_ff, wt_tt, wt_ft, wt_tf, wt_undef, obH_some', extractV_tuple, nilCheckV_ptr, againK_normal, againK_exit, againK_ret, blockK_normal, blockK_same, blockK_ret, seqK_normal, seqK_exit, seqK_ret, fin_done, if_true', if_false', Bool.not_true, Bool.not_false, idx0, idx1, idx2, idx3, idx4, chk_nil_l, chk_nil_r, done_nm]
        rw [ret48, fin_done]
        exact ⟨_, rfl, done_mod (x2.inn (by simp) fun _ _ h => h), w2.done⟩
    · have hp : numP (some bs) most = ((getL bs).1, some (bs.drop (getL bs).2)) := by simp only [numP]; exact if_neg hbad
      rw [hp]
      obtain ⟨a4, c4, e4, s4, b4⟩ := sl_drop ha.nm (i := (getL bs).2) hle .i64
      simp -implicitDefEqProofs (disch := omega) only [dcF, dcT, e4, stB, storeN_blk hc.nm (o := 0) (vs := [.slice a4 (bs.drop (getL bs).2).length c4]) (by simp), ↓cnd_true, ↓cnd_false, ↓Option.bind_some, ↓obH_some', bin_add, bin_sub, bin_mul, bin_lss, bin_leq, bin_gtr, bin_geq, bin_eql, bin_neq, un_not, un_neg, Option.bind_some, Option.bind_none, Option.map_some, cnd_true, cnd_false, pickV_true, pickV_false, gd_true, gd_false, gdV_true, gdV_false, gdH_true, gdH_false, gdS_true, gdS_false, wt_ff, wt_tt, wt_ft, wt_tf, wt_undef, obH_some', extractV_tuple, nilCheckV_ptr, againK_normal, againK_exit, againK_ret, blockK_normal, blockK_same, blockK_ret, seqK_normal, seqK_exit, seqK_ret, fin_done, if_true', if_false', Bool.not_true, Bool.not_false, idx0, idx1, idx2, idx3, idx4, chk_nil_l, chk_nil_r, done_nm]
      rw [ret48, fin_done]
      exact ⟨_, rfl, done_mod (In.put (by simp) (.inr (show Just p p from rfl)) _), (RdrR.put (r := some (bs.drop (getL bs).2)) hc.nm s4 (hne.to b4)).done⟩
theorem spec_RREnd {N : Nat} {h : Heap} {p : Nat} {r : Option (List UInt8)} (w : RdrR N h p r) :
    evC Try.prog 56 #[.pointer (some ⟨p, 0, none⟩)] h = some (.bool (endP r), h) := by
  rw [call56, c56_0_eq]
  obtain ⟨a, c, hc, ha, hne⟩ := w
  cases r with
  | none =>
    simp -implicitDefEqProofs only [faRR0, faRR1, ldB, ldBool, hc.nm.load, List.getElem?_cons_zero, List.getElem?_cons_succ, Option.isNone_none, ↓cnd_true, ↓cnd_false, ↓Option.bind_some, ↓obH_some', bin_add, bin_sub, bin_mul, bin_lss, bin_leq, bin_gtr, bin_geq, bin_eql, bin_neq, un_not, un_neg, Option.bind_some, Option.bind_none, Option.map_some, cnd_true, cnd_false, pickV_true, pickV_false, gd_true, gd_false, gdV_true, gdV_false, gdH_true, gdH_false, gdS_true, gdS_false, wt_ff, wt_tt, wt_ft, wt_tf, wt_undef, obH_some', extractV_tuple, nilCheckV_ptr, againK_normal, againK_exit, againK_ret, blockK_normal, blockK_same, blockK_ret, seqK_normal, seqK_exit, seqK_ret, fin_done, if_true', if_false', Bool.not_true, Bool.not_false, idx0, idx1, idx2, idx3, idx4, chk_nil_l, chk_nil_r, done_nm]
    rw [ret56, fin_done]
    rfl
  | some bs =>
    simp -implicitDefEqProofs only [faRR0, faRR1, ldB, ldBool, hc.nm.load, List.getElem?_cons_zero, List.getElem?_cons_succ, Option.isNone_some, ha.nm.row.len_eq etB.under, ↓cnd_true, ↓cnd_false, ↓Option.bind_some, ↓obH_some', bin_add, bin_sub, bin_mul, bin_lss, bin_leq, bin_gtr, bin_geq, bin_eql, bin_neq, un_not, un_neg, Option.bind_some, Option.bind_none, Option.map_some, cnd_true, cnd_false, pickV_true, pickV_false, gd_true, gd_false, gdV_true, gdV_false, gdH_true, gdH_false, gdS_true, gdS_false, wt_ff, wt_tt, wt_ft, wt_tf, wt_undef, obH_some', extractV_tuple, nilCheckV_ptr, againK_normal, againK_exit, againK_ret, blockK_normal, blockK_same, blockK_ret, seqK_normal, seqK_exit, seqK_ret, fin_done, if_true', if_false', Bool.not_true, Bool.not_false, idx0, idx1, idx2, idx3, idx4, chk_nil_l, chk_nil_r, done_nm]
    rw [ret56, fin_done]
    cases bs with
    | nil => rfl
    | cons b bs => 
      have : decide (((rbs (some (b :: bs))).length : Int) = 0) = false := decide_eq_false (by simp [rbs]; omega)
      rw [this]; rfl
theorem spec_RRBytes {N : Nat} {h : Heap} {p : Nat} {r : Option (List UInt8)} (w : RdrR N h p r) (most : Int) (hm0 : -2 ^ 63 ≤ most) (hm : most < 2 ^ 63) (hl : (rbs r).length < 2 ^ 40) :
    ∃ a c h', evC Try.prog 55 #[.pointer (some ⟨p, 0, none⟩), .int .i64 most] h = some (.slice a (bytesP r most.toNat).1.length c, h') ∧ HMod (Just p) h h' ∧ RdrR N h' p (bytesP r most.toNat).2 ∧ AB h.blks.length h' (.slice a (bytesP r most.toNat).1.length c) (bytesP r most.toNat).1 := by
  rw [call55, c55_0_eq]
  have w0 := w
  obtain ⟨a, c, hc, ha, hne⟩ := w
  obtain ⟨h2, e2, x2, w2⟩ := spec_fail w0.nm
  cases r with
  | none =>
    have hg := spec_refGet (Am.nm h) _ (rbs none) ha.nm (by simp [rbs])
    simp -implicitDefEqProofs only [faRR0, faRR1, ldB, ldBool, hc.nm.load, List.getElem?_cons_zero, List.getElem?_cons_succ, hg, Option.isNone_none, e2, ↓cnd_true, ↓cnd_false, ↓Option.bind_some, ↓obH_some', bin_add, bin_sub, bin_mul, bin_lss, bin_leq, bin_gtr, bin_geq, bin_eql, bin_neq, un_not, un_neg, Option.bind_some, Option.bind_none, Option.map_some, cnd_true, cnd_false, pickV_true, pickV_false, gd_true, gd_false, gdV_true, gdV_false, gdH_true, gdH_false, gdS_true, gdS_false, wt_ff, wt_tt, wt_ft, wt_tf, wt_undef, obH_some', extractV_tuple, nilCheckV_ptr, againK_normal, againK_exit, againK_ret, blockK_normal, blockK_same, blockK_ret, seqK_normal, seqK_exit, seqK_ret, fin_done, if_true', if_false', Bool.not_true, Bool.not_false, idx0, idx1, idx2, idx3, idx4, chk_nil_l, chk_nil_r, done_nm]
    rw [ret55, fin_done]
    exact ⟨none, 0, _, rfl, done_mod (x2.inn (by simp) fun _ _ h => h), w2.done, .nil⟩
  | some bs =>
    have hrb : rbs (some bs) = bs := rfl
    rw [hrb] at hl hc ha hne
    have hg := spec_refGet (Am.nm h) _ bs ha.nm hl
    have h64 := getL_lt bs
    have hle := getL_len bs
    simp -implicitDefEqProofs only [faRR0, faRR1, ldB, ldBool, hc.nm.load, List.getElem?_cons_zero, List.getElem?_cons_succ, hg, Option.isNone_some, ↓cnd_true, ↓cnd_false, ↓Option.bind_some, ↓obH_some', bin_add, bin_sub, bin_mul, bin_lss, bin_leq, bin_gtr, bin_geq, bin_eql, bin_neq, un_not, un_neg, Option.bind_some, Option.bind_none, Option.map_some, cnd_true, cnd_false, pickV_true, pickV_false, gd_true, gd_false, gdV_true, gdV_false, gdH_true, gdH_false, gdS_true, gdS_false, wt_ff, wt_tt, wt_ft, wt_tf, wt_undef, obH_some', extractV_tuple, nilCheckV_ptr, againK_normal, againK_exit, againK_ret, blockK_normal, blockK_same, blockK_ret, seqK_normal, seqK_exit, seqK_ret, fin_done, if_true', if_false', Bool.not_true, Bool.not_false, idx0, idx1, idx2, idx3, idx4, chk_nil_l, chk_nil_r, done_nm]
    have hk63 : (getL bs).2 < 2 ^ 40 := by omega
    by_cases h1 : (getL bs).2 = 0
    · have hp : bytesP (some bs) most.toNat = ([], none) := by
        simp only [bytesP, numP]; rw [if_pos (.inl h1)]; rfl
      rw [hp]
      simp -implicitDefEqProofs (disch := omega) only [dcF, dcT, faRR0, faRR1, ldB, ldBool, hc.nm.load, List.getElem?_cons_zero, List.getElem?_cons_succ, Option.isNone_some, e2, ↓cnd_true, ↓cnd_false, ↓Option.bind_some, ↓obH_some', bin_add, bin_sub, bin_mul, bin_lss, bin_leq, bin_gtr, bin_geq, bin_eql, bin_neq, un_not, un_neg, Option.bind_some, Option.bind_none, Option.map_some, cnd_true, cnd_false, pickV_true, pickV_false, gd_true, gd_false, gdV_true, gdV_false, gdH_true, gdH_false, gdS_true, gdS_false, wt_ff, wt_tt, wt_ft, wt_tf, wt_undef, obH_some', extractV_tuple, nilCheckV_ptr, againK_normal, againK_exit, againK_ret, blockK_normal, blockK_same, blockK_ret, seqK_normal, seqK_exit, seqK_ret, fin_done, if_true', if_false', Bool.not_true, Bool.not_false, idx0, idx1, idx2, idx3, idx4, chk_nil_l, chk_nil_r, done_nm]
      rw [ret55, fin_done]
      exact ⟨none, 0, _, rfl, done_mod (x2.inn (by simp) fun _ _ h => h), w2.done, .nil⟩
    · have hfail : (most < 0 ∧ 0 < (getL bs).1) ∨ (0 ≤ most ∧ most < (getL bs).1) ∨ (0 ≤ most ∧ bs.length - (getL bs).2 < (getL bs).1) →
          bytesP (some bs) most.toNat = ([], none) := by
        intro hc
        simp only [bytesP, numP]
        by_cases h2 : most.toNat < (getL bs).1
        · rw [if_pos (.inr h2)]; rfl
        · rw [if_neg (by omega)]
          simp only [takeP]
          rw [if_pos (by simp; omega)]
      have hw : IntKind.wrap .i64 ((bs.length : Int) - (getL bs).2) = ((bs.length - (getL bs).2 : Nat) : Int) := by rw [wrap_i64] <;> omega
      by_cases hneg : most < 0
      · by_cases hn : (getL bs).1 = 0
        · have hp : bytesP (some bs) most.toNat = ([], some (bs.drop (getL bs).2)) := by
            simp only [bytesP, numP]
            rw [if_neg (by omega)]
            simp only [takeP, hn]
            rw [if_neg (by omega)]; rfl
          rw [hp]
          obtain ⟨a4, c4, e4, s4, b4⟩ := sl_drop ha.nm (i := (getL bs).2) hle .i64
          simp -implicitDefEqProofs (disch := omega) only [dcF, dcT, faRR0, faRR1, ldB, ldBool, hc.nm.load, List.getElem?_cons_zero, List.getElem?_cons_succ, Option.isNone_some, e4, stB, storeN_blk hc.nm (o := 0) (vs := [.slice a4 (bs.drop (getL bs).2).length c4]) (by simp), ↓cnd_true, ↓cnd_false, ↓Option.bind_some, ↓obH_some', bin_add, bin_sub, bin_mul, bin_lss, bin_leq, bin_gtr, bin_geq, bin_eql, bin_neq, un_not, un_neg, Option.bind_some, Option.bind_none, Option.map_some, cnd_true, cnd_false, pickV_true, pickV_false, gd_true, gd_false, gdV_true, gdV_false, gdH_true, gdH_false, gdS_true, gdS_false, wt_ff, wt_tt, wt_ft, wt_tf, wt_undef, obH_some', extractV_tuple, nilCheckV_ptr, againK_normal, againK_exit, againK_ret, blockK_normal, blockK_same, blockK_ret, seqK_normal, seqK_exit, seqK_ret, fin_done, if_true', if_false', Bool.not_true, Bool.not_false, idx0, idx1, idx2, idx3, idx4, chk_nil_l, chk_nil_r, done_nm]
          rw [ret55, fin_done]
          exact ⟨none, 0, _, rfl, done_mod (In.put (by simp) (.inr (show Just p p from rfl)) _), (RdrR.put (r := some (bs.drop (getL bs).2)) hc.nm s4 (hne.to b4)).done, .nil⟩
        · rw [hfail (.inl ⟨hneg, by omega⟩)]
          simp -implicitDefEqProofs (disch := omega) only [dcF, dcT, faRR0, faRR1, ldB, ldBool, hc.nm.load, List.getElem?_cons_zero, List.getElem?_cons_succ, Option.isNone_some, e2, ↓cnd_true, ↓cnd_false, ↓Option.bind_some, ↓obH_some', bin_add, bin_sub, bin_mul, bin_lss, bin_leq, bin_gtr, bin_geq, bin_eql, bin_neq, un_not, un_neg, Option.bind_some, Option.bind_none, Option.map_some, cnd_true, cnd_false, pickV_true, pickV_false, gd_true, gd_false, gdV_true, gdV_false, gdH_true, gdH_false, gdS_true, gdS_false, wt_ff, wt_tt, wt_ft, wt_tf, wt_undef, obH_some', extractV_tuple, nilCheckV_ptr, againK_normal, againK_exit, againK_ret, blockK_normal, blockK_same, blockK_ret, seqK_normal, seqK_exit, seqK_ret, fin_done, if_true', if_false', Bool.not_true, Bool.not_false, idx0, idx1, idx2, idx3, idx4, chk_nil_l, chk_nil_r, done_nm]
          rw [ret55, fin_done]
          exact ⟨none, 0, _, rfl, done_mod (x2.inn (by simp) fun _ _ h => h), w2.done, .nil⟩
      · by_cases hm1 : most < (getL bs).1
        · rw [hfail (.inr (.inl ⟨by omega, hm1⟩))]
          simp -implicitDefEqProofs (disch := omega) only [dcF, dcT, faRR0, faRR1, ldB, ldBool, hc.nm.load, List.getElem?_cons_zero, List.getElem?_cons_succ, Option.isNone_some, cvI64, e2, ↓cnd_true, ↓cnd_false, ↓Option.bind_some, ↓obH_some', bin_add, bin_sub, bin_mul, bin_lss, bin_leq, bin_gtr, bin_geq, bin_eql, bin_neq, un_not, un_neg, Option.bind_some, Option.bind_none, Option.map_some, cnd_true, cnd_false, pickV_true, pickV_false, gd_true, gd_false, gdV_true, gdV_false, gdH_true, gdH_false, gdS_true, gdS_false, wt_ff, wt_tt, wt_ft, wt_tf, wt_undef, obH_some', extractV_tuple, nilCheckV_ptr, againK_normal, againK_exit, againK_ret, blockK_normal, blockK_same, blockK_ret, seqK_normal, seqK_exit, seqK_ret, fin_done, if_true', if_false', Bool.not_true, Bool.not_false, idx0, idx1, idx2, idx3, idx4, chk_nil_l, chk_nil_r, done_nm]
          rw [ret55, fin_done]
          exact ⟨none, 0, _, rfl, done_mod (x2.inn (by simp) fun _ _ h => h), w2.done, .nil⟩
        · by_cases hm2 : bs.length - (getL bs).2 < (getL bs).1
          · rw [hfail (.inr (.inr ⟨by omega, hm2⟩))]
            simp -implicitDefEqProofs (disch := omega) only [dcF, dcT, faRR0, faRR1, ldB, ldBool, hc.nm.load, List.getElem?_cons_zero, List.getElem?_cons_succ, Option.isNone_some, ha.nm.row.len_eq etB.under, hw, cvI64, e2, ↓cnd_true, ↓cnd_false, ↓Option.bind_some, ↓obH_some', bin_add, bin_sub, bin_mul, bin_lss, bin_leq, bin_gtr, bin_geq, bin_eql, bin_neq, un_not, un_neg, Option.bind_some, Option.bind_none, Option.map_some, cnd_true, cnd_false, pickV_true, pickV_false, gd_true, gd_false, gdV_true, gdV_false, gdH_true, gdH_false, gdS_true, gdS_false, wt_ff, wt_tt, wt_ft, wt_tf, wt_undef, obH_some', extractV_tuple, nilCheckV_ptr, againK_normal, againK_exit, againK_ret, blockK_normal, blockK_same, blockK_ret, seqK_normal, seqK_exit, seqK_ret, fin_done, if_true', if_false', Bool.not_true, Bool.not_false, idx0, idx1, idx2, idx3, idx4, chk_nil_l, chk_nil_r, done_nm]
            rw [ret55, fin_done]
            exact ⟨none, 0, _, rfl, done_mod (x2.inn (by simp) fun _ _ h => h), w2.done, .nil⟩
          · have hp : bytesP (some bs) most.toNat = ((bs.drop (getL bs).2).take (getL bs).1, some (bs.drop ((getL bs).2 + (getL bs).1))) := by
              simp only [bytesP, numP]
              rw [if_neg (by omega)]
              simp only [takeP]
              rw [if_neg (by simp; omega), List.drop_drop]
            rw [hp]
            have hw2 : IntKind.wrap .i64 (((getL bs).2 : Int) + (getL bs).1) = (((getL bs).2 + (getL bs).1 : Nat) : Int) := by rw [wrap_i64] <;> omega
            have ha1 : SB ((Am.nm h).new (.cells []) 5) (.slice a bs.length c) bs := ha.nm.keepNew _ _
            have hc1 : Cells ((Am.nm h).new (.cells []) 5) p _ _ := hc.nm.keepNew _ _
            obtain ⟨a3, c3, e3, s3, b3⟩ := sl_mid ha1 (i := (getL bs).2) (j := (getL bs).2 + (getL bs).1) (by omega) (by omega) (lo := some (.int .i64 ((getL bs).2 : Nat))) (hi := some (.int .i64 (((getL bs).2 + (getL bs).1 : Nat) : Int))) (natOf_int .i64 _) (natOf_int .i64 _)
            rw [Nat.add_sub_cancel_left] at e3 s3 b3
            obtain ⟨a5, c5, h5, e5, s5, k5, o5, _⟩ := app_bytes (n0 := h.blks.length) (by simp [Heap.new]) (AB.empty h.blks.length (Am.nm h) (by simp)) s3 (by simp; omega)
            rw [List.nil_append] at e5 s5
            have hc5 : Cells h5 p _ _ := (o5 p hc1.lt (by have := hc.lt; simp [blockOf]; omega)).trans hc1
            have ha5 : SB h5 (.slice a bs.length c) bs := ha1.keep fun b hb hv => o5 b hb (by have := ha.lt hv; simp [blockOf]; omega)
            obtain ⟨a4, c4, e4, s4, b4⟩ := sl_drop ha5 (i := (getL bs).2 + (getL bs).1) (by omega) .i64
            simp -implicitDefEqProofs (disch := omega) only [dcF, dcT, faRR0, faRR1, ldB, ldBool, hc.nm.load, List.getElem?_cons_zero, List.getElem?_cons_succ, Option.isNone_some, ha.nm.row.len_eq etB.under, hw, hw2, cvI64, cvU64, mkB0, hc1.load, hc5.load, e3, e4, e5, stB, storeN_blk hc5 (o := 0) (vs := [.slice a4 (bs.drop ((getL bs).2 + (getL bs).1)).length c4]) (by simp), ↓cnd_true, ↓cnd_false, ↓Option.bind_some, ↓obH_some', bin_add, bin_sub, bin_mul, bin_lss, bin_leq, bin_gtr, bin_geq, bin_eql, bin_neq, un_not, un_neg, Option.bind_some, Option.bind_none, Option.map_some, cnd_true, cnd_false, pickV_true, pickV_false, gd_true, gd_false, gdV_true, gdV_false, gdH_true, gdH_false, gdS_true, gdS_false, wt_ff, wt_tt, wt_ft, wt_tf, wt_undef, obH_some', extractV_tuple, nilCheckV_ptr, againK_normal, againK_exit, againK_ret, blockK_normal, blockK_same, blockK_ret, seqK_normal, seqK_exit, seqK_ret, fin_done, if_true', if_false', Bool.not_true, Bool.not_false, idx0, idx1, idx2, idx3, idx4, chk_nil_l, chk_nil_r, done_nm]
            rw [ret55, fin_done]
            have hpb : blockOf (.slice a5 ((bs.drop (getL bs).2).take (getL bs).1).length c5) ≠ some p := s5.ne hc.lt
            refine ⟨a5, c5, _, rfl, done_mod (((In.new (by simp) _ _).trans k5.inn).trans (In.put (by have := k5.len; simp [Heap.new] at this; omega) (.inr (show Just p p from rfl)) _)), ?_, (s5.keepPut hpb _).done⟩
            exact (RdrR.put (r := some (bs.drop ((getL bs).2 + (getL bs).1))) hc5 s4 (hne.to b4)).done
end Go.Am
namespace Go.Am
theorem putL_lt (n : Nat) (h : n < 128) : putL n = [UInt8.ofNat n] := by rw [putL, if_pos h]
theorem putL_ge (n : Nat) (h : 128 ≤ n) : putL n = UInt8.ofNat (n % 128 + 128) :: putL (n / 128) := by rw [putL, if_neg (by omega)]
theorem getLoop_putL (rest : List UInt8) (n : Nat) : ∀ (acc i : Nat), acc < 2 ^ (7 * i) → acc + n * 2 ^ (7 * i) < 2 ^ 64 → i + sizeN n ≤ 10 → (i = 0 ∨ 0 < n) →
    getLoop acc i (putL n ++ rest) = (acc + n * 2 ^ (7 * i), i + sizeN n) := by
  induction n using Nat.strongRecOn with
  | _ n ih =>
    intro acc i ha hs hi hn
    have hp : 0 < 2 ^ (7 * i) := Nat.two_pow_pos _
    by_cases h : n < 128
    · have e1 : sizeN n = 1 := by rw [sizeN, if_pos h]
      have ec : (UInt8.ofNat n).toNat = n := by simp; omega
      rw [putL_lt n h, List.cons_append, List.nil_append, getLoop_step _ _ _ _ (by omega) ha, ec, if_neg, if_pos h, if_neg (by omega), e1, Nat.mod_eq_of_lt h]
      rintro ⟨h9, h1⟩
      subst h9
      have : 2 * 2 ^ (7 * 9) ≤ n * 2 ^ (7 * 9) := Nat.mul_le_mul_right _ h1
      omega
    · have e1 : sizeN n = sizeN (n / 128) + 1 := by rw [sizeN, if_neg h]
      have hs1 := sizeN_pos (n / 128)
      have ec : (UInt8.ofNat (n % 128 + 128)).toNat = n % 128 + 128 := by simp; omega
      have e : 2 ^ (7 * (i + 1)) = 128 * 2 ^ (7 * i) := by rw [Nat.mul_add, Nat.pow_add, Nat.mul_comm]
      have em : (n % 128 + 128) % 128 = n % 128 := by omega
      have e2 : acc + n % 128 * 2 ^ (7 * i) + n / 128 * 2 ^ (7 * (i + 1)) = acc + n * 2 ^ (7 * i) := by
        rw [e, ← Nat.mul_assoc, Nat.add_assoc, ← Nat.add_mul]
        congr 2; omega
      rw [putL_ge n (by omega), List.cons_append, getLoop_step _ _ _ _ (by omega) ha, ec, if_neg (by omega), if_neg (by omega), em,
        ih (n / 128) (by omega) _ (i + 1) ?_ (by rw [e2]; exact hs) (by omega) (.inr (by omega)), e2, e1]
      · congr 1; omega
      · have : n % 128 * 2 ^ (7 * i) ≤ 127 * 2 ^ (7 * i) := Nat.mul_le_mul_right _ (by omega)
        omega
theorem getL_putL (n : Nat) (hn : n < 2 ^ 64) (rest : List UInt8) : getL (putL n ++ rest) = (n, (putL n).length) := by
  have := getLoop_putL rest n 0 0 (by omega) (by omega) (by have := sizeN_le n 10 (by omega) (by omega); omega) (.inl rfl)
  rw [getL, this, putL_len]
  simp
theorem putL_pos (n : Nat) : 0 < (putL n).length := by rw [putL_len]; exact sizeN_pos n
theorem numP_putL (n : Nat) (hn : n < 2 ^ 64) (rest : List UInt8) (m : Nat) (hm : n ≤ m) : numP (some (putL n ++ rest)) m = (n, some rest) := by
  have := putL_pos n
  simp only [numP, getL_putL n hn]
  rw [if_neg (by omega), List.drop_left]
theorem numP_cut (n : Nat) (hn : n < 2 ^ 64) (rest : List UInt8) (m : Nat) (hm : n ≤ m) (a : Nat) :
    numP (some ((putL n ++ rest).take a)) m = if a < (putL n).length then (0, none) else (n, some (rest.take (a - (putL n).length))) := by
  split
  · rename_i h
    rw [List.take_append_of_le_length (by omega)]
    simp only [numP, getL_cut n a h]
    rfl
  · rename_i h
    rw [List.take_append, List.take_of_length_le (by omega)]
    exact numP_putL n hn _ m hm
theorem bytesP_cut (body rest : List UInt8) (hb : body.length < 2 ^ 64) (m : Nat) (hm : body.length ≤ m) (a : Nat) (ha : a < (putL body.length ++ body).length) :
    bytesP (some ((putL body.length ++ body).take a)) m = ([], none) := by
  unfold bytesP
  rw [numP_cut _ hb _ _ hm]
  simp only [List.length_append] at ha
  split
  · rfl
  · simp only [takeP]
    rw [if_pos (by simp; omega)]
theorem bytesP_put (body rest : List UInt8) (hb : body.length < 2 ^ 64) (m : Nat) (hm : body.length ≤ m) : bytesP (some (putL body.length ++ (body ++ rest))) m = (body, some rest) := by
  unfold bytesP
  rw [numP_putL _ hb _ _ hm]
  simp only [takeP]
  rw [if_neg (by simp), List.take_left, List.drop_left]
theorem numP_none (m : Nat) : numP none m = (0, none) := rfl
theorem bytesP_none (m : Nat) : bytesP none m = ([], none) := rfl
end Go.Am
namespace Go.Am
open Go.Proofs
set_option maxRecDepth 100000
set_option linter.all false
attribute [local congr] obind_congr obH_congr cnd_congr chk_congr retK_congr codeK_congr
/-! sets -/
def outB (n w : Nat) : Nat := n &&& (2 ^ 64 - 1 - w)
def setP : Option (List UInt8) → Nat → Nat × Option (List UInt8)
  | none, _ => (0, none)
  | some bs, w => if (getL bs).2 = 0 ∨ outB (getL bs).1 w ≠ 0 then (0, none) else ((getL bs).1, some (bs.drop (getL bs).2))
theorem anN (t : TypeId) (xo yo : Operand) (n w : Nat) (hn : n < 2 ^ 64) (hw : w < 2 ^ 64) : binV Try.prog .andNot t xo yo (.int .u64 n) (.int .u64 w) = some (.int .u64 ((outB n w : Nat) : Int)) := by
  rw [bin_andNot64 _ _ _ _ _ (by omega) (by omega) (by omega) (by omega), Int.toNat_natCast, Int.toNat_natCast]; rfl
theorem spec_Within (n w : Nat) (hn : n < 2 ^ 64) (hw : w < 2 ^ 64) (h : Heap) : evC Try.prog 100 #[.int .u64 n, .int .u64 w] h = some (.bool (decide (outB n w = 0)), h) := by
  rw [call100, c100_0_eq]
  have e := fun t xo yo => anN t xo yo n w hn hw
  have d : decide (((outB n w : Nat) : Int) = 0) = decide (outB n w = 0) := by congr 1; apply propext; omega
  simp -implicitDefEqProofs only [e, d, ↓ret100, ↓cnd_true, ↓cnd_false, ↓Option.bind_some, ↓obH_some', bin_add, bin_sub, bin_mul, bin_lss, bin_leq, bin_gtr, bin_geq, bin_eql, bin_neq, un_not, un_neg, Option.bind_some, Option.bind_none, Option.map_some, cnd_true, cnd_false, pickV_true, pickV_false, gd_true, gd_false, gdV_true, gdV_false, gdH_true, gdH_false, gdS_true, gdS_false, wt_ff, wt_tt, wt_ft, wt_tf, wt_undef, obH_some', extractV_tuple, nilCheckV_ptr, againK_normal, againK_exit, againK_ret, blockK_normal, blockK_same, blockK_ret, seqK_normal, seqK_exit, seqK_ret, fin_done, if_true', if_false', Bool.not_true, Bool.not_false, idx0, idx1, idx2, idx3, idx4, chk_nil_l, chk_nil_r, done_nm]
theorem spec_RSet {h : Heap} {p : Nat} {r : Option (List UInt8)} (w : Rdr h p r) (most : Nat) (hm : most < 2 ^ 64) (hl : (rbs r).length < 2 ^ 40) :
    ∃ h', evC Try.prog 49 #[.pointer (some ⟨p, 0, none⟩), .int .u64 most] h = some (.int .u64 (setP r most).1, h') ∧ HMod (Just p) h h' ∧ Rdr h' p (setP r most).2 := by
  rw [call49, c49_0_eq]
  have w0 := w
  obtain ⟨a, c, hc, ha, hne⟩ := w
  obtain ⟨bs, hbs⟩ : ∃ bs, rbs r = bs := ⟨_, rfl⟩
  rw [hbs] at hl hc ha hne
  have hg := spec_Get (Am.nm h) _ bs ha.nm.row hl
  have h64 := getL_lt bs
  have hle := getL_len bs
  have hin := fun h => spec_Within (getL bs).1 most h64 hm h
  by_cases hbad : (getL bs).2 = 0 ∨ outB (getL bs).1 most ≠ 0
  · obtain ⟨h2, e2, x2, w2⟩ := spec_spoil w0.nm true
    have hp : setP r most = (0, none) := by
      cases r with
      | none => rfl
      | some bs' => have : bs' = bs := hbs
                    subst this
                    simp only [setP]; exact if_pos hbad
    rw [hp]
    by_cases h1 : (getL bs).2 = 0
    · simp -implicitDefEqProofs (disch := omega) only [faR0, faR1, ldB, hc.nm.load, List.getElem?_cons_zero, hg, h1, dcT, dcF, Int.natCast_zero, decide_true, e2, Bool.true_or, ↓ret49, ↓cnd_true, ↓cnd_false, ↓Option.bind_some, ↓obH_some', bin_add, bin_sub, bin_mul, bin_lss, bin_leq, bin_gtr, bin_geq, bin_eql, bin_neq, un_not, un_neg, Option.bind_some, Option.bind_none, Option.map_some, cnd_true, cnd_false, pickV_true, pickV_false, gd_true, gd_false, gdV_true, gdV_false, gdH_true, gdH_false, gdS_true, gdS_false, wt_ff, wt_tt, wt_ft, wt_tf, wt_undef, obH_some', extractV_tuple, nilCheckV_ptr, againK_normal, againK_exit, againK_ret, blockK_normal, blockK_same, blockK_ret, seqK_normal, seqK_exit, seqK_ret, fin_done, if_true', if_false', Bool.not_true, Bool.not_false, idx0, idx1, idx2, idx3, idx4, chk_nil_l, chk_nil_r, done_nm]
      exact ⟨_, rfl, done_mod (x2.inn (by simp) fun _ _ h => h), w2.done⟩
    · have h3 : outB (getL bs).1 most ≠ 0 := by omega
      rw [decide_eq_false h3] at hin
      simp -implicitDefEqProofs (disch := omega) only [faR0, faR1, ldB, hc.nm.load, List.getElem?_cons_zero, hg, dcF, dcT, hin, e2, Bool.true_or, ↓ret49, ↓cnd_true, ↓cnd_false, ↓Option.bind_some, ↓obH_some', bin_add, bin_sub, bin_mul, bin_lss, bin_leq, bin_gtr, bin_geq, bin_eql, bin_neq, un_not, un_neg, Option.bind_some, Option.bind_none, Option.map_some, cnd_true, cnd_false, pickV_true, pickV_false, gd_true, gd_false, gdV_true, gdV_false, gdH_true, gdH_false, gdS_true, gdS_false, wt_ff, wt_tt, wt_ft, wt_tf, wt_undef, obH_some', extractV_tuple, nilCheckV_ptr, againK_normal, againK_exit, againK_ret, blockK_normal, blockK_same, blockK_ret, seqK_normal, seqK_exit, seqK_ret, fin_done, if_true', if_false', Bool.not_true, Bool.not_false, idx0, idx1, idx2, idx3, idx4, chk_nil_l, chk_nil_r, done_nm]
      exact ⟨_, rfl, done_mod (x2.inn (by simp) fun _ _ h => h), w2.done⟩
  · obtain rfl : r = some bs := by
      cases r with
      | none => have : [] = bs := hbs
                subst this
                exact absurd (.inl rfl) hbad
      | some bs' => have : bs' = bs := hbs
                    rw [this]
    have hp : setP (some bs) most = ((getL bs).1, some (bs.drop (getL bs).2)) := by simp only [setP]; exact if_neg hbad
    rw [hp]
    have hb1 : (getL bs).2 ≠ 0 := fun e => hbad (.inl e)
    have hb2 : outB (getL bs).1 most = 0 := Classical.byContradiction fun e => hbad (.inr e)
    rw [decide_eq_true hb2] at hin
    obtain ⟨h2, e2, x2, w2⟩ := spec_spoil w0.nm false
    obtain ⟨a2, c2, hc2, ha2, hne2⟩ := w2
    simp only [Bool.false_eq_true, if_false, rbs, Option.getD_some] at hc2 ha2 hne2
    obtain ⟨a4, c4, e4, s4, b4⟩ := sl_drop ha2 (i := (getL bs).2) hle .i64
    simp -implicitDefEqProofs (disch := omega) only [faR0, faR1, ldB, hc.nm.load, List.getElem?_cons_zero, hg, dcF, dcT, hin, e2, Bool.false_or, Option.isNone_some, hc2.load, e4, stB, storeN_blk hc2 (o := 0) (vs := [.slice a4 (bs.drop (getL bs).2).length c4]) (by simp), ↓ret49, ↓cnd_true, ↓cnd_false, ↓Option.bind_some, ↓obH_some', bin_add, bin_sub, bin_mul, bin_lss, bin_leq, bin_gtr, bin_geq, bin_eql, bin_neq, un_not, un_neg, Option.bind_some, Option.bind_none, Option.map_some, cnd_true, cnd_false, pickV_true, pickV_false, gd_true, gd_false, gdV_true, gdV_false, gdH_true, gdH_false, gdS_true, gdS_false, wt_ff, wt_tt, wt_ft, wt_tf, wt_undef, obH_some', extractV_tuple, nilCheckV_ptr, againK_normal, againK_exit, againK_ret, blockK_normal, blockK_same, blockK_ret, seqK_normal, seqK_exit, seqK_ret, fin_done, if_true', if_false', Bool.not_true, Bool.not_false, idx0, idx1, idx2, idx3, idx4, chk_nil_l, chk_nil_r, done_nm]
    refine ⟨_, rfl, done_mod ((x2.inn (by simp) fun _ _ h => h).trans (In.put (by have := x2.len; simpa using this) (.inr (show Just p p from rfl)) _)), ?_⟩
    exact (RdrL.put (r := some (bs.drop (getL bs).2)) hc2 s4 (hne2.to b4)).done
theorem spec_RRSet {N : Nat} {h : Heap} {p : Nat} {r : Option (List UInt8)} (w : RdrR N h p r) (most : Nat) (hm : most < 2 ^ 64) (hl : (rbs r).length < 2 ^ 40) :
    ∃ h', evC Try.prog 50 #[.pointer (some ⟨p, 0, none⟩), .int .u64 most] h = some (.int .u64 (setP r most).1, h') ∧ HMod (Just p) h h' ∧ RdrR N h' p (setP r most).2 := by
  rw [call50, c50_0_eq]
  have w0 := w
  obtain ⟨a, c, hc, ha, hne⟩ := w
  obtain ⟨h2, e2, x2, w2⟩ := spec_fail w0.nm
  cases r with
  | none =>
    have hg := spec_refGet (Am.nm h) _ (rbs none) ha.nm (by simp [rbs])
    simp -implicitDefEqProofs only [faRR0, faRR1, ldB, ldBool, hc.nm.load, List.getElem?_cons_zero, List.getElem?_cons_succ, hg, Option.isNone_none, e2, ↓ret50, ↓cnd_true, ↓cnd_false, ↓Option.bind_some, ↓obH_some', bin_add, bin_sub, bin_mul, bin_lss, bin_leq, bin_gtr, bin_geq, bin_eql, bin_neq, un_not, un_neg, Option.bind_some, Option.bind_none, Option.map_some, cnd_true, cnd_false, pickV_true, pickV_false, gd_true, gd_false, gdV_true, gdV_false, gdH_true, gdH_false, gdS_true, gdS_false, wt_ff, wt_tt, wt_ft, wt_tf, wt_undef, obH_some', extractV_tuple, nilCheckV_ptr, againK_normal, againK_exit, againK_ret, blockK_normal, blockK_same, blockK_ret, seqK_normal, seqK_exit, seqK_ret, fin_done, if_true', if_false', Bool.not_true, Bool.not_false, idx0, idx1, idx2, idx3, idx4, chk_nil_l, chk_nil_r, done_nm]
    exact ⟨_, rfl, done_mod (x2.inn (by simp) fun _ _ h => h), w2.done⟩
  | some bs =>
    have hrb : rbs (some bs) = bs := rfl
    rw [hrb] at hl hc ha hne
    have hg := spec_refGet (Am.nm h) _ bs ha.nm hl
    have h64 := getL_lt bs
    have hle := getL_len bs
    have e := fun t xo yo => anN t xo yo (getL bs).1 most h64 hm
    by_cases hbad : (getL bs).2 = 0 ∨ outB (getL bs).1 most ≠ 0
    · have hp : setP (some bs) most = (0, none) := by simp only [setP]; exact if_pos hbad
      rw [hp]
      by_cases h1 : (getL bs).2 = 0
      · simp -implicitDefEqProofs (disch := omega) only [faRR0, faRR1, ldB, ldBool, hc.nm.load, List.getElem?_cons_zero, List.getElem?_cons_succ, hg, Option.isNone_some, dcF, dcT, e2, ↓ret50, ↓cnd_true, ↓cnd_false, ↓Option.bind_some, ↓obH_some', bin_add, bin_sub, bin_mul, bin_lss, bin_leq, bin_gtr, bin_geq, bin_eql, bin_neq, un_not, un_neg, Option.bind_some, Option.bind_none, Option.map_some, cnd_true, cnd_false, pickV_true, pickV_false, gd_true, gd_false, gdV_true, gdV_false, gdH_true, gdH_false, gdS_true, gdS_false, wt_ff, wt_tt, wt_ft, wt_tf, wt_undef, obH_some', extractV_tuple, nilCheckV_ptr, againK_normal, againK_exit, againK_ret, blockK_normal, blockK_same, blockK_ret, seqK_normal, seqK_exit, seqK_ret, fin_done, if_true', if_false', Bool.not_true, Bool.not_false, idx0, idx1, idx2, idx3, idx4, chk_nil_l, chk_nil_r, done_nm]
        exact ⟨_, rfl, done_mod (x2.inn (by simp) fun _ _ h => h), w2.done⟩
      · have h3 : outB (getL bs).1 most ≠ 0 := by omega
        generalize outB (getL bs).1 most = q at *
        simp -implicitDefEqProofs (disch := omega) only [faRR0, faRR1, ldB, ldBool, hc.nm.load, List.getElem?_cons_zero, List.getElem?_cons_succ, hg, Option.isNone_some, dcF, dcT, e, e2, ↓ret50, ↓cnd_true, ↓cnd_false, ↓Option.bind_some, ↓obH_some', bin_add, bin_sub, bin_mul, bin_lss, bin_leq, bin_gtr, bin_geq, bin_eql, bin_neq, un_not, un_neg, Option.bind_some, Option.bind_none, Option.map_some, cnd_true, cnd_false, pickV_true, pickV_false, gd_true, gd_false, gdV_true, gdV_false, gdH_true, gdH_false, gdS_true, gdS_false, wt_ff, wt_tt, wt_ft, wt_tf, wt_undef, obH_some', extractV_tuple, nilCheckV_ptr, againK_normal, againK_exit, againK_ret, blockK_normal, blockK_same, blockK_ret, seqK_normal, seqK_exit, seqK_ret, fin_done, if_true', if_false', Bool.not_true, Bool.not_false, idx0, idx1, idx2, idx3, idx4, chk_nil_l, chk_nil_r, done_nm]
        exact ⟨_, rfl, done_mod (x2.inn (by simp) fun _ _ h => h), w2.done⟩
    · have hp : setP (some bs) most = ((getL bs).1, some (bs.drop (getL bs).2)) := by simp only [setP]; exact if_neg hbad
      rw [hp]
      have hb1 : (getL bs).2 ≠ 0 := fun e => hbad (.inl e)
      have hb2 : outB (getL bs).1 most = 0 := Classical.byContradiction fun e => hbad (.inr e)
      rw [hb2] at e
      obtain ⟨a4, c4, e4, s4, b4⟩ := sl_drop ha.nm (i := (getL bs).2) hle .i64
      simp -implicitDefEqProofs (disch := omega) only [faRR0, faRR1, ldB, ldBool, hc.nm.load, List.getElem?_cons_zero, List.getElem?_cons_succ, hg, Option.isNone_some, dcF, dcT, e, e4, stB, storeN_blk hc.nm (o := 0) (vs := [.slice a4 (bs.drop (getL bs).2).length c4]) (by simp), ↓ret50, ↓cnd_true, ↓cnd_false, ↓Option.bind_some, ↓obH_some', bin_add, bin_sub, bin_mul, bin_lss, bin_leq, bin_gtr, bin_geq, bin_eql, bin_neq, un_not, un_neg, Option.bind_some, Option.bind_none, Option.map_some, cnd_true, cnd_false, pickV_true, pickV_false, gd_true, gd_false, gdV_true, gdV_false, gdH_true, gdH_false, gdS_true, gdS_false, wt_ff, wt_tt, wt_ft, wt_tf, wt_undef, obH_some', extractV_tuple, nilCheckV_ptr, againK_normal, againK_exit, againK_ret, blockK_normal, blockK_same, blockK_ret, seqK_normal, seqK_exit, seqK_ret, fin_done, if_true', if_false', Bool.not_true, Bool.not_false, idx0, idx1, idx2, idx3, idx4, chk_nil_l, chk_nil_r, done_nm]
      exact ⟨_, rfl, done_mod (In.put (by simp) (.inr (show Just p p from rfl)) _), (RdrR.put (r := some (bs.drop (getL bs).2)) hc.nm s4 (hne.to b4)).done⟩
theorem setP_le (r : Option (List UInt8)) (most : Nat) : (setP r most).1 < 2 ^ 64 ∧ (rbs (setP r most).2).length ≤ (rbs r).length := by
  cases r with
  | none => simp [setP]
  | some bs =>
    simp only [setP]
    have := getL_lt bs
    split
    · simp [rbs]
    · exact ⟨this, by simp [rbs]⟩
theorem spec_WSet {n0 : Nat} {h : Heap} {p : Nat} {bs : List UInt8} (w : Wr n0 h p bs) (hn0 : n0 ≤ h.blks.length) (n : Nat) (hn : n < 2 ^ 64) (hl : bs.length < 2 ^ 39) :
    ∃ h', evC Try.prog 59 #[.pointer (some ⟨p, 0, none⟩), .int .u64 n] h = some (.tuple #[], h') ∧ HMod (Just p) h h' ∧ Wr h.blks.length h' p (bs ++ putL n) := by
  rw [call59, c59_0_eq]
  obtain ⟨h2, e2, x2, w2⟩ := spec_WNum w.nm (by simpa using hn0) n hn hl
  simp -implicitDefEqProofs only [e2, ↓retn59, ↓cnd_true, ↓cnd_false, ↓Option.bind_some, ↓obH_some', bin_add, bin_sub, bin_mul, bin_lss, bin_leq, bin_gtr, bin_geq, bin_eql, bin_neq, un_not, un_neg, Option.bind_some, Option.bind_none, Option.map_some, cnd_true, cnd_false, pickV_true, pickV_false, gd_true, gd_false, gdV_true, gdV_false, gdH_true, gdH_false, gdS_true, gdS_false, wt_ff, wt_tt, wt_ft, wt_tf, wt_undef, obH_some', extractV_tuple, nilCheckV_ptr, againK_normal, againK_exit, againK_ret, blockK_normal, blockK_same, blockK_ret, seqK_normal, seqK_exit, seqK_ret, fin_done, if_true', if_false', Bool.not_true, Bool.not_false, idx0, idx1, idx2, idx3, idx4, chk_nil_l, chk_nil_r, done_nm]
  exact ⟨_, rfl, done_mod (x2.inn (by simp) fun _ _ h => h), w2.done⟩
/-! floats -/
def beN (l : List UInt8) : Nat := l.foldl (fun k c => k * 256 + c.toNat) 0
theorem beN_snoc (l : List UInt8) (c : UInt8) : beN (l ++ [c]) = beN l * 256 + c.toNat := by simp [beN]
theorem beN_lt : ∀ (m : Nat) (l : List UInt8), l.length = m → beN l < 256 ^ m
  | 0, l, h => by
    have : l = [] := List.eq_nil_of_length_eq_zero h
    subst this
    decide
  | m + 1, l, h => by
    have hne : l ≠ [] := by intro e; rw [e] at h; simp at h
    have e := List.dropLast_concat_getLast hne
    rw [← e, beN_snoc]
    have := beN_lt m l.dropLast (by simp; omega)
    have hc := (l.getLast hne).toNat_lt
    rw [Nat.pow_succ]
    omega
def floatP : Option (List UInt8) → Nat × Option (List UInt8)
  | none => (0, none)
  | some bs => if bs.length < 8 then (0, none) else if (ofK (beN (bs.take 8))).2 = true then ((ofK (beN (bs.take 8))).1, some (bs.drop 8)) else (0, none)
theorem floatP_le (r : Option (List UInt8)) : (floatP r).1 < 2 ^ 64 ∧ (rbs (floatP r).2).length ≤ (rbs r).length := by
  cases r with
  | none => simp [floatP]
  | some bs =>
    simp only [floatP]
    split
    · simp [rbs]
    · split
      · refine ⟨ofK_lt _ ?_, by simp [rbs]⟩
        have := beN_lt 8 (bs.take 8) (by simp; omega)
        exact this
      · simp [rbs]
theorem cv8 (b : UInt8) (h : Heap) : convV Try.prog 5 46 (byteV b) h = some (.int .u64 ((b.toNat : Nat) : Int), h) := by
  have hb := b.toNat_lt
  exact conv_u64 (ks := .u8) (by kernel_rfl) (by kernel_rfl) .u8 (b.toNat : Int) h (by omega) (by omega)
theorem shl8 (t : TypeId) (xo yo : Operand) (k : Nat) (hk : k < 2 ^ 56) : binV Try.prog .shl t xo yo (.int .u64 k) (.int .u64 8) = some (.int .u64 ((k * 256 : Nat) : Int)) := by
  rw [bin_shl64 _ _ _ _ _ _ (by omega) (by omega) (by omega), Int.toNat_natCast, show (8 : Int).toNat = 8 from rfl, Nat.mod_eq_of_lt (by omega)]
theorem or8 (t : TypeId) (xo yo : Operand) (k : Nat) (b : UInt8) (hk : k < 2 ^ 56) : binV Try.prog .or t xo yo (.int .u64 ((k * 256 : Nat) : Int)) (.int .u64 ((b.toNat : Nat) : Int)) = some (.int .u64 ((k * 256 + b.toNat : Nat) : Int)) := by
  have hb := b.toNat_lt
  have e := Nat.two_pow_add_eq_or_of_lt (i := 8) (b := b.toNat) (by omega) k
  rw [bin_or64 _ _ _ _ _ (by omega) (by omega) (by omega) (by omega), Int.toNat_natCast, Int.toNat_natCast, show k * 256 = 2 ^ 8 * k by omega, ← e]
theorem sb_at {h : Heap} {v : Value} {bs : List UInt8} (s : SB h v bs) {i : Nat} (hi : i < bs.length) :
    ∃ a, indexAddrV Try.prog 23 v (.int .i64 i) = some (.pointer (some a)) ∧ loadV Try.prog 5 (.pointer (some a)) h = some (byteV bs[i]) := by
  obtain ⟨a, e1, e2, _⟩ := s.row.at1 etB.under etB.size (by kernel_rfl) hi .i64
  rw [List.getElem?_map, List.getElem?_eq_getElem hi] at e2
  exact ⟨a, e1, e2⟩
theorem beN_take (l : List UInt8) {i : Nat} (hi : i < l.length) : beN (l.take i) * 256 + l[i].toNat = beN (l.take (i + 1)) := by
  rw [List.take_add_one, List.getElem?_eq_getElem hi, Option.toList_some, beN_snoc]
theorem beN_take_lt (l : List UInt8) {i : Nat} (hi : i < 8) (hl : i ≤ l.length) : beN (l.take i) < 2 ^ 56 := by
  have := beN_lt i (l.take i) (by simp; omega)
  have h2 : 256 ^ i ≤ 256 ^ 7 := Nat.pow_le_pow_right (by omega) (by omega)
  have h3 : (256 : Nat) ^ 7 = 2 ^ 56 := by decide
  omega
theorem rfloat_end {h0 h : Heap} {p : Nat} {r : Option (List UInt8)} (w : Rdr h p r) (hin : In h0.blks.length (Just p) (nm h0) h) (k : Nat) (hk : k < 2 ^ 64) (hr : r = none → (ofK k).2 = false) (x1 x2 x4 x5 x6 x7 x8 x9 x10 x11 x12 x13 x14 x15 x16 x17 x18 x19 x20 x21 x22 x23 x24 x25 x26 x27 x28 x29 x30 x31 x32 : Value) :
    ∃ h', codeK Try.prog (evC Try.prog) loopL c52_2 ⟨#[.pointer (some ⟨p, 0, none⟩), x1, x2, .int .u64 k, x4, x5, x6, x7, x8, x9, x10, x11, x12, x13, x14, x15, x16, x17, x18, x19, x20, x21, x22, x23, x24, x25, x26, x27, x28, x29, x30, x31, x32], h⟩ (retK Try.f52 Try.prog h0) =
      some (.float .f64 (if (ofK k).2 = true then (ofK k).1 else 0), h') ∧ HMod (Just p) h0 h' ∧ Rdr h' p (if (ofK k).2 = true then r else none) := by
  rw [c52_2_eq]
  have e1 := spec_flOf k hk h
  obtain ⟨h2, e2, x2, w2⟩ := spec_spoil w (!(ofK k).2)
  have hm := done_mod (hin.trans (x2.inn hin.len fun _ _ h => h))
  cases hb : (ofK k).2 with
  | true =>
    rw [hb] at e1 e2 w2
    have hn : r.isNone = false := by
      cases r with
      | none => have := hr rfl; rw [hb] at this; cases this
      | some _ => rfl
    simp only [Bool.not_true, Bool.false_or, hn, Bool.false_eq_true, if_false] at e2 w2
    simp -implicitDefEqProofs (disch := omega) only [e1, Bool.not_true, e2, ↓ret52, ↓cnd_true, ↓cnd_false, ↓Option.bind_some, ↓obH_some', bin_add, bin_sub, bin_mul, bin_lss, bin_leq, bin_gtr, bin_geq, bin_eql, bin_neq, un_not, un_neg, Option.bind_some, Option.bind_none, Option.map_some, cnd_true, cnd_false, pickV_true, pickV_false, gd_true, gd_false, gdV_true, gdV_false, gdH_true, gdH_false, gdS_true, gdS_false, wt_ff, wt_tt, wt_ft, wt_tf, wt_undef, obH_some', extractV_tuple, nilCheckV_ptr, againK_normal, againK_exit, againK_ret, blockK_normal, blockK_same, blockK_ret, seqK_normal, seqK_exit, seqK_ret, fin_done, if_true', if_false', Bool.not_true, Bool.not_false, idx0, idx1, idx2, idx3, idx4, chk_nil_l, chk_nil_r, done_nm]
    exact ⟨_, rfl, hm, w2.done⟩
  | false =>
    rw [hb] at e1 e2 w2
    simp only [Bool.not_false, Bool.true_or, if_true] at e2 w2
    simp -implicitDefEqProofs (disch := omega) only [e1, Bool.not_false, e2, ↓ret52, ↓cnd_true, ↓cnd_false, ↓Option.bind_some, ↓obH_some', bin_add, bin_sub, bin_mul, bin_lss, bin_leq, bin_gtr, bin_geq, bin_eql, bin_neq, un_not, un_neg, Option.bind_some, Option.bind_none, Option.map_some, cnd_true, cnd_false, pickV_true, pickV_false, gd_true, gd_false, gdV_true, gdV_false, gdH_true, gdH_false, gdS_true, gdS_false, wt_ff, wt_tt, wt_ft, wt_tf, wt_undef, obH_some', extractV_tuple, nilCheckV_ptr, againK_normal, againK_exit, againK_ret, blockK_normal, blockK_same, blockK_ret, seqK_normal, seqK_exit, seqK_ret, fin_done, if_true', if_false', Bool.not_true, Bool.not_false, idx0, idx1, idx2, idx3, idx4, chk_nil_l, chk_nil_r, done_nm]
    exact ⟨_, rfl, hm, w2.done⟩
theorem rfloat_loop {h0 h : Heap} {p : Nat} {v : Value} {r : Option (List UInt8)} {l : List UInt8} (w : Rdr h p r) (s : SB h v l) (hl : l.length ≤ 8) (hr : r = none → (ofK (beN l)).2 = false) (hin : In h0.blks.length (Just p) (nm h0) h) :
    ∀ (mm i : Nat), l.length = i + mm → ∀ (x1 x2 x4 x5 x6 x7 x8 x9 x10 x14 x15 x16 x17 x18 x19 x20 x21 x22 x23 x24 x25 x26 x27 x28 x29 x30 x31 x32 : Value),
    ∃ h', loopK Try.prog (evC Try.prog) c52_1 ⟨#[.pointer (some ⟨p, 0, none⟩), x1, x2, .int .u64 (beN (l.take i) : Nat), x4, x5, x6, x7, x8, x9, x10, v, .int .i64 l.length, .int .i64 i, x14, x15, x16, x17, x18, x19, x20, x21, x22, x23, x24, x25, x26, x27, x28, x29, x30, x31, x32], h⟩ (blockK 0 (seqK Try.prog (evC Try.prog) c52_2 (retK Try.f52 Try.prog h0))) =
      some (.float .f64 (if (ofK (beN l)).2 = true then (ofK (beN l)).1 else 0), h') ∧ HMod (Just p) h0 h' ∧ Rdr h' p (if (ofK (beN l)).2 = true then r else none) := by
  have h64 : beN l < 2 ^ 64 := by
    have := beN_lt l.length l rfl
    have h2 : 256 ^ l.length ≤ 256 ^ 8 := Nat.pow_le_pow_right (by omega) hl
    have h3 : (256 : Nat) ^ 8 = 2 ^ 64 := by decide
    omega
  intro mm
  induction mm with
  | zero =>
    intro i hi x1 x2 x4 x5 x6 x7 x8 x9 x10 x14 x15 x16 x17 x18 x19 x20 x21 x22 x23 x24 x25 x26 x27 x28 x29 x30 x31 x32
    rw [loopK_eq evC_m, c52_1_eq, List.take_of_length_le (by omega)]
    have := fun x1 x2 x4 x5 x6 x7 x8 x9 x10 x11 x12 x13 x14 x15 x16 x17 x18 x19 x20 x21 x22 x23 x24 x25 x26 x27 x28 x29 x30 x31 x32 => rfloat_end (h0 := h0) w hin (beN l) h64 hr x1 x2 x4 x5 x6 x7 x8 x9 x10 x11 x12 x13 x14 x15 x16 x17 x18 x19 x20 x21 x22 x23 x24 x25 x26 x27 x28 x29 x30 x31 x32
    simp -implicitDefEqProofs (disch := omega) only [dcT, dcF, ↓cnd_true, ↓cnd_false, ↓Option.bind_some, ↓obH_some', bin_add, bin_sub, bin_mul, bin_lss, bin_leq, bin_gtr, bin_geq, bin_eql, bin_neq, un_not, un_neg, Option.bind_some, Option.bind_none, Option.map_some, cnd_true, cnd_false, pickV_true, pickV_false, gd_true, gd_false, gdV_true, gdV_false, gdH_true, gdH_false, gdS_true, gdS_false, wt_ff, wt_tt, wt_ft, wt_tf, wt_undef, obH_some', extractV_tuple, nilCheckV_ptr, againK_normal, againK_exit, againK_ret, blockK_normal, blockK_same, blockK_ret, seqK_normal, seqK_exit, seqK_ret, fin_done, if_true', if_false', Bool.not_true, Bool.not_false, idx0, idx1, idx2, idx3, idx4, chk_nil_l, chk_nil_r, done_nm]
    exact this _ _ _ _ _ _ _ _ _ _ _ _ _ _ _ _ _ _ _ _ _ _ _ _ _ _ _ _ _ _ _
  | succ mm ih =>
    intro i hi x1 x2 x4 x5 x6 x7 x8 x9 x10 x14 x15 x16 x17 x18 x19 x20 x21 x22 x23 x24 x25 x26 x27 x28 x29 x30 x31 x32
    rw [loopK_eq evC_m, c52_1_eq]
    obtain ⟨a, e1, e2⟩ := sb_at s (i := i) (by omega)
    have hw : IntKind.wrap .i64 ((i : Int) + 1) = ((i + 1 : Nat) : Int) := by rw [wrap_i64] <;> omega
    have hk := beN_take_lt l (i := i) (by omega) (by omega)
    have e3 := fun t xo yo => shl8 t xo yo (beN (l.take i)) hk
    have e4 := fun t xo yo => or8 t xo yo (beN (l.take i)) l[i] hk
    rw [beN_take l (by omega)] at e4
    simp -implicitDefEqProofs (disch := omega) only [dcT, dcF, e1, e2, e3, cv8, e4, hw, ↓cnd_true, ↓cnd_false, ↓Option.bind_some, ↓obH_some', bin_add, bin_sub, bin_mul, bin_lss, bin_leq, bin_gtr, bin_geq, bin_eql, bin_neq, un_not, un_neg, Option.bind_some, Option.bind_none, Option.map_some, cnd_true, cnd_false, pickV_true, pickV_false, gd_true, gd_false, gdV_true, gdV_false, gdH_true, gdH_false, gdS_true, gdS_false, wt_ff, wt_tt, wt_ft, wt_tf, wt_undef, obH_some', extractV_tuple, nilCheckV_ptr, againK_normal, againK_exit, againK_ret, blockK_normal, blockK_same, blockK_ret, seqK_normal, seqK_exit, seqK_ret, fin_done, if_true', if_false', Bool.not_true, Bool.not_false, idx0, idx1, idx2, idx3, idx4, chk_nil_l, chk_nil_r, done_nm]
    exact ih (i + 1) (by omega) _ _ _ _ _ _ _ _ _ _ _ _ _ _ _ _ _ _ _ _ _ _ _ _ _ _ _ _
theorem spec_RFloat {h : Heap} {p : Nat} {r : Option (List UInt8)} (w : Rdr h p r) (hl : (rbs r).length < 2 ^ 40) :
    ∃ h', evC Try.prog 52 #[.pointer (some ⟨p, 0, none⟩)] h = some (.float .f64 (floatP r).1, h') ∧ HMod (Just p) h h' ∧ Rdr h' p (floatP r).2 := by
  rw [call52, c52_0_eq]
  obtain ⟨a, c, h2, e2, x2, w2, s2⟩ := spec_take w.nm 8 (by omega) hl
  rw [show ((8 : Nat) : Int) = 8 from rfl] at e2
  have hin := x2.inn (S := Just p) (n0 := h.blks.length) (by simp) fun _ _ h => h
  have h8 : (takeP r 8).1.length ≤ 8 := by
    cases r with
    | none => simp [takeP]
    | some bs => simp only [takeP]; split <;> simp; omega
  have hz : (takeP r 8).2 = none → (ofK (beN (takeP r 8).1)).2 = false := by
    cases r with
    | none => intro _; decide
    | some bs =>
      simp only [takeP]
      split
      · intro _; decide
      · intro e; cases e
  have := rfloat_loop (h0 := h) w2 s2 h8 hz hin (takeP r 8).1.length 0 (by omega)
  have ef : floatP r = (if (ofK (beN (takeP r 8).1)).2 = true then (ofK (beN (takeP r 8).1)).1 else 0, if (ofK (beN (takeP r 8).1)).2 = true then (takeP r 8).2 else none) := by
    cases r with
    | none => decide
    | some bs =>
      by_cases c : bs.length < 8
      · have ht : takeP (some bs) 8 = ([], none) := by simp only [takeP]; exact if_pos c
        have hf : floatP (some bs) = (0, none) := by simp only [floatP]; exact if_pos c
        simp only [ht, hf]; decide
      · have ht : takeP (some bs) 8 = (bs.take 8, some (bs.drop 8)) := by simp only [takeP]; exact if_neg c
        simp only [ht, floatP, if_neg c]
        split <;> rfl
  rw [ef]
  simp -implicitDefEqProofs (disch := omega) only [e2, s2.row.len_eq etB.under, ↓cnd_true, ↓cnd_false, ↓Option.bind_some, ↓obH_some', bin_add, bin_sub, bin_mul, bin_lss, bin_leq, bin_gtr, bin_geq, bin_eql, bin_neq, un_not, un_neg, Option.bind_some, Option.bind_none, Option.map_some, cnd_true, cnd_false, pickV_true, pickV_false, gd_true, gd_false, gdV_true, gdV_false, gdH_true, gdH_false, gdS_true, gdS_false, wt_ff, wt_tt, wt_ft, wt_tf, wt_undef, obH_some', extractV_tuple, nilCheckV_ptr, againK_normal, againK_exit, againK_ret, blockK_normal, blockK_same, blockK_ret, seqK_normal, seqK_exit, seqK_ret, fin_done, if_true', if_false', Bool.not_true, Bool.not_false, idx0, idx1, idx2, idx3, idx4, chk_nil_l, chk_nil_r, done_nm]
  exact this _ _ _ _ _ _ _ _ _ _ _ _ _ _ _ _ _ _ _ _ _ _ _ _ _ _ _ _
end Go.Am
namespace Go.Am
open Go.Proofs
set_option maxRecDepth 100000
set_option linter.all false
attribute [local congr] obind_congr obH_congr cnd_congr chk_congr retK_congr codeK_congr
theorem put_mods (h : Heap) (b : Nat) (body : Body) : ∀ m ∈ (h.put b body).mods, m ∈ h.mods ∨ m = b := by
  intro m hm
  unfold Heap.put at hm
  split at hm
  · rcases List.mem_cons.1 hm with h1 | h1
    · exact .inr h1
    · exact .inl h1
  · exact .inl hm
/-- an append marks the row's own block alone -/
theorem append_mods {P : Program} {t : TypeId} {t1 : Option TypeId} {x v v' : Value} {h h' : Heap} (e : appendV P t t1 v x h = some (v', h')) : ∀ m ∈ h'.mods, m ∈ h.mods ∨ blockOf v = some m := by
  unfold appendV at e
  repeat' split at e
  all_goals first
    | cases e; done
    | (cases e; exact fun m hm => .inl hm)
    | (cases e
       intro m hm
       rcases put_mods _ _ _ m hm with h1 | h1
       · exact .inl h1
       · subst h1; exact .inr rfl)
    | (obtain ⟨y, h1, h2⟩ := Option.map_eq_some_iff.1 e
       cases h2
       exact fun m hm => .inl hm)
    | (obtain ⟨y, h1, h2⟩ := Option.map_eq_some_iff.1 e
       cases h2
       unfold Heap.storeN at h1
       split at h1
       · split at h1
         · cases h1
           intro m hm
           rcases put_mods _ _ _ m hm with h1 | h1
           · exact .inl h1
           · subst h1; exact .inr rfl
         · cases h1
       · cases h1)
theorem Acc.raise {n0 n1 : Nat} {h : Heap} {elem : TypeId} {es n : Nat} {v : Value} {cs : List Value} (a : Acc n0 h elem es v n cs) (hv : ∀ b, blockOf v = some b → n1 ≤ b) : Acc n1 h elem es v n cs := by
  cases a with
  | nil => exact .nil
  | full h1 hn hb hle he => exact .full (hv _ rfl) hn hb hle he
  | unk h1 hb hle he => exact .unk (hv _ rfl) hb hle he
/-- one byte more, and what is marked -/
theorem app_bS {S : Nat → Prop} {n0 : Nat} {h : Heap} (hn0 : n0 ≤ h.blks.length) {v : Value} {bs : List UInt8} (ha : AB 0 h v bs) (hS : ∀ b, blockOf v = some b → n0 ≤ b ∨ S b) (b : UInt8) (hl : bs.length < 2 ^ 43) :
    ∃ a c h', appendV Try.prog 23 (some 23) v (.slice (some ⟨h.blks.length, 0, none⟩) 1 1) (h.new (.cells [byteV b]) 5) = some (.slice a (bs ++ [b]).length c, h') ∧ AB 0 h' (.slice a (bs ++ [b]).length c) (bs ++ [b]) ∧ In n0 S h h' ∧
      (∀ q, q < h.blks.length → blockOf v ≠ some q → h'.blks[q]? = h.blks[q]?) ∧ (∀ q, blockOf (.slice a (bs ++ [b]).length c) = some q → h.blks.length ≤ q) ∧ h.blks.length ≤ h'.blks.length := by
  have ha' : AB 0 (h.new (.cells [byteV b]) 5) v bs := ha.keep fun _ hb _ => Heap.new_old hb
  obtain ⟨a, c, h', e1, e2, e3, e4, e5⟩ := app_bytes (n0 := 0) (by omega) ha' (lit1 b h) (by simp; omega)
  have hnl : h.blks.length < (h.new (.cells [byteV b]) 5).blks.length := by simp [Heap.new]
  refine ⟨a, c, h', e1, e2, ⟨hn0, by have := e3.len; omega, fun q hq hs => ?_, fun m hm => ?_⟩, fun q hq hne => (e4 q (by omega) hne).trans (Heap.new_old hq), fun q hq => ?_, by have := e3.len; omega⟩
  · refine (e4 q (by omega) fun hv => ?_).trans (Heap.new_old (by omega))
    rcases hS q hv with h1 | h1
    · omega
    · exact hs h1
  · rcases append_mods e1 m hm with h1 | h1
    · exact .inl h1
    · exact .inr (hS m h1)
  · rcases e5 with ⟨h1, h2⟩ | ⟨h1, h2⟩
    · exfalso
      have : (bs ++ [b]).length = bs.length := by
        obtain ⟨a', c', rfl⟩ := ha.shape
        injection h1
      simp at this
    · rw [h1] at hq; cases hq; omega
/-! writers, with what they hold -/
def Wrv (T : TypeId) (h : Heap) (p : Nat) (v : Value) (bs : List UInt8) : Prop := Cells h p T [v] ∧ AB 0 h v bs ∧ blockOf v ≠ some p
theorem Wrv.kp {T : TypeId} {h h' : Heap} {p : Nat} {v : Value} {bs : List UInt8} (w : Wrv T h p v bs) (k : ∀ b, b < h.blks.length → (b = p ∨ blockOf v = some b) → h'.blks[b]? = h.blks[b]?) : Wrv T h' p v bs :=
  ⟨(k p w.1.lt (.inl rfl)).trans w.1, w.2.1.keep fun b hb hv => k b hb (.inr hv), w.2.2⟩
theorem Wrv.nm {T : TypeId} {h : Heap} {p : Nat} {v : Value} {bs : List UInt8} (w : Wrv T h p v bs) : Wrv T (Am.nm h) p v bs := w.kp fun _ _ _ => rfl
theorem Wrv.done {T : TypeId} {h0 h : Heap} {p : Nat} {v : Value} {bs : List UInt8} (w : Wrv T h p v bs) : Wrv T (Am.done h0 h) p v bs := w.kp fun _ _ _ => rfl
theorem Wrv.same {T : TypeId} {h h' : Heap} {p : Nat} {v : Value} {bs : List UInt8} (w : Wrv T h p v bs) (e : Same h h') : Wrv T h' p v bs := w.kp fun b hb _ => e.2 b hb
theorem Wrv.mod {T : TypeId} {S : Nat → Prop} {h h' : Heap} {p : Nat} {v : Value} {bs : List UInt8} (w : Wrv T h p v bs) (e : HMod S h h') (h1 : ¬ S p) (h2 : ∀ b, blockOf v = some b → ¬ S b) : Wrv T h' p v bs :=
  w.kp fun b hb hv => e.old b hb (by rcases hv with rfl | hv; exact h1; exact h2 b hv)
theorem Wrv.lt {T : TypeId} {h : Heap} {p : Nat} {v : Value} {bs : List UInt8} (w : Wrv T h p v bs) {b : Nat} (hb : blockOf v = some b) : b < h.blks.length := w.2.1.sb.lt hb
theorem Wr.v {n0 : Nat} {h : Heap} {p : Nat} {bs : List UInt8} (w : Wr n0 h p bs) : ∃ v, Wrv 146 h p v bs ∧ ∀ b, blockOf v = some b → n0 ≤ b := let ⟨_, _, x, y, z⟩ := w; ⟨_, ⟨x, y.up (Nat.zero_le _), z⟩, fun b hb => y.ge hb⟩
theorem Wrv.w {h : Heap} {p : Nat} {v : Value} {bs : List UInt8} (w : Wrv 146 h p v bs) {n0 : Nat} (hn : ∀ b, blockOf v = some b → n0 ≤ b) : Wr n0 h p bs := by
  obtain ⟨x, y, z⟩ := w
  obtain ⟨a, c, rfl⟩ := y.shape
  exact ⟨a, c, x, y.raise hn, z⟩
theorem WrR.v {n0 : Nat} {h : Heap} {p : Nat} {bs : List UInt8} (w : WrR n0 h p bs) : ∃ v, Wrv 97 h p v bs ∧ ∀ b, blockOf v = some b → n0 ≤ b := let ⟨_, _, x, y, z⟩ := w; ⟨_, ⟨x, y.up (Nat.zero_le _), z⟩, fun b hb => y.ge hb⟩
theorem Wrv.wR {h : Heap} {p : Nat} {v : Value} {bs : List UInt8} (w : Wrv 97 h p v bs) {n0 : Nat} (hn : ∀ b, blockOf v = some b → n0 ≤ b) : WrR n0 h p bs := by
  obtain ⟨x, y, z⟩ := w
  obtain ⟨a, c, rfl⟩ := y.shape
  exact ⟨a, c, x, y.raise hn, z⟩
theorem Wrv.put {T : TypeId} {h : Heap} {p : Nat} {cs : List Value} {a : Option Addr} {bs : List UInt8} {c : Nat} (hc : Cells h p T cs) (ha : AB 0 h (.slice a bs.length c) bs) (hb : blockOf (.slice a bs.length c) ≠ some p) : Wrv T (h.put p (.cells [.slice a bs.length c])) p (.slice a bs.length c) bs := ⟨hc.put _, ha.keepPut hb _, hb⟩
/-! the bytes of a key -/
def beT (k j : Nat) : List UInt8 := (List.range j).map fun i => UInt8.ofNat (k / 2 ^ (56 - 8 * i))
theorem beT_succ (k j : Nat) : beT k j ++ [UInt8.ofNat (k / 2 ^ (56 - 8 * j))] = beT k (j + 1) := by unfold beT; rw [List.range_succ, List.map_append]; rfl
theorem beT_len (k j : Nat) : (beT k j).length = j := by simp [beT]
theorem beN_beT (k : Nat) (hk : k < 2 ^ 64) : ∀ j, j ≤ 8 → beN (beT k j) = k / 2 ^ (64 - 8 * j)
  | 0, _ => by simp [beT, beN]; omega
  | j + 1, hj => by
    rw [← beT_succ, beN_snoc, beN_beT k hk j (by omega)]
    have e1 : 64 - 8 * j = (56 - 8 * j) + 8 := by omega
    have e2 : 64 - 8 * (j + 1) = 56 - 8 * j := by omega
    rw [e1, e2, Nat.pow_add, ← Nat.div_div_eq_div_mul]
    generalize k / 2 ^ (56 - 8 * j) = q
    simp only [UInt8.toNat_ofNat']
    omega
theorem beN_be (k : Nat) (hk : k < 2 ^ 64) : beN (beT k 8) = k := by rw [beN_beT k hk 8 (by omega)]; simp
theorem shrI (t : TypeId) (xo yo : Operand) (yk : IntKind) (k m : Nat) (hk : k < 2 ^ 64) (hm : m ≤ 64) : binV Try.prog .shr t xo yo (.int .u64 k) (.int yk m) = some (.int .u64 ((k / 2 ^ m : Nat) : Int)) := by
  rw [bin_shr64 _ _ _ _ _ _ (by omega) (by omega) (by omega), Int.toNat_natCast, Int.toNat_natCast]
theorem cvUint' (n : Int) (h : Heap) (h0 : 0 ≤ n) (h1 : n < 2 ^ 63) : convV Try.prog 3 138 (.int .i64 n) h = some (.int .u64 n, h) := conv_u64 (ks := .i64) (by kernel_rfl) (by kernel_rfl) _ _ _ h0 (by omega)
def Turn (p : Nat) (v : Value) : Nat → Prop := fun b => b = p ∨ blockOf v = some b
theorem wfloat_loop {h0 : Heap} {p k : Nat} (hk : k < 2 ^ 64) {v0 : Value} {bs : List UInt8} (hl : bs.length < 2 ^ 39) : ∀ (m j : Nat) (h : Heap) (v : Value), 8 = j + m → Wrv 146 h p v (bs ++ beT k j) → In h0.blks.length (Turn p v0) (nm h0) h → (∀ b, blockOf v = some b → h0.blks.length ≤ b ∨ v = v0 ∧ j = 0) →
    ∀ (x1 x2 x3 x6 x7 x8 x9 x10 x11 x12 x13 x14 x15 x16 x17 x18 x19 x20 x21 x22 x23 x24 x25 : Value),
    ∃ v' h', loopK Try.prog (evC Try.prog) c57_1 ⟨#[.pointer (some ⟨p, 0, none⟩), x1, x2, x3, .int .u64 k, .int .i64 (7 - (j : Int)), x6, x7, x8, x9, x10, x11, x12, x13, x14, x15, x16, x17, x18, x19, x20, x21, x22, x23, x24, x25], h⟩ (blockK 0 (retK Try.f57 Try.prog h0)) = some (.tuple #[], h') ∧ HMod (Turn p v0) h0 h' ∧
      Wrv 146 h' p v' (bs ++ beT k 8) ∧ (∀ b, blockOf v' = some b → h0.blks.length ≤ b) := by
  intro m
  induction m with
  | zero =>
    intro j h v hj w hin hv x1 x2 x3 x6 x7 x8 x9 x10 x11 x12 x13 x14 x15 x16 x17 x18 x19 x20 x21 x22 x23 x24 x25
    obtain rfl : j = 8 := by omega
    rw [loopK_eq evC_m, c57_1_eq]
    simp -implicitDefEqProofs (disch := omega) only [dcT, dcF, ↓retn57, ↓cnd_true, ↓cnd_false, ↓Option.bind_some, ↓obH_some', bin_add, bin_sub, bin_mul, bin_lss, bin_leq, bin_gtr, bin_geq, bin_eql, bin_neq, un_not, un_neg, Option.bind_some, Option.bind_none, Option.map_some, cnd_true, cnd_false, pickV_true, pickV_false, gd_true, gd_false, gdV_true, gdV_false, gdH_true, gdH_false, gdS_true, gdS_false, wt_ff, wt_tt, wt_ft, wt_tf, wt_undef, obH_some', extractV_tuple, nilCheckV_ptr, againK_normal, againK_exit, againK_ret, blockK_normal, blockK_same, blockK_ret, seqK_normal, seqK_exit, seqK_ret, fin_done, if_true', if_false', Bool.not_true, Bool.not_false, idx0, idx1, idx2, idx3, idx4, chk_nil_l, chk_nil_r, done_nm]
    exact ⟨v, _, rfl, done_mod hin, w.done, fun b hb => (hv b hb).elim id fun x => by omega⟩
  | succ m ih =>
    intro j h v hj w hin hv x1 x2 x3 x6 x7 x8 x9 x10 x11 x12 x13 x14 x15 x16 x17 x18 x19 x20 x21 x22 x23 x24 x25
    rw [loopK_eq evC_m, c57_1_eq]
    obtain ⟨hc, ha, hne⟩ := w
    have hlen : h0.blks.length ≤ h.blks.length := hin.len
    obtain ⟨a, c, h2, e2, s2, i2, o2, f2, l2⟩ := app_bS (S := Turn p v0) (n0 := h0.blks.length) hlen ha (fun b hb => (hv b hb).imp_right fun x => .inr (by rw [← x.1]; exact hb)) (UInt8.ofNat (k / 2 ^ (56 - 8 * j))) (by rw [List.length_append, beT_len]; omega)
    rw [List.append_assoc, beT_succ] at e2 s2
    rw [List.append_assoc, beT_succ] at f2
    have hc2 : Cells h2 p _ _ := (o2 p hc.lt hne).trans hc
    have hb2 : blockOf (.slice a (bs ++ beT k (j + 1)).length c) ≠ some p := fun e => by have := f2 p e; have := hc.lt; omega
    have w3 := Wrv.put hc2 s2 hb2
    have hw1 : IntKind.wrap .i64 (8 * (7 - (j : Int))) = ((56 - 8 * j : Nat) : Int) := by rw [wrap_i64] <;> omega
    have hw2 : IntKind.wrap .i64 (7 - (j : Int) - 1) = 7 - ((j + 1 : Nat) : Int) := by rw [wrap_i64] <;> omega
    have es := fun t xo yo => shrI t xo yo .i64 k (56 - 8 * j) hk (by omega)
    have hin2 := (hin.trans i2).trans (In.put (n0 := h0.blks.length) (S := Turn p v0) (by omega) (.inr (.inl rfl)) (.cells [.slice a (bs ++ beT k (j + 1)).length c]))
    simp -implicitDefEqProofs (disch := omega) only [dcT, dcF, faW, ldB, hc.load, List.getElem?_cons_zero, hw1, es, cvB8, mkBb, e2, stB, storeN_blk hc2 (o := 0) (vs := [.slice a (bs ++ beT k (j + 1)).length c]) (by simp), List.take_zero, List.nil_append, List.length_singleton, Nat.zero_add, List.drop_succ_cons, List.drop_nil, List.append_nil, hw2, ↓cnd_true, ↓cnd_false, ↓Option.bind_some, ↓obH_some', bin_add, bin_sub, bin_mul, bin_lss, bin_leq, bin_gtr, bin_geq, bin_eql, bin_neq, un_not, un_neg, Option.bind_some, Option.bind_none, Option.map_some, cnd_true, cnd_false, pickV_true, pickV_false, gd_true, gd_false, gdV_true, gdV_false, gdH_true, gdH_false, gdS_true, gdS_false, wt_ff, wt_tt, wt_ft, wt_tf, wt_undef, obH_some', extractV_tuple, nilCheckV_ptr, againK_normal, againK_exit, againK_ret, blockK_normal, blockK_same, blockK_ret, seqK_normal, seqK_exit, seqK_ret, fin_done, if_true', if_false', Bool.not_true, Bool.not_false, idx0, idx1, idx2, idx3, idx4, chk_nil_l, chk_nil_r, done_nm]
    exact ih (j + 1) _ _ (by omega) w3 hin2 (fun b hb => .inl (by have := f2 b hb; omega)) _ _ _ _ _ _ _ _ _ _ _ _ _ _ _ _ _ _ _ _ _ _ _
theorem spec_WFloat {h : Heap} {p : Nat} {v : Value} {bs : List UInt8} (w : Wrv 146 h p v bs) (n : Nat) (hn : n < 2 ^ 64) (hl : bs.length < 2 ^ 39) :
    ∃ v' h', evC Try.prog 57 #[.pointer (some ⟨p, 0, none⟩), .float .f64 n] h = some (.tuple #[], h') ∧ HMod (Turn p v) h h' ∧ Wrv 146 h' p v' (bs ++ beT (keyF n) 8) ∧ (∀ b, blockOf v' = some b → h.blks.length ≤ b) := by
  rw [call57, c57_0_eq]
  have e1 := spec_Key n hn (nm h)
  have := wfloat_loop (h0 := h) (keyF_lt hn) (v0 := v) hl 8 0 (nm h) v (by omega) (by rw [show beT (keyF n) 0 = [] from rfl, List.append_nil]; exact w.nm) (In.refl (Nat.le_refl _)) (fun b hb => .inr ⟨rfl, rfl⟩)
  rw [show (7 : Int) - ((0 : Nat) : Int) = 7 from rfl] at this
  simp -implicitDefEqProofs (disch := omega) only [e1, ↓cnd_true, ↓cnd_false, ↓Option.bind_some, ↓obH_some', bin_add, bin_sub, bin_mul, bin_lss, bin_leq, bin_gtr, bin_geq, bin_eql, bin_neq, un_not, un_neg, Option.bind_some, Option.bind_none, Option.map_some, cnd_true, cnd_false, pickV_true, pickV_false, gd_true, gd_false, gdV_true, gdV_false, gdH_true, gdH_false, gdS_true, gdS_false, wt_ff, wt_tt, wt_ft, wt_tf, wt_undef, obH_some', extractV_tuple, nilCheckV_ptr, againK_normal, againK_exit, againK_ret, blockK_normal, blockK_same, blockK_ret, seqK_normal, seqK_exit, seqK_ret, fin_done, if_true', if_false', Bool.not_true, Bool.not_false, idx0, idx1, idx2, idx3, idx4, chk_nil_l, chk_nil_r, done_nm]
  exact this _ _ _ _ _ _ _ _ _ _ _ _ _ _ _ _ _ _ _ _ _ _ _
/-! the reference's -/
theorem rwfloat_loop {h0 : Heap} {p k : Nat} (hk : k < 2 ^ 64) {v0 : Value} {bs : List UInt8} (hl : bs.length < 2 ^ 39) : ∀ (m j : Nat) (h : Heap) (v : Value), 8 = j + m → Wrv 97 h p v (bs ++ beT k j) → In h0.blks.length (Turn p v0) (nm h0) h → (∀ b, blockOf v = some b → h0.blks.length ≤ b ∨ v = v0 ∧ j = 0) →
    ∀ (x1 x2 x3 x6 x7 x8 x9 x10 x11 x12 x13 x14 x15 x16 x17 x18 x19 x20 x21 x22 x23 x24 x25 x26 x27 : Value),
    ∃ v' h', loopK Try.prog (evC Try.prog) c60_1 ⟨#[.pointer (some ⟨p, 0, none⟩), x1, x2, x3, .int .u64 k, .int .i64 j, x6, x7, x8, x9, x10, x11, x12, x13, x14, x15, x16, x17, x18, x19, x20, x21, x22, x23, x24, x25, x26, x27], h⟩ (blockK 0 (retK Try.f60 Try.prog h0)) = some (.tuple #[], h') ∧ HMod (Turn p v0) h0 h' ∧
      Wrv 97 h' p v' (bs ++ beT k 8) ∧ (∀ b, blockOf v' = some b → h0.blks.length ≤ b) := by
  intro m
  induction m with
  | zero =>
    intro j h v hj w hin hv x1 x2 x3 x6 x7 x8 x9 x10 x11 x12 x13 x14 x15 x16 x17 x18 x19 x20 x21 x22 x23 x24 x25 x26 x27
    obtain rfl : j = 8 := by omega
    rw [loopK_eq evC_m, c60_1_eq]
    simp -implicitDefEqProofs (disch := omega) only [dcT, dcF, ↓retn60, ↓cnd_true, ↓cnd_false, ↓Option.bind_some, ↓obH_some', bin_add, bin_sub, bin_mul, bin_lss, bin_leq, bin_gtr, bin_geq, bin_eql, bin_neq, un_not, un_neg, Option.bind_some, Option.bind_none, Option.map_some, cnd_true, cnd_false, pickV_true, pickV_false, gd_true, gd_false, gdV_true, gdV_false, gdH_true, gdH_false, gdS_true, gdS_false, wt_ff, wt_tt, wt_ft, wt_tf, wt_undef, obH_some', extractV_tuple, nilCheckV_ptr, againK_normal, againK_exit, againK_ret, blockK_normal, blockK_same, blockK_ret, seqK_normal, seqK_exit, seqK_ret, fin_done, if_true', if_false', Bool.not_true, Bool.not_false, idx0, idx1, idx2, idx3, idx4, chk_nil_l, chk_nil_r, done_nm]
    exact ⟨v, _, rfl, done_mod hin, w.done, fun b hb => (hv b hb).elim id fun x => by omega⟩
  | succ m ih =>
    intro j h v hj w hin hv x1 x2 x3 x6 x7 x8 x9 x10 x11 x12 x13 x14 x15 x16 x17 x18 x19 x20 x21 x22 x23 x24 x25 x26 x27
    rw [loopK_eq evC_m, c60_1_eq]
    obtain ⟨hc, ha, hne⟩ := w
    have hlen : h0.blks.length ≤ h.blks.length := hin.len
    obtain ⟨a, c, h2, e2, s2, i2, o2, f2, l2⟩ := app_bS (S := Turn p v0) (n0 := h0.blks.length) hlen ha (fun b hb => (hv b hb).imp_right fun x => .inr (by rw [← x.1]; exact hb)) (UInt8.ofNat (k / 2 ^ (56 - 8 * j))) (by rw [List.length_append, beT_len]; omega)
    rw [List.append_assoc, beT_succ] at e2 s2
    rw [List.append_assoc, beT_succ] at f2
    have hc2 : Cells h2 p _ _ := (o2 p hc.lt hne).trans hc
    have hb2 : blockOf (.slice a (bs ++ beT k (j + 1)).length c) ≠ some p := fun e => by have := f2 p e; have := hc.lt; omega
    have w3 := Wrv.put hc2 s2 hb2
    have hw1 : IntKind.wrap .i64 (8 * (j : Int)) = 8 * (j : Int) := by rw [wrap_i64] <;> omega
    have hw3 : IntKind.wrap .i64 (56 - 8 * (j : Int)) = ((56 - 8 * j : Nat) : Int) := by rw [wrap_i64] <;> omega
    have hcv := fun h => cvUint' ((56 - 8 * j : Nat) : Int) h (by omega) (by omega)
    have hw2 : IntKind.wrap .i64 ((j : Int) + 1) = ((j + 1 : Nat) : Int) := by rw [wrap_i64] <;> omega
    have es := fun t xo yo => shrI t xo yo .u64 k (56 - 8 * j) hk (by omega)
    have hin2 := (hin.trans i2).trans (In.put (n0 := h0.blks.length) (S := Turn p v0) (by omega) (.inr (.inl rfl)) (.cells [.slice a (bs ++ beT k (j + 1)).length c]))
    simp -implicitDefEqProofs (disch := omega) only [dcT, dcF, faRW, ldB, hc.load, List.getElem?_cons_zero, hw1, hw3, hcv, es, cvB8, mkBb, e2, stB, storeN_blk hc2 (o := 0) (vs := [.slice a (bs ++ beT k (j + 1)).length c]) (by simp), List.take_zero, List.nil_append, List.length_singleton, Nat.zero_add, List.drop_succ_cons, List.drop_nil, List.append_nil, hw2, ↓cnd_true, ↓cnd_false, ↓Option.bind_some, ↓obH_some', bin_add, bin_sub, bin_mul, bin_lss, bin_leq, bin_gtr, bin_geq, bin_eql, bin_neq, un_not, un_neg, Option.bind_some, Option.bind_none, Option.map_some, cnd_true, cnd_false, pickV_true, pickV_false, gd_true, gd_false, gdV_true, gdV_false, gdH_true, gdH_false, gdS_true, gdS_false, wt_ff, wt_tt, wt_ft, wt_tf, wt_undef, obH_some', extractV_tuple, nilCheckV_ptr, againK_normal, againK_exit, againK_ret, blockK_normal, blockK_same, blockK_ret, seqK_normal, seqK_exit, seqK_ret, fin_done, if_true', if_false', Bool.not_true, Bool.not_false, idx0, idx1, idx2, idx3, idx4, chk_nil_l, chk_nil_r, done_nm]
    exact ih (j + 1) _ _ (by omega) w3 hin2 (fun b hb => .inl (by have := f2 b hb; omega)) _ _ _ _ _ _ _ _ _ _ _ _ _ _ _ _ _ _ _ _ _ _ _ _ _
theorem spec_RWFloat {h : Heap} {p : Nat} {v : Value} {bs : List UInt8} (w : Wrv 97 h p v bs) (n : Nat) (hn : n < 2 ^ 64) (hl : bs.length < 2 ^ 39) :
    ∃ v' h', evC Try.prog 60 #[.pointer (some ⟨p, 0, none⟩), .float .f64 n] h = some (.tuple #[], h') ∧ HMod (Turn p v) h h' ∧ Wrv 97 h' p v' (bs ++ beT (keyF n) 8) ∧ (∀ b, blockOf v' = some b → h.blks.length ≤ b) := by
  rw [call60, c60_0_eq]
  have e1 := spec_refKey n hn (nm h)
  have := rwfloat_loop (h0 := h) (keyF_lt hn) (v0 := v) hl 8 0 (nm h) v (by omega) (by rw [show beT (keyF n) 0 = [] from rfl, List.append_nil]; exact w.nm) (In.refl (Nat.le_refl _)) (fun b hb => .inr ⟨rfl, rfl⟩)
  rw [show ((0 : Nat) : Int) = 0 from rfl] at this
  simp -implicitDefEqProofs (disch := omega) only [e1, ↓cnd_true, ↓cnd_false, ↓Option.bind_some, ↓obH_some', bin_add, bin_sub, bin_mul, bin_lss, bin_leq, bin_gtr, bin_geq, bin_eql, bin_neq, un_not, un_neg, Option.bind_some, Option.bind_none, Option.map_some, cnd_true, cnd_false, pickV_true, pickV_false, gd_true, gd_false, gdV_true, gdV_false, gdH_true, gdH_false, gdS_true, gdS_false, wt_ff, wt_tt, wt_ft, wt_tf, wt_undef, obH_some', extractV_tuple, nilCheckV_ptr, againK_normal, againK_exit, againK_ret, blockK_normal, blockK_same, blockK_ret, seqK_normal, seqK_exit, seqK_ret, fin_done, if_true', if_false', Bool.not_true, Bool.not_false, idx0, idx1, idx2, idx3, idx4, chk_nil_l, chk_nil_r, done_nm]
  exact this _ _ _ _ _ _ _ _ _ _ _ _ _ _ _ _ _ _ _ _ _ _ _ _ _
theorem rrfloat_end {N : Nat} {h0 h : Heap} {p : Nat} {bs : List UInt8} (h8 : 8 ≤ bs.length) (w : RdrR N h p (some bs)) (hin : In h0.blks.length (Just p) (nm h0) h) (x1 x2 x4 x5 x6 x7 x8 x9 x10 x11 x12 x13 x14 x15 x16 x17 x18 x19 x20 x21 x22 x23 x24 x25 x26 x27 x28 x29 x30 x31 x32 x33 x34 x35 x36 x37 x38 x39 x40 x41 x42 x43 x44 x45 x46 x47 x48 x49 x50 x51 x52 x53 : Value) :
    ∃ h', codeK Try.prog (evC Try.prog) loopL c53_2 ⟨#[.pointer (some ⟨p, 0, none⟩), x1, x2, .int .u64 (beN (bs.take 8) : Nat), x4, x5, x6, x7, x8, x9, x10, x11, x12, x13, x14, x15, x16, x17, x18, x19, x20, x21, x22, x23, x24, x25, x26, x27, x28, x29, x30, x31, x32, x33, x34, x35, x36, x37, x38, x39, x40, x41, x42, x43, x44, x45, x46, x47, x48, x49, x50, x51, x52, x53], h⟩ (retK Try.f53 Try.prog h0) =
      some (.float .f64 (floatP (some bs)).1, h') ∧ HMod (Just p) h0 h' ∧ RdrR N h' p (floatP (some bs)).2 := by
  rw [c53_2_eq]
  have hk : beN (bs.take 8) < 2 ^ 64 := beN_lt 8 (bs.take 8) (by simp; omega)
  have e1 := spec_refOf _ hk h
  have w0 := w
  simp only [floatP]
  rw [if_neg (by omega)]
  cases hb : (ofK (beN (bs.take 8))).2 with
  | true =>
    rw [hb] at e1
    obtain ⟨a, c, hc, ha, hne⟩ := w
    have hrb : rbs (some bs) = bs := rfl
    rw [hrb] at hc ha hne
    obtain ⟨a4, c4, e4, s4, b4⟩ := sl_drop ha (i := 8) h8 .i64
    rw [show ((8 : Nat) : Int) = 8 from rfl] at e4
    simp -implicitDefEqProofs (disch := omega) only [e1, Bool.not_true, faRR0, ldB, hc.load, List.getElem?_cons_zero, e4, stB, storeN_blk hc (o := 0) (vs := [.slice a4 (bs.drop 8).length c4]) (by simp), ↓ret53, ↓cnd_true, ↓cnd_false, ↓Option.bind_some, ↓obH_some', bin_add, bin_sub, bin_mul, bin_lss, bin_leq, bin_gtr, bin_geq, bin_eql, bin_neq, un_not, un_neg, Option.bind_some, Option.bind_none, Option.map_some, cnd_true, cnd_false, pickV_true, pickV_false, gd_true, gd_false, gdV_true, gdV_false, gdH_true, gdH_false, gdS_true, gdS_false, wt_ff, wt_tt, wt_ft, wt_tf, wt_undef, obH_some', extractV_tuple, nilCheckV_ptr, againK_normal, againK_exit, againK_ret, blockK_normal, blockK_same, blockK_ret, seqK_normal, seqK_exit, seqK_ret, fin_done, if_true', if_false', Bool.not_true, Bool.not_false, idx0, idx1, idx2, idx3, idx4, chk_nil_l, chk_nil_r, done_nm]
    exact ⟨_, rfl, done_mod (hin.trans (In.put hin.len (.inr (show Just p p from rfl)) _)), (RdrR.put (r := some (bs.drop 8)) hc s4 (hne.to b4)).done⟩
  | false =>
    rw [hb] at e1
    obtain ⟨h2, e2, x2, w2⟩ := spec_fail w0
    simp -implicitDefEqProofs (disch := omega) only [e1, Bool.not_false, e2, ↓ret53, ↓cnd_true, ↓cnd_false, ↓Option.bind_some, ↓obH_some', bin_add, bin_sub, bin_mul, bin_lss, bin_leq, bin_gtr, bin_geq, bin_eql, bin_neq, un_not, un_neg, Option.bind_some, Option.bind_none, Option.map_some, cnd_true, cnd_false, pickV_true, pickV_false, gd_true, gd_false, gdV_true, gdV_false, gdH_true, gdH_false, gdS_true, gdS_false, wt_ff, wt_tt, wt_ft, wt_tf, wt_undef, obH_some', extractV_tuple, nilCheckV_ptr, againK_normal, againK_exit, againK_ret, blockK_normal, blockK_same, blockK_ret, seqK_normal, seqK_exit, seqK_ret, fin_done, if_true', if_false', Bool.not_true, Bool.not_false, idx0, idx1, idx2, idx3, idx4, chk_nil_l, chk_nil_r, done_nm]
    exact ⟨_, rfl, done_mod (hin.trans (x2.inn hin.len fun _ _ h => h)), w2.done⟩
theorem rrfloat_loop {N : Nat} {h0 h : Heap} {p : Nat} {bs : List UInt8} (h8 : 8 ≤ bs.length) (w : RdrR N h p (some bs)) (hin : In h0.blks.length (Just p) (nm h0) h) : ∀ (m i : Nat), 8 = i + m → ∀ (x1 x2 x5 x6 x7 x8 x9 x10 x11 x12 x13 x14 x15 x16 x17 x18 x19 x20 x21 x22 x23 x24 x25 x26 x27 x28 x29 x30 x31 x32 x33 x34 x35 x36 x37 x38 x39 x40 x41 x42 x43 x44 x45 x46 x47 x48 x49 x50 x51 x52 x53 : Value),
    ∃ h', loopK Try.prog (evC Try.prog) c53_1 ⟨#[.pointer (some ⟨p, 0, none⟩), x1, x2, .int .u64 (beN (bs.take i) : Nat), .int .i64 i, x5, x6, x7, x8, x9, x10, x11, x12, x13, x14, x15, x16, x17, x18, x19, x20, x21, x22, x23, x24, x25, x26, x27, x28, x29, x30, x31, x32, x33, x34, x35, x36, x37, x38, x39, x40, x41, x42, x43, x44, x45, x46, x47, x48, x49, x50, x51, x52, x53], h⟩ (blockK 0 (seqK Try.prog (evC Try.prog) c53_2 (retK Try.f53 Try.prog h0))) =
      some (.float .f64 (floatP (some bs)).1, h') ∧ HMod (Just p) h0 h' ∧ RdrR N h' p (floatP (some bs)).2 := by
  intro m
  induction m with
  | zero =>
    intro i hi x1 x2 x5 x6 x7 x8 x9 x10 x11 x12 x13 x14 x15 x16 x17 x18 x19 x20 x21 x22 x23 x24 x25 x26 x27 x28 x29 x30 x31 x32 x33 x34 x35 x36 x37 x38 x39 x40 x41 x42 x43 x44 x45 x46 x47 x48 x49 x50 x51 x52 x53
    obtain rfl : i = 8 := by omega
    rw [loopK_eq evC_m, c53_1_eq]
    have := fun x1 x2 x4 x5 x6 x7 x8 x9 x10 x11 x12 x13 x14 x15 x16 x17 x18 x19 x20 x21 x22 x23 x24 x25 x26 x27 x28 x29 x30 x31 x32 x33 x34 x35 x36 x37 x38 x39 x40 x41 x42 x43 x44 x45 x46 x47 x48 x49 x50 x51 x52 x53 => rrfloat_end (h0 := h0) h8 w hin x1 x2 x4 x5 x6 x7 x8 x9 x10 x11 x12 x13 x14 x15 x16 x17 x18 x19 x20 x21 x22 x23 x24 x25 x26 x27 x28 x29 x30 x31 x32 x33 x34 x35 x36 x37 x38 x39 x40 x41 x42 x43 x44 x45 x46 x47 x48 x49 x50 x51 x52 x53
    simp -implicitDefEqProofs (disch := omega) only [dcT, dcF, ↓cnd_true, ↓cnd_false, ↓Option.bind_some, ↓obH_some', bin_add, bin_sub, bin_mul, bin_lss, bin_leq, bin_gtr, bin_geq, bin_eql, bin_neq, un_not, un_neg, Option.bind_some, Option.bind_none, Option.map_some, cnd_true, cnd_false, pickV_true, pickV_false, gd_true, gd_false, gdV_true, gdV_false, gdH_true, gdH_false, gdS_true, gdS_false, wt_ff, wt_tt, wt_ft, wt_tf, wt_undef, obH_some', extractV_tuple, nilCheckV_ptr, againK_normal, againK_exit, againK_ret, blockK_normal, blockK_same, blockK_ret, seqK_normal, seqK_exit, seqK_ret, fin_done, if_true', if_false', Bool.not_true, Bool.not_false, idx0, idx1, idx2, idx3, idx4, chk_nil_l, chk_nil_r, done_nm]
    exact this _ _ _ _ _ _ _ _ _ _ _ _ _ _ _ _ _ _ _ _ _ _ _ _ _ _ _ _ _ _ _ _ _ _ _ _ _ _ _ _ _ _ _ _ _ _ _ _ _ _ _ _
  | succ m ih =>
    intro i hi x1 x2 x5 x6 x7 x8 x9 x10 x11 x12 x13 x14 x15 x16 x17 x18 x19 x20 x21 x22 x23 x24 x25 x26 x27 x28 x29 x30 x31 x32 x33 x34 x35 x36 x37 x38 x39 x40 x41 x42 x43 x44 x45 x46 x47 x48 x49 x50 x51 x52 x53
    rw [loopK_eq evC_m, c53_1_eq]
    obtain ⟨a, c, hc, ha, hne⟩ := w
    have hrb : rbs (some bs) = bs := rfl
    rw [hrb] at hc ha hne
    obtain ⟨ad, e1, e2⟩ := sb_at ha (i := i) (by omega)
    have hw : IntKind.wrap .i64 ((i : Int) + 1) = ((i + 1 : Nat) : Int) := by rw [wrap_i64] <;> omega
    have hk := beN_take_lt bs (i := i) (by omega) (by omega)
    have e3 := fun t xo yo => shl8 t xo yo (beN (bs.take i)) hk
    have e4 := fun t xo yo => or8 t xo yo (beN (bs.take i)) bs[i] hk
    rw [beN_take bs (by omega)] at e4
    simp -implicitDefEqProofs (disch := omega) only [dcT, dcF, faRR0, ldB, hc.load, List.getElem?_cons_zero, e1, e2, e3, cv8, e4, hw, ↓cnd_true, ↓cnd_false, ↓Option.bind_some, ↓obH_some', bin_add, bin_sub, bin_mul, bin_lss, bin_leq, bin_gtr, bin_geq, bin_eql, bin_neq, un_not, un_neg, Option.bind_some, Option.bind_none, Option.map_some, cnd_true, cnd_false, pickV_true, pickV_false, gd_true, gd_false, gdV_true, gdV_false, gdH_true, gdH_false, gdS_true, gdS_false, wt_ff, wt_tt, wt_ft, wt_tf, wt_undef, obH_some', extractV_tuple, nilCheckV_ptr, againK_normal, againK_exit, againK_ret, blockK_normal, blockK_same, blockK_ret, seqK_normal, seqK_exit, seqK_ret, fin_done, if_true', if_false', Bool.not_true, Bool.not_false, idx0, idx1, idx2, idx3, idx4, chk_nil_l, chk_nil_r, done_nm]
    exact ih (i + 1) (by omega) _ _ _ _ _ _ _ _ _ _ _ _ _ _ _ _ _ _ _ _ _ _ _ _ _ _ _ _ _ _ _ _ _ _ _ _ _ _ _ _ _ _ _ _ _ _ _ _ _ _ _
theorem spec_RRFloat {N : Nat} {h : Heap} {p : Nat} {r : Option (List UInt8)} (w : RdrR N h p r) (hl : (rbs r).length < 2 ^ 40) :
    ∃ h', evC Try.prog 53 #[.pointer (some ⟨p, 0, none⟩)] h = some (.float .f64 (floatP r).1, h') ∧ HMod (Just p) h h' ∧ RdrR N h' p (floatP r).2 := by
  rw [call53, c53_0_eq]
  have w0 := w
  obtain ⟨a, c, hc, ha, hne⟩ := w
  obtain ⟨h2, e2, x2, w2⟩ := spec_fail w0.nm
  cases r with
  | none =>
    simp -implicitDefEqProofs only [faRR0, faRR1, ldB, ldBool, hc.nm.load, List.getElem?_cons_zero, List.getElem?_cons_succ, Option.isNone_none, e2, ↓ret53, ↓cnd_true, ↓cnd_false, ↓Option.bind_some, ↓obH_some', bin_add, bin_sub, bin_mul, bin_lss, bin_leq, bin_gtr, bin_geq, bin_eql, bin_neq, un_not, un_neg, Option.bind_some, Option.bind_none, Option.map_some, cnd_true, cnd_false, pickV_true, pickV_false, gd_true, gd_false, gdV_true, gdV_false, gdH_true, gdH_false, gdS_true, gdS_false, wt_ff, wt_tt, wt_ft, wt_tf, wt_undef, obH_some', extractV_tuple, nilCheckV_ptr, againK_normal, againK_exit, againK_ret, blockK_normal, blockK_same, blockK_ret, seqK_normal, seqK_exit, seqK_ret, fin_done, if_true', if_false', Bool.not_true, Bool.not_false, idx0, idx1, idx2, idx3, idx4, chk_nil_l, chk_nil_r, done_nm]
    exact ⟨_, rfl, done_mod (x2.inn (by simp) fun _ _ h => h), w2.done⟩
  | some bs =>
    have hrb : rbs (some bs) = bs := rfl
    rw [hrb] at hl hc ha hne
    by_cases hb : bs.length < 8
    · have ef : floatP (some bs) = (0, none) := by simp only [floatP]; exact if_pos hb
      rw [ef]
      simp -implicitDefEqProofs (disch := omega) only [dcT, dcF, faRR0, faRR1, ldB, ldBool, hc.nm.load, List.getElem?_cons_zero, List.getElem?_cons_succ, Option.isNone_some, ha.nm.row.len_eq etB.under, e2, ↓ret53, ↓cnd_true, ↓cnd_false, ↓Option.bind_some, ↓obH_some', bin_add, bin_sub, bin_mul, bin_lss, bin_leq, bin_gtr, bin_geq, bin_eql, bin_neq, un_not, un_neg, Option.bind_some, Option.bind_none, Option.map_some, cnd_true, cnd_false, pickV_true, pickV_false, gd_true, gd_false, gdV_true, gdV_false, gdH_true, gdH_false, gdS_true, gdS_false, wt_ff, wt_tt, wt_ft, wt_tf, wt_undef, obH_some', extractV_tuple, nilCheckV_ptr, againK_normal, againK_exit, againK_ret, blockK_normal, blockK_same, blockK_ret, seqK_normal, seqK_exit, seqK_ret, fin_done, if_true', if_false', Bool.not_true, Bool.not_false, idx0, idx1, idx2, idx3, idx4, chk_nil_l, chk_nil_r, done_nm]
      exact ⟨_, rfl, done_mod (x2.inn (by simp) fun _ _ h => h), w2.done⟩
    · have := rrfloat_loop (h0 := h) (by omega) w0.nm (In.refl (Nat.le_refl _)) 8 0 (by omega)
      rw [show ((0 : Nat) : Int) = 0 from rfl, show beN (bs.take 0) = 0 from rfl, show ((0 : Nat) : Int) = 0 from rfl] at this
      simp -implicitDefEqProofs (disch := omega) only [dcT, dcF, faRR0, faRR1, ldB, ldBool, hc.nm.load, List.getElem?_cons_zero, List.getElem?_cons_succ, Option.isNone_some, ha.nm.row.len_eq etB.under, ↓cnd_true, ↓cnd_false, ↓Option.bind_some, ↓obH_some', bin_add, bin_sub, bin_mul, bin_lss, bin_leq, bin_gtr, bin_geq, bin_eql, bin_neq, un_not, un_neg, Option.bind_some, Option.bind_none, Option.map_some, cnd_true, cnd_false, pickV_true, pickV_false, gd_true, gd_false, gdV_true, gdV_false, gdH_true, gdH_false, gdS_true, gdS_false, wt_ff, wt_tt, wt_ft, wt_tf, wt_undef, obH_some', extractV_tuple, nilCheckV_ptr, againK_normal, againK_exit, againK_ret, blockK_normal, blockK_same, blockK_ret, seqK_normal, seqK_exit, seqK_ret, fin_done, if_true', if_false', Bool.not_true, Bool.not_false, idx0, idx1, idx2, idx3, idx4, chk_nil_l, chk_nil_r, done_nm]
      exact this _ _ _ _ _ _ _ _ _ _ _ _ _ _ _ _ _ _ _ _ _ _ _ _ _ _ _ _ _ _ _ _ _ _ _ _ _ _ _ _ _ _ _ _ _ _ _ _ _ _ _
end Go.Am
namespace Go.Am
open Go.Proofs
set_option maxRecDepth 100000
set_option linter.all false
attribute [local congr] obind_congr obH_congr cnd_congr chk_congr retK_congr codeK_congr
structure MT where
  frm : Int
  num : Nat
  to : Nat
  kind : Int
  var : Int
  val : Nat
  wr : Int
  tag : Nat
  body : List UInt8
  stamp : List UInt8
deriving DecidableEq
abbrev msgL (m : MT) (bv sv : Value) : List Value := [.int .i64 m.frm, .int .u64 m.num, .int .u64 m.to, .int .i64 m.kind, .int .i64 m.var, .float .f64 m.val, .int .i64 m.wr, .int .u64 m.tag, bv, sv]
abbrev msgA (m : MT) (bv sv : Value) : Value := .agg #[.int .i64 m.frm, .int .u64 m.num, .int .u64 m.to, .int .i64 m.kind, .int .i64 m.var, .float .f64 m.val, .int .i64 m.wr, .int .u64 m.tag, bv, sv]
structure MTok (m : MT) : Prop where
  f0 : -2 ^ 63 ≤ m.frm
  f1 : m.frm < 2 ^ 63
  num : m.num < 2 ^ 64
  to : m.to < 2 ^ 64
  k0 : -2 ^ 63 ≤ m.kind
  k1 : m.kind < 2 ^ 63
  v0 : -2 ^ 63 ≤ m.var
  v1 : m.var < 2 ^ 63
  val : m.val < 2 ^ 64
  w0 : -2 ^ 63 ≤ m.wr
  w1 : m.wr < 2 ^ 63
  tag : m.tag < 2 ^ 64
  body : m.body.length < 2 ^ 38
  stamp : m.stamp.length < 2 ^ 38
theorem bxMM (a b c d e f g i j k : Value) (h : Heap) : boxV Try.prog 104 (.agg #[a, b, c, d, e, f, g, i, j, k]) h = some (.pointer (some ⟨h.blks.length, 0, none⟩), h.new (.cells [a, b, c, d, e, f, g, i, j, k]) 104) := by kernel_rfl
theorem faMM0 (p : Nat) : fieldAddrV Try.prog 104 (.pointer (some ⟨p, 0, none⟩)) 0 = some (.pointer (some ⟨p, 0, none⟩)) := by kernel_rfl
theorem faMM1 (p : Nat) : fieldAddrV Try.prog 104 (.pointer (some ⟨p, 0, none⟩)) 1 = some (.pointer (some ⟨p, 1, none⟩)) := by kernel_rfl
theorem faMM2 (p : Nat) : fieldAddrV Try.prog 104 (.pointer (some ⟨p, 0, none⟩)) 2 = some (.pointer (some ⟨p, 2, none⟩)) := by kernel_rfl
theorem faMM3 (p : Nat) : fieldAddrV Try.prog 104 (.pointer (some ⟨p, 0, none⟩)) 3 = some (.pointer (some ⟨p, 3, none⟩)) := by kernel_rfl
theorem faMM4 (p : Nat) : fieldAddrV Try.prog 104 (.pointer (some ⟨p, 0, none⟩)) 4 = some (.pointer (some ⟨p, 4, none⟩)) := by kernel_rfl
theorem faMM5 (p : Nat) : fieldAddrV Try.prog 104 (.pointer (some ⟨p, 0, none⟩)) 5 = some (.pointer (some ⟨p, 5, none⟩)) := by kernel_rfl
theorem faMM6 (p : Nat) : fieldAddrV Try.prog 104 (.pointer (some ⟨p, 0, none⟩)) 6 = some (.pointer (some ⟨p, 6, none⟩)) := by kernel_rfl
theorem faMM7 (p : Nat) : fieldAddrV Try.prog 104 (.pointer (some ⟨p, 0, none⟩)) 7 = some (.pointer (some ⟨p, 7, none⟩)) := by kernel_rfl
theorem faMM8 (p : Nat) : fieldAddrV Try.prog 104 (.pointer (some ⟨p, 0, none⟩)) 8 = some (.pointer (some ⟨p, 8, none⟩)) := by kernel_rfl
theorem faMM9 (p : Nat) : fieldAddrV Try.prog 104 (.pointer (some ⟨p, 0, none⟩)) 9 = some (.pointer (some ⟨p, 9, none⟩)) := by kernel_rfl
theorem ldSetV (p o : Nat) (h : Heap) : loadV Try.prog 47 (.pointer (some ⟨p, o, none⟩)) h = h.load1 p o := by kernel_rfl
theorem ldFlV (p o : Nat) (h : Heap) : loadV Try.prog 84 (.pointer (some ⟨p, o, none⟩)) h = h.load1 p o := by kernel_rfl
theorem ldIntV (p o : Nat) (h : Heap) : loadV Try.prog 3 (.pointer (some ⟨p, o, none⟩)) h = h.load1 p o := by kernel_rfl
theorem ldMM (p : Nat) (h : Heap) : loadV Try.prog 104 (.pointer (some ⟨p, 0, none⟩)) h = (h.loadN p 0 10).map fun cs => .agg cs.toArray := by kernel_rfl
structure MC (T : TypeId) (h : Heap) (p : Nat) (m : MT) (bv sv : Value) : Prop where
  c : Cells h p T (msgL m bv sv)
  b : SB h bv m.body
  s : SB h sv m.stamp
variable {T : TypeId} {h h' : Heap} {p : Nat} {m : MT} {bv sv : Value}
theorem MC.l0 (x : MC T h p m bv sv) : h.load1 p 0 = some (.int .i64 m.frm) := by rw [x.c.load]; rfl
theorem MC.l1 (x : MC T h p m bv sv) : h.load1 p 1 = some (.int .u64 m.num) := by rw [x.c.load]; rfl
theorem MC.l2 (x : MC T h p m bv sv) : h.load1 p 2 = some (.int .u64 m.to) := by rw [x.c.load]; rfl
theorem MC.l3 (x : MC T h p m bv sv) : h.load1 p 3 = some (.int .i64 m.kind) := by rw [x.c.load]; rfl
theorem MC.l4 (x : MC T h p m bv sv) : h.load1 p 4 = some (.int .i64 m.var) := by rw [x.c.load]; rfl
theorem MC.l5 (x : MC T h p m bv sv) : h.load1 p 5 = some (.float .f64 m.val) := by rw [x.c.load]; rfl
theorem MC.l6 (x : MC T h p m bv sv) : h.load1 p 6 = some (.int .i64 m.wr) := by rw [x.c.load]; rfl
theorem MC.l7 (x : MC T h p m bv sv) : h.load1 p 7 = some (.int .u64 m.tag) := by rw [x.c.load]; rfl
theorem MC.l8 (x : MC T h p m bv sv) : h.load1 p 8 = some bv := by rw [x.c.load]; rfl
theorem MC.l9 (x : MC T h p m bv sv) : h.load1 p 9 = some sv := by rw [x.c.load]; rfl
theorem MC.same (x : MC T h p m bv sv) (s : Same h h') : MC T h' p m bv sv := ⟨x.c.same s, x.b.same s, x.s.same s⟩
theorem MC.ext (x : MC T h p m bv sv) (s : HExt h h') : MC T h' p m bv sv := x.same s.same
theorem MC.new (T : TypeId) (hb : SB h bv m.body) (hs : SB h sv m.stamp) : MC T (h.new (.cells (msgL m bv sv)) T) h.blks.length m bv sv :=
  ⟨Cells.new _ _ _, hb.keepNew _ _, hs.keepNew _ _⟩
theorem MC.ld (x : MC 104 h p m bv sv) : loadV Try.prog 104 (.pointer (some ⟨p, 0, none⟩)) h = some (msgA m bv sv) := by rw [ldMM, x.c.loadN (n := 10) rfl]; rfl
/-! -/
theorem spec_in (n a b : Int) (h : Heap) : evC Try.prog 111 #[.int .i64 n, .int .i64 a, .int .i64 b] h = some (.bool (decide (a ≤ n ∧ n ≤ b)), h) := by
  rw [call111, c111_0_eq]
  by_cases h1 : a ≤ n
  · by_cases h2 : n ≤ b
    · rw [decide_eq_true (And.intro h1 h2)]
      simp -implicitDefEqProofs (disch := omega) only [dcT, dcF, ↓ret111, ↓cnd_true, ↓cnd_false, ↓Option.bind_some, ↓obH_some', bin_add, bin_sub, bin_mul, bin_lss, bin_leq, bin_gtr, bin_geq, bin_eql, bin_neq, un_not, un_neg, Option.bind_some, Option.bind_none, Option.map_some, cnd_true, cnd_false, pickV_true, pickV_false, gd_true, gd_false, gdV_true, gdV_false, gdH_true, gdH_false, gdS_true, gdS_false, wt_ff, wt_tt, wt_ft, wt_tf, wt_undef, obH_some', extractV_tuple, nilCheckV_ptr, againK_normal, againK_exit, againK_ret, blockK_normal, blockK_same, blockK_ret, seqK_normal, seqK_exit, seqK_ret, fin_done, if_true', if_false', Bool.not_true, Bool.not_false, idx0, idx1, idx2, idx3, idx4, chk_nil_l, chk_nil_r, done_nm]
    · rw [decide_eq_false (fun x => h2 x.2)]
      simp -implicitDefEqProofs (disch := omega) only [dcT, dcF, ↓ret111, ↓cnd_true, ↓cnd_false, ↓Option.bind_some, ↓obH_some', bin_add, bin_sub, bin_mul, bin_lss, bin_leq, bin_gtr, bin_geq, bin_eql, bin_neq, un_not, un_neg, Option.bind_some, Option.bind_none, Option.map_some, cnd_true, cnd_false, pickV_true, pickV_false, gd_true, gd_false, gdV_true, gdV_false, gdH_true, gdH_false, gdS_true, gdS_false, wt_ff, wt_tt, wt_ft, wt_tf, wt_undef, obH_some', extractV_tuple, nilCheckV_ptr, againK_normal, againK_exit, againK_ret, blockK_normal, blockK_same, blockK_ret, seqK_normal, seqK_exit, seqK_ret, fin_done, if_true', if_false', Bool.not_true, Bool.not_false, idx0, idx1, idx2, idx3, idx4, chk_nil_l, chk_nil_r, done_nm]
  · rw [decide_eq_false (fun x => h1 x.1)]
    simp -implicitDefEqProofs (disch := omega) only [dcT, dcF, ↓ret111, ↓cnd_true, ↓cnd_false, ↓Option.bind_some, ↓obH_some', bin_add, bin_sub, bin_mul, bin_lss, bin_leq, bin_gtr, bin_geq, bin_eql, bin_neq, un_not, un_neg, Option.bind_some, Option.bind_none, Option.map_some, cnd_true, cnd_false, pickV_true, pickV_false, gd_true, gd_false, gdV_true, gdV_false, gdH_true, gdH_false, gdS_true, gdS_false, wt_ff, wt_tt, wt_ft, wt_tf, wt_undef, obH_some', extractV_tuple, nilCheckV_ptr, againK_normal, againK_exit, againK_ret, blockK_normal, blockK_same, blockK_ret, seqK_normal, seqK_exit, seqK_ret, fin_done, if_true', if_false', Bool.not_true, Bool.not_false, idx0, idx1, idx2, idx3, idx4, chk_nil_l, chk_nil_r, done_nm]
theorem spec_valued (k : Int) (h : Heap) : evC Try.prog 110 #[.int .i64 k] h = some (.bool (decide (k = 1 ∨ k = 3)), h) := by
  rw [call110, c110_0_eq]
  by_cases h1 : k = 1
  · subst h1
    simp -implicitDefEqProofs (disch := omega) only [dcT, dcF, eq_self, decide_true, ↓ret110, ↓cnd_true, ↓cnd_false, ↓Option.bind_some, ↓obH_some', bin_add, bin_sub, bin_mul, bin_lss, bin_leq, bin_gtr, bin_geq, bin_eql, bin_neq, un_not, un_neg, Option.bind_some, Option.bind_none, Option.map_some, cnd_true, cnd_false, pickV_true, pickV_false, gd_true, gd_false, gdV_true, gdV_false, gdH_true, gdH_false, gdS_true, gdS_false, wt_ff, wt_tt, wt_ft, wt_tf, wt_undef, obH_some', extractV_tuple, nilCheckV_ptr, againK_normal, againK_exit, againK_ret, blockK_normal, blockK_same, blockK_ret, seqK_normal, seqK_exit, seqK_ret, fin_done, if_true', if_false', Bool.not_true, Bool.not_false, idx0, idx1, idx2, idx3, idx4, chk_nil_l, chk_nil_r, done_nm]
    rfl
  · have e1 : decide (k = 1) = false := decide_eq_false h1
    by_cases h3 : k = 3
    · subst h3
      simp -implicitDefEqProofs (disch := omega) only [dcT, dcF, eq_self, decide_true, ↓ret110, ↓cnd_true, ↓cnd_false, ↓Option.bind_some, ↓obH_some', bin_add, bin_sub, bin_mul, bin_lss, bin_leq, bin_gtr, bin_geq, bin_eql, bin_neq, un_not, un_neg, Option.bind_some, Option.bind_none, Option.map_some, cnd_true, cnd_false, pickV_true, pickV_false, gd_true, gd_false, gdV_true, gdV_false, gdH_true, gdH_false, gdS_true, gdS_false, wt_ff, wt_tt, wt_ft, wt_tf, wt_undef, obH_some', extractV_tuple, nilCheckV_ptr, againK_normal, againK_exit, againK_ret, blockK_normal, blockK_same, blockK_ret, seqK_normal, seqK_exit, seqK_ret, fin_done, if_true', if_false', Bool.not_true, Bool.not_false, idx0, idx1, idx2, idx3, idx4, chk_nil_l, chk_nil_r, done_nm]
      rfl
    · have e3 : decide (k = 3) = false := decide_eq_false h3
      rw [decide_eq_false (fun x : k = 1 ∨ k = 3 => x.elim h1 h3)]
      simp -implicitDefEqProofs (disch := omega) only [dcT, dcF, e1, e3, ↓ret110, ↓cnd_true, ↓cnd_false, ↓Option.bind_some, ↓obH_some', bin_add, bin_sub, bin_mul, bin_lss, bin_leq, bin_gtr, bin_geq, bin_eql, bin_neq, un_not, un_neg, Option.bind_some, Option.bind_none, Option.map_some, cnd_true, cnd_false, pickV_true, pickV_false, gd_true, gd_false, gdV_true, gdV_false, gdH_true, gdH_false, gdS_true, gdS_false, wt_ff, wt_tt, wt_ft, wt_tf, wt_undef, obH_some', extractV_tuple, nilCheckV_ptr, againK_normal, againK_exit, againK_ret, blockK_normal, blockK_same, blockK_ret, seqK_normal, seqK_exit, seqK_ret, fin_done, if_true', if_false', Bool.not_true, Bool.not_false, idx0, idx1, idx2, idx3, idx4, chk_nil_l, chk_nil_r, done_nm]
theorem spec_isNaNU (a : Nat) (h : Heap) : evC Try.prog 130 #[.int .u64 a] h = some (.bool false, h) := by
  rw [call130, c130_0_eq]
  simp -implicitDefEqProofs only [eq_self, ne_eq, not_true_eq_false, decide_false, ↓ret130, ↓cnd_true, ↓cnd_false, ↓Option.bind_some, ↓obH_some', bin_add, bin_sub, bin_mul, bin_lss, bin_leq, bin_gtr, bin_geq, bin_eql, bin_neq, un_not, un_neg, Option.bind_some, Option.bind_none, Option.map_some, cnd_true, cnd_false, pickV_true, pickV_false, gd_true, gd_false, gdV_true, gdV_false, gdH_true, gdH_false, gdS_true, gdS_false, wt_ff, wt_tt, wt_ft, wt_tf, wt_undef, obH_some', extractV_tuple, nilCheckV_ptr, againK_normal, againK_exit, againK_ret, blockK_normal, blockK_same, blockK_ret, seqK_normal, seqK_exit, seqK_ret, fin_done, if_true', if_false', Bool.not_true, Bool.not_false, idx0, idx1, idx2, idx3, idx4, chk_nil_l, chk_nil_r, done_nm]
def cmpN (a b : Nat) : Int := if a < b then -1 else if b < a then 1 else 0
theorem spec_Compare (a b : Nat) (h : Heap) : evC Try.prog 129 #[.int .u64 a, .int .u64 b] h = some (.int .i64 (cmpN a b), h) := by
  rw [call129, c129_0_eq]
  have e1 := fun h => spec_isNaNU a h
  have e2 := fun h => spec_isNaNU b h
  unfold cmpN
  by_cases h1 : a < b
  · rw [if_pos h1]
    simp -implicitDefEqProofs (disch := omega) only [dcT, dcF, e1, e2, ↓ret129, ↓cnd_true, ↓cnd_false, ↓Option.bind_some, ↓obH_some', bin_add, bin_sub, bin_mul, bin_lss, bin_leq, bin_gtr, bin_geq, bin_eql, bin_neq, un_not, un_neg, Option.bind_some, Option.bind_none, Option.map_some, cnd_true, cnd_false, pickV_true, pickV_false, gd_true, gd_false, gdV_true, gdV_false, gdH_true, gdH_false, gdS_true, gdS_false, wt_ff, wt_tt, wt_ft, wt_tf, wt_undef, obH_some', extractV_tuple, nilCheckV_ptr, againK_normal, againK_exit, againK_ret, blockK_normal, blockK_same, blockK_ret, seqK_normal, seqK_exit, seqK_ret, fin_done, if_true', if_false', Bool.not_true, Bool.not_false, idx0, idx1, idx2, idx3, idx4, chk_nil_l, chk_nil_r, done_nm]
  · rw [if_neg h1]
    by_cases h2 : b < a
    · rw [if_pos h2]
      simp -implicitDefEqProofs (disch := omega) only [dcT, dcF, e1, e2, ↓ret129, ↓cnd_true, ↓cnd_false, ↓Option.bind_some, ↓obH_some', bin_add, bin_sub, bin_mul, bin_lss, bin_leq, bin_gtr, bin_geq, bin_eql, bin_neq, un_not, un_neg, Option.bind_some, Option.bind_none, Option.map_some, cnd_true, cnd_false, pickV_true, pickV_false, gd_true, gd_false, gdV_true, gdV_false, gdH_true, gdH_false, gdS_true, gdS_false, wt_ff, wt_tt, wt_ft, wt_tf, wt_undef, obH_some', extractV_tuple, nilCheckV_ptr, againK_normal, againK_exit, againK_ret, blockK_normal, blockK_same, blockK_ret, seqK_normal, seqK_exit, seqK_ret, fin_done, if_true', if_false', Bool.not_true, Bool.not_false, idx0, idx1, idx2, idx3, idx4, chk_nil_l, chk_nil_r, done_nm]
    · rw [if_neg h2]
      simp -implicitDefEqProofs (disch := omega) only [dcT, dcF, e1, e2, ↓ret129, ↓cnd_true, ↓cnd_false, ↓Option.bind_some, ↓obH_some', bin_add, bin_sub, bin_mul, bin_lss, bin_leq, bin_gtr, bin_geq, bin_eql, bin_neq, un_not, un_neg, Option.bind_some, Option.bind_none, Option.map_some, cnd_true, cnd_false, pickV_true, pickV_false, gd_true, gd_false, gdV_true, gdV_false, gdH_true, gdH_false, gdS_true, gdS_false, wt_ff, wt_tt, wt_ft, wt_tf, wt_undef, obH_some', extractV_tuple, nilCheckV_ptr, againK_normal, againK_exit, againK_ret, blockK_normal, blockK_same, blockK_ret, seqK_normal, seqK_exit, seqK_ret, fin_done, if_true', if_false', Bool.not_true, Bool.not_false, idx0, idx1, idx2, idx3, idx4, chk_nil_l, chk_nil_r, done_nm]
theorem spec_FCmp (a b : Nat) (ha : a < 2 ^ 64) (hb : b < 2 ^ 64) (h : Heap) : evC Try.prog 128 #[.float .f64 a, .float .f64 b] h = some (.int .i64 (cmpN (keyF a) (keyF b)), h) := by
  rw [call128, c128_0_eq]
  have e1 := fun h => spec_Key a ha h
  have e2 := fun h => spec_Key b hb h
  have e3 := fun h => spec_Compare (keyF a) (keyF b) h
  simp -implicitDefEqProofs only [e1, e2, e3, ↓ret128, ↓cnd_true, ↓cnd_false, ↓Option.bind_some, ↓obH_some', bin_add, bin_sub, bin_mul, bin_lss, bin_leq, bin_gtr, bin_geq, bin_eql, bin_neq, un_not, un_neg, Option.bind_some, Option.bind_none, Option.map_some, cnd_true, cnd_false, pickV_true, pickV_false, gd_true, gd_false, gdV_true, gdV_false, gdH_true, gdH_false, gdS_true, gdS_false, wt_ff, wt_tt, wt_ft, wt_tf, wt_undef, obH_some', extractV_tuple, nilCheckV_ptr, againK_normal, againK_exit, againK_ret, blockK_normal, blockK_same, blockK_ret, seqK_normal, seqK_exit, seqK_ret, fin_done, if_true', if_false', Bool.not_true, Bool.not_false, idx0, idx1, idx2, idx3, idx4, chk_nil_l, chk_nil_r, done_nm]
theorem spec_Same (a b : Nat) (ha : a < 2 ^ 64) (hb : b < 2 ^ 64) (h : Heap) : evC Try.prog 126 #[.float .f64 a, .float .f64 b] h = some (.bool (decide (keyF a = keyF b)), h) := by
  rw [call126, c126_0_eq]
  have e3 := fun h => spec_FCmp a b ha hb h
  have ec : decide (cmpN (keyF a) (keyF b) = 0) = decide (keyF a = keyF b) := by
    congr 1; apply propext; unfold cmpN
    constructor
    · intro x; split at x
      · omega
      · split at x <;> omega
    · intro x; rw [if_neg (by omega), if_neg (by omega)]
  simp -implicitDefEqProofs only [e3, ec, ↓ret126, ↓cnd_true, ↓cnd_false, ↓Option.bind_some, ↓obH_some', bin_add, bin_sub, bin_mul, bin_lss, bin_leq, bin_gtr, bin_geq, bin_eql, bin_neq, un_not, un_neg, Option.bind_some, Option.bind_none, Option.map_some, cnd_true, cnd_false, pickV_true, pickV_false, gd_true, gd_false, gdV_true, gdV_false, gdH_true, gdH_false, gdS_true, gdS_false, wt_ff, wt_tt, wt_ft, wt_tf, wt_undef, obH_some', extractV_tuple, nilCheckV_ptr, againK_normal, againK_exit, againK_ret, blockK_normal, blockK_same, blockK_ret, seqK_normal, seqK_exit, seqK_ret, fin_done, if_true', if_false', Bool.not_true, Bool.not_false, idx0, idx1, idx2, idx3, idx4, chk_nil_l, chk_nil_r, done_nm]
def taggedB (m : MT) : Bool :=
  if m.kind = 1 then decide (m.wr = m.frm) && decide (0 < m.tag)
  else if m.kind = 3 then decide (-1 ≤ m.wr ∧ m.wr ≤ 15) && (decide (m.tag = 0) == decide (m.wr = -1))
  else decide (m.wr = 0) && (decide (m.tag = 0) && decide (keyF m.val = keyF 0))
theorem spec_tagged (hb : SB h bv m.body) (hs : SB h sv m.stamp) (ok : MTok m) : ∃ h', evC Try.prog 113 #[msgA m bv sv] h = some (.bool (taggedB m), h') ∧ HExt h h' := by
  rw [call113, c113_0_eq]
  have M := MC.new (h := nm h) 104 hb.nm hs.nm
  have i0 : In h.blks.length No (nm h) _ := In.new (by simp) (.cells (msgL m bv sv)) 104
  have k0 := bxMM (.int .i64 m.frm) (.int .u64 m.num) (.int .u64 m.to) (.int .i64 m.kind) (.int .i64 m.var) (.float .f64 m.val) (.int .i64 m.wr) (.int .u64 m.tag) bv sv (nm h)
  have bl : (nm h).blks.length = h.blks.length := rfl
  rw [bl] at M k0
  generalize (nm h).new (.cells (msgL m bv sv)) 104 = g0 at *
  unfold taggedB
  by_cases c1 : m.kind = 1
  · rw [if_pos c1]
    have e1 : decide (m.kind = 1) = true := decide_eq_true c1
    by_cases c2 : m.wr = m.frm
    · have e2 : decide (m.wr = m.frm) = true := decide_eq_true c2
      have e3 : decide (((0 : Int)) < (m.tag : Nat)) = decide (0 < m.tag) := by congr 1; apply propext; omega
      rw [e2, Bool.true_and]
      simp -implicitDefEqProofs (disch := omega) only [dcT, dcF, k0, faMM0, faMM3, faMM6, faMM7, ldIntV, vld64, M.l0, M.l3, M.l6, M.l7, e1, e2, e3, ↓ret113, ↓cnd_true, ↓cnd_false, ↓Option.bind_some, ↓obH_some', bin_add, bin_sub, bin_mul, bin_lss, bin_leq, bin_gtr, bin_geq, bin_eql, bin_neq, un_not, un_neg, Option.bind_some, Option.bind_none, Option.map_some, cnd_true, cnd_false, pickV_true, pickV_false, gd_true, gd_false, gdV_true, gdV_false, gdH_true, gdH_false, gdS_true, gdS_false, wt_ff, wt_tt, wt_ft, wt_tf, wt_undef, obH_some', extractV_tuple, nilCheckV_ptr, againK_normal, againK_exit, againK_ret, blockK_normal, blockK_same, blockK_ret, seqK_normal, seqK_exit, seqK_ret, fin_done, if_true', if_false', Bool.not_true, Bool.not_false, idx0, idx1, idx2, idx3, idx4, chk_nil_l, chk_nil_r, done_nm]
      exact ⟨_, rfl, done_ext' i0⟩
    · have e2 : decide (m.wr = m.frm) = false := decide_eq_false c2
      rw [e2, Bool.false_and]
      simp -implicitDefEqProofs (disch := omega) only [dcT, dcF, k0, faMM0, faMM3, faMM6, faMM7, ldIntV, vld64, M.l0, M.l3, M.l6, M.l7, e1, e2, ↓ret113, ↓cnd_true, ↓cnd_false, ↓Option.bind_some, ↓obH_some', bin_add, bin_sub, bin_mul, bin_lss, bin_leq, bin_gtr, bin_geq, bin_eql, bin_neq, un_not, un_neg, Option.bind_some, Option.bind_none, Option.map_some, cnd_true, cnd_false, pickV_true, pickV_false, gd_true, gd_false, gdV_true, gdV_false, gdH_true, gdH_false, gdS_true, gdS_false, wt_ff, wt_tt, wt_ft, wt_tf, wt_undef, obH_some', extractV_tuple, nilCheckV_ptr, againK_normal, againK_exit, againK_ret, blockK_normal, blockK_same, blockK_ret, seqK_normal, seqK_exit, seqK_ret, fin_done, if_true', if_false', Bool.not_true, Bool.not_false, idx0, idx1, idx2, idx3, idx4, chk_nil_l, chk_nil_r, done_nm]
      exact ⟨_, rfl, done_ext' i0⟩
  · rw [if_neg c1]
    have e1 : decide (m.kind = 1) = false := decide_eq_false c1
    have e4 : decide (((m.tag : Nat) : Int) = 0) = decide (m.tag = 0) := by congr 1; apply propext; omega
    by_cases c3 : m.kind = 3
    · rw [if_pos c3]
      have e3 : decide (m.kind = 3) = true := decide_eq_true c3
      have ei := fun h => spec_in m.wr (-1) 15 h
      have ew : decide ((-1 : Int) = m.wr) = decide (m.wr = -1) := by congr 1; apply propext; omega
      by_cases c5 : -1 ≤ m.wr ∧ m.wr ≤ 15
      · rw [decide_eq_true c5, Bool.true_and]
        rw [decide_eq_true c5] at ei
        simp -implicitDefEqProofs (disch := omega) only [dcT, dcF, k0, faMM0, faMM3, faMM6, faMM7, ldIntV, vld64, M.l0, M.l3, M.l6, M.l7, e1, e3, e4, ei, ew, vbeql, ↓ret113, ↓cnd_true, ↓cnd_false, ↓Option.bind_some, ↓obH_some', bin_add, bin_sub, bin_mul, bin_lss, bin_leq, bin_gtr, bin_geq, bin_eql, bin_neq, un_not, un_neg, Option.bind_some, Option.bind_none, Option.map_some, cnd_true, cnd_false, pickV_true, pickV_false, gd_true, gd_false, gdV_true, gdV_false, gdH_true, gdH_false, gdS_true, gdS_false, wt_ff, wt_tt, wt_ft, wt_tf, wt_undef, obH_some', extractV_tuple, nilCheckV_ptr, againK_normal, againK_exit, againK_ret, blockK_normal, blockK_same, blockK_ret, seqK_normal, seqK_exit, seqK_ret, fin_done, if_true', if_false', Bool.not_true, Bool.not_false, idx0, idx1, idx2, idx3, idx4, chk_nil_l, chk_nil_r, done_nm]
        exact ⟨_, rfl, done_ext' i0⟩
      · rw [decide_eq_false c5, Bool.false_and]
        rw [decide_eq_false c5] at ei
        simp -implicitDefEqProofs (disch := omega) only [dcT, dcF, k0, faMM0, faMM3, faMM6, faMM7, ldIntV, vld64, M.l0, M.l3, M.l6, M.l7, e1, e3, e4, ei, ↓ret113, ↓cnd_true, ↓cnd_false, ↓Option.bind_some, ↓obH_some', bin_add, bin_sub, bin_mul, bin_lss, bin_leq, bin_gtr, bin_geq, bin_eql, bin_neq, un_not, un_neg, Option.bind_some, Option.bind_none, Option.map_some, cnd_true, cnd_false, pickV_true, pickV_false, gd_true, gd_false, gdV_true, gdV_false, gdH_true, gdH_false, gdS_true, gdS_false, wt_ff, wt_tt, wt_ft, wt_tf, wt_undef, obH_some', extractV_tuple, nilCheckV_ptr, againK_normal, againK_exit, againK_ret, blockK_normal, blockK_same, blockK_ret, seqK_normal, seqK_exit, seqK_ret, fin_done, if_true', if_false', Bool.not_true, Bool.not_false, idx0, idx1, idx2, idx3, idx4, chk_nil_l, chk_nil_r, done_nm]
        exact ⟨_, rfl, done_ext' i0⟩
    · rw [if_neg c3]
      have e3 : decide (m.kind = 3) = false := decide_eq_false c3
      have es := fun h => spec_Same m.val 0 ok.val (by omega) h
      by_cases c6 : m.wr = 0
      · have e6 : decide (m.wr = 0) = true := decide_eq_true c6
        by_cases c7 : m.tag = 0
        · have e7 : decide (m.tag = 0) = true := decide_eq_true c7
          rw [e6, e7, Bool.true_and, Bool.true_and]
          simp -implicitDefEqProofs (disch := omega) only [dcT, dcF, k0, faMM0, faMM3, faMM5, faMM6, faMM7, ldIntV, ldFlV, vld64, M.l0, M.l3, M.l5, M.l6, M.l7, e1, e3, e4, e6, e7, es, ↓ret113, ↓cnd_true, ↓cnd_false, ↓Option.bind_some, ↓obH_some', bin_add, bin_sub, bin_mul, bin_lss, bin_leq, bin_gtr, bin_geq, bin_eql, bin_neq, un_not, un_neg, Option.bind_some, Option.bind_none, Option.map_some, cnd_true, cnd_false, pickV_true, pickV_false, gd_true, gd_false, gdV_true, gdV_false, gdH_true, gdH_false, gdS_true, gdS_false, wt_ff, wt_tt, wt_ft, wt_tf, wt_undef, obH_some', extractV_tuple, nilCheckV_ptr, againK_normal, againK_exit, againK_ret, blockK_normal, blockK_same, blockK_ret, seqK_normal, seqK_exit, seqK_ret, fin_done, if_true', if_false', Bool.not_true, Bool.not_false, idx0, idx1, idx2, idx3, idx4, chk_nil_l, chk_nil_r, done_nm]
          exact ⟨_, rfl, done_ext' i0⟩
        · have e7 : decide (m.tag = 0) = false := decide_eq_false c7
          rw [e6, e7, Bool.true_and, Bool.false_and]
          simp -implicitDefEqProofs (disch := omega) only [dcT, dcF, k0, faMM0, faMM3, faMM5, faMM6, faMM7, ldIntV, ldFlV, vld64, M.l0, M.l3, M.l5, M.l6, M.l7, e1, e3, e4, e6, e7, ↓ret113, ↓cnd_true, ↓cnd_false, ↓Option.bind_some, ↓obH_some', bin_add, bin_sub, bin_mul, bin_lss, bin_leq, bin_gtr, bin_geq, bin_eql, bin_neq, un_not, un_neg, Option.bind_some, Option.bind_none, Option.map_some, cnd_true, cnd_false, pickV_true, pickV_false, gd_true, gd_false, gdV_true, gdV_false, gdH_true, gdH_false, gdS_true, gdS_false, wt_ff, wt_tt, wt_ft, wt_tf, wt_undef, obH_some', extractV_tuple, nilCheckV_ptr, againK_normal, againK_exit, againK_ret, blockK_normal, blockK_same, blockK_ret, seqK_normal, seqK_exit, seqK_ret, fin_done, if_true', if_false', Bool.not_true, Bool.not_false, idx0, idx1, idx2, idx3, idx4, chk_nil_l, chk_nil_r, done_nm]
          exact ⟨_, rfl, done_ext' i0⟩
      · have e6 : decide (m.wr = 0) = false := decide_eq_false c6
        rw [e6, Bool.false_and]
        simp -implicitDefEqProofs (disch := omega) only [dcT, dcF, k0, faMM0, faMM3, faMM5, faMM6, faMM7, ldIntV, ldFlV, vld64, M.l0, M.l3, M.l5, M.l6, M.l7, e1, e3, e6, ↓ret113, ↓cnd_true, ↓cnd_false, ↓Option.bind_some, ↓obH_some', bin_add, bin_sub, bin_mul, bin_lss, bin_leq, bin_gtr, bin_geq, bin_eql, bin_neq, un_not, un_neg, Option.bind_some, Option.bind_none, Option.map_some, cnd_true, cnd_false, pickV_true, pickV_false, gd_true, gd_false, gdV_true, gdV_false, gdH_true, gdH_false, gdS_true, gdS_false, wt_ff, wt_tt, wt_ft, wt_tf, wt_undef, obH_some', extractV_tuple, nilCheckV_ptr, againK_normal, againK_exit, againK_ret, blockK_normal, blockK_same, blockK_ret, seqK_normal, seqK_exit, seqK_ret, fin_done, if_true', if_false', Bool.not_true, Bool.not_false, idx0, idx1, idx2, idx3, idx4, chk_nil_l, chk_nil_r, done_nm]
        exact ⟨_, rfl, done_ext' i0⟩
end Go.Am
