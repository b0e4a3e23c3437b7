/- What the functions answer, in the machine. -/
import Derived.Test.YtojjjicjpimhoaaKE
set_option linter.all false
namespace Go.Am
open Go.Proofs
set_option maxRecDepth 100000
set_option linter.all false
attribute [local congr] obind_congr obH_congr cnd_congr chk_congr retK_congr codeK_congr
variable {T : TypeId} {h h' : Heap} {p : Nat} {m : MT} {bv sv : Value}
theorem outB_16 {n : Nat} (hn : n < 2 ^ 64) : outB n 65535 = 0 ↔ n ≤ 65535 := by
  unfold outB
  have hb : ∀ j, (2 ^ 64 - 1 - 65535 : Nat).testBit j = (decide (j < 64) && !decide (j < 16)) := fun j => by
    have := Nat.testBit_two_pow_sub_succ (n := 64) (x := 65535) (by decide) j
    rw [show (65535 : Nat) = 2 ^ 16 - 1 from rfl, Nat.testBit_two_pow_sub_one] at this
    exact this
  constructor
  · intro h
    refine Nat.le_of_not_lt fun hlt => ?_
    have hne : n / 2 ^ 16 ≠ 0 := by omega
    obtain ⟨i, hi⟩ := Nat.exists_testBit_of_ne_zero hne
    rw [Nat.testBit_div_two_pow] at hi
    have h64 : 16 + i < 64 := by
      refine Nat.lt_of_not_le fun hge => ?_
      rw [Nat.testBit_lt_two_pow (Nat.lt_of_lt_of_le hn (Nat.pow_le_pow_right (by omega) (by omega)))] at hi
      cases hi
    have : (n &&& (2 ^ 64 - 1 - 65535)).testBit (16 + i) = true := by
      rw [Nat.testBit_and, hb, decide_eq_true h64, decide_eq_false (by omega), Nat.add_comm, hi]; rfl
    rw [h] at this
    simp at this
  · intro h
    refine Nat.eq_of_testBit_eq fun j => ?_
    rw [Nat.testBit_and, hb, Nat.zero_testBit]
    by_cases hj : j < 16
    · rw [decide_eq_true hj]; simp
    · rw [Nat.testBit_lt_two_pow (Nat.lt_of_le_of_lt h (Nat.lt_of_lt_of_le (by decide : 65535 < 2 ^ 16) (Nat.pow_le_pow_right (by omega) (by omega))))]; rfl
def goodMsg (m : MT) : Bool :=
  decide (0 ≤ m.frm ∧ m.frm ≤ 15) && (decide (1 ≤ m.num) && (decide (m.to ≠ 0) && (decide (m.to ≤ 65535) && (!hasB m.to m.frm && (decide (0 ≤ m.kind ∧ m.kind ≤ 3) && (taggedB m && (decide (m.stamp.length ≤ 20000) &&
    (if m.kind = 0 then decide (m.body.length ≤ 256) && decide (m.var = 0) else decide (m.body.length = 0) && decide (0 ≤ m.var ∧ m.var ≤ 15)))))))))
theorem spec_GoodM (hb : SB h bv m.body) (hs : SB h sv m.stamp) (ok : MTok m) : ∃ h', evC Try.prog 71 #[msgA m bv sv] h = some (.bool (goodMsg m), h') ∧ HExt h h' := by
  rw [call71, c71_0_eq]
  have M := MC.new (h := nm h) 104 hb.nm hs.nm
  have i0 : In h.blks.length No (nm h) _ := In.new (by simp) (.cells (msgL m bv sv)) 104
  have k0 := bxMM (.int .i64 m.frm) (.int .u64 m.num) (.int .u64 m.to) (.int .i64 m.kind) (.int .i64 m.var) (.float .f64 m.val) (.int .i64 m.wr) (.int .u64 m.tag) bv sv (nm h)
  have bl : (nm h).blks.length = h.blks.length := rfl
  rw [bl] at M k0
  generalize (nm h).new (.cells (msgL m bv sv)) 104 = g0 at *
  have am1 : am (nm g0) g0 = g0 := by show Heap.mk _ _ = _; rfl
  have a1 := fun h => spec_in m.frm 0 15 h
  have a2 := fun h => spec_All 16 (by omega) h
  rw [show ((16 : Nat) : Int) = 16 from rfl, show ((allN 16 : Nat) : Int) = (65535 : Nat) from rfl] at a2
  have a3 := fun h => spec_Within m.to 65535 ok.to (by omega) h
  have a4 := fun h => spec_Has m.to ok.to m.frm h
  have a5 := fun h => spec_in m.kind 0 3 h
  have a7 := fun h => spec_in m.var 0 15 h
  unfold goodMsg
  by_cases c1 : 0 ≤ m.frm ∧ m.frm ≤ 15
  rotate_left
  · rw [decide_eq_false c1, Bool.false_and]
    rw [decide_eq_false c1] at a1
    simp -implicitDefEqProofs (maxSteps := 1000000) (disch := omega) only [↓c71_1_eq, ↓c71_2_eq, ↓c71_3_eq, ↓c71_4_eq, ↓c71_5_eq, ↓c71_6_eq, ↓d71_0_0, ↓d71_0_1, ↓d71_0_2, ↓d71_0_3, ↓d71_0_4, ↓d71_0_5, ↓d71_0_6, ↓d71_0_7, ↓d71_0_8, ↓d71_0_9, ↓d71_0_10, ↓d71_0_11, ↓d71_0_12, ↓d71_0_13, ↓d71_0_14, ↓d71_0_15, ↓d71_0_16, ↓d71_0_17, ↓d71_0_18, ↓d71_0_19, ↓d71_0_20, ↓d71_0_21, ↓d71_0_22, ↓d71_0_23, ↓d71_0_24, ↓d71_0_25, ↓d71_0_26, ↓d71_0_27, ↓d71_0_28, dcT, dcF, k0, M.l0, M.l1, M.l2, M.l3, M.l4, M.l8, M.l9, faMM0, faMM1, faMM2, faMM3, faMM4, faMM8, faMM9, ldIntV, vld64, ldSetV, ldB, M.ld, a1, nm_mods, List.append_nil, List.nil_append, ↓ret71, ↓cnd_true, ↓cnd_false, ↓Option.bind_some, ↓obH_some', bin_add, bin_sub, bin_mul, bin_lss, bin_leq, bin_gtr, bin_geq, bin_eql, bin_neq, un_not, un_neg, Option.bind_some, Option.bind_none, Option.map_some, cnd_true, cnd_false, pickV_true, pickV_false, gd_true, gd_false, gdV_true, gdV_false, gdH_true, gdH_false, gdS_true, gdS_false, wt_ff, wt_tt, wt_ft, wt_tf, wt_undef, obH_some', extractV_tuple, nilCheckV_ptr, againK_normal, againK_exit, againK_ret, blockK_normal, blockK_same, blockK_ret, seqK_normal, seqK_exit, seqK_ret, fin_done, if_true', if_false', Bool.not_true, Bool.not_false, idx0, idx1, idx2, idx3, idx4, chk_nil_l, chk_nil_r, done_nm]
    exact ⟨_, rfl, done_ext' i0⟩
  rw [decide_eq_true c1, Bool.true_and]
  rw [decide_eq_true c1] at a1
  by_cases c2 : 1 ≤ m.num
  rotate_left
  · rw [decide_eq_false c2, Bool.false_and]
    simp -implicitDefEqProofs (maxSteps := 1000000) (disch := omega) only [↓c71_1_eq, ↓c71_2_eq, ↓c71_3_eq, ↓c71_4_eq, ↓c71_5_eq, ↓c71_6_eq, ↓d71_0_0, ↓d71_0_1, ↓d71_0_2, ↓d71_0_3, ↓d71_0_4, ↓d71_0_5, ↓d71_0_6, ↓d71_0_7, ↓d71_0_8, ↓d71_0_9, ↓d71_0_10, ↓d71_0_11, ↓d71_0_12, ↓d71_0_13, ↓d71_0_14, ↓d71_0_15, ↓d71_0_16, ↓d71_0_17, ↓d71_0_18, ↓d71_0_19, ↓d71_0_20, ↓d71_0_21, ↓d71_0_22, ↓d71_0_23, ↓d71_0_24, ↓d71_0_25, ↓d71_0_26, ↓d71_0_27, ↓d71_0_28, dcT, dcF, k0, M.l0, M.l1, M.l2, M.l3, M.l4, M.l8, M.l9, faMM0, faMM1, faMM2, faMM3, faMM4, faMM8, faMM9, ldIntV, vld64, ldSetV, ldB, M.ld, a1, nm_mods, List.append_nil, List.nil_append, ↓ret71, ↓cnd_true, ↓cnd_false, ↓Option.bind_some, ↓obH_some', bin_add, bin_sub, bin_mul, bin_lss, bin_leq, bin_gtr, bin_geq, bin_eql, bin_neq, un_not, un_neg, Option.bind_some, Option.bind_none, Option.map_some, cnd_true, cnd_false, pickV_true, pickV_false, gd_true, gd_false, gdV_true, gdV_false, gdH_true, gdH_false, gdS_true, gdS_false, wt_ff, wt_tt, wt_ft, wt_tf, wt_undef, obH_some', extractV_tuple, nilCheckV_ptr, againK_normal, againK_exit, againK_ret, blockK_normal, blockK_same, blockK_ret, seqK_normal, seqK_exit, seqK_ret, fin_done, if_true', if_false', Bool.not_true, Bool.not_false, idx0, idx1, idx2, idx3, idx4, chk_nil_l, chk_nil_r, done_nm]
    exact ⟨_, rfl, done_ext' i0⟩
  rw [decide_eq_true c2, Bool.true_and]
  have d3 : decide (((m.to : Nat) : Int) = 0) = decide (m.to = 0) := by congr 1; apply propext; omega
  by_cases c3 : m.to = 0
  · rw [decide_eq_false (fun x : m.to ≠ 0 => x c3), Bool.false_and]
    rw [decide_eq_true c3] at d3
    simp -implicitDefEqProofs (maxSteps := 1000000) (disch := omega) only [↓c71_1_eq, ↓c71_2_eq, ↓c71_3_eq, ↓c71_4_eq, ↓c71_5_eq, ↓c71_6_eq, ↓d71_0_0, ↓d71_0_1, ↓d71_0_2, ↓d71_0_3, ↓d71_0_4, ↓d71_0_5, ↓d71_0_6, ↓d71_0_7, ↓d71_0_8, ↓d71_0_9, ↓d71_0_10, ↓d71_0_11, ↓d71_0_12, ↓d71_0_13, ↓d71_0_14, ↓d71_0_15, ↓d71_0_16, ↓d71_0_17, ↓d71_0_18, ↓d71_0_19, ↓d71_0_20, ↓d71_0_21, ↓d71_0_22, ↓d71_0_23, ↓d71_0_24, ↓d71_0_25, ↓d71_0_26, ↓d71_0_27, ↓d71_0_28, dcT, dcF, k0, M.l0, M.l1, M.l2, M.l3, M.l4, M.l8, M.l9, faMM0, faMM1, faMM2, faMM3, faMM4, faMM8, faMM9, ldIntV, vld64, ldSetV, ldB, M.ld, a1, d3, nm_mods, List.append_nil, List.nil_append, ↓ret71, ↓cnd_true, ↓cnd_false, ↓Option.bind_some, ↓obH_some', bin_add, bin_sub, bin_mul, bin_lss, bin_leq, bin_gtr, bin_geq, bin_eql, bin_neq, un_not, un_neg, Option.bind_some, Option.bind_none, Option.map_some, cnd_true, cnd_false, pickV_true, pickV_false, gd_true, gd_false, gdV_true, gdV_false, gdH_true, gdH_false, gdS_true, gdS_false, wt_ff, wt_tt, wt_ft, wt_tf, wt_undef, obH_some', extractV_tuple, nilCheckV_ptr, againK_normal, againK_exit, againK_ret, blockK_normal, blockK_same, blockK_ret, seqK_normal, seqK_exit, seqK_ret, fin_done, if_true', if_false', Bool.not_true, Bool.not_false, idx0, idx1, idx2, idx3, idx4, chk_nil_l, chk_nil_r, done_nm]
    exact ⟨_, rfl, done_ext' i0⟩
  rw [decide_eq_true (show m.to ≠ 0 from c3), Bool.true_and]
  rw [decide_eq_false c3] at d3
  by_cases c4 : m.to ≤ 65535
  rotate_left
  · rw [decide_eq_false c4, Bool.false_and]
    rw [decide_eq_false (fun x => c4 ((outB_16 ok.to).1 x))] at a3
    simp -implicitDefEqProofs (maxSteps := 1000000) (disch := omega) only [↓c71_1_eq, ↓c71_2_eq, ↓c71_3_eq, ↓c71_4_eq, ↓c71_5_eq, ↓c71_6_eq, ↓d71_0_0, ↓d71_0_1, ↓d71_0_2, ↓d71_0_3, ↓d71_0_4, ↓d71_0_5, ↓d71_0_6, ↓d71_0_7, ↓d71_0_8, ↓d71_0_9, ↓d71_0_10, ↓d71_0_11, ↓d71_0_12, ↓d71_0_13, ↓d71_0_14, ↓d71_0_15, ↓d71_0_16, ↓d71_0_17, ↓d71_0_18, ↓d71_0_19, ↓d71_0_20, ↓d71_0_21, ↓d71_0_22, ↓d71_0_23, ↓d71_0_24, ↓d71_0_25, ↓d71_0_26, ↓d71_0_27, ↓d71_0_28, dcT, dcF, k0, M.l0, M.l1, M.l2, M.l3, M.l4, M.l8, M.l9, faMM0, faMM1, faMM2, faMM3, faMM4, faMM8, faMM9, ldIntV, vld64, ldSetV, ldB, M.ld, a1, d3, a2, am1, a3, nm_mods, List.append_nil, List.nil_append, ↓ret71, ↓cnd_true, ↓cnd_false, ↓Option.bind_some, ↓obH_some', bin_add, bin_sub, bin_mul, bin_lss, bin_leq, bin_gtr, bin_geq, bin_eql, bin_neq, un_not, un_neg, Option.bind_some, Option.bind_none, Option.map_some, cnd_true, cnd_false, pickV_true, pickV_false, gd_true, gd_false, gdV_true, gdV_false, gdH_true, gdH_false, gdS_true, gdS_false, wt_ff, wt_tt, wt_ft, wt_tf, wt_undef, obH_some', extractV_tuple, nilCheckV_ptr, againK_normal, againK_exit, againK_ret, blockK_normal, blockK_same, blockK_ret, seqK_normal, seqK_exit, seqK_ret, fin_done, if_true', if_false', Bool.not_true, Bool.not_false, idx0, idx1, idx2, idx3, idx4, chk_nil_l, chk_nil_r, done_nm]
    exact ⟨_, rfl, done_ext' i0⟩
  rw [decide_eq_true c4, Bool.true_and]
  rw [decide_eq_true ((outB_16 ok.to).2 c4)] at a3
  cases c5 : hasB m.to m.frm with
  | true =>
    rw [c5] at a4
    rw [Bool.not_true, Bool.false_and]
    simp -implicitDefEqProofs (maxSteps := 1000000) (disch := omega) only [↓c71_1_eq, ↓c71_2_eq, ↓c71_3_eq, ↓c71_4_eq, ↓c71_5_eq, ↓c71_6_eq, ↓d71_0_0, ↓d71_0_1, ↓d71_0_2, ↓d71_0_3, ↓d71_0_4, ↓d71_0_5, ↓d71_0_6, ↓d71_0_7, ↓d71_0_8, ↓d71_0_9, ↓d71_0_10, ↓d71_0_11, ↓d71_0_12, ↓d71_0_13, ↓d71_0_14, ↓d71_0_15, ↓d71_0_16, ↓d71_0_17, ↓d71_0_18, ↓d71_0_19, ↓d71_0_20, ↓d71_0_21, ↓d71_0_22, ↓d71_0_23, ↓d71_0_24, ↓d71_0_25, ↓d71_0_26, ↓d71_0_27, ↓d71_0_28, dcT, dcF, k0, M.l0, M.l1, M.l2, M.l3, M.l4, M.l8, M.l9, faMM0, faMM1, faMM2, faMM3, faMM4, faMM8, faMM9, ldIntV, vld64, ldSetV, ldB, M.ld, a1, d3, a2, am1, a3, a4, nm_mods, List.append_nil, List.nil_append, ↓ret71, ↓cnd_true, ↓cnd_false, ↓Option.bind_some, ↓obH_some', bin_add, bin_sub, bin_mul, bin_lss, bin_leq, bin_gtr, bin_geq, bin_eql, bin_neq, un_not, un_neg, Option.bind_some, Option.bind_none, Option.map_some, cnd_true, cnd_false, pickV_true, pickV_false, gd_true, gd_false, gdV_true, gdV_false, gdH_true, gdH_false, gdS_true, gdS_false, wt_ff, wt_tt, wt_ft, wt_tf, wt_undef, obH_some', extractV_tuple, nilCheckV_ptr, againK_normal, againK_exit, againK_ret, blockK_normal, blockK_same, blockK_ret, seqK_normal, seqK_exit, seqK_ret, fin_done, if_true', if_false', Bool.not_true, Bool.not_false, idx0, idx1, idx2, idx3, idx4, chk_nil_l, chk_nil_r, done_nm]
    exact ⟨_, rfl, done_ext' i0⟩
  | false =>
  rw [c5] at a4
  rw [Bool.not_false, Bool.true_and]
  by_cases c6 : 0 ≤ m.kind ∧ m.kind ≤ 3
  rotate_left
  · rw [decide_eq_false c6, Bool.false_and]
    rw [decide_eq_false c6] at a5
    simp -implicitDefEqProofs (maxSteps := 1000000) (disch := omega) only [↓c71_1_eq, ↓c71_2_eq, ↓c71_3_eq, ↓c71_4_eq, ↓c71_5_eq, ↓c71_6_eq, ↓d71_0_0, ↓d71_0_1, ↓d71_0_2, ↓d71_0_3, ↓d71_0_4, ↓d71_0_5, ↓d71_0_6, ↓d71_0_7, ↓d71_0_8, ↓d71_0_9, ↓d71_0_10, ↓d71_0_11, ↓d71_0_12, ↓d71_0_13, ↓d71_0_14, ↓d71_0_15, ↓d71_0_16, ↓d71_0_17, ↓d71_0_18, ↓d71_0_19, ↓d71_0_20, ↓d71_0_21, ↓d71_0_22, ↓d71_0_23, ↓d71_0_24, ↓d71_0_25, ↓d71_0_26, ↓d71_0_27, ↓d71_0_28, dcT, dcF, k0, M.l0, M.l1, M.l2, M.l3, M.l4, M.l8, M.l9, faMM0, faMM1, faMM2, faMM3, faMM4, faMM8, faMM9, ldIntV, vld64, ldSetV, ldB, M.ld, a1, d3, a2, am1, a3, a4, a5, nm_mods, List.append_nil, List.nil_append, ↓ret71, ↓cnd_true, ↓cnd_false, ↓Option.bind_some, ↓obH_some', bin_add, bin_sub, bin_mul, bin_lss, bin_leq, bin_gtr, bin_geq, bin_eql, bin_neq, un_not, un_neg, Option.bind_some, Option.bind_none, Option.map_some, cnd_true, cnd_false, pickV_true, pickV_false, gd_true, gd_false, gdV_true, gdV_false, gdH_true, gdH_false, gdS_true, gdS_false, wt_ff, wt_tt, wt_ft, wt_tf, wt_undef, obH_some', extractV_tuple, nilCheckV_ptr, againK_normal, againK_exit, againK_ret, blockK_normal, blockK_same, blockK_ret, seqK_normal, seqK_exit, seqK_ret, fin_done, if_true', if_false', Bool.not_true, Bool.not_false, idx0, idx1, idx2, idx3, idx4, chk_nil_l, chk_nil_r, done_nm]
    exact ⟨_, rfl, done_ext' i0⟩
  rw [decide_eq_true c6, Bool.true_and]
  rw [decide_eq_true c6] at a5
  obtain ⟨g1, e6, x6⟩ := spec_tagged M.b M.s ok
  have M1 := M.ext x6
  have i1 := i0.trans (x6.inn i0.len)
  have ls := M1.s.row.len_eq etB.under
  have lb := M1.b.row.len_eq etB.under
  cases c7 : taggedB m with
  | false =>
    rw [c7] at e6
    rw [Bool.false_and]
    simp -implicitDefEqProofs (maxSteps := 1000000) (disch := omega) only [↓c71_1_eq, ↓c71_2_eq, ↓c71_3_eq, ↓c71_4_eq, ↓c71_5_eq, ↓c71_6_eq, ↓d71_0_0, ↓d71_0_1, ↓d71_0_2, ↓d71_0_3, ↓d71_0_4, ↓d71_0_5, ↓d71_0_6, ↓d71_0_7, ↓d71_0_8, ↓d71_0_9, ↓d71_0_10, ↓d71_0_11, ↓d71_0_12, ↓d71_0_13, ↓d71_0_14, ↓d71_0_15, ↓d71_0_16, ↓d71_0_17, ↓d71_0_18, ↓d71_0_19, ↓d71_0_20, ↓d71_0_21, ↓d71_0_22, ↓d71_0_23, ↓d71_0_24, ↓d71_0_25, ↓d71_0_26, ↓d71_0_27, ↓d71_0_28, dcT, dcF, k0, M.l0, M.l1, M.l2, M.l3, M.l4, M.l8, M.l9, faMM0, faMM1, faMM2, faMM3, faMM4, faMM8, faMM9, ldIntV, vld64, ldSetV, ldB, M.ld, a1, d3, a2, am1, a3, a4, a5, e6, nm_mods, List.append_nil, List.nil_append, ↓ret71, ↓cnd_true, ↓cnd_false, ↓Option.bind_some, ↓obH_some', bin_add, bin_sub, bin_mul, bin_lss, bin_leq, bin_gtr, bin_geq, bin_eql, bin_neq, un_not, un_neg, Option.bind_some, Option.bind_none, Option.map_some, cnd_true, cnd_false, pickV_true, pickV_false, gd_true, gd_false, gdV_true, gdV_false, gdH_true, gdH_false, gdS_true, gdS_false, wt_ff, wt_tt, wt_ft, wt_tf, wt_undef, obH_some', extractV_tuple, nilCheckV_ptr, againK_normal, againK_exit, againK_ret, blockK_normal, blockK_same, blockK_ret, seqK_normal, seqK_exit, seqK_ret, fin_done, if_true', if_false', Bool.not_true, Bool.not_false, idx0, idx1, idx2, idx3, idx4, chk_nil_l, chk_nil_r, done_nm]
    exact ⟨_, rfl, done_ext' i1⟩
  | true =>
  rw [c7] at e6
  rw [Bool.true_and]
  by_cases c8 : m.stamp.length ≤ 20000
  rotate_left
  · rw [decide_eq_false c8, Bool.false_and]
    simp -implicitDefEqProofs (maxSteps := 1000000) (disch := omega) only [↓c71_1_eq, ↓c71_2_eq, ↓c71_3_eq, ↓c71_4_eq, ↓c71_5_eq, ↓c71_6_eq, ↓d71_0_0, ↓d71_0_1, ↓d71_0_2, ↓d71_0_3, ↓d71_0_4, ↓d71_0_5, ↓d71_0_6, ↓d71_0_7, ↓d71_0_8, ↓d71_0_9, ↓d71_0_10, ↓d71_0_11, ↓d71_0_12, ↓d71_0_13, ↓d71_0_14, ↓d71_0_15, ↓d71_0_16, ↓d71_0_17, ↓d71_0_18, ↓d71_0_19, ↓d71_0_20, ↓d71_0_21, ↓d71_0_22, ↓d71_0_23, ↓d71_0_24, ↓d71_0_25, ↓d71_0_26, ↓d71_0_27, ↓d71_0_28, dcT, dcF, k0, M.l0, M.l1, M.l2, M.l3, M.l4, M.l8, M.l9, faMM0, faMM1, faMM2, faMM3, faMM4, faMM8, faMM9, ldIntV, vld64, ldSetV, ldB, M.ld, a1, d3, a2, am1, a3, a4, a5, e6, M1.l9, ls, nm_mods, List.append_nil, List.nil_append, ↓ret71, ↓cnd_true, ↓cnd_false, ↓Option.bind_some, ↓obH_some', bin_add, bin_sub, bin_mul, bin_lss, bin_leq, bin_gtr, bin_geq, bin_eql, bin_neq, un_not, un_neg, Option.bind_some, Option.bind_none, Option.map_some, cnd_true, cnd_false, pickV_true, pickV_false, gd_true, gd_false, gdV_true, gdV_false, gdH_true, gdH_false, gdS_true, gdS_false, wt_ff, wt_tt, wt_ft, wt_tf, wt_undef, obH_some', extractV_tuple, nilCheckV_ptr, againK_normal, againK_exit, againK_ret, blockK_normal, blockK_same, blockK_ret, seqK_normal, seqK_exit, seqK_ret, fin_done, if_true', if_false', Bool.not_true, Bool.not_false, idx0, idx1, idx2, idx3, idx4, chk_nil_l, chk_nil_r, done_nm]
    exact ⟨_, rfl, done_ext' i1⟩
  rw [decide_eq_true c8, Bool.true_and]
  by_cases c9 : m.kind = 0
  · rw [if_pos c9]
    have d9 : decide (m.kind = 0) = true := decide_eq_true c9
    by_cases c10 : m.body.length ≤ 256
    · rw [decide_eq_true c10, Bool.true_and]
      simp -implicitDefEqProofs (maxSteps := 1000000) (disch := omega) only [↓c71_1_eq, ↓c71_2_eq, ↓c71_3_eq, ↓c71_4_eq, ↓c71_5_eq, ↓c71_6_eq, ↓d71_0_0, ↓d71_0_1, ↓d71_0_2, ↓d71_0_3, ↓d71_0_4, ↓d71_0_5, ↓d71_0_6, ↓d71_0_7, ↓d71_0_8, ↓d71_0_9, ↓d71_0_10, ↓d71_0_11, ↓d71_0_12, ↓d71_0_13, ↓d71_0_14, ↓d71_0_15, ↓d71_0_16, ↓d71_0_17, ↓d71_0_18, ↓d71_0_19, ↓d71_0_20, ↓d71_0_21, ↓d71_0_22, ↓d71_0_23, ↓d71_0_24, ↓d71_0_25, ↓d71_0_26, ↓d71_0_27, ↓d71_0_28, dcT, dcF, k0, M.l0, M.l1, M.l2, M.l3, M.l4, M.l8, M.l9, faMM0, faMM1, faMM2, faMM3, faMM4, faMM8, faMM9, ldIntV, vld64, ldSetV, ldB, M.ld, a1, d3, a2, am1, a3, a4, a5, e6, M1.l9, ls, M1.l3, d9, M1.l8, lb, M1.l4, nm_mods, List.append_nil, List.nil_append, ↓ret71, ↓cnd_true, ↓cnd_false, ↓Option.bind_some, ↓obH_some', bin_add, bin_sub, bin_mul, bin_lss, bin_leq, bin_gtr, bin_geq, bin_eql, bin_neq, un_not, un_neg, Option.bind_some, Option.bind_none, Option.map_some, cnd_true, cnd_false, pickV_true, pickV_false, gd_true, gd_false, gdV_true, gdV_false, gdH_true, gdH_false, gdS_true, gdS_false, wt_ff, wt_tt, wt_ft, wt_tf, wt_undef, obH_some', extractV_tuple, nilCheckV_ptr, againK_normal, againK_exit, againK_ret, blockK_normal, blockK_same, blockK_ret, seqK_normal, seqK_exit, seqK_ret, fin_done, if_true', if_false', Bool.not_true, Bool.not_false, idx0, idx1, idx2, idx3, idx4, chk_nil_l, chk_nil_r, done_nm]
      exact ⟨_, rfl, done_ext' i1⟩
    · rw [decide_eq_false c10, Bool.false_and]
      simp -implicitDefEqProofs (maxSteps := 1000000) (disch := omega) only [↓c71_1_eq, ↓c71_2_eq, ↓c71_3_eq, ↓c71_4_eq, ↓c71_5_eq, ↓c71_6_eq, ↓d71_0_0, ↓d71_0_1, ↓d71_0_2, ↓d71_0_3, ↓d71_0_4, ↓d71_0_5, ↓d71_0_6, ↓d71_0_7, ↓d71_0_8, ↓d71_0_9, ↓d71_0_10, ↓d71_0_11, ↓d71_0_12, ↓d71_0_13, ↓d71_0_14, ↓d71_0_15, ↓d71_0_16, ↓d71_0_17, ↓d71_0_18, ↓d71_0_19, ↓d71_0_20, ↓d71_0_21, ↓d71_0_22, ↓d71_0_23, ↓d71_0_24, ↓d71_0_25, ↓d71_0_26, ↓d71_0_27, ↓d71_0_28, dcT, dcF, k0, M.l0, M.l1, M.l2, M.l3, M.l4, M.l8, M.l9, faMM0, faMM1, faMM2, faMM3, faMM4, faMM8, faMM9, ldIntV, vld64, ldSetV, ldB, M.ld, a1, d3, a2, am1, a3, a4, a5, e6, M1.l9, ls, M1.l3, d9, M1.l8, lb, M1.l4, nm_mods, List.append_nil, List.nil_append, ↓ret71, ↓cnd_true, ↓cnd_false, ↓Option.bind_some, ↓obH_some', bin_add, bin_sub, bin_mul, bin_lss, bin_leq, bin_gtr, bin_geq, bin_eql, bin_neq, un_not, un_neg, Option.bind_some, Option.bind_none, Option.map_some, cnd_true, cnd_false, pickV_true, pickV_false, gd_true, gd_false, gdV_true, gdV_false, gdH_true, gdH_false, gdS_true, gdS_false, wt_ff, wt_tt, wt_ft, wt_tf, wt_undef, obH_some', extractV_tuple, nilCheckV_ptr, againK_normal, againK_exit, againK_ret, blockK_normal, blockK_same, blockK_ret, seqK_normal, seqK_exit, seqK_ret, fin_done, if_true', if_false', Bool.not_true, Bool.not_false, idx0, idx1, idx2, idx3, idx4, chk_nil_l, chk_nil_r, done_nm]
      exact ⟨_, rfl, done_ext' i1⟩
  · rw [if_neg c9]
    have d9 : decide (m.kind = 0) = false := decide_eq_false c9
    have d10 : decide (((m.body.length : Nat) : Int) = 0) = decide (m.body.length = 0) := by congr 1; apply propext; omega
    by_cases c10 : m.body.length = 0
    · rw [decide_eq_true c10] at d10 ⊢
      rw [Bool.true_and]
      simp -implicitDefEqProofs (maxSteps := 1000000) (disch := omega) only [↓c71_1_eq, ↓c71_2_eq, ↓c71_3_eq, ↓c71_4_eq, ↓c71_5_eq, ↓c71_6_eq, ↓d71_0_0, ↓d71_0_1, ↓d71_0_2, ↓d71_0_3, ↓d71_0_4, ↓d71_0_5, ↓d71_0_6, ↓d71_0_7, ↓d71_0_8, ↓d71_0_9, ↓d71_0_10, ↓d71_0_11, ↓d71_0_12, ↓d71_0_13, ↓d71_0_14, ↓d71_0_15, ↓d71_0_16, ↓d71_0_17, ↓d71_0_18, ↓d71_0_19, ↓d71_0_20, ↓d71_0_21, ↓d71_0_22, ↓d71_0_23, ↓d71_0_24, ↓d71_0_25, ↓d71_0_26, ↓d71_0_27, ↓d71_0_28, dcT, dcF, k0, M.l0, M.l1, M.l2, M.l3, M.l4, M.l8, M.l9, faMM0, faMM1, faMM2, faMM3, faMM4, faMM8, faMM9, ldIntV, vld64, ldSetV, ldB, M.ld, a1, d3, a2, am1, a3, a4, a5, e6, M1.l9, ls, M1.l3, d9, M1.l8, lb, d10, M1.l4, a7, nm_mods, List.append_nil, List.nil_append, ↓ret71, ↓cnd_true, ↓cnd_false, ↓Option.bind_some, ↓obH_some', bin_add, bin_sub, bin_mul, bin_lss, bin_leq, bin_gtr, bin_geq, bin_eql, bin_neq, un_not, un_neg, Option.bind_some, Option.bind_none, Option.map_some, cnd_true, cnd_false, pickV_true, pickV_false, gd_true, gd_false, gdV_true, gdV_false, gdH_true, gdH_false, gdS_true, gdS_false, wt_ff, wt_tt, wt_ft, wt_tf, wt_undef, obH_some', extractV_tuple, nilCheckV_ptr, againK_normal, againK_exit, againK_ret, blockK_normal, blockK_same, blockK_ret, seqK_normal, seqK_exit, seqK_ret, fin_done, if_true', if_false', Bool.not_true, Bool.not_false, idx0, idx1, idx2, idx3, idx4, chk_nil_l, chk_nil_r, done_nm]
      exact ⟨_, rfl, done_ext' i1⟩
    · rw [decide_eq_false c10] at d10 ⊢
      rw [Bool.false_and]
      simp -implicitDefEqProofs (maxSteps := 1000000) (disch := omega) only [↓c71_1_eq, ↓c71_2_eq, ↓c71_3_eq, ↓c71_4_eq, ↓c71_5_eq, ↓c71_6_eq, ↓d71_0_0, ↓d71_0_1, ↓d71_0_2, ↓d71_0_3, ↓d71_0_4, ↓d71_0_5, ↓d71_0_6, ↓d71_0_7, ↓d71_0_8, ↓d71_0_9, ↓d71_0_10, ↓d71_0_11, ↓d71_0_12, ↓d71_0_13, ↓d71_0_14, ↓d71_0_15, ↓d71_0_16, ↓d71_0_17, ↓d71_0_18, ↓d71_0_19, ↓d71_0_20, ↓d71_0_21, ↓d71_0_22, ↓d71_0_23, ↓d71_0_24, ↓d71_0_25, ↓d71_0_26, ↓d71_0_27, ↓d71_0_28, dcT, dcF, k0, M.l0, M.l1, M.l2, M.l3, M.l4, M.l8, M.l9, faMM0, faMM1, faMM2, faMM3, faMM4, faMM8, faMM9, ldIntV, vld64, ldSetV, ldB, M.ld, a1, d3, a2, am1, a3, a4, a5, e6, M1.l9, ls, M1.l3, d9, M1.l8, lb, d10, nm_mods, List.append_nil, List.nil_append, ↓ret71, ↓cnd_true, ↓cnd_false, ↓Option.bind_some, ↓obH_some', bin_add, bin_sub, bin_mul, bin_lss, bin_leq, bin_gtr, bin_geq, bin_eql, bin_neq, un_not, un_neg, Option.bind_some, Option.bind_none, Option.map_some, cnd_true, cnd_false, pickV_true, pickV_false, gd_true, gd_false, gdV_true, gdV_false, gdH_true, gdH_false, gdS_true, gdS_false, wt_ff, wt_tt, wt_ft, wt_tf, wt_undef, obH_some', extractV_tuple, nilCheckV_ptr, againK_normal, againK_exit, againK_ret, blockK_normal, blockK_same, blockK_ret, seqK_normal, seqK_exit, seqK_ret, fin_done, if_true', if_false', Bool.not_true, Bool.not_false, idx0, idx1, idx2, idx3, idx4, chk_nil_l, chk_nil_r, done_nm]
      exact ⟨_, rfl, done_ext' i1⟩
end Go.Am
namespace Go.Am
open Go.Proofs
set_option maxRecDepth 100000
set_option linter.all false
attribute [local congr] obind_congr obH_congr cnd_congr chk_congr retK_congr codeK_congr
def encV (m : MT) : List UInt8 := if m.kind = 1 ∨ m.kind = 3 then beT (keyF m.val) 8 ++ putL (m.wr + 1).toNat ++ putL m.tag else []
def encB (m : MT) : List UInt8 := if m.kind = 0 then putL m.body.length ++ m.body else putL m.var.toNat
def encH (m : MT) : List UInt8 := putL m.frm.toNat ++ putL m.num ++ putL m.to ++ putL m.kind.toNat
def encM (m : MT) : List UInt8 := encH m ++ encB m ++ encV m ++ (putL m.stamp.length ++ m.stamp)
def putM (m : MT) : List UInt8 := if goodMsg m = true then encM m else []
structure GoodF (m : MT) : Prop where
  f0 : 0 ≤ m.frm
  f1 : m.frm ≤ 15
  num : 1 ≤ m.num
  to0 : m.to ≠ 0
  to : m.to ≤ 65535
  nh : hasB m.to m.frm = false
  k0 : 0 ≤ m.kind
  k3 : m.kind ≤ 3
  tg : taggedB m = true
  st : m.stamp.length ≤ 20000
  k : if m.kind = 0 then m.body.length ≤ 256 ∧ m.var = 0 else m.body.length = 0 ∧ 0 ≤ m.var ∧ m.var ≤ 15
theorem goodF {m : MT} : goodMsg m = true ↔ GoodF m := by
  unfold goodMsg
  constructor
  · intro h
    simp only [Bool.and_eq_true, decide_eq_true_eq, Bool.not_eq_true'] at h
    obtain ⟨h1, h2, h3, h4, h5, h6, h7, h8, h9⟩ := h
    refine ⟨h1.1, h1.2, h2, h3, h4, h5, h6.1, h6.2, h7, h8, ?_⟩
    split at h9
    · rename_i c; rw [if_pos c]; simpa using h9
    · rename_i c; rw [if_neg c]; simpa using h9
  · intro ⟨f0, f1, num, to0, to, nh, k0, k3, tg, st, k⟩
    simp only [Bool.and_eq_true, decide_eq_true_eq, Bool.not_eq_true']
    refine ⟨⟨f0, f1⟩, num, to0, to, nh, ⟨k0, k3⟩, tg, st, ?_⟩
    split
    · rename_i c; rw [if_pos c] at k; simpa using k
    · rename_i c; rw [if_neg c] at k; simpa using k
theorem GoodF.wr {m : MT} (g : GoodF m) : -1 ≤ m.wr ∧ m.wr ≤ 15 := by
  have := g.tg
  unfold taggedB at this
  have h0 := g.f0
  have h1 := g.f1
  split at this
  · simp only [Bool.and_eq_true, decide_eq_true_eq] at this; omega
  · split at this
    · simp only [Bool.and_eq_true, decide_eq_true_eq] at this; exact this.1
    · simp only [Bool.and_eq_true, decide_eq_true_eq] at this; omega
theorem GoodF.body {m : MT} (g : GoodF m) : m.body.length ≤ 256 := by
  have := g.k
  split at this <;> omega
variable {h0 h h' : Heap} {p1 p : Nat} {m : MT} {bv sv : Value} {bs : List UInt8}
theorem MC.mod {T : TypeId} {N : Nat} (x : MC T h p m bv sv) {S : Nat → Prop} (e : HMod S h h') (h1 : ¬ S p) (lb : Lo bv N) (ls : Lo sv N) (hS : ∀ b, b < N → ¬ S b) : MC T h' p m bv sv :=
  ⟨x.c.mod e h1, x.b.mod e fun b hb => hS b (lb b hb), x.s.mod e fun b hb => hS b (ls b hb)⟩
structure PS (h0 h : Heap) (p1 p : Nat) (m : MT) (bv sv : Value) (bs : List UInt8) : Prop where
  M : MC 104 h p1 m bv sv
  w : Wr h0.blks.length h p bs
  hin : In h0.blks.length No (nm h0) h
  lb : Lo bv h0.blks.length
  ls : Lo sv h0.blks.length
  h1 : h0.blks.length ≤ p1
  h2 : p1 < p
  own : ∀ v, Wrv 146 h p v bs → blockOf v ≠ some p1
theorem PS.next (x : PS h0 h p1 p m bv sv bs) {bs' : List UInt8} (e : HMod (Just p) h h') (w : Wr h.blks.length h' p bs') : PS h0 h' p1 p m bv sv bs' := by
  have hl : h0.blks.length ≤ h.blks.length := x.hin.len
  have := x.h1
  have := x.h2
  have lt1 := x.M.c.lt
  refine ⟨x.M.mod e (fun e => by have : p1 = p := e; omega) x.lb x.ls fun b hb e => (by have : b = p := e; omega), w.up hl, x.hin.trans (e.inn hl fun b hb e => by have : b = p := e; omega), x.lb, x.ls, x.h1, x.h2, fun v wv hv => ?_⟩
  obtain ⟨v', w', hv'⟩ := w.v
  obtain rfl : v = v' := by
    have a := wv.1; have b := w'.1
    unfold Cells at a b
    rw [a] at b
    simpa using b
  have := hv' _ hv
  omega
theorem PS.num (x : PS h0 h p1 p m bv sv bs) (n : Nat) (hn : n < 2 ^ 64) (hl : bs.length < 2 ^ 39) : ∃ h', evC Try.prog 43 #[.pointer (some ⟨p, 0, none⟩), .int .u64 n] h = some (.tuple #[], h') ∧ PS h0 h' p1 p m bv sv (bs ++ putL n) := by
  obtain ⟨h', e, k, w⟩ := spec_WNum x.w x.hin.len n hn hl
  exact ⟨h', e, x.next k w⟩
theorem PS.set (x : PS h0 h p1 p m bv sv bs) (n : Nat) (hn : n < 2 ^ 64) (hl : bs.length < 2 ^ 39) : ∃ h', evC Try.prog 59 #[.pointer (some ⟨p, 0, none⟩), .int .u64 n] h = some (.tuple #[], h') ∧ PS h0 h' p1 p m bv sv (bs ++ putL n) := by
  obtain ⟨h', e, k, w⟩ := spec_WSet x.w x.hin.len n hn hl
  exact ⟨h', e, x.next k w⟩
theorem PS.bytes (x : PS h0 h p1 p m bv sv bs) {y : Value} {cs : List UInt8} (sy : SB h y cs) (ly : Lo y h0.blks.length) (hl : bs.length < 2 ^ 39) (hl2 : cs.length < 2 ^ 39) : ∃ h', evC Try.prog 61 #[.pointer (some ⟨p, 0, none⟩), y] h = some (.tuple #[], h') ∧ PS h0 h' p1 p m bv sv (bs ++ putL cs.length ++ cs) := by
  obtain ⟨h', e, k, w⟩ := spec_WBytes x.w x.hin.len sy (fun hy => by have := ly _ hy; have := x.h1; have := x.h2; omega) hl hl2
  exact ⟨h', e, x.next k w⟩
theorem PS.float (x : PS h0 h p1 p m bv sv bs) (n : Nat) (hn : n < 2 ^ 64) (hl : bs.length < 2 ^ 39) : ∃ h', evC Try.prog 57 #[.pointer (some ⟨p, 0, none⟩), .float .f64 n] h = some (.tuple #[], h') ∧ PS h0 h' p1 p m bv sv (bs ++ beT (keyF n) 8) := by
  obtain ⟨v, wv, hv⟩ := x.w.v
  obtain ⟨v', h', e, k, w, hn'⟩ := spec_WFloat wv n hn hl
  have hl0 : h0.blks.length ≤ h.blks.length := x.hin.len
  have := x.h1
  have := x.h2
  have lt1 := x.M.c.lt
  have tS : ∀ b, Turn p v b → h0.blks.length ≤ b ∧ b ≠ p1 := fun b hb => by
    rcases hb with hb | hb
    · have : b = p := hb
      omega
    · exact ⟨hv b hb, fun e => x.own v wv (by rw [hb, e])⟩
  refine ⟨h', e, x.M.mod k (fun e => (tS _ e).2 rfl) x.lb x.ls fun b hb e => (by have := (tS _ e).1; omega), w.w fun b hb => (by have := hn' b hb; omega), x.hin.trans (k.inn hl0 fun b hb e => by have := (tS _ e).1; omega), x.lb, x.ls, x.h1, x.h2, fun u wu hu => ?_⟩
  obtain rfl : u = v' := by
    have a := wu.1; have b := w.1
    unfold Cells at a b
    rw [a] at b
    simpa using b
  have := hn' _ hu
  omega
theorem put2 (x : PS h0 h p1 p m bv sv bs) (hl : bs.length < 2 ^ 38) (hs : m.stamp.length < 2 ^ 38) : ∀ (x0 x2 x4 x5 x6 x7 x8 x9 x10 x11 x12 x13 x14 x15 x16 x17 x18 x19 x20 x21 x22 x23 x24 x25 x26 x27 x28 x29 x30 x31 x32 x33 x34 x35 x36 x37 x38 x39 x40 x41 x42 x43 x44 x45 x46 x47 x48 x49 x50 x51 x52 x53 x54 x55 x56 x57 x58 x59 x60 : Value),
    ∃ a c h', codeK Try.prog (evC Try.prog) loopL c66_2 ⟨#[x0, .pointer (some ⟨p1, 0, none⟩), x2, .pointer (some ⟨p, 0, none⟩), x4, x5, x6, x7, x8, x9, x10, x11, x12, x13, x14, x15, x16, x17, x18, x19, x20, x21, x22, x23, x24, x25, x26, x27, x28, x29, x30, x31, x32, x33, x34, x35, x36, x37, x38, x39, x40, x41, x42, x43, x44, x45, x46, x47, x48, x49, x50, x51, x52, x53, x54, x55, x56, x57, x58, x59, x60], h⟩ (retK Try.f66 Try.prog h0) =
      some (.slice a (bs ++ (putL m.stamp.length ++ m.stamp)).length c, h') ∧ HExt h0 h' ∧ AB h0.blks.length h' (.slice a (bs ++ (putL m.stamp.length ++ m.stamp)).length c) (bs ++ (putL m.stamp.length ++ m.stamp)) := by
  intro x0 x2 x4 x5 x6 x7 x8 x9 x10 x11 x12 x13 x14 x15 x16 x17 x18 x19 x20 x21 x22 x23 x24 x25 x26 x27 x28 x29 x30 x31 x32 x33 x34 x35 x36 x37 x38 x39 x40 x41 x42 x43 x44 x45 x46 x47 x48 x49 x50 x51 x52 x53 x54 x55 x56 x57 x58 x59 x60
  rw [c66_2_eq]
  obtain ⟨h2, e2, x2⟩ := x.bytes x.M.s x.ls (by omega) (by omega)
  have hz := putL_len m.stamp.length
  have hs' := sizeN_le m.stamp.length 10 (by omega) (by omega)
  obtain ⟨a, c, h3, e3, k3, s3⟩ := spec_WDone x2.w (by simp; omega)
  rw [List.append_assoc] at e3 s3
  simp -implicitDefEqProofs (disch := omega) only [faMM9, ldB, x.M.l9, e2, e3, ↓ret66, ↓cnd_true, ↓cnd_false, ↓Option.bind_some, ↓obH_some', bin_add, bin_sub, bin_mul, bin_lss, bin_leq, bin_gtr, bin_geq, bin_eql, bin_neq, un_not, un_neg, Option.bind_some, Option.bind_none, Option.map_some, cnd_true, cnd_false, pickV_true, pickV_false, gd_true, gd_false, gdV_true, gdV_false, gdH_true, gdH_false, gdS_true, gdS_false, wt_ff, wt_tt, wt_ft, wt_tf, wt_undef, obH_some', extractV_tuple, nilCheckV_ptr, againK_normal, againK_exit, againK_ret, blockK_normal, blockK_same, blockK_ret, seqK_normal, seqK_exit, seqK_ret, fin_done, if_true', if_false', Bool.not_true, Bool.not_false, idx0, idx1, idx2, idx3, idx4, chk_nil_l, chk_nil_r, done_nm]
  exact ⟨_, _, _, rfl, done_ext' (x2.hin.trans (k3.inn x2.hin.len)), (s3.up x2.hin.len).done⟩
theorem encV_len (m : MT) (ok : MTok m) (g : GoodF m) : (encV m).length ≤ 40 := by
  unfold encV
  split
  · have h1 := sizeN_le (m.wr + 1).toNat 10 (by have := g.wr; omega) (by have := g.wr; omega)
    have h2 := sizeN_le m.tag 10 (by have := ok.tag; omega) (by have := ok.tag; omega)
    have h3 := putL_len (m.wr + 1).toNat
    have h4 := putL_len m.tag
    simp only [List.length_append, beT_len]; omega
  · simp
theorem put1 (x : PS h0 h p1 p m bv sv bs) (ok : MTok m) (g : GoodF m) (hl : bs.length < 2 ^ 37) : ∀ (x0 x2 x4 x5 x6 x7 x8 x9 x10 x11 x12 x13 x14 x15 x16 x17 x18 x19 x20 x21 x22 x23 x24 x25 x26 x27 x28 x29 x30 x31 x32 x33 x34 x35 x36 x37 x38 x39 x40 x41 x42 x43 x44 x45 x46 x47 x48 x49 x50 x51 x52 x53 x54 x55 x56 x57 x58 x59 x60 : Value),
    ∃ a c h', codeK Try.prog (evC Try.prog) loopL c66_1 ⟨#[x0, .pointer (some ⟨p1, 0, none⟩), x2, .pointer (some ⟨p, 0, none⟩), x4, x5, x6, x7, x8, x9, x10, x11, x12, x13, x14, x15, x16, x17, x18, x19, x20, x21, x22, x23, x24, x25, x26, x27, x28, x29, x30, x31, x32, x33, x34, x35, x36, x37, x38, x39, x40, x41, x42, x43, x44, x45, x46, x47, x48, x49, x50, x51, x52, x53, x54, x55, x56, x57, x58, x59, x60], h⟩ (retK Try.f66 Try.prog h0) =
      some (.slice a (bs ++ encV m ++ (putL m.stamp.length ++ m.stamp)).length c, h') ∧ HExt h0 h' ∧ AB h0.blks.length h' (.slice a (bs ++ encV m ++ (putL m.stamp.length ++ m.stamp)).length c) (bs ++ encV m ++ (putL m.stamp.length ++ m.stamp)) := by
  intro x0 x2 x4 x5 x6 x7 x8 x9 x10 x11 x12 x13 x14 x15 x16 x17 x18 x19 x20 x21 x22 x23 x24 x25 x26 x27 x28 x29 x30 x31 x32 x33 x34 x35 x36 x37 x38 x39 x40 x41 x42 x43 x44 x45 x46 x47 x48 x49 x50 x51 x52 x53 x54 x55 x56 x57 x58 x59 x60
  rw [c66_1_eq]
  have ev := fun h => spec_valued m.kind h
  have hel := encV_len m ok g
  have hw := g.wr
  by_cases c : m.kind = 1 ∨ m.kind = 3
  · rw [decide_eq_true c] at ev
    unfold encV at hel ⊢
    rw [if_pos c] at hel ⊢
    obtain ⟨h2, e2, x2⟩ := x.float m.val ok.val (by omega)
    have l2 : (bs ++ beT (keyF m.val) 8).length < 2 ^ 39 := by rw [List.length_append, beT_len]; omega
    have hwr : IntKind.wrap .i64 (m.wr + 1) = (((m.wr + 1).toNat : Nat) : Int) := by rw [wrap_i64] <;> omega
    have cv := fun h => cvI64 (((m.wr + 1).toNat : Nat) : Int) h (by omega) (by omega)
    obtain ⟨h3, e3, x3⟩ := x2.num (m.wr + 1).toNat (by omega) l2
    have h1 := sizeN_le (m.wr + 1).toNat 10 (by omega) (by omega)
    have h4 := putL_len (m.wr + 1).toNat
    obtain ⟨h5, e5, x5⟩ := x3.num m.tag ok.tag (by simp only [List.length_append] at hel ⊢; omega)
    have main := put2 x5 (by simp only [List.length_append] at hel ⊢; omega) ok.stamp
    rw [show bs ++ beT (keyF m.val) 8 ++ putL (m.wr + 1).toNat ++ putL m.tag = bs ++ (beT (keyF m.val) 8 ++ putL (m.wr + 1).toNat ++ putL m.tag) by simp] at main
    simp -implicitDefEqProofs (disch := omega) only [faMM3, faMM5, faMM6, faMM7, ldIntV, ldFlV, vld64, x.M.l3, ev, x.M.l5, e2, x2.M.l6, hwr, cv, e3, x3.M.l7, e5, ↓cnd_true, ↓cnd_false, ↓Option.bind_some, ↓obH_some', bin_add, bin_sub, bin_mul, bin_lss, bin_leq, bin_gtr, bin_geq, bin_eql, bin_neq, un_not, un_neg, Option.bind_some, Option.bind_none, Option.map_some, cnd_true, cnd_false, pickV_true, pickV_false, gd_true, gd_false, gdV_true, gdV_false, gdH_true, gdH_false, gdS_true, gdS_false, wt_ff, wt_tt, wt_ft, wt_tf, wt_undef, obH_some', extractV_tuple, nilCheckV_ptr, againK_normal, againK_exit, againK_ret, blockK_normal, blockK_same, blockK_ret, seqK_normal, seqK_exit, seqK_ret, fin_done, if_true', if_false', Bool.not_true, Bool.not_false, idx0, idx1, idx2, idx3, idx4, chk_nil_l, chk_nil_r, done_nm]
    exact main _ _ _ _ _ _ _ _ _ _ _ _ _ _ _ _ _ _ _ _ _ _ _ _ _ _ _ _ _ _ _ _ _ _ _ _ _ _ _ _ _ _ _ _ _ _ _ _ _ _ _ _ _ _ _ _ _ _ _
  · rw [decide_eq_false c] at ev
    unfold encV
    rw [if_neg c, List.append_nil]
    have main := put2 x (by omega) ok.stamp
    simp -implicitDefEqProofs (disch := omega) only [faMM3, ldIntV, x.M.l3, ev, ↓cnd_true, ↓cnd_false, ↓Option.bind_some, ↓obH_some', bin_add, bin_sub, bin_mul, bin_lss, bin_leq, bin_gtr, bin_geq, bin_eql, bin_neq, un_not, un_neg, Option.bind_some, Option.bind_none, Option.map_some, cnd_true, cnd_false, pickV_true, pickV_false, gd_true, gd_false, gdV_true, gdV_false, gdH_true, gdH_false, gdS_true, gdS_false, wt_ff, wt_tt, wt_ft, wt_tf, wt_undef, obH_some', extractV_tuple, nilCheckV_ptr, againK_normal, againK_exit, againK_ret, blockK_normal, blockK_same, blockK_ret, seqK_normal, seqK_exit, seqK_ret, fin_done, if_true', if_false', Bool.not_true, Bool.not_false, idx0, idx1, idx2, idx3, idx4, chk_nil_l, chk_nil_r, done_nm]
    exact main _ _ _ _ _ _ _ _ _ _ _ _ _ _ _ _ _ _ _ _ _ _ _ _ _ _ _ _ _ _ _ _ _ _ _ _ _ _ _ _ _ _ _ _ _ _ _ _ _ _ _ _ _ _ _ _ _ _ _
theorem spec_PutM (hb : SB h bv m.body) (hs : SB h sv m.stamp) (ok : MTok m) :
    ∃ a c h', evC Try.prog 66 #[msgA m bv sv] h = some (.slice a (putM m).length c, h') ∧ HExt h h' ∧ AB h.blks.length h' (.slice a (putM m).length c) (putM m) := by
  rw [call66, c66_0_eq]
  have M := MC.new (h := nm h) 104 hb.nm hs.nm
  have i0 : In h.blks.length No (nm h) _ := In.new (by simp) (.cells (msgL m bv sv)) 104
  have k0 := bxMM (.int .i64 m.frm) (.int .u64 m.num) (.int .u64 m.to) (.int .i64 m.kind) (.int .i64 m.var) (.float .f64 m.val) (.int .i64 m.wr) (.int .u64 m.tag) bv sv (nm h)
  have bl : (nm h).blks.length = h.blks.length := rfl
  rw [bl] at M k0
  generalize (nm h).new (.cells (msgL m bv sv)) 104 = g0 at *
  obtain ⟨g1, e1, x1⟩ := spec_GoodM M.b M.s ok
  have M1 := M.ext x1
  have i1 := i0.trans (x1.inn i0.len)
  unfold putM
  cases hg : goodMsg m with
  | false =>
    rw [hg] at e1
    simp -implicitDefEqProofs (disch := omega) only [k0, M.ld, e1, ↓ret66, ↓cnd_true, ↓cnd_false, ↓Option.bind_some, ↓obH_some', bin_add, bin_sub, bin_mul, bin_lss, bin_leq, bin_gtr, bin_geq, bin_eql, bin_neq, un_not, un_neg, Option.bind_some, Option.bind_none, Option.map_some, cnd_true, cnd_false, pickV_true, pickV_false, gd_true, gd_false, gdV_true, gdV_false, gdH_true, gdH_false, gdS_true, gdS_false, wt_ff, wt_tt, wt_ft, wt_tf, wt_undef, obH_some', extractV_tuple, nilCheckV_ptr, againK_normal, againK_exit, againK_ret, blockK_normal, blockK_same, blockK_ret, seqK_normal, seqK_exit, seqK_ret, fin_done, if_true', if_false', Bool.not_true, Bool.not_false, idx0, idx1, idx2, idx3, idx4, chk_nil_l, chk_nil_r, done_nm]
    exact ⟨_, _, _, rfl, done_ext' i1, .nil⟩
  | true =>
    rw [hg] at e1
    have g := goodF.1 hg
    obtain ⟨g2, e2, x2, w2, l2⟩ := spec_NewWriter g1
    have lM := M1.c.lt
    have P2 : PS h g2 h.blks.length g1.blks.length m bv sv [] := ⟨M1.ext x2, w2.up i1.len, i1.trans (x2.inn i1.len), hb.lo, hs.lo, Nat.le_refl _, lM, fun v wv hv => by
      obtain ⟨v', w', hv'⟩ := w2.v
      obtain rfl : v = v' := by
        have a := wv.1; have b := w'.1
        unfold Cells at a b
        rw [a] at b
        simpa using b
      have := hv' _ hv
      omega⟩
    have f0 := g.f0
    have f1 := g.f1
    have q0 := g.k0
    have q3 := g.k3
    have cf : ∀ h, convV Try.prog 3 46 (.int .i64 m.frm) h = some (.int .u64 ((m.frm.toNat : Nat) : Int), h) := fun h => by rw [show ((m.frm.toNat : Nat) : Int) = m.frm by omega]; exact cvI64 m.frm h (by omega) (by omega)
    have ck : ∀ h, convV Try.prog 3 46 (.int .i64 m.kind) h = some (.int .u64 ((m.kind.toNat : Nat) : Int), h) := fun h => by rw [show ((m.kind.toNat : Nat) : Int) = m.kind by omega]; exact cvI64 m.kind h (by omega) (by omega)
    have s1 := sizeN_le m.frm.toNat 10 (by omega) (by omega)
    have s2 := sizeN_le m.num 10 (by have := ok.num; omega) (by have := ok.num; omega)
    have s3 := sizeN_le m.to 10 (by have := ok.to; omega) (by have := ok.to; omega)
    have s4 := sizeN_le m.kind.toNat 10 (by omega) (by omega)
    have p1 := putL_len m.frm.toNat
    have p2 := putL_len m.num
    have p3 := putL_len m.to
    have p4 := putL_len m.kind.toNat
    obtain ⟨g3, e3, P3⟩ := P2.num m.frm.toNat (by omega) (by simp)
    rw [List.nil_append] at P3
    obtain ⟨g4, e4, P4⟩ := P3.num m.num ok.num (by omega)
    obtain ⟨g5, e5, P5⟩ := P4.set m.to ok.to (by rw [List.length_append]; omega)
    obtain ⟨g6, e6, P6⟩ := P5.num m.kind.toNat (by omega) (by simp only [List.length_append]; omega)
    rw [show putL m.frm.toNat ++ putL m.num ++ putL m.to ++ putL m.kind.toNat = encH m from rfl] at P6
    have lH : (encH m).length ≤ 40 := by unfold encH; simp only [List.length_append]; omega
    unfold encM encB
    by_cases c : m.kind = 0
    · have d : decide (m.kind = 0) = true := decide_eq_true c
      have gb := g.body
      obtain ⟨g7, e7, P7⟩ := P6.bytes P6.M.b P6.lb (by omega) (by omega)
      have s5 := sizeN_le m.body.length 10 (by omega) (by omega)
      have p5 := putL_len m.body.length
      have main := put1 P7 ok g (by simp only [List.length_append]; omega)
      rw [List.append_assoc (encH m)] at main
      simp only [if_pos c, if_true]
      simp -implicitDefEqProofs (disch := omega) only [k0, M.ld, e1, e2, faMM0, faMM1, faMM2, faMM3, faMM8, ldIntV, vld64, ldSetV, ldB, P2.M.l0, cf, e3, P3.M.l1, e4, P4.M.l2, e5, P5.M.l3, ck, e6, P6.M.l3, d, P6.M.l8, e7, ↓cnd_true, ↓cnd_false, ↓Option.bind_some, ↓obH_some', bin_add, bin_sub, bin_mul, bin_lss, bin_leq, bin_gtr, bin_geq, bin_eql, bin_neq, un_not, un_neg, Option.bind_some, Option.bind_none, Option.map_some, cnd_true, cnd_false, pickV_true, pickV_false, gd_true, gd_false, gdV_true, gdV_false, gdH_true, gdH_false, gdS_true, gdS_false, wt_ff, wt_tt, wt_ft, wt_tf, wt_undef, obH_some', extractV_tuple, nilCheckV_ptr, againK_normal, againK_exit, againK_ret, blockK_normal, blockK_same, blockK_ret, seqK_normal, seqK_exit, seqK_ret, fin_done, if_true', if_false', Bool.not_true, Bool.not_false, idx0, idx1, idx2, idx3, idx4, chk_nil_l, chk_nil_r, done_nm]
      exact main _ _ _ _ _ _ _ _ _ _ _ _ _ _ _ _ _ _ _ _ _ _ _ _ _ _ _ _ _ _ _ _ _ _ _ _ _ _ _ _ _ _ _ _ _ _ _ _ _ _ _ _ _ _ _ _ _ _ _
    · have d : decide (m.kind = 0) = false := decide_eq_false c
      have gk := g.k
      rw [if_neg c] at gk
      have cv : ∀ h, convV Try.prog 3 46 (.int .i64 m.var) h = some (.int .u64 ((m.var.toNat : Nat) : Int), h) := fun h => by rw [show ((m.var.toNat : Nat) : Int) = m.var by omega]; exact cvI64 m.var h (by omega) (by omega)
      obtain ⟨g7, e7, P7⟩ := P6.num m.var.toNat (by omega) (by omega)
      have s5 := sizeN_le m.var.toNat 10 (by omega) (by omega)
      have p5 := putL_len m.var.toNat
      have main := put1 P7 ok g (by simp only [List.length_append]; omega)
      simp only [if_neg c, if_true]
      simp -implicitDefEqProofs (disch := omega) only [k0, M.ld, e1, e2, faMM0, faMM1, faMM2, faMM3, faMM4, ldIntV, vld64, ldSetV, ldB, P2.M.l0, cf, e3, P3.M.l1, e4, P4.M.l2, e5, P5.M.l3, ck, e6, P6.M.l3, d, P6.M.l4, cv, e7, ↓cnd_true, ↓cnd_false, ↓Option.bind_some, ↓obH_some', bin_add, bin_sub, bin_mul, bin_lss, bin_leq, bin_gtr, bin_geq, bin_eql, bin_neq, un_not, un_neg, Option.bind_some, Option.bind_none, Option.map_some, cnd_true, cnd_false, pickV_true, pickV_false, gd_true, gd_false, gdV_true, gdV_false, gdH_true, gdH_false, gdS_true, gdS_false, wt_ff, wt_tt, wt_ft, wt_tf, wt_undef, obH_some', extractV_tuple, nilCheckV_ptr, againK_normal, againK_exit, againK_ret, blockK_normal, blockK_same, blockK_ret, seqK_normal, seqK_exit, seqK_ret, fin_done, if_true', if_false', Bool.not_true, Bool.not_false, idx0, idx1, idx2, idx3, idx4, chk_nil_l, chk_nil_r, done_nm]
      exact main _ _ _ _ _ _ _ _ _ _ _ _ _ _ _ _ _ _ _ _ _ _ _ _ _ _ _ _ _ _ _ _ _ _ _ _ _ _ _ _ _ _ _ _ _ _ _ _ _ _ _ _ _ _ _ _ _ _ _
theorem spec_SizeM (hb : SB h bv m.body) (hs : SB h sv m.stamp) (ok : MTok m) :
    ∃ h', evC Try.prog 73 #[msgA m bv sv] h = some (.int .i64 (putM m).length, h') ∧ HExt h h' := by
  rw [call73, c73_0_eq]
  have M := MC.new (h := nm h) 104 hb.nm hs.nm
  have i0 : In h.blks.length No (nm h) _ := In.new (by simp) (.cells (msgL m bv sv)) 104
  have k0 := bxMM (.int .i64 m.frm) (.int .u64 m.num) (.int .u64 m.to) (.int .i64 m.kind) (.int .i64 m.var) (.float .f64 m.val) (.int .i64 m.wr) (.int .u64 m.tag) bv sv (nm h)
  have bl : (nm h).blks.length = h.blks.length := rfl
  rw [bl] at M k0
  generalize (nm h).new (.cells (msgL m bv sv)) 104 = g0 at *
  obtain ⟨a, c, g1, e1, x1, a1⟩ := spec_PutM M.b M.s ok
  have ln := (a1.sl etB.size).row.len_eq etB.under
  simp -implicitDefEqProofs (disch := omega) only [k0, M.ld, e1, ln, ↓ret73, ↓cnd_true, ↓cnd_false, ↓Option.bind_some, ↓obH_some', bin_add, bin_sub, bin_mul, bin_lss, bin_leq, bin_gtr, bin_geq, bin_eql, bin_neq, un_not, un_neg, Option.bind_some, Option.bind_none, Option.map_some, cnd_true, cnd_false, pickV_true, pickV_false, gd_true, gd_false, gdV_true, gdV_false, gdH_true, gdH_false, gdS_true, gdS_false, wt_ff, wt_tt, wt_ft, wt_tf, wt_undef, obH_some', extractV_tuple, nilCheckV_ptr, againK_normal, againK_exit, againK_ret, blockK_normal, blockK_same, blockK_ret, seqK_normal, seqK_exit, seqK_ret, fin_done, if_true', if_false', Bool.not_true, Bool.not_false, idx0, idx1, idx2, idx3, idx4, chk_nil_l, chk_nil_r, done_nm]
  exact ⟨_, rfl, done_ext' (i0.trans (x1.inn i0.len))⟩
end Go.Am
namespace Go.Am
open Go.Proofs
set_option maxRecDepth 100000
set_option linter.all false
attribute [local congr] obind_congr obH_congr cnd_congr chk_congr retK_congr codeK_congr
def m00 : MT := ⟨0, 0, 0, 0, 0, 0, 0, 0, [], []⟩
abbrev nilSl : Value := .slice none 0 0
def U64M : Nat := 18446744073709551615
def hdR (bs : List UInt8) : MT × Option (List UInt8) :=
  let a := numP (some bs) 16
  let b := numP a.2 U64M
  let c := setP b.2 65535
  let d := numP c.2 3
  (⟨a.1, b.1, c.1, d.1, 0, 0, 0, 0, [], []⟩, d.2)
def bodyR (x : MT × Option (List UInt8)) : MT × Option (List UInt8) :=
  if x.1.kind = 0 then ({ x.1 with body := (bytesP x.2 256).1 }, (bytesP x.2 256).2) else ({ x.1 with var := (numP x.2 16).1 }, (numP x.2 16).2)
def valR (x : MT × Option (List UInt8)) : MT × Option (List UInt8) :=
  if x.1.kind = 1 ∨ x.1.kind = 3 then
    let f := floatP x.2
    let w := numP f.2 16
    let t := numP w.2 U64M
    ({ x.1 with val := f.1, wr := (w.1 : Int) - 1, tag := t.1 }, t.2)
  else x
def stR (x : MT × Option (List UInt8)) : MT × Option (List UInt8) := ({ x.1 with stamp := (bytesP x.2 20000).1 }, (bytesP x.2 20000).2)
def finR (x : MT × Option (List UInt8)) : Option MT := if endP x.2 = true ∧ goodMsg x.1 = true then some x.1 else none
def getM (bs : List UInt8) : Option MT := finR (stR (valR (bodyR (hdR bs))))
def gotV (o : Option MT) : MT := o.getD m00
def gotE (o : Option MT) : Int := if o.isSome = true then 0 else 2
theorem alMM (h : Heap) : allocV Try.prog 104 h = some (.pointer (some ⟨h.blks.length, 0, none⟩), h.new (.cells (msgL m00 nilSl nilSl)) 104) := by kernel_rfl
theorem bdMM0 : buildV Try.prog 104 #[] = some (msgA m00 nilSl nilSl) := by kernel_rfl
theorem bdMM4 (a b c d : Int) : buildV Try.prog 104 #[(0, .int .i64 a), (1, .int .u64 b), (2, .int .u64 c), (3, .int .i64 d)] = some (.agg #[.int .i64 a, .int .u64 b, .int .u64 c, .int .i64 d, .int .i64 0, .float .f64 0, .int .i64 0, .int .u64 0, .slice none 0 0, .slice none 0 0]) := by kernel_rfl
theorem stMM (p : Nat) (a b c d e g t : Int) (f : Nat) (x y : Option Addr) (l k l2 k2 : Nat) (h : Heap) : storeV Try.prog 104 (.pointer (some ⟨p, 0, none⟩)) (.agg #[.int .i64 a, .int .u64 b, .int .u64 c, .int .i64 d, .int .i64 e, .float .f64 f, .int .i64 g, .int .u64 t, .slice x l k, .slice y l2 k2]) h = h.storeN p 0 [.int .i64 a, .int .u64 b, .int .u64 c, .int .i64 d, .int .i64 e, .float .f64 f, .int .i64 g, .int .u64 t, .slice x l k, .slice y l2 k2] := by kernel_rfl
theorem smI (p o : Nat) (k : IntKind) (n : Int) (h : Heap) : storeV Try.prog 3 (.pointer (some ⟨p, o, none⟩)) (.int k n) h = h.storeN p o [.int k n] := by kernel_rfl
theorem smF (p o : Nat) (n : Nat) (h : Heap) : storeV Try.prog 84 (.pointer (some ⟨p, o, none⟩)) (.float .f64 n) h = h.storeN p o [.float .f64 n] := by kernel_rfl
theorem smB (p o : Nat) (a : Option Addr) (n c : Nat) (h : Heap) : storeV Try.prog 23 (.pointer (some ⟨p, o, none⟩)) (.slice a n c) h = h.storeN p o [.slice a n c] := by kernel_rfl
variable {h0 h h' : Heap} {p2 p5 rp : Nat} {m m' : MT} {bv sv : Value} {r r' : Option (List UInt8)}
theorem AB.kpC {n0 : Nat} {h h' : Heap} {v : Value} {bs : List UInt8} (a : AB n0 h v bs) {p : Nat} {T : TypeId} {cs : List Value} (c : Cells h p T cs) (hT : T ≠ 5) (k : ∀ b, b < h.blks.length → b ≠ p → h'.blks[b]? = h.blks[b]?) : AB n0 h' v bs :=
  a.keep fun b hb hv => k b hb fun e => by
    subst e
    obtain ⟨all, h1⟩ := a.blk hv
    unfold Cells at c
    rw [c] at h1
    simp only [Option.some.injEq, Blk.mk.injEq] at h1
    exact hT h1.2.1
structure GS (h0 h : Heap) (p2 p5 rp : Nat) (m : MT) (bv sv : Value) (r : Option (List UInt8)) : Prop where
  c : Cells h p5 104 (msgL m bv sv)
  b : AB h0.blks.length h bv m.body
  s : AB h0.blks.length h sv m.stamp
  c2 : Cells h p2 104 (msgL m00 nilSl nilSl)
  w : Rdr h rp r
  hin : In h0.blks.length No (nm h0) h
  h2 : h0.blks.length ≤ p2
  h25 : p2 < rp
  hr5 : rp < p5
  ok : MTok m
  rl : (rbs r).length < 2 ^ 38
theorem GS.next (x : GS h0 h p2 p5 rp m bv sv r) (e : HMod (Just rp) h h') (w : Rdr h' rp r') (hr : (rbs r').length ≤ (rbs r).length) : GS h0 h' p2 p5 rp m bv sv r' := by
  have hl : h0.blks.length ≤ h.blks.length := x.hin.len
  have := x.h2
  have := x.h25
  have := x.hr5
  have lt := x.c.lt
  obtain ⟨cs, hc⟩ : ∃ cs, Cells h rp 150 cs := let ⟨_, _, c, _⟩ := x.w; ⟨_, c⟩
  exact ⟨x.c.mod e (fun e => by have : p5 = rp := e; omega), x.b.kpC hc (by decide) fun b hb hne => e.old b hb hne, x.s.kpC hc (by decide) fun b hb hne => e.old b hb hne, x.c2.mod e (fun e => by have : p2 = rp := e; omega), w, x.hin.trans (e.inn hl fun b hb e => by have : b = rp := e; omega), x.h2, x.h25, x.hr5, x.ok, Nat.lt_of_le_of_lt hr x.rl⟩
theorem GS.set (x : GS h0 h p2 p5 rp m bv sv r) (k : Nat) (v : Value) {m' : MT} {bv' sv' : Value} (hk : k + 1 ≤ 10) (he : List.take k (msgL m bv sv) ++ [v] ++ List.drop (k + [v].length) (msgL m bv sv) = msgL m' bv' sv') (hb : AB h0.blks.length h bv' m'.body) (hs : AB h0.blks.length h sv' m'.stamp) (ok : MTok m') :
    ∃ h', h.storeN p5 k [v] = some h' ∧ GS h0 h' p2 p5 rp m' bv' sv' r := by
  have st := storeN_blk x.c (o := k) (vs := [v]) (by simpa using hk)
  rw [he] at st
  have hl : h0.blks.length ≤ h.blks.length := x.hin.len
  have := x.h2
  have := x.h25
  have := x.hr5
  exact ⟨_, st, x.c.put _, hb.kpC x.c (by decide) fun b hb hne => Heap.put_other hne _, hs.kpC x.c (by decide) fun b hb hne => Heap.put_other hne _, x.c2.keepPut (by omega) _, x.w.keepPut x.hr5 _, x.hin.trans (In.put hl (.inl (by omega)) _), x.h2, x.h25, x.hr5, ok, x.rl⟩
theorem GS.l3 (x : GS h0 h p2 p5 rp m bv sv r) : h.load1 p5 3 = some (.int .i64 m.kind) := by rw [x.c.load]; rfl
theorem GS.num (x : GS h0 h p2 p5 rp m bv sv r) (most : Nat) (hm : most < 2 ^ 64) : ∃ h', evC Try.prog 46 #[.pointer (some ⟨rp, 0, none⟩), .int .u64 most] h = some (.int .u64 (numP r most).1, h') ∧ GS h0 h' p2 p5 rp m bv sv (numP r most).2 := by
  obtain ⟨h', e, k, w⟩ := spec_RNum x.w most hm (by have := x.rl; omega)
  exact ⟨h', e, x.next k w (numP_le r most).2.2.1⟩
theorem bytesP_le (r : Option (List UInt8)) (k : Nat) : (rbs (bytesP r k).2).length ≤ (rbs r).length ∧ (bytesP r k).1.length ≤ (rbs r).length := by
  have h1 := (numP_le r k).2.2.1
  unfold bytesP
  cases h : (numP r k).2 with
  | none => simp [takeP, rbs]
  | some bs =>
    rw [h] at h1
    simp only [takeP]
    split
    · simp [rbs]
    · simp only [rbs, Option.getD_some, List.length_drop, List.length_take] at h1 ⊢; omega
theorem get3 (x : GS h0 h p2 p5 rp m bv sv r) : ∀ (x0 x1 x3 x6 x7 x8 x9 x10 x11 x12 x13 x14 x15 x16 x17 x18 x19 x20 x21 x22 x23 x24 x25 x26 x27 x28 x29 x30 x31 x32 x33 x34 x35 x36 x37 x38 x39 x40 x41 x42 x43 x44 x45 x46 x47 x48 x49 x50 x51 x52 x53 x54 x55 x56 : Value),
    ∃ bv' sv' h', codeK Try.prog (evC Try.prog) loopL c69_2 ⟨#[x0, x1, .pointer (some ⟨p2, 0, none⟩), x3, .pointer (some ⟨rp, 0, none⟩), .pointer (some ⟨p5, 0, none⟩), x6, x7, x8, x9, x10, x11, x12, x13, x14, x15, x16, x17, x18, x19, x20, x21, x22, x23, x24, x25, x26, x27, x28, x29, x30, x31, x32, x33, x34, x35, x36, x37, x38, x39, x40, x41, x42, x43, x44, x45, x46, x47, x48, x49, x50, x51, x52, x53, x54, x55, x56], h⟩ (retK Try.f69 Try.prog h0) =
      some (.tuple #[msgA (gotV (finR (stR (m, r)))) bv' sv', .int .i64 (gotE (finR (stR (m, r))))], h') ∧ HExt h0 h' ∧ AB h0.blks.length h' bv' (gotV (finR (stR (m, r)))).body ∧ AB h0.blks.length h' sv' (gotV (finR (stR (m, r)))).stamp := by
  intro x0 x1 x3 x6 x7 x8 x9 x10 x11 x12 x13 x14 x15 x16 x17 x18 x19 x20 x21 x22 x23 x24 x25 x26 x27 x28 x29 x30 x31 x32 x33 x34 x35 x36 x37 x38 x39 x40 x41 x42 x43 x44 x45 x46 x47 x48 x49 x50 x51 x52 x53 x54 x55 x56
  rw [c69_2_eq]
  have hl : h0.blks.length ≤ h.blks.length := x.hin.len
  have hle := bytesP_le r 20000
  have hrl := x.rl
  obtain ⟨a, c, h2, e2, k2, w2, s2⟩ := spec_RBytes x.w 20000 (by omega) (by omega)
  rw [show (20000 : Int).toNat = 20000 from rfl] at e2 w2 s2
  have x2 := x.next k2 w2 hle.1
  have ok2 : MTok { m with stamp := (bytesP r 20000).1 } := ⟨x.ok.f0, x.ok.f1, x.ok.num, x.ok.to, x.ok.k0, x.ok.k1, x.ok.v0, x.ok.v1, x.ok.val, x.ok.w0, x.ok.w1, x.ok.tag, x.ok.body, by show (bytesP r 20000).1.length < 2 ^ 38; omega⟩
  obtain ⟨h3, e3, x3⟩ := x2.set 9 (.slice a (bytesP r 20000).1.length c) (m' := { m with stamp := (bytesP r 20000).1 }) (by omega) rfl x2.b (s2.up hl) ok2
  have e4 := spec_REnd x3.w
  have ld3 : loadV Try.prog 104 (.pointer (some ⟨p5, 0, none⟩)) h3 = some (msgA { m with stamp := (bytesP r 20000).1 } bv (.slice a (bytesP r 20000).1.length c)) := by rw [ldMM, x3.c.loadN (n := 10) rfl]; rfl
  have e9 : stR (m, r) = ({ m with stamp := (bytesP r 20000).1 }, (bytesP r 20000).2) := rfl
  rw [e9]
  generalize hm' : ({ m with stamp := (bytesP r 20000).1 } : MT) = m' at *
  have hl3 : h0.blks.length ≤ h3.blks.length := x3.hin.len
  have bad : ∀ h4, Same h3 h4 → In h0.blks.length No (nm h0) h4 → finR (m', (bytesP r 20000).2) = none → (h4.storeN p2 0 (msgL m00 nilSl nilSl)) = some (h4.put p2 (.cells (msgL m00 nilSl nilSl))) ∧ Cells (h4.put p2 (.cells (msgL m00 nilSl nilSl))) p2 104 (msgL m00 nilSl nilSl) ∧ In h0.blks.length No (nm h0) (h4.put p2 (.cells (msgL m00 nilSl nilSl))) := fun h4 s4 i4 _ => by
    have c2 := x3.c2.same s4
    exact ⟨storeN_blk c2 (o := 0) (vs := msgL m00 nilSl nilSl) (by simp), c2.put _, i4.trans (In.put i4.len (.inl x3.h2) _)⟩
  cases hE : endP (bytesP r 20000).2 with
  | false =>
    rw [hE] at e4
    have hf : finR (m', (bytesP r 20000).2) = none := by unfold finR; rw [if_neg (by rw [hE]; simp)]
    rw [hf]
    obtain ⟨b1, b2, b3⟩ := bad h3 (Same.refl _) x3.hin hf
    simp -implicitDefEqProofs (disch := omega) only [dcT, dcF, e2, faMM9, smB, e3, e4, bdMM0, stMM, b1, ↓ret69, ↓cnd_true, ↓cnd_false, ↓Option.bind_some, ↓obH_some', bin_add, bin_sub, bin_mul, bin_lss, bin_leq, bin_gtr, bin_geq, bin_eql, bin_neq, un_not, un_neg, Option.bind_some, Option.bind_none, Option.map_some, cnd_true, cnd_false, pickV_true, pickV_false, gd_true, gd_false, gdV_true, gdV_false, gdH_true, gdH_false, gdS_true, gdS_false, wt_ff, wt_tt, wt_ft, wt_tf, wt_undef, obH_some', extractV_tuple, nilCheckV_ptr, againK_normal, againK_exit, againK_ret, blockK_normal, blockK_same, blockK_ret, seqK_normal, seqK_exit, seqK_ret, fin_done, if_true', if_false', Bool.not_true, Bool.not_false, idx0, idx1, idx2, idx3, idx4, chk_nil_l, chk_nil_r, done_nm]
    simp -implicitDefEqProofs only [ldMM, b2.loadN (n := 10) rfl, Option.map_some, Option.bind_some, rvals_two, fin_done]
    exact ⟨_, _, _, rfl, done_ext' b3, .nil, .nil⟩
  | true =>
    rw [hE] at e4
    obtain ⟨h4, e5, k5⟩ := spec_GoodM (x3.b.sl etB.size) (x3.s.sl etB.size) x3.ok
    have i4 := x3.hin.trans (k5.inn hl3)
    cases hG : goodMsg m' with
    | false =>
      rw [hG] at e5
      have hf : finR (m', (bytesP r 20000).2) = none := by unfold finR; rw [if_neg (by rw [hG]; simp)]
      rw [hf]
      obtain ⟨b1, b2, b3⟩ := bad h4 k5.same i4 hf
      simp -implicitDefEqProofs (disch := omega) only [dcT, dcF, e2, faMM9, smB, e3, e4, ld3, e5, bdMM0, stMM, b1, ↓ret69, ↓cnd_true, ↓cnd_false, ↓Option.bind_some, ↓obH_some', bin_add, bin_sub, bin_mul, bin_lss, bin_leq, bin_gtr, bin_geq, bin_eql, bin_neq, un_not, un_neg, Option.bind_some, Option.bind_none, Option.map_some, cnd_true, cnd_false, pickV_true, pickV_false, gd_true, gd_false, gdV_true, gdV_false, gdH_true, gdH_false, gdS_true, gdS_false, wt_ff, wt_tt, wt_ft, wt_tf, wt_undef, obH_some', extractV_tuple, nilCheckV_ptr, againK_normal, againK_exit, againK_ret, blockK_normal, blockK_same, blockK_ret, seqK_normal, seqK_exit, seqK_ret, fin_done, if_true', if_false', Bool.not_true, Bool.not_false, idx0, idx1, idx2, idx3, idx4, chk_nil_l, chk_nil_r, done_nm]
      simp -implicitDefEqProofs only [ldMM, b2.loadN (n := 10) rfl, Option.map_some, Option.bind_some, rvals_two, fin_done]
      exact ⟨_, _, _, rfl, done_ext' b3, .nil, .nil⟩
    | true =>
      rw [hG] at e5
      have hf : finR (m', (bytesP r 20000).2) = some m' := by unfold finR; rw [if_pos ⟨hE, hG⟩]
      rw [hf]
      obtain ⟨ba, bc, rfl⟩ := x3.b.shape
      have c5 := x3.c.same k5.same
      have c52 := x3.c2.same k5.same
      have ld4 : loadV Try.prog 104 (.pointer (some ⟨p5, 0, none⟩)) h4 = some (msgA m' (.slice ba m'.body.length bc) (.slice a (bytesP r 20000).1.length c)) := by rw [ldMM, c5.loadN (n := 10) rfl]; rfl
      have b1 := storeN_blk c52 (o := 0) (vs := msgL m' (.slice ba m'.body.length bc) (.slice a (bytesP r 20000).1.length c)) (by simp)
      rw [show List.take 0 (msgL m00 nilSl nilSl) ++ msgL m' (.slice ba m'.body.length bc) (.slice a (bytesP r 20000).1.length c) ++ List.drop (0 + (msgL m' (.slice ba m'.body.length bc) (.slice a (bytesP r 20000).1.length c)).length) (msgL m00 nilSl nilSl) = msgL m' (.slice ba m'.body.length bc) (.slice a (bytesP r 20000).1.length c) from rfl] at b1
      have b2 := c52.put (msgL m' (.slice ba m'.body.length bc) (.slice a (bytesP r 20000).1.length c))
      have b3 := i4.trans (In.put (p := p2) i4.len (.inl x3.h2) (.cells (msgL m' (.slice ba m'.body.length bc) (.slice a (bytesP r 20000).1.length c))))
      have s6 := AB.kpC (x3.b.same k5.same) c52 (by decide) fun b hb hne => Heap.put_other (body := .cells (msgL m' (.slice ba m'.body.length bc) (.slice a (bytesP r 20000).1.length c))) hne
      have s7 := AB.kpC (x3.s.same k5.same) c52 (by decide) fun b hb hne => Heap.put_other (body := .cells (msgL m' (.slice ba m'.body.length bc) (.slice a (bytesP r 20000).1.length c))) hne
      simp -implicitDefEqProofs (disch := omega) only [dcT, dcF, e2, faMM9, smB, e3, e4, ld3, e5, ld4, stMM, b1, ↓ret69, ↓cnd_true, ↓cnd_false, ↓Option.bind_some, ↓obH_some', bin_add, bin_sub, bin_mul, bin_lss, bin_leq, bin_gtr, bin_geq, bin_eql, bin_neq, un_not, un_neg, Option.bind_some, Option.bind_none, Option.map_some, cnd_true, cnd_false, pickV_true, pickV_false, gd_true, gd_false, gdV_true, gdV_false, gdH_true, gdH_false, gdS_true, gdS_false, wt_ff, wt_tt, wt_ft, wt_tf, wt_undef, obH_some', extractV_tuple, nilCheckV_ptr, againK_normal, againK_exit, againK_ret, blockK_normal, blockK_same, blockK_ret, seqK_normal, seqK_exit, seqK_ret, fin_done, if_true', if_false', Bool.not_true, Bool.not_false, idx0, idx1, idx2, idx3, idx4, chk_nil_l, chk_nil_r, done_nm]
      simp -implicitDefEqProofs only [ldMM, b2.loadN (n := 10) rfl, Option.map_some, Option.bind_some, rvals_two, fin_done]
      exact ⟨_, _, _, rfl, done_ext' b3, s6.done, s7.done⟩
theorem get2 (x : GS h0 h p2 p5 rp m bv sv r) : ∀ (x0 x1 x3 x6 x7 x8 x9 x10 x11 x12 x13 x14 x15 x16 x17 x18 x19 x20 x21 x22 x23 x24 x25 x26 x27 x28 x29 x30 x31 x32 x33 x34 x35 x36 x37 x38 x39 x40 x41 x42 x43 x44 x45 x46 x47 x48 x49 x50 x51 x52 x53 x54 x55 x56 : Value),
    ∃ bv' sv' h', codeK Try.prog (evC Try.prog) loopL c69_1 ⟨#[x0, x1, .pointer (some ⟨p2, 0, none⟩), x3, .pointer (some ⟨rp, 0, none⟩), .pointer (some ⟨p5, 0, none⟩), x6, x7, x8, x9, x10, x11, x12, x13, x14, x15, x16, x17, x18, x19, x20, x21, x22, x23, x24, x25, x26, x27, x28, x29, x30, x31, x32, x33, x34, x35, x36, x37, x38, x39, x40, x41, x42, x43, x44, x45, x46, x47, x48, x49, x50, x51, x52, x53, x54, x55, x56], h⟩ (retK Try.f69 Try.prog h0) =
      some (.tuple #[msgA (gotV (finR (stR (valR (m, r))))) bv' sv', .int .i64 (gotE (finR (stR (valR (m, r)))))], h') ∧ HExt h0 h' ∧ AB h0.blks.length h' bv' (gotV (finR (stR (valR (m, r))))).body ∧ AB h0.blks.length h' sv' (gotV (finR (stR (valR (m, r))))).stamp := by
  intro x0 x1 x3 x6 x7 x8 x9 x10 x11 x12 x13 x14 x15 x16 x17 x18 x19 x20 x21 x22 x23 x24 x25 x26 x27 x28 x29 x30 x31 x32 x33 x34 x35 x36 x37 x38 x39 x40 x41 x42 x43 x44 x45 x46 x47 x48 x49 x50 x51 x52 x53 x54 x55 x56
  rw [c69_1_eq]
  have ev := fun h => spec_valued m.kind h
  by_cases c : m.kind = 1 ∨ m.kind = 3
  · rw [decide_eq_true c] at ev
    have hv : valR (m, r) = ({ m with val := (floatP r).1, wr := ((numP (floatP r).2 16).1 : Int) - 1, tag := (numP (numP (floatP r).2 16).2 U64M).1 }, (numP (numP (floatP r).2 16).2 U64M).2) := by unfold valR; rw [if_pos c]
    rw [hv]
    have fl := floatP_le r
    have n1 := numP_le (floatP r).2 16
    have n2 := numP_le (numP (floatP r).2 16).2 U64M
    obtain ⟨h2, e2, k2, w2⟩ := spec_RFloat x.w (by have := x.rl; omega)
    have x2 := x.next k2 w2 fl.2
    have ok2 : MTok { m with val := (floatP r).1 } := ⟨x.ok.f0, x.ok.f1, x.ok.num, x.ok.to, x.ok.k0, x.ok.k1, x.ok.v0, x.ok.v1, fl.1, x.ok.w0, x.ok.w1, x.ok.tag, x.ok.body, x.ok.stamp⟩
    obtain ⟨h3, e3, x3⟩ := x2.set 5 (.float .f64 (floatP r).1) (m' := { m with val := (floatP r).1 }) (by omega) rfl x2.b x2.s ok2
    obtain ⟨h4, e4, x4⟩ := x3.num 16 (by omega)
    have cv := fun h => cvU64 (((numP (floatP r).2 16).1 : Nat) : Int) h (by omega) (by omega)
    have hs : IntKind.wrap .i64 ((((numP (floatP r).2 16).1 : Nat) : Int) - 1) = (((numP (floatP r).2 16).1 : Nat) : Int) - 1 := by rw [wrap_i64] <;> omega
    have ok5 : MTok { m with val := (floatP r).1, wr := ((numP (floatP r).2 16).1 : Int) - 1 } := ⟨x.ok.f0, x.ok.f1, x.ok.num, x.ok.to, x.ok.k0, x.ok.k1, x.ok.v0, x.ok.v1, fl.1, by show -2 ^ 63 ≤ (((numP (floatP r).2 16).1 : Nat) : Int) - 1; omega, by show (((numP (floatP r).2 16).1 : Nat) : Int) - 1 < 2 ^ 63; omega, x.ok.tag, x.ok.body, x.ok.stamp⟩
    obtain ⟨h5, e5, x5⟩ := x4.set 6 (.int .i64 ((((numP (floatP r).2 16).1 : Nat) : Int) - 1)) (m' := { m with val := (floatP r).1, wr := ((numP (floatP r).2 16).1 : Int) - 1 }) (by omega) rfl x4.b x4.s ok5
    obtain ⟨h6, e6, x6⟩ := x5.num U64M (by unfold U64M; omega)
    rw [show ((U64M : Nat) : Int) = 18446744073709551615 from rfl] at e6
    have ok7 : MTok { m with val := (floatP r).1, wr := ((numP (floatP r).2 16).1 : Int) - 1, tag := (numP (numP (floatP r).2 16).2 U64M).1 } := ⟨x.ok.f0, x.ok.f1, x.ok.num, x.ok.to, x.ok.k0, x.ok.k1, x.ok.v0, x.ok.v1, fl.1, ok5.w0, ok5.w1, n2.2.1, x.ok.body, x.ok.stamp⟩
    obtain ⟨h7, e7, x7⟩ := x6.set 7 (.int .u64 ((numP (numP (floatP r).2 16).2 U64M).1 : Nat)) (m' := { m with val := (floatP r).1, wr := ((numP (floatP r).2 16).1 : Int) - 1, tag := (numP (numP (floatP r).2 16).2 U64M).1 }) (by omega) rfl x6.b x6.s ok7
    have main := get3 x7
    rw [show ((16 : Nat) : Int) = 16 from rfl] at e4
    simp -implicitDefEqProofs (disch := omega) only [faMM3, faMM5, faMM6, faMM7, ldIntV, x.l3, ev, e2, smF, e3, e4, cv, hs, smI, e5, e6, vst64, e7, ↓cnd_true, ↓cnd_false, ↓Option.bind_some, ↓obH_some', bin_add, bin_sub, bin_mul, bin_lss, bin_leq, bin_gtr, bin_geq, bin_eql, bin_neq, un_not, un_neg, Option.bind_some, Option.bind_none, Option.map_some, cnd_true, cnd_false, pickV_true, pickV_false, gd_true, gd_false, gdV_true, gdV_false, gdH_true, gdH_false, gdS_true, gdS_false, wt_ff, wt_tt, wt_ft, wt_tf, wt_undef, obH_some', extractV_tuple, nilCheckV_ptr, againK_normal, againK_exit, againK_ret, blockK_normal, blockK_same, blockK_ret, seqK_normal, seqK_exit, seqK_ret, fin_done, if_true', if_false', Bool.not_true, Bool.not_false, idx0, idx1, idx2, idx3, idx4, chk_nil_l, chk_nil_r, done_nm]
    exact main _ _ _ _ _ _ _ _ _ _ _ _ _ _ _ _ _ _ _ _ _ _ _ _ _ _ _ _ _ _ _ _ _ _ _ _ _ _ _ _ _ _ _ _ _ _ _ _ _ _ _ _ _ _
  · rw [decide_eq_false c] at ev
    have hv : valR (m, r) = (m, r) := by unfold valR; rw [if_neg c]
    rw [hv]
    have main := get3 x
    simp -implicitDefEqProofs (disch := omega) only [faMM3, ldIntV, x.l3, ev, ↓cnd_true, ↓cnd_false, ↓Option.bind_some, ↓obH_some', bin_add, bin_sub, bin_mul, bin_lss, bin_leq, bin_gtr, bin_geq, bin_eql, bin_neq, un_not, un_neg, Option.bind_some, Option.bind_none, Option.map_some, cnd_true, cnd_false, pickV_true, pickV_false, gd_true, gd_false, gdV_true, gdV_false, gdH_true, gdH_false, gdS_true, gdS_false, wt_ff, wt_tt, wt_ft, wt_tf, wt_undef, obH_some', extractV_tuple, nilCheckV_ptr, againK_normal, againK_exit, againK_ret, blockK_normal, blockK_same, blockK_ret, seqK_normal, seqK_exit, seqK_ret, fin_done, if_true', if_false', Bool.not_true, Bool.not_false, idx0, idx1, idx2, idx3, idx4, chk_nil_l, chk_nil_r, done_nm]
    exact main _ _ _ _ _ _ _ _ _ _ _ _ _ _ _ _ _ _ _ _ _ _ _ _ _ _ _ _ _ _ _ _ _ _ _ _ _ _ _ _ _ _ _ _ _ _ _ _ _ _ _ _ _ _
theorem spec_GetM {b : Value} {bs : List UInt8} (sb : SB h b bs) (hb : bs.length < 2 ^ 38) :
    ∃ bv' sv' h', evC Try.prog 69 #[b] h = some (.tuple #[msgA (gotV (getM bs)) bv' sv', .int .i64 (gotE (getM bs))], h') ∧ HExt h h' ∧ AB h.blks.length h' bv' (gotV (getM bs)).body ∧ AB h.blks.length h' sv' (gotV (getM bs)).stamp := by
  rw [call69, c69_0_eq]
  have k1 := alMM (nm h)
  have c1 := Cells.new (nm h) 104 (msgL m00 nilSl nilSl)
  have i1 : In h.blks.length No (nm h) _ := In.new (by simp) (.cells (msgL m00 nilSl nilSl)) 104
  have s1 : Same h _ := i1.same0
  have bl : (nm h).blks.length = h.blks.length := rfl
  rw [bl] at k1 c1
  generalize (nm h).new (.cells (msgL m00 nilSl nilSl)) 104 = g1 at *
  obtain ⟨g2, rp, e2, x2, r2, lr⟩ := spec_NewReaderL (sb.same s1) (by omega)
  have i2 := i1.trans (x2.inn i1.len)
  have c2 := c1.ext x2
  have lt1 := c1.lt
  have w2 := r2.dn
  have n1 := numP_le (some bs) 16
  have n2 := numP_le (numP (some bs) 16).2 U64M
  have n3 := setP_le (numP (numP (some bs) 16).2 U64M).2 65535
  have n4 := numP_le (setP (numP (numP (some bs) 16).2 U64M).2 65535).2 3
  rw [show (rbs (some bs)).length = bs.length from rfl] at n1
  obtain ⟨g3, e3, x3, w3⟩ := spec_RNum w2 16 (by omega) (by rw [show (rbs (some bs)).length = bs.length from rfl]; omega)
  obtain ⟨g4, e4, x4, w4⟩ := spec_RNum w3 U64M (by unfold U64M; omega) (by omega)
  obtain ⟨g5, e5, x5, w5⟩ := spec_RSet w4 65535 (by omega) (by omega)
  obtain ⟨g6, e6, x6, w6⟩ := spec_RNum w5 3 (by omega) (by omega)
  have jr : ∀ b, b < h.blks.length → Just rp b → No b := fun b hb e => by have : b = rp := e; omega
  have i6 := (((i2.trans (x3.inn i2.len jr)).trans (x4.inn (i2.trans (x3.inn i2.len jr)).len jr)).trans (x5.inn ((i2.trans (x3.inn i2.len jr)).trans (x4.inn (i2.trans (x3.inn i2.len jr)).len jr)).len jr))
  have i6 := i6.trans (x6.inn i6.len jr)
  have np : ¬ Just rp h.blks.length := fun e => by have : h.blks.length = rp := e; omega
  have c6 := (((c2.mod x3 np).mod x4 np).mod x5 np).mod x6 np
  have a2 := fun h => spec_All 16 (by omega) h
  rw [show ((16 : Nat) : Int) = 16 from rfl, show ((allN 16 : Nat) : Int) = 65535 from rfl] at a2
  rw [show ((16 : Nat) : Int) = 16 from rfl] at e3
  rw [show ((U64M : Nat) : Int) = 18446744073709551615 from rfl] at e4
  rw [show ((65535 : Nat) : Int) = 65535 from rfl] at e5
  rw [show ((3 : Nat) : Int) = 3 from rfl] at e6
  have cv1 := fun h => cvU64 (((numP (some bs) 16).1 : Nat) : Int) h (by omega) (by omega)
  have hm : (hdR bs).1 = ⟨(numP (some bs) 16).1, (numP (numP (some bs) 16).2 U64M).1, (setP (numP (numP (some bs) 16).2 U64M).2 65535).1, (numP (setP (numP (numP (some bs) 16).2 U64M).2 65535).2 3).1, 0, 0, 0, 0, [], []⟩ := rfl
  have hr : (hdR bs).2 = (numP (setP (numP (numP (some bs) 16).2 U64M).2 65535).2 3).2 := rfl
  unfold getM
  generalize (numP (setP (numP (numP (some bs) 16).2 U64M).2 65535).2 3).2 = r at *
  generalize (numP (setP (numP (numP (some bs) 16).2 U64M).2 65535).2 3).1 = nd at *
  generalize (setP (numP (numP (some bs) 16).2 U64M).2 65535).1 = nc at *
  generalize (numP (numP (some bs) 16).2 U64M).1 = nb at *
  generalize (numP (some bs) 16).1 = na at *
  have cv2 := fun h => cvU64 ((nd : Nat) : Int) h (by omega) (by omega)
  have ok : MTok (hdR bs).1 := by rw [hm]; exact ⟨by show -2 ^ 63 ≤ (na : Int); omega, by show (na : Int) < 2 ^ 63; omega, n2.2.1, n3.1, by show -2 ^ 63 ≤ (nd : Int); omega, by show (nd : Int) < 2 ^ 63; omega, by show (-2 ^ 63 : Int) ≤ 0; decide, by show (0 : Int) < 2 ^ 63; decide, by show (0 : Nat) < 2 ^ 64; decide, by show (-2 ^ 63 : Int) ≤ 0; decide, by show (0 : Int) < 2 ^ 63; decide, by show (0 : Nat) < 2 ^ 64; decide, by show ([] : List UInt8).length < 2 ^ 38; decide, by show ([] : List UInt8).length < 2 ^ 38; decide⟩
  have k7 := alMM g6
  have c7 := Cells.new g6 104 (msgL m00 nilSl nilSl)
  have st7 := storeN_blk c7 (o := 0) (vs := msgL (hdR bs).1 nilSl nilSl) (by simp)
  rw [show List.take 0 (msgL m00 nilSl nilSl) ++ msgL (hdR bs).1 nilSl nilSl ++ List.drop (0 + (msgL (hdR bs).1 nilSl nilSl).length) (msgL m00 nilSl nilSl) = msgL (hdR bs).1 nilSl nilSl from rfl] at st7
  have c8 := c7.put (msgL (hdR bs).1 nilSl nilSl)
  have i8 := (i6.trans (In.new i6.len (.cells (msgL m00 nilSl nilSl)) 104)).trans (In.put (p := g6.blks.length) (i6.trans (In.new i6.len (.cells (msgL m00 nilSl nilSl)) 104)).len (.inl i6.len) (.cells (msgL (hdR bs).1 nilSl nilSl)))
  have sm := (Same.new g6 (.cells (msgL m00 nilSl nilSl)) 104).put (Nat.le_refl _) (.cells (msgL (hdR bs).1 nilSl nilSl))
  have lw := w6.lt
  generalize hq5 : g6.blks.length = q5 at *
  generalize (g6.new (.cells (msgL m00 nilSl nilSl)) 104).put q5 (.cells (msgL (hdR bs).1 nilSl nilSl)) = g8 at *
  have G : GS h g8 h.blks.length q5 rp (hdR bs).1 nilSl nilSl r := ⟨c8, by rw [hm]; exact .nil, by rw [hm]; exact .nil, c6.same sm, w6.same sm, i8, Nat.le_refl _, by omega, by omega, ok, by omega⟩
  have hpair : hdR bs = ((hdR bs).1, r) := by rw [← hr]
  rw [hpair]
  have kd : (hdR bs).1.kind = nd := by rw [hm]
  have mA : msgL (hdR bs).1 nilSl nilSl = [.int .i64 na, .int .u64 nb, .int .u64 nc, .int .i64 nd, .int .i64 0, .float .f64 0, .int .i64 0, .int .u64 0, .slice none 0 0, .slice none 0 0] := by rw [hm]; rfl
  rw [mA] at st7
  by_cases c : (hdR bs).1.kind = 0
  · have d : decide ((hdR bs).1.kind = 0) = true := decide_eq_true c
    have hv : bodyR ((hdR bs).1, r) = ({ (hdR bs).1 with body := (bytesP r 256).1 }, (bytesP r 256).2) := by unfold bodyR; rw [if_pos c]
    rw [hv]
    have hle := bytesP_le r 256
    have rl := G.rl
    obtain ⟨ba, bc, g9, e9, x9, w9, s9⟩ := spec_RBytes G.w 256 (by omega) (by omega)
    rw [show (256 : Int).toNat = 256 from rfl] at e9 w9 s9
    have G9 := G.next x9 w9 hle.1
    have ok9 : MTok { (hdR bs).1 with body := (bytesP r 256).1 } := ⟨ok.f0, ok.f1, ok.num, ok.to, ok.k0, ok.k1, ok.v0, ok.v1, ok.val, ok.w0, ok.w1, ok.tag, by show (bytesP r 256).1.length < 2 ^ 38; omega, ok.stamp⟩
    obtain ⟨g10, e10, G10⟩ := G9.set 8 (.slice ba (bytesP r 256).1.length bc) (m' := { (hdR bs).1 with body := (bytesP r 256).1 }) (by omega) rfl (s9.up G.hin.len) G9.s ok9
    have main := get2 G10
    simp -implicitDefEqProofs (disch := omega) only [dcT, dcF, k1, e2, e3, cv1, e4, a2, e5, e6, cv2, bdMM4, k7, stMM, st7, faMM3, faMM8, ldIntV, G.l3, d, e9, smB, e10, ↓cnd_true, ↓cnd_false, ↓Option.bind_some, ↓obH_some', bin_add, bin_sub, bin_mul, bin_lss, bin_leq, bin_gtr, bin_geq, bin_eql, bin_neq, un_not, un_neg, Option.bind_some, Option.bind_none, Option.map_some, cnd_true, cnd_false, pickV_true, pickV_false, gd_true, gd_false, gdV_true, gdV_false, gdH_true, gdH_false, gdS_true, gdS_false, wt_ff, wt_tt, wt_ft, wt_tf, wt_undef, obH_some', extractV_tuple, nilCheckV_ptr, againK_normal, againK_exit, againK_ret, blockK_normal, blockK_same, blockK_ret, seqK_normal, seqK_exit, seqK_ret, fin_done, if_true', if_false', Bool.not_true, Bool.not_false, idx0, idx1, idx2, idx3, idx4, chk_nil_l, chk_nil_r, done_nm]
    exact main _ _ _ _ _ _ _ _ _ _ _ _ _ _ _ _ _ _ _ _ _ _ _ _ _ _ _ _ _ _ _ _ _ _ _ _ _ _ _ _ _ _ _ _ _ _ _ _ _ _ _ _ _ _
  · have d : decide ((hdR bs).1.kind = 0) = false := decide_eq_false c
    have hv : bodyR ((hdR bs).1, r) = ({ (hdR bs).1 with var := (numP r 16).1 }, (numP r 16).2) := by unfold bodyR; rw [if_neg c]
    rw [hv]
    have n9 := numP_le r 16
    obtain ⟨g9, e9, G9⟩ := G.num 16 (by omega)
    rw [show ((16 : Nat) : Int) = 16 from rfl] at e9
    have cv3 := fun h => cvU64 (((numP r 16).1 : Nat) : Int) h (by omega) (by omega)
    have ok9 : MTok { (hdR bs).1 with var := (numP r 16).1 } := ⟨ok.f0, ok.f1, ok.num, ok.to, ok.k0, ok.k1, by show -2 ^ 63 ≤ (((numP r 16).1 : Nat) : Int); omega, by show (((numP r 16).1 : Nat) : Int) < 2 ^ 63; omega, ok.val, ok.w0, ok.w1, ok.tag, ok.body, ok.stamp⟩
    obtain ⟨g10, e10, G10⟩ := G9.set 4 (.int .i64 ((numP r 16).1 : Nat)) (m' := { (hdR bs).1 with var := (numP r 16).1 }) (by omega) rfl G9.b G9.s ok9
    have main := get2 G10
    simp -implicitDefEqProofs (disch := omega) only [dcT, dcF, k1, e2, e3, cv1, e4, a2, e5, e6, cv2, bdMM4, k7, stMM, st7, faMM3, faMM4, ldIntV, G.l3, d, e9, cv3, smI, e10, ↓cnd_true, ↓cnd_false, ↓Option.bind_some, ↓obH_some', bin_add, bin_sub, bin_mul, bin_lss, bin_leq, bin_gtr, bin_geq, bin_eql, bin_neq, un_not, un_neg, Option.bind_some, Option.bind_none, Option.map_some, cnd_true, cnd_false, pickV_true, pickV_false, gd_true, gd_false, gdV_true, gdV_false, gdH_true, gdH_false, gdS_true, gdS_false, wt_ff, wt_tt, wt_ft, wt_tf, wt_undef, obH_some', extractV_tuple, nilCheckV_ptr, againK_normal, againK_exit, againK_ret, blockK_normal, blockK_same, blockK_ret, seqK_normal, seqK_exit, seqK_ret, fin_done, if_true', if_false', Bool.not_true, Bool.not_false, idx0, idx1, idx2, idx3, idx4, chk_nil_l, chk_nil_r, done_nm]
    exact main _ _ _ _ _ _ _ _ _ _ _ _ _ _ _ _ _ _ _ _ _ _ _ _ _ _ _ _ _ _ _ _ _ _ _ _ _ _ _ _ _ _ _ _ _ _ _ _ _ _ _ _ _ _
end Go.Am
namespace Go.Am
open Go.Proofs
set_option maxRecDepth 100000
attribute [local congr] obind_congr obH_congr cnd_congr chk_congr retK_congr codeK_congr
theorem nilW (xo yo : Operand) (a : Addr) : binV Try.prog .eql 71 xo yo (.pointer (some a)) (.pointer none) = some (.bool false) := by kernel_rfl
theorem nilR (xo yo : Operand) (a : Addr) : binV Try.prog .eql 76 xo yo (.pointer (some a)) (.pointer none) = some (.bool false) := by kernel_rfl
theorem put_same {h : Heap} {b : Nat} {cs : List Value} {ty : TypeId} (hb : Cells h b ty cs) : (h.put b (.cells cs)).blks = h.blks := by
  rw [Heap.put_eq hb]
  simp only
  refine List.ext_getElem? fun i => ?_
  rw [List.getElem?_set]
  split
  · rename_i e
    subst e
    rw [if_pos hb.lt]
    exact hb.symm
  · rfl
theorem cvBB {h : Heap} {b n c : Nat} {cs : List Value} (hb : Cells h b 5 cs) (hn : n ≠ 0) : convV Try.prog 23 23 (.slice (some ⟨b, 0, none⟩) n c) h = some (.slice (some ⟨b, 0, none⟩) n c, h.put b (.cells cs)) := by
  have hs : Try.prog.underlying 23 = some (.slice 5) := by kernel_rfl
  have hbt : isByteT Try.prog 5 = true := by kernel_rfl
  unfold convV
  rw [hs]
  unfold Cells at hb
  simp only [hb, hbt, hn, ne_eq, not_false_eq_true, and_self, if_true]
/-- a text of one byte -/
theorem lit_str {h : Heap} {n0 : Nat} (hn0 : n0 ≤ h.blks.length) (b : UInt8) : ∃ h1 h2, buildSliceV Try.prog 23 1 #[(0, .int .u8 b.toNat)] h = some (.slice (some ⟨h.blks.length, 0, none⟩) 1 1, h1) ∧
    convV Try.prog 23 23 (.slice (some ⟨h.blks.length, 0, none⟩) 1 1) h1 = some (.slice (some ⟨h.blks.length, 0, none⟩) 1 1, h2) ∧ SB h2 (.slice (some ⟨h.blks.length, 0, none⟩) 1 1) [b] ∧ Same h h2 ∧ (∀ S, In n0 S h h2) ∧ h2.blks.length = h.blks.length + 1 := by
  have hc := Cells.new h 5 [byteV b]
  have hp := put_same hc
  refine ⟨h.new (.cells [byteV b]) 5, (h.new (.cells [byteV b]) 5).put h.blks.length (.cells [byteV b]), mkB1 _ _ _, cvBB hc (by omega), ?_, ?_, fun S => (In.new hn0 _ _).trans (In.put (by simp [Heap.new]; omega) (.inl hn0) _), by rw [hp]; simp [Heap.new]⟩
  · exact (lit1 b h).keep fun q _ _ => by rw [hp]
  · exact ⟨by rw [hp]; simp [Heap.new], fun q hq => by rw [hp]; exact Heap.new_old hq⟩
theorem put300' : putL 300 = [172, 2] := by rw [putL_ge 300 (by omega), putL_lt _ (by omega)]; rfl
theorem spec_awake5 (h : Heap) : ∃ h', evC Try.prog 41 #[] h = some (.bool true, h') ∧ HExt h h' := by
  rw [call41, c41_0_eq]
  obtain ⟨h1, e1, x1, w1, l1⟩ := spec_NewWriter (nm h)
  simp only [nm_blks] at e1 l1 w1
  have nn : ∀ b, b < h.blks.length → Just h.blks.length b → No b := fun b hb hs => by have : b = h.blks.length := hs; omega
  obtain ⟨h4, e4, x4, w4⟩ := spec_WNum w1 (by omega) 300 (by omega) (by simp)
  have l4 := x4.len
  obtain ⟨h6, h8, e6, e8, s8, m8, i8, l8⟩ := lit_str (h := h4) (n0 := h.blks.length) (by omega) 97
  have w8 := w4.same m8
  obtain ⟨h10, e10, x10, w10⟩ := spec_WBytes w8 (by omega) s8 (by simp [blockOf]; omega) (by simp [put300']) (by simp)
  have l10 := x10.len
  have eb : [] ++ putL 300 ++ putL [(97 : UInt8)].length ++ [97] = [172, 2, 1, 97] := by
    rw [put300', putL_lt _ (by simp)]; rfl
  rw [eb] at w10
  obtain ⟨a12, c12, h12, e12, x12, s12⟩ := spec_WDone w10 (by simp)
  have l12 := x12.len
  obtain ⟨h14, p, e14, x14, r14, lp⟩ := spec_NewReader s12.sb (by simp)
  have w14 := (w10.ext x12).ext x14
  have l14 := x14.len
  obtain ⟨a17, c17, h17, e17, x17, s17⟩ := spec_WDone w14 (by simp)
  have l17 := x17.len
  have r17 := r14.ext x17
  obtain ⟨h22, e22, x22, r22⟩ := spec_RNum r17 300 (by omega) (by simp [rbs])
  have l22 := x22.len
  have hn1 : numP (some [172, 2, 1, 97]) 300 = (300, some [1, 97]) := by
    have := numP_putL 300 (by omega) [1, 97] 300 (by omega)
    rw [put300'] at this; exact this
  rw [hn1] at e22 r22
  obtain ⟨a26, c26, h26, e26, x26, r26, s26⟩ := spec_RBytes r22 1 (by omega) (by simp [rbs])
  have hn2 : bytesP (some [1, 97]) (1 : Int).toNat = ([97], some []) := by
    have := bytesP_put [97] [] (by simp) 1 (by simp)
    rw [show putL [(97 : UInt8)].length = [1] by rw [putL_lt _ (by simp)]; rfl] at this
    exact this
  rw [hn2] at e26 r26 s26
  have e32 := spec_REnd r26
  have np : ∀ b, b < h.blks.length → Just p b → No b := fun b hb hs => by have : b = p := hs; omega
  have hin := (((((((((x1.inn (S := No) (n0 := h.blks.length) (by simp)).trans (x4.inn (by omega) nn)).trans (i8 No)).trans (x10.inn (by omega) nn)).trans (x12.inn (by omega))).trans (x14.inn (by omega))).trans (x17.inn (by omega))).trans (x22.inn (by omega) np)).trans (x26.inn (by omega) np))
  have e6' : buildSliceV Try.prog 23 1 #[(0, .int .u8 97)] h4 = _ := e6
  have st17 := strB (s17.sb)
  have st26 := strB s26.sb
  simp -implicitDefEqProofs (disch := omega) only [dcT, dcF, e1, nilW, show Value.int .u64 300 = .int .u64 ((300 : Nat) : Int) from rfl, e4, e6', e8, e10, e12, e14, nilR, e17, st17, show Value.string { data := #[172, 2, 1, 97] } = strV [172, 2, 1, 97] from rfl, bin_streq, eq_self, decide_true, e22, e26, st26, show Value.string { data := #[97] } = strV [97] from rfl, e32, show endP (some []) = true from rfl, ↓ret41, ↓cnd_true, ↓cnd_false, ↓Option.bind_some, ↓obH_some', bin_add, bin_sub, bin_mul, bin_lss, bin_leq, bin_gtr, bin_geq, bin_eql, bin_neq, un_not, un_neg, Option.bind_some, Option.bind_none, Option.map_some, cnd_true, cnd_false, pickV_true, pickV_false, gd_true, gd_false, gdV_true, gdV_false, gdH_true, gdH_false, gdS_true, gdS_false, wt_ff, wt_tt, wt_ft, wt_tf, wt_undef, obH_some', extractV_tuple, nilCheckV_ptr, againK_normal, againK_exit, againK_ret, blockK_normal, blockK_same, blockK_ret, seqK_normal, seqK_exit, seqK_ret, fin_done, if_true', if_false', Bool.not_true, Bool.not_false, idx0, idx1, idx2, idx3, idx4, chk_nil_l, chk_nil_r, done_nm]
  exact ⟨_, rfl, done_ext' hin⟩
end Go.Am
namespace Go.Am
open Go.Proofs
set_option maxRecDepth 100000
set_option linter.all false
attribute [local congr] obind_congr obH_congr cnd_congr chk_congr retK_congr codeK_congr
variable {h h' : Heap} {p : Nat} {m n : MT} {bv sv bw sw : Value}
theorem faRM0 (p : Nat) : fieldAddrV Try.prog 108 (.pointer (some ⟨p, 0, none⟩)) 0 = some (.pointer (some ⟨p, 0, none⟩)) := by kernel_rfl
theorem faRM1 (p : Nat) : fieldAddrV Try.prog 108 (.pointer (some ⟨p, 0, none⟩)) 1 = some (.pointer (some ⟨p, 1, none⟩)) := by kernel_rfl
theorem faRM2 (p : Nat) : fieldAddrV Try.prog 108 (.pointer (some ⟨p, 0, none⟩)) 2 = some (.pointer (some ⟨p, 2, none⟩)) := by kernel_rfl
theorem faRM3 (p : Nat) : fieldAddrV Try.prog 108 (.pointer (some ⟨p, 0, none⟩)) 3 = some (.pointer (some ⟨p, 3, none⟩)) := by kernel_rfl
theorem faRM4 (p : Nat) : fieldAddrV Try.prog 108 (.pointer (some ⟨p, 0, none⟩)) 4 = some (.pointer (some ⟨p, 4, none⟩)) := by kernel_rfl
theorem faRM5 (p : Nat) : fieldAddrV Try.prog 108 (.pointer (some ⟨p, 0, none⟩)) 5 = some (.pointer (some ⟨p, 5, none⟩)) := by kernel_rfl
theorem faRM6 (p : Nat) : fieldAddrV Try.prog 108 (.pointer (some ⟨p, 0, none⟩)) 6 = some (.pointer (some ⟨p, 6, none⟩)) := by kernel_rfl
theorem faRM7 (p : Nat) : fieldAddrV Try.prog 108 (.pointer (some ⟨p, 0, none⟩)) 7 = some (.pointer (some ⟨p, 7, none⟩)) := by kernel_rfl
theorem faRM8 (p : Nat) : fieldAddrV Try.prog 108 (.pointer (some ⟨p, 0, none⟩)) 8 = some (.pointer (some ⟨p, 8, none⟩)) := by kernel_rfl
theorem faRM9 (p : Nat) : fieldAddrV Try.prog 108 (.pointer (some ⟨p, 0, none⟩)) 9 = some (.pointer (some ⟨p, 9, none⟩)) := by kernel_rfl
theorem bxRM (a b c d e f g i j k : Value) (h : Heap) : boxV Try.prog 108 (.agg #[a, b, c, d, e, f, g, i, j, k]) h = some (.pointer (some ⟨h.blks.length, 0, none⟩), h.new (.cells [a, b, c, d, e, f, g, i, j, k]) 108) := by kernel_rfl
theorem alRM (h : Heap) : allocV Try.prog 108 h = some (.pointer (some ⟨h.blks.length, 0, none⟩), h.new (.cells (msgL m00 nilSl nilSl)) 108) := by kernel_rfl
theorem bdRM10 (a b c d e g t : Int) (f : Nat) (x y : Option Addr) (l k l2 k2 : Nat) : buildV Try.prog 108 #[(0, .int .i64 a), (1, .int .u64 b), (2, .int .u64 c), (3, .int .i64 d), (4, .int .i64 e), (5, .float .f64 f), (6, .int .i64 g), (7, .int .u64 t), (8, .slice x l k), (9, .slice y l2 k2)] = some (.agg #[.int .i64 a, .int .u64 b, .int .u64 c, .int .i64 d, .int .i64 e, .float .f64 f, .int .i64 g, .int .u64 t, .slice x l k, .slice y l2 k2]) := by kernel_rfl
theorem stRM (p : Nat) (a b c d e g t : Int) (f : Nat) (x y : Option Addr) (l k l2 k2 : Nat) (h : Heap) : storeV Try.prog 108 (.pointer (some ⟨p, 0, none⟩)) (.agg #[.int .i64 a, .int .u64 b, .int .u64 c, .int .i64 d, .int .i64 e, .float .f64 f, .int .i64 g, .int .u64 t, .slice x l k, .slice y l2 k2]) h = h.storeN p 0 [.int .i64 a, .int .u64 b, .int .u64 c, .int .i64 d, .int .i64 e, .float .f64 f, .int .i64 g, .int .u64 t, .slice x l k, .slice y l2 k2] := by kernel_rfl
theorem ldRMs (p : Nat) (h : Heap) : loadV Try.prog 108 (.pointer (some ⟨p, 0, none⟩)) h = (h.loadN p 0 10).map fun cs => .agg cs.toArray := by kernel_rfl
theorem MC.ldR (x : MC 108 h p m bv sv) : loadV Try.prog 108 (.pointer (some ⟨p, 0, none⟩)) h = some (msgA m bv sv) := by rw [ldRMs, x.c.loadN (n := 10) rfl]; rfl
theorem msgL_put (m m' : MT) (a b c d : Value) : List.take 0 (msgL m a b) ++ msgL m' c d ++ List.drop (0 + (msgL m' c d).length) (msgL m a b) = msgL m' c d := (id rfl)
theorem spec_own (hb : SB h bv m.body) (hs : SB h sv m.stamp) : ∃ h', evC Try.prog 68 #[msgA m bv sv] h = some (msgA m bv sv, h') ∧ HExt h h' := by
  rw [call68, c68_0_eq]
  obtain ⟨ba, bc, rfl⟩ := hb.shape
  obtain ⟨sa, sc, rfl⟩ := hs.shape
  have M := MC.new (h := nm h) 104 hb.nm hs.nm
  have i0 : In h.blks.length No (nm h) _ := In.new (by simp) (.cells (msgL m (.slice ba m.body.length bc) (.slice sa m.stamp.length sc))) 104
  have k0 := bxMM (.int .i64 m.frm) (.int .u64 m.num) (.int .u64 m.to) (.int .i64 m.kind) (.int .i64 m.var) (.float .f64 m.val) (.int .i64 m.wr) (.int .u64 m.tag) (.slice ba m.body.length bc) (.slice sa m.stamp.length sc) (nm h)
  have bl : (nm h).blks.length = h.blks.length := rfl
  rw [bl] at M k0
  generalize (nm h).new (.cells (msgL m (.slice ba m.body.length bc) (.slice sa m.stamp.length sc))) 104 = g0 at *
  have k1 := alRM g0
  have c1 := Cells.new g0 108 (msgL m00 nilSl nilSl)
  have M1 := M.same (Same.new g0 (.cells (msgL m00 nilSl nilSl)) 108)
  have i1 := i0.trans (In.new i0.len (.cells (msgL m00 nilSl nilSl)) 108)
  have st := storeN_blk c1 (o := 0) (vs := msgL m (.slice ba m.body.length bc) (.slice sa m.stamp.length sc)) (by simp)
  rw [msgL_put] at st
  have c2 := c1.put (msgL m (.slice ba m.body.length bc) (.slice sa m.stamp.length sc))
  have i2 := i1.trans (In.put (p := g0.blks.length) i1.len (.inl i0.len) (.cells (msgL m (.slice ba m.body.length bc) (.slice sa m.stamp.length sc))))
  generalize g0.new (.cells (msgL m00 nilSl nilSl)) 108 = g1 at *
  simp -implicitDefEqProofs (disch := omega) only [k0, k1, faMM0, faMM1, faMM2, faMM3, faMM4, faMM5, faMM6, faMM7, faMM8, faMM9, ldIntV, vld64, ldSetV, ldFlV, ldB, M1.l0, M1.l1, M1.l2, M1.l3, M1.l4, M1.l5, M1.l6, M1.l7, M1.l8, M1.l9, bdRM10, stRM, st, ↓ret68, ↓cnd_true, ↓cnd_false, ↓Option.bind_some, ↓obH_some', bin_add, bin_sub, bin_mul, bin_lss, bin_leq, bin_gtr, bin_geq, bin_eql, bin_neq, un_not, un_neg, Option.bind_some, Option.bind_none, Option.map_some, cnd_true, cnd_false, pickV_true, pickV_false, gd_true, gd_false, gdV_true, gdV_false, gdH_true, gdH_false, gdS_true, gdS_false, wt_ff, wt_tt, wt_ft, wt_tf, wt_undef, obH_some', extractV_tuple, nilCheckV_ptr, againK_normal, againK_exit, againK_ret, blockK_normal, blockK_same, blockK_ret, seqK_normal, seqK_exit, seqK_ret, fin_done, if_true', if_false', Bool.not_true, Bool.not_false, idx0, idx1, idx2, idx3, idx4, chk_nil_l, chk_nil_r, done_nm]
  simp -implicitDefEqProofs only [ldRMs, c2.loadN (n := 10) rfl, Option.map_some, Option.bind_some, rvals_one, fin_done]
  exact ⟨_, rfl, done_ext' i2⟩
/-- alike, to the float's key -/
def Alike (m n : MT) : Prop := m.frm = n.frm ∧ m.num = n.num ∧ m.to = n.to ∧ m.kind = n.kind ∧ m.var = n.var ∧ keyF m.val = keyF n.val ∧ m.wr = n.wr ∧ m.tag = n.tag ∧ m.body = n.body ∧ m.stamp = n.stamp
theorem Alike.refl (m : MT) : Alike m m := ⟨rfl, rfl, rfl, rfl, rfl, rfl, rfl, rfl, rfl, rfl⟩
theorem spec_alike (hb : SB h bv m.body) (hs : SB h sv m.stamp) (hb2 : SB h bw n.body) (hs2 : SB h sw n.stamp) (a : Alike m n) (hv : m.val < 2 ^ 64) (hv2 : n.val < 2 ^ 64) : ∃ h', evC Try.prog 74 #[msgA m bv sv, msgA n bw sw] h = some (.bool true, h') ∧ HExt h h' := by
  rw [call74, c74_0_eq]
  have M := MC.new (h := nm h) 108 hb.nm hs.nm
  have i0 : In h.blks.length No (nm h) _ := In.new (by simp) (.cells (msgL m bv sv)) 108
  have k0 := bxRM (.int .i64 m.frm) (.int .u64 m.num) (.int .u64 m.to) (.int .i64 m.kind) (.int .i64 m.var) (.float .f64 m.val) (.int .i64 m.wr) (.int .u64 m.tag) bv sv (nm h)
  have bl : (nm h).blks.length = h.blks.length := rfl
  rw [bl] at M k0
  have b2 := hb2.same i0.same0
  have s2 := hs2.same i0.same0
  generalize (nm h).new (.cells (msgL m bv sv)) 108 = g0 at *
  have N := MC.new (h := g0) (m := n) 108 b2 s2
  have i1 := i0.trans (In.new i0.len (.cells (msgL n bw sw)) 108)
  have k1 := bxRM (.int .i64 n.frm) (.int .u64 n.num) (.int .u64 n.to) (.int .i64 n.kind) (.int .i64 n.var) (.float .f64 n.val) (.int .i64 n.wr) (.int .u64 n.tag) bw sw g0
  have M1 := M.same (Same.new g0 (.cells (msgL n bw sw)) 108)
  generalize g0.new (.cells (msgL n bw sw)) 108 = g1 at *
  obtain ⟨a0, a1, a2, a3, a4, a5, a6, a7, a8, a9⟩ := a
  have es := fun h => spec_refSame m.val n.val hv hv2 h
  rw [decide_eq_true a5] at es
  have f1 := strB M1.b
  have f2 := strB N.b
  have f3 := strB M1.s
  have f4 := strB N.s
  rw [← a8] at f2
  rw [← a9] at f4
  have hse : ∀ xo yo (x : List UInt8), binV Try.prog .eql 9 xo yo (strV x) (strV x) = some (.bool true) := fun xo yo x => by rw [bin_streq, decide_eq_true rfl]
  have L0 := N.l0
  have L1 := N.l1
  have L2 := N.l2
  have L3 := N.l3
  have L4 := N.l4
  have L6 := N.l6
  have L7 := N.l7
  rw [← a0] at L0
  rw [← a1] at L1
  rw [← a2] at L2
  rw [← a3] at L3
  rw [← a4] at L4
  rw [← a6] at L6
  rw [← a7] at L7
  simp -implicitDefEqProofs (disch := omega) only [dcT, dcF, k0, k1, faRM0, faRM1, faRM2, faRM3, faRM4, faRM5, faRM6, faRM7, faRM8, faRM9, ldIntV, vld64, ldFlV, ldB, M1.l0, M1.l1, M1.l2, M1.l3, M1.l4, M1.l5, M1.l6, M1.l7, M1.l8, M1.l9, L0, L1, L2, L3, L4, N.l5, L6, L7, N.l8, N.l9, es, f1, f2, f3, f4, hse, eq_self, decide_true, ↓ret74, ↓cnd_true, ↓cnd_false, ↓Option.bind_some, ↓obH_some', bin_add, bin_sub, bin_mul, bin_lss, bin_leq, bin_gtr, bin_geq, bin_eql, bin_neq, un_not, un_neg, Option.bind_some, Option.bind_none, Option.map_some, cnd_true, cnd_false, pickV_true, pickV_false, gd_true, gd_false, gdV_true, gdV_false, gdH_true, gdH_false, gdS_true, gdS_false, wt_ff, wt_tt, wt_ft, wt_tf, wt_undef, obH_some', extractV_tuple, nilCheckV_ptr, againK_normal, againK_exit, againK_ret, blockK_normal, blockK_same, blockK_ret, seqK_normal, seqK_exit, seqK_ret, fin_done, if_true', if_false', Bool.not_true, Bool.not_false, idx0, idx1, idx2, idx3, idx4, chk_nil_l, chk_nil_r, done_nm]
  exact ⟨_, rfl, done_ext' i1⟩
def wordM : MT := ⟨0, 1, 2, 0, 0, 0, 0, 0, [97], []⟩
theorem bdMMw (a : Option Addr) (l c : Nat) : buildV Try.prog 104 #[(1, .int .u64 1), (2, .int .u64 2), (8, .slice a l c)] = some (.agg #[.int .i64 0, .int .u64 1, .int .u64 2, .int .i64 0, .int .i64 0, .float .f64 0, .int .i64 0, .int .u64 0, .slice a l c, .slice none 0 0]) := by kernel_rfl
theorem spec_word (h : Heap) : ∃ bv h', evC Try.prog 75 #[] h = some (msgA wordM bv nilSl, h') ∧ HExt h h' ∧ SB h' bv wordM.body := by
  rw [call75, c75_0_eq]
  have k1 := alMM (nm h)
  have c1 := Cells.new (nm h) 104 (msgL m00 nilSl nilSl)
  have i1 : In h.blks.length No (nm h) _ := In.new (by simp) (.cells (msgL m00 nilSl nilSl)) 104
  have bl : (nm h).blks.length = h.blks.length := rfl
  rw [bl] at k1 c1
  generalize (nm h).new (.cells (msgL m00 nilSl nilSl)) 104 = g1 at *
  have lt := c1.lt
  obtain ⟨g2, g3, k2, k3, s3, m3, i3, l3⟩ := lit_str (h := g1) (n0 := h.blks.length) i1.len 97
  rw [show (((97 : UInt8).toNat : Nat) : Int) = 97 from rfl] at k2
  have c3 := c1.same m3
  have i3 := i1.trans (i3 No)
  have st := storeN_blk c3 (o := 0) (vs := msgL wordM (.slice (some ⟨g1.blks.length, 0, none⟩) 1 1) nilSl) (by simp)
  rw [msgL_put] at st
  have c4 := c3.put (msgL wordM (.slice (some ⟨g1.blks.length, 0, none⟩) 1 1) nilSl)
  have i4 := i3.trans (In.put (p := h.blks.length) i3.len (.inl (Nat.le_refl _)) (.cells (msgL wordM (.slice (some ⟨g1.blks.length, 0, none⟩) 1 1) nilSl)))
  have b4 := s3.keepPut (p := h.blks.length) (by simp [blockOf]; omega) (.cells (msgL wordM (.slice (some ⟨g1.blks.length, 0, none⟩) 1 1) nilSl))
  rw [show msgL wordM (.slice (some ⟨g1.blks.length, 0, none⟩) 1 1) nilSl = [.int .i64 0, .int .u64 1, .int .u64 2, .int .i64 0, .int .i64 0, .float .f64 0, .int .i64 0, .int .u64 0, .slice (some ⟨g1.blks.length, 0, none⟩) 1 1, .slice none 0 0] from rfl] at st c4 i4 b4
  simp -implicitDefEqProofs (disch := omega) only [k1, k2, k3, bdMMw, stMM, st, ↓ret75, ↓cnd_true, ↓cnd_false, ↓Option.bind_some, ↓obH_some', bin_add, bin_sub, bin_mul, bin_lss, bin_leq, bin_gtr, bin_geq, bin_eql, bin_neq, un_not, un_neg, Option.bind_some, Option.bind_none, Option.map_some, cnd_true, cnd_false, pickV_true, pickV_false, gd_true, gd_false, gdV_true, gdV_false, gdH_true, gdH_false, gdS_true, gdS_false, wt_ff, wt_tt, wt_ft, wt_tf, wt_undef, obH_some', extractV_tuple, nilCheckV_ptr, againK_normal, againK_exit, againK_ret, blockK_normal, blockK_same, blockK_ret, seqK_normal, seqK_exit, seqK_ret, fin_done, if_true', if_false', Bool.not_true, Bool.not_false, idx0, idx1, idx2, idx3, idx4, chk_nil_l, chk_nil_r, done_nm]
  simp -implicitDefEqProofs only [ldMM, c4.loadN (n := 10) rfl, Option.map_some, Option.bind_some, rvals_one, fin_done]
  exact ⟨_, _, rfl, done_ext' i4, b4.done⟩
theorem wordOk : MTok wordM := ⟨by decide, by decide, by decide, by decide, by decide, by decide, by decide, by decide, by decide, by decide, by decide, by decide, by decide, by decide⟩
theorem word_put : (putM wordM).length = 7 := by decide +kernel
theorem word_get : getM (putM wordM) = some wordM := by decide +kernel
/-- a variable of the type of messages -/
theorem mmvar {n0 : Nat} {g : Heap} (hn : n0 ≤ g.blks.length) (m : MT) (x y : Option Addr) (l k l2 k2 : Nat) : ∃ g', storeV Try.prog 104 (.pointer (some ⟨g.blks.length, 0, none⟩)) (msgA m (.slice x l k) (.slice y l2 k2)) (g.new (.cells (msgL m00 nilSl nilSl)) 104) = some g' ∧ Cells g' g.blks.length 104 (msgL m (.slice x l k) (.slice y l2 k2)) ∧ Same g g' ∧ (∀ S, In n0 S g g') := by
  have c := Cells.new g 104 (msgL m00 nilSl nilSl)
  have st := storeN_blk c (o := 0) (vs := msgL m (.slice x l k) (.slice y l2 k2)) (by simp)
  rw [msgL_put] at st
  refine ⟨_, by rw [stMM]; exact st, c.put _, (Same.new g _ _).put (Nat.le_refl _) _, fun S => (In.new hn _ _).trans (In.put (Nat.le_trans hn (Same.new g _ _).1) (.inl hn) _)⟩
theorem ldCM {g : Heap} {p : Nat} {m : MT} {bv sv : Value} (c : Cells g p 104 (msgL m bv sv)) : loadV Try.prog 104 (.pointer (some ⟨p, 0, none⟩)) g = some (msgA m bv sv) := by rw [ldMM, c.loadN (n := 10) rfl]; rfl
theorem word_good : goodMsg wordM = true := by decide +kernel
theorem spec_awake7 (h : Heap) : ∃ h', evC Try.prog 65 #[] h = some (.bool true, h') ∧ HExt h h' := by
  rw [call65, c65_0_eq]
  obtain ⟨wv, h1, e1, x1, b1⟩ := spec_word (nm h)
  have i1 : In h.blks.length No (nm h) h1 := x1.inn (Nat.le_refl _)
  obtain ⟨pa, pc, h2, e2, x2, a2⟩ := spec_PutM (sv := nilSl) (m := wordM) b1 .nil wordOk
  have i2 := i1.trans (x2.inn i1.len)
  obtain ⟨gb, gs, h3, e3, x3, ab3, as3⟩ := spec_GetM (a2.sl etB.size) (by rw [word_put]; decide)
  have i3 := i2.trans (x3.inn i2.len)
  rw [word_get] at e3 ab3 as3
  rw [show gotV (some wordM) = wordM from rfl] at e3 ab3 as3
  rw [show gotE (some wordM) = 0 from rfl] at e3
  obtain ⟨ba, bc, rfl⟩ := ab3.shape
  obtain ⟨sa, sc, rfl⟩ := as3.shape
  have k4 := alMM h3
  obtain ⟨h4, st4, c4, s4, i4⟩ := mmvar (n0 := h.blks.length) (g := h3) i3.len wordM ba sa wordM.body.length bc wordM.stamp.length sc
  have i4 := i3.trans (i4 No)
  have l4 := ((a2.sl etB.size).same (x3.same.trans s4)).row.len_eq etB.under
  rw [show (((putM wordM).length : Nat) : Int) = 7 by rw [word_put]; rfl] at l4
  have ab4 : SB h4 (.slice ba wordM.body.length bc) wordM.body := (ab3.same s4).sl etB.size
  have as4 : SB h4 (.slice sa wordM.stamp.length sc) wordM.stamp := (as3.same s4).sl etB.size
  obtain ⟨h5, e5, x5⟩ := spec_own ab4 as4
  have i5 := i4.trans (x5.inn i4.len)
  obtain ⟨wv6, h6, e6, x6, b6⟩ := spec_word h5
  have i6 := i5.trans (x6.inn i5.len)
  obtain ⟨h7, e7, x7⟩ := spec_own (m := wordM) (sv := nilSl) b6 .nil
  have i7 := i6.trans (x7.inn i6.len)
  have S47 := (x5.same.trans x6.same).trans x7.same
  obtain ⟨h8, e8, x8⟩ := spec_alike (n := wordM) (sw := nilSl) (ab4.same S47) (as4.same S47) (b6.same x7.same) .nil (Alike.refl _) wordOk.val wordOk.val
  have i8 := i7.trans (x8.inn i7.len)
  obtain ⟨wv9, h9, e9, x9, b9⟩ := spec_word h8
  have i9 := i8.trans (x9.inn i8.len)
  obtain ⟨h10, e10, x10⟩ := spec_SizeM (m := wordM) (sv := nilSl) b9 .nil wordOk
  rw [word_put, show ((7 : Nat) : Int) = 7 from rfl] at e10
  have i10 := i9.trans (x10.inn i9.len)
  obtain ⟨wv11, h11, e11, x11, b11⟩ := spec_word h10
  have i11 := i10.trans (x11.inn i10.len)
  obtain ⟨h12, e12, x12⟩ := spec_GoodM (m := wordM) (sv := nilSl) b11 .nil wordOk
  rw [word_good] at e12
  have i12 := i11.trans (x12.inn i11.len)
  simp -implicitDefEqProofs (maxSteps := 1000000) (disch := omega) only [dcT, dcF, e1, e2, e3, k4, st4, l4, ldCM c4, e5, e6, e7, e8, e9, e10, e11, e12, eq_self, decide_true, ↓ret65, ↓cnd_true, ↓cnd_false, ↓Option.bind_some, ↓obH_some', bin_add, bin_sub, bin_mul, bin_lss, bin_leq, bin_gtr, bin_geq, bin_eql, bin_neq, un_not, un_neg, Option.bind_some, Option.bind_none, Option.map_some, cnd_true, cnd_false, pickV_true, pickV_false, gd_true, gd_false, gdV_true, gdV_false, gdH_true, gdH_false, gdS_true, gdS_false, wt_ff, wt_tt, wt_ft, wt_tf, wt_undef, obH_some', extractV_tuple, nilCheckV_ptr, againK_normal, againK_exit, againK_ret, blockK_normal, blockK_same, blockK_ret, seqK_normal, seqK_exit, seqK_ret, fin_done, if_true', if_false', Bool.not_true, Bool.not_false, idx0, idx1, idx2, idx3, idx4, chk_nil_l, chk_nil_r, done_nm]
  exact ⟨_, rfl, done_ext' i12⟩
end Go.Am
namespace Go.Am
open Go.Proofs
set_option maxRecDepth 100000
set_option linter.all false
attribute [local congr] obind_congr obH_congr cnd_congr chk_congr retK_congr codeK_congr
variable {h h' : Heap} {p p1 p3 : Nat} {m n : MT} {bv sv bw sw : Value}
theorem slice_bytes {h : Heap} {f : Nat} {cs : List Value} {d : DT} (x : Reads Try.prog h f 23 cs d) : ∃ v bs, cs = [v] ∧ SB h v bs ∧ bs.length ≤ maxLen := by
  obtain ⟨q, l', v, css, rfl, e2, e3, e4, e5⟩ := reads_slice (e := 5) (by kernel_rfl) x
  obtain ⟨zs, g1, g2, g3⟩ := reads_ints (k := .u8) (by kernel_rfl) e4
  obtain ⟨bs, b1, b2⟩ := ints_bytes zs g3
  rw [show Try.prog.cellsOf 5 = 1 by kernel_rfl, g2, b2, ← g1, ← b1] at e3
  exact ⟨v, bs, e2, e3, by omega⟩
theorem Rd.msg {h : Heap} {v : Value} {d : DT} (r : Rd Try.prog h 104 v d) : ∃ m bv sv, v = msgA m bv sv ∧ SB h bv m.body ∧ SB h sv m.stamp ∧ (m.body.length < 2 ^ 38 → m.stamp.length < 2 ^ 38 → MTok m) := by
  obtain ⟨⟨f, a⟩, b⟩ := r
  have hst : isStruct Try.prog 104 = true := by kernel_rfl
  obtain ⟨g, l, rfl, hlen, ha⟩ := reads_struct Try.underlying104 a
  have hi : Try.prog.cellsOf 3 = 1 := by kernel_rfl
  have hu : Try.prog.cellsOf 46 = 1 := by kernel_rfl
  have hd : Try.prog.cellsOf 47 = 1 := by kernel_rfl
  have hf : Try.prog.cellsOf 84 = 1 := by kernel_rfl
  have hs : Try.prog.cellsOf 23 = 1 := by kernel_rfl
  rw [show Try.prog.cellsOf 104 = 10 by kernel_rfl] at hlen
  obtain ⟨c0, c1, c2, c3, c4, c5, c6, c7, c8, c9, hcs⟩ : ∃ c0 c1 c2 c3 c4 c5 c6 c7 c8 c9, v.cells.toList = [c0, c1, c2, c3, c4, c5, c6, c7, c8, c9] := by
    match v.cells.toList, hlen with
    | [a, b, c, d, e, f, g, i, j, k], _ => exact ⟨a, b, c, d, e, f, g, i, j, k, rfl⟩
  obtain ⟨cs, rfl⟩ : ∃ cs, v = .agg cs := by
    rcases b with ⟨_, x⟩ | x
    · exact x
    · rw [x] at hcs; simp at hcs
  have hcs' : cs = #[c0, c1, c2, c3, c4, c5, c6, c7, c8, c9] := by
    have : cs.toList = [c0, c1, c2, c3, c4, c5, c6, c7, c8, c9] := hcs
    rw [← Array.toArray_toList (xs := cs), this]
  subst hcs'
  rw [hcs] at ha
  cases ha with
  | cons a0 ha => cases ha with
    | cons a1 ha => cases ha with
      | cons a2 ha => cases ha with
        | cons a3 ha => cases ha with
          | cons a4 ha => cases ha with
            | cons a5 ha => cases ha with
              | cons a6 ha => cases ha with
                | cons a7 ha => cases ha with
                  | cons a8 ha => cases ha with
                    | cons a9 ha =>
                      cases ha
                      simp only [hi, hu, hd, hf, hs] at a0 a1 a2 a3 a4 a5 a6 a7 a8 a9
                      obtain ⟨z0, _, e0, w0⟩ := reads_int (k := .i64) (by kernel_rfl) a0
                      obtain ⟨z1, _, e1, w1⟩ := reads_int (k := .u64) (by kernel_rfl) a1
                      obtain ⟨z2, _, e2, w2⟩ := reads_int (k := .u64) (by kernel_rfl) a2
                      obtain ⟨z3, _, e3, w3⟩ := reads_int (k := .i64) (by kernel_rfl) a3
                      obtain ⟨z4, _, e4, w4⟩ := reads_int (k := .i64) (by kernel_rfl) a4
                      obtain ⟨z5, _, e5, w5⟩ := reads_float (k := .f64) (by kernel_rfl) a5
                      obtain ⟨z6, _, e6, w6⟩ := reads_int (k := .i64) (by kernel_rfl) a6
                      obtain ⟨z7, _, e7, w7⟩ := reads_int (k := .u64) (by kernel_rfl) a7
                      obtain ⟨v8, b8, e8, s8, _⟩ := slice_bytes a8
                      obtain ⟨v9, b9, e9, s9, _⟩ := slice_bytes a9
                      simp only [List.drop_zero, List.drop_succ_cons, List.take_succ_cons, List.take_zero, List.cons.injEq, and_true] at e0 e1 e2 e3 e4 e5 e6 e7 e8 e9
                      subst e0 e1 e2 e3 e4 e5 e6 e7 e8 e9
                      have y0 := wf_i64 w0
                      have y1 := wf_nat rfl w1
                      have y2 := wf_nat rfl w2
                      have y3 := wf_i64 w3
                      have y4 := wf_i64 w4
                      have y6 := wf_i64 w6
                      have y7 := wf_nat rfl w7
                      simp only [IntKind.bits] at y1 y2 y7
                      have y5 : z5 < 2 ^ 64 := by simpa [Lit.wf] using w5
                      refine ⟨⟨z0, z1.toNat, z2.toNat, z3, z4, z5, z6, z7.toNat, b8, b9⟩, c8, c9, ?_, s8, s9, fun l8 l9 => ⟨y0.1, y0.2, by show z1.toNat < 2 ^ 64; omega, by show z2.toNat < 2 ^ 64; omega, y3.1, y3.2, y4.1, y4.2, y5, y6.1, y6.2, by show z7.toNat < 2 ^ 64; omega, l8, l9⟩⟩
                      simp only [msgA, Int.toNat_of_nonneg y1.1, Int.toNat_of_nonneg y2.1, Int.toNat_of_nonneg y7.1]
theorem putM_len (g : GoodF m) : 5 < (putM m).length := by
  unfold putM
  rw [if_pos (goodF.2 g)]
  unfold encM encH encB
  have p1 := putL_len m.frm.toNat
  have p2 := putL_len m.num
  have p3 := putL_len m.to
  have p4 := putL_len m.kind.toNat
  have p5 := putL_len m.stamp.length
  have p6 := putL_len m.body.length
  have p7 := putL_len m.var.toNat
  have q1 := sizeN_pos m.frm.toNat
  have q2 := sizeN_pos m.num
  have q3 := sizeN_pos m.to
  have q4 := sizeN_pos m.kind.toNat
  have q5 := sizeN_pos m.stamp.length
  have q6 := sizeN_pos m.body.length
  have q7 := sizeN_pos m.var.toNat
  split <;> simp only [List.length_append] <;> omega
end Go.Am
namespace Go.Am
open Go.Proofs
set_option maxRecDepth 100000
set_option linter.all false
variable {m : MT}
theorem floatP_m (n : Nat) (hn : n < 2 ^ 64) (rest : List UInt8) : floatP (some (beT (keyF n) 8 ++ rest)) = (if nanB n = true then nanBits else n, some rest) := by
  have ht : (beT (keyF n) 8 ++ rest).take 8 = beT (keyF n) 8 := by rw [List.take_append_of_le_length (by rw [beT_len]; omega), List.take_of_length_le (by rw [beT_len]; omega)]
  have hd : (beT (keyF n) 8 ++ rest).drop 8 = rest := by
    have := List.drop_left (l₁ := beT (keyF n) 8) (l₂ := rest)
    rwa [beT_len] at this
  simp only [floatP]
  rw [if_neg (by rw [List.length_append, beT_len]; omega)]
  simp only [ht, hd, beN_be _ (keyF_lt hn), ofK_keyF n hn, if_true]
theorem keyF_m (n : Nat) : keyF (if nanB n = true then nanBits else n) = keyF n := by
  by_cases c : nanB n = true
  · rw [if_pos c]; unfold keyF; rw [if_pos c, if_pos (by decide)]
  · rw [if_neg c]
theorem floatP_cut (n : Nat) (hn : n < 2 ^ 64) (rest : List UInt8) (a : Nat) : floatP (some ((beT (keyF n) 8 ++ rest).take a)) = if a < 8 then (0, none) else (if nanB n = true then nanBits else n, some (rest.take (a - 8))) := by
  split
  · rename_i h
    simp only [floatP]
    rw [if_pos (by simp [beT_len]; omega)]
  · rename_i h
    rw [List.take_append, List.take_of_length_le (by rw [beT_len]; omega), beT_len]
    exact floatP_m n hn _
theorem setP_cut (n : Nat) (hn : n ≤ 65535) (rest : List UInt8) (a : Nat) : setP (some ((putL n ++ rest).take a)) 65535 = if a < (putL n).length then (0, none) else (n, some (rest.take (a - (putL n).length))) := by
  split
  · rename_i h
    rw [List.take_append_of_le_length (by omega)]
    simp only [setP, getL_cut n a h]
    rfl
  · rename_i h
    rw [List.take_append, List.take_of_length_le (by omega)]
    have := putL_pos n
    simp only [setP, getL_putL n (by omega : n < 2 ^ 64)]
    rw [if_neg, List.drop_left]
    rintro (h | h)
    · omega
    · exact h ((outB_16 (by omega)).2 hn)
theorem bytesP_cut2 (body rest : List UInt8) (hb : body.length < 2 ^ 64) (m : Nat) (hm : body.length ≤ m) (a : Nat) : bytesP (some ((putL body.length ++ (body ++ rest)).take a)) m = if a < (putL body.length ++ body).length then ([], none) else (body, some (rest.take (a - (putL body.length ++ body).length))) := by
  rw [← List.append_assoc]
  split
  · rename_i h
    rw [List.take_append_of_le_length (by omega)]
    exact bytesP_cut body [] hb m hm a h
  · rename_i h
    rw [List.take_append, List.take_of_length_le (by omega), List.append_assoc]
    exact bytesP_put body _ hb m hm
theorem body_none (x : MT × Option (List UInt8)) (h : x.2 = none) : (bodyR x).2 = none := by
  unfold bodyR; split <;> simp only [h] <;> rfl
theorem val_none (x : MT × Option (List UInt8)) (h : x.2 = none) : (valR x).2 = none := by
  unfold valR; split
  · simp only [h]; rfl
  · exact h
theorem st_none (x : MT × Option (List UInt8)) (h : x.2 = none) : finR (stR x) = none := by
  unfold finR stR
  simp only [h]
  rw [if_neg]
  rintro ⟨h1, _⟩
  cases h1
theorem all_none (x : MT × Option (List UInt8)) (h : x.2 = none) : finR (stR (valR (bodyR x))) = none := st_none _ (val_none _ (body_none _ h))
def valued (m : MT) : Prop := m.kind = 1 ∨ m.kind = 3
def decM (m : MT) : MT := { m with val := if m.kind = 1 ∨ m.kind = 3 then (if nanB m.val = true then nanBits else m.val) else 0 }
theorem dec_good (g : GoodF m) : goodMsg (decM m) = true := by
  refine goodF.2 ⟨g.f0, g.f1, g.num, g.to0, g.to, g.nh, g.k0, g.k3, ?_, g.st, g.k⟩
  have := g.tg
  unfold taggedB at this ⊢
  change (if m.kind = 1 then decide (m.wr = m.frm) && decide (0 < m.tag) else if m.kind = 3 then decide (-1 ≤ m.wr ∧ m.wr ≤ 15) && (decide (m.tag = 0) == decide (m.wr = -1)) else decide (m.wr = 0) && (decide (m.tag = 0) && decide (keyF (if m.kind = 1 ∨ m.kind = 3 then if nanB m.val = true then nanBits else m.val else 0) = keyF 0))) = true
  by_cases c1 : m.kind = 1
  · rw [if_pos c1] at this ⊢; exact this
  · rw [if_neg c1] at this ⊢
    by_cases c3 : m.kind = 3
    · rw [if_pos c3] at this ⊢; exact this
    · rw [if_neg c3] at this ⊢
      rw [if_neg (fun x => x.elim c1 c3)]
      simp only [Bool.and_eq_true, decide_eq_true_eq] at this ⊢
      exact ⟨this.1, this.2.1, trivial⟩
theorem GoodF.plain (g : GoodF m) (c : ¬ (m.kind = 1 ∨ m.kind = 3)) : m.wr = 0 ∧ m.tag = 0 ∧ keyF m.val = keyF 0 := by
  have := g.tg
  unfold taggedB at this
  rw [if_neg (fun x => c (.inl x)), if_neg (fun x => c (.inr x))] at this
  simp only [Bool.and_eq_true, decide_eq_true_eq] at this
  exact this
/-- the header, cut -/
theorem hd_cut (g : GoodF m) (ok : MTok m) (rest : List UInt8) (a : Nat) :
    (a < (encH m).length → (hdR ((encH m ++ rest).take a)).2 = none) ∧ ((encH m).length ≤ a → hdR ((encH m ++ rest).take a) = (⟨m.frm, m.num, m.to, m.kind, 0, 0, 0, 0, [], []⟩, some (rest.take (a - (encH m).length)))) := by
  have f0 := g.f0
  have f1 := g.f1
  have k0 := g.k0
  have k3 := g.k3
  have e : encH m ++ rest = putL m.frm.toNat ++ (putL m.num ++ (putL m.to ++ (putL m.kind.toNat ++ rest))) := by simp [encH]
  have el : (encH m).length = (putL m.frm.toNat).length + (putL m.num).length + (putL m.to).length + (putL m.kind.toNat).length := by simp [encH]; omega
  rw [e, el]
  have hto := ok.to
  unfold hdR
  simp only []
  rw [numP_cut m.frm.toNat (by omega) _ 16 (by omega)]
  by_cases c1 : a < (putL m.frm.toNat).length
  · rw [if_pos c1]
    exact ⟨fun _ => rfl, fun h => absurd h (by omega)⟩
  rw [if_neg c1]
  simp only []
  rw [numP_cut m.num ok.num _ U64M (by have := ok.num; unfold U64M; omega)]
  by_cases c2 : a - (putL m.frm.toNat).length < (putL m.num).length
  · rw [if_pos c2]
    exact ⟨fun _ => rfl, fun h => absurd h (by omega)⟩
  rw [if_neg c2]
  simp only []
  rw [setP_cut m.to g.to]
  by_cases c3 : a - (putL m.frm.toNat).length - (putL m.num).length < (putL m.to).length
  · rw [if_pos c3]
    exact ⟨fun _ => rfl, fun h => absurd h (by omega)⟩
  rw [if_neg c3]
  simp only []
  rw [numP_cut m.kind.toNat (by omega) _ 3 (by omega)]
  by_cases c4 : a - (putL m.frm.toNat).length - (putL m.num).length - (putL m.to).length < (putL m.kind.toNat).length
  · rw [if_pos c4]
    exact ⟨fun _ => rfl, fun h => absurd h (by omega)⟩
  rw [if_neg c4]
  refine ⟨fun h => absurd h (by omega), fun _ => ?_⟩
  rw [show ((m.frm.toNat : Nat) : Int) = m.frm by omega, show ((m.kind.toNat : Nat) : Int) = m.kind by omega, show a - (putL m.frm.toNat).length - (putL m.num).length - (putL m.to).length - (putL m.kind.toNat).length = a - ((putL m.frm.toNat).length + (putL m.num).length + (putL m.to).length + (putL m.kind.toNat).length) by omega]
def mB (m : MT) : MT := ⟨m.frm, m.num, m.to, m.kind, m.var, 0, 0, 0, m.body, []⟩
theorem body_cut (g : GoodF m) (rest : List UInt8) (a : Nat) (h : a < (encB m).length) : (bodyR (⟨m.frm, m.num, m.to, m.kind, 0, 0, 0, 0, [], []⟩, some ((encB m ++ rest).take a))).2 = none := by
  have hb := g.body
  have gk := g.k
  unfold bodyR encB at *
  simp only []
  by_cases c : m.kind = 0
  · rw [if_pos c] at h ⊢
    rw [if_pos c, List.append_assoc, bytesP_cut2 _ _ (by omega) _ (by omega), if_pos h]
  · rw [if_neg c] at h gk ⊢
    rw [if_neg c, numP_cut _ (by omega) _ _ (by omega), if_pos h]
theorem body_all (g : GoodF m) (rest : List UInt8) (a : Nat) (h : (encB m).length ≤ a) : bodyR (⟨m.frm, m.num, m.to, m.kind, 0, 0, 0, 0, [], []⟩, some ((encB m ++ rest).take a)) = (mB m, some (rest.take (a - (encB m).length))) := by
  have hb := g.body
  have gk := g.k
  unfold bodyR encB mB at *
  simp only []
  by_cases c : m.kind = 0
  · rw [if_pos c] at h gk ⊢
    rw [if_pos c, List.append_assoc, bytesP_cut2 _ _ (by omega) _ (by omega), if_neg (by omega), gk.2]
  · rw [if_neg c] at h gk ⊢
    rw [if_neg c, numP_cut _ (by omega) _ _ (by omega), if_neg (by omega), show ((m.var.toNat : Nat) : Int) = m.var by omega, List.eq_nil_of_length_eq_zero gk.1]
def mV (m : MT) : MT := { decM m with stamp := [] }
theorem val_cut (g : GoodF m) (ok : MTok m) (rest : List UInt8) (a : Nat) : (a < (encV m).length → (valR (mB m, some ((encV m ++ rest).take a))).2 = none) ∧ ((encV m).length ≤ a → valR (mB m, some ((encV m ++ rest).take a)) = (mV m, some (rest.take (a - (encV m).length)))) := by
  have hw := g.wr
  unfold valR encV mB mV decM
  simp only []
  by_cases c : m.kind = 1 ∨ m.kind = 3
  · rw [if_pos c]
    simp only [if_pos c]
    have e : beT (keyF m.val) 8 ++ putL (m.wr + 1).toNat ++ putL m.tag ++ rest = beT (keyF m.val) 8 ++ (putL (m.wr + 1).toNat ++ (putL m.tag ++ rest)) := by simp
    have el : (beT (keyF m.val) 8 ++ putL (m.wr + 1).toNat ++ putL m.tag).length = 8 + (putL (m.wr + 1).toNat).length + (putL m.tag).length := by simp [beT_len]; omega
    rw [e, el, floatP_cut _ ok.val]
    by_cases c1 : a < 8
    · rw [if_pos c1]
      exact ⟨fun _ => rfl, fun h => absurd h (by omega)⟩
    rw [if_neg c1]
    simp only []
    rw [numP_cut _ (by omega) _ 16 (by omega)]
    by_cases c2 : a - 8 < (putL (m.wr + 1).toNat).length
    · rw [if_pos c2]
      exact ⟨fun _ => rfl, fun h => absurd h (by omega)⟩
    rw [if_neg c2]
    simp only []
    rw [numP_cut _ ok.tag _ U64M (by have := ok.tag; unfold U64M; omega)]
    by_cases c3 : a - 8 - (putL (m.wr + 1).toNat).length < (putL m.tag).length
    · rw [if_pos c3]
      exact ⟨fun _ => rfl, fun h => absurd h (by omega)⟩
    rw [if_neg c3]
    refine ⟨fun h => absurd h (by omega), fun _ => ?_⟩
    rw [show (((m.wr + 1).toNat : Nat) : Int) - 1 = m.wr by omega, show a - 8 - (putL (m.wr + 1).toNat).length - (putL m.tag).length = a - (8 + (putL (m.wr + 1).toNat).length + (putL m.tag).length) by omega]
  · rw [if_neg c]
    simp only [if_neg c]
    have gp := g.plain c
    refine ⟨fun h => absurd h (by simp), fun _ => ?_⟩
    rw [gp.1, gp.2.1]
    simp
theorem get_cut (g : GoodF m) (ok : MTok m) (a : Nat) (ha : a < (encM m).length) : getM ((encM m).take a) = none := by
  have e : encM m = encH m ++ (encB m ++ (encV m ++ (putL m.stamp.length ++ (m.stamp ++ [])))) := by simp [encM]
  have el : (encM m).length = (encH m).length + ((encB m).length + ((encV m).length + (putL m.stamp.length ++ m.stamp).length)) := by rw [e]; simp
  rw [el] at ha
  rw [e]
  unfold getM
  have h1 := hd_cut g ok (encB m ++ (encV m ++ (putL m.stamp.length ++ (m.stamp ++ [])))) a
  by_cases c1 : a < (encH m).length
  · exact all_none _ (h1.1 c1)
  rw [h1.2 (by omega)]
  by_cases c2 : a - (encH m).length < (encB m).length
  · exact st_none _ (val_none _ (body_cut g _ _ c2))
  rw [body_all g _ _ (by omega)]
  have h3 := val_cut g ok (putL m.stamp.length ++ (m.stamp ++ [])) (a - (encH m).length - (encB m).length)
  by_cases c3 : a - (encH m).length - (encB m).length < (encV m).length
  · exact st_none _ (h3.1 c3)
  rw [h3.2 (by omega)]
  have hst := g.st
  have hS : a - (encH m).length - (encB m).length - (encV m).length < (putL m.stamp.length ++ m.stamp).length := by omega
  have hb : bytesP (some ((putL m.stamp.length ++ (m.stamp ++ [])).take (a - (encH m).length - (encB m).length - (encV m).length))) 20000 = ([], none) := by
    rw [bytesP_cut2 _ _ (by omega) _ hst, if_pos hS]
  unfold finR stR
  simp only [hb]
  rw [if_neg]
  rintro ⟨x, _⟩
  cases x
theorem get_put (g : GoodF m) (ok : MTok m) : getM (encM m) = some (decM m) := by
  have e : encM m = encH m ++ (encB m ++ (encV m ++ (putL m.stamp.length ++ (m.stamp ++ [])))) := by simp [encM]
  have el : (encM m).length = (encH m).length + ((encB m).length + ((encV m).length + (putL m.stamp.length ++ m.stamp).length)) := by rw [e]; simp
  have ht : encM m = (encM m).take (encM m).length := by rw [List.take_length]
  rw [ht]
  generalize (encM m).length = a at *
  rw [e]
  unfold getM
  rw [(hd_cut g ok _ a).2 (by omega), body_all g _ _ (by omega), (val_cut g ok _ _).2 (by omega)]
  have hst := g.st
  have hS : ¬ a - (encH m).length - (encB m).length - (encV m).length < (putL m.stamp.length ++ m.stamp).length := by omega
  have hb : bytesP (some ((putL m.stamp.length ++ (m.stamp ++ [])).take (a - (encH m).length - (encB m).length - (encV m).length))) 20000 = (m.stamp, some []) := by
    rw [bytesP_cut2 _ _ (by omega) _ hst, if_neg hS]; simp
  unfold finR stR
  simp only [hb]
  have hm : ({ mV m with stamp := m.stamp } : MT) = decM m := rfl
  rw [hm, if_pos ⟨by simp [endP], dec_good g⟩]
end Go.Am
namespace Go.Am
open Go.Proofs
set_option maxRecDepth 100000
set_option linter.all false
attribute [local congr] obind_congr obH_congr cnd_congr chk_congr retK_congr codeK_congr
variable {h h' : Heap} {p : Nat} {m : MT} {bv sv : Value}
theorem spec_refGood0 (hb : SB h bv m.body) (hs : SB h sv m.stamp) (ok : MTok m) (kz : m.kind = 0) : ∃ h', evC Try.prog 72 #[msgA m bv sv] h = some (.bool (goodMsg m), h') ∧ HExt h h' := by
  rw [call72, c72_0_eq]
  have M := MC.new (h := nm h) 108 hb.nm hs.nm
  have i0 : In h.blks.length No (nm h) _ := In.new (by simp) (.cells (msgL m bv sv)) 108
  have k0 := bxRM (.int .i64 m.frm) (.int .u64 m.num) (.int .u64 m.to) (.int .i64 m.kind) (.int .i64 m.var) (.float .f64 m.val) (.int .i64 m.wr) (.int .u64 m.tag) bv sv (nm h)
  have bl : (nm h).blks.length = h.blks.length := rfl
  rw [bl] at M k0
  generalize (nm h).new (.cells (msgL m bv sv)) 108 = g0 at *
  have lb := M.b.row.len_eq etB.under
  have ls := M.s.row.len_eq etB.under
  have a6 := fun h => spec_In m.to ok.to m.frm h
  have d4 : decide (((m.to : Nat) : Int) = 0) = decide (m.to = 0) := by congr 1; apply propext; omega
  have bad : ¬ GoodF m → goodMsg m = false := fun hn => by rw [← Bool.not_eq_true]; exact fun hx => hn (goodF.1 hx)
  have d0 : decide (m.kind = 0) = true := decide_eq_true kz
  by_cases r1 : m.frm < 0
  · rw [bad fun g => (by have := g.f0; omega)]
    simp -implicitDefEqProofs (maxSteps := 1000000) (disch := omega) only [dcT, dcF, k0, faRM0, faRM1, faRM2, faRM3, faRM4, faRM5, faRM6, faRM7, faRM8, faRM9, ldIntV, vld64, ldFlV, ldB, M.l0, M.l1, M.l2, M.l3, M.l4, M.l5, M.l6, M.l7, M.l8, M.l9, lb, ls, a6, d4, d0, ↓ret72, ↓cnd_true, ↓cnd_false, ↓Option.bind_some, ↓obH_some', bin_add, bin_sub, bin_mul, bin_lss, bin_leq, bin_gtr, bin_geq, bin_eql, bin_neq, un_not, un_neg, Option.bind_some, Option.bind_none, Option.map_some, cnd_true, cnd_false, pickV_true, pickV_false, gd_true, gd_false, gdV_true, gdV_false, gdH_true, gdH_false, gdS_true, gdS_false, wt_ff, wt_tt, wt_ft, wt_tf, wt_undef, obH_some', extractV_tuple, nilCheckV_ptr, againK_normal, againK_exit, againK_ret, blockK_normal, blockK_same, blockK_ret, seqK_normal, seqK_exit, seqK_ret, fin_done, if_true', if_false', Bool.not_true, Bool.not_false, idx0, idx1, idx2, idx3, idx4, chk_nil_l, chk_nil_r, done_nm]
    exact ⟨_, rfl, done_ext' i0⟩
  by_cases r2 : 15 < m.frm
  · rw [bad fun g => (by have := g.f1; omega)]
    simp -implicitDefEqProofs (maxSteps := 1000000) (disch := omega) only [dcT, dcF, k0, faRM0, faRM1, faRM2, faRM3, faRM4, faRM5, faRM6, faRM7, faRM8, faRM9, ldIntV, vld64, ldFlV, ldB, M.l0, M.l1, M.l2, M.l3, M.l4, M.l5, M.l6, M.l7, M.l8, M.l9, lb, ls, a6, d4, d0, ↓ret72, ↓cnd_true, ↓cnd_false, ↓Option.bind_some, ↓obH_some', bin_add, bin_sub, bin_mul, bin_lss, bin_leq, bin_gtr, bin_geq, bin_eql, bin_neq, un_not, un_neg, Option.bind_some, Option.bind_none, Option.map_some, cnd_true, cnd_false, pickV_true, pickV_false, gd_true, gd_false, gdV_true, gdV_false, gdH_true, gdH_false, gdS_true, gdS_false, wt_ff, wt_tt, wt_ft, wt_tf, wt_undef, obH_some', extractV_tuple, nilCheckV_ptr, againK_normal, againK_exit, againK_ret, blockK_normal, blockK_same, blockK_ret, seqK_normal, seqK_exit, seqK_ret, fin_done, if_true', if_false', Bool.not_true, Bool.not_false, idx0, idx1, idx2, idx3, idx4, chk_nil_l, chk_nil_r, done_nm]
    exact ⟨_, rfl, done_ext' i0⟩
  by_cases r3 : m.num < 1
  · rw [bad fun g => (by have := g.num; omega)]
    simp -implicitDefEqProofs (maxSteps := 1000000) (disch := omega) only [dcT, dcF, k0, faRM0, faRM1, faRM2, faRM3, faRM4, faRM5, faRM6, faRM7, faRM8, faRM9, ldIntV, vld64, ldFlV, ldB, M.l0, M.l1, M.l2, M.l3, M.l4, M.l5, M.l6, M.l7, M.l8, M.l9, lb, ls, a6, d4, d0, ↓ret72, ↓cnd_true, ↓cnd_false, ↓Option.bind_some, ↓obH_some', bin_add, bin_sub, bin_mul, bin_lss, bin_leq, bin_gtr, bin_geq, bin_eql, bin_neq, un_not, un_neg, Option.bind_some, Option.bind_none, Option.map_some, cnd_true, cnd_false, pickV_true, pickV_false, gd_true, gd_false, gdV_true, gdV_false, gdH_true, gdH_false, gdS_true, gdS_false, wt_ff, wt_tt, wt_ft, wt_tf, wt_undef, obH_some', extractV_tuple, nilCheckV_ptr, againK_normal, againK_exit, againK_ret, blockK_normal, blockK_same, blockK_ret, seqK_normal, seqK_exit, seqK_ret, fin_done, if_true', if_false', Bool.not_true, Bool.not_false, idx0, idx1, idx2, idx3, idx4, chk_nil_l, chk_nil_r, done_nm]
    exact ⟨_, rfl, done_ext' i0⟩
  by_cases r4 : m.to = 0
  · rw [bad fun g => g.to0 r4]
    rw [decide_eq_true r4] at d4
    simp -implicitDefEqProofs (maxSteps := 1000000) (disch := omega) only [dcT, dcF, k0, faRM0, faRM1, faRM2, faRM3, faRM4, faRM5, faRM6, faRM7, faRM8, faRM9, ldIntV, vld64, ldFlV, ldB, M.l0, M.l1, M.l2, M.l3, M.l4, M.l5, M.l6, M.l7, M.l8, M.l9, lb, ls, a6, d4, d0, ↓ret72, ↓cnd_true, ↓cnd_false, ↓Option.bind_some, ↓obH_some', bin_add, bin_sub, bin_mul, bin_lss, bin_leq, bin_gtr, bin_geq, bin_eql, bin_neq, un_not, un_neg, Option.bind_some, Option.bind_none, Option.map_some, cnd_true, cnd_false, pickV_true, pickV_false, gd_true, gd_false, gdV_true, gdV_false, gdH_true, gdH_false, gdS_true, gdS_false, wt_ff, wt_tt, wt_ft, wt_tf, wt_undef, obH_some', extractV_tuple, nilCheckV_ptr, againK_normal, againK_exit, againK_ret, blockK_normal, blockK_same, blockK_ret, seqK_normal, seqK_exit, seqK_ret, fin_done, if_true', if_false', Bool.not_true, Bool.not_false, idx0, idx1, idx2, idx3, idx4, chk_nil_l, chk_nil_r, done_nm]
    exact ⟨_, rfl, done_ext' i0⟩
  rw [decide_eq_false r4] at d4
  by_cases r5 : 65535 < m.to
  · rw [bad fun g => (by have := g.to; omega)]
    simp -implicitDefEqProofs (maxSteps := 1000000) (disch := omega) only [dcT, dcF, k0, faRM0, faRM1, faRM2, faRM3, faRM4, faRM5, faRM6, faRM7, faRM8, faRM9, ldIntV, vld64, ldFlV, ldB, M.l0, M.l1, M.l2, M.l3, M.l4, M.l5, M.l6, M.l7, M.l8, M.l9, lb, ls, a6, d4, d0, ↓ret72, ↓cnd_true, ↓cnd_false, ↓Option.bind_some, ↓obH_some', bin_add, bin_sub, bin_mul, bin_lss, bin_leq, bin_gtr, bin_geq, bin_eql, bin_neq, un_not, un_neg, Option.bind_some, Option.bind_none, Option.map_some, cnd_true, cnd_false, pickV_true, pickV_false, gd_true, gd_false, gdV_true, gdV_false, gdH_true, gdH_false, gdS_true, gdS_false, wt_ff, wt_tt, wt_ft, wt_tf, wt_undef, obH_some', extractV_tuple, nilCheckV_ptr, againK_normal, againK_exit, againK_ret, blockK_normal, blockK_same, blockK_ret, seqK_normal, seqK_exit, seqK_ret, fin_done, if_true', if_false', Bool.not_true, Bool.not_false, idx0, idx1, idx2, idx3, idx4, chk_nil_l, chk_nil_r, done_nm]
    exact ⟨_, rfl, done_ext' i0⟩
  cases r6 : hasB m.to m.frm with
  | true =>
    rw [bad fun g => (by have := g.nh; rw [r6] at this; cases this)]
    rw [r6] at a6
    simp -implicitDefEqProofs (maxSteps := 1000000) (disch := omega) only [dcT, dcF, k0, faRM0, faRM1, faRM2, faRM3, faRM4, faRM5, faRM6, faRM7, faRM8, faRM9, ldIntV, vld64, ldFlV, ldB, M.l0, M.l1, M.l2, M.l3, M.l4, M.l5, M.l6, M.l7, M.l8, M.l9, lb, ls, a6, d4, d0, ↓ret72, ↓cnd_true, ↓cnd_false, ↓Option.bind_some, ↓obH_some', bin_add, bin_sub, bin_mul, bin_lss, bin_leq, bin_gtr, bin_geq, bin_eql, bin_neq, un_not, un_neg, Option.bind_some, Option.bind_none, Option.map_some, cnd_true, cnd_false, pickV_true, pickV_false, gd_true, gd_false, gdV_true, gdV_false, gdH_true, gdH_false, gdS_true, gdS_false, wt_ff, wt_tt, wt_ft, wt_tf, wt_undef, obH_some', extractV_tuple, nilCheckV_ptr, againK_normal, againK_exit, againK_ret, blockK_normal, blockK_same, blockK_ret, seqK_normal, seqK_exit, seqK_ret, fin_done, if_true', if_false', Bool.not_true, Bool.not_false, idx0, idx1, idx2, idx3, idx4, chk_nil_l, chk_nil_r, done_nm]
    exact ⟨_, rfl, done_ext' i0⟩
  | false =>
  rw [r6] at a6
  by_cases r7 : m.kind < 0
  · rw [bad fun g => (by have := g.k0; omega)]
    simp -implicitDefEqProofs (maxSteps := 1000000) (disch := omega) only [dcT, dcF, k0, faRM0, faRM1, faRM2, faRM3, faRM4, faRM5, faRM6, faRM7, faRM8, faRM9, ldIntV, vld64, ldFlV, ldB, M.l0, M.l1, M.l2, M.l3, M.l4, M.l5, M.l6, M.l7, M.l8, M.l9, lb, ls, a6, d4, d0, ↓ret72, ↓cnd_true, ↓cnd_false, ↓Option.bind_some, ↓obH_some', bin_add, bin_sub, bin_mul, bin_lss, bin_leq, bin_gtr, bin_geq, bin_eql, bin_neq, un_not, un_neg, Option.bind_some, Option.bind_none, Option.map_some, cnd_true, cnd_false, pickV_true, pickV_false, gd_true, gd_false, gdV_true, gdV_false, gdH_true, gdH_false, gdS_true, gdS_false, wt_ff, wt_tt, wt_ft, wt_tf, wt_undef, obH_some', extractV_tuple, nilCheckV_ptr, againK_normal, againK_exit, againK_ret, blockK_normal, blockK_same, blockK_ret, seqK_normal, seqK_exit, seqK_ret, fin_done, if_true', if_false', Bool.not_true, Bool.not_false, idx0, idx1, idx2, idx3, idx4, chk_nil_l, chk_nil_r, done_nm]
    exact ⟨_, rfl, done_ext' i0⟩
  by_cases r8 : 3 < m.kind
  · rw [bad fun g => (by have := g.k3; omega)]
    simp -implicitDefEqProofs (maxSteps := 1000000) (disch := omega) only [dcT, dcF, k0, faRM0, faRM1, faRM2, faRM3, faRM4, faRM5, faRM6, faRM7, faRM8, faRM9, ldIntV, vld64, ldFlV, ldB, M.l0, M.l1, M.l2, M.l3, M.l4, M.l5, M.l6, M.l7, M.l8, M.l9, lb, ls, a6, d4, d0, ↓ret72, ↓cnd_true, ↓cnd_false, ↓Option.bind_some, ↓obH_some', bin_add, bin_sub, bin_mul, bin_lss, bin_leq, bin_gtr, bin_geq, bin_eql, bin_neq, un_not, un_neg, Option.bind_some, Option.bind_none, Option.map_some, cnd_true, cnd_false, pickV_true, pickV_false, gd_true, gd_false, gdV_true, gdV_false, gdH_true, gdH_false, gdS_true, gdS_false, wt_ff, wt_tt, wt_ft, wt_tf, wt_undef, obH_some', extractV_tuple, nilCheckV_ptr, againK_normal, againK_exit, againK_ret, blockK_normal, blockK_same, blockK_ret, seqK_normal, seqK_exit, seqK_ret, fin_done, if_true', if_false', Bool.not_true, Bool.not_false, idx0, idx1, idx2, idx3, idx4, chk_nil_l, chk_nil_r, done_nm]
    exact ⟨_, rfl, done_ext' i0⟩
  by_cases r9 : 256 < m.body.length
  · rw [bad fun g => (by have := g.body; omega)]
    simp -implicitDefEqProofs (maxSteps := 1000000) (disch := omega) only [dcT, dcF, k0, faRM0, faRM1, faRM2, faRM3, faRM4, faRM5, faRM6, faRM7, faRM8, faRM9, ldIntV, vld64, ldFlV, ldB, M.l0, M.l1, M.l2, M.l3, M.l4, M.l5, M.l6, M.l7, M.l8, M.l9, lb, ls, a6, d4, d0, ↓ret72, ↓cnd_true, ↓cnd_false, ↓Option.bind_some, ↓obH_some', bin_add, bin_sub, bin_mul, bin_lss, bin_leq, bin_gtr, bin_geq, bin_eql, bin_neq, un_not, un_neg, Option.bind_some, Option.bind_none, Option.map_some, cnd_true, cnd_false, pickV_true, pickV_false, gd_true, gd_false, gdV_true, gdV_false, gdH_true, gdH_false, gdS_true, gdS_false, wt_ff, wt_tt, wt_ft, wt_tf, wt_undef, obH_some', extractV_tuple, nilCheckV_ptr, againK_normal, againK_exit, againK_ret, blockK_normal, blockK_same, blockK_ret, seqK_normal, seqK_exit, seqK_ret, fin_done, if_true', if_false', Bool.not_true, Bool.not_false, idx0, idx1, idx2, idx3, idx4, chk_nil_l, chk_nil_r, done_nm]
    exact ⟨_, rfl, done_ext' i0⟩
  by_cases r11 : m.var < 0
  · rw [bad fun g => (by have := g.k; rw [if_pos kz] at this; omega)]
    simp -implicitDefEqProofs (maxSteps := 1000000) (disch := omega) only [dcT, dcF, k0, faRM0, faRM1, faRM2, faRM3, faRM4, faRM5, faRM6, faRM7, faRM8, faRM9, ldIntV, vld64, ldFlV, ldB, M.l0, M.l1, M.l2, M.l3, M.l4, M.l5, M.l6, M.l7, M.l8, M.l9, lb, ls, a6, d4, d0, ↓ret72, ↓cnd_true, ↓cnd_false, ↓Option.bind_some, ↓obH_some', bin_add, bin_sub, bin_mul, bin_lss, bin_leq, bin_gtr, bin_geq, bin_eql, bin_neq, un_not, un_neg, Option.bind_some, Option.bind_none, Option.map_some, cnd_true, cnd_false, pickV_true, pickV_false, gd_true, gd_false, gdV_true, gdV_false, gdH_true, gdH_false, gdS_true, gdS_false, wt_ff, wt_tt, wt_ft, wt_tf, wt_undef, obH_some', extractV_tuple, nilCheckV_ptr, againK_normal, againK_exit, againK_ret, blockK_normal, blockK_same, blockK_ret, seqK_normal, seqK_exit, seqK_ret, fin_done, if_true', if_false', Bool.not_true, Bool.not_false, idx0, idx1, idx2, idx3, idx4, chk_nil_l, chk_nil_r, done_nm]
    exact ⟨_, rfl, done_ext' i0⟩
  by_cases r12 : 15 < m.var
  · rw [bad fun g => (by have := g.k; rw [if_pos kz] at this; omega)]
    simp -implicitDefEqProofs (maxSteps := 1000000) (disch := omega) only [dcT, dcF, k0, faRM0, faRM1, faRM2, faRM3, faRM4, faRM5, faRM6, faRM7, faRM8, faRM9, ldIntV, vld64, ldFlV, ldB, M.l0, M.l1, M.l2, M.l3, M.l4, M.l5, M.l6, M.l7, M.l8, M.l9, lb, ls, a6, d4, d0, ↓ret72, ↓cnd_true, ↓cnd_false, ↓Option.bind_some, ↓obH_some', bin_add, bin_sub, bin_mul, bin_lss, bin_leq, bin_gtr, bin_geq, bin_eql, bin_neq, un_not, un_neg, Option.bind_some, Option.bind_none, Option.map_some, cnd_true, cnd_false, pickV_true, pickV_false, gd_true, gd_false, gdV_true, gdV_false, gdH_true, gdH_false, gdS_true, gdS_false, wt_ff, wt_tt, wt_ft, wt_tf, wt_undef, obH_some', extractV_tuple, nilCheckV_ptr, againK_normal, againK_exit, againK_ret, blockK_normal, blockK_same, blockK_ret, seqK_normal, seqK_exit, seqK_ret, fin_done, if_true', if_false', Bool.not_true, Bool.not_false, idx0, idx1, idx2, idx3, idx4, chk_nil_l, chk_nil_r, done_nm]
    exact ⟨_, rfl, done_ext' i0⟩
  by_cases r13 : m.var = 0
  rotate_left
  · have d13 : decide (m.var = 0) = false := decide_eq_false r13
    rw [bad fun g => (by have := g.k; rw [if_pos kz] at this; omega)]
    simp -implicitDefEqProofs (maxSteps := 1000000) (disch := omega) only [dcT, dcF, k0, faRM0, faRM1, faRM2, faRM3, faRM4, faRM5, faRM6, faRM7, faRM8, faRM9, ldIntV, vld64, ldFlV, ldB, M.l0, M.l1, M.l2, M.l3, M.l4, M.l5, M.l6, M.l7, M.l8, M.l9, lb, ls, a6, d4, d0, d13, ne_eq, Bool.not_false, decide_not, ↓ret72, ↓cnd_true, ↓cnd_false, ↓Option.bind_some, ↓obH_some', bin_add, bin_sub, bin_mul, bin_lss, bin_leq, bin_gtr, bin_geq, bin_eql, bin_neq, un_not, un_neg, Option.bind_some, Option.bind_none, Option.map_some, cnd_true, cnd_false, pickV_true, pickV_false, gd_true, gd_false, gdV_true, gdV_false, gdH_true, gdH_false, gdS_true, gdS_false, wt_ff, wt_tt, wt_ft, wt_tf, wt_undef, obH_some', extractV_tuple, nilCheckV_ptr, againK_normal, againK_exit, againK_ret, blockK_normal, blockK_same, blockK_ret, seqK_normal, seqK_exit, seqK_ret, fin_done, if_true', if_false', Bool.not_true, Bool.not_false, idx0, idx1, idx2, idx3, idx4, chk_nil_l, chk_nil_r, done_nm]
    exact ⟨_, rfl, done_ext' i0⟩
  have d13 : decide (m.var = 0) = true := decide_eq_true r13
  by_cases r14 : 20000 < m.stamp.length
  · rw [bad fun g => (by have := g.st; omega)]
    simp -implicitDefEqProofs (maxSteps := 1000000) (disch := omega) only [dcT, dcF, k0, faRM0, faRM1, faRM2, faRM3, faRM4, faRM5, faRM6, faRM7, faRM8, faRM9, ldIntV, vld64, ldFlV, ldB, M.l0, M.l1, M.l2, M.l3, M.l4, M.l5, M.l6, M.l7, M.l8, M.l9, lb, ls, a6, d4, d0, d13, ne_eq, Bool.not_true, decide_not, ↓ret72, ↓cnd_true, ↓cnd_false, ↓Option.bind_some, ↓obH_some', bin_add, bin_sub, bin_mul, bin_lss, bin_leq, bin_gtr, bin_geq, bin_eql, bin_neq, un_not, un_neg, Option.bind_some, Option.bind_none, Option.map_some, cnd_true, cnd_false, pickV_true, pickV_false, gd_true, gd_false, gdV_true, gdV_false, gdH_true, gdH_false, gdS_true, gdS_false, wt_ff, wt_tt, wt_ft, wt_tf, wt_undef, obH_some', extractV_tuple, nilCheckV_ptr, againK_normal, againK_exit, againK_ret, blockK_normal, blockK_same, blockK_ret, seqK_normal, seqK_exit, seqK_ret, fin_done, if_true', if_false', Bool.not_true, Bool.not_false, idx0, idx1, idx2, idx3, idx4, chk_nil_l, chk_nil_r, done_nm]
    exact ⟨_, rfl, done_ext' i0⟩
  by_cases r15 : m.wr < -1
  · rw [bad fun g => (by have := g.wr; omega)]
    simp -implicitDefEqProofs (maxSteps := 1000000) (disch := omega) only [dcT, dcF, k0, faRM0, faRM1, faRM2, faRM3, faRM4, faRM5, faRM6, faRM7, faRM8, faRM9, ldIntV, vld64, ldFlV, ldB, M.l0, M.l1, M.l2, M.l3, M.l4, M.l5, M.l6, M.l7, M.l8, M.l9, lb, ls, a6, d4, d0, d13, ne_eq, Bool.not_true, decide_not, ↓ret72, ↓cnd_true, ↓cnd_false, ↓Option.bind_some, ↓obH_some', bin_add, bin_sub, bin_mul, bin_lss, bin_leq, bin_gtr, bin_geq, bin_eql, bin_neq, un_not, un_neg, Option.bind_some, Option.bind_none, Option.map_some, cnd_true, cnd_false, pickV_true, pickV_false, gd_true, gd_false, gdV_true, gdV_false, gdH_true, gdH_false, gdS_true, gdS_false, wt_ff, wt_tt, wt_ft, wt_tf, wt_undef, obH_some', extractV_tuple, nilCheckV_ptr, againK_normal, againK_exit, againK_ret, blockK_normal, blockK_same, blockK_ret, seqK_normal, seqK_exit, seqK_ret, fin_done, if_true', if_false', Bool.not_true, Bool.not_false, idx0, idx1, idx2, idx3, idx4, chk_nil_l, chk_nil_r, done_nm]
    exact ⟨_, rfl, done_ext' i0⟩
  by_cases r16 : 15 < m.wr
  · rw [bad fun g => (by have := g.wr; omega)]
    simp -implicitDefEqProofs (maxSteps := 1000000) (disch := omega) only [dcT, dcF, k0, faRM0, faRM1, faRM2, faRM3, faRM4, faRM5, faRM6, faRM7, faRM8, faRM9, ldIntV, vld64, ldFlV, ldB, M.l0, M.l1, M.l2, M.l3, M.l4, M.l5, M.l6, M.l7, M.l8, M.l9, lb, ls, a6, d4, d0, d13, ne_eq, Bool.not_true, decide_not, ↓ret72, ↓cnd_true, ↓cnd_false, ↓Option.bind_some, ↓obH_some', bin_add, bin_sub, bin_mul, bin_lss, bin_leq, bin_gtr, bin_geq, bin_eql, bin_neq, un_not, un_neg, Option.bind_some, Option.bind_none, Option.map_some, cnd_true, cnd_false, pickV_true, pickV_false, gd_true, gd_false, gdV_true, gdV_false, gdH_true, gdH_false, gdS_true, gdS_false, wt_ff, wt_tt, wt_ft, wt_tf, wt_undef, obH_some', extractV_tuple, nilCheckV_ptr, againK_normal, againK_exit, againK_ret, blockK_normal, blockK_same, blockK_ret, seqK_normal, seqK_exit, seqK_ret, fin_done, if_true', if_false', Bool.not_true, Bool.not_false, idx0, idx1, idx2, idx3, idx4, chk_nil_l, chk_nil_r, done_nm]
    exact ⟨_, rfl, done_ext' i0⟩
  have d1 : decide (m.kind = 1) = false := decide_eq_false (by omega)
  have d3 : decide (m.kind = 3) = false := decide_eq_false (by omega)
  have ev : goodMsg m = taggedB m := (by
      have : goodMsg m = true ↔ taggedB m = true := ⟨fun hx => (goodF.1 hx).tg, fun ht => goodF.2 ⟨by omega, by omega, by omega, r4, by omega, r6, by omega, by omega, ht, by omega, by first | (rw [if_pos kz]; omega) | (rw [if_neg kz]; omega)⟩⟩
      cases h1 : goodMsg m <;> cases h2 : taggedB m <;> simp_all)
  rw [ev]
  unfold taggedB
  rw [if_neg (by omega), if_neg (by omega)]
  have es := fun h => spec_refSame m.val 0 ok.val (by omega) h
  have dt : decide (((m.tag : Nat) : Int) = 0) = decide (m.tag = 0) := by congr 1; apply propext; omega
  by_cases v1 : keyF m.val = keyF 0
  · rw [decide_eq_true v1] at es ⊢
    by_cases v2 : m.wr = 0
    · have e2 : decide (m.wr = 0) = true := decide_eq_true v2
      rw [e2, Bool.true_and, Bool.and_true]
      simp -implicitDefEqProofs (maxSteps := 1000000) (disch := omega) only [dcT, dcF, k0, faRM0, faRM1, faRM2, faRM3, faRM4, faRM5, faRM6, faRM7, faRM8, faRM9, ldIntV, vld64, ldFlV, ldB, M.l0, M.l1, M.l2, M.l3, M.l4, M.l5, M.l6, M.l7, M.l8, M.l9, lb, ls, a6, d4, d0, d13, ne_eq, Bool.not_true, decide_not, d1, d3, es, e2, dt, ↓ret72, ↓cnd_true, ↓cnd_false, ↓Option.bind_some, ↓obH_some', bin_add, bin_sub, bin_mul, bin_lss, bin_leq, bin_gtr, bin_geq, bin_eql, bin_neq, un_not, un_neg, Option.bind_some, Option.bind_none, Option.map_some, cnd_true, cnd_false, pickV_true, pickV_false, gd_true, gd_false, gdV_true, gdV_false, gdH_true, gdH_false, gdS_true, gdS_false, wt_ff, wt_tt, wt_ft, wt_tf, wt_undef, obH_some', extractV_tuple, nilCheckV_ptr, againK_normal, againK_exit, againK_ret, blockK_normal, blockK_same, blockK_ret, seqK_normal, seqK_exit, seqK_ret, fin_done, if_true', if_false', Bool.not_true, Bool.not_false, idx0, idx1, idx2, idx3, idx4, chk_nil_l, chk_nil_r, done_nm]
      exact ⟨_, rfl, done_ext' i0⟩
    · have e2 : decide (m.wr = 0) = false := decide_eq_false v2
      rw [e2, Bool.false_and]
      simp -implicitDefEqProofs (maxSteps := 1000000) (disch := omega) only [dcT, dcF, k0, faRM0, faRM1, faRM2, faRM3, faRM4, faRM5, faRM6, faRM7, faRM8, faRM9, ldIntV, vld64, ldFlV, ldB, M.l0, M.l1, M.l2, M.l3, M.l4, M.l5, M.l6, M.l7, M.l8, M.l9, lb, ls, a6, d4, d0, d13, ne_eq, Bool.not_true, decide_not, d1, d3, es, e2, ↓ret72, ↓cnd_true, ↓cnd_false, ↓Option.bind_some, ↓obH_some', bin_add, bin_sub, bin_mul, bin_lss, bin_leq, bin_gtr, bin_geq, bin_eql, bin_neq, un_not, un_neg, Option.bind_some, Option.bind_none, Option.map_some, cnd_true, cnd_false, pickV_true, pickV_false, gd_true, gd_false, gdV_true, gdV_false, gdH_true, gdH_false, gdS_true, gdS_false, wt_ff, wt_tt, wt_ft, wt_tf, wt_undef, obH_some', extractV_tuple, nilCheckV_ptr, againK_normal, againK_exit, againK_ret, blockK_normal, blockK_same, blockK_ret, seqK_normal, seqK_exit, seqK_ret, fin_done, if_true', if_false', Bool.not_true, Bool.not_false, idx0, idx1, idx2, idx3, idx4, chk_nil_l, chk_nil_r, done_nm]
      exact ⟨_, rfl, done_ext' i0⟩
  · rw [decide_eq_false v1] at es ⊢
    rw [Bool.and_false, Bool.and_false]
    simp -implicitDefEqProofs (maxSteps := 1000000) (disch := omega) only [dcT, dcF, k0, faRM0, faRM1, faRM2, faRM3, faRM4, faRM5, faRM6, faRM7, faRM8, faRM9, ldIntV, vld64, ldFlV, ldB, M.l0, M.l1, M.l2, M.l3, M.l4, M.l5, M.l6, M.l7, M.l8, M.l9, lb, ls, a6, d4, d0, d13, ne_eq, Bool.not_true, decide_not, d1, d3, es, ↓ret72, ↓cnd_true, ↓cnd_false, ↓Option.bind_some, ↓obH_some', bin_add, bin_sub, bin_mul, bin_lss, bin_leq, bin_gtr, bin_geq, bin_eql, bin_neq, un_not, un_neg, Option.bind_some, Option.bind_none, Option.map_some, cnd_true, cnd_false, pickV_true, pickV_false, gd_true, gd_false, gdV_true, gdV_false, gdH_true, gdH_false, gdS_true, gdS_false, wt_ff, wt_tt, wt_ft, wt_tf, wt_undef, obH_some', extractV_tuple, nilCheckV_ptr, againK_normal, againK_exit, againK_ret, blockK_normal, blockK_same, blockK_ret, seqK_normal, seqK_exit, seqK_ret, fin_done, if_true', if_false', Bool.not_true, Bool.not_false, idx0, idx1, idx2, idx3, idx4, chk_nil_l, chk_nil_r, done_nm]
    exact ⟨_, rfl, done_ext' i0⟩
theorem spec_refGood1 (hb : SB h bv m.body) (hs : SB h sv m.stamp) (ok : MTok m) (kz : ¬ m.kind = 0) : ∃ h', evC Try.prog 72 #[msgA m bv sv] h = some (.bool (goodMsg m), h') ∧ HExt h h' := by
  rw [call72, c72_0_eq]
  have M := MC.new (h := nm h) 108 hb.nm hs.nm
  have i0 : In h.blks.length No (nm h) _ := In.new (by simp) (.cells (msgL m bv sv)) 108
  have k0 := bxRM (.int .i64 m.frm) (.int .u64 m.num) (.int .u64 m.to) (.int .i64 m.kind) (.int .i64 m.var) (.float .f64 m.val) (.int .i64 m.wr) (.int .u64 m.tag) bv sv (nm h)
  have bl : (nm h).blks.length = h.blks.length := rfl
  rw [bl] at M k0
  generalize (nm h).new (.cells (msgL m bv sv)) 108 = g0 at *
  have lb := M.b.row.len_eq etB.under
  have ls := M.s.row.len_eq etB.under
  have a6 := fun h => spec_In m.to ok.to m.frm h
  have d4 : decide (((m.to : Nat) : Int) = 0) = decide (m.to = 0) := by congr 1; apply propext; omega
  have bad : ¬ GoodF m → goodMsg m = false := fun hn => by rw [← Bool.not_eq_true]; exact fun hx => hn (goodF.1 hx)
  have d0 : decide (m.kind = 0) = false := decide_eq_false kz
  by_cases r1 : m.frm < 0
  · rw [bad fun g => (by have := g.f0; omega)]
    simp -implicitDefEqProofs (maxSteps := 1000000) (disch := omega) only [dcT, dcF, k0, faRM0, faRM1, faRM2, faRM3, faRM4, faRM5, faRM6, faRM7, faRM8, faRM9, ldIntV, vld64, ldFlV, ldB, M.l0, M.l1, M.l2, M.l3, M.l4, M.l5, M.l6, M.l7, M.l8, M.l9, lb, ls, a6, d4, d0, ↓ret72, ↓cnd_true, ↓cnd_false, ↓Option.bind_some, ↓obH_some', bin_add, bin_sub, bin_mul, bin_lss, bin_leq, bin_gtr, bin_geq, bin_eql, bin_neq, un_not, un_neg, Option.bind_some, Option.bind_none, Option.map_some, cnd_true, cnd_false, pickV_true, pickV_false, gd_true, gd_false, gdV_true, gdV_false, gdH_true, gdH_false, gdS_true, gdS_false, wt_ff, wt_tt, wt_ft, wt_tf, wt_undef, obH_some', extractV_tuple, nilCheckV_ptr, againK_normal, againK_exit, againK_ret, blockK_normal, blockK_same, blockK_ret, seqK_normal, seqK_exit, seqK_ret, fin_done, if_true', if_false', Bool.not_true, Bool.not_false, idx0, idx1, idx2, idx3, idx4, chk_nil_l, chk_nil_r, done_nm]
    exact ⟨_, rfl, done_ext' i0⟩
  by_cases r2 : 15 < m.frm
  · rw [bad fun g => (by have := g.f1; omega)]
    simp -implicitDefEqProofs (maxSteps := 1000000) (disch := omega) only [dcT, dcF, k0, faRM0, faRM1, faRM2, faRM3, faRM4, faRM5, faRM6, faRM7, faRM8, faRM9, ldIntV, vld64, ldFlV, ldB, M.l0, M.l1, M.l2, M.l3, M.l4, M.l5, M.l6, M.l7, M.l8, M.l9, lb, ls, a6, d4, d0, ↓ret72, ↓cnd_true, ↓cnd_false, ↓Option.bind_some, ↓obH_some', bin_add, bin_sub, bin_mul, bin_lss, bin_leq, bin_gtr, bin_geq, bin_eql, bin_neq, un_not, un_neg, Option.bind_some, Option.bind_none, Option.map_some, cnd_true, cnd_false, pickV_true, pickV_false, gd_true, gd_false, gdV_true, gdV_false, gdH_true, gdH_false, gdS_true, gdS_false, wt_ff, wt_tt, wt_ft, wt_tf, wt_undef, obH_some', extractV_tuple, nilCheckV_ptr, againK_normal, againK_exit, againK_ret, blockK_normal, blockK_same, blockK_ret, seqK_normal, seqK_exit, seqK_ret, fin_done, if_true', if_false', Bool.not_true, Bool.not_false, idx0, idx1, idx2, idx3, idx4, chk_nil_l, chk_nil_r, done_nm]
    exact ⟨_, rfl, done_ext' i0⟩
  by_cases r3 : m.num < 1
  · rw [bad fun g => (by have := g.num; omega)]
    simp -implicitDefEqProofs (maxSteps := 1000000) (disch := omega) only [dcT, dcF, k0, faRM0, faRM1, faRM2, faRM3, faRM4, faRM5, faRM6, faRM7, faRM8, faRM9, ldIntV, vld64, ldFlV, ldB, M.l0, M.l1, M.l2, M.l3, M.l4, M.l5, M.l6, M.l7, M.l8, M.l9, lb, ls, a6, d4, d0, ↓ret72, ↓cnd_true, ↓cnd_false, ↓Option.bind_some, ↓obH_some', bin_add, bin_sub, bin_mul, bin_lss, bin_leq, bin_gtr, bin_geq, bin_eql, bin_neq, un_not, un_neg, Option.bind_some, Option.bind_none, Option.map_some, cnd_true, cnd_false, pickV_true, pickV_false, gd_true, gd_false, gdV_true, gdV_false, gdH_true, gdH_false, gdS_true, gdS_false, wt_ff, wt_tt, wt_ft, wt_tf, wt_undef, obH_some', extractV_tuple, nilCheckV_ptr, againK_normal, againK_exit, againK_ret, blockK_normal, blockK_same, blockK_ret, seqK_normal, seqK_exit, seqK_ret, fin_done, if_true', if_false', Bool.not_true, Bool.not_false, idx0, idx1, idx2, idx3, idx4, chk_nil_l, chk_nil_r, done_nm]
    exact ⟨_, rfl, done_ext' i0⟩
  by_cases r4 : m.to = 0
  · rw [bad fun g => g.to0 r4]
    rw [decide_eq_true r4] at d4
    simp -implicitDefEqProofs (maxSteps := 1000000) (disch := omega) only [dcT, dcF, k0, faRM0, faRM1, faRM2, faRM3, faRM4, faRM5, faRM6, faRM7, faRM8, faRM9, ldIntV, vld64, ldFlV, ldB, M.l0, M.l1, M.l2, M.l3, M.l4, M.l5, M.l6, M.l7, M.l8, M.l9, lb, ls, a6, d4, d0, ↓ret72, ↓cnd_true, ↓cnd_false, ↓Option.bind_some, ↓obH_some', bin_add, bin_sub, bin_mul, bin_lss, bin_leq, bin_gtr, bin_geq, bin_eql, bin_neq, un_not, un_neg, Option.bind_some, Option.bind_none, Option.map_some, cnd_true, cnd_false, pickV_true, pickV_false, gd_true, gd_false, gdV_true, gdV_false, gdH_true, gdH_false, gdS_true, gdS_false, wt_ff, wt_tt, wt_ft, wt_tf, wt_undef, obH_some', extractV_tuple, nilCheckV_ptr, againK_normal, againK_exit, againK_ret, blockK_normal, blockK_same, blockK_ret, seqK_normal, seqK_exit, seqK_ret, fin_done, if_true', if_false', Bool.not_true, Bool.not_false, idx0, idx1, idx2, idx3, idx4, chk_nil_l, chk_nil_r, done_nm]
    exact ⟨_, rfl, done_ext' i0⟩
  rw [decide_eq_false r4] at d4
  by_cases r5 : 65535 < m.to
  · rw [bad fun g => (by have := g.to; omega)]
    simp -implicitDefEqProofs (maxSteps := 1000000) (disch := omega) only [dcT, dcF, k0, faRM0, faRM1, faRM2, faRM3, faRM4, faRM5, faRM6, faRM7, faRM8, faRM9, ldIntV, vld64, ldFlV, ldB, M.l0, M.l1, M.l2, M.l3, M.l4, M.l5, M.l6, M.l7, M.l8, M.l9, lb, ls, a6, d4, d0, ↓ret72, ↓cnd_true, ↓cnd_false, ↓Option.bind_some, ↓obH_some', bin_add, bin_sub, bin_mul, bin_lss, bin_leq, bin_gtr, bin_geq, bin_eql, bin_neq, un_not, un_neg, Option.bind_some, Option.bind_none, Option.map_some, cnd_true, cnd_false, pickV_true, pickV_false, gd_true, gd_false, gdV_true, gdV_false, gdH_true, gdH_false, gdS_true, gdS_false, wt_ff, wt_tt, wt_ft, wt_tf, wt_undef, obH_some', extractV_tuple, nilCheckV_ptr, againK_normal, againK_exit, againK_ret, blockK_normal, blockK_same, blockK_ret, seqK_normal, seqK_exit, seqK_ret, fin_done, if_true', if_false', Bool.not_true, Bool.not_false, idx0, idx1, idx2, idx3, idx4, chk_nil_l, chk_nil_r, done_nm]
    exact ⟨_, rfl, done_ext' i0⟩
  cases r6 : hasB m.to m.frm with
  | true =>
    rw [bad fun g => (by have := g.nh; rw [r6] at this; cases this)]
    rw [r6] at a6
    simp -implicitDefEqProofs (maxSteps := 1000000) (disch := omega) only [dcT, dcF, k0, faRM0, faRM1, faRM2, faRM3, faRM4, faRM5, faRM6, faRM7, faRM8, faRM9, ldIntV, vld64, ldFlV, ldB, M.l0, M.l1, M.l2, M.l3, M.l4, M.l5, M.l6, M.l7, M.l8, M.l9, lb, ls, a6, d4, d0, ↓ret72, ↓cnd_true, ↓cnd_false, ↓Option.bind_some, ↓obH_some', bin_add, bin_sub, bin_mul, bin_lss, bin_leq, bin_gtr, bin_geq, bin_eql, bin_neq, un_not, un_neg, Option.bind_some, Option.bind_none, Option.map_some, cnd_true, cnd_false, pickV_true, pickV_false, gd_true, gd_false, gdV_true, gdV_false, gdH_true, gdH_false, gdS_true, gdS_false, wt_ff, wt_tt, wt_ft, wt_tf, wt_undef, obH_some', extractV_tuple, nilCheckV_ptr, againK_normal, againK_exit, againK_ret, blockK_normal, blockK_same, blockK_ret, seqK_normal, seqK_exit, seqK_ret, fin_done, if_true', if_false', Bool.not_true, Bool.not_false, idx0, idx1, idx2, idx3, idx4, chk_nil_l, chk_nil_r, done_nm]
    exact ⟨_, rfl, done_ext' i0⟩
  | false =>
  rw [r6] at a6
  by_cases r7 : m.kind < 0
  · rw [bad fun g => (by have := g.k0; omega)]
    simp -implicitDefEqProofs (maxSteps := 1000000) (disch := omega) only [dcT, dcF, k0, faRM0, faRM1, faRM2, faRM3, faRM4, faRM5, faRM6, faRM7, faRM8, faRM9, ldIntV, vld64, ldFlV, ldB, M.l0, M.l1, M.l2, M.l3, M.l4, M.l5, M.l6, M.l7, M.l8, M.l9, lb, ls, a6, d4, d0, ↓ret72, ↓cnd_true, ↓cnd_false, ↓Option.bind_some, ↓obH_some', bin_add, bin_sub, bin_mul, bin_lss, bin_leq, bin_gtr, bin_geq, bin_eql, bin_neq, un_not, un_neg, Option.bind_some, Option.bind_none, Option.map_some, cnd_true, cnd_false, pickV_true, pickV_false, gd_true, gd_false, gdV_true, gdV_false, gdH_true, gdH_false, gdS_true, gdS_false, wt_ff, wt_tt, wt_ft, wt_tf, wt_undef, obH_some', extractV_tuple, nilCheckV_ptr, againK_normal, againK_exit, againK_ret, blockK_normal, blockK_same, blockK_ret, seqK_normal, seqK_exit, seqK_ret, fin_done, if_true', if_false', Bool.not_true, Bool.not_false, idx0, idx1, idx2, idx3, idx4, chk_nil_l, chk_nil_r, done_nm]
    exact ⟨_, rfl, done_ext' i0⟩
  by_cases r8 : 3 < m.kind
  · rw [bad fun g => (by have := g.k3; omega)]
    simp -implicitDefEqProofs (maxSteps := 1000000) (disch := omega) only [dcT, dcF, k0, faRM0, faRM1, faRM2, faRM3, faRM4, faRM5, faRM6, faRM7, faRM8, faRM9, ldIntV, vld64, ldFlV, ldB, M.l0, M.l1, M.l2, M.l3, M.l4, M.l5, M.l6, M.l7, M.l8, M.l9, lb, ls, a6, d4, d0, ↓ret72, ↓cnd_true, ↓cnd_false, ↓Option.bind_some, ↓obH_some', bin_add, bin_sub, bin_mul, bin_lss, bin_leq, bin_gtr, bin_geq, bin_eql, bin_neq, un_not, un_neg, Option.bind_some, Option.bind_none, Option.map_some, cnd_true, cnd_false, pickV_true, pickV_false, gd_true, gd_false, gdV_true, gdV_false, gdH_true, gdH_false, gdS_true, gdS_false, wt_ff, wt_tt, wt_ft, wt_tf, wt_undef, obH_some', extractV_tuple, nilCheckV_ptr, againK_normal, againK_exit, againK_ret, blockK_normal, blockK_same, blockK_ret, seqK_normal, seqK_exit, seqK_ret, fin_done, if_true', if_false', Bool.not_true, Bool.not_false, idx0, idx1, idx2, idx3, idx4, chk_nil_l, chk_nil_r, done_nm]
    exact ⟨_, rfl, done_ext' i0⟩
  by_cases r9 : 256 < m.body.length
  · rw [bad fun g => (by have := g.body; omega)]
    simp -implicitDefEqProofs (maxSteps := 1000000) (disch := omega) only [dcT, dcF, k0, faRM0, faRM1, faRM2, faRM3, faRM4, faRM5, faRM6, faRM7, faRM8, faRM9, ldIntV, vld64, ldFlV, ldB, M.l0, M.l1, M.l2, M.l3, M.l4, M.l5, M.l6, M.l7, M.l8, M.l9, lb, ls, a6, d4, d0, ↓ret72, ↓cnd_true, ↓cnd_false, ↓Option.bind_some, ↓obH_some', bin_add, bin_sub, bin_mul, bin_lss, bin_leq, bin_gtr, bin_geq, bin_eql, bin_neq, un_not, un_neg, Option.bind_some, Option.bind_none, Option.map_some, cnd_true, cnd_false, pickV_true, pickV_false, gd_true, gd_false, gdV_true, gdV_false, gdH_true, gdH_false, gdS_true, gdS_false, wt_ff, wt_tt, wt_ft, wt_tf, wt_undef, obH_some', extractV_tuple, nilCheckV_ptr, againK_normal, againK_exit, againK_ret, blockK_normal, blockK_same, blockK_ret, seqK_normal, seqK_exit, seqK_ret, fin_done, if_true', if_false', Bool.not_true, Bool.not_false, idx0, idx1, idx2, idx3, idx4, chk_nil_l, chk_nil_r, done_nm]
    exact ⟨_, rfl, done_ext' i0⟩
  by_cases r10 : 0 < m.body.length
  · rw [bad fun g => (by have := g.k; rw [if_neg kz] at this; omega)]
    simp -implicitDefEqProofs (maxSteps := 1000000) (disch := omega) only [dcT, dcF, k0, faRM0, faRM1, faRM2, faRM3, faRM4, faRM5, faRM6, faRM7, faRM8, faRM9, ldIntV, vld64, ldFlV, ldB, M.l0, M.l1, M.l2, M.l3, M.l4, M.l5, M.l6, M.l7, M.l8, M.l9, lb, ls, a6, d4, d0, ne_eq, Bool.not_false, decide_not, ↓ret72, ↓cnd_true, ↓cnd_false, ↓Option.bind_some, ↓obH_some', bin_add, bin_sub, bin_mul, bin_lss, bin_leq, bin_gtr, bin_geq, bin_eql, bin_neq, un_not, un_neg, Option.bind_some, Option.bind_none, Option.map_some, cnd_true, cnd_false, pickV_true, pickV_false, gd_true, gd_false, gdV_true, gdV_false, gdH_true, gdH_false, gdS_true, gdS_false, wt_ff, wt_tt, wt_ft, wt_tf, wt_undef, obH_some', extractV_tuple, nilCheckV_ptr, againK_normal, againK_exit, againK_ret, blockK_normal, blockK_same, blockK_ret, seqK_normal, seqK_exit, seqK_ret, fin_done, if_true', if_false', Bool.not_true, Bool.not_false, idx0, idx1, idx2, idx3, idx4, chk_nil_l, chk_nil_r, done_nm]
    exact ⟨_, rfl, done_ext' i0⟩
  by_cases r11 : m.var < 0
  · rw [bad fun g => (by have := g.k; rw [if_neg kz] at this; omega)]
    simp -implicitDefEqProofs (maxSteps := 1000000) (disch := omega) only [dcT, dcF, k0, faRM0, faRM1, faRM2, faRM3, faRM4, faRM5, faRM6, faRM7, faRM8, faRM9, ldIntV, vld64, ldFlV, ldB, M.l0, M.l1, M.l2, M.l3, M.l4, M.l5, M.l6, M.l7, M.l8, M.l9, lb, ls, a6, d4, d0, ne_eq, Bool.not_false, decide_not, ↓ret72, ↓cnd_true, ↓cnd_false, ↓Option.bind_some, ↓obH_some', bin_add, bin_sub, bin_mul, bin_lss, bin_leq, bin_gtr, bin_geq, bin_eql, bin_neq, un_not, un_neg, Option.bind_some, Option.bind_none, Option.map_some, cnd_true, cnd_false, pickV_true, pickV_false, gd_true, gd_false, gdV_true, gdV_false, gdH_true, gdH_false, gdS_true, gdS_false, wt_ff, wt_tt, wt_ft, wt_tf, wt_undef, obH_some', extractV_tuple, nilCheckV_ptr, againK_normal, againK_exit, againK_ret, blockK_normal, blockK_same, blockK_ret, seqK_normal, seqK_exit, seqK_ret, fin_done, if_true', if_false', Bool.not_true, Bool.not_false, idx0, idx1, idx2, idx3, idx4, chk_nil_l, chk_nil_r, done_nm]
    exact ⟨_, rfl, done_ext' i0⟩
  by_cases r12 : 15 < m.var
  · rw [bad fun g => (by have := g.k; rw [if_neg kz] at this; omega)]
    simp -implicitDefEqProofs (maxSteps := 1000000) (disch := omega) only [dcT, dcF, k0, faRM0, faRM1, faRM2, faRM3, faRM4, faRM5, faRM6, faRM7, faRM8, faRM9, ldIntV, vld64, ldFlV, ldB, M.l0, M.l1, M.l2, M.l3, M.l4, M.l5, M.l6, M.l7, M.l8, M.l9, lb, ls, a6, d4, d0, ne_eq, Bool.not_false, decide_not, ↓ret72, ↓cnd_true, ↓cnd_false, ↓Option.bind_some, ↓obH_some', bin_add, bin_sub, bin_mul, bin_lss, bin_leq, bin_gtr, bin_geq, bin_eql, bin_neq, un_not, un_neg, Option.bind_some, Option.bind_none, Option.map_some, cnd_true, cnd_false, pickV_true, pickV_false, gd_true, gd_false, gdV_true, gdV_false, gdH_true, gdH_false, gdS_true, gdS_false, wt_ff, wt_tt, wt_ft, wt_tf, wt_undef, obH_some', extractV_tuple, nilCheckV_ptr, againK_normal, againK_exit, againK_ret, blockK_normal, blockK_same, blockK_ret, seqK_normal, seqK_exit, seqK_ret, fin_done, if_true', if_false', Bool.not_true, Bool.not_false, idx0, idx1, idx2, idx3, idx4, chk_nil_l, chk_nil_r, done_nm]
    exact ⟨_, rfl, done_ext' i0⟩
  by_cases r14 : 20000 < m.stamp.length
  · rw [bad fun g => (by have := g.st; omega)]
    simp -implicitDefEqProofs (maxSteps := 1000000) (disch := omega) only [dcT, dcF, k0, faRM0, faRM1, faRM2, faRM3, faRM4, faRM5, faRM6, faRM7, faRM8, faRM9, ldIntV, vld64, ldFlV, ldB, M.l0, M.l1, M.l2, M.l3, M.l4, M.l5, M.l6, M.l7, M.l8, M.l9, lb, ls, a6, d4, d0, ne_eq, Bool.not_false, decide_not, ↓ret72, ↓cnd_true, ↓cnd_false, ↓Option.bind_some, ↓obH_some', bin_add, bin_sub, bin_mul, bin_lss, bin_leq, bin_gtr, bin_geq, bin_eql, bin_neq, un_not, un_neg, Option.bind_some, Option.bind_none, Option.map_some, cnd_true, cnd_false, pickV_true, pickV_false, gd_true, gd_false, gdV_true, gdV_false, gdH_true, gdH_false, gdS_true, gdS_false, wt_ff, wt_tt, wt_ft, wt_tf, wt_undef, obH_some', extractV_tuple, nilCheckV_ptr, againK_normal, againK_exit, againK_ret, blockK_normal, blockK_same, blockK_ret, seqK_normal, seqK_exit, seqK_ret, fin_done, if_true', if_false', Bool.not_true, Bool.not_false, idx0, idx1, idx2, idx3, idx4, chk_nil_l, chk_nil_r, done_nm]
    exact ⟨_, rfl, done_ext' i0⟩
  by_cases r15 : m.wr < -1
  · rw [bad fun g => (by have := g.wr; omega)]
    simp -implicitDefEqProofs (maxSteps := 1000000) (disch := omega) only [dcT, dcF, k0, faRM0, faRM1, faRM2, faRM3, faRM4, faRM5, faRM6, faRM7, faRM8, faRM9, ldIntV, vld64, ldFlV, ldB, M.l0, M.l1, M.l2, M.l3, M.l4, M.l5, M.l6, M.l7, M.l8, M.l9, lb, ls, a6, d4, d0, ne_eq, Bool.not_false, decide_not, ↓ret72, ↓cnd_true, ↓cnd_false, ↓Option.bind_some, ↓obH_some', bin_add, bin_sub, bin_mul, bin_lss, bin_leq, bin_gtr, bin_geq, bin_eql, bin_neq, un_not, un_neg, Option.bind_some, Option.bind_none, Option.map_some, cnd_true, cnd_false, pickV_true, pickV_false, gd_true, gd_false, gdV_true, gdV_false, gdH_true, gdH_false, gdS_true, gdS_false, wt_ff, wt_tt, wt_ft, wt_tf, wt_undef, obH_some', extractV_tuple, nilCheckV_ptr, againK_normal, againK_exit, againK_ret, blockK_normal, blockK_same, blockK_ret, seqK_normal, seqK_exit, seqK_ret, fin_done, if_true', if_false', Bool.not_true, Bool.not_false, idx0, idx1, idx2, idx3, idx4, chk_nil_l, chk_nil_r, done_nm]
    exact ⟨_, rfl, done_ext' i0⟩
  by_cases r16 : 15 < m.wr
  · rw [bad fun g => (by have := g.wr; omega)]
    simp -implicitDefEqProofs (maxSteps := 1000000) (disch := omega) only [dcT, dcF, k0, faRM0, faRM1, faRM2, faRM3, faRM4, faRM5, faRM6, faRM7, faRM8, faRM9, ldIntV, vld64, ldFlV, ldB, M.l0, M.l1, M.l2, M.l3, M.l4, M.l5, M.l6, M.l7, M.l8, M.l9, lb, ls, a6, d4, d0, ne_eq, Bool.not_false, decide_not, ↓ret72, ↓cnd_true, ↓cnd_false, ↓Option.bind_some, ↓obH_some', bin_add, bin_sub, bin_mul, bin_lss, bin_leq, bin_gtr, bin_geq, bin_eql, bin_neq, un_not, un_neg, Option.bind_some, Option.bind_none, Option.map_some, cnd_true, cnd_false, pickV_true, pickV_false, gd_true, gd_false, gdV_true, gdV_false, gdH_true, gdH_false, gdS_true, gdS_false, wt_ff, wt_tt, wt_ft, wt_tf, wt_undef, obH_some', extractV_tuple, nilCheckV_ptr, againK_normal, againK_exit, againK_ret, blockK_normal, blockK_same, blockK_ret, seqK_normal, seqK_exit, seqK_ret, fin_done, if_true', if_false', Bool.not_true, Bool.not_false, idx0, idx1, idx2, idx3, idx4, chk_nil_l, chk_nil_r, done_nm]
    exact ⟨_, rfl, done_ext' i0⟩
  have ev : goodMsg m = taggedB m := (by
      have : goodMsg m = true ↔ taggedB m = true := ⟨fun hx => (goodF.1 hx).tg, fun ht => goodF.2 ⟨by omega, by omega, by omega, r4, by omega, r6, by omega, by omega, ht, by omega, by first | (rw [if_pos kz]; omega) | (rw [if_neg kz]; omega)⟩⟩
      cases h1 : goodMsg m <;> cases h2 : taggedB m <;> simp_all)
  by_cases q1 : m.kind = 1
  · have d1 : decide (m.kind = 1) = true := decide_eq_true q1
    rw [ev]
    unfold taggedB
    rw [if_pos q1]
    by_cases v1 : m.wr = m.frm
    · have e1 : decide (m.wr = m.frm) = true := decide_eq_true v1
      have e3 : decide (((0 : Int)) < (m.tag : Nat)) = decide (0 < m.tag) := by congr 1; apply propext; omega
      rw [e1, Bool.true_and]
      simp -implicitDefEqProofs (maxSteps := 1000000) (disch := omega) only [dcT, dcF, k0, faRM0, faRM1, faRM2, faRM3, faRM4, faRM5, faRM6, faRM7, faRM8, faRM9, ldIntV, vld64, ldFlV, ldB, M.l0, M.l1, M.l2, M.l3, M.l4, M.l5, M.l6, M.l7, M.l8, M.l9, lb, ls, a6, d4, d0, ne_eq, Bool.not_false, decide_not, d1, e1, e3, ↓ret72, ↓cnd_true, ↓cnd_false, ↓Option.bind_some, ↓obH_some', bin_add, bin_sub, bin_mul, bin_lss, bin_leq, bin_gtr, bin_geq, bin_eql, bin_neq, un_not, un_neg, Option.bind_some, Option.bind_none, Option.map_some, cnd_true, cnd_false, pickV_true, pickV_false, gd_true, gd_false, gdV_true, gdV_false, gdH_true, gdH_false, gdS_true, gdS_false, wt_ff, wt_tt, wt_ft, wt_tf, wt_undef, obH_some', extractV_tuple, nilCheckV_ptr, againK_normal, againK_exit, againK_ret, blockK_normal, blockK_same, blockK_ret, seqK_normal, seqK_exit, seqK_ret, fin_done, if_true', if_false', Bool.not_true, Bool.not_false, idx0, idx1, idx2, idx3, idx4, chk_nil_l, chk_nil_r, done_nm]
      exact ⟨_, rfl, done_ext' i0⟩
    · have e1 : decide (m.wr = m.frm) = false := decide_eq_false v1
      rw [e1, Bool.false_and]
      simp -implicitDefEqProofs (maxSteps := 1000000) (disch := omega) only [dcT, dcF, k0, faRM0, faRM1, faRM2, faRM3, faRM4, faRM5, faRM6, faRM7, faRM8, faRM9, ldIntV, vld64, ldFlV, ldB, M.l0, M.l1, M.l2, M.l3, M.l4, M.l5, M.l6, M.l7, M.l8, M.l9, lb, ls, a6, d4, d0, ne_eq, Bool.not_false, decide_not, d1, e1, ↓ret72, ↓cnd_true, ↓cnd_false, ↓Option.bind_some, ↓obH_some', bin_add, bin_sub, bin_mul, bin_lss, bin_leq, bin_gtr, bin_geq, bin_eql, bin_neq, un_not, un_neg, Option.bind_some, Option.bind_none, Option.map_some, cnd_true, cnd_false, pickV_true, pickV_false, gd_true, gd_false, gdV_true, gdV_false, gdH_true, gdH_false, gdS_true, gdS_false, wt_ff, wt_tt, wt_ft, wt_tf, wt_undef, obH_some', extractV_tuple, nilCheckV_ptr, againK_normal, againK_exit, againK_ret, blockK_normal, blockK_same, blockK_ret, seqK_normal, seqK_exit, seqK_ret, fin_done, if_true', if_false', Bool.not_true, Bool.not_false, idx0, idx1, idx2, idx3, idx4, chk_nil_l, chk_nil_r, done_nm]
      exact ⟨_, rfl, done_ext' i0⟩
  have d1 : decide (m.kind = 1) = false := decide_eq_false q1
  by_cases q3 : m.kind = 3
  · have d3 : decide (m.kind = 3) = true := decide_eq_true q3
    have dt : decide (((m.tag : Nat) : Int) = 0) = decide (m.tag = 0) := by congr 1; apply propext; omega
    have dw : decide ((-1 : Int) = m.wr) = decide (m.wr = -1) := by congr 1; apply propext; omega
    rw [ev]
    unfold taggedB
    rw [if_neg q1, if_pos q3, decide_eq_true (show -1 ≤ m.wr ∧ m.wr ≤ 15 by omega), Bool.true_and]
    simp -implicitDefEqProofs (maxSteps := 1000000) (disch := omega) only [dcT, dcF, k0, faRM0, faRM1, faRM2, faRM3, faRM4, faRM5, faRM6, faRM7, faRM8, faRM9, ldIntV, vld64, ldFlV, ldB, M.l0, M.l1, M.l2, M.l3, M.l4, M.l5, M.l6, M.l7, M.l8, M.l9, lb, ls, a6, d4, d0, ne_eq, Bool.not_false, decide_not, d1, d3, dt, dw, vbeql, ↓ret72, ↓cnd_true, ↓cnd_false, ↓Option.bind_some, ↓obH_some', bin_add, bin_sub, bin_mul, bin_lss, bin_leq, bin_gtr, bin_geq, bin_eql, bin_neq, un_not, un_neg, Option.bind_some, Option.bind_none, Option.map_some, cnd_true, cnd_false, pickV_true, pickV_false, gd_true, gd_false, gdV_true, gdV_false, gdH_true, gdH_false, gdS_true, gdS_false, wt_ff, wt_tt, wt_ft, wt_tf, wt_undef, obH_some', extractV_tuple, nilCheckV_ptr, againK_normal, againK_exit, againK_ret, blockK_normal, blockK_same, blockK_ret, seqK_normal, seqK_exit, seqK_ret, fin_done, if_true', if_false', Bool.not_true, Bool.not_false, idx0, idx1, idx2, idx3, idx4, chk_nil_l, chk_nil_r, done_nm]
    exact ⟨_, rfl, done_ext' i0⟩
  have d3 : decide (m.kind = 3) = false := decide_eq_false q3
  have ev : goodMsg m = taggedB m := ev
  rw [ev]
  unfold taggedB
  rw [if_neg (by omega), if_neg (by omega)]
  have es := fun h => spec_refSame m.val 0 ok.val (by omega) h
  have dt : decide (((m.tag : Nat) : Int) = 0) = decide (m.tag = 0) := by congr 1; apply propext; omega
  by_cases v1 : keyF m.val = keyF 0
  · rw [decide_eq_true v1] at es ⊢
    by_cases v2 : m.wr = 0
    · have e2 : decide (m.wr = 0) = true := decide_eq_true v2
      rw [e2, Bool.true_and, Bool.and_true]
      simp -implicitDefEqProofs (maxSteps := 1000000) (disch := omega) only [dcT, dcF, k0, faRM0, faRM1, faRM2, faRM3, faRM4, faRM5, faRM6, faRM7, faRM8, faRM9, ldIntV, vld64, ldFlV, ldB, M.l0, M.l1, M.l2, M.l3, M.l4, M.l5, M.l6, M.l7, M.l8, M.l9, lb, ls, a6, d4, d0, ne_eq, Bool.not_false, decide_not, d1, d3, es, e2, dt, ↓ret72, ↓cnd_true, ↓cnd_false, ↓Option.bind_some, ↓obH_some', bin_add, bin_sub, bin_mul, bin_lss, bin_leq, bin_gtr, bin_geq, bin_eql, bin_neq, un_not, un_neg, Option.bind_some, Option.bind_none, Option.map_some, cnd_true, cnd_false, pickV_true, pickV_false, gd_true, gd_false, gdV_true, gdV_false, gdH_true, gdH_false, gdS_true, gdS_false, wt_ff, wt_tt, wt_ft, wt_tf, wt_undef, obH_some', extractV_tuple, nilCheckV_ptr, againK_normal, againK_exit, againK_ret, blockK_normal, blockK_same, blockK_ret, seqK_normal, seqK_exit, seqK_ret, fin_done, if_true', if_false', Bool.not_true, Bool.not_false, idx0, idx1, idx2, idx3, idx4, chk_nil_l, chk_nil_r, done_nm]
      exact ⟨_, rfl, done_ext' i0⟩
    · have e2 : decide (m.wr = 0) = false := decide_eq_false v2
      rw [e2, Bool.false_and]
      simp -implicitDefEqProofs (maxSteps := 1000000) (disch := omega) only [dcT, dcF, k0, faRM0, faRM1, faRM2, faRM3, faRM4, faRM5, faRM6, faRM7, faRM8, faRM9, ldIntV, vld64, ldFlV, ldB, M.l0, M.l1, M.l2, M.l3, M.l4, M.l5, M.l6, M.l7, M.l8, M.l9, lb, ls, a6, d4, d0, ne_eq, Bool.not_false, decide_not, d1, d3, es, e2, ↓ret72, ↓cnd_true, ↓cnd_false, ↓Option.bind_some, ↓obH_some', bin_add, bin_sub, bin_mul, bin_lss, bin_leq, bin_gtr, bin_geq, bin_eql, bin_neq, un_not, un_neg, Option.bind_some, Option.bind_none, Option.map_some, cnd_true, cnd_false, pickV_true, pickV_false, gd_true, gd_false, gdV_true, gdV_false, gdH_true, gdH_false, gdS_true, gdS_false, wt_ff, wt_tt, wt_ft, wt_tf, wt_undef, obH_some', extractV_tuple, nilCheckV_ptr, againK_normal, againK_exit, againK_ret, blockK_normal, blockK_same, blockK_ret, seqK_normal, seqK_exit, seqK_ret, fin_done, if_true', if_false', Bool.not_true, Bool.not_false, idx0, idx1, idx2, idx3, idx4, chk_nil_l, chk_nil_r, done_nm]
      exact ⟨_, rfl, done_ext' i0⟩
  · rw [decide_eq_false v1] at es ⊢
    rw [Bool.and_false, Bool.and_false]
    simp -implicitDefEqProofs (maxSteps := 1000000) (disch := omega) only [dcT, dcF, k0, faRM0, faRM1, faRM2, faRM3, faRM4, faRM5, faRM6, faRM7, faRM8, faRM9, ldIntV, vld64, ldFlV, ldB, M.l0, M.l1, M.l2, M.l3, M.l4, M.l5, M.l6, M.l7, M.l8, M.l9, lb, ls, a6, d4, d0, ne_eq, Bool.not_false, decide_not, d1, d3, es, ↓ret72, ↓cnd_true, ↓cnd_false, ↓Option.bind_some, ↓obH_some', bin_add, bin_sub, bin_mul, bin_lss, bin_leq, bin_gtr, bin_geq, bin_eql, bin_neq, un_not, un_neg, Option.bind_some, Option.bind_none, Option.map_some, cnd_true, cnd_false, pickV_true, pickV_false, gd_true, gd_false, gdV_true, gdV_false, gdH_true, gdH_false, gdS_true, gdS_false, wt_ff, wt_tt, wt_ft, wt_tf, wt_undef, obH_some', extractV_tuple, nilCheckV_ptr, againK_normal, againK_exit, againK_ret, blockK_normal, blockK_same, blockK_ret, seqK_normal, seqK_exit, seqK_ret, fin_done, if_true', if_false', Bool.not_true, Bool.not_false, idx0, idx1, idx2, idx3, idx4, chk_nil_l, chk_nil_r, done_nm]
    exact ⟨_, rfl, done_ext' i0⟩
theorem spec_refGood (hb : SB h bv m.body) (hs : SB h sv m.stamp) (ok : MTok m) : ∃ h', evC Try.prog 72 #[msgA m bv sv] h = some (.bool (goodMsg m), h') ∧ HExt h h' := by
  by_cases kz : m.kind = 0
  · exact spec_refGood0 hb hs ok kz
  · exact spec_refGood1 hb hs ok kz
end Go.Am
namespace Go.Am
open Go.Proofs
set_option maxRecDepth 100000
set_option linter.all false
attribute [local congr] obind_congr obH_congr cnd_congr chk_congr retK_congr codeK_congr
variable {h0 h h' : Heap} {p1 p : Nat} {m : MT} {bv sv : Value} {bs : List UInt8}
theorem bdRW0 : buildV Try.prog 97 #[] = some (.agg #[nilSl]) := by kernel_rfl
structure PR (h0 h : Heap) (p1 p : Nat) (m : MT) (bv sv : Value) (bs : List UInt8) : Prop where
  M : MC 108 h p1 m bv sv
  w : WrR h0.blks.length h p bs
  hin : In h0.blks.length No (nm h0) h
  lb : Lo bv h0.blks.length
  ls : Lo sv h0.blks.length
  h1 : h0.blks.length ≤ p1
  h2 : p1 < p
  own : ∀ v, Wrv 97 h p v bs → blockOf v ≠ some p1
theorem PR.next (x : PR h0 h p1 p m bv sv bs) {bs' : List UInt8} (e : HMod (Just p) h h') (w : WrR h.blks.length h' p bs') : PR h0 h' p1 p m bv sv bs' := by
  have hl : h0.blks.length ≤ h.blks.length := x.hin.len
  have := x.h1
  have := x.h2
  have lt1 := x.M.c.lt
  refine ⟨x.M.mod e (fun e => by have : p1 = p := e; omega) x.lb x.ls fun b hb e => (by have : b = p := e; omega), w.up hl, x.hin.trans (e.inn hl fun b hb e => by have : b = p := e; omega), x.lb, x.ls, x.h1, x.h2, fun v wv hv => ?_⟩
  obtain ⟨v', w', hv'⟩ := w.v
  obtain rfl : v = v' := by
    have a := wv.1; have b := w'.1
    unfold Cells at a b
    rw [a] at b
    simpa using b
  have := hv' _ hv
  omega
theorem PR.num (x : PR h0 h p1 p m bv sv bs) (n : Nat) (hn : n < 2 ^ 64) (hl : bs.length < 2 ^ 39) : ∃ h', evC Try.prog 58 #[.pointer (some ⟨p, 0, none⟩), .int .u64 n] h = some (.tuple #[], h') ∧ PR h0 h' p1 p m bv sv (bs ++ putL n) := by
  obtain ⟨h', e, k, w⟩ := spec_RWNum x.w x.hin.len n hn hl
  exact ⟨h', e, x.next k w⟩
theorem PR.bytes (x : PR h0 h p1 p m bv sv bs) {y : Value} {cs : List UInt8} (sy : SB h y cs) (ly : Lo y h0.blks.length) (hl : bs.length < 2 ^ 39) (hl2 : cs.length < 2 ^ 39) : ∃ h', evC Try.prog 62 #[.pointer (some ⟨p, 0, none⟩), y] h = some (.tuple #[], h') ∧ PR h0 h' p1 p m bv sv (bs ++ putL cs.length ++ cs) := by
  obtain ⟨h', e, k, w⟩ := spec_RWBytes x.w x.hin.len sy (fun hy => by have := ly _ hy; have := x.h1; have := x.h2; omega) hl hl2
  exact ⟨h', e, x.next k w⟩
theorem PR.float (x : PR h0 h p1 p m bv sv bs) (n : Nat) (hn : n < 2 ^ 64) (hl : bs.length < 2 ^ 39) : ∃ h', evC Try.prog 60 #[.pointer (some ⟨p, 0, none⟩), .float .f64 n] h = some (.tuple #[], h') ∧ PR h0 h' p1 p m bv sv (bs ++ beT (keyF n) 8) := by
  obtain ⟨v, wv, hv⟩ := x.w.v
  obtain ⟨v', h', e, k, w, hn'⟩ := spec_RWFloat wv n hn hl
  have hl0 : h0.blks.length ≤ h.blks.length := x.hin.len
  have := x.h1
  have := x.h2
  have lt1 := x.M.c.lt
  have tS : ∀ b, Turn p v b → h0.blks.length ≤ b ∧ b ≠ p1 := fun b hb => by
    rcases hb with hb | hb
    · have : b = p := hb
      omega
    · exact ⟨hv b hb, fun e => x.own v wv (by rw [hb, e])⟩
  refine ⟨h', e, x.M.mod k (fun e => (tS _ e).2 rfl) x.lb x.ls fun b hb e => (by have := (tS _ e).1; omega), w.wR fun b hb => (by have := hn' b hb; omega), x.hin.trans (k.inn hl0 fun b hb e => by have := (tS _ e).1; omega), x.lb, x.ls, x.h1, x.h2, fun u wu hu => ?_⟩
  obtain rfl : u = v' := by
    have a := wu.1; have b := w.1
    unfold Cells at a b
    rw [a] at b
    simpa using b
  have := hn' _ hu
  omega
theorem rput2 (x : PR h0 h p1 p m bv sv bs) (hl : bs.length < 2 ^ 38) (hs : m.stamp.length < 2 ^ 38) : ∀ (x0 x2 x4 x5 x6 x7 x8 x9 x10 x11 x12 x13 x14 x15 x16 x17 x18 x19 x20 x21 x22 x23 x24 x25 x26 x27 x28 x29 x30 x31 x32 x33 x34 x35 x36 x37 x38 x39 x40 x41 x42 x43 x44 x45 x46 x47 x48 x49 x50 x51 x52 x53 x54 x55 x56 x57 x58 x59 x60 x61 x62 x63 x64 x65 x66 x67 x68 : Value),
    ∃ w h', codeK Try.prog (evC Try.prog) loopL c67_2 ⟨#[x0, .pointer (some ⟨p1, 0, none⟩), x2, .pointer (some ⟨p, 0, none⟩), x4, x5, x6, x7, x8, x9, x10, x11, x12, x13, x14, x15, x16, x17, x18, x19, x20, x21, x22, x23, x24, x25, x26, x27, x28, x29, x30, x31, x32, x33, x34, x35, x36, x37, x38, x39, x40, x41, x42, x43, x44, x45, x46, x47, x48, x49, x50, x51, x52, x53, x54, x55, x56, x57, x58, x59, x60, x61, x62, x63, x64, x65, x66, x67, x68], h⟩ (retK Try.f67 Try.prog h0) =
      some (w, h') ∧ HExt h0 h' ∧ SB h' w (bs ++ (putL m.stamp.length ++ m.stamp)) := by
  intro x0 x2 x4 x5 x6 x7 x8 x9 x10 x11 x12 x13 x14 x15 x16 x17 x18 x19 x20 x21 x22 x23 x24 x25 x26 x27 x28 x29 x30 x31 x32 x33 x34 x35 x36 x37 x38 x39 x40 x41 x42 x43 x44 x45 x46 x47 x48 x49 x50 x51 x52 x53 x54 x55 x56 x57 x58 x59 x60 x61 x62 x63 x64 x65 x66 x67 x68
  rw [c67_2_eq]
  obtain ⟨h2, e2, x2⟩ := x.bytes x.M.s x.ls (by omega) (by omega)
  obtain ⟨wa, wc, hc, ha, _⟩ := x2.w
  have l0 : h2.load1 p 0 = some (.slice wa (bs ++ putL m.stamp.length ++ m.stamp).length wc) := by rw [hc.load]; rfl
  have sb := ha.sl etB.size
  rw [List.append_assoc] at l0 sb
  simp -implicitDefEqProofs (disch := omega) only [faRM0, faRM1, faRM2, faRM3, faRM4, faRM5, faRM6, faRM7, faRM8, faRM9, ldB, x.M.l9, e2, faRW, l0, ↓ret67, ↓cnd_true, ↓cnd_false, ↓Option.bind_some, ↓obH_some', bin_add, bin_sub, bin_mul, bin_lss, bin_leq, bin_gtr, bin_geq, bin_eql, bin_neq, un_not, un_neg, Option.bind_some, Option.bind_none, Option.map_some, cnd_true, cnd_false, pickV_true, pickV_false, gd_true, gd_false, gdV_true, gdV_false, gdH_true, gdH_false, gdS_true, gdS_false, wt_ff, wt_tt, wt_ft, wt_tf, wt_undef, obH_some', extractV_tuple, nilCheckV_ptr, againK_normal, againK_exit, againK_ret, blockK_normal, blockK_same, blockK_ret, seqK_normal, seqK_exit, seqK_ret, fin_done, if_true', if_false', Bool.not_true, Bool.not_false, idx0, idx1, idx2, idx3, idx4, chk_nil_l, chk_nil_r, done_nm]
  exact ⟨_, _, rfl, done_ext' x2.hin, sb.done⟩
theorem rput1 (x : PR h0 h p1 p m bv sv bs) (ok : MTok m) (g : GoodF m) (hl : bs.length < 2 ^ 37) : ∀ (x0 x2 x4 x5 x6 x7 x8 x9 x10 x11 x12 x13 x14 x15 x16 x17 x18 x19 x20 x21 x22 x23 x24 x25 x26 x27 x28 x29 x30 x31 x32 x33 x34 x35 x36 x37 x38 x39 x40 x41 x42 x43 x44 x45 x46 x47 x48 x49 x50 x51 x52 x53 x54 x55 x56 x57 x58 x59 x60 x61 x62 x63 x64 x65 x66 x67 x68 : Value),
    ∃ w h', codeK Try.prog (evC Try.prog) loopL c67_1 ⟨#[x0, .pointer (some ⟨p1, 0, none⟩), x2, .pointer (some ⟨p, 0, none⟩), x4, x5, x6, x7, x8, x9, x10, x11, x12, x13, x14, x15, x16, x17, x18, x19, x20, x21, x22, x23, x24, x25, x26, x27, x28, x29, x30, x31, x32, x33, x34, x35, x36, x37, x38, x39, x40, x41, x42, x43, x44, x45, x46, x47, x48, x49, x50, x51, x52, x53, x54, x55, x56, x57, x58, x59, x60, x61, x62, x63, x64, x65, x66, x67, x68], h⟩ (retK Try.f67 Try.prog h0) =
      some (w, h') ∧ HExt h0 h' ∧ SB h' w (bs ++ encV m ++ (putL m.stamp.length ++ m.stamp)) := by
  intro x0 x2 x4 x5 x6 x7 x8 x9 x10 x11 x12 x13 x14 x15 x16 x17 x18 x19 x20 x21 x22 x23 x24 x25 x26 x27 x28 x29 x30 x31 x32 x33 x34 x35 x36 x37 x38 x39 x40 x41 x42 x43 x44 x45 x46 x47 x48 x49 x50 x51 x52 x53 x54 x55 x56 x57 x58 x59 x60 x61 x62 x63 x64 x65 x66 x67 x68
  rw [c67_1_eq]
  have hel := encV_len m ok g
  have hw := g.wr
  by_cases c : m.kind = 1 ∨ m.kind = 3
  · unfold encV at hel ⊢
    rw [if_pos c] at hel ⊢
    obtain ⟨h2, e2, x2⟩ := x.float m.val ok.val (by omega)
    have l2 : (bs ++ beT (keyF m.val) 8).length < 2 ^ 39 := by rw [List.length_append, beT_len]; omega
    have hwr : IntKind.wrap .i64 (m.wr + 1) = (((m.wr + 1).toNat : Nat) : Int) := by rw [wrap_i64] <;> omega
    have cv := fun h => cvI64 (((m.wr + 1).toNat : Nat) : Int) h (by omega) (by omega)
    obtain ⟨h3, e3, x3⟩ := x2.num (m.wr + 1).toNat (by omega) l2
    have h1 := sizeN_le (m.wr + 1).toNat 10 (by omega) (by omega)
    have h4 := putL_len (m.wr + 1).toNat
    obtain ⟨h5, e5, x5⟩ := x3.num m.tag ok.tag (by simp only [List.length_append] at hel ⊢; omega)
    have main := rput2 x5 (by simp only [List.length_append] at hel ⊢; omega) ok.stamp
    rw [show bs ++ beT (keyF m.val) 8 ++ putL (m.wr + 1).toNat ++ putL m.tag = bs ++ (beT (keyF m.val) 8 ++ putL (m.wr + 1).toNat ++ putL m.tag) by simp] at main
    rcases c with c | c
    · have d : decide (m.kind = 1) = true := decide_eq_true c
      simp -implicitDefEqProofs (disch := omega) only [dcT, dcF, faRM0, faRM1, faRM2, faRM3, faRM4, faRM5, faRM6, faRM7, faRM8, faRM9, ldIntV, ldFlV, vld64, x.M.l3, d, x.M.l5, e2, x2.M.l6, hwr, cv, e3, x3.M.l7, e5, ↓cnd_true, ↓cnd_false, ↓Option.bind_some, ↓obH_some', bin_add, bin_sub, bin_mul, bin_lss, bin_leq, bin_gtr, bin_geq, bin_eql, bin_neq, un_not, un_neg, Option.bind_some, Option.bind_none, Option.map_some, cnd_true, cnd_false, pickV_true, pickV_false, gd_true, gd_false, gdV_true, gdV_false, gdH_true, gdH_false, gdS_true, gdS_false, wt_ff, wt_tt, wt_ft, wt_tf, wt_undef, obH_some', extractV_tuple, nilCheckV_ptr, againK_normal, againK_exit, againK_ret, blockK_normal, blockK_same, blockK_ret, seqK_normal, seqK_exit, seqK_ret, fin_done, if_true', if_false', Bool.not_true, Bool.not_false, idx0, idx1, idx2, idx3, idx4, chk_nil_l, chk_nil_r, done_nm]
      exact main _ _ _ _ _ _ _ _ _ _ _ _ _ _ _ _ _ _ _ _ _ _ _ _ _ _ _ _ _ _ _ _ _ _ _ _ _ _ _ _ _ _ _ _ _ _ _ _ _ _ _ _ _ _ _ _ _ _ _ _ _ _ _ _ _ _ _
    · have d : decide (m.kind = 1) = false := decide_eq_false (by omega)
      have d3 : decide (m.kind = 3) = true := decide_eq_true c
      simp -implicitDefEqProofs (disch := omega) only [dcT, dcF, faRM0, faRM1, faRM2, faRM3, faRM4, faRM5, faRM6, faRM7, faRM8, faRM9, ldIntV, ldFlV, vld64, x.M.l3, d, d3, x.M.l5, e2, x2.M.l6, hwr, cv, e3, x3.M.l7, e5, ↓cnd_true, ↓cnd_false, ↓Option.bind_some, ↓obH_some', bin_add, bin_sub, bin_mul, bin_lss, bin_leq, bin_gtr, bin_geq, bin_eql, bin_neq, un_not, un_neg, Option.bind_some, Option.bind_none, Option.map_some, cnd_true, cnd_false, pickV_true, pickV_false, gd_true, gd_false, gdV_true, gdV_false, gdH_true, gdH_false, gdS_true, gdS_false, wt_ff, wt_tt, wt_ft, wt_tf, wt_undef, obH_some', extractV_tuple, nilCheckV_ptr, againK_normal, againK_exit, againK_ret, blockK_normal, blockK_same, blockK_ret, seqK_normal, seqK_exit, seqK_ret, fin_done, if_true', if_false', Bool.not_true, Bool.not_false, idx0, idx1, idx2, idx3, idx4, chk_nil_l, chk_nil_r, done_nm]
      exact main _ _ _ _ _ _ _ _ _ _ _ _ _ _ _ _ _ _ _ _ _ _ _ _ _ _ _ _ _ _ _ _ _ _ _ _ _ _ _ _ _ _ _ _ _ _ _ _ _ _ _ _ _ _ _ _ _ _ _ _ _ _ _ _ _ _ _
  · have d : decide (m.kind = 1) = false := decide_eq_false fun x => c (.inl x)
    have d3 : decide (m.kind = 3) = false := decide_eq_false fun x => c (.inr x)
    unfold encV
    rw [if_neg c, List.append_nil]
    have main := rput2 x (by omega) ok.stamp
    simp -implicitDefEqProofs (disch := omega) only [dcT, dcF, faRM0, faRM1, faRM2, faRM3, faRM4, faRM5, faRM6, faRM7, faRM8, faRM9, ldIntV, x.M.l3, d, d3, ↓cnd_true, ↓cnd_false, ↓Option.bind_some, ↓obH_some', bin_add, bin_sub, bin_mul, bin_lss, bin_leq, bin_gtr, bin_geq, bin_eql, bin_neq, un_not, un_neg, Option.bind_some, Option.bind_none, Option.map_some, cnd_true, cnd_false, pickV_true, pickV_false, gd_true, gd_false, gdV_true, gdV_false, gdH_true, gdH_false, gdS_true, gdS_false, wt_ff, wt_tt, wt_ft, wt_tf, wt_undef, obH_some', extractV_tuple, nilCheckV_ptr, againK_normal, againK_exit, againK_ret, blockK_normal, blockK_same, blockK_ret, seqK_normal, seqK_exit, seqK_ret, fin_done, if_true', if_false', Bool.not_true, Bool.not_false, idx0, idx1, idx2, idx3, idx4, chk_nil_l, chk_nil_r, done_nm]
    exact main _ _ _ _ _ _ _ _ _ _ _ _ _ _ _ _ _ _ _ _ _ _ _ _ _ _ _ _ _ _ _ _ _ _ _ _ _ _ _ _ _ _ _ _ _ _ _ _ _ _ _ _ _ _ _ _ _ _ _ _ _ _ _ _ _ _ _
theorem spec_refPutM (hb : SB h bv m.body) (hs : SB h sv m.stamp) (ok : MTok m) :
    ∃ w h', evC Try.prog 67 #[msgA m bv sv] h = some (w, h') ∧ HExt h h' ∧ SB h' w (putM m) := by
  rw [call67, c67_0_eq]
  have M := MC.new (h := nm h) 108 hb.nm hs.nm
  have i0 : In h.blks.length No (nm h) _ := In.new (by simp) (.cells (msgL m bv sv)) 108
  have k0 := bxRM (.int .i64 m.frm) (.int .u64 m.num) (.int .u64 m.to) (.int .i64 m.kind) (.int .i64 m.var) (.float .f64 m.val) (.int .i64 m.wr) (.int .u64 m.tag) bv sv (nm h)
  have bl : (nm h).blks.length = h.blks.length := rfl
  rw [bl] at M k0
  generalize (nm h).new (.cells (msgL m bv sv)) 108 = g0 at *
  obtain ⟨g1, e1, x1⟩ := spec_refGood M.b M.s ok
  have M1 := M.ext x1
  have i1 := i0.trans (x1.inn i0.len)
  unfold putM
  cases hg : goodMsg m with
  | false =>
    rw [hg] at e1
    simp -implicitDefEqProofs (disch := omega) only [k0, M.ldR, e1, ↓ret67, ↓cnd_true, ↓cnd_false, ↓Option.bind_some, ↓obH_some', bin_add, bin_sub, bin_mul, bin_lss, bin_leq, bin_gtr, bin_geq, bin_eql, bin_neq, un_not, un_neg, Option.bind_some, Option.bind_none, Option.map_some, cnd_true, cnd_false, pickV_true, pickV_false, gd_true, gd_false, gdV_true, gdV_false, gdH_true, gdH_false, gdS_true, gdS_false, wt_ff, wt_tt, wt_ft, wt_tf, wt_undef, obH_some', extractV_tuple, nilCheckV_ptr, againK_normal, againK_exit, againK_ret, blockK_normal, blockK_same, blockK_ret, seqK_normal, seqK_exit, seqK_ret, fin_done, if_true', if_false', Bool.not_true, Bool.not_false, idx0, idx1, idx2, idx3, idx4, chk_nil_l, chk_nil_r, done_nm]
    exact ⟨_, _, rfl, done_ext' i1, .nil⟩
  | true =>
    rw [hg] at e1
    have g := goodF.1 hg
    have k2 := bxRW nilSl g1
    have lM := M1.c.lt
    have i2 := i1.trans (In.new i1.len (.cells [nilSl]) 97)
    have P2 : PR h (g1.new (.cells [nilSl]) 97) h.blks.length g1.blks.length m bv sv [] := ⟨M1.same (Same.new _ _ _), ⟨none, 0, Cells.new _ _ _, .nil, by simp [blockOf]⟩, i2, hb.lo, hs.lo, Nat.le_refl _, lM, fun v wv hv => by
      have a := wv.1
      have b := Cells.new g1 97 [nilSl]
      unfold Cells at a b
      rw [a] at b
      simp only [Option.some.injEq, Blk.mk.injEq, Body.cells.injEq, List.cons.injEq, and_true, true_and] at b
      rw [b] at hv
      cases hv⟩
    generalize g1.new (.cells [nilSl]) 97 = g2 at *
    have f0 := g.f0
    have f1 := g.f1
    have q0 := g.k0
    have q3 := g.k3
    have cf : ∀ h, convV Try.prog 3 46 (.int .i64 m.frm) h = some (.int .u64 ((m.frm.toNat : Nat) : Int), h) := fun h => by rw [show ((m.frm.toNat : Nat) : Int) = m.frm by omega]; exact cvI64 m.frm h (by omega) (by omega)
    have ck : ∀ h, convV Try.prog 3 46 (.int .i64 m.kind) h = some (.int .u64 ((m.kind.toNat : Nat) : Int), h) := fun h => by rw [show ((m.kind.toNat : Nat) : Int) = m.kind by omega]; exact cvI64 m.kind h (by omega) (by omega)
    have s1 := sizeN_le m.frm.toNat 10 (by omega) (by omega)
    have s2 := sizeN_le m.num 10 (by have := ok.num; omega) (by have := ok.num; omega)
    have s3 := sizeN_le m.to 10 (by have := ok.to; omega) (by have := ok.to; omega)
    have s4 := sizeN_le m.kind.toNat 10 (by omega) (by omega)
    have p1 := putL_len m.frm.toNat
    have p2 := putL_len m.num
    have p3 := putL_len m.to
    have p4 := putL_len m.kind.toNat
    obtain ⟨g3, e3, P3⟩ := P2.num m.frm.toNat (by omega) (by simp)
    rw [List.nil_append] at P3
    obtain ⟨g4, e4, P4⟩ := P3.num m.num ok.num (by omega)
    obtain ⟨g5, e5, P5⟩ := P4.num m.to ok.to (by rw [List.length_append]; omega)
    obtain ⟨g6, e6, P6⟩ := P5.num m.kind.toNat (by omega) (by simp only [List.length_append]; omega)
    rw [show putL m.frm.toNat ++ putL m.num ++ putL m.to ++ putL m.kind.toNat = encH m from rfl] at P6
    have lH : (encH m).length ≤ 40 := by unfold encH; simp only [List.length_append]; omega
    unfold encM encB
    by_cases c : m.kind = 0
    · have d : decide (m.kind = 0) = true := decide_eq_true c
      have gb := g.body
      obtain ⟨g7, e7, P7⟩ := P6.bytes P6.M.b P6.lb (by omega) (by omega)
      have s5 := sizeN_le m.body.length 10 (by omega) (by omega)
      have p5 := putL_len m.body.length
      have main := rput1 P7 ok g (by simp only [List.length_append]; omega)
      rw [List.append_assoc (encH m)] at main
      simp only [if_pos c, if_true]
      simp -implicitDefEqProofs (disch := omega) only [k0, M.ldR, e1, bdRW0, k2, faRM0, faRM1, faRM2, faRM3, faRM4, faRM5, faRM6, faRM7, faRM8, faRM9, ldIntV, vld64, ldB, P2.M.l0, cf, e3, P3.M.l1, e4, P4.M.l2, e5, P5.M.l3, ck, e6, P6.M.l3, d, P6.M.l8, e7, ↓cnd_true, ↓cnd_false, ↓Option.bind_some, ↓obH_some', bin_add, bin_sub, bin_mul, bin_lss, bin_leq, bin_gtr, bin_geq, bin_eql, bin_neq, un_not, un_neg, Option.bind_some, Option.bind_none, Option.map_some, cnd_true, cnd_false, pickV_true, pickV_false, gd_true, gd_false, gdV_true, gdV_false, gdH_true, gdH_false, gdS_true, gdS_false, wt_ff, wt_tt, wt_ft, wt_tf, wt_undef, obH_some', extractV_tuple, nilCheckV_ptr, againK_normal, againK_exit, againK_ret, blockK_normal, blockK_same, blockK_ret, seqK_normal, seqK_exit, seqK_ret, fin_done, if_true', if_false', Bool.not_true, Bool.not_false, idx0, idx1, idx2, idx3, idx4, chk_nil_l, chk_nil_r, done_nm]
      exact main _ _ _ _ _ _ _ _ _ _ _ _ _ _ _ _ _ _ _ _ _ _ _ _ _ _ _ _ _ _ _ _ _ _ _ _ _ _ _ _ _ _ _ _ _ _ _ _ _ _ _ _ _ _ _ _ _ _ _ _ _ _ _ _ _ _ _
    · have d : decide (m.kind = 0) = false := decide_eq_false c
      have gk := g.k
      rw [if_neg c] at gk
      have cv : ∀ h, convV Try.prog 3 46 (.int .i64 m.var) h = some (.int .u64 ((m.var.toNat : Nat) : Int), h) := fun h => by rw [show ((m.var.toNat : Nat) : Int) = m.var by omega]; exact cvI64 m.var h (by omega) (by omega)
      obtain ⟨g7, e7, P7⟩ := P6.num m.var.toNat (by omega) (by omega)
      have s5 := sizeN_le m.var.toNat 10 (by omega) (by omega)
      have p5 := putL_len m.var.toNat
      have main := rput1 P7 ok g (by simp only [List.length_append]; omega)
      simp only [if_neg c, if_true]
      simp -implicitDefEqProofs (disch := omega) only [k0, M.ldR, e1, bdRW0, k2, faRM0, faRM1, faRM2, faRM3, faRM4, faRM5, faRM6, faRM7, faRM8, faRM9, ldIntV, vld64, ldB, P2.M.l0, cf, e3, P3.M.l1, e4, P4.M.l2, e5, P5.M.l3, ck, e6, P6.M.l3, d, P6.M.l4, cv, e7, ↓cnd_true, ↓cnd_false, ↓Option.bind_some, ↓obH_some', bin_add, bin_sub, bin_mul, bin_lss, bin_leq, bin_gtr, bin_geq, bin_eql, bin_neq, un_not, un_neg, Option.bind_some, Option.bind_none, Option.map_some, cnd_true, cnd_false, pickV_true, pickV_false, gd_true, gd_false, gdV_true, gdV_false, gdH_true, gdH_false, gdS_true, gdS_false, wt_ff, wt_tt, wt_ft, wt_tf, wt_undef, obH_some', extractV_tuple, nilCheckV_ptr, againK_normal, againK_exit, againK_ret, blockK_normal, blockK_same, blockK_ret, seqK_normal, seqK_exit, seqK_ret, fin_done, if_true', if_false', Bool.not_true, Bool.not_false, idx0, idx1, idx2, idx3, idx4, chk_nil_l, chk_nil_r, done_nm]
      exact main _ _ _ _ _ _ _ _ _ _ _ _ _ _ _ _ _ _ _ _ _ _ _ _ _ _ _ _ _ _ _ _ _ _ _ _ _ _ _ _ _ _ _ _ _ _ _ _ _ _ _ _ _ _ _ _ _ _ _ _ _ _ _ _ _ _ _
end Go.Am
namespace Go.Am
open Go.Proofs
set_option maxRecDepth 100000
set_option linter.all false
attribute [local congr] obind_congr obH_congr cnd_congr chk_congr retK_congr codeK_congr
def bodyQ (x : MT × Option (List UInt8)) : MT × Option (List UInt8) :=
  if x.1.kind = 0 then ({ x.1 with body := (bytesP x.2 256).1 }, (bytesP x.2 256).2) else ({ x.1 with var := (numP x.2 15).1 }, (numP x.2 15).2)
def hdQ (bs : List UInt8) : MT × Option (List UInt8) :=
  let a := numP (some bs) 15
  let b := numP a.2 U64M
  let c := numP b.2 65535
  let d := numP c.2 3
  (⟨a.1, b.1, c.1, d.1, 0, 0, 0, 0, [], []⟩, d.2)
def getQ (bs : List UInt8) : Option MT := finR (stR (valR (bodyQ (hdQ bs))))
theorem bdRM0 : buildV Try.prog 108 #[] = some (msgA m00 nilSl nilSl) := by kernel_rfl
theorem bdRM1 (a : Int) : buildV Try.prog 108 #[(0, .int .i64 a)] = some (.agg #[.int .i64 a, .int .u64 0, .int .u64 0, .int .i64 0, .int .i64 0, .float .f64 0, .int .i64 0, .int .u64 0, .slice none 0 0, .slice none 0 0]) := by kernel_rfl
variable {h0 h h' : Heap} {p2 p5 rp : Nat} {m m' : MT} {bv sv : Value} {r r' : Option (List UInt8)}
structure GR (h0 h : Heap) (p2 p5 rp : Nat) (m : MT) (bv sv : Value) (r : Option (List UInt8)) : Prop where
  c : Cells h p5 108 (msgL m bv sv)
  b : AB h0.blks.length h bv m.body
  s : AB h0.blks.length h sv m.stamp
  c2 : Cells h p2 108 (msgL m00 nilSl nilSl)
  w : RdrR h0.blks.length h rp r
  hin : In h0.blks.length No (nm h0) h
  h2 : h0.blks.length ≤ p2
  h25 : p2 < rp
  hr5 : rp < p5
  ok : MTok m
  rl : (rbs r).length < 2 ^ 38
theorem GR.next (x : GR h0 h p2 p5 rp m bv sv r) (e : HMod (Just rp) h h') (w : RdrR h0.blks.length h' rp r') (hr : (rbs r').length ≤ (rbs r).length) : GR h0 h' p2 p5 rp m bv sv r' := by
  have hl : h0.blks.length ≤ h.blks.length := x.hin.len
  have := x.h2
  have := x.h25
  have := x.hr5
  have lt := x.c.lt
  obtain ⟨cs, hc⟩ : ∃ cs, Cells h rp 83 cs := let ⟨_, _, c, _⟩ := x.w; ⟨_, c⟩
  exact ⟨x.c.mod e (fun e => by have : p5 = rp := e; omega), x.b.kpC hc (by decide) fun b hb hne => e.old b hb hne, x.s.kpC hc (by decide) fun b hb hne => e.old b hb hne, x.c2.mod e (fun e => by have : p2 = rp := e; omega), w, x.hin.trans (e.inn hl fun b hb e => by have : b = rp := e; omega), x.h2, x.h25, x.hr5, x.ok, Nat.lt_of_le_of_lt hr x.rl⟩
theorem GR.set (x : GR h0 h p2 p5 rp m bv sv r) (k : Nat) (v : Value) {m' : MT} {bv' sv' : Value} (hk : k + 1 ≤ 10) (he : List.take k (msgL m bv sv) ++ [v] ++ List.drop (k + [v].length) (msgL m bv sv) = msgL m' bv' sv') (hb : AB h0.blks.length h bv' m'.body) (hs : AB h0.blks.length h sv' m'.stamp) (ok : MTok m') :
    ∃ h', h.storeN p5 k [v] = some h' ∧ GR h0 h' p2 p5 rp m' bv' sv' r := by
  have st := storeN_blk x.c (o := k) (vs := [v]) (by simpa using hk)
  rw [he] at st
  have hl : h0.blks.length ≤ h.blks.length := x.hin.len
  have := x.h2
  have := x.h25
  have := x.hr5
  exact ⟨_, st, x.c.put _, hb.kpC x.c (by decide) fun b hb hne => Heap.put_other hne _, hs.kpC x.c (by decide) fun b hb hne => Heap.put_other hne _, x.c2.keepPut (by omega) _, x.w.keepPut x.hr5 _, x.hin.trans (In.put hl (.inl (by omega)) _), x.h2, x.h25, x.hr5, ok, x.rl⟩
theorem GR.l3 (x : GR h0 h p2 p5 rp m bv sv r) : h.load1 p5 3 = some (.int .i64 m.kind) := by rw [x.c.load]; rfl
theorem GR.num (x : GR h0 h p2 p5 rp m bv sv r) (most : Nat) (hm : most < 2 ^ 64) : ∃ h', evC Try.prog 48 #[.pointer (some ⟨rp, 0, none⟩), .int .u64 most] h = some (.int .u64 (numP r most).1, h') ∧ GR h0 h' p2 p5 rp m bv sv (numP r most).2 := by
  obtain ⟨h', e, k, w⟩ := spec_RRNum x.w most hm (by have := x.rl; omega)
  exact ⟨h', e, x.next k w (numP_le r most).2.2.1⟩
theorem rget3 (x : GR h0 h p2 p5 rp m bv sv r) : ∀ (x0 x1 x3 x6 x7 x8 x9 x10 x11 x12 x13 x14 x15 x16 x17 x18 x19 x20 x21 x22 x23 x24 x25 x26 x27 x28 x29 x30 x31 x32 x33 x34 x35 x36 x37 x38 x39 x40 x41 x42 x43 x44 x45 x46 x47 x48 x49 x50 x51 x52 x53 x54 x55 x56 x57 x58 x59 x60 x61 x62 x63 x64 : Value),
    ∃ bv' sv' h', codeK Try.prog (evC Try.prog) loopL c70_2 ⟨#[x0, x1, .pointer (some ⟨p2, 0, none⟩), x3, .pointer (some ⟨rp, 0, none⟩), .pointer (some ⟨p5, 0, none⟩), x6, x7, x8, x9, x10, x11, x12, x13, x14, x15, x16, x17, x18, x19, x20, x21, x22, x23, x24, x25, x26, x27, x28, x29, x30, x31, x32, x33, x34, x35, x36, x37, x38, x39, x40, x41, x42, x43, x44, x45, x46, x47, x48, x49, x50, x51, x52, x53, x54, x55, x56, x57, x58, x59, x60, x61, x62, x63, x64], h⟩ (retK Try.f70 Try.prog h0) =
      some (.tuple #[msgA (gotV (finR (stR (m, r)))) bv' sv', .bool (finR (stR (m, r))).isSome], h') ∧ HExt h0 h' ∧ AB h0.blks.length h' bv' (gotV (finR (stR (m, r)))).body ∧ AB h0.blks.length h' sv' (gotV (finR (stR (m, r)))).stamp := by
  intro x0 x1 x3 x6 x7 x8 x9 x10 x11 x12 x13 x14 x15 x16 x17 x18 x19 x20 x21 x22 x23 x24 x25 x26 x27 x28 x29 x30 x31 x32 x33 x34 x35 x36 x37 x38 x39 x40 x41 x42 x43 x44 x45 x46 x47 x48 x49 x50 x51 x52 x53 x54 x55 x56 x57 x58 x59 x60 x61 x62 x63 x64
  rw [c70_2_eq]
  have hl : h0.blks.length ≤ h.blks.length := x.hin.len
  have hle := bytesP_le r 20000
  have hrl := x.rl
  obtain ⟨a, c, h2, e2, k2, w2, s2⟩ := spec_RRBytes x.w 20000 (by omega) (by omega) (by omega)
  rw [show (20000 : Int).toNat = 20000 from rfl] at e2 w2 s2
  have x2 := x.next k2 w2 hle.1
  have ok2 : MTok { m with stamp := (bytesP r 20000).1 } := ⟨x.ok.f0, x.ok.f1, x.ok.num, x.ok.to, x.ok.k0, x.ok.k1, x.ok.v0, x.ok.v1, x.ok.val, x.ok.w0, x.ok.w1, x.ok.tag, x.ok.body, by show (bytesP r 20000).1.length < 2 ^ 38; omega⟩
  obtain ⟨h3, e3, x3⟩ := x2.set 9 (.slice a (bytesP r 20000).1.length c) (m' := { m with stamp := (bytesP r 20000).1 }) (by omega) rfl x2.b (s2.up hl) ok2
  have e4 := spec_RREnd x3.w
  have ld3 : loadV Try.prog 108 (.pointer (some ⟨p5, 0, none⟩)) h3 = some (msgA { m with stamp := (bytesP r 20000).1 } bv (.slice a (bytesP r 20000).1.length c)) := by rw [ldRMs, x3.c.loadN (n := 10) rfl]; rfl
  have e9 : stR (m, r) = ({ m with stamp := (bytesP r 20000).1 }, (bytesP r 20000).2) := rfl
  rw [e9]
  generalize hm' : ({ m with stamp := (bytesP r 20000).1 } : MT) = m' at *
  have hl3 : h0.blks.length ≤ h3.blks.length := x3.hin.len
  have bad : ∀ h4, Same h3 h4 → In h0.blks.length No (nm h0) h4 → finR (m', (bytesP r 20000).2) = none → (h4.storeN p2 0 (msgL m00 nilSl nilSl)) = some (h4.put p2 (.cells (msgL m00 nilSl nilSl))) ∧ Cells (h4.put p2 (.cells (msgL m00 nilSl nilSl))) p2 108 (msgL m00 nilSl nilSl) ∧ In h0.blks.length No (nm h0) (h4.put p2 (.cells (msgL m00 nilSl nilSl))) := fun h4 s4 i4 _ => by
    have c2 := x3.c2.same s4
    exact ⟨storeN_blk c2 (o := 0) (vs := msgL m00 nilSl nilSl) (by simp), c2.put _, i4.trans (In.put i4.len (.inl x3.h2) _)⟩
  cases hE : endP (bytesP r 20000).2 with
  | false =>
    rw [hE] at e4
    have hf : finR (m', (bytesP r 20000).2) = none := by unfold finR; rw [if_neg (by rw [hE]; simp)]
    rw [hf]
    obtain ⟨b1, b2, b3⟩ := bad h3 (Same.refl _) x3.hin hf
    simp -implicitDefEqProofs (disch := omega) only [dcT, dcF, e2, faRM9, smB, e3, e4, bdRM0, stRM, b1, ↓ret70, ↓cnd_true, ↓cnd_false, ↓Option.bind_some, ↓obH_some', bin_add, bin_sub, bin_mul, bin_lss, bin_leq, bin_gtr, bin_geq, bin_eql, bin_neq, un_not, un_neg, Option.bind_some, Option.bind_none, Option.map_some, cnd_true, cnd_false, pickV_true, pickV_false, gd_true, gd_false, gdV_true, gdV_false, gdH_true, gdH_false, gdS_true, gdS_false, wt_ff, wt_tt, wt_ft, wt_tf, wt_undef, obH_some', extractV_tuple, nilCheckV_ptr, againK_normal, againK_exit, againK_ret, blockK_normal, blockK_same, blockK_ret, seqK_normal, seqK_exit, seqK_ret, fin_done, if_true', if_false', Bool.not_true, Bool.not_false, idx0, idx1, idx2, idx3, idx4, chk_nil_l, chk_nil_r, done_nm]
    simp -implicitDefEqProofs only [ldRMs, b2.loadN (n := 10) rfl, Option.map_some, Option.bind_some, rvals_two, fin_done]
    exact ⟨_, _, _, rfl, done_ext' b3, .nil, .nil⟩
  | true =>
    rw [hE] at e4
    obtain ⟨h4, e5, k5⟩ := spec_refGood (x3.b.sl etB.size) (x3.s.sl etB.size) x3.ok
    have i4 := x3.hin.trans (k5.inn hl3)
    cases hG : goodMsg m' with
    | false =>
      rw [hG] at e5
      have hf : finR (m', (bytesP r 20000).2) = none := by unfold finR; rw [if_neg (by rw [hG]; simp)]
      rw [hf]
      obtain ⟨b1, b2, b3⟩ := bad h4 k5.same i4 hf
      simp -implicitDefEqProofs (disch := omega) only [dcT, dcF, e2, faRM9, smB, e3, e4, ld3, e5, bdRM0, stRM, b1, ↓ret70, ↓cnd_true, ↓cnd_false, ↓Option.bind_some, ↓obH_some', bin_add, bin_sub, bin_mul, bin_lss, bin_leq, bin_gtr, bin_geq, bin_eql, bin_neq, un_not, un_neg, Option.bind_some, Option.bind_none, Option.map_some, cnd_true, cnd_false, pickV_true, pickV_false, gd_true, gd_false, gdV_true, gdV_false, gdH_true, gdH_false, gdS_true, gdS_false, wt_ff, wt_tt, wt_ft, wt_tf, wt_undef, obH_some', extractV_tuple, nilCheckV_ptr, againK_normal, againK_exit, againK_ret, blockK_normal, blockK_same, blockK_ret, seqK_normal, seqK_exit, seqK_ret, fin_done, if_true', if_false', Bool.not_true, Bool.not_false, idx0, idx1, idx2, idx3, idx4, chk_nil_l, chk_nil_r, done_nm]
      simp -implicitDefEqProofs only [ldRMs, b2.loadN (n := 10) rfl, Option.map_some, Option.bind_some, rvals_two, fin_done]
      exact ⟨_, _, _, rfl, done_ext' b3, .nil, .nil⟩
    | true =>
      rw [hG] at e5
      have hf : finR (m', (bytesP r 20000).2) = some m' := by unfold finR; rw [if_pos ⟨hE, hG⟩]
      rw [hf]
      obtain ⟨ba, bc, rfl⟩ := x3.b.shape
      have c5 := x3.c.same k5.same
      have c52 := x3.c2.same k5.same
      have ld4 : loadV Try.prog 108 (.pointer (some ⟨p5, 0, none⟩)) h4 = some (msgA m' (.slice ba m'.body.length bc) (.slice a (bytesP r 20000).1.length c)) := by rw [ldRMs, c5.loadN (n := 10) rfl]; rfl
      have b1 := storeN_blk c52 (o := 0) (vs := msgL m' (.slice ba m'.body.length bc) (.slice a (bytesP r 20000).1.length c)) (by simp)
      rw [show List.take 0 (msgL m00 nilSl nilSl) ++ msgL m' (.slice ba m'.body.length bc) (.slice a (bytesP r 20000).1.length c) ++ List.drop (0 + (msgL m' (.slice ba m'.body.length bc) (.slice a (bytesP r 20000).1.length c)).length) (msgL m00 nilSl nilSl) = msgL m' (.slice ba m'.body.length bc) (.slice a (bytesP r 20000).1.length c) from rfl] at b1
      have b2 := c52.put (msgL m' (.slice ba m'.body.length bc) (.slice a (bytesP r 20000).1.length c))
      have b3 := i4.trans (In.put (p := p2) i4.len (.inl x3.h2) (.cells (msgL m' (.slice ba m'.body.length bc) (.slice a (bytesP r 20000).1.length c))))
      have s6 := AB.kpC (x3.b.same k5.same) c52 (by decide) fun b hb hne => Heap.put_other (body := .cells (msgL m' (.slice ba m'.body.length bc) (.slice a (bytesP r 20000).1.length c))) hne
      have s7 := AB.kpC (x3.s.same k5.same) c52 (by decide) fun b hb hne => Heap.put_other (body := .cells (msgL m' (.slice ba m'.body.length bc) (.slice a (bytesP r 20000).1.length c))) hne
      simp -implicitDefEqProofs (disch := omega) only [dcT, dcF, e2, faRM9, smB, e3, e4, ld3, e5, ld4, stRM, b1, ↓ret70, ↓cnd_true, ↓cnd_false, ↓Option.bind_some, ↓obH_some', bin_add, bin_sub, bin_mul, bin_lss, bin_leq, bin_gtr, bin_geq, bin_eql, bin_neq, un_not, un_neg, Option.bind_some, Option.bind_none, Option.map_some, cnd_true, cnd_false, pickV_true, pickV_false, gd_true, gd_false, gdV_true, gdV_false, gdH_true, gdH_false, gdS_true, gdS_false, wt_ff, wt_tt, wt_ft, wt_tf, wt_undef, obH_some', extractV_tuple, nilCheckV_ptr, againK_normal, againK_exit, againK_ret, blockK_normal, blockK_same, blockK_ret, seqK_normal, seqK_exit, seqK_ret, fin_done, if_true', if_false', Bool.not_true, Bool.not_false, idx0, idx1, idx2, idx3, idx4, chk_nil_l, chk_nil_r, done_nm]
      simp -implicitDefEqProofs only [ldRMs, b2.loadN (n := 10) rfl, Option.map_some, Option.bind_some, rvals_two, fin_done]
      exact ⟨_, _, _, rfl, done_ext' b3, s6.done, s7.done⟩
theorem rget2 (x : GR h0 h p2 p5 rp m bv sv r) : ∀ (x0 x1 x3 x6 x7 x8 x9 x10 x11 x12 x13 x14 x15 x16 x17 x18 x19 x20 x21 x22 x23 x24 x25 x26 x27 x28 x29 x30 x31 x32 x33 x34 x35 x36 x37 x38 x39 x40 x41 x42 x43 x44 x45 x46 x47 x48 x49 x50 x51 x52 x53 x54 x55 x56 x57 x58 x59 x60 x61 x62 x63 x64 : Value),
    ∃ bv' sv' h', codeK Try.prog (evC Try.prog) loopL c70_1 ⟨#[x0, x1, .pointer (some ⟨p2, 0, none⟩), x3, .pointer (some ⟨rp, 0, none⟩), .pointer (some ⟨p5, 0, none⟩), x6, x7, x8, x9, x10, x11, x12, x13, x14, x15, x16, x17, x18, x19, x20, x21, x22, x23, x24, x25, x26, x27, x28, x29, x30, x31, x32, x33, x34, x35, x36, x37, x38, x39, x40, x41, x42, x43, x44, x45, x46, x47, x48, x49, x50, x51, x52, x53, x54, x55, x56, x57, x58, x59, x60, x61, x62, x63, x64], h⟩ (retK Try.f70 Try.prog h0) =
      some (.tuple #[msgA (gotV (finR (stR (valR (m, r))))) bv' sv', .bool (finR (stR (valR (m, r)))).isSome], h') ∧ HExt h0 h' ∧ AB h0.blks.length h' bv' (gotV (finR (stR (valR (m, r))))).body ∧ AB h0.blks.length h' sv' (gotV (finR (stR (valR (m, r))))).stamp := by
  intro x0 x1 x3 x6 x7 x8 x9 x10 x11 x12 x13 x14 x15 x16 x17 x18 x19 x20 x21 x22 x23 x24 x25 x26 x27 x28 x29 x30 x31 x32 x33 x34 x35 x36 x37 x38 x39 x40 x41 x42 x43 x44 x45 x46 x47 x48 x49 x50 x51 x52 x53 x54 x55 x56 x57 x58 x59 x60 x61 x62 x63 x64
  rw [c70_1_eq]
  by_cases c : m.kind = 1 ∨ m.kind = 3
  · have hv : valR (m, r) = ({ m with val := (floatP r).1, wr := ((numP (floatP r).2 16).1 : Int) - 1, tag := (numP (numP (floatP r).2 16).2 U64M).1 }, (numP (numP (floatP r).2 16).2 U64M).2) := by unfold valR; rw [if_pos c]
    rw [hv]
    have fl := floatP_le r
    have n1 := numP_le (floatP r).2 16
    have n2 := numP_le (numP (floatP r).2 16).2 U64M
    obtain ⟨h2, e2, k2, w2⟩ := spec_RRFloat x.w (by have := x.rl; omega)
    have x2 := x.next k2 w2 fl.2
    have ok2 : MTok { m with val := (floatP r).1 } := ⟨x.ok.f0, x.ok.f1, x.ok.num, x.ok.to, x.ok.k0, x.ok.k1, x.ok.v0, x.ok.v1, fl.1, x.ok.w0, x.ok.w1, x.ok.tag, x.ok.body, x.ok.stamp⟩
    obtain ⟨h3, e3, x3⟩ := x2.set 5 (.float .f64 (floatP r).1) (m' := { m with val := (floatP r).1 }) (by omega) rfl x2.b x2.s ok2
    obtain ⟨h4, e4, x4⟩ := x3.num 16 (by omega)
    have cv := fun h => cvU64 (((numP (floatP r).2 16).1 : Nat) : Int) h (by omega) (by omega)
    have hs : IntKind.wrap .i64 ((((numP (floatP r).2 16).1 : Nat) : Int) - 1) = (((numP (floatP r).2 16).1 : Nat) : Int) - 1 := by rw [wrap_i64] <;> omega
    have ok5 : MTok { m with val := (floatP r).1, wr := ((numP (floatP r).2 16).1 : Int) - 1 } := ⟨x.ok.f0, x.ok.f1, x.ok.num, x.ok.to, x.ok.k0, x.ok.k1, x.ok.v0, x.ok.v1, fl.1, by show -2 ^ 63 ≤ (((numP (floatP r).2 16).1 : Nat) : Int) - 1; omega, by show (((numP (floatP r).2 16).1 : Nat) : Int) - 1 < 2 ^ 63; omega, x.ok.tag, x.ok.body, x.ok.stamp⟩
    obtain ⟨h5, e5, x5⟩ := x4.set 6 (.int .i64 ((((numP (floatP r).2 16).1 : Nat) : Int) - 1)) (m' := { m with val := (floatP r).1, wr := ((numP (floatP r).2 16).1 : Int) - 1 }) (by omega) rfl x4.b x4.s ok5
    obtain ⟨h6, e6, x6⟩ := x5.num U64M (by unfold U64M; omega)
    rw [show ((U64M : Nat) : Int) = 18446744073709551615 from rfl] at e6
    have ok7 : MTok { m with val := (floatP r).1, wr := ((numP (floatP r).2 16).1 : Int) - 1, tag := (numP (numP (floatP r).2 16).2 U64M).1 } := ⟨x.ok.f0, x.ok.f1, x.ok.num, x.ok.to, x.ok.k0, x.ok.k1, x.ok.v0, x.ok.v1, fl.1, ok5.w0, ok5.w1, n2.2.1, x.ok.body, x.ok.stamp⟩
    obtain ⟨h7, e7, x7⟩ := x6.set 7 (.int .u64 ((numP (numP (floatP r).2 16).2 U64M).1 : Nat)) (m' := { m with val := (floatP r).1, wr := ((numP (floatP r).2 16).1 : Int) - 1, tag := (numP (numP (floatP r).2 16).2 U64M).1 }) (by omega) rfl x6.b x6.s ok7
    have main := rget3 x7
    rw [show ((16 : Nat) : Int) = 16 from rfl] at e4
    rcases c with c | c
    · have d : decide (m.kind = 1) = true := decide_eq_true c
      simp -implicitDefEqProofs (disch := omega) only [dcT, dcF, faRM3, faRM5, faRM6, faRM7, ldIntV, x.l3, d, e2, smF, e3, e4, cv, hs, smI, e5, e6, vst64, e7, ↓cnd_true, ↓cnd_false, ↓Option.bind_some, ↓obH_some', bin_add, bin_sub, bin_mul, bin_lss, bin_leq, bin_gtr, bin_geq, bin_eql, bin_neq, un_not, un_neg, Option.bind_some, Option.bind_none, Option.map_some, cnd_true, cnd_false, pickV_true, pickV_false, gd_true, gd_false, gdV_true, gdV_false, gdH_true, gdH_false, gdS_true, gdS_false, wt_ff, wt_tt, wt_ft, wt_tf, wt_undef, obH_some', extractV_tuple, nilCheckV_ptr, againK_normal, againK_exit, againK_ret, blockK_normal, blockK_same, blockK_ret, seqK_normal, seqK_exit, seqK_ret, fin_done, if_true', if_false', Bool.not_true, Bool.not_false, idx0, idx1, idx2, idx3, idx4, chk_nil_l, chk_nil_r, done_nm]
      exact main _ _ _ _ _ _ _ _ _ _ _ _ _ _ _ _ _ _ _ _ _ _ _ _ _ _ _ _ _ _ _ _ _ _ _ _ _ _ _ _ _ _ _ _ _ _ _ _ _ _ _ _ _ _ _ _ _ _ _ _ _ _
    · have d : decide (m.kind = 1) = false := decide_eq_false (by omega)
      have d3 : decide (m.kind = 3) = true := decide_eq_true c
      simp -implicitDefEqProofs (disch := omega) only [dcT, dcF, faRM3, faRM5, faRM6, faRM7, ldIntV, x.l3, d, d3, e2, smF, e3, e4, cv, hs, smI, e5, e6, vst64, e7, ↓cnd_true, ↓cnd_false, ↓Option.bind_some, ↓obH_some', bin_add, bin_sub, bin_mul, bin_lss, bin_leq, bin_gtr, bin_geq, bin_eql, bin_neq, un_not, un_neg, Option.bind_some, Option.bind_none, Option.map_some, cnd_true, cnd_false, pickV_true, pickV_false, gd_true, gd_false, gdV_true, gdV_false, gdH_true, gdH_false, gdS_true, gdS_false, wt_ff, wt_tt, wt_ft, wt_tf, wt_undef, obH_some', extractV_tuple, nilCheckV_ptr, againK_normal, againK_exit, againK_ret, blockK_normal, blockK_same, blockK_ret, seqK_normal, seqK_exit, seqK_ret, fin_done, if_true', if_false', Bool.not_true, Bool.not_false, idx0, idx1, idx2, idx3, idx4, chk_nil_l, chk_nil_r, done_nm]
      exact main _ _ _ _ _ _ _ _ _ _ _ _ _ _ _ _ _ _ _ _ _ _ _ _ _ _ _ _ _ _ _ _ _ _ _ _ _ _ _ _ _ _ _ _ _ _ _ _ _ _ _ _ _ _ _ _ _ _ _ _ _ _
  · have d : decide (m.kind = 1) = false := decide_eq_false fun x => c (.inl x)
    have d3 : decide (m.kind = 3) = false := decide_eq_false fun x => c (.inr x)
    have hv : valR (m, r) = (m, r) := by unfold valR; rw [if_neg c]
    rw [hv]
    have main := rget3 x
    simp -implicitDefEqProofs (disch := omega) only [dcT, dcF, faRM3, ldIntV, x.l3, d, d3, ↓cnd_true, ↓cnd_false, ↓Option.bind_some, ↓obH_some', bin_add, bin_sub, bin_mul, bin_lss, bin_leq, bin_gtr, bin_geq, bin_eql, bin_neq, un_not, un_neg, Option.bind_some, Option.bind_none, Option.map_some, cnd_true, cnd_false, pickV_true, pickV_false, gd_true, gd_false, gdV_true, gdV_false, gdH_true, gdH_false, gdS_true, gdS_false, wt_ff, wt_tt, wt_ft, wt_tf, wt_undef, obH_some', extractV_tuple, nilCheckV_ptr, againK_normal, againK_exit, againK_ret, blockK_normal, blockK_same, blockK_ret, seqK_normal, seqK_exit, seqK_ret, fin_done, if_true', if_false', Bool.not_true, Bool.not_false, idx0, idx1, idx2, idx3, idx4, chk_nil_l, chk_nil_r, done_nm]
    exact main _ _ _ _ _ _ _ _ _ _ _ _ _ _ _ _ _ _ _ _ _ _ _ _ _ _ _ _ _ _ _ _ _ _ _ _ _ _ _ _ _ _ _ _ _ _ _ _ _ _ _ _ _ _ _ _ _ _ _ _ _ _
theorem spec_refGetM {b : Value} {bs : List UInt8} (sb : SB h b bs) (hb : bs.length < 2 ^ 38) :
    ∃ bv' sv' h', evC Try.prog 70 #[b] h = some (.tuple #[msgA (gotV (getQ bs)) bv' sv', .bool (getQ bs).isSome], h') ∧ HExt h h' ∧ AB h.blks.length h' bv' (gotV (getQ bs)).body ∧ AB h.blks.length h' sv' (gotV (getQ bs)).stamp := by
  rw [call70, c70_0_eq]
  obtain ⟨xa, xc, rfl⟩ := sb.shape
  have k1 := alRM (nm h)
  have c1 := Cells.new (nm h) 108 (msgL m00 nilSl nilSl)
  have i1 : In h.blks.length No (nm h) _ := In.new (by simp) (.cells (msgL m00 nilSl nilSl)) 108
  have s1 : Same h _ := i1.same0
  have bl : (nm h).blks.length = h.blks.length := rfl
  rw [bl] at k1 c1
  generalize (nm h).new (.cells (msgL m00 nilSl nilSl)) 108 = g1 at *
  have lt1 := c1.lt
  have k2 := bxRR (.slice xa bs.length xc) (.bool false) g1
  have w2 : RdrR h.blks.length (g1.new (.cells [.slice xa bs.length xc, .bool false]) 83) g1.blks.length (some bs) := ⟨xa, xc, Cells.new _ _ _, (sb.same s1).keepNew _ _, sb.lo, i1.len⟩
  have i2 := i1.trans (In.new i1.len (.cells [.slice xa bs.length xc, .bool false]) 83)
  have c2 := c1.keepNew (.cells [.slice xa bs.length xc, .bool false]) 83
  generalize hrp : g1.blks.length = rp at *
  generalize g1.new (.cells [.slice xa bs.length xc, .bool false]) 83 = g2 at *
  have n1 := numP_le (some bs) 15
  have n2 := numP_le (numP (some bs) 15).2 U64M
  have n3 := numP_le (numP (numP (some bs) 15).2 U64M).2 65535
  have n4 := numP_le (numP (numP (numP (some bs) 15).2 U64M).2 65535).2 3
  rw [show (rbs (some bs)).length = bs.length from rfl] at n1
  have lr : h.blks.length ≤ rp := by omega
  obtain ⟨g3, e3, x3, w3⟩ := spec_RRNum w2 15 (by omega) (by rw [show (rbs (some bs)).length = bs.length from rfl]; omega)
  rw [show ((15 : Nat) : Int) = 15 from rfl] at e3
  have jr : ∀ b, b < h.blks.length → Just rp b → No b := fun b hb e => by have : b = rp := e; omega
  have i3 := i2.trans (x3.inn i2.len jr)
  have c3 := c2.mod x3 (fun e => by have : h.blks.length = rp := e; omega)
  have cv1 := fun h => cvU64 (((numP (some bs) 15).1 : Nat) : Int) h (by omega) (by omega)
  have hm : (hdQ bs).1 = ⟨(numP (some bs) 15).1, (numP (numP (some bs) 15).2 U64M).1, (numP (numP (numP (some bs) 15).2 U64M).2 65535).1, (numP (numP (numP (numP (some bs) 15).2 U64M).2 65535).2 3).1, 0, 0, 0, 0, [], []⟩ := rfl
  have hr : (hdQ bs).2 = (numP (numP (numP (numP (some bs) 15).2 U64M).2 65535).2 3).2 := rfl
  have k7 := alRM g3
  have c7 := Cells.new g3 108 (msgL m00 nilSl nilSl)
  have st7 := storeN_blk c7 (o := 0) (vs := msgL ⟨(numP (some bs) 15).1, 0, 0, 0, 0, 0, 0, 0, [], []⟩ nilSl nilSl) (by simp)
  rw [msgL_put] at st7
  have c8 := c7.put (msgL ⟨(numP (some bs) 15).1, 0, 0, 0, 0, 0, 0, 0, [], []⟩ nilSl nilSl)
  have i8 := (i3.trans (In.new i3.len (.cells (msgL m00 nilSl nilSl)) 108)).trans (In.put (p := g3.blks.length) (i3.trans (In.new i3.len (.cells (msgL m00 nilSl nilSl)) 108)).len (.inl i3.len) (.cells (msgL ⟨(numP (some bs) 15).1, 0, 0, 0, 0, 0, 0, 0, [], []⟩ nilSl nilSl)))
  have sm := (Same.new g3 (.cells (msgL m00 nilSl nilSl)) 108).put (Nat.le_refl _) (.cells (msgL ⟨(numP (some bs) 15).1, 0, 0, 0, 0, 0, 0, 0, [], []⟩ nilSl nilSl))
  have lw := w3.lt
  generalize hq5 : g3.blks.length = q5 at *
  generalize (g3.new (.cells (msgL m00 nilSl nilSl)) 108).put q5 (.cells (msgL ⟨(numP (some bs) 15).1, 0, 0, 0, 0, 0, 0, 0, [], []⟩ nilSl nilSl)) = g8 at *
  have z : ∀ (a d : Int) (b c : Nat), -2 ^ 63 ≤ a → a < 2 ^ 63 → b < 2 ^ 64 → c < 2 ^ 64 → -2 ^ 63 ≤ d → d < 2 ^ 63 → MTok ⟨a, b, c, d, 0, 0, 0, 0, [], []⟩ := fun a d b c h1 h2 h3 h4 h5 h6 => ⟨h1, h2, h3, h4, h5, h6, by show (-2 ^ 63 : Int) ≤ 0; decide, by show (0 : Int) < 2 ^ 63; decide, by show (0 : Nat) < 2 ^ 64; decide, by show (-2 ^ 63 : Int) ≤ 0; decide, by show (0 : Int) < 2 ^ 63; decide, by show (0 : Nat) < 2 ^ 64; decide, by show ([] : List UInt8).length < 2 ^ 38; decide, by show ([] : List UInt8).length < 2 ^ 38; decide⟩
  have G : GR h g8 h.blks.length q5 rp ⟨(numP (some bs) 15).1, 0, 0, 0, 0, 0, 0, 0, [], []⟩ nilSl nilSl (numP (some bs) 15).2 := ⟨c8, .nil, .nil, c3.same sm, w3.same sm, i8, Nat.le_refl _, by omega, by omega, z _ _ _ _ (by omega) (by omega) (by decide) (by decide) (by decide) (by decide), by omega⟩
  obtain ⟨g9, e9, G9⟩ := G.num U64M (by unfold U64M; omega)
  rw [show ((U64M : Nat) : Int) = 18446744073709551615 from rfl] at e9
  obtain ⟨g10, e10, G10⟩ := G9.set 1 (.int .u64 ((numP (numP (some bs) 15).2 U64M).1 : Nat)) (m' := ⟨(numP (some bs) 15).1, (numP (numP (some bs) 15).2 U64M).1, 0, 0, 0, 0, 0, 0, [], []⟩) (by omega) rfl .nil .nil (z _ _ _ _ (by omega) (by omega) n2.2.1 (by decide) (by decide) (by decide))
  obtain ⟨g11, e11, G11⟩ := G10.num 65535 (by omega)
  rw [show ((65535 : Nat) : Int) = 65535 from rfl] at e11
  obtain ⟨g12, e12, G12⟩ := G11.set 2 (.int .u64 ((numP (numP (numP (some bs) 15).2 U64M).2 65535).1 : Nat)) (m' := ⟨(numP (some bs) 15).1, (numP (numP (some bs) 15).2 U64M).1, (numP (numP (numP (some bs) 15).2 U64M).2 65535).1, 0, 0, 0, 0, 0, [], []⟩) (by omega) rfl .nil .nil (z _ _ _ _ (by omega) (by omega) n2.2.1 n3.2.1 (by decide) (by decide))
  obtain ⟨g13, e13, G13⟩ := G12.num 3 (by omega)
  rw [show ((3 : Nat) : Int) = 3 from rfl] at e13
  have cv2 := fun h => cvU64 (((numP (numP (numP (numP (some bs) 15).2 U64M).2 65535).2 3).1 : Nat) : Int) h (by omega) (by omega)
  obtain ⟨g14, e14, G14⟩ := G13.set 3 (.int .i64 ((numP (numP (numP (numP (some bs) 15).2 U64M).2 65535).2 3).1 : Nat)) (m' := (hdQ bs).1) (by omega) rfl .nil .nil (by rw [hm]; exact z _ _ _ _ (by omega) (by omega) n2.2.1 n3.2.1 (by omega) (by omega))
  rw [← hr] at G14
  have ok := G14.ok
  have rl := G14.rl
  unfold getQ
  have hpair : hdQ bs = ((hdQ bs).1, (hdQ bs).2) := rfl
  rw [hpair]
  generalize (hdQ bs).1 = mm at *
  generalize (hdQ bs).2 = r at *
  rw [show msgL ⟨(numP (some bs) 15).1, 0, 0, 0, 0, 0, 0, 0, [], []⟩ nilSl nilSl = [.int .i64 ((numP (some bs) 15).1 : Nat), .int .u64 0, .int .u64 0, .int .i64 0, .int .i64 0, .float .f64 0, .int .i64 0, .int .u64 0, .slice none 0 0, .slice none 0 0] from rfl] at st7
  by_cases c : mm.kind = 0
  · have d : decide (mm.kind = 0) = true := decide_eq_true c
    have hv : bodyQ (mm, r) = ({ mm with body := (bytesP r 256).1 }, (bytesP r 256).2) := by unfold bodyQ; rw [if_pos c]
    rw [hv]
    have hle := bytesP_le r 256
    obtain ⟨ba, bc, g15, e15, x15, w15, s15⟩ := spec_RRBytes G14.w 256 (by omega) (by omega) (by omega)
    rw [show (256 : Int).toNat = 256 from rfl] at e15 w15 s15
    have G15 := G14.next x15 w15 hle.1
    have ok15 : MTok { mm with body := (bytesP r 256).1 } := ⟨ok.f0, ok.f1, ok.num, ok.to, ok.k0, ok.k1, ok.v0, ok.v1, ok.val, ok.w0, ok.w1, ok.tag, by show (bytesP r 256).1.length < 2 ^ 38; omega, ok.stamp⟩
    obtain ⟨g16, e16, G16⟩ := G15.set 8 (.slice ba (bytesP r 256).1.length bc) (m' := { mm with body := (bytesP r 256).1 }) (by omega) rfl (s15.up G14.hin.len) G15.s ok15
    have main := rget2 G16
    simp -implicitDefEqProofs (disch := omega) only [dcT, dcF, k1, bdRR, k2, e3, cv1, bdRM1, k7, stRM, st7, e9, vst64, e10, e11, e12, e13, cv2, smI, e14, faRM0, faRM1, faRM2, faRM3, faRM4, faRM5, faRM6, faRM7, faRM8, faRM9, ldIntV, G14.l3, d, e15, smB, e16, ↓cnd_true, ↓cnd_false, ↓Option.bind_some, ↓obH_some', bin_add, bin_sub, bin_mul, bin_lss, bin_leq, bin_gtr, bin_geq, bin_eql, bin_neq, un_not, un_neg, Option.bind_some, Option.bind_none, Option.map_some, cnd_true, cnd_false, pickV_true, pickV_false, gd_true, gd_false, gdV_true, gdV_false, gdH_true, gdH_false, gdS_true, gdS_false, wt_ff, wt_tt, wt_ft, wt_tf, wt_undef, obH_some', extractV_tuple, nilCheckV_ptr, againK_normal, againK_exit, againK_ret, blockK_normal, blockK_same, blockK_ret, seqK_normal, seqK_exit, seqK_ret, fin_done, if_true', if_false', Bool.not_true, Bool.not_false, idx0, idx1, idx2, idx3, idx4, chk_nil_l, chk_nil_r, done_nm]
    exact main _ _ _ _ _ _ _ _ _ _ _ _ _ _ _ _ _ _ _ _ _ _ _ _ _ _ _ _ _ _ _ _ _ _ _ _ _ _ _ _ _ _ _ _ _ _ _ _ _ _ _ _ _ _ _ _ _ _ _ _ _ _
  · have d : decide (mm.kind = 0) = false := decide_eq_false c
    have hv : bodyQ (mm, r) = ({ mm with var := (numP r 15).1 }, (numP r 15).2) := by unfold bodyQ; rw [if_neg c]
    rw [hv]
    have n9 := numP_le r 15
    obtain ⟨g15, e15, G15⟩ := G14.num 15 (by omega)
    rw [show ((15 : Nat) : Int) = 15 from rfl] at e15
    have cv3 := fun h => cvU64 (((numP r 15).1 : Nat) : Int) h (by omega) (by omega)
    have ok15 : MTok { mm with var := (numP r 15).1 } := ⟨ok.f0, ok.f1, ok.num, ok.to, ok.k0, ok.k1, by show -2 ^ 63 ≤ (((numP r 15).1 : Nat) : Int); omega, by show (((numP r 15).1 : Nat) : Int) < 2 ^ 63; omega, ok.val, ok.w0, ok.w1, ok.tag, ok.body, ok.stamp⟩
    obtain ⟨g16, e16, G16⟩ := G15.set 4 (.int .i64 ((numP r 15).1 : Nat)) (m' := { mm with var := (numP r 15).1 }) (by omega) rfl G15.b G15.s ok15
    have main := rget2 G16
    simp -implicitDefEqProofs (disch := omega) only [dcT, dcF, k1, bdRR, k2, e3, cv1, bdRM1, k7, stRM, st7, e9, vst64, e10, e11, e12, e13, cv2, smI, e14, faRM0, faRM1, faRM2, faRM3, faRM4, faRM5, faRM6, faRM7, faRM8, faRM9, ldIntV, G14.l3, d, e15, cv3, e16, ↓cnd_true, ↓cnd_false, ↓Option.bind_some, ↓obH_some', bin_add, bin_sub, bin_mul, bin_lss, bin_leq, bin_gtr, bin_geq, bin_eql, bin_neq, un_not, un_neg, Option.bind_some, Option.bind_none, Option.map_some, cnd_true, cnd_false, pickV_true, pickV_false, gd_true, gd_false, gdV_true, gdV_false, gdH_true, gdH_false, gdS_true, gdS_false, wt_ff, wt_tt, wt_ft, wt_tf, wt_undef, obH_some', extractV_tuple, nilCheckV_ptr, againK_normal, againK_exit, againK_ret, blockK_normal, blockK_same, blockK_ret, seqK_normal, seqK_exit, seqK_ret, fin_done, if_true', if_false', Bool.not_true, Bool.not_false, idx0, idx1, idx2, idx3, idx4, chk_nil_l, chk_nil_r, done_nm]
    exact main _ _ _ _ _ _ _ _ _ _ _ _ _ _ _ _ _ _ _ _ _ _ _ _ _ _ _ _ _ _ _ _ _ _ _ _ _ _ _ _ _ _ _ _ _ _ _ _ _ _ _ _ _ _ _ _ _ _ _ _ _ _
end Go.Am
namespace Go.Am
open Go.Proofs
set_option maxRecDepth 100000
set_option linter.all false
attribute [local congr] obind_congr obH_congr cnd_congr chk_congr retK_congr codeK_congr
theorem setP_num (r : Option (List UInt8)) : setP r 65535 = numP r 65535 := by
  cases r with
  | none => rfl
  | some bs =>
    simp only [setP, numP]
    have hl := getL_lt bs
    have := outB_16 hl
    by_cases c : (getL bs).2 = 0 ∨ 65535 < (getL bs).1
    · rw [if_pos c, if_pos (c.imp_right fun h => fun e => by have := this.1 e; omega)]
    · rw [if_neg c, if_neg]
      rintro (h | h)
      · exact c (.inl h)
      · exact c (.inr (by
          refine Nat.lt_of_not_le fun hle => h (this.2 hle)))
theorem numP_15 (r : Option (List UInt8)) : numP r 15 = if (numP r 16).1 = 16 then (0, none) else numP r 16 := by
  cases r with
  | none => rfl
  | some bs =>
    by_cases c : (getL bs).2 = 0 ∨ 16 < (getL bs).1
    · have h16 : numP (some bs) 16 = (0, none) := by simp only [numP]; exact if_pos c
      have h15 : numP (some bs) 15 = (0, none) := by simp only [numP]; exact if_pos (c.imp_right fun h => by omega)
      rw [h15, h16]; rfl
    · have h16 : numP (some bs) 16 = ((getL bs).1, some (bs.drop (getL bs).2)) := by simp only [numP]; exact if_neg c
      rw [h16]
      by_cases e : (getL bs).1 = 16
      · have h15 : numP (some bs) 15 = (0, none) := by simp only [numP]; exact if_pos (.inr (by omega))
        rw [h15, if_pos e]
      · have h15 : numP (some bs) 15 = ((getL bs).1, some (bs.drop (getL bs).2)) := by
          simp only [numP]
          refine if_neg ?_
          rintro (h | h)
          · exact c (.inl h)
          · exact c (.inr (by omega))
        rw [h15, if_neg e]
theorem fin_keep {x : MT × Option (List UInt8)} {m' : MT} (h : finR (stR (valR x)) = some m') : m'.frm = x.1.frm ∧ m'.kind = x.1.kind ∧ m'.var = x.1.var ∧ GoodF m' := by
  unfold finR at h
  split at h
  · rename_i c
    have e := Option.some.inj h
    subst e
    refine ⟨?_, ?_, ?_, goodF.1 c.2⟩ <;> (unfold stR valR; split <;> rfl)
  · cases h
theorem bodyQ_none (x : MT × Option (List UInt8)) (h : x.2 = none) : (bodyQ x).2 = none := by
  unfold bodyQ; split <;> simp only [h] <;> rfl
theorem body_frm (x : MT × Option (List UInt8)) : (bodyR x).1.frm = x.1.frm := by unfold bodyR; split <;> rfl
theorem getQ_getM (bs : List UInt8) : getQ bs = getM bs := by
  unfold getQ getM
  by_cases c : (numP (some bs) 16).1 = 16
  · have h1 : (hdQ bs).2 = none := by
      unfold hdQ
      simp only []
      rw [numP_15, if_pos c]
      rfl
    rw [st_none _ (val_none _ (bodyQ_none _ h1))]
    cases h : finR (stR (valR (bodyR (hdR bs)))) with
    | none => rfl
    | some m' =>
      have k := fin_keep h
      rw [body_frm] at k
      have hf : (hdR bs).1.frm = 16 := by
        show (((numP (some bs) 16).1 : Nat) : Int) = 16
        rw [c]; rfl
      have := k.2.2.2.f1
      omega
  · have hh : hdQ bs = hdR bs := by
      unfold hdQ hdR
      simp only []
      rw [numP_15, if_neg c, setP_num]
    rw [hh]
    generalize hdR bs = x
    by_cases kz : x.1.kind = 0
    · have : bodyQ x = bodyR x := by unfold bodyQ bodyR; rw [if_pos kz, if_pos kz]
      rw [this]
    · by_cases e : (numP x.2 16).1 = 16
      · have h1 : (bodyQ x).2 = none := by unfold bodyQ; rw [if_neg kz, numP_15, if_pos e]
        rw [st_none _ (val_none _ h1)]
        cases h : finR (stR (valR (bodyR x))) with
        | none => rfl
        | some m' =>
          have k := fin_keep h
          have hv : (bodyR x).1.var = 16 := by
            unfold bodyR; rw [if_neg kz]
            show (((numP x.2 16).1 : Nat) : Int) = 16
            rw [e]; rfl
          have hk : (bodyR x).1.kind = x.1.kind := by unfold bodyR; rw [if_neg kz]
          have gk := k.2.2.2.k
          rw [if_neg (by rw [k.2.1, hk]; exact kz)] at gk
          omega
      · have : bodyQ x = bodyR x := by unfold bodyQ bodyR; rw [if_neg kz, if_neg kz, numP_15, if_neg e]
        rw [this]
theorem got_val (bs : List UInt8) : (gotV (getM bs)).val < 2 ^ 64 := by
  unfold getM gotV finR
  split
  · show (stR (valR (bodyR (hdR bs)))).1.val < 2 ^ 64
    unfold stR
    show (valR (bodyR (hdR bs))).1.val < 2 ^ 64
    unfold valR
    split
    · exact (floatP_le _).1
    · unfold bodyR
      split
      · show (0 : Nat) < 2 ^ 64; decide
      · show (0 : Nat) < 2 ^ 64; decide
  · show (0 : Nat) < 2 ^ 64; decide
variable {h h' : Heap} {p p1 p3 : Nat} {m n : MT} {bv sv bw sw : Value}
theorem rmvar {n0 : Nat} {g : Heap} (hn : n0 ≤ g.blks.length) (m : MT) (x y : Option Addr) (l k l2 k2 : Nat) : ∃ g', storeV Try.prog 108 (.pointer (some ⟨g.blks.length, 0, none⟩)) (msgA m (.slice x l k) (.slice y l2 k2)) (g.new (.cells (msgL m00 nilSl nilSl)) 108) = some g' ∧ Cells g' g.blks.length 108 (msgL m (.slice x l k) (.slice y l2 k2)) ∧ Same g g' := by
  have c := Cells.new g 108 (msgL m00 nilSl nilSl)
  have st := storeN_blk c (o := 0) (vs := msgL m (.slice x l k) (.slice y l2 k2)) (by simp)
  rw [msgL_put] at st
  exact ⟨_, by rw [stRM]; exact st, c.put _, (Same.new g _ _).put (Nat.le_refl _) _⟩
theorem mlaw_MailSays (h : Heap) (hb : SB h bv m.body) (hs : SB h sv m.stamp) (okf : m.body.length < 2 ^ 38 → m.stamp.length < 2 ^ 38 → MTok m) {b : Value} {bs : List UInt8} (sb : SB h b bs) : ∃ h', evC Try.prog 13 #[msgA m bv sv, b] h = some (.bool true, h') := by
  rw [call13, c13_0_eq]
  have M := MC.new (h := nm h) 104 hb.nm hs.nm
  have k0 := bxMM (.int .i64 m.frm) (.int .u64 m.num) (.int .u64 m.to) (.int .i64 m.kind) (.int .i64 m.var) (.float .f64 m.val) (.int .i64 m.wr) (.int .u64 m.tag) bv sv (nm h)
  have bl : (nm h).blks.length = h.blks.length := rfl
  rw [bl] at M k0
  have sb0 := sb.nm.keepNew (.cells (msgL m bv sv)) 104
  generalize (nm h).new (.cells (msgL m bv sv)) 104 = g0 at *
  obtain ⟨g1, e1, x1⟩ := spec_awake7 g0
  have M1 := M.ext x1
  have sb1 : SB g1 b bs := sb0.same x1.same
  have lb := M1.b.row.len_eq etB.under
  have ls := M1.s.row.len_eq etB.under
  have lbs := sb1.row.len_eq etB.under
  by_cases c1 : 400 < m.body.length
  · simp -implicitDefEqProofs (disch := omega) only [↓c13_1_eq, ↓c13_2_eq, ↓c13_3_eq, ↓c13_4_eq, ↓c13_5_eq, dcT, dcF, k0, e1, faMM8, ldB, M1.l8, lb, ↓ret13, ↓cnd_true, ↓cnd_false, ↓Option.bind_some, ↓obH_some', bin_add, bin_sub, bin_mul, bin_lss, bin_leq, bin_gtr, bin_geq, bin_eql, bin_neq, un_not, un_neg, Option.bind_some, Option.bind_none, Option.map_some, cnd_true, cnd_false, pickV_true, pickV_false, gd_true, gd_false, gdV_true, gdV_false, gdH_true, gdH_false, gdS_true, gdS_false, wt_ff, wt_tt, wt_ft, wt_tf, wt_undef, obH_some', extractV_tuple, nilCheckV_ptr, againK_normal, againK_exit, againK_ret, blockK_normal, blockK_same, blockK_ret, seqK_normal, seqK_exit, seqK_ret, fin_done, if_true', if_false', Bool.not_true, Bool.not_false, idx0, idx1, idx2, idx3, idx4, chk_nil_l, chk_nil_r, done_nm]
    exact ⟨_, rfl⟩
  by_cases c2 : 300 < m.stamp.length
  · simp -implicitDefEqProofs (disch := omega) only [↓c13_1_eq, ↓c13_2_eq, ↓c13_3_eq, ↓c13_4_eq, ↓c13_5_eq, dcT, dcF, k0, e1, faMM8, faMM9, ldB, M1.l8, M1.l9, lb, ls, ↓ret13, ↓cnd_true, ↓cnd_false, ↓Option.bind_some, ↓obH_some', bin_add, bin_sub, bin_mul, bin_lss, bin_leq, bin_gtr, bin_geq, bin_eql, bin_neq, un_not, un_neg, Option.bind_some, Option.bind_none, Option.map_some, cnd_true, cnd_false, pickV_true, pickV_false, gd_true, gd_false, gdV_true, gdV_false, gdH_true, gdH_false, gdS_true, gdS_false, wt_ff, wt_tt, wt_ft, wt_tf, wt_undef, obH_some', extractV_tuple, nilCheckV_ptr, againK_normal, againK_exit, againK_ret, blockK_normal, blockK_same, blockK_ret, seqK_normal, seqK_exit, seqK_ret, fin_done, if_true', if_false', Bool.not_true, Bool.not_false, idx0, idx1, idx2, idx3, idx4, chk_nil_l, chk_nil_r, done_nm]
    exact ⟨_, rfl⟩
  by_cases c3 : 500 < bs.length
  · simp -implicitDefEqProofs (disch := omega) only [↓c13_1_eq, ↓c13_2_eq, ↓c13_3_eq, ↓c13_4_eq, ↓c13_5_eq, dcT, dcF, k0, e1, faMM8, faMM9, ldB, M1.l8, M1.l9, lb, ls, lbs, ↓ret13, ↓cnd_true, ↓cnd_false, ↓Option.bind_some, ↓obH_some', bin_add, bin_sub, bin_mul, bin_lss, bin_leq, bin_gtr, bin_geq, bin_eql, bin_neq, un_not, un_neg, Option.bind_some, Option.bind_none, Option.map_some, cnd_true, cnd_false, pickV_true, pickV_false, gd_true, gd_false, gdV_true, gdV_false, gdH_true, gdH_false, gdS_true, gdS_false, wt_ff, wt_tt, wt_ft, wt_tf, wt_undef, obH_some', extractV_tuple, nilCheckV_ptr, againK_normal, againK_exit, againK_ret, blockK_normal, blockK_same, blockK_ret, seqK_normal, seqK_exit, seqK_ret, fin_done, if_true', if_false', Bool.not_true, Bool.not_false, idx0, idx1, idx2, idx3, idx4, chk_nil_l, chk_nil_r, done_nm]
    exact ⟨_, rfl⟩
  have ok := okf (by omega) (by omega)
  obtain ⟨pa, pc, g2, e2, x2, a2⟩ := spec_PutM (h := nm g1) M1.b.nm M1.s.nm ok
  obtain ⟨x2', m2⟩ := x2.amx
  have M2 := M1.ext x2'
  have s2 : SB (am g2 g1) (.slice pa (putM m).length pc) (putM m) := (a2.sl etB.size).keep fun _ _ _ => rfl
  obtain ⟨g3, e3, x3⟩ := spec_own M2.b M2.s
  have M3 := M2.ext x3
  obtain ⟨w4, g4, e4, x4, s4⟩ := spec_refPutM M3.b M3.s ok
  have M4 := M3.ext x4
  obtain ⟨gb, gs, g5, e5, x5, ab5, as5⟩ := spec_GetM (b := b) (bs := bs) (((sb1.same x2'.same).same x3.same).same x4.same) (by omega)
  obtain ⟨ba, bc, rfl⟩ := ab5.shape
  obtain ⟨sa, sc, rfl⟩ := as5.shape
  have k6 := alMM g5
  obtain ⟨g6, st6, c6, s6, _⟩ := mmvar (n0 := 0) (g := g5) (Nat.zero_le _) (gotV (getM bs)) ba sa (gotV (getM bs)).body.length bc (gotV (getM bs)).stamp.length sc
  have N6 : MC 104 g6 g5.blks.length (gotV (getM bs)) (.slice ba (gotV (getM bs)).body.length bc) (.slice sa (gotV (getM bs)).stamp.length sc) := ⟨c6, (ab5.same s6).sl etB.size, (as5.same s6).sl etB.size⟩
  have S46 := x5.same.trans s6
  obtain ⟨rb', rs, g7, e7, x7, ab7, as7⟩ := spec_refGetM (b := b) (bs := bs) ((((sb1.same x2'.same).same x3.same).same x4.same).same S46) (by omega)
  rw [getQ_getM] at e7 ab7 as7
  obtain ⟨ra, rc, rfl⟩ := ab7.shape
  obtain ⟨ta, tc, rfl⟩ := as7.shape
  have k8 := alRM g7
  obtain ⟨g8, st8, c8, s8⟩ := rmvar (n0 := 0) (g := g7) (Nat.zero_le _) (gotV (getM bs)) ra ta (gotV (getM bs)).body.length rc (gotV (getM bs)).stamp.length tc
  have R8 : MC 108 g8 g7.blks.length (gotV (getM bs)) (.slice ra (gotV (getM bs)).body.length rc) (.slice ta (gotV (getM bs)).stamp.length tc) := ⟨c8, (ab7.same s8).sl etB.size, (as7.same s8).sl etB.size⟩
  have S48 := (S46.trans x7.same).trans s8
  have M8 := M4.same S48
  have N8 := (N6.ext x7).same s8
  have p8 : SB g8 (.slice pa (putM m).length pc) (putM m) := ((s2.same x3.same).same x4.same).same S48
  have q8 : SB g8 w4 (putM m) := s4.same S48
  obtain ⟨g9, e9, x9⟩ := spec_GoodM (h := nm g8) M8.b.nm M8.s.nm ok
  obtain ⟨x9', m9⟩ := x9.amx
  have M9 := M8.ext x9'
  obtain ⟨g10, e10, x10⟩ := spec_own M9.b M9.s
  have M10 := M9.ext x10
  obtain ⟨g11, e11, x11⟩ := spec_refGood M10.b M10.s ok
  have M11 := M10.ext x11
  have S811 := (x9'.same.trans x10.same).trans x11.same
  have f1 := strB (p8.same S811)
  have f2 := strB (q8.same S811)
  have hse : ∀ xo yo (x : List UInt8), binV Try.prog .eql 9 xo yo (strV x) (strV x) = some (.bool true) := fun xo yo x => by rw [bin_streq, decide_eq_true rfl]
  obtain ⟨g12, e12, x12⟩ := spec_SizeM M11.b M11.s ok
  have lq := ((q8.same S811).same x12.same).row.len_eq etB.under
  have S812 := S811.trans x12.same
  have N12 := N8.same S812
  have R12 := R8.same S812
  obtain ⟨g13, e13, x13⟩ := spec_own (h := nm g12) N12.b.nm N12.s.nm
  obtain ⟨x13', m13⟩ := x13.amx
  have N13 := N12.ext x13'
  have R13 := R12.ext x13'
  obtain ⟨g14, e14, x14⟩ := spec_alike N13.b N13.s R13.b R13.s (Alike.refl _) (got_val bs) (got_val bs)
  have bb : (goodMsg m == goodMsg m) = true := by cases goodMsg m <;> rfl
  have zz : ((2 : Int) = 0) = False := by simp
  have ff : (false == false) = true := rfl
  have tt : (true == true) = true := rfl
  cases hr : getM bs with
  | none =>
    rw [hr] at e5 st6 e7 st8 e13 e14 N12 R13 c6 N13 R12
    rw [show gotE none = 2 from rfl] at e5
    rw [show (none : Option MT).isSome = false from rfl] at e7
    simp -implicitDefEqProofs (maxSteps := 2000000) (disch := omega) only [↓c13_1_eq, ↓c13_2_eq, ↓c13_3_eq, ↓c13_4_eq, ↓c13_5_eq, ↓c13_6_eq, ↓c13_7_eq, ↓c13_8_eq, ↓c13_9_eq, ↓c13_10_eq, ↓c13_11_eq, ↓c13_12_eq, ↓c13_13_eq, ↓c13_14_eq, ↓d13_0_0, ↓d13_0_1, ↓d13_0_2, ↓d13_0_3, ↓d13_0_4, ↓d13_0_5, ↓d13_0_6, ↓d13_0_7, ↓d13_0_8, ↓d13_0_9, ↓d13_0_10, ↓d13_0_11, ↓d13_0_12, ↓d13_0_13, ↓d13_0_14, ↓d13_0_15, ↓d13_0_16, ↓d13_0_17, ↓d13_0_18, ↓d13_0_19, ↓d13_0_20, ↓d13_0_21, ↓d13_0_22, ↓d13_0_23, ↓d13_0_24, ↓d13_0_25, ↓d13_0_26, ↓d13_0_27, ↓d13_0_28, ↓d13_0_29, ↓d13_0_30, ↓d13_0_31, ↓d13_0_32, ↓d13_0_33, ↓d13_0_34, ↓d13_0_35, ↓d13_0_36, ↓d13_0_37, ↓d13_0_38, ↓d13_0_39, ↓d13_0_40, dcT, dcF, k0, e1, faMM8, faMM9, ldB, M1.l8, M1.l9, lb, ls, lbs, M1.ld, e2, m2, M2.ld, e3, e4, e5, k6, st6, e7, k8, st8, M8.ld, e9, m9, M9.ld, e10, e11, vbeql, bb, f1, f2, hse, M11.ld, e12, lq, eq_self, decide_true, zz, decide_false, ff, N12.ld, e13, m13, R13.ldR, e14, List.append_nil, List.nil_append, ↓ret13, ↓cnd_true, ↓cnd_false, ↓Option.bind_some, ↓obH_some', bin_add, bin_sub, bin_mul, bin_lss, bin_leq, bin_gtr, bin_geq, bin_eql, bin_neq, un_not, un_neg, Option.bind_some, Option.bind_none, Option.map_some, cnd_true, cnd_false, pickV_true, pickV_false, gd_true, gd_false, gdV_true, gdV_false, gdH_true, gdH_false, gdS_true, gdS_false, wt_ff, wt_tt, wt_ft, wt_tf, wt_undef, obH_some', extractV_tuple, nilCheckV_ptr, againK_normal, againK_exit, againK_ret, blockK_normal, blockK_same, blockK_ret, seqK_normal, seqK_exit, seqK_ret, fin_done, if_true', if_false', Bool.not_true, Bool.not_false, idx0, idx1, idx2, idx3, idx4, chk_nil_l, chk_nil_r, done_nm]
    exact ⟨_, rfl⟩
  | some m' =>
    rw [hr] at e5 st6 e7 st8 e13 e14 N12 R13 c6 N13 R12
    rw [show gotE (some m') = 0 from rfl] at e5
    rw [show (some m').isSome = true from rfl] at e7
    simp -implicitDefEqProofs (maxSteps := 2000000) (disch := omega) only [↓c13_1_eq, ↓c13_2_eq, ↓c13_3_eq, ↓c13_4_eq, ↓c13_5_eq, ↓c13_6_eq, ↓c13_7_eq, ↓c13_8_eq, ↓c13_9_eq, ↓c13_10_eq, ↓c13_11_eq, ↓c13_12_eq, ↓c13_13_eq, ↓c13_14_eq, ↓d13_0_0, ↓d13_0_1, ↓d13_0_2, ↓d13_0_3, ↓d13_0_4, ↓d13_0_5, ↓d13_0_6, ↓d13_0_7, ↓d13_0_8, ↓d13_0_9, ↓d13_0_10, ↓d13_0_11, ↓d13_0_12, ↓d13_0_13, ↓d13_0_14, ↓d13_0_15, ↓d13_0_16, ↓d13_0_17, ↓d13_0_18, ↓d13_0_19, ↓d13_0_20, ↓d13_0_21, ↓d13_0_22, ↓d13_0_23, ↓d13_0_24, ↓d13_0_25, ↓d13_0_26, ↓d13_0_27, ↓d13_0_28, ↓d13_0_29, ↓d13_0_30, ↓d13_0_31, ↓d13_0_32, ↓d13_0_33, ↓d13_0_34, ↓d13_0_35, ↓d13_0_36, ↓d13_0_37, ↓d13_0_38, ↓d13_0_39, ↓d13_0_40, dcT, dcF, k0, e1, faMM8, faMM9, ldB, M1.l8, M1.l9, lb, ls, lbs, M1.ld, e2, m2, M2.ld, e3, e4, e5, k6, st6, e7, k8, st8, M8.ld, e9, m9, M9.ld, e10, e11, vbeql, bb, f1, f2, hse, M11.ld, e12, lq, eq_self, decide_true, tt, N12.ld, e13, m13, R13.ldR, e14, List.append_nil, List.nil_append, ↓ret13, ↓cnd_true, ↓cnd_false, ↓Option.bind_some, ↓obH_some', bin_add, bin_sub, bin_mul, bin_lss, bin_leq, bin_gtr, bin_geq, bin_eql, bin_neq, un_not, un_neg, Option.bind_some, Option.bind_none, Option.map_some, cnd_true, cnd_false, pickV_true, pickV_false, gd_true, gd_false, gdV_true, gdV_false, gdH_true, gdH_false, gdS_true, gdS_false, wt_ff, wt_tt, wt_ft, wt_tf, wt_undef, obH_some', extractV_tuple, nilCheckV_ptr, againK_normal, againK_exit, againK_ret, blockK_normal, blockK_same, blockK_ret, seqK_normal, seqK_exit, seqK_ret, fin_done, if_true', if_false', Bool.not_true, Bool.not_false, idx0, idx1, idx2, idx3, idx4, chk_nil_l, chk_nil_r, done_nm]
    exact ⟨_, rfl⟩
theorem law_MailSays (h : Heap) (vs : List Value) (dd : List DT) (r : RdAll Try.prog h [104, 23] vs dd) : ∃ h', evC Try.prog 13 vs.toArray h = some (.bool true, h') := by
  obtain ⟨v, d, vs', ds', rfl, rfl, r0, r1⟩ := r.cons_inv
  obtain ⟨v1, d1, vs', ds', rfl, rfl, ra, r2⟩ := r1.cons_inv
  obtain ⟨rfl, rfl⟩ := r2.nil_inv
  obtain ⟨m, bv, sv, rfl, hb, hs, ok⟩ := r0.msg
  obtain ⟨bs, sb, _⟩ := ra.bytes (e := 5) (by kernel_rfl) (by kernel_rfl) (by kernel_rfl)
  exact mlaw_MailSays h hb hs ok sb
end Go.Am
