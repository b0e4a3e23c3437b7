/- What the functions answer, in the machine. -/
import Derived.Test.YtclpkcampbhbdaaKD
import Derived.Test.YtclpkcampbhbdaaChecked
import Derived.Shelf.Spec.SlicesInsert
import Derived.WalkKit
import Derived.KernelRfl
import Derived.Lib.AppendZerosOnto
import Derived.Laws.NewBlocks
import Derived.Shelf.SlSortCmp.NoneTotal
set_option linter.all false
namespace Go.Am
open Go.Proofs
set_option maxRecDepth 100000
set_option linter.all false
attribute [local congr] obind_congr obH_congr cnd_congr chk_congr retK_congr codeK_congr
theorem bxRe (a b c : Value) (h : Heap) : boxV Try.prog 72 (.agg #[a, b, c]) h = some (.pointer (some ⟨h.blks.length, 0, none⟩), h.new (.cells [a, b, c]) 72) := by kernel_rfl
theorem faRe0 (p o : Nat) : fieldAddrV Try.prog 72 (.pointer (some ⟨p, o, none⟩)) 0 = some (.pointer (some ⟨p, o, none⟩)) := by kernel_rfl
theorem faRe1 (p o : Nat) : fieldAddrV Try.prog 72 (.pointer (some ⟨p, o, none⟩)) 1 = some (.pointer (some ⟨p, o + 1, none⟩)) := by kernel_rfl
theorem faRe2 (p o : Nat) : fieldAddrV Try.prog 72 (.pointer (some ⟨p, o, none⟩)) 2 = some (.pointer (some ⟨p, o + 2, none⟩)) := by kernel_rfl
theorem spec_GoodEntry (e : E3) (h : Heap) : ∃ h', evC Try.prog 61 #[entV e] h = some (.bool (mayE e), h') ∧ HExt h h' := by
  rw [call61]
  have c := Cells.new (nm h) 72 [.int .i64 e.f, .int .u64 e.n, .int .u64 e.t]
  have k1 : In h.blks.length No (nm h) ((nm h).new (.cells [.int .i64 e.f, .int .u64 e.n, .int .u64 e.t]) 72) := In.new (h := nm h) (Nat.le_refl h.blks.length) _ _
  generalize hh : (nm h).new (.cells [.int .i64 e.f, .int .u64 e.n, .int .u64 e.t]) 72 = h1 at c k1
  generalize hp : (nm h).blks.length = p at c
  have l0 : h1.load1 p 0 = some (.int .i64 e.f) := c.load 0
  have l1 : h1.load1 p (0 + 1) = some (.int .u64 e.n) := c.load 1
  have l2 : h1.load1 p (0 + 2) = some (.int .u64 e.t) := c.load 2
  have d0 : decide (0 ≤ e.f) = decide (e.f ≥ 0) := rfl
  have d1 : decide (e.f < 16) = decide (e.f ≤ 15) := by congr 1; apply propext; omega
  have d2 : decide (0 < e.n) = decide ((e.n : Int) ≥ 1) := by congr 1; apply propext; omega
  have d3 : decide (e.t < 65536) = decide ((e.t : Int) ≤ 65535) := by congr 1; apply propext; omega
  unfold mayE
  rw [d0, d1, d2, d3]
  refine ⟨_, ?_, done_ext' k1⟩
  by_cases g0 : e.f ≥ 0
  · by_cases g1 : e.f ≤ 15
    · by_cases g2 : (e.n : Int) ≥ 1
      · simp -implicitDefEqProofs (disch := omega) only [↓c61_0_eq, entV, bxRe, hh, hp, faRe0, faRe1, faRe2, ldI, ldU, l0, l1, l2, dcT, dcF, Bool.true_and, Bool.false_and, Bool.and_true, ↓ret61, ↓cnd_true, ↓cnd_false, ↓Option.bind_some, ↓obH_some', bin_add, bin_sub, bin_mul, bin_lss, bin_leq, bin_gtr, bin_geq, bin_eql, bin_neq, un_not, un_neg, Option.bind_some, Option.bind_none, Option.map_some, cnd_true, cnd_false, pickV_true, pickV_false, gd_true, gd_false, gdV_true, gdV_false, gdH_true, gdH_false, gdS_true, gdS_false, wt_ff, wt_tt, wt_ft, wt_tf, wt_undef, obH_some', extractV_tuple, nilCheckV_ptr, againK_normal, againK_exit, againK_ret, blockK_normal, blockK_same, blockK_ret, seqK_normal, seqK_exit, seqK_ret, fin_done, if_true', if_false', Bool.not_true, Bool.not_false, idx0, idx1, idx2, idx3, idx4, chk_nil_l, chk_nil_r, done_nm, up_cons, up_nil, cond_true, cond_false, Nat.reduceBEq]
      · simp -implicitDefEqProofs (disch := omega) only [↓c61_0_eq, entV, bxRe, hh, hp, faRe0, faRe1, faRe2, ldI, ldU, l0, l1, l2, dcT, dcF, Bool.true_and, Bool.false_and, Bool.and_true, ↓ret61, ↓cnd_true, ↓cnd_false, ↓Option.bind_some, ↓obH_some', bin_add, bin_sub, bin_mul, bin_lss, bin_leq, bin_gtr, bin_geq, bin_eql, bin_neq, un_not, un_neg, Option.bind_some, Option.bind_none, Option.map_some, cnd_true, cnd_false, pickV_true, pickV_false, gd_true, gd_false, gdV_true, gdV_false, gdH_true, gdH_false, gdS_true, gdS_false, wt_ff, wt_tt, wt_ft, wt_tf, wt_undef, obH_some', extractV_tuple, nilCheckV_ptr, againK_normal, againK_exit, againK_ret, blockK_normal, blockK_same, blockK_ret, seqK_normal, seqK_exit, seqK_ret, fin_done, if_true', if_false', Bool.not_true, Bool.not_false, idx0, idx1, idx2, idx3, idx4, chk_nil_l, chk_nil_r, done_nm, up_cons, up_nil, cond_true, cond_false, Nat.reduceBEq]
    · simp -implicitDefEqProofs (disch := omega) only [↓c61_0_eq, entV, bxRe, hh, hp, faRe0, faRe1, faRe2, ldI, ldU, l0, l1, l2, dcT, dcF, Bool.true_and, Bool.false_and, Bool.and_true, ↓ret61, ↓cnd_true, ↓cnd_false, ↓Option.bind_some, ↓obH_some', bin_add, bin_sub, bin_mul, bin_lss, bin_leq, bin_gtr, bin_geq, bin_eql, bin_neq, un_not, un_neg, Option.bind_some, Option.bind_none, Option.map_some, cnd_true, cnd_false, pickV_true, pickV_false, gd_true, gd_false, gdV_true, gdV_false, gdH_true, gdH_false, gdS_true, gdS_false, wt_ff, wt_tt, wt_ft, wt_tf, wt_undef, obH_some', extractV_tuple, nilCheckV_ptr, againK_normal, againK_exit, againK_ret, blockK_normal, blockK_same, blockK_ret, seqK_normal, seqK_exit, seqK_ret, fin_done, if_true', if_false', Bool.not_true, Bool.not_false, idx0, idx1, idx2, idx3, idx4, chk_nil_l, chk_nil_r, done_nm, up_cons, up_nil, cond_true, cond_false, Nat.reduceBEq]
  · simp -implicitDefEqProofs (disch := omega) only [↓c61_0_eq, entV, bxRe, hh, hp, faRe0, faRe1, faRe2, ldI, ldU, l0, l1, l2, dcT, dcF, Bool.true_and, Bool.false_and, Bool.and_true, ↓ret61, ↓cnd_true, ↓cnd_false, ↓Option.bind_some, ↓obH_some', bin_add, bin_sub, bin_mul, bin_lss, bin_leq, bin_gtr, bin_geq, bin_eql, bin_neq, un_not, un_neg, Option.bind_some, Option.bind_none, Option.map_some, cnd_true, cnd_false, pickV_true, pickV_false, gd_true, gd_false, gdV_true, gdV_false, gdH_true, gdH_false, gdS_true, gdS_false, wt_ff, wt_tt, wt_ft, wt_tf, wt_undef, obH_some', extractV_tuple, nilCheckV_ptr, againK_normal, againK_exit, againK_ret, blockK_normal, blockK_same, blockK_ret, seqK_normal, seqK_exit, seqK_ret, fin_done, if_true', if_false', Bool.not_true, Bool.not_false, idx0, idx1, idx2, idx3, idx4, chk_nil_l, chk_nil_r, done_nm, up_cons, up_nil, cond_true, cond_false, Nat.reduceBEq]
theorem spec_ahead (e g : E3) (h : Heap) : ∃ h', evC Try.prog 62 #[entV e, entV g] h = some (.bool (decide (cmpE e g < 0)), h') ∧ HExt h h' := by
  rw [call62]
  have c := (Cells.new (nm h) 72 [.int .i64 e.f, .int .u64 e.n, .int .u64 e.t]).keepNew (.cells [.int .i64 g.f, .int .u64 g.n, .int .u64 g.t]) 72
  have c2 := Cells.new ((nm h).new (.cells [.int .i64 e.f, .int .u64 e.n, .int .u64 e.t]) 72) 72 [.int .i64 g.f, .int .u64 g.n, .int .u64 g.t]
  have k1 : In h.blks.length No (nm h) (((nm h).new (.cells [.int .i64 e.f, .int .u64 e.n, .int .u64 e.t]) 72).new (.cells [.int .i64 g.f, .int .u64 g.n, .int .u64 g.t]) 72) := (In.new (h := nm h) (Nat.le_refl h.blks.length) _ _).trans (In.new (by simp [Heap.new]) _ _)
  have e1 : ((nm h).new (.cells [.int .i64 e.f, .int .u64 e.n, .int .u64 e.t]) 72).blks.length = h.blks.length + 1 := by simp [Heap.new]
  rw [e1] at c2
  generalize hh : ((nm h).new (.cells [.int .i64 e.f, .int .u64 e.n, .int .u64 e.t]) 72).new (.cells [.int .i64 g.f, .int .u64 g.n, .int .u64 g.t]) 72 = h1 at c c2 k1
  have e0 : (nm h).blks.length = h.blks.length := rfl
  rw [e0] at c
  have l0 : h1.load1 h.blks.length 0 = some (.int .i64 e.f) := c.load 0
  have l1 : h1.load1 h.blks.length (0 + 1) = some (.int .u64 e.n) := c.load 1
  have m0 : h1.load1 (h.blks.length + 1) 0 = some (.int .i64 g.f) := c2.load 0
  have m1 : h1.load1 (h.blks.length + 1) (0 + 1) = some (.int .u64 g.n) := c2.load 1
  have hc : decide (cmpE e g < 0) = (decide (e.f < g.f) || (decide (e.f = g.f) && decide ((e.n : Int) < g.n))) := by
    unfold cmpE
    by_cases h1 : e.f < g.f
    · rw [if_pos h1, decide_eq_true h1]; rfl
    · rw [if_neg h1, decide_eq_false h1]
      by_cases h2 : g.f < e.f
      · rw [if_pos h2, decide_eq_false (show ¬ e.f = g.f by omega)]; rfl
      · rw [if_neg h2, decide_eq_true (show e.f = g.f by omega)]
        by_cases h3 : e.n < g.n
        · rw [if_pos h3, decide_eq_true (show (e.n : Int) < g.n by omega)]; rfl
        · rw [if_neg h3, decide_eq_false (show ¬ (e.n : Int) < g.n by omega)]
          by_cases h4 : g.n < e.n
          · rw [if_pos h4]; rfl
          · rw [if_neg h4]; rfl
  rw [hc]
  refine ⟨_, ?_, done_ext' k1⟩
  by_cases g0 : e.f < g.f
  · simp -implicitDefEqProofs (disch := omega) only [↓c62_0_eq, entV, bxRe, e0, e1, hh, faRe0, faRe1, ldI, ldU, l0, l1, m0, m1, dcT, dcF, Bool.true_or, Bool.false_or, Bool.true_and, Bool.false_and, ↓ret62, ↓cnd_true, ↓cnd_false, ↓Option.bind_some, ↓obH_some', bin_add, bin_sub, bin_mul, bin_lss, bin_leq, bin_gtr, bin_geq, bin_eql, bin_neq, un_not, un_neg, Option.bind_some, Option.bind_none, Option.map_some, cnd_true, cnd_false, pickV_true, pickV_false, gd_true, gd_false, gdV_true, gdV_false, gdH_true, gdH_false, gdS_true, gdS_false, wt_ff, wt_tt, wt_ft, wt_tf, wt_undef, obH_some', extractV_tuple, nilCheckV_ptr, againK_normal, againK_exit, againK_ret, blockK_normal, blockK_same, blockK_ret, seqK_normal, seqK_exit, seqK_ret, fin_done, if_true', if_false', Bool.not_true, Bool.not_false, idx0, idx1, idx2, idx3, idx4, chk_nil_l, chk_nil_r, done_nm, up_cons, up_nil, cond_true, cond_false, Nat.reduceBEq]
  · by_cases g1 : e.f = g.f
    · simp -implicitDefEqProofs (disch := omega) only [↓c62_0_eq, entV, bxRe, e0, e1, hh, faRe0, faRe1, ldI, ldU, l0, l1, m0, m1, dcT, dcF, Bool.true_or, Bool.false_or, Bool.true_and, Bool.false_and, ↓ret62, ↓cnd_true, ↓cnd_false, ↓Option.bind_some, ↓obH_some', bin_add, bin_sub, bin_mul, bin_lss, bin_leq, bin_gtr, bin_geq, bin_eql, bin_neq, un_not, un_neg, Option.bind_some, Option.bind_none, Option.map_some, cnd_true, cnd_false, pickV_true, pickV_false, gd_true, gd_false, gdV_true, gdV_false, gdH_true, gdH_false, gdS_true, gdS_false, wt_ff, wt_tt, wt_ft, wt_tf, wt_undef, obH_some', extractV_tuple, nilCheckV_ptr, againK_normal, againK_exit, againK_ret, blockK_normal, blockK_same, blockK_ret, seqK_normal, seqK_exit, seqK_ret, fin_done, if_true', if_false', Bool.not_true, Bool.not_false, idx0, idx1, idx2, idx3, idx4, chk_nil_l, chk_nil_r, done_nm, up_cons, up_nil, cond_true, cond_false, Nat.reduceBEq]
    · simp -implicitDefEqProofs (disch := omega) only [↓c62_0_eq, entV, bxRe, e0, e1, hh, faRe0, faRe1, ldI, ldU, l0, l1, m0, m1, dcT, dcF, Bool.true_or, Bool.false_or, Bool.true_and, Bool.false_and, ↓ret62, ↓cnd_true, ↓cnd_false, ↓Option.bind_some, ↓obH_some', bin_add, bin_sub, bin_mul, bin_lss, bin_leq, bin_gtr, bin_geq, bin_eql, bin_neq, un_not, un_neg, Option.bind_some, Option.bind_none, Option.map_some, cnd_true, cnd_false, pickV_true, pickV_false, gd_true, gd_false, gdV_true, gdV_false, gdH_true, gdH_false, gdS_true, gdS_false, wt_ff, wt_tt, wt_ft, wt_tf, wt_undef, obH_some', extractV_tuple, nilCheckV_ptr, againK_normal, againK_exit, againK_ret, blockK_normal, blockK_same, blockK_ret, seqK_normal, seqK_exit, seqK_ret, fin_done, if_true', if_false', Bool.not_true, Bool.not_false, idx0, idx1, idx2, idx3, idx4, chk_nil_l, chk_nil_r, done_nm, up_cons, up_nil, cond_true, cond_false, Nat.reduceBEq]
theorem goodL_loop {h0 h1 : Heap} {v : Value} {es : List E3} (s : SE h1 v es) (hl : es.length < 2 ^ 40) : ∀ (m i : Nat), es.length - i = m → i ≤ es.length →
    ∀ (x : Nat → Value) (h : Heap),In h0.blks.length No (nm h0) h → Same h1 h → x 0 = v → x 3 = .int .i64 i →
    ∃ h', lK c32_1 33 x h (blockK 0 (sK c32_2 (retK Try.f32 Try.prog h0))) = some (.bool (goodC (prevE es i) (es.drop i)), done h0 h') ∧ In h0.blks.length No (nm h0) h' := by
  intro m
  obtain ⟨va, vc, rfl⟩ := s.shape
  induction m with
  | zero =>
    intro i h1 h2 x h hin hs Aa Ad
    obtain rfl : i = es.length := by omega
    rw [lK_eq, List.drop_length]
    simp -implicitDefEqProofs (disch := omega) only [↓c32_1_eq, ↓c32_2_eq,Aa,Ad, lnRs, dcF, goodC, ↓ret32, ↓cnd_true, ↓cnd_false, ↓Option.bind_some, ↓obH_some', bin_add, bin_sub, bin_mul, bin_lss, bin_leq, bin_gtr, bin_geq, bin_eql, bin_neq, un_not, un_neg, Option.bind_some, Option.bind_none, Option.map_some, cnd_true, cnd_false, pickV_true, pickV_false, gd_true, gd_false, gdV_true, gdV_false, gdH_true, gdH_false, gdS_true, gdS_false, wt_ff, wt_tt, wt_ft, wt_tf, wt_undef, obH_some', extractV_tuple, nilCheckV_ptr, againK_normal, againK_exit, againK_ret, blockK_normal, blockK_same, blockK_ret, seqK_normal, seqK_exit, seqK_ret, fin_done, if_true', if_false', Bool.not_true, Bool.not_false, idx0, idx1, idx2, idx3, idx4, chk_nil_l, chk_nil_r, done_nm, up_cons, up_nil, cond_true, cond_false, Nat.reduceBEq]
    exact ⟨_, rfl, hin⟩
  | succ m ih =>
    intro i hm hi x h hin hs Aa Ad
    have hil : i < es.length := by omega
    rw [lK_eq, List.drop_eq_getElem_cons hil]
    obtain ⟨b, o, hb, hbl, e1, e2⟩ := s.at' (t := 51) (el := 72) (by kernel_rfl) (by kernel_rfl) hil
    obtain ⟨f1, f2, f3, f4⟩ := e2 h (hs.2 b hbl)
    obtain ⟨hC, g1, g2⟩ := spec_GoodEntry es[i] h
    have wi : IntKind.i64.wrap ((i : Int) + 1) = ((i + 1 : Nat) : Int) := by rw [wrap_i64] <;> omega
    have hin3 := hin.trans (g2.inn (Nat.le_trans hin.le hin.len))
    have hs3 := hs.trans g2.same
    cases hmay : mayE es[i] with
    | false =>
      rw [hmay] at g1
      simp -implicitDefEqProofs (disch := omega) only [↓c32_1_eq, ↓c32_2_eq,Aa,Ad, lnRs, e1, ldR, f1, Option.map_some, entA, g1, dcT, dcF, goodC, hmay, Bool.false_and, ↓ret32, ↓cnd_true, ↓cnd_false, ↓Option.bind_some, ↓obH_some', bin_add, bin_sub, bin_mul, bin_lss, bin_leq, bin_gtr, bin_geq, bin_eql, bin_neq, un_not, un_neg, Option.bind_some, Option.bind_none, Option.map_some, cnd_true, cnd_false, pickV_true, pickV_false, gd_true, gd_false, gdV_true, gdV_false, gdH_true, gdH_false, gdS_true, gdS_false, wt_ff, wt_tt, wt_ft, wt_tf, wt_undef, obH_some', extractV_tuple, nilCheckV_ptr, againK_normal, againK_exit, againK_ret, blockK_normal, blockK_same, blockK_ret, seqK_normal, seqK_exit, seqK_ret, fin_done, if_true', if_false', Bool.not_true, Bool.not_false, idx0, idx1, idx2, idx3, idx4, chk_nil_l, chk_nil_r, done_nm, up_cons, up_nil, cond_true, cond_false, Nat.reduceBEq]
      exact ⟨_, rfl, hin3⟩
    | true =>
      rw [hmay] at g1
      by_cases hi0 : i = 0
      · subst hi0
        simp -implicitDefEqProofs (disch := omega) only [↓c32_1_eq, ↓c32_2_eq,Aa,Ad, lnRs, e1, ldR, f1, Option.map_some, entA, g1, dcT, dcF, goodC, hmay, prevE, Bool.true_and, wi, ↓ret32, ↓cnd_true, ↓cnd_false, ↓Option.bind_some, ↓obH_some', bin_add, bin_sub, bin_mul, bin_lss, bin_leq, bin_gtr, bin_geq, bin_eql, bin_neq, un_not, un_neg, Option.bind_some, Option.bind_none, Option.map_some, cnd_true, cnd_false, pickV_true, pickV_false, gd_true, gd_false, gdV_true, gdV_false, gdH_true, gdH_false, gdS_true, gdS_false, wt_ff, wt_tt, wt_ft, wt_tf, wt_undef, obH_some', extractV_tuple, nilCheckV_ptr, againK_normal, againK_exit, againK_ret, blockK_normal, blockK_same, blockK_ret, seqK_normal, seqK_exit, seqK_ret, fin_done, if_true', if_false', Bool.not_true, Bool.not_false, idx0, idx1, idx2, idx3, idx4, chk_nil_l, chk_nil_r, done_nm, up_cons, up_nil, cond_true, cond_false, Nat.reduceBEq]
        have hpv' : prevE es (0 + 1) = some es[0] := by unfold prevE; rw [if_neg (by omega), List.getElem?_eq_getElem hil]
        rw [← hpv']
        refine ih 1 (by omega) (by omega) _ _ hin3 hs3 ?_ ?_
        exact Aa
        rfl
      · have hp : i - 1 < es.length := by omega
        obtain ⟨b', o', hb', hbl', e1', e2'⟩ := s.at' (t := 51) (el := 72) (by kernel_rfl) (by kernel_rfl) hp
        obtain ⟨f1', _⟩ := e2' hC (hs3.2 b' hbl')
        obtain ⟨f1'', _⟩ := e2 hC (hs3.2 b hbl)
        have wp : IntKind.i64.wrap ((i : Int) - 1) = ((i - 1 : Nat) : Int) := by rw [wrap_i64] <;> omega
        obtain ⟨hD, q1, q2⟩ := spec_ahead es[i - 1] es[i] hC
        have hpv : prevE es i = some es[i - 1] := by unfold prevE; rw [if_neg hi0, List.getElem?_eq_getElem hp]
        have hin4 := hin3.trans (q2.inn (Nat.le_trans hin3.le hin3.len))
        have hs4 := hs3.trans q2.same
        by_cases hc : cmpE es[i - 1] es[i] < 0
        · simp -implicitDefEqProofs (disch := omega) only [↓c32_1_eq, ↓c32_2_eq,Aa,Ad, lnRs, e1, ldR, f1, f1', f1'', Option.map_some, entA, g1, dcT, dcF, goodC, hmay, hpv, Bool.true_and, wi, wp, e1', q1, decide_eq_true hc, ↓ret32, ↓cnd_true, ↓cnd_false, ↓Option.bind_some, ↓obH_some', bin_add, bin_sub, bin_mul, bin_lss, bin_leq, bin_gtr, bin_geq, bin_eql, bin_neq, un_not, un_neg, Option.bind_some, Option.bind_none, Option.map_some, cnd_true, cnd_false, pickV_true, pickV_false, gd_true, gd_false, gdV_true, gdV_false, gdH_true, gdH_false, gdS_true, gdS_false, wt_ff, wt_tt, wt_ft, wt_tf, wt_undef, obH_some', extractV_tuple, nilCheckV_ptr, againK_normal, againK_exit, againK_ret, blockK_normal, blockK_same, blockK_ret, seqK_normal, seqK_exit, seqK_ret, fin_done, if_true', if_false', Bool.not_true, Bool.not_false, idx0, idx1, idx2, idx3, idx4, chk_nil_l, chk_nil_r, done_nm, up_cons, up_nil, cond_true, cond_false, Nat.reduceBEq]
          have hpv' : prevE es (i + 1) = some es[i] := by unfold prevE; rw [if_neg (by omega), Nat.add_sub_cancel, List.getElem?_eq_getElem hil]
          rw [← hpv']
          refine ih (i + 1) (by omega) (by omega) _ _ hin4 hs4 ?_ ?_
          exact Aa
          rfl
        · simp -implicitDefEqProofs (disch := omega) only [↓c32_1_eq, ↓c32_2_eq,Aa,Ad, lnRs, e1, ldR, f1, f1', f1'', Option.map_some, entA, g1, dcT, dcF, goodC, hmay, hpv, Bool.true_and, Bool.and_false, Bool.false_and, wi, wp, e1', q1, decide_eq_false hc, ↓ret32, ↓cnd_true, ↓cnd_false, ↓Option.bind_some, ↓obH_some', bin_add, bin_sub, bin_mul, bin_lss, bin_leq, bin_gtr, bin_geq, bin_eql, bin_neq, un_not, un_neg, Option.bind_some, Option.bind_none, Option.map_some, cnd_true, cnd_false, pickV_true, pickV_false, gd_true, gd_false, gdV_true, gdV_false, gdH_true, gdH_false, gdS_true, gdS_false, wt_ff, wt_tt, wt_ft, wt_tf, wt_undef, obH_some', extractV_tuple, nilCheckV_ptr, againK_normal, againK_exit, againK_ret, blockK_normal, blockK_same, blockK_ret, seqK_normal, seqK_exit, seqK_ret, fin_done, if_true', if_false', Bool.not_true, Bool.not_false, idx0, idx1, idx2, idx3, idx4, chk_nil_l, chk_nil_r, done_nm, up_cons, up_nil, cond_true, cond_false, Nat.reduceBEq]
          exact ⟨_, rfl, hin4⟩
theorem spec_GoodLog {h : Heap} {v : Value} {es : List E3} (s : SE h v es) (hl : es.length < 2 ^ 40) : ∃ h', evC Try.prog 32 #[v] h = some (.bool (goodE es), h') ∧ HExt h h' := by
  rw [call32]
  have lp := goodL_loop (h0 := h) s.nm hl es.length 0 (by omega) (by omega)
  simp -implicitDefEqProofs (disch := omega) only [↓c32_0_eq, ↓cnd_true, ↓cnd_false, ↓Option.bind_some, ↓obH_some', bin_add, bin_sub, bin_mul, bin_lss, bin_leq, bin_gtr, bin_geq, bin_eql, bin_neq, un_not, un_neg, Option.bind_some, Option.bind_none, Option.map_some, cnd_true, cnd_false, pickV_true, pickV_false, gd_true, gd_false, gdV_true, gdV_false, gdH_true, gdH_false, gdS_true, gdS_false, wt_ff, wt_tt, wt_ft, wt_tf, wt_undef, obH_some', extractV_tuple, nilCheckV_ptr, againK_normal, againK_exit, againK_ret, blockK_normal, blockK_same, blockK_ret, seqK_normal, seqK_exit, seqK_ret, fin_done, if_true', if_false', Bool.not_true, Bool.not_false, idx0, idx1, idx2, idx3, idx4, chk_nil_l, chk_nil_r, done_nm, up_cons, up_nil, cond_true, cond_false, Nat.reduceBEq]
  refine endL (lp _ _ (In.refl (Nat.le_refl _)) (Same.refl _) ?_ ?_)
  all_goals rfl
end Go.Am
namespace Go.Am
open Go.Proofs
set_option maxRecDepth 100000
set_option linter.all false
attribute [local congr] obind_congr obH_congr cnd_congr chk_congr retK_congr codeK_congr
theorem putR_loop {h0 h1 : Heap} {v : Value} {es : List E3} {p : Nat} (s : SE h1 v es) (hv : Lo v p) (hw : wide es) (hf : ∀ e ∈ es, 0 ≤ e.f ∧ e.f < 2 ^ 63) (hl : es.length < 2 ^ 32) (hn : h0.blks.length ≤ p) (hp1 : p ≤ h1.blks.length) :
    ∀ (m i : Nat), es.length - i = m → i ≤ es.length → ∀ (x : Nat → Value) (h : Heap),In h0.blks.length No (nm h0) h → Old p h1 h → WrR p h p (putL es.length ++ encL (es.take i)) →
    x 0 = v → x 3 = .pointer (some ⟨p, 0, none⟩) → x 4 = .int .i64 i →
    ∃ a c h', lK c39_1 47 x h (blockK 0 (sK c39_2 (retK Try.f39 Try.prog h0))) = some (.slice a (logB es).length c, done h0 h') ∧ In h0.blks.length No (nm h0) h' ∧ AB h0.blks.length h' (.slice a (logB es).length c) (logB es) := by
  intro m
  obtain ⟨va, vc, rfl⟩ := s.shape
  have ll : ∀ i, (encL (es.take i)).length ≤ 30 * es.length := fun i => by
    have := encL_le (es.take i) (fun e he => (hf e (List.mem_of_mem_take he)).2) (fun e he => hw e (List.mem_of_mem_take he))
    have h2 : (es.take i).length ≤ es.length := by rw [List.length_take]; omega
    omega
  have l0 := putL_le es.length (by omega)
  induction m with
  | zero =>
    intro i e1 e2 x h hin ho w Aa Ad Ae
    obtain rfl : i = es.length := by omega
    rw [List.take_length] at w
    obtain ⟨a, c, q1, q2, q3⟩ := w
    have hla := q1.load 0
    rw [lK_eq]
    refine ⟨a, c, h, ?_, hin, Acc.up q2 hn⟩
    have hld : h.load1 p 0 = some (.slice a (logB es).length c) := hla
    simp -implicitDefEqProofs (disch := omega) only [↓c39_1_eq, ↓c39_2_eq,Aa,Ad,Ae, lnRs, dcF, faRW, ldB, hld, ↓ret39, ↓cnd_true, ↓cnd_false, ↓Option.bind_some, ↓obH_some', bin_add, bin_sub, bin_mul, bin_lss, bin_leq, bin_gtr, bin_geq, bin_eql, bin_neq, un_not, un_neg, Option.bind_some, Option.bind_none, Option.map_some, cnd_true, cnd_false, pickV_true, pickV_false, gd_true, gd_false, gdV_true, gdV_false, gdH_true, gdH_false, gdS_true, gdS_false, wt_ff, wt_tt, wt_ft, wt_tf, wt_undef, obH_some', extractV_tuple, nilCheckV_ptr, againK_normal, againK_exit, againK_ret, blockK_normal, blockK_same, blockK_ret, seqK_normal, seqK_exit, seqK_ret, fin_done, if_true', if_false', Bool.not_true, Bool.not_false, idx0, idx1, idx2, idx3, idx4, chk_nil_l, chk_nil_r, done_nm, up_cons, up_nil, cond_true, cond_false, Nat.reduceBEq]
  | succ m ih =>
    intro i hm hi x h hin ho w Aa Ad Ae
    have hil : i < es.length := by omega
    have hph : p ≤ h.blks.length := Nat.le_trans hp1 ho.1
    obtain ⟨b, of, hb, hbl, e1, e2⟩ := s.at' (t := 51) (el := 72) (by kernel_rfl) (by kernel_rfl) hil
    obtain ⟨_, f1, f2, f3⟩ := e2 h (ho.2 b (hv b hb))
    have wd := hw es[i] (List.getElem_mem hil)
    have fd := hf es[i] (List.getElem_mem hil)
    have wlt := w.lt
    have bl := ll i
    have p1 := putL_le es[i].f.toNat (by omega)
    have p2 := putL_le es[i].n wd.1
    have p3 := putL_le es[i].t wd.2
    obtain ⟨hC, q1, q2, q3⟩ := spec_RWNum w hph es[i].f.toNat (by omega) (by rw [List.length_append]; omega)
    rw [Int.toNat_of_nonneg fd.1] at q1
    have lC := q2.len
    have oC := ho.trans (q2.to (Nat.le_refl _) hph)
    obtain ⟨_, _, f2', _⟩ := e2 hC (oC.2 b (hv b hb))
    obtain ⟨hD, r1, r2, r3⟩ := spec_RWNum (q3.up (n1 := p) (by omega)) (by omega) es[i].n wd.1 (by simp only [List.length_append]; omega)
    have lD := r2.len
    have oD := oC.trans (r2.to (Nat.le_refl _) (by omega))
    obtain ⟨_, _, _, f3'⟩ := e2 hD (oD.2 b (hv b hb))
    obtain ⟨hE, s1, s2, s3⟩ := spec_RWNum (r3.up (n1 := p) (by omega)) (by omega) es[i].t wd.2 (by simp only [List.length_append]; omega)
    have lE := s2.len
    have oE := oD.trans (s2.to (Nat.le_refl _) (by omega))
    have cv := fun h => cvI64 es[i].f h fd.1 fd.2
    have wi : IntKind.i64.wrap ((i : Int) + 1) = ((i + 1 : Nat) : Int) := by rw [wrap_i64] <;> omega
    have ht : es.take i ++ [es[i]] = es.take (i + 1) := by rw [List.take_succ, List.getElem?_eq_getElem hil]; rfl
    have hsn := encL_snoc (es.take i) es[i]
    rw [ht] at hsn
    have w2 : WrR p hE p (putL es.length ++ encL (es.take (i + 1))) := by
      have := s3.up (n1 := p) (by omega)
      rw [hsn]
      simpa [encE, List.append_assoc] using this
    have hb0 : ∀ b, b < h0.blks.length → Just p b → No b := fun b hb e => by have : b = p := e; omega
    have hin2 := ((hin.trans (q2.inn (by omega) hb0)).trans (r2.inn (by omega) hb0)).trans (s2.inn (by omega) hb0)
    rw [lK_eq]
    simp -implicitDefEqProofs (disch := omega) only [↓c39_1_eq, ↓c39_2_eq,Aa,Ad,Ae, lnRs, dcT, e1, faRe0, faRe1, faRe2, ldI, ldU, f1, f2', f3', cv, q1, r1, s1, wi, ↓cnd_true, ↓cnd_false, ↓Option.bind_some, ↓obH_some', bin_add, bin_sub, bin_mul, bin_lss, bin_leq, bin_gtr, bin_geq, bin_eql, bin_neq, un_not, un_neg, Option.bind_some, Option.bind_none, Option.map_some, cnd_true, cnd_false, pickV_true, pickV_false, gd_true, gd_false, gdV_true, gdV_false, gdH_true, gdH_false, gdS_true, gdS_false, wt_ff, wt_tt, wt_ft, wt_tf, wt_undef, obH_some', extractV_tuple, nilCheckV_ptr, againK_normal, againK_exit, againK_ret, blockK_normal, blockK_same, blockK_ret, seqK_normal, seqK_exit, seqK_ret, fin_done, if_true', if_false', Bool.not_true, Bool.not_false, idx0, idx1, idx2, idx3, idx4, chk_nil_l, chk_nil_r, done_nm, up_cons, up_nil, cond_true, cond_false, Nat.reduceBEq]
    refine ih (i + 1) (by omega) (by omega) _ hE hin2 oE w2 ?_ ?_ ?_
    · exact Aa
    · exact Ad
    · rfl
theorem spec_PutLog {h : Heap} {v : Value} {es : List E3} (s : SE h v es) (hw : wide es) (hl : es.length < 2 ^ 32) : ∃ a c h', evC Try.prog 39 #[v] h = some (.slice a (putE es).length c, h') ∧ HExt h h' ∧ AB h.blks.length h' (.slice a (putE es).length c) (putE es) := by
  rw [call39]
  obtain ⟨h2, q2,Ac⟩ := spec_GoodLog s.nm (by omega)
  have hx2 := Ac.len
  have k2 : In h.blks.length No (nm h) h2 := Ac.inn (Nat.le_refl h.blks.length)
  unfold putE
  cases hg : goodE es with
  | false =>
    rw [hg] at q2
    refine ⟨none, 0, _, ?_, done_ext' k2, Acc.done .nil⟩
    simp -implicitDefEqProofs (disch := omega) only [↓c39_0_eq, q2, ↓ret39, ↓cnd_true, ↓cnd_false, ↓Option.bind_some, ↓obH_some', bin_add, bin_sub, bin_mul, bin_lss, bin_leq, bin_gtr, bin_geq, bin_eql, bin_neq, un_not, un_neg, Option.bind_some, Option.bind_none, Option.map_some, cnd_true, cnd_false, pickV_true, pickV_false, gd_true, gd_false, gdV_true, gdV_false, gdH_true, gdH_false, gdS_true, gdS_false, wt_ff, wt_tt, wt_ft, wt_tf, wt_undef, obH_some', extractV_tuple, nilCheckV_ptr, againK_normal, againK_exit, againK_ret, blockK_normal, blockK_same, blockK_ret, seqK_normal, seqK_exit, seqK_ret, fin_done, if_true', if_false', Bool.not_true, Bool.not_false, idx0, idx1, idx2, idx3, idx4, chk_nil_l, chk_nil_r, done_nm, up_cons, up_nil, cond_true, cond_false, Nat.reduceBEq]
    rfl
  | true =>
    rw [hg] at q2
    have hf := good_f hg
    have s2 := s.nm.ext Ac
    have lo := Sl.lo s2
    have c3 := Cells.new h2 118 [.slice none 0 0]
    have s3 := Sl.keepNew s2 (.cells [.slice none 0 0]) 118
    have k3 := k2.trans (In.new (S := No) hx2 (.cells [.slice none 0 0]) 118)
    have n3 : (h2.new (.cells [.slice none 0 0]) 118).blks.length = h2.blks.length + 1 := by simp [Heap.new]
    generalize hh3 : h2.new (.cells [.slice none 0 0]) 118 = h3 at c3 s3 k3 n3
    have w3 : WrR h3.blks.length h3 h2.blks.length [] := ⟨none, 0, c3, .nil, fun e => by cases e⟩
    obtain ⟨a, c, rfl⟩ := s.shape
    have cv := fun h => cvI64 (es.length : Int) h (by omega) (by omega)
    obtain ⟨h4, q4,Ae, w4⟩ := spec_RWNum w3 (by omega) es.length (by omega) (by simp)
    have hx4 := Ae.len
    have hx2' : h.blks.length ≤ h2.blks.length := hx2
    have o4 : Old h2.blks.length h3 h4 := Ae.to (Nat.le_refl _) (by omega)
    have s4 : SE h4 (.slice a es.length c) es := Sl.old s3 o4 lo
    have k4 := k3.trans (Ae.inn (by omega) (fun b hb e => by have : b = h2.blks.length := e; omega))
    have lp := putR_loop (h0 := h) s4 lo hw (fun e he => ⟨(hf e he).1, by have := (hf e he).2.1; omega⟩) hl (by omega) (by omega) es.length 0 (by omega) (by omega)
    have fin' : ∀ {r : Option (Value × Heap)}, (∃ a c h', r = some (.slice a (logB es).length c, done h h') ∧ In h.blks.length No (nm h) h' ∧ AB h.blks.length h' (.slice a (logB es).length c) (logB es)) → ∃ a c h', r = some (.slice a (logB es).length c, h') ∧ HExt h h' ∧ AB h.blks.length h' (.slice a (logB es).length c) (logB es) := fun ⟨a, c, h', g1, g2, g3⟩ => ⟨a, c, _, g1, done_ext' g2, Acc.done g3⟩
    simp only [if_true]
    simp -implicitDefEqProofs (disch := omega) only [↓c39_0_eq, q2, bdRW, bxRW, hh3, lnRs, cv, q4, ↓cnd_true, ↓cnd_false, ↓Option.bind_some, ↓obH_some', bin_add, bin_sub, bin_mul, bin_lss, bin_leq, bin_gtr, bin_geq, bin_eql, bin_neq, un_not, un_neg, Option.bind_some, Option.bind_none, Option.map_some, cnd_true, cnd_false, pickV_true, pickV_false, gd_true, gd_false, gdV_true, gdV_false, gdH_true, gdH_false, gdS_true, gdS_false, wt_ff, wt_tt, wt_ft, wt_tf, wt_undef, obH_some', extractV_tuple, nilCheckV_ptr, againK_normal, againK_exit, againK_ret, blockK_normal, blockK_same, blockK_ret, seqK_normal, seqK_exit, seqK_ret, fin_done, if_true', if_false', Bool.not_true, Bool.not_false, idx0, idx1, idx2, idx3, idx4, chk_nil_l, chk_nil_r, done_nm, up_cons, up_nil, cond_true, cond_false, Nat.reduceBEq]
    refine fin' (lp _ _ k4 (Old.refl _ _) ?_ ?_ ?_ ?_)
    · rw [List.take_zero, show encL [] = [] from rfl, List.append_nil, ← List.nil_append (putL es.length)]; exact w4.up (by omega)
    all_goals rfl
theorem RdrR.old {N k : Nat} {h h' : Heap} {p : Nat} {r : Option (List UInt8)} (w : RdrR N h p r) (o : Old k h h') (hp : p < k) : RdrR N h' p r :=
  let ⟨a, c, x, y, z⟩ := w
  ⟨a, c, x.old o hp, y.old o fun b hb => by have := z.1 b hb; have := z.2; omega, z⟩
end Go.Am
namespace Go.Am
theorem key_eq {x y : E3} (h1 : ¬ ltE x y) (h2 : ¬ ltE y x) : x.f = y.f ∧ x.n = y.n := by unfold ltE at *; omega
theorem bsK_le (es : List E3) (t : E3) : bsK es t ≤ es.length := List.Sublist.length_le (List.takeWhile_sublist _)
theorem bs_true {es : List E3} {t : E3} (h : bsF es t = true) : ∃ z, es[bsK es t]? = some z ∧ z ∈ es ∧ z.f = t.f ∧ z.n = t.n := by
  unfold bsF at h
  split at h
  · rename_i z hz
    have := (cmpE_eq _ _).1 (of_decide_eq_true h)
    exact ⟨z, hz, List.mem_of_getElem? hz, this.1, this.2⟩
  · cases h
theorem bs_of : ∀ {es : List E3} {t z : E3}, Srt es → z ∈ es → z.f = t.f → z.n = t.n → es[bsK es t]? = some z ∧ bsF es t = true
  | [], t, z, _, hz, _, _ => by cases hz
  | e :: es, t, z, hs, hz, hf, hn => by
    obtain ⟨h1, h2⟩ := List.pairwise_cons.1 hs
    rcases List.mem_cons.1 hz with rfl | hz'
    · have hc : ¬ cmpE z t < 0 := fun h => by have := (cmpE_lt _ _).1 h; unfold ltE at this; omega
      have h0 : bsK (z :: es) t = 0 := by simp [bsK, hc]
      have he : cmpE z t = 0 := (cmpE_eq _ _).2 ⟨hf, hn⟩
      refine ⟨by rw [h0]; rfl, ?_⟩
      unfold bsF
      rw [h0]
      simp [he]
    · have hlt : ltE e z := h1 z hz'
      have hc : cmpE e t < 0 := (cmpE_lt _ _).2 (by unfold ltE at *; omega)
      have hk : bsK (e :: es) t = bsK es t + 1 := by simp [bsK, hc]
      obtain ⟨g1, g2⟩ := bs_of h2 hz' hf hn
      refine ⟨by rw [hk]; simpa using g1, ?_⟩
      unfold bsF at g2 ⊢
      rw [hk]
      simpa using g2
theorem bs_iff {es : List E3} (hs : Srt es) (t : E3) : bsF es t = true ↔ ∃ z ∈ es, z.f = t.f ∧ z.n = t.n :=
  ⟨fun h => let ⟨z, _, h1, h2, h3⟩ := bs_true h; ⟨z, h1, h2, h3⟩, fun ⟨_, h1, h2, h3⟩ => (bs_of hs h1 h2 h3).2⟩
theorem mem_both {es fs : List E3} (hf : Srt fs) (x : E3) : x ∈ bothE es fs ↔ ∃ y ∈ es, ∃ z ∈ fs, z.f = y.f ∧ z.n = y.n ∧ x = { y with t := y.t &&& z.t } := by
  unfold bothE
  rw [List.mem_filterMap]
  constructor
  · rintro ⟨y, hy, h⟩
    unfold bothF at h
    split at h
    · rename_i hb
      obtain ⟨z, h1, h2, h3, h4⟩ := bs_true hb
      rw [List.getD_eq_getElem?_getD, h1] at h
      cases h
      exact ⟨y, hy, z, h2, h3, h4, rfl⟩
    · cases h
  · rintro ⟨y, hy, z, hz, h1, h2, rfl⟩
    obtain ⟨g1, g2⟩ := bs_of hf hz h1 h2
    refine ⟨y, hy, ?_⟩
    unfold bothF
    rw [if_pos g2, List.getD_eq_getElem?_getD, g1]
    rfl
theorem mem_news {es fs : List E3} (hf : Srt fs) {x : E3} (h : x ∈ newsE es fs) : x ∈ es ∧ ¬ ∃ z ∈ fs, z.f = x.f ∧ z.n = x.n := by
  unfold newsE at h
  rw [List.mem_filter] at h
  obtain ⟨h1, h2⟩ := h
  simp only [Bool.and_eq_true, Bool.not_eq_true'] at h2
  exact ⟨h1, fun hz => by rw [(bs_iff hf x).2 hz] at h2; cases h2.1⟩
theorem srt_both {es fs : List E3} (he : Srt es) : Srt (bothE es fs) := by
  unfold bothE
  refine List.pairwise_filterMap.2 (he.imp fun {a b} hab x hx y hy => ?_)
  unfold bothF at hx hy
  split at hx
  · split at hy
    · cases hx; cases hy
      unfold ltE at *
      exact hab
    · cases hy
  · cases hx
theorem join_dist {es fs : List E3} (he : Srt es) (hf : Srt fs) : (newsE es fs ++ newsE fs es ++ bothE es fs).Pairwise fun a b => ltE a b ∨ ltE b a := by
  have dif : ∀ {a b : E3}, ¬ (a.f = b.f ∧ a.n = b.n) → ltE a b ∨ ltE b a := fun {a b} h => by
    refine Classical.byContradiction fun hn => h ?_
    exact key_eq (fun h1 => hn (.inl h1)) (fun h1 => hn (.inr h1))
  have n1 : (newsE es fs).Pairwise fun a b => ltE a b ∨ ltE b a := (he.sublist List.filter_sublist).imp fun h => .inl h
  have n2 : (newsE fs es).Pairwise fun a b => ltE a b ∨ ltE b a := (hf.sublist List.filter_sublist).imp fun h => .inl h
  have n3 : (bothE es fs).Pairwise fun a b => ltE a b ∨ ltE b a := (srt_both he).imp fun h => .inl h
  refine List.pairwise_append.2 ⟨List.pairwise_append.2 ⟨n1, n2, fun a ha b hb => dif fun ⟨h1, h2⟩ => ?_⟩, n3, fun a ha b hb => dif fun ⟨h1, h2⟩ => ?_⟩
  · have g1 := mem_news hf ha
    have g2 := mem_news he hb
    exact g1.2 ⟨b, g2.1, h1.symm, h2.symm⟩
  · obtain ⟨y, hy, z, hz, h3, h4, rfl⟩ := (mem_both hf b).1 hb
    simp only at h1 h2
    rcases List.mem_append.1 ha with h | h
    · exact (mem_news hf h).2 ⟨z, hz, by omega, by omega⟩
    · exact (mem_news he h).2 ⟨y, hy, by omega, by omega⟩
theorem srt_mem {a b : List E3} (ha : Srt a) (hb : Srt b) (h : ∀ x, x ∈ a ↔ x ∈ b) : a = b := by
  have nd : ∀ {l : List E3}, Srt l → l.Nodup := fun h => h.imp fun {a b} hab e => by subst e; exact ltE_irr a hab
  exact srt_unique ha hb ((List.perm_ext_iff_of_nodup (nd ha) (nd hb)).2 h)
end Go.Am
namespace Go.Am
open Go.Proofs
set_option maxRecDepth 100000
set_option linter.all false
attribute [local congr] obind_congr obH_congr cnd_congr chk_congr retK_congr codeK_congr
theorem entL_setE : ∀ (es : List E3) (i : Nat) (hi : i < es.length) (x : E3), (entL es).take (i * 3) ++ entC x ++ (entL es).drop (i * 3 + 3) = entL (es.set i x)
  | e :: es, 0, _, x => rfl
  | e :: es, i + 1, hi, x => by
    rw [show (i + 1) * 3 = (i * 3) + 1 + 1 + 1 by omega, show (i * 3) + 1 + 1 + 1 + 3 = (i * 3 + 3) + 1 + 1 + 1 by omega]
    simp only [entL, List.take_succ_cons, List.drop_succ_cons, List.cons_append, List.set_cons_succ]
    rw [← entL_setE es i (by simpa using hi) x]
theorem AE.setE {n0 : Nat} {h : Heap} {v : Value} {es : List E3} (a : AE n0 h v es) {i : Nat} (hi : i < es.length) (x : E3) :
    ∃ b o h', blockOf v = some b ∧ n0 ≤ b ∧ b < h.blks.length ∧ (∀ k, indexAddrV Try.prog 45 v (.int k i) = some (.pointer (some ⟨b, o, none⟩))) ∧
      h.storeN b o (entC x) = some h' ∧ AE n0 h' v (es.set i x) ∧ (∀ S,In n0 S h h') ∧ h'.blks.length = h.blks.length ∧ (∀ q, q ≠ b → h'.blks[q]? = h.blks[q]?) := by
  obtain ⟨b, o, e1, e2, e3, e4, e5⟩ := Acc.store (P := Try.prog) a (by omega)
  obtain ⟨h', g1, g2, g3, g4, g5⟩ := e5 (i * 3) (entC x) (by simp [entC]; omega)
  refine ⟨b, o + i * 3, h', e1, e2, e3, fun k => e4 (by kernel_rfl) (by kernel_rfl) k i hi, g1, ?_, g3, g4, g5⟩
  rw [show (entC x).length = 3 from rfl, entL_setE es i hi x] at g2
  show Acc n0 h' _ 3 v (es.set i _).length _
  rw [List.length_set]
  exact g2
theorem stEo (p o : Nat) (e : E3) (h : Heap) : storeV Try.prog 57 (.pointer (some ⟨p, o, none⟩)) (entV e) h = h.storeN p o (entC e) := by kernel_rfl
theorem stEsl (p : Nat) (a : Option Addr) (n c : Nat) (h : Heap) : storeV Try.prog 45 (.pointer (some ⟨p, 0, none⟩)) (.slice a n c) h = h.storeN p 0 [.slice a n c] := by kernel_rfl
theorem bxEe (e : E3) (h : Heap) : boxV Try.prog 57 (entV e) h = some (.pointer (some ⟨h.blks.length, 0, none⟩), h.new (.cells (entC e)) 57) := by kernel_rfl
def insE (es : List E3) (x : E3) : List E3 := es.take (bsK es x) ++ x :: es.drop (bsK es x)
def addE (es : List E3) (x : E3) : List E3 := if goodE es = true ∧ mayE x = true then (if bsF es x = true then es.set (bsK es x) x else insE es x) else es
def InsOk (es : List E3) (x : E3) : Prop := goodE es = true → mayE x = true → bsF es x = false → ∀ (n0 : Nat) (h : Heap) (a : Option Addr) (c : Nat), n0 ≤ h.blks.length → AE n0 h (.slice a es.length c) es →
  ∃ a' c' h', evC Try.prog 63 #[.slice a es.length c, .int .i64 (bsK es x : Nat), .slice (some ⟨h.blks.length, 0, none⟩) 1 1] (h.new (.cells (entC x)) 57) = some (.slice a' (insE es x).length c', h') ∧
    AE n0 h' (.slice a' (insE es x).length c') (insE es x) ∧ Keeps n0 h h' ∧ (∀ q, q < h.blks.length → blockOf (.slice a es.length c) ≠ some q → h'.blks[q]? = h.blks[q]?)
theorem bsF_lt {es : List E3} {x : E3} (h : bsF es x = true) : bsK es x < es.length := by
  unfold bsF at h
  split at h
  · rename_i e he; exact (List.getElem?_eq_some_iff.1 he).1
  · cases h
theorem spec_Add {h : Heap} {v : Value} {es : List E3} (s : SE h v es) (hw : wide es) (hl : es.length < 2 ^ 38) (x : E3) (hx : x.t < 2 ^ 64) (hins : InsOk es x) :
    ∃ a c h', evC Try.prog 33 #[.agg #[v], entV x] h = some (.agg #[.slice a (addE es x).length c], h') ∧ HExt h h' ∧ AE h.blks.length h' (.slice a (addE es x).length c) (addE es x) := by
  rw [call33]
  have c1 := ((Cells.new (nm h) 47 [v]).keepNew (.cells (entC x)) 57).keepNew (.cells [.slice none 0 0]) 47
  have c2 := (Cells.new ((nm h).new (.cells [v]) 47) 57 (entC x)).keepNew (.cells [.slice none 0 0]) 47
  have c3 := Cells.new (((nm h).new (.cells [v]) 47).new (.cells (entC x)) 57) 47 [.slice none 0 0]
  have s1 : SE ((((nm h).new (.cells [v]) 47).new (.cells (entC x)) 57).new (.cells [.slice none 0 0]) 47) v es := ((s.nm.keepNew _ _).keepNew _ _).keepNew _ _
  have k1 : In h.blks.length No (nm h) ((((nm h).new (.cells [v]) 47).new (.cells (entC x)) 57).new (.cells [.slice none 0 0]) 47) := ((In.new (h := nm h) (Nat.le_refl h.blks.length) _ _).trans (In.new (by simp [Heap.new]) _ _)).trans (In.new (by simp [Heap.new, Nat.add_assoc]) _ _)
  have e0 : (nm h).blks.length = h.blks.length := rfl
  have e1 : ((nm h).new (.cells [v]) 47).blks.length = h.blks.length + 1 := by simp [Heap.new]
  have e2 : (((nm h).new (.cells [v]) 47).new (.cells (entC x)) 57).blks.length = h.blks.length + 2 := by simp [Heap.new]
  rw [e0] at c1
  rw [e1] at c2
  rw [e2] at c3
  have hlen : ((((nm h).new (.cells [v]) 47).new (.cells (entC x)) 57).new (.cells [.slice none 0 0]) 47).blks.length = h.blks.length + 3 := by simp [Heap.new]
  generalize hh : (((nm h).new (.cells [v]) 47).new (.cells (entC x)) 57).new (.cells [.slice none 0 0]) 47 = h1 at c1 c2 c3 s1 k1 hlen
  have lA : (h1.loadN h.blks.length 0 1).map (fun cs => Value.agg cs.toArray) = some (.agg #[v]) := by rw [c1.loadN (n := 1) rfl]; rfl
  obtain ⟨a, c, h3, e3,Ad, a3⟩ := spec_clone s1 (by omega)
  have c13 := c1.ext Ad
  have c23 := c2.ext Ad
  have c33 := c3.ext Ad
  have hx3 := Ad.len
  have b0 : ∀ i, i < h.blks.length + 3 → blockOf (.slice a es.length c) ≠ some i := fun i hi e => by have := a3.ge e; omega
  have c14 := c13.put [.slice a es.length c]
  have c24 := c23.keepPut (q := h.blks.length) (by omega) (.cells [.slice a es.length c])
  have c34 := c33.keepPut (q := h.blks.length) (by omega) (.cells [.slice a es.length c])
  have a4 : AE (h.blks.length + 3) (h3.put h.blks.length (.cells [.slice a es.length c])) (.slice a es.length c) es := (a3.keepPut (b0 _ (by omega)) _).up (by omega)
  have k4 := (k1.trans (Ad.inn (by omega))).trans (In.put (S := No) (by omega) (p := h.blks.length) (.inl (by omega)) (.cells [.slice a es.length c]))
  have hs4 := storeN_blk c13 (o := 0) (vs := [.slice a es.length c]) (by simp)
  have hl4 : (h3.put h.blks.length (.cells [.slice a es.length c])).blks.length = h3.blks.length := Heap.put_len _ _ _
  simp only [List.take_zero, List.nil_append, List.append_nil, List.length_cons, List.length_nil, List.drop_succ_cons, List.drop_zero, Nat.zero_add] at hs4
  generalize hh4 : h3.put h.blks.length (.cells [.slice a es.length c]) = h4 at c14 c24 c34 a4 k4 hs4 hl4
  have l4 : (h4.loadN h.blks.length 0 1).map (fun cs => Value.agg cs.toArray) = some (.agg #[.slice a es.length c]) := by rw [c14.loadN (n := 1) rfl]; rfl
  obtain ⟨h5, e5,Af⟩ := spec_Good a4.se hw (by omega)
  have hx5 := Af.len
  have c15 := c14.ext Af
  have c25 := c24.ext Af
  have c35 := c34.ext Af
  have a5 : AE (h.blks.length + 3) h5 (.slice a es.length c) es := a4.same Af.same
  have k5 := k4.trans (Af.inn (Nat.le_trans k4.le k4.len))
  -- what is answered where nothing is added
  have out : ∀ {h6 : Heap} {es' : List E3} {a' c'}, In h.blks.length No (nm h) h6 → Cells h6 h.blks.length 47 [.slice a' es'.length c'] → Cells h6 (h.blks.length + 2) 47 [.slice none 0 0] → AE (h.blks.length + 3) h6 (.slice a' es'.length c') es' →
      ∃ h7, (h6.loadN h.blks.length 0 1).map (fun cs => Value.agg cs.toArray) = some (.agg #[.slice a' es'.length c']) ∧ h6.storeN (h.blks.length + 2) 0 [.slice a' es'.length c'] = some h7 ∧ (h7.loadN (h.blks.length + 2) 0 1).map (fun cs => Value.agg cs.toArray) = some (.agg #[.slice a' es'.length c']) ∧ HExt h (done h h7) ∧ AE h.blks.length (done h h7) (.slice a' es'.length c') es' := fun {h6 es' a' c'} k g1 g2 ha => by
    have d := g2.put [.slice a' es'.length c']
    refine ⟨h6.put (h.blks.length + 2) (.cells [.slice a' es'.length c']), by rw [g1.loadN (n := 1) rfl]; rfl, ?_, by rw [d.loadN (n := 1) rfl]; rfl, done_ext' (k.trans (In.put (S := No) (Nat.le_trans k.le k.len) (p := h.blks.length + 2) (.inl (by omega)) _)), ((ha.keepPut (fun e => by have := ha.ge e; omega) _).up (by omega)).done⟩
    rw [storeN_blk g2 (by simp)]; rfl
  unfold addE
  cases hg : goodE es with
  | false =>
    rw [hg] at e5
    obtain ⟨h7, o1, o2, o3, o4, o5⟩ := out k5 c15 c35 a5
    rw [if_neg (by simp)]
    refine ⟨a, c, _, ?_, o4, o5⟩
    simp -implicitDefEqProofs (disch := omega) only [↓c33_0_eq, bxL, bxEe, alL, e0, e1, e2, hh, ldL, lA, e3, stL, hs4, l4, e5, o1, o2, o3, rvals, ↓ret33, ↓cnd_true, ↓cnd_false, ↓Option.bind_some, ↓obH_some', bin_add, bin_sub, bin_mul, bin_lss, bin_leq, bin_gtr, bin_geq, bin_eql, bin_neq, un_not, un_neg, Option.bind_some, Option.bind_none, Option.map_some, cnd_true, cnd_false, pickV_true, pickV_false, gd_true, gd_false, gdV_true, gdV_false, gdH_true, gdH_false, gdS_true, gdS_false, wt_ff, wt_tt, wt_ft, wt_tf, wt_undef, obH_some', extractV_tuple, nilCheckV_ptr, againK_normal, againK_exit, againK_ret, blockK_normal, blockK_same, blockK_ret, seqK_normal, seqK_exit, seqK_ret, fin_done, if_true', if_false', Bool.not_true, Bool.not_false, idx0, idx1, idx2, idx3, idx4, chk_nil_l, chk_nil_r, done_nm, up_cons, up_nil, cond_true, cond_false, Nat.reduceBEq]
  | true =>
    rw [hg] at e5
    have lx : ∀ {h' : Heap}, Cells h' (h.blks.length + 1) 57 (entC x) → (h'.loadN (h.blks.length + 1) 0 3).map (fun cs => Value.agg cs.toArray) = some (entV x) := fun g => by rw [g.loadN (n := 3) rfl]; rfl
    obtain ⟨h6, e6,Ag⟩ := spec_may x hx h5
    have hx6 := Ag.len
    have c16 := c15.ext Ag
    have c26 := c25.ext Ag
    have c36 := c35.ext Ag
    have a6 : AE (h.blks.length + 3) h6 (.slice a es.length c) es := a5.same Ag.same
    have k6 := k5.trans (Ag.inn (Nat.le_trans k5.le k5.len))
    cases hm : mayE x with
    | false =>
      rw [hm] at e6
      obtain ⟨h7, o1, o2, o3, o4, o5⟩ := out k6 c16 c36 a6
      rw [if_neg (by simp)]
      refine ⟨a, c, _, ?_, o4, o5⟩
      simp -implicitDefEqProofs (disch := omega) only [↓c33_0_eq, bxL, bxEe, alL, e0, e1, e2, hh, ldL, lA, e3, stL, hs4, l4, e5, ldE, lx c25, e6, o1, o2, o3, rvals, ↓ret33, ↓cnd_true, ↓cnd_false, ↓Option.bind_some, ↓obH_some', bin_add, bin_sub, bin_mul, bin_lss, bin_leq, bin_gtr, bin_geq, bin_eql, bin_neq, un_not, un_neg, Option.bind_some, Option.bind_none, Option.map_some, cnd_true, cnd_false, pickV_true, pickV_false, gd_true, gd_false, gdV_true, gdV_false, gdH_true, gdH_false, gdS_true, gdS_false, wt_ff, wt_tt, wt_ft, wt_tf, wt_undef, obH_some', extractV_tuple, nilCheckV_ptr, againK_normal, againK_exit, againK_ret, blockK_normal, blockK_same, blockK_ret, seqK_normal, seqK_exit, seqK_ret, fin_done, if_true', if_false', Bool.not_true, Bool.not_false, idx0, idx1, idx2, idx3, idx4, chk_nil_l, chk_nil_r, done_nm, up_cons, up_nil, cond_true, cond_false, Nat.reduceBEq]
    | true =>
      rw [hm] at e6
      have ls6 : h6.load1 h.blks.length 0 = some (.slice a es.length c) := c16.load 0
      obtain ⟨h7, e7,Ah⟩ := spec_BS a6.se ((goodE_iff es).1 hg).2 (by omega) x
      have hx7 := Ah.len
      have c17 := c16.ext Ah
      have c27 := c26.ext Ah
      have c37 := c36.ext Ah
      have a7 : AE (h.blks.length + 3) h7 (.slice a es.length c) es := a6.same Ah.same
      have k7 := k6.trans (Ah.inn (Nat.le_trans k6.le k6.len))
      have ls7 : h7.load1 h.blks.length 0 = some (.slice a es.length c) := c17.load 0
      rw [if_pos ⟨rfl, rfl⟩]
      cases hb : bsF es x with
      | true =>
        rw [hb] at e7
        obtain ⟨b, o, h8, f1, f2, f3, f4, f5, f6, f7, f8, f9⟩ := a7.setE (bsF_lt hb) x
        have e9 : (es.set (bsK es x) x).length = es.length := List.length_set ..
        rw [← e9] at f6
        have g1 : Cells h8 h.blks.length 47 [.slice a (es.set (bsK es x) x).length c] := by rw [e9]; exact (f9 _ (by omega)).trans c17
        have g2 : Cells h8 (h.blks.length + 2) 47 [.slice none 0 0] := (f9 _ (by omega)).trans c37
        obtain ⟨h9, o1, o2, o3, o4, o5⟩ := out (k7.trans ((f7 No).dn (by omega))) g1 g2 f6
        rw [e9] at o1 o2 o3 o5
        simp only [if_true]
        rw [e9]
        refine ⟨a, c, _, ?_, o4, o5⟩
        simp -implicitDefEqProofs (disch := omega) only [↓c33_0_eq, bxL, bxEe, alL, e0, e1, e2, hh, ldL, lA, e3, stL, hs4, l4, e5, ldE, lx c25, lx c26, e6, faL, ldEs, ls6, e7, extractV_tuple, ls7, lx c27, f4, stEo, f5, o1, o2, o3, rvals, ↓ret33, ↓cnd_true, ↓cnd_false, ↓Option.bind_some, ↓obH_some', bin_add, bin_sub, bin_mul, bin_lss, bin_leq, bin_gtr, bin_geq, bin_eql, bin_neq, un_not, un_neg, Option.bind_some, Option.bind_none, Option.map_some, cnd_true, cnd_false, pickV_true, pickV_false, gd_true, gd_false, gdV_true, gdV_false, gdH_true, gdH_false, gdS_true, gdS_false, wt_ff, wt_tt, wt_ft, wt_tf, wt_undef, obH_some', extractV_tuple, nilCheckV_ptr, againK_normal, againK_exit, againK_ret, blockK_normal, blockK_same, blockK_ret, seqK_normal, seqK_exit, seqK_ret, fin_done, if_true', if_false', Bool.not_true, Bool.not_false, idx0, idx1, idx2, idx3, idx4, chk_nil_l, chk_nil_r, done_nm, up_cons, up_nil, cond_true, cond_false, Nat.reduceBEq]
      | false =>
        rw [hb] at e7
        obtain ⟨a', c', h8, f1, f2, f3, f4⟩ := hins hg hm hb (h.blks.length + 3) h7 a c (by omega) a7
        have bs := bsE x h7
        have g1 : Cells h8 h.blks.length 47 [.slice a es.length c] := (f4 _ (by omega) (b0 _ (by omega))).trans c17
        have g2 : Cells h8 (h.blks.length + 2) 47 [.slice none 0 0] := (f4 _ (by omega) (b0 _ (by omega))).trans c37
        have hs8 := storeN_blk g1 (o := 0) (vs := [.slice a' (insE es x).length c']) (by simp)
        simp only [List.take_zero, List.nil_append, List.append_nil, List.length_cons, List.length_nil, List.drop_succ_cons, List.drop_zero, Nat.zero_add] at hs8
        have g3 := g1.put [.slice a' (insE es x).length c']
        have g4 := g2.keepPut (q := h.blks.length) (by omega) (.cells [.slice a' (insE es x).length c'])
        have kk := k7.trans (Keeps.inn (S := No) (f3.dn (by omega)))
        have k8 := kk.trans (In.put (S := No) (Nat.le_trans kk.le kk.len) (p := h.blks.length) (.inl (by omega)) (.cells [.slice a' (insE es x).length c']))
        have a8 := Acc.keepPut f2 (p := h.blks.length) (fun e => by have := Acc.ge f2 e; omega) (.cells [.slice a' (insE es x).length c'])
        obtain ⟨h9, o1, o2, o3, o4, o5⟩ := out k8 g3 g4 a8
        simp only [if_false, Bool.false_eq_true]
        refine ⟨a', c', _, ?_, o4, o5⟩
        simp -implicitDefEqProofs (disch := omega) only [↓c33_0_eq, bxL, bxEe, alL, e0, e1, e2, hh, ldL, lA, e3, stL, hs4, l4, e5, ldE, lx c25, lx c26, e6, faL, ldEs, ls6, e7, extractV_tuple, ls7, lx c27, bs, f1, stEsl, hs8, o1, o2, o3, rvals, ↓ret33, ↓cnd_true, ↓cnd_false, ↓Option.bind_some, ↓obH_some', bin_add, bin_sub, bin_mul, bin_lss, bin_leq, bin_gtr, bin_geq, bin_eql, bin_neq, un_not, un_neg, Option.bind_some, Option.bind_none, Option.map_some, cnd_true, cnd_false, pickV_true, pickV_false, gd_true, gd_false, gdV_true, gdV_false, gdH_true, gdH_false, gdS_true, gdS_false, wt_ff, wt_tt, wt_ft, wt_tf, wt_undef, obH_some', extractV_tuple, nilCheckV_ptr, againK_normal, againK_exit, againK_ret, blockK_normal, blockK_same, blockK_ret, seqK_normal, seqK_exit, seqK_ret, fin_done, if_true', if_false', Bool.not_true, Bool.not_false, idx0, idx1, idx2, idx3, idx4, chk_nil_l, chk_nil_r, done_nm, up_cons, up_nil, cond_true, cond_false, Nat.reduceBEq]
end Go.Am
namespace Go.Am
set_option maxRecDepth 100000
set_option linter.all false
theorem bsK_loR {es : List E3} {x : E3} (i : Nat) (hi : i < bsK es x) (hl : i < es.length) : ltE es[i] x := by
  have key : ∀ (l : List E3) (i : Nat) (hi : i < (l.takeWhile fun e => decide (cmpE e x < 0)).length) (hl : i < l.length), ltE l[i] x := by
    intro l
    induction l with
    | nil => intro i hi hl; simp at hl
    | cons e l ih =>
      intro i hi hl
      rw [List.takeWhile_cons] at hi
      split at hi
      · rename_i h
        cases i with
        | zero => exact (cmpE_lt e x).1 (of_decide_eq_true h)
        | succ i => exact ih i (by simpa using hi) (by simpa using hl)
      · simp at hi
  exact key es i hi hl
theorem bsK_geR {es : List E3} {x : E3} (hl : bsK es x < es.length) : ¬ ltE es[bsK es x] x := by
  have key : ∀ (l : List E3) (hl : (l.takeWhile fun e => decide (cmpE e x < 0)).length < l.length), ¬ ltE l[(l.takeWhile fun e => decide (cmpE e x < 0)).length] x := by
    intro l
    induction l with
    | nil => intro hl; simp at hl
    | cons e l ih =>
      intro hl
      by_cases h : cmpE e x < 0
      · have e1 : (List.takeWhile (fun e => decide (cmpE e x < 0)) (e :: l)) = e :: l.takeWhile fun e => decide (cmpE e x < 0) := by rw [List.takeWhile_cons, if_pos (decide_eq_true h)]
        simp only [e1, List.length_cons] at hl ⊢
        exact ih (by omega)
      · have e1 : (List.takeWhile (fun e => decide (cmpE e x < 0)) (e :: l)) = [] := by rw [List.takeWhile_cons, if_neg (by rw [decide_eq_false h]; decide)]
        simp only [e1, List.length_nil, List.getElem_cons_zero]
        exact fun k => h ((cmpE_lt e x).2 k)
  exact key es hl
theorem good_addR {es : List E3} {x : E3} (h : goodE es = true) (hm : mayE x = true) : goodE (addE es x) = true := by
  unfold addE
  rw [if_pos ⟨h, hm⟩]
  have hh := (goodE_iff es).1 h
  split
  · rename_i hb
    have hlt := bsF_lt hb
    have hz : cmpE es[bsK es x] x = 0 := by
      unfold bsF at hb
      rw [List.getElem?_eq_getElem hlt] at hb
      exact of_decide_eq_true hb
    have hfn : es[bsK es x].f = x.f ∧ es[bsK es x].n = x.n := by
      have h1 : ¬ ltE es[bsK es x] x := fun k => by have := (cmpE_lt _ _).2 k; omega
      refine key_eq h1 fun k => ?_
      unfold ltE at k
      unfold cmpE at hz
      split at hz
      · omega
      · split at hz
        · omega
        · split at hz
          · omega
          · split at hz
            · omega
            · omega
    rw [goodE_iff]
    refine ⟨fun e he => ?_, ?_⟩
    · rcases List.mem_or_eq_of_mem_set he with he | rfl
      · exact hh.1 e he
      · exact hm
    · refine List.pairwise_iff_getElem.2 fun i j hi hj hij => ?_
      have hi' : i < es.length := by simpa using hi
      have hj' : j < es.length := by simpa using hj
      have base := List.pairwise_iff_getElem.1 hh.2 i j hi' hj' hij
      rw [List.getElem_set, List.getElem_set]
      split
      · rename_i e1
        subst e1
        rw [if_neg (by omega)]
        unfold ltE at base ⊢
        rw [← hfn.1, ← hfn.2]
        exact base
      · split
        · rename_i e2
          subst e2
          unfold ltE at base ⊢
          rw [← hfn.1, ← hfn.2]
          exact base
        · exact base
  · rename_i hb
    rw [goodE_iff]
    unfold insE
    refine ⟨fun e he => ?_, ?_⟩
    · rcases List.mem_append.1 he with he | he
      · exact hh.1 e (List.mem_of_mem_take he)
      · rcases List.mem_cons.1 he with rfl | he
        · exact hm
        · exact hh.1 e (List.mem_of_mem_drop he)
    · have hlo : ∀ y ∈ es.take (bsK es x), ltE y x := fun y hy => by
        obtain ⟨i, hi, rfl⟩ := List.getElem_of_mem hy
        rw [List.length_take] at hi
        rw [List.getElem_take]
        exact bsK_loR i (by omega) (by omega)
      have hhi : ∀ y ∈ es.drop (bsK es x), ltE x y := fun y hy => by
        have hlt : bsK es x < es.length := by
          rcases Nat.lt_or_ge (bsK es x) es.length with h1 | h1
          · exact h1
          · rw [List.drop_of_length_le h1] at hy; cases hy
        have h1 := bsK_geR hlt
        have h2 : ltE x es[bsK es x] := by
          refine Classical.byContradiction fun h2 => hb ?_
          obtain ⟨h3, h4⟩ := key_eq h1 h2
          unfold bsF
          rw [List.getElem?_eq_getElem hlt]
          simp only
          refine decide_eq_true ?_
          unfold cmpE
          rw [if_neg (by omega), if_neg (by omega), if_neg (by omega), if_neg (by omega)]
        obtain ⟨j, hj, rfl⟩ := List.getElem_of_mem hy
        rw [List.getElem_drop]
        rw [List.length_drop] at hj
        rcases Nat.eq_zero_or_pos j with h0 | h0
        · subst h0; exact h2
        · exact ltE_trans h2 (List.pairwise_iff_getElem.1 hh.2 _ _ hlt (by omega) (by omega))
      refine List.pairwise_append.2 ⟨hh.2.sublist (List.take_sublist _ _), List.pairwise_cons.2 ⟨hhi, hh.2.sublist (List.drop_sublist _ _)⟩, fun a ha b hb' => ?_⟩
      rcases List.mem_cons.1 hb' with rfl | hb'
      · exact hlo a ha
      · exact ltE_trans (hlo a ha) (hhi b hb')

theorem addE_perm {es : List E3} {x : E3} (hg : goodE es = true) (hm : mayE x = true) (hb : bsF es x = false) : (addE es x).Perm (x :: es) := by
  unfold addE
  rw [if_pos ⟨hg, hm⟩, if_neg (by rw [hb]; decide)]
  unfold insE
  refine List.perm_middle.trans ?_
  rw [List.take_append_drop]
theorem fold_add : ∀ (L r : List E3), goodE r = true → (∀ x ∈ L, mayE x = true) → (r ++ L).Pairwise (fun a b => ltE a b ∨ ltE b a) → goodE (L.foldl addE r) = true ∧ (L.foldl addE r).Perm (r ++ L)
  | [], r, hg, _, _ => ⟨hg, by simp⟩
  | x :: L, r, hg, hm, hp => by
    have hmx := hm x (by simp)
    have hb : bsF r x = false := by
      cases h : bsF r x with
      | false => rfl
      | true =>
        obtain ⟨z, _, hz, h1, h2⟩ := bs_true h
        have := (List.pairwise_append.1 hp).2.2 z hz x (by simp)
        unfold ltE at this
        omega
    have p := addE_perm hg hmx hb
    have p2 : (addE r x ++ L).Perm (r ++ x :: L) := (p.append_right L).trans (List.perm_middle (a := x) (l₁ := r) (l₂ := L)).symm
    obtain ⟨g1, g2⟩ := fold_add L (addE r x) (good_addR hg hmx) (fun y hy => hm y (by simp [hy])) (p2.symm.pairwise hp (fun h => h.symm))
    exact ⟨g1, g2.trans p2⟩
def moreF (l : List E3) (x : E3) : Bool := l.any fun e => decide (e.f = x.f ∧ x.n < e.n)
theorem last_take (es : List E3) (hs : Srt es) (f : Int) : ∀ i, i ≤ es.length → (getM (lastM (es.take i)) f = none → ∀ e ∈ es.take i, e.f ≠ f) ∧ ∀ n, getM (lastM (es.take i)) f = some n → (∃ e ∈ es.take i, e.f = f ∧ e.n = n) ∧ ∀ e ∈ es.take i, e.f = f → e.n ≤ n
  | 0, _ => by simp [lastM, getM]
  | i + 1, hi => by
    have ih := last_take es hs f i (by omega)
    have hlt : i < es.length := by omega
    have ht : es.take (i + 1) = es.take i ++ [es[i]] := by rw [List.take_succ, List.getElem?_eq_getElem hlt]; rfl
    have hlo : ∀ e ∈ es.take i, ltE e es[i] := fun e he => by
      obtain ⟨j, hj, rfl⟩ := List.getElem_of_mem he
      rw [List.length_take] at hj
      rw [List.getElem_take]
      exact List.pairwise_iff_getElem.1 hs j i (by omega) hlt (by omega)
    rw [ht, lastM_snoc, getM_put]
    by_cases hf : f = es[i].f
    · rw [if_pos hf]
      refine ⟨fun h => (by cases h), fun n hn => ?_⟩
      cases hn
      refine ⟨⟨es[i], (List.mem_append_right _ (List.mem_singleton.2 rfl)), hf.symm, rfl⟩, fun e he hef => ?_⟩
      rcases List.mem_append.1 he with he | he
      · have := hlo e he; unfold ltE at this; omega
      · rw [List.mem_singleton.1 he]; exact Nat.le_refl _
    · rw [if_neg hf]
      refine ⟨fun h e he => ?_, fun n hn => ?_⟩
      · rcases List.mem_append.1 he with he | he
        · exact ih.1 h e he
        · rw [List.mem_singleton.1 he]; exact fun h => hf h.symm
      · obtain ⟨⟨e, he, h1, h2⟩, h3⟩ := ih.2 n hn
        refine ⟨⟨e, List.mem_append_left _ he, h1, h2⟩, fun e' he' hf' => ?_⟩
        rcases List.mem_append.1 he' with he' | he'
        · exact h3 e' he' hf'
        · rw [List.mem_singleton.1 he'] at hf'; exact absurd hf'.symm hf
theorem more_last {es : List E3} {x : E3} (hs : Srt es) (hm : mayE x = true) (hb : bsF es x = false) : (!moreF es x) = decide ((getM (lastM es) x.f).getD 0 < x.n) := by
  have hx : 0 < x.n := by
    unfold mayE at hm
    simp only [Bool.and_eq_true, decide_eq_true_eq] at hm
    exact hm.2.2.1
  obtain ⟨h1, h2⟩ := last_take es hs x.f es.length (Nat.le_refl _)
  rw [List.take_length] at h1 h2
  have hne : ∀ e ∈ es, e.f = x.f → e.n ≠ x.n := fun e he hf hn => by rw [(bs_iff hs x).2 ⟨e, he, hf, hn⟩] at hb; cases hb
  unfold moreF
  cases hg : getM (lastM es) x.f with
  | none =>
    rw [Option.getD_none, decide_eq_true hx, Bool.not_eq_true']
    rw [List.any_eq_false]
    intro e he
    have := h1 hg e he
    simp [this]
  | some n =>
    obtain ⟨⟨e, he, e1, e2⟩, h3⟩ := h2 n hg
    rw [Option.getD_some]
    by_cases hn : n < x.n
    · rw [decide_eq_true hn, Bool.not_eq_true', List.any_eq_false]
      intro e' he'
      simp only [decide_eq_true_eq]
      rintro ⟨g1, g2⟩
      have := h3 e' he' g1
      omega
    · rw [decide_eq_false hn, Bool.not_eq_false', List.any_eq_true]
      have := hne e he e1
      exact ⟨e, he, decide_eq_true ⟨e1, by omega⟩⟩
def gA (heard : List E3) (e : E3) : Option E3 := if bsF heard e = true then bothF heard e else if moreF heard e = true then none else some e
def gB (own : List E3) (e : E3) : Bool := !bsF own e && !moreF own e
def joinR (own heard : List E3) : List E3 := (heard.filter (gB own)).foldl addE ((own.filterMap (gA heard)).foldl addE [])
theorem gA_perm {heard : List E3} (hs : Srt heard) : ∀ own : List E3, (∀ x ∈ own, mayE x = true) → (own.filterMap (gA heard)).Perm (newsE own heard ++ bothE own heard)
  | [], _ => .nil
  | x :: own, hm => by
    have ih := gA_perm hs own fun y hy => hm y (by simp [hy])
    unfold newsE bothE at ih ⊢
    cases hb : bsF heard x with
    | true =>
      have e1 : bothF heard x = some { x with t := x.t &&& (heard.getD (bsK heard x) default).t } := by unfold bothF; rw [if_pos hb]
      have e2 : gA heard x = some { x with t := x.t &&& (heard.getD (bsK heard x) default).t } := by unfold gA; rw [if_pos hb, e1]
      rw [List.filterMap_cons, e2, List.filter_cons, hb, List.filterMap_cons, e1]
      simp only [Bool.not_true, Bool.false_and, Bool.false_eq_true, if_false]
      exact (ih.cons _).trans List.perm_middle.symm
    | false =>
      have e1 : bothF heard x = none := by unfold bothF; rw [if_neg (by rw [hb]; decide)]
      have hl := more_last hs (hm x (by simp)) hb
      rw [List.filterMap_cons, List.filter_cons, hb, List.filterMap_cons, e1, ← hl]
      cases hmo : moreF heard x with
      | true =>
        have e2 : gA heard x = none := by unfold gA; rw [if_neg (by rw [hb]; decide), if_pos hmo]
        rw [e2]
        simpa using ih
      | false =>
        have e2 : gA heard x = some x := by unfold gA; rw [if_neg (by rw [hb]; decide), if_neg (by rw [hmo]; decide)]
        rw [e2]
        simpa using ih
theorem gB_news {own : List E3} (hs : Srt own) (heard : List E3) (hm : ∀ x ∈ heard, mayE x = true) : heard.filter (gB own) = newsE heard own := by
  unfold newsE
  refine List.filter_congr fun x hx => ?_
  unfold gB
  cases hb : bsF own x with
  | true => rfl
  | false => rw [more_last hs (hm x hx) hb]
theorem joinR_eq {own heard : List E3} (hg : goodE own = true) (hg2 : goodE heard = true) : joinR own heard = joinE own heard := by
  have h1 := (goodE_iff own).1 hg
  have h2 := (goodE_iff heard).1 hg2
  have hd := join_dist h1.2 h2.2
  have pA := gA_perm h2.2 own h1.1
  have eB := gB_news h1.2 heard h2.1
  have pAll : (own.filterMap (gA heard) ++ heard.filter (gB own)).Perm (newsE own heard ++ newsE heard own ++ bothE own heard) := by
    rw [eB]
    refine (pA.append_right _).trans ?_
    rw [List.append_assoc, List.append_assoc]
    exact (List.perm_append_comm).append_left _
  have hp : (own.filterMap (gA heard) ++ heard.filter (gB own)).Pairwise (fun a b => ltE a b ∨ ltE b a) := pAll.symm.pairwise hd (fun h => h.symm)
  have may : ∀ x ∈ own.filterMap (gA heard) ++ heard.filter (gB own), mayE x = true := fun x hx => by
    have hx := pAll.subset hx
    rcases List.mem_append.1 hx with h | h
    · rcases List.mem_append.1 h with h | h
      · exact h1.1 x (mem_news h2.2 h).1
      · exact h2.1 x (mem_news h1.2 h).1
    · obtain ⟨y, hy, z, hz, h3, h4, rfl⟩ := (mem_both h2.2 x).1 h
      have := h1.1 y hy
      unfold mayE at this ⊢
      simp only [Bool.and_eq_true, decide_eq_true_eq] at this ⊢
      exact ⟨this.1, this.2.1, this.2.2.1, Nat.lt_of_le_of_lt Nat.and_le_left this.2.2.2⟩
  obtain ⟨a1, a2⟩ := fold_add (own.filterMap (gA heard)) [] (by decide) (fun x hx => may x (List.mem_append_left _ hx)) ((List.pairwise_append.1 hp).1)
  rw [List.nil_append] at a2
  obtain ⟨b1, b2⟩ := fold_add (heard.filter (gB own)) _ a1 (fun x hx => may x (List.mem_append_right _ hx)) ((a2.append_right _).symm.pairwise hp (fun h => h.symm))
  unfold joinR joinE
  rw [if_pos ⟨hg, hg2⟩]
  refine srt_mem ((goodE_iff _).1 b1).2 (srtE_srt hd) fun x => ?_
  rw [(srtE_perm _).mem_iff, ← pAll.mem_iff, b2.mem_iff, (a2.append_right _).mem_iff]
theorem key_at {l : List E3} (hs : Srt l) {x : E3} {j : Nat} (hj : j < l.length) (h1 : l[j].f = x.f) (h2 : l[j].n = x.n) : bsF l x = true ∧ bsK l x = j := by
  obtain ⟨g1, g2⟩ := bs_of hs (List.getElem_mem hj) h1 h2
  refine ⟨g2, ?_⟩
  obtain ⟨hk, g3⟩ := List.getElem?_eq_some_iff.1 g1
  rcases Nat.lt_trichotomy (bsK l x) j with h | h | h
  · have := List.pairwise_iff_getElem.1 hs _ _ hk hj h
    rw [g3] at this; exact absurd this (ltE_irr _)
  · exact h
  · have := List.pairwise_iff_getElem.1 hs _ _ hj hk h
    rw [g3] at this; exact absurd this (ltE_irr _)
theorem key_bs {l : List E3} {x : E3} (h : bsF l x = true) : ∃ hk : bsK l x < l.length, l[bsK l x].f = x.f ∧ l[bsK l x].n = x.n := by
  obtain ⟨z, h1, _, h2, h3⟩ := bs_true h
  obtain ⟨hk, g⟩ := List.getElem?_eq_some_iff.1 h1
  exact ⟨hk, by rw [g]; exact h2, by rw [g]; exact h3⟩
def findI (l : List E3) (x : E3) (i : Nat) : Int := if bsF l x = true ∧ bsK l x < i then (bsK l x : Nat) else -1
end Go.Am
namespace Go.Am
open Go.Proofs
set_option maxRecDepth 100000
set_option linter.all false
attribute [local congr] obind_congr obH_congr cnd_congr chk_congr retK_congr codeK_congr
theorem purgeR_loop {h0 h1 : Heap} {v : Value} {es : List E3} (s : SE h1 v es) (hl : es.length < 2 ^ 38) (hn : h0.blks.length ≤ h1.blks.length) :
    ∀ (m i : Nat), es.length - i = m → i ≤ es.length → ∀ (x : Nat → Value) (h : Heap) (a : Option Addr) (c : Nat) (o : List E3),In h0.blks.length No (nm h0) h → Same h1 h → AR h1.blks.length h (.slice a o.length c) o → o ++ purgeL (es.drop i) = purgeL es →
    x 0 = v → x 3 = .slice a o.length c → x 4 = .int .i64 i →
    ∃ a' c' h', lK c37_1 50 x h (blockK 0 (sK c37_2 (retK Try.f37 Try.prog h0))) = some (.slice a' (purgeL es).length c', done h0 h') ∧ In h0.blks.length No (nm h0) h' ∧ AR h1.blks.length h' (.slice a' (purgeL es).length c') (purgeL es) := by
  intro m
  have hpl := purgeL_len es
  obtain ⟨va, vc, rfl⟩ := s.shape
  induction m with
  | zero =>
    intro i e1 e2 x h a c o hin hs ha ho Aa Ad Ae
    obtain rfl : i = es.length := by omega
    rw [List.drop_length] at ho
    simp only [purgeL, List.append_nil] at ho
    subst ho
    rw [lK_eq]
    refine ⟨a, c, h, ?_, hin, ha⟩
    simp -implicitDefEqProofs (disch := omega) only [↓c37_1_eq, ↓c37_2_eq,Aa,Ad,Ae, lnRs, dcF, ↓ret37, ↓cnd_true, ↓cnd_false, ↓Option.bind_some, ↓obH_some', bin_add, bin_sub, bin_mul, bin_lss, bin_leq, bin_gtr, bin_geq, bin_eql, bin_neq, un_not, un_neg, Option.bind_some, Option.bind_none, Option.map_some, cnd_true, cnd_false, pickV_true, pickV_false, gd_true, gd_false, gdV_true, gdV_false, gdH_true, gdH_false, gdS_true, gdS_false, wt_ff, wt_tt, wt_ft, wt_tf, wt_undef, obH_some', extractV_tuple, nilCheckV_ptr, againK_normal, againK_exit, againK_ret, blockK_normal, blockK_same, blockK_ret, seqK_normal, seqK_exit, seqK_ret, fin_done, if_true', if_false', Bool.not_true, Bool.not_false, idx0, idx1, idx2, idx3, idx4, chk_nil_l, chk_nil_r, done_nm, up_cons, up_nil, cond_true, cond_false, Nat.reduceBEq]
  | succ m ih =>
    intro i hm hi x h a c o hin hs ha ho Aa Ad Ae
    have hil : i < es.length := by omega
    obtain ⟨b, of, hb, hbl, e1, e2⟩ := s.at' (t := 51) (el := 72) (by kernel_rfl) (by kernel_rfl) hil
    obtain ⟨f1, f2, f3, f4⟩ := e2 h (hs.2 b hbl)
    have wi : IntKind.i64.wrap ((i : Int) + 1) = ((i + 1 : Nat) : Int) := by rw [wrap_i64] <;> omega
    have hol : o.length < 2 ^ 39 := by
      have := congrArg List.length ho
      rw [List.length_append] at this; omega
    obtain ⟨a', c', hD, q1, q2, q3, q4⟩ := app_ent etR (n0 := h1.blks.length) hs.1 ha es[i] hol
    have hsD : Same h1 hD := ⟨Nat.le_trans hs.1 q3.len, fun q hq => (q4 q (Nat.lt_of_lt_of_le hq hs.1) (Acc.off ha (Nat.le_refl _) hq)).trans (hs.2 q hq)⟩
    have hinD := hin.trans (Keeps.inn (S := No) (q3.dn hn))
    by_cases hlast : i + 1 = es.length
    · have ho' : (o ++ [es[i]]) ++ purgeL (es.drop (i + 1)) = purgeL es := by
        rw [← ho, List.drop_eq_getElem_cons hil, hlast, List.drop_length]; simp [purgeL]
      by_cases ht : es[i].t = 0
      · rw [lK_eq]
        simp -implicitDefEqProofs (disch := omega) only [↓c37_1_eq, ↓c37_2_eq,Aa,Ad,Ae, lnRs, dcT, dcF, e1, ldR, f1, Option.map_some, entA, faRe0, faRe2, ldU, f4, wi, bsR, q1, ↓cnd_true, ↓cnd_false, ↓Option.bind_some, ↓obH_some', bin_add, bin_sub, bin_mul, bin_lss, bin_leq, bin_gtr, bin_geq, bin_eql, bin_neq, un_not, un_neg, Option.bind_some, Option.bind_none, Option.map_some, cnd_true, cnd_false, pickV_true, pickV_false, gd_true, gd_false, gdV_true, gdV_false, gdH_true, gdH_false, gdS_true, gdS_false, wt_ff, wt_tt, wt_ft, wt_tf, wt_undef, obH_some', extractV_tuple, nilCheckV_ptr, againK_normal, againK_exit, againK_ret, blockK_normal, blockK_same, blockK_ret, seqK_normal, seqK_exit, seqK_ret, fin_done, if_true', if_false', Bool.not_true, Bool.not_false, idx0, idx1, idx2, idx3, idx4, chk_nil_l, chk_nil_r, done_nm, up_cons, up_nil, cond_true, cond_false, Nat.reduceBEq]
        exact ih (i + 1) (by omega) (by omega) (up _ _) hD a' c' _ hinD hsD q2 ho' Aa rfl rfl
      · rw [lK_eq]
        simp -implicitDefEqProofs (disch := omega) only [↓c37_1_eq, ↓c37_2_eq,Aa,Ad,Ae, lnRs, dcT, dcF, e1, ldR, f1, Option.map_some, entA, faRe0, faRe2, ldU, f4, wi, bsR, q1, ↓cnd_true, ↓cnd_false, ↓Option.bind_some, ↓obH_some', bin_add, bin_sub, bin_mul, bin_lss, bin_leq, bin_gtr, bin_geq, bin_eql, bin_neq, un_not, un_neg, Option.bind_some, Option.bind_none, Option.map_some, cnd_true, cnd_false, pickV_true, pickV_false, gd_true, gd_false, gdV_true, gdV_false, gdH_true, gdH_false, gdS_true, gdS_false, wt_ff, wt_tt, wt_ft, wt_tf, wt_undef, obH_some', extractV_tuple, nilCheckV_ptr, againK_normal, againK_exit, againK_ret, blockK_normal, blockK_same, blockK_ret, seqK_normal, seqK_exit, seqK_ret, fin_done, if_true', if_false', Bool.not_true, Bool.not_false, idx0, idx1, idx2, idx3, idx4, chk_nil_l, chk_nil_r, done_nm, up_cons, up_nil, cond_true, cond_false, Nat.reduceBEq]
        exact ih (i + 1) (by omega) (by omega) (up _ _) hD a' c' _ hinD hsD q2 ho' Aa rfl rfl
    · have hin1 : i + 1 < es.length := by omega
      obtain ⟨b', of', hb', hbl', e1', e2'⟩ := s.at' (t := 51) (el := 72) (by kernel_rfl) (by kernel_rfl) hin1
      obtain ⟨_, f2', _⟩ := e2' h (hs.2 b' hbl')
      have hdr : es.drop i = es[i] :: es[i + 1] :: es.drop (i + 2) := by rw [List.drop_eq_getElem_cons hil, List.drop_eq_getElem_cons hin1]
      by_cases hk : es[i].t ≠ 0 ∨ es[i + 1].f ≠ es[i].f
      · have ho' : (o ++ [es[i]]) ++ purgeL (es.drop (i + 1)) = purgeL es := by
          rw [← ho, hdr, List.drop_eq_getElem_cons hin1, purgeL_two es[i], if_pos hk, List.append_assoc]; rfl
        by_cases ht : es[i].t = 0
        · have hf : es[i + 1].f ≠ es[i].f := hk.resolve_left (fun h => h ht)
          rw [lK_eq]
          simp -implicitDefEqProofs (disch := omega) only [↓c37_1_eq, ↓c37_2_eq,Aa,Ad,Ae, lnRs, dcT, dcF, e1, e1', ldI, f2, f2', ldR, f1, Option.map_some, entA, faRe0, faRe2, ldU, f4, wi, decide_eq_true hf, bsR, q1, ↓cnd_true, ↓cnd_false, ↓Option.bind_some, ↓obH_some', bin_add, bin_sub, bin_mul, bin_lss, bin_leq, bin_gtr, bin_geq, bin_eql, bin_neq, un_not, un_neg, Option.bind_some, Option.bind_none, Option.map_some, cnd_true, cnd_false, pickV_true, pickV_false, gd_true, gd_false, gdV_true, gdV_false, gdH_true, gdH_false, gdS_true, gdS_false, wt_ff, wt_tt, wt_ft, wt_tf, wt_undef, obH_some', extractV_tuple, nilCheckV_ptr, againK_normal, againK_exit, againK_ret, blockK_normal, blockK_same, blockK_ret, seqK_normal, seqK_exit, seqK_ret, fin_done, if_true', if_false', Bool.not_true, Bool.not_false, idx0, idx1, idx2, idx3, idx4, chk_nil_l, chk_nil_r, done_nm, up_cons, up_nil, cond_true, cond_false, Nat.reduceBEq]
          exact ih (i + 1) (by omega) (by omega) (up _ _) hD a' c' _ hinD hsD q2 ho' Aa rfl rfl
        · rw [lK_eq]
          simp -implicitDefEqProofs (disch := omega) only [↓c37_1_eq, ↓c37_2_eq,Aa,Ad,Ae, lnRs, dcT, dcF, e1, ldR, f1, Option.map_some, entA, faRe0, faRe2, ldU, f4, wi, bsR, q1, ↓cnd_true, ↓cnd_false, ↓Option.bind_some, ↓obH_some', bin_add, bin_sub, bin_mul, bin_lss, bin_leq, bin_gtr, bin_geq, bin_eql, bin_neq, un_not, un_neg, Option.bind_some, Option.bind_none, Option.map_some, cnd_true, cnd_false, pickV_true, pickV_false, gd_true, gd_false, gdV_true, gdV_false, gdH_true, gdH_false, gdS_true, gdS_false, wt_ff, wt_tt, wt_ft, wt_tf, wt_undef, obH_some', extractV_tuple, nilCheckV_ptr, againK_normal, againK_exit, againK_ret, blockK_normal, blockK_same, blockK_ret, seqK_normal, seqK_exit, seqK_ret, fin_done, if_true', if_false', Bool.not_true, Bool.not_false, idx0, idx1, idx2, idx3, idx4, chk_nil_l, chk_nil_r, done_nm, up_cons, up_nil, cond_true, cond_false, Nat.reduceBEq]
          exact ih (i + 1) (by omega) (by omega) (up _ _) hD a' c' _ hinD hsD q2 ho' Aa rfl rfl
      · have ht : es[i].t = 0 := Classical.byContradiction fun h => hk (.inl h)
        have hf : es[i + 1].f = es[i].f := Classical.byContradiction fun h => hk (.inr h)
        have d2 : decide (es[i + 1].f ≠ es[i].f) = false := decide_eq_false (fun h => h hf)
        have ho' : o ++ purgeL (es.drop (i + 1)) = purgeL es := by
          rw [← ho, hdr, List.drop_eq_getElem_cons hin1, purgeL_two es[i], if_neg hk]
        rw [lK_eq]
        simp -implicitDefEqProofs (disch := omega) only [↓c37_1_eq, ↓c37_2_eq,Aa,Ad,Ae, lnRs, dcT, dcF, e1, e1', ldI, f2, f2', ldR, f1, Option.map_some, entA, faRe0, faRe2, ldU, f4, wi, d2, ↓cnd_true, ↓cnd_false, ↓Option.bind_some, ↓obH_some', bin_add, bin_sub, bin_mul, bin_lss, bin_leq, bin_gtr, bin_geq, bin_eql, bin_neq, un_not, un_neg, Option.bind_some, Option.bind_none, Option.map_some, cnd_true, cnd_false, pickV_true, pickV_false, gd_true, gd_false, gdV_true, gdV_false, gdH_true, gdH_false, gdS_true, gdS_false, wt_ff, wt_tt, wt_ft, wt_tf, wt_undef, obH_some', extractV_tuple, nilCheckV_ptr, againK_normal, againK_exit, againK_ret, blockK_normal, blockK_same, blockK_ret, seqK_normal, seqK_exit, seqK_ret, fin_done, if_true', if_false', Bool.not_true, Bool.not_false, idx0, idx1, idx2, idx3, idx4, chk_nil_l, chk_nil_r, done_nm, up_cons, up_nil, cond_true, cond_false, Nat.reduceBEq]
        exact ih (i + 1) (by omega) (by omega) (up _ _) h a c _ hin hs ha ho' Aa Ad rfl
theorem spec_PurgeR {h : Heap} {v : Value} {es : List E3} (s : SE h v es) (hl : es.length < 2 ^ 38) : ∃ a c h', evC Try.prog 37 #[v] h = some (.slice a (purgeE es).length c, h') ∧ HExt h h' ∧ SE h' (.slice a (purgeE es).length c) (purgeE es) := by
  rw [call37]
  obtain ⟨h2, q2,Ac⟩ := spec_GoodLog s.nm (by omega)
  have k2 : In h.blks.length No (nm h) h2 := Ac.inn (Nat.le_refl h.blks.length)
  have s2 : SE h2 v es := Sl.same s.nm Ac.same
  obtain ⟨va, vc, rfl⟩ := s.shape
  unfold purgeE
  cases hg : goodE es with
  | false =>
    rw [hg] at q2
    refine ⟨va, vc, _, ?_, done_ext' k2, s2.done⟩
    simp -implicitDefEqProofs (disch := omega) only [↓c37_0_eq, q2, Bool.false_eq_true, if_false, ↓ret37, ↓cnd_true, ↓cnd_false, ↓Option.bind_some, ↓obH_some', bin_add, bin_sub, bin_mul, bin_lss, bin_leq, bin_gtr, bin_geq, bin_eql, bin_neq, un_not, un_neg, Option.bind_some, Option.bind_none, Option.map_some, cnd_true, cnd_false, pickV_true, pickV_false, gd_true, gd_false, gdV_true, gdV_false, gdH_true, gdH_false, gdS_true, gdS_false, wt_ff, wt_tt, wt_ft, wt_tf, wt_undef, obH_some', extractV_tuple, nilCheckV_ptr, againK_normal, againK_exit, againK_ret, blockK_normal, blockK_same, blockK_ret, seqK_normal, seqK_exit, seqK_ret, fin_done, if_true', if_false', Bool.not_true, Bool.not_false, idx0, idx1, idx2, idx3, idx4, chk_nil_l, chk_nil_r, done_nm, up_cons, up_nil, cond_true, cond_false, Nat.reduceBEq]
  | true =>
    rw [hg] at q2
    have lp := purgeR_loop (h0 := h) s2 hl Ac.len es.length 0 (by omega) (by omega)
    have fin' : ∀ {r : Option (Value × Heap)}, (∃ a c h', r = some (.slice a (purgeL es).length c, done h h') ∧ In h.blks.length No (nm h) h' ∧ AR h2.blks.length h' (.slice a (purgeL es).length c) (purgeL es)) → ∃ a c h', r = some (.slice a (purgeL es).length c, h') ∧ HExt h h' ∧ SE h' (.slice a (purgeL es).length c) (purgeL es) := fun ⟨a, c, h', q1, q2, q3⟩ => ⟨a, c, _, q1, done_ext' q2, (Acc.sl q3 etR.size).done⟩
    simp only [if_true]
    simp -implicitDefEqProofs (disch := omega) only [↓c37_0_eq, q2, ↓cnd_true, ↓cnd_false, ↓Option.bind_some, ↓obH_some', bin_add, bin_sub, bin_mul, bin_lss, bin_leq, bin_gtr, bin_geq, bin_eql, bin_neq, un_not, un_neg, Option.bind_some, Option.bind_none, Option.map_some, cnd_true, cnd_false, pickV_true, pickV_false, gd_true, gd_false, gdV_true, gdV_false, gdH_true, gdH_false, gdS_true, gdS_false, wt_ff, wt_tt, wt_ft, wt_tf, wt_undef, obH_some', extractV_tuple, nilCheckV_ptr, againK_normal, againK_exit, againK_ret, blockK_normal, blockK_same, blockK_ret, seqK_normal, seqK_exit, seqK_ret, fin_done, if_true', if_false', Bool.not_true, Bool.not_false, idx0, idx1, idx2, idx3, idx4, chk_nil_l, chk_nil_r, done_nm, up_cons, up_nil, cond_true, cond_false, Nat.reduceBEq]
    refine fin' (lp _ _ none 0 [] k2 (Same.refl _) (AR.nil _ _) (by rw [List.drop_zero]; rfl) ?_ ?_ ?_)
    all_goals rfl
theorem butR_loop {h0 h1 : Heap} {v : Value} {es : List E3} {to : Nat} (s : SE h1 v es) (hw : wide es) (hto : to < 2 ^ 64) (hl : es.length < 2 ^ 38) (hn : h0.blks.length ≤ h1.blks.length) :
    ∀ (m i : Nat), es.length - i = m → i ≤ es.length → ∀ (x : Nat → Value) (h : Heap) (a : Option Addr) (c : Nat),In h0.blks.length No (nm h0) h → Same h1 h → AR h1.blks.length h (.slice a ((es.take i).map (lessF to)).length c) ((es.take i).map (lessF to)) →
    x 0 = v → x 1 = .int .u64 to → x 7 = .slice a ((es.take i).map (lessF to)).length c → x 8 = .int .i64 i →
    ∃ a' c' h', lK c36_2 52 x h (blockK 0 (sK c36_3 (retK Try.f36 Try.prog h0))) = some (.slice a' (es.map (lessF to)).length c', done h0 h') ∧ In h0.blks.length No (nm h0) h' ∧ AR h1.blks.length h' (.slice a' (es.map (lessF to)).length c') (es.map (lessF to)) := by
  intro m
  obtain ⟨va, vc, rfl⟩ := s.shape
  induction m with
  | zero =>
    intro i e1 e2 x h a c hin hs ha Aa Ab Ah Ai
    obtain rfl : i = es.length := by omega
    rw [List.take_length] at ha Ah
    rw [lK_eq]
    refine ⟨a, c, h, ?_, hin, ha⟩
    simp -implicitDefEqProofs (disch := omega) only [↓c36_2_eq, ↓c36_3_eq,Aa,Ab,Ah,Ai, lnRs, dcF, ↓ret36, ↓cnd_true, ↓cnd_false, ↓Option.bind_some, ↓obH_some', bin_add, bin_sub, bin_mul, bin_lss, bin_leq, bin_gtr, bin_geq, bin_eql, bin_neq, un_not, un_neg, Option.bind_some, Option.bind_none, Option.map_some, cnd_true, cnd_false, pickV_true, pickV_false, gd_true, gd_false, gdV_true, gdV_false, gdH_true, gdH_false, gdS_true, gdS_false, wt_ff, wt_tt, wt_ft, wt_tf, wt_undef, obH_some', extractV_tuple, nilCheckV_ptr, againK_normal, againK_exit, againK_ret, blockK_normal, blockK_same, blockK_ret, seqK_normal, seqK_exit, seqK_ret, fin_done, if_true', if_false', Bool.not_true, Bool.not_false, idx0, idx1, idx2, idx3, idx4, chk_nil_l, chk_nil_r, done_nm, up_cons, up_nil, cond_true, cond_false, Nat.reduceBEq]
  | succ m ih =>
    intro i hm hi x h a c hin hs ha Aa Ab Ah Ai
    have hil : i < es.length := by omega
    obtain ⟨b, of, hb, hbl, e1, e2⟩ := s.at' (t := 51) (el := 72) (by kernel_rfl) (by kernel_rfl) hil
    obtain ⟨f1, f2, f3, f4⟩ := e2 h (hs.2 b hbl)
    have wd := hw es[i] (List.getElem_mem hil)
    have an := fun t xo yo => anS t xo yo es[i].t to wd.2 hto
    have wi : IntKind.i64.wrap ((i : Int) + 1) = ((i + 1 : Nat) : Int) := by rw [wrap_i64] <;> omega
    have hol : ((es.take i).map (lessF to)).length < 2 ^ 39 := by rw [List.length_map, List.length_take]; omega
    obtain ⟨a', c', hD, q1, q2, q3, q4⟩ := app_ent etR (n0 := h1.blks.length) hs.1 ha (lessF to es[i]) hol
    have ht : (es.take i).map (lessF to) ++ [lessF to es[i]] = (es.take (i + 1)).map (lessF to) := by rw [List.take_succ, List.getElem?_eq_getElem hil, List.map_append]; rfl
    rw [ht] at q1 q2
    have hsD : Same h1 hD := ⟨Nat.le_trans hs.1 q3.len, fun q hq => (q4 q (Nat.lt_of_lt_of_le hq hs.1) (Acc.off ha (Nat.le_refl _) hq)).trans (hs.2 q hq)⟩
    have hinD := hin.trans (Keeps.inn (S := No) (q3.dn hn))
    have bq := bsR (lessF to es[i]) h
    unfold entV at bq
    have bd := bdR3 es[i].f (es[i].n : Nat) (outB es[i].t to : Nat)
    rw [lK_eq]
    simp -implicitDefEqProofs (disch := omega) only [↓c36_2_eq, ↓c36_3_eq,Aa,Ab,Ah,Ai, lnRs, dcT, e1, faRe0, faRe1, faRe2, ldI, ldU, f2, f3, f4, an, bd, show buildSliceV Try.prog 51 1 #[(0, .agg #[.int .i64 es[i].f, .int .u64 es[i].n, .int .u64 (outB es[i].t to : Nat)])] h = _ from bq, q1, wi, ↓cnd_true, ↓cnd_false, ↓Option.bind_some, ↓obH_some', bin_add, bin_sub, bin_mul, bin_lss, bin_leq, bin_gtr, bin_geq, bin_eql, bin_neq, un_not, un_neg, Option.bind_some, Option.bind_none, Option.map_some, cnd_true, cnd_false, pickV_true, pickV_false, gd_true, gd_false, gdV_true, gdV_false, gdH_true, gdH_false, gdS_true, gdS_false, wt_ff, wt_tt, wt_ft, wt_tf, wt_undef, obH_some', extractV_tuple, nilCheckV_ptr, againK_normal, againK_exit, againK_ret, blockK_normal, blockK_same, blockK_ret, seqK_normal, seqK_exit, seqK_ret, fin_done, if_true', if_false', Bool.not_true, Bool.not_false, idx0, idx1, idx2, idx3, idx4, chk_nil_l, chk_nil_r, done_nm, up_cons, up_nil, cond_true, cond_false, Nat.reduceBEq]
    exact ih (i + 1) (by omega) (by omega) (up _ _) hD a' c' hinD hsD q2 Aa Ab rfl rfl
theorem shlU1 (t : TypeId) (xo yo : Operand) (p : Nat) (hp : p < 64) : binV Try.prog .shl t xo yo (.int .u64 1) (.int .u64 p) = some (.int .u64 ((2 ^ p : Nat) : Int)) := by
  have h2 : 2 ^ p < 2 ^ 64 := Nat.pow_lt_pow_right (by omega) hp
  rw [bin_shl64 _ _ _ _ _ _ (by omega) (by omega) (by omega), Int.toNat_natCast, show (1 : Int).toNat = 1 from rfl, Nat.one_mul, Nat.mod_eq_of_lt h2]
theorem outB_zero (t : Nat) (ht : t < 2 ^ 64) : outB t 0 = t := by
  unfold outB
  apply Nat.eq_of_testBit_eq
  intro i
  rw [Nat.testBit_and, show (2 ^ 64 - 1 - 0 : Nat) = 2 ^ 64 - 1 by omega, Nat.testBit_two_pow_sub_one]
  by_cases h : i < 64
  · simp [h]
  · rw [Nat.testBit_lt_two_pow (Nat.lt_of_lt_of_le ht (Nat.pow_le_pow_right (by omega) (by omega)))]
    simp
theorem spec_ButLog {h : Heap} {v : Value} {es : List E3} (s : SE h v es) (hw : wide es) (hl : es.length < 2 ^ 38) (to : Nat) (hto : to < 2 ^ 64) (d : Int) : ∃ a c h', evC Try.prog 36 #[v, .int .u64 to, .int .i64 d] h = some (.slice a es.length c, h') ∧ HExt h h' ∧ SE h' (.slice a es.length c) (lessE es (outB to (ofN d))) := by
  rw [call36]
  obtain ⟨h2, q2,Ac⟩ := spec_GoodLog s.nm (by omega)
  have k2 : In h.blks.length No (nm h) h2 := Ac.inn (Nat.le_refl h.blks.length)
  have s2 : SE h2 v es := Sl.same s.nm Ac.same
  obtain ⟨va, vc, rfl⟩ := s.shape
  unfold lessE
  cases hg : goodE es with
  | false =>
    rw [hg] at q2
    simp only [Bool.false_eq_true, if_false]
    refine ⟨va, vc, _, ?_, done_ext' k2, s2.done⟩
    simp -implicitDefEqProofs (disch := omega) only [↓c36_0_eq, q2, ↓ret36, ↓cnd_true, ↓cnd_false, ↓Option.bind_some, ↓obH_some', bin_add, bin_sub, bin_mul, bin_lss, bin_leq, bin_gtr, bin_geq, bin_eql, bin_neq, un_not, un_neg, Option.bind_some, Option.bind_none, Option.map_some, cnd_true, cnd_false, pickV_true, pickV_false, gd_true, gd_false, gdV_true, gdV_false, gdH_true, gdH_false, gdS_true, gdS_false, wt_ff, wt_tt, wt_ft, wt_tf, wt_undef, obH_some', extractV_tuple, nilCheckV_ptr, againK_normal, againK_exit, againK_ret, blockK_normal, blockK_same, blockK_ret, seqK_normal, seqK_exit, seqK_ret, fin_done, if_true', if_false', Bool.not_true, Bool.not_false, idx0, idx1, idx2, idx3, idx4, chk_nil_l, chk_nil_r, done_nm, up_cons, up_nil, cond_true, cond_false, Nat.reduceBEq]
  | true =>
    rw [hg] at q2
    simp only [if_true]
    have lp := butR_loop (h0 := h) (to := outB to (ofN d)) s2 hw (outB_lt hto) hl Ac.len es.length 0 (by omega) (by omega)
    have fin' : ∀ {r : Option (Value × Heap)}, (∃ a c h', r = some (.slice a (es.map (lessF (outB to (ofN d)))).length c, done h h') ∧ In h.blks.length No (nm h) h' ∧ AR h2.blks.length h' (.slice a (es.map (lessF (outB to (ofN d)))).length c) (es.map (lessF (outB to (ofN d))))) → ∃ a c h', r = some (.slice a es.length c, h') ∧ HExt h h' ∧ SE h' (.slice a es.length c) (es.map (lessF (outB to (ofN d)))) := fun ⟨a, c, h', q1, q2, q3⟩ => by
      have q3' := (Acc.sl q3 etR.size).done (h0 := h)
      rw [List.length_map] at q1 q3'
      exact ⟨a, c, _, q1, done_ext' q2, by show Sl _ _ _ _ _ _; rw [List.length_map]; exact q3'⟩
    by_cases hd : 0 ≤ d ∧ d ≤ 63
    · obtain ⟨p, rfl⟩ : ∃ p : Nat, d = p := ⟨d.toNat, by omega⟩
      have e0 : ofN (p : Int) = 2 ^ p := by unfold ofN; rw [if_pos (by omega), Int.toNat_natCast]
      have sh := fun t xo yo => shlU1 t xo yo p (by omega)
      have an := fun t xo yo => anS t xo yo to (2 ^ p) hto (Nat.pow_lt_pow_right (by omega) (by omega))
      have cu := fun h => cvUint (p : Int) h (by omega) (by omega)
      rw [e0] at lp fin'
      rw [e0]
      simp -implicitDefEqProofs (disch := omega) only [↓c36_0_eq, ↓c36_1_eq, q2, dcT, cu, sh, an, ↓cnd_true, ↓cnd_false, ↓Option.bind_some, ↓obH_some', bin_add, bin_sub, bin_mul, bin_lss, bin_leq, bin_gtr, bin_geq, bin_eql, bin_neq, un_not, un_neg, Option.bind_some, Option.bind_none, Option.map_some, cnd_true, cnd_false, pickV_true, pickV_false, gd_true, gd_false, gdV_true, gdV_false, gdH_true, gdH_false, gdS_true, gdS_false, wt_ff, wt_tt, wt_ft, wt_tf, wt_undef, obH_some', extractV_tuple, nilCheckV_ptr, againK_normal, againK_exit, againK_ret, blockK_normal, blockK_same, blockK_ret, seqK_normal, seqK_exit, seqK_ret, fin_done, if_true', if_false', Bool.not_true, Bool.not_false, idx0, idx1, idx2, idx3, idx4, chk_nil_l, chk_nil_r, done_nm, up_cons, up_nil, cond_true, cond_false, Nat.reduceBEq]
      refine fin' (lp _ _ none 0 k2 (Same.refl _) (AR.nil _ _) ?_ ?_ ?_ ?_)
      all_goals rfl
    · have e0 : ofN d = 0 := by unfold ofN; rw [if_neg (by omega)]
      rw [e0, outB_zero to hto] at lp fin'
      rw [e0, outB_zero to hto]
      by_cases h1 : d ≥ 0
      · simp -implicitDefEqProofs (disch := omega) only [↓c36_0_eq, ↓c36_1_eq, q2, dcT, dcF, ↓cnd_true, ↓cnd_false, ↓Option.bind_some, ↓obH_some', bin_add, bin_sub, bin_mul, bin_lss, bin_leq, bin_gtr, bin_geq, bin_eql, bin_neq, un_not, un_neg, Option.bind_some, Option.bind_none, Option.map_some, cnd_true, cnd_false, pickV_true, pickV_false, gd_true, gd_false, gdV_true, gdV_false, gdH_true, gdH_false, gdS_true, gdS_false, wt_ff, wt_tt, wt_ft, wt_tf, wt_undef, obH_some', extractV_tuple, nilCheckV_ptr, againK_normal, againK_exit, againK_ret, blockK_normal, blockK_same, blockK_ret, seqK_normal, seqK_exit, seqK_ret, fin_done, if_true', if_false', Bool.not_true, Bool.not_false, idx0, idx1, idx2, idx3, idx4, chk_nil_l, chk_nil_r, done_nm, up_cons, up_nil, cond_true, cond_false, Nat.reduceBEq]
        refine fin' (lp _ _ none 0 k2 (Same.refl _) (AR.nil _ _) ?_ ?_ ?_ ?_)
        all_goals rfl
      · simp -implicitDefEqProofs (disch := omega) only [↓c36_0_eq, ↓c36_1_eq, q2, dcT, dcF, ↓cnd_true, ↓cnd_false, ↓Option.bind_some, ↓obH_some', bin_add, bin_sub, bin_mul, bin_lss, bin_leq, bin_gtr, bin_geq, bin_eql, bin_neq, un_not, un_neg, Option.bind_some, Option.bind_none, Option.map_some, cnd_true, cnd_false, pickV_true, pickV_false, gd_true, gd_false, gdV_true, gdV_false, gdH_true, gdH_false, gdS_true, gdS_false, wt_ff, wt_tt, wt_ft, wt_tf, wt_undef, obH_some', extractV_tuple, nilCheckV_ptr, againK_normal, againK_exit, againK_ret, blockK_normal, blockK_same, blockK_ret, seqK_normal, seqK_exit, seqK_ret, fin_done, if_true', if_false', Bool.not_true, Bool.not_false, idx0, idx1, idx2, idx3, idx4, chk_nil_l, chk_nil_r, done_nm, up_cons, up_nil, cond_true, cond_false, Nat.reduceBEq]
        refine fin' (lp _ _ none 0 k2 (Same.refl _) (AR.nil _ _) ?_ ?_ ?_ ?_)
        all_goals rfl
theorem spec_LessLog {h : Heap} {v : Value} {es : List E3} (s : SE h v es) (hw : wide es) (hl : es.length < 2 ^ 38) (to : Nat) (hto : to < 2 ^ 64) : ∃ a c h', evC Try.prog 35 #[v, .int .u64 to] h = some (.slice a es.length c, h') ∧ HExt h h' ∧ SE h' (.slice a es.length c) (lessE es to) := by
  rw [call35]
  obtain ⟨a, c, h2, q2,Ac, s2⟩ := spec_ButLog s.nm hw hl to hto (-1)
  have e0 : ofN (-1) = 0 := by unfold ofN; rw [if_neg (by omega)]
  rw [e0, outB_zero to hto] at s2
  refine ⟨a, c, _, ?_, done_ext' (Ac.inn (Nat.le_refl h.blks.length)), s2.done⟩
  simp -implicitDefEqProofs (disch := omega) only [↓c35_0_eq, q2, ↓ret35, ↓cnd_true, ↓cnd_false, ↓Option.bind_some, ↓obH_some', bin_add, bin_sub, bin_mul, bin_lss, bin_leq, bin_gtr, bin_geq, bin_eql, bin_neq, un_not, un_neg, Option.bind_some, Option.bind_none, Option.map_some, cnd_true, cnd_false, pickV_true, pickV_false, gd_true, gd_false, gdV_true, gdV_false, gdH_true, gdH_false, gdS_true, gdS_false, wt_ff, wt_tt, wt_ft, wt_tf, wt_undef, obH_some', extractV_tuple, nilCheckV_ptr, againK_normal, againK_exit, againK_ret, blockK_normal, blockK_same, blockK_ret, seqK_normal, seqK_exit, seqK_ret, fin_done, if_true', if_false', Bool.not_true, Bool.not_false, idx0, idx1, idx2, idx3, idx4, chk_nil_l, chk_nil_r, done_nm, up_cons, up_nil, cond_true, cond_false, Nat.reduceBEq]
theorem findI_hit {l : List E3} (hs : Srt l) {x : E3} {j : Nat} (hj : j < l.length) (h1 : l[j].f = x.f) (h2 : l[j].n = x.n) : findI l x (j + 1) = (j : Nat) := by
  obtain ⟨a, b⟩ := key_at hs hj h1 h2
  unfold findI
  rw [if_pos ⟨a, by omega⟩, b]
theorem findI_miss {l : List E3} {x : E3} {j : Nat} (hj : j < l.length) (h : ¬ (l[j].f = x.f ∧ l[j].n = x.n)) : findI l x (j + 1) = findI l x j := by
  unfold findI
  by_cases hb : bsF l x = true
  · obtain ⟨hk, g1, g2⟩ := key_bs hb
    have : bsK l x ≠ j := fun e => by subst e; exact h ⟨g1, g2⟩
    by_cases hlt : bsK l x < j
    · rw [if_pos ⟨hb, by omega⟩, if_pos ⟨hb, hlt⟩]
    · rw [if_neg (fun k => by omega), if_neg (fun k => hlt k.2)]
  · rw [if_neg (fun k => hb k.1), if_neg (fun k => hb k.1)]
theorem moreF_take {l : List E3} {x : E3} {j : Nat} (hj : j < l.length) : moreF (l.take (j + 1)) x = (moreF (l.take j) x || decide (l[j].f = x.f ∧ x.n < l[j].n)) := by
  unfold moreF
  rw [List.take_succ, List.getElem?_eq_getElem hj, List.any_append]
  simp
theorem find_loop {h0 h : Heap} {v : Value} {l : List E3} {Aa : E3} {p : Nat} (s : SE h v l) (hs : Srt l) (hl : l.length < 2 ^ 38) (c : Cells h p 72 (entC Aa)) :
    ∀ (m i : Nat), l.length - i = m → i ≤ l.length → ∀ (x : Nat → Value), x 0 = v → x 3 = .pointer (some ⟨p, 0, none⟩) → x 6 = .int .i64 (findI l Aa i) → x 7 = .bool (moreF (l.take i) Aa) → x 8 = .int .i64 i →
    lK c64_1 57 x h (blockK 0 (sK c64_2 (retK Try.f64 Try.prog h0))) = some (.tuple #[.int .i64 (findI l Aa l.length), .bool (moreF l Aa)], done h0 h) := by
  intro m
  obtain ⟨va, vc, rfl⟩ := s.shape
  have p0 : h.load1 p 0 = some (.int .i64 Aa.f) := c.load 0
  have p1 : h.load1 p (0 + 1) = some (.int .u64 Aa.n) := c.load 1
  induction m with
  | zero =>
    intro i e1 e2 x y0 y3 y6 y7 y8
    obtain rfl : i = l.length := by omega
    rw [List.take_length] at y7
    rw [lK_eq]
    simp -implicitDefEqProofs (disch := omega) only [↓c64_1_eq, ↓c64_2_eq, y0, y3, y6, y7, y8, lnRs, dcF, ↓ret64, ↓cnd_true, ↓cnd_false, ↓Option.bind_some, ↓obH_some', bin_add, bin_sub, bin_mul, bin_lss, bin_leq, bin_gtr, bin_geq, bin_eql, bin_neq, un_not, un_neg, Option.bind_some, Option.bind_none, Option.map_some, cnd_true, cnd_false, pickV_true, pickV_false, gd_true, gd_false, gdV_true, gdV_false, gdH_true, gdH_false, gdS_true, gdS_false, wt_ff, wt_tt, wt_ft, wt_tf, wt_undef, obH_some', extractV_tuple, nilCheckV_ptr, againK_normal, againK_exit, againK_ret, blockK_normal, blockK_same, blockK_ret, seqK_normal, seqK_exit, seqK_ret, fin_done, if_true', if_false', Bool.not_true, Bool.not_false, idx0, idx1, idx2, idx3, idx4, chk_nil_l, chk_nil_r, done_nm, up_cons, up_nil, cond_true, cond_false, Nat.reduceBEq]
  | succ m ih =>
    intro i hm hi x y0 y3 y6 y7 y8
    have hil : i < l.length := by omega
    obtain ⟨b, of, hb, hbl, e1, e2⟩ := s.at' (t := 51) (el := 72) (by kernel_rfl) (by kernel_rfl) hil
    obtain ⟨_, f2, f3, _⟩ := e2 h rfl
    have wi : IntKind.i64.wrap ((i : Int) + 1) = ((i + 1 : Nat) : Int) := by rw [wrap_i64] <;> omega
    have mt := moreF_take (x := Aa) hil
    rw [lK_eq]
    by_cases hf : l[i].f = Aa.f
    · by_cases hn : l[i].n = Aa.n
      · have ha := findI_hit hs hil hf hn
        rw [decide_eq_false (by omega), Bool.or_false] at mt
        cases hmo : moreF (l.take i) Aa with
        | true =>
          rw [hmo] at y7 mt
          simp -implicitDefEqProofs (disch := omega) only [↓c64_1_eq, ↓c64_2_eq, y0, y3, y6, y7, y8, lnRs, dcT, dcF, e1, faRe0, faRe1, ldI, ldU, f2, f3, p0, p1, decide_eq_true hf, decide_eq_true (congrArg Int.ofNat hn), wi, ↓cnd_true, ↓cnd_false, ↓Option.bind_some, ↓obH_some', bin_add, bin_sub, bin_mul, bin_lss, bin_leq, bin_gtr, bin_geq, bin_eql, bin_neq, un_not, un_neg, Option.bind_some, Option.bind_none, Option.map_some, cnd_true, cnd_false, pickV_true, pickV_false, gd_true, gd_false, gdV_true, gdV_false, gdH_true, gdH_false, gdS_true, gdS_false, wt_ff, wt_tt, wt_ft, wt_tf, wt_undef, obH_some', extractV_tuple, nilCheckV_ptr, againK_normal, againK_exit, againK_ret, blockK_normal, blockK_same, blockK_ret, seqK_normal, seqK_exit, seqK_ret, fin_done, if_true', if_false', Bool.not_true, Bool.not_false, idx0, idx1, idx2, idx3, idx4, chk_nil_l, chk_nil_r, done_nm, up_cons, up_nil, cond_true, cond_false, Nat.reduceBEq]
          exact ih (i + 1) (by omega) (by omega) (up _ _) y0 y3 (by rw [ha]; rfl) (by rw [mt]; rfl) rfl
        | false =>
          rw [hmo] at y7 mt
          simp -implicitDefEqProofs (disch := omega) only [↓c64_1_eq, ↓c64_2_eq, y0, y3, y6, y7, y8, lnRs, dcT, dcF, e1, faRe0, faRe1, ldI, ldU, f2, f3, p0, p1, decide_eq_true hf, wi, ↓cnd_true, ↓cnd_false, ↓Option.bind_some, ↓obH_some', bin_add, bin_sub, bin_mul, bin_lss, bin_leq, bin_gtr, bin_geq, bin_eql, bin_neq, un_not, un_neg, Option.bind_some, Option.bind_none, Option.map_some, cnd_true, cnd_false, pickV_true, pickV_false, gd_true, gd_false, gdV_true, gdV_false, gdH_true, gdH_false, gdS_true, gdS_false, wt_ff, wt_tt, wt_ft, wt_tf, wt_undef, obH_some', extractV_tuple, nilCheckV_ptr, againK_normal, againK_exit, againK_ret, blockK_normal, blockK_same, blockK_ret, seqK_normal, seqK_exit, seqK_ret, fin_done, if_true', if_false', Bool.not_true, Bool.not_false, idx0, idx1, idx2, idx3, idx4, chk_nil_l, chk_nil_r, done_nm, up_cons, up_nil, cond_true, cond_false, Nat.reduceBEq]
          exact ih (i + 1) (by omega) (by omega) (up _ _) y0 y3 (by rw [ha]; rfl) (by rw [mt]; rfl) rfl
      · have ha := findI_miss (x := Aa) hil (fun k => hn k.2)
        rw [← ha] at y6
        cases hmo : moreF (l.take i) Aa with
        | true =>
          rw [hmo] at y7 mt
          rw [Bool.true_or] at mt
          simp -implicitDefEqProofs (disch := omega) only [↓c64_1_eq, ↓c64_2_eq, y0, y3, y7, y8, lnRs, dcT, dcF, e1, faRe0, faRe1, ldI, ldU, f2, f3, p0, p1, decide_eq_true hf, wi, ↓cnd_true, ↓cnd_false, ↓Option.bind_some, ↓obH_some', bin_add, bin_sub, bin_mul, bin_lss, bin_leq, bin_gtr, bin_geq, bin_eql, bin_neq, un_not, un_neg, Option.bind_some, Option.bind_none, Option.map_some, cnd_true, cnd_false, pickV_true, pickV_false, gd_true, gd_false, gdV_true, gdV_false, gdH_true, gdH_false, gdS_true, gdS_false, wt_ff, wt_tt, wt_ft, wt_tf, wt_undef, obH_some', extractV_tuple, nilCheckV_ptr, againK_normal, againK_exit, againK_ret, blockK_normal, blockK_same, blockK_ret, seqK_normal, seqK_exit, seqK_ret, fin_done, if_true', if_false', Bool.not_true, Bool.not_false, idx0, idx1, idx2, idx3, idx4, chk_nil_l, chk_nil_r, done_nm, up_cons, up_nil, cond_true, cond_false, Nat.reduceBEq]
          exact ih (i + 1) (by omega) (by omega) (up _ _) y0 y3 y6 (by rw [mt]; rfl) rfl
        | false =>
          rw [hmo] at y7 mt
          rw [Bool.false_or] at mt
          by_cases hgt : Aa.n < l[i].n
          · rw [decide_eq_true ⟨hf, hgt⟩] at mt
            simp -implicitDefEqProofs (disch := omega) only [↓c64_1_eq, ↓c64_2_eq, y0, y3, y7, y8, lnRs, dcT, dcF, e1, faRe0, faRe1, ldI, ldU, f2, f3, p0, p1, decide_eq_true hf, wi, ↓cnd_true, ↓cnd_false, ↓Option.bind_some, ↓obH_some', bin_add, bin_sub, bin_mul, bin_lss, bin_leq, bin_gtr, bin_geq, bin_eql, bin_neq, un_not, un_neg, Option.bind_some, Option.bind_none, Option.map_some, cnd_true, cnd_false, pickV_true, pickV_false, gd_true, gd_false, gdV_true, gdV_false, gdH_true, gdH_false, gdS_true, gdS_false, wt_ff, wt_tt, wt_ft, wt_tf, wt_undef, obH_some', extractV_tuple, nilCheckV_ptr, againK_normal, againK_exit, againK_ret, blockK_normal, blockK_same, blockK_ret, seqK_normal, seqK_exit, seqK_ret, fin_done, if_true', if_false', Bool.not_true, Bool.not_false, idx0, idx1, idx2, idx3, idx4, chk_nil_l, chk_nil_r, done_nm, up_cons, up_nil, cond_true, cond_false, Nat.reduceBEq]
            exact ih (i + 1) (by omega) (by omega) (up _ _) y0 y3 y6 (by rw [mt]; rfl) rfl
          · rw [decide_eq_false (by omega)] at mt
            simp -implicitDefEqProofs (disch := omega) only [↓c64_1_eq, ↓c64_2_eq, y0, y3, y7, y8, lnRs, dcT, dcF, e1, faRe0, faRe1, ldI, ldU, f2, f3, p0, p1, decide_eq_true hf, wi, ↓cnd_true, ↓cnd_false, ↓Option.bind_some, ↓obH_some', bin_add, bin_sub, bin_mul, bin_lss, bin_leq, bin_gtr, bin_geq, bin_eql, bin_neq, un_not, un_neg, Option.bind_some, Option.bind_none, Option.map_some, cnd_true, cnd_false, pickV_true, pickV_false, gd_true, gd_false, gdV_true, gdV_false, gdH_true, gdH_false, gdS_true, gdS_false, wt_ff, wt_tt, wt_ft, wt_tf, wt_undef, obH_some', extractV_tuple, nilCheckV_ptr, againK_normal, againK_exit, againK_ret, blockK_normal, blockK_same, blockK_ret, seqK_normal, seqK_exit, seqK_ret, fin_done, if_true', if_false', Bool.not_true, Bool.not_false, idx0, idx1, idx2, idx3, idx4, chk_nil_l, chk_nil_r, done_nm, up_cons, up_nil, cond_true, cond_false, Nat.reduceBEq]
            exact ih (i + 1) (by omega) (by omega) (up _ _) y0 y3 y6 (by rw [mt]; rfl) rfl
    · have ha := findI_miss (x := Aa) hil (fun k => hf k.1)
      rw [← ha] at y6
      rw [decide_eq_false (fun k => hf k.1), Bool.or_false] at mt
      cases hmo : moreF (l.take i) Aa with
      | true =>
        rw [hmo] at y7 mt
        simp -implicitDefEqProofs (disch := omega) only [↓c64_1_eq, ↓c64_2_eq, y0, y3, y7, y8, lnRs, dcT, dcF, e1, faRe0, faRe1, ldI, ldU, f2, f3, p0, p1, decide_eq_false hf, wi, ↓cnd_true, ↓cnd_false, ↓Option.bind_some, ↓obH_some', bin_add, bin_sub, bin_mul, bin_lss, bin_leq, bin_gtr, bin_geq, bin_eql, bin_neq, un_not, un_neg, Option.bind_some, Option.bind_none, Option.map_some, cnd_true, cnd_false, pickV_true, pickV_false, gd_true, gd_false, gdV_true, gdV_false, gdH_true, gdH_false, gdS_true, gdS_false, wt_ff, wt_tt, wt_ft, wt_tf, wt_undef, obH_some', extractV_tuple, nilCheckV_ptr, againK_normal, againK_exit, againK_ret, blockK_normal, blockK_same, blockK_ret, seqK_normal, seqK_exit, seqK_ret, fin_done, if_true', if_false', Bool.not_true, Bool.not_false, idx0, idx1, idx2, idx3, idx4, chk_nil_l, chk_nil_r, done_nm, up_cons, up_nil, cond_true, cond_false, Nat.reduceBEq]
        exact ih (i + 1) (by omega) (by omega) (up _ _) y0 y3 y6 (by rw [mt]; rfl) rfl
      | false =>
        rw [hmo] at y7 mt
        simp -implicitDefEqProofs (disch := omega) only [↓c64_1_eq, ↓c64_2_eq, y0, y3, y7, y8, lnRs, dcT, dcF, e1, faRe0, faRe1, ldI, ldU, f2, f3, p0, p1, decide_eq_false hf, wi, ↓cnd_true, ↓cnd_false, ↓Option.bind_some, ↓obH_some', bin_add, bin_sub, bin_mul, bin_lss, bin_leq, bin_gtr, bin_geq, bin_eql, bin_neq, un_not, un_neg, Option.bind_some, Option.bind_none, Option.map_some, cnd_true, cnd_false, pickV_true, pickV_false, gd_true, gd_false, gdV_true, gdV_false, gdH_true, gdH_false, gdS_true, gdS_false, wt_ff, wt_tt, wt_ft, wt_tf, wt_undef, obH_some', extractV_tuple, nilCheckV_ptr, againK_normal, againK_exit, againK_ret, blockK_normal, blockK_same, blockK_ret, seqK_normal, seqK_exit, seqK_ret, fin_done, if_true', if_false', Bool.not_true, Bool.not_false, idx0, idx1, idx2, idx3, idx4, chk_nil_l, chk_nil_r, done_nm, up_cons, up_nil, cond_true, cond_false, Nat.reduceBEq]
        exact ih (i + 1) (by omega) (by omega) (up _ _) y0 y3 y6 (by rw [mt]; rfl) rfl
theorem spec_find {h : Heap} {v : Value} {l : List E3} (s : SE h v l) (hs : Srt l) (hl : l.length < 2 ^ 38) (Aa : E3) : ∃ h', evC Try.prog 64 #[v, entV Aa] h = some (.tuple #[.int .i64 (findI l Aa l.length), .bool (moreF l Aa)], h') ∧ HExt h h' := by
  rw [call64]
  have c := Cells.new (nm h) 72 (entC Aa)
  have k1 : In h.blks.length No (nm h) ((nm h).new (.cells (entC Aa)) 72) := In.new (h := nm h) (Nat.le_refl h.blks.length) _ _
  have s1 : SE ((nm h).new (.cells (entC Aa)) 72) v l := s.nm.keepNew _ _
  have bx : boxV Try.prog 72 (entV Aa) (nm h) = some (.pointer (some ⟨(nm h).blks.length, 0, none⟩), (nm h).new (.cells (entC Aa)) 72) := bxRe _ _ _ _
  have lp := find_loop (h0 := h) s1 hs hl c l.length 0 (by omega) (by omega)
  refine ⟨_, ?_, done_ext' k1⟩
  simp -implicitDefEqProofs (disch := omega) only [↓c64_0_eq, bx, ↓cnd_true, ↓cnd_false, ↓Option.bind_some, ↓obH_some', bin_add, bin_sub, bin_mul, bin_lss, bin_leq, bin_gtr, bin_geq, bin_eql, bin_neq, un_not, un_neg, Option.bind_some, Option.bind_none, Option.map_some, cnd_true, cnd_false, pickV_true, pickV_false, gd_true, gd_false, gdV_true, gdV_false, gdH_true, gdH_false, gdS_true, gdS_false, wt_ff, wt_tt, wt_ft, wt_tf, wt_undef, obH_some', extractV_tuple, nilCheckV_ptr, againK_normal, againK_exit, againK_ret, blockK_normal, blockK_same, blockK_ret, seqK_normal, seqK_exit, seqK_ret, fin_done, if_true', if_false', Bool.not_true, Bool.not_false, idx0, idx1, idx2, idx3, idx4, chk_nil_l, chk_nil_r, done_nm, up_cons, up_nil, cond_true, cond_false, Nat.reduceBEq]
  refine lp _ ?_ ?_ ?_ ?_ ?_
  · rfl
  · rfl
  · show Value.int .i64 (-1) = _
    unfold findI
    rw [if_neg (by omega)]
  · rfl
  · rfl
end Go.Am
namespace Go.Am
open Go.Proofs
set_option maxRecDepth 100000
set_option linter.all false
attribute [local congr] obind_congr obH_congr cnd_congr chk_congr retK_congr codeK_congr
theorem entL_takeR : ∀ (es : List E3) (i : Nat), (entL es).take (i * 3) = entL (es.take i)
  | [], i => by simp [entL]
  | e :: es, 0 => rfl
  | e :: es, i + 1 => by
    rw [show (i + 1) * 3 = (i * 3) + 1 + 1 + 1 by omega]
    simp only [entL, List.take_succ_cons]
    rw [entL_takeR es i]
theorem entL_dropR : ∀ (es : List E3) (i : Nat), (entL es).drop (i * 3) = entL (es.drop i)
  | [], i => by simp [entL]
  | e :: es, 0 => rfl
  | e :: es, i + 1 => by
    rw [show (i + 1) * 3 = (i * 3) + 1 + 1 + 1 by omega]
    simp only [entL, List.drop_succ_cons]
    exact entL_dropR es i
theorem sr_mid {h : Heap} {v : Value} {es : List E3} (s : SE h v es) {i j : Nat} (hij : i ≤ j) (hj : j ≤ es.length) {lo hi : Option Value} (hlo : lo.elim (some 0) natOf? = some i) (hhi : hi.elim (some es.length) natOf? = some j) :
    ∃ a c, sliceV Try.prog 51 v lo hi none h = some (.slice a ((es.drop i).take (j - i)).length c) ∧ SE h (.slice a ((es.drop i).take (j - i)).length c) ((es.drop i).take (j - i)) := by
  obtain ⟨v3, e3, s3, b3⟩ := Sl.sub s etR.under etR.size hij hj hlo hhi
  obtain ⟨a4, c4, rfl⟩ := s3.shape
  have el : ((es.drop i).take (j - i)).length = j - i := by simp; omega
  rw [entL_dropR, entL_takeR] at s3
  refine ⟨a4, c4, ?_⟩
  unfold SE
  rw [el]
  exact ⟨e3, s3⟩
theorem sr_drop {h : Heap} {v : Value} {es : List E3} (s : SE h v es) {i : Nat} (hi : i ≤ es.length) (k : IntKind) :
    ∃ a c, sliceV Try.prog 51 v (some (.int k i)) none none h = some (.slice a (es.drop i).length c) ∧ SE h (.slice a (es.drop i).length c) (es.drop i) := by
  have := sr_mid s (i := i) (j := es.length) hi (Nat.le_refl _) (lo := some (.int k i)) (hi := none) (natOf_int k _) rfl
  rwa [List.take_of_length_le (by simp)] at this
theorem sr_take {h : Heap} {v : Value} {es : List E3} (s : SE h v es) {i : Nat} (hi : i ≤ es.length) (k : IntKind) :
    ∃ a c, sliceV Try.prog 51 v none (some (.int k i)) none h = some (.slice a (es.take i).length c) ∧ SE h (.slice a (es.take i).length c) (es.take i) := by
  have := sr_mid s (i := 0) (j := i) (Nat.zero_le _) hi (lo := none) (hi := some (.int k i)) rfl (natOf_int k _)
  rwa [List.drop_zero, Nat.sub_zero] at this
theorem mkR0 (h : Heap) : buildSliceV Try.prog 51 0 #[] h = some (.slice (some ⟨h.blks.length, 0, none⟩) 0 0, h.new (.cells []) 72) := by kernel_rfl
theorem appendV_mods0 {P : Program} {t : TypeId} {t1 : Option TypeId} {b : Nat} {x : Value} {h : Heap} {v' : Value} {h' : Heap} (e : appendV P t t1 (.slice (some ⟨b, 0, none⟩) 0 0) x h = some (v', h')) : h'.mods = h.mods := by
  unfold appendV at e
  split at e
  · rename_i elem base sLen sCap hu hs
    injection hs with e1 e2 e3
    subst e1 e2 e3
    split at e
    · split at e
      · split at e
        · split at e
          · cases e; rfl
          · rename_i hn
            rw [if_neg (by unfold UNK; omega), if_neg (by omega)] at e
            simp only at e
            cases hl : h.loadN b 0 (0 * _) with
            | none => rw [hl] at e; cases e
            | some old => rw [hl] at e; cases e; rfl
        · cases e
      · cases e
    · cases e
  · cases e
theorem addR_tail {h : Heap} {v : Value} {es : List E3} {p k : Nat} {x : E3} (s : SE h v es) (hk : k ≤ es.length) (hl : es.length < 2 ^ 38) (c : Cells h p 72 (entC x)) {rv : Value} {ds : List E3} (sr : SE h rv ds) (hd : ds.length ≤ es.length) :
    ∃ hE ta tc a1 c1 hF hG hH a2 c2 a3 c3, buildSliceV Try.prog 51 0 #[] h = some (.slice (some ⟨h.blks.length, 0, none⟩) 0 0, hE) ∧ sliceV Try.prog 51 v none (some (.int .i64 k)) none hE = some (.slice ta (es.take k).length tc) ∧
      appendV Try.prog 51 (some 51) (.slice (some ⟨h.blks.length, 0, none⟩) 0 0) (.slice ta (es.take k).length tc) (nm hE) = some (.slice a1 (es.take k).length c1, hF) ∧
      (am hF hE).loadN p 0 3 = some (entC x) ∧ buildSliceV Try.prog 51 1 #[(0, entV x)] (am hF hE) = some (.slice (some ⟨(am hF hE).blks.length, 0, none⟩) 1 1, (am hF hE).new (.cells (entC x)) 72) ∧
      appendV Try.prog 51 (some 51) (.slice a1 (es.take k).length c1) (.slice (some ⟨(am hF hE).blks.length, 0, none⟩) 1 1) ((am hF hE).new (.cells (entC x)) 72) = some (.slice a2 (es.take k ++ [x]).length c2, hG) ∧
      appendV Try.prog 51 (some 51) (.slice a2 (es.take k ++ [x]).length c2) rv hG = some (.slice a3 (es.take k ++ [x] ++ ds).length c3, hH) ∧
      hF.mods = [] ∧ (∀ {n0 : Nat}, n0 ≤ h.blks.length → In n0 No h hH) ∧ SE hH (.slice a3 (es.take k ++ [x] ++ ds).length c3) (es.take k ++ [x] ++ ds) := by
  have hpl : p < h.blks.length := c.lt
  have i1 := In.new (S := No) (h := h) (Nat.le_refl h.blks.length) (.cells []) 72
  have cE := blk_new_self h (.cells []) 72
  have sE : SE (h.new (.cells []) 72) v es := Sl.keepNew s _ _
  have rE : SE (h.new (.cells []) 72) rv ds := Sl.keepNew sr _ _
  have cEp := c.keepNew (.cells []) 72
  have mE := mkR0 h
  have lE : (h.new (.cells []) 72).blks.length = h.blks.length + 1 := by simp [Heap.new]
  have sameE : Same h (h.new (.cells []) 72) := Same.new _ _ _
  generalize hhE : h.new (.cells []) 72 = hE at *
  obtain ⟨ta, tc, t1, t2⟩ := sr_take sE hk .i64
  have aE : AR h.blks.length (nm hE) (.slice (some ⟨h.blks.length, 0, none⟩) 0 0) [] := .full (all := []) (Nat.le_refl _) (by omega) cE (by simp) (by simp [entL])
  obtain ⟨a1, c1, hF, q1, q2, q3, q4, _⟩ := app_ents etR etR.under (n0 := h.blks.length) (h := nm hE) (by show _ ≤ hE.blks.length; omega) aE (Sl.nm t2) (by simp; omega)
  rw [List.nil_append] at q1 q2
  have mF : hF.mods = [] := appendV_mods0 q1
  have sameF : Same h hF := ⟨by have := q3.len; have : (nm hE).blks.length = hE.blks.length := rfl; omega, fun b hb => (q3.old b hb).trans (sameE.2 b hb)⟩
  have sameA : Same h (am hF hE) := sameF
  have lx : (am hF hE).loadN p 0 3 = some (entC x) := (c.same sameA).loadN (n := 3) rfl
  have aA : AR h.blks.length (am hF hE) (.slice a1 (es.take k).length c1) (es.take k) := Acc.keep q2 fun _ _ _ => rfl
  obtain ⟨a2, c2, hG, g1, g2, g3, g4⟩ := app_ent etR (n0 := h.blks.length) sameA.1 aA x (by simp; omega)
  have sameG : Same h hG := ⟨Nat.le_trans sameA.1 g3.len, fun b hb => (g3.old b hb).trans (sameA.2 b hb)⟩
  obtain ⟨a3, c3, hH, j1, j2, j3, j4, _⟩ := app_ents etR etR.under (n0 := h.blks.length) sameG.1 g2 (Sl.same sr sameG) (by simp; omega)
  refine ⟨hE, ta, tc, a1, c1, hF, hG, hH, a2, c2, a3, c3, mE, t1, q1, lx, bsR x (am hF hE), g1, j1, mF, fun {n0} hn => ?_, Acc.sl j2 etR.size⟩
  have kA : Keeps h.blks.length h (am hF hE) := ⟨Nat.le_refl _, sameA.1, fun b hb => sameA.2 b hb, fun m hm => by
    have e : (am hF hE).mods = hF.mods ++ hE.mods := rfl
    rw [e, mF, ← hhE] at hm
    exact .inl hm⟩
  exact Keeps.inn (((kA.trans g3).trans j3).dn hn)
theorem addR_loop {β : Type} {Q : Option β → Prop} {kk : Ex → St → Option β} {n0 : Nat} {hS h1 : Heap} {v : Value} {es : List E3} {p : Nat} {e0 : E3} (s : SE h1 v es) (hl : es.length < 2 ^ 38) (c : Cells h1 p 72 (entC e0))
    (hk : ∀ (h : Heap) (y : Nat → Value),In n0 No hS h → Same h1 h → y 0 = v → y 3 = .pointer (some ⟨p, 0, none⟩) → y 5 = .int .i64 (bsK es e0 : Nat) → Q (kk .normal ⟨ar 66 y, h⟩)) :
    ∀ (m i : Nat), bsK es e0 - i = m → i ≤ bsK es e0 → ∀ (x : Nat → Value) (h : Heap),In n0 No hS h → Same h1 h → x 0 = v → x 3 = .pointer (some ⟨p, 0, none⟩) → x 5 = .int .i64 i → Q (lK c34_1 66 x h (blockK 0 kk)) := by
  intro m
  have hkl := bsK_le es e0
  obtain ⟨va, vc, rfl⟩ := s.shape
  induction m with
  | zero =>
    intro i e1 e2 x h hin hs Aa Ad Af
    obtain rfl : i = bsK es e0 := by omega
    rw [lK_eq]
    by_cases hil : bsK es e0 < es.length
    · obtain ⟨b, of, hb, hbl, e1, e2⟩ := s.at' (t := 51) (el := 72) (by kernel_rfl) (by kernel_rfl) hil
      obtain ⟨f1, _⟩ := e2 h (hs.2 b hbl)
      have lx : h.loadN p 0 3 = some (entC e0) := (c.same hs).loadN (n := 3) rfl
      obtain ⟨h2, q2, y2⟩ := spec_ahead es[bsK es e0] e0 h
      rw [decide_eq_false (fun k => bsK_geR hil ((cmpE_lt _ _).1 k))] at q2
      simp -implicitDefEqProofs (disch := omega) only [↓c34_1_eq,Aa,Ad,Af, lnRs, dcT, e1, ldR, f1, lx, Option.map_some, entA, q2, ↓cnd_true, ↓cnd_false, ↓Option.bind_some, ↓obH_some', bin_add, bin_sub, bin_mul, bin_lss, bin_leq, bin_gtr, bin_geq, bin_eql, bin_neq, un_not, un_neg, Option.bind_some, Option.bind_none, Option.map_some, cnd_true, cnd_false, pickV_true, pickV_false, gd_true, gd_false, gdV_true, gdV_false, gdH_true, gdH_false, gdS_true, gdS_false, wt_ff, wt_tt, wt_ft, wt_tf, wt_undef, obH_some', extractV_tuple, nilCheckV_ptr, againK_normal, againK_exit, againK_ret, blockK_normal, blockK_same, blockK_ret, seqK_normal, seqK_exit, seqK_ret, fin_done, if_true', if_false', Bool.not_true, Bool.not_false, idx0, idx1, idx2, idx3, idx4, chk_nil_l, chk_nil_r, done_nm, up_cons, up_nil, cond_true, cond_false, Nat.reduceBEq]
      exact hk h2 _ (hin.trans (y2.inn (Nat.le_trans hin.le hin.len))) (hs.trans y2.same) Aa Ad Af
    · simp -implicitDefEqProofs (disch := omega) only [↓c34_1_eq,Aa,Ad,Af, lnRs, dcF, ↓cnd_true, ↓cnd_false, ↓Option.bind_some, ↓obH_some', bin_add, bin_sub, bin_mul, bin_lss, bin_leq, bin_gtr, bin_geq, bin_eql, bin_neq, un_not, un_neg, Option.bind_some, Option.bind_none, Option.map_some, cnd_true, cnd_false, pickV_true, pickV_false, gd_true, gd_false, gdV_true, gdV_false, gdH_true, gdH_false, gdS_true, gdS_false, wt_ff, wt_tt, wt_ft, wt_tf, wt_undef, obH_some', extractV_tuple, nilCheckV_ptr, againK_normal, againK_exit, againK_ret, blockK_normal, blockK_same, blockK_ret, seqK_normal, seqK_exit, seqK_ret, fin_done, if_true', if_false', Bool.not_true, Bool.not_false, idx0, idx1, idx2, idx3, idx4, chk_nil_l, chk_nil_r, done_nm, up_cons, up_nil, cond_true, cond_false, Nat.reduceBEq]
      exact hk h _ hin hs Aa Ad Af
  | succ m ih =>
    intro i hm hi x h hin hs Aa Ad Af
    have hik : i < bsK es e0 := by omega
    have hil : i < es.length := by omega
    rw [lK_eq]
    obtain ⟨b, of, hb, hbl, e1, e2⟩ := s.at' (t := 51) (el := 72) (by kernel_rfl) (by kernel_rfl) hil
    obtain ⟨f1, _⟩ := e2 h (hs.2 b hbl)
    have lx : h.loadN p 0 3 = some (entC e0) := (c.same hs).loadN (n := 3) rfl
    obtain ⟨h2, q2, y2⟩ := spec_ahead es[i] e0 h
    rw [decide_eq_true ((cmpE_lt _ _).2 (bsK_loR i hik hil))] at q2
    have wi : IntKind.i64.wrap ((i : Int) + 1) = ((i + 1 : Nat) : Int) := by rw [wrap_i64] <;> omega
    simp -implicitDefEqProofs (disch := omega) only [↓c34_1_eq,Aa,Ad,Af, lnRs, dcT, e1, ldR, f1, lx, Option.map_some, entA, q2, wi, ↓cnd_true, ↓cnd_false, ↓Option.bind_some, ↓obH_some', bin_add, bin_sub, bin_mul, bin_lss, bin_leq, bin_gtr, bin_geq, bin_eql, bin_neq, un_not, un_neg, Option.bind_some, Option.bind_none, Option.map_some, cnd_true, cnd_false, pickV_true, pickV_false, gd_true, gd_false, gdV_true, gdV_false, gdH_true, gdH_false, gdS_true, gdS_false, wt_ff, wt_tt, wt_ft, wt_tf, wt_undef, obH_some', extractV_tuple, nilCheckV_ptr, againK_normal, againK_exit, againK_ret, blockK_normal, blockK_same, blockK_ret, seqK_normal, seqK_exit, seqK_ret, fin_done, if_true', if_false', Bool.not_true, Bool.not_false, idx0, idx1, idx2, idx3, idx4, chk_nil_l, chk_nil_r, done_nm, up_cons, up_nil, cond_true, cond_false, Nat.reduceBEq]
    exact ih (i + 1) (by omega) (by omega) _ h2 (hin.trans (y2.inn (Nat.le_trans hin.le hin.len))) (hs.trans y2.same) Aa Ad rfl
theorem spec_AddLog {h : Heap} {v : Value} {es : List E3} (s : SE h v es) (hl : es.length < 2 ^ 38) (e0 : E3) : ∃ a c h', evC Try.prog 34 #[v, entV e0] h = some (.slice a (addE es e0).length c, h') ∧ HExt h h' ∧ SE h' (.slice a (addE es e0).length c) (addE es e0) := by
  rw [call34]
  have c1 := Cells.new (nm h) 72 (entC e0)
  have k1 : In h.blks.length No (nm h) ((nm h).new (.cells (entC e0)) 72) := In.new (h := nm h) (Nat.le_refl h.blks.length) _ _
  have s1 : SE ((nm h).new (.cells (entC e0)) 72) v es := s.nm.keepNew _ _
  have bx : boxV Try.prog 72 (entV e0) (nm h) = some (.pointer (some ⟨(nm h).blks.length, 0, none⟩), (nm h).new (.cells (entC e0)) 72) := bxRe _ _ _ _
  generalize hh1 : (nm h).new (.cells (entC e0)) 72 = h1 at *
  generalize hp : (nm h).blks.length = p at *
  obtain ⟨h2, q2,Ac⟩ := spec_GoodLog s1 (by omega)
  have k2 := k1.trans (Ac.inn (Nat.le_trans k1.le k1.len))
  have s2 : SE h2 v es := Sl.same s1 Ac.same
  have c2 := c1.same Ac.same
  obtain ⟨va, vc, rfl⟩ := s.shape
  have lx2 : h2.loadN p 0 3 = some (entC e0) := c2.loadN (n := 3) rfl
  cases hg : goodE es with
  | false =>
    rw [hg] at q2
    have ea : addE es e0 = es := by unfold addE; rw [if_neg (by rw [hg]; intro k; cases k.1)]
    rw [ea]
    refine ⟨va, vc, _, ?_, done_ext' k2, s2.done⟩
    simp -implicitDefEqProofs (disch := omega) only [↓c34_0_eq, bx, q2, ↓ret34, ↓cnd_true, ↓cnd_false, ↓Option.bind_some, ↓obH_some', bin_add, bin_sub, bin_mul, bin_lss, bin_leq, bin_gtr, bin_geq, bin_eql, bin_neq, un_not, un_neg, Option.bind_some, Option.bind_none, Option.map_some, cnd_true, cnd_false, pickV_true, pickV_false, gd_true, gd_false, gdV_true, gdV_false, gdH_true, gdH_false, gdS_true, gdS_false, wt_ff, wt_tt, wt_ft, wt_tf, wt_undef, obH_some', extractV_tuple, nilCheckV_ptr, againK_normal, againK_exit, againK_ret, blockK_normal, blockK_same, blockK_ret, seqK_normal, seqK_exit, seqK_ret, fin_done, if_true', if_false', Bool.not_true, Bool.not_false, idx0, idx1, idx2, idx3, idx4, chk_nil_l, chk_nil_r, done_nm, up_cons, up_nil, cond_true, cond_false, Nat.reduceBEq]
  | true =>
    rw [hg] at q2
    obtain ⟨h3, q3,Ad⟩ := spec_GoodEntry e0 h2
    have k3 := k2.trans (Ad.inn (Nat.le_trans k2.le k2.len))
    have s3 : SE h3 (.slice va es.length vc) es := Sl.same s2 Ad.same
    have c3 := c2.same Ad.same
    cases hm : mayE e0 with
    | false =>
      rw [hm] at q3
      have ea : addE es e0 = es := by unfold addE; rw [if_neg (by rw [hm]; intro k; cases k.2)]
      rw [ea]
      refine ⟨va, vc, _, ?_, done_ext' k3, s3.done⟩
      simp -implicitDefEqProofs (disch := omega) only [↓c34_0_eq, bx, q2, ldR, lx2, Option.map_some, entA, q3, ↓ret34, ↓cnd_true, ↓cnd_false, ↓Option.bind_some, ↓obH_some', bin_add, bin_sub, bin_mul, bin_lss, bin_leq, bin_gtr, bin_geq, bin_eql, bin_neq, un_not, un_neg, Option.bind_some, Option.bind_none, Option.map_some, cnd_true, cnd_false, pickV_true, pickV_false, gd_true, gd_false, gdV_true, gdV_false, gdH_true, gdH_false, gdS_true, gdS_false, wt_ff, wt_tt, wt_ft, wt_tf, wt_undef, obH_some', extractV_tuple, nilCheckV_ptr, againK_normal, againK_exit, againK_ret, blockK_normal, blockK_same, blockK_ret, seqK_normal, seqK_exit, seqK_ret, fin_done, if_true', if_false', Bool.not_true, Bool.not_false, idx0, idx1, idx2, idx3, idx4, chk_nil_l, chk_nil_r, done_nm, up_cons, up_nil, cond_true, cond_false, Nat.reduceBEq]
    | true =>
      rw [hm] at q3
      have hkl := bsK_le es e0
      simp -implicitDefEqProofs (disch := omega) only [↓c34_0_eq, bx, q2, ldR, lx2, Option.map_some, entA, q3, ↓cnd_true, ↓cnd_false, ↓Option.bind_some, ↓obH_some', bin_add, bin_sub, bin_mul, bin_lss, bin_leq, bin_gtr, bin_geq, bin_eql, bin_neq, un_not, un_neg, Option.bind_some, Option.bind_none, Option.map_some, cnd_true, cnd_false, pickV_true, pickV_false, gd_true, gd_false, gdV_true, gdV_false, gdH_true, gdH_false, gdS_true, gdS_false, wt_ff, wt_tt, wt_ft, wt_tf, wt_undef, obH_some', extractV_tuple, nilCheckV_ptr, againK_normal, againK_exit, againK_ret, blockK_normal, blockK_same, blockK_ret, seqK_normal, seqK_exit, seqK_ret, fin_done, if_true', if_false', Bool.not_true, Bool.not_false, idx0, idx1, idx2, idx3, idx4, chk_nil_l, chk_nil_r, done_nm, up_cons, up_nil, cond_true, cond_false, Nat.reduceBEq]
      refine addR_loop (Q := fun r => ∃ a c h', r = some (Value.slice a (addE es e0).length c, h') ∧ HExt h h' ∧ SE h' (.slice a (addE es e0).length c) (addE es e0)) (n0 := h.blks.length) (hS := nm h) (h1 := h3) (p := p) (e0 := e0) s3 hl c3 (fun h4 y hin hs y0 y3 y5 => ?_) (bsK es e0) 0 (by omega) (by omega) _ h3 k3 (Same.refl _) ?_ ?_ ?_
      · have s4 : SE h4 (.slice va es.length vc) es := Sl.same s3 hs
        have c4 := c3.same hs
        have p0 : h4.load1 p 0 = some (.int .i64 e0.f) := c4.load 0
        have p1 : h4.load1 p (0 + 1) = some (.int .u64 e0.n) := c4.load 1
        obtain ⟨ra, rc, r1, r2⟩ := sr_drop s4 hkl .i64
        cases hb : bsF es e0 with
        | true =>
          obtain ⟨hk', b1, b2⟩ := key_bs hb
          have ea : addE es e0 = es.take (bsK es e0) ++ [e0] ++ es.drop (bsK es e0 + 1) := by
            unfold addE
            rw [if_pos ⟨hg, hm⟩, if_pos hb, List.set_eq_take_append_cons_drop, if_pos hk']
            simp
          have dl : 0 < (es.drop (bsK es e0)).length := by rw [List.length_drop]; omega
          obtain ⟨b', of', _, hbl', e1', e2'⟩ := SE.at' r2 (t := 51) (el := 72) (by kernel_rfl) (by kernel_rfl) dl
          obtain ⟨_, f2, f3, _⟩ := e2' h4 rfl
          rw [List.getElem_drop] at f2 f3
          simp only [Nat.add_zero] at f2 f3
          obtain ⟨ra2, rc2, r3, r4⟩ := sr_drop r2 (i := 1) (by omega) .i64
          rw [List.drop_drop] at r3 r4
          obtain ⟨hE, ta, tc, a1, cc1, hF, hG, hH, a2, cc2, a3, cc3, w1, w2, w3, w4, w5, w6, w7, w8, w9, w10⟩ := addR_tail s4 hkl hl c4 r4 (by rw [List.length_drop]; omega)
          rw [ea]
          have i1 := e1' .i64
          refine ⟨a3, cc3, _, ?_, done_ext' (hin.trans (w9 hin.len)), w10.done⟩
          rw [show ((1 : Nat) : Int) = 1 from rfl] at r3
          rw [show ((0 : Nat) : Int) = 0 from rfl] at i1
          simp -implicitDefEqProofs (disch := omega) only [↓c34_2_eq, y0, y3, y5, r1, lnRs, dcT, i1, faRe0, faRe1, ldI, ldU, f2, f3, p0, p1, decide_eq_true b1, r3, w1, w2, w3, ldR, w4, Option.map_some, entA, w5, w6, w7, w8, List.append_nil, ↓ret34, ↓cnd_true, ↓cnd_false, ↓Option.bind_some, ↓obH_some', bin_add, bin_sub, bin_mul, bin_lss, bin_leq, bin_gtr, bin_geq, bin_eql, bin_neq, un_not, un_neg, Option.bind_some, Option.bind_none, Option.map_some, cnd_true, cnd_false, pickV_true, pickV_false, gd_true, gd_false, gdV_true, gdV_false, gdH_true, gdH_false, gdS_true, gdS_false, wt_ff, wt_tt, wt_ft, wt_tf, wt_undef, obH_some', extractV_tuple, nilCheckV_ptr, againK_normal, againK_exit, againK_ret, blockK_normal, blockK_same, blockK_ret, seqK_normal, seqK_exit, seqK_ret, fin_done, if_true', if_false', Bool.not_true, Bool.not_false, idx0, idx1, idx2, idx3, idx4, chk_nil_l, chk_nil_r, done_nm, up_cons, up_nil, cond_true, cond_false, Nat.reduceBEq]
        | false =>
          have ea : addE es e0 = es.take (bsK es e0) ++ [e0] ++ es.drop (bsK es e0) := by
            unfold addE insE
            rw [if_pos ⟨hg, hm⟩, if_neg (by rw [hb]; decide)]
            simp
          obtain ⟨hE, ta, tc, a1, cc1, hF, hG, hH, a2, cc2, a3, cc3, w1, w2, w3, w4, w5, w6, w7, w8, w9, w10⟩ := addR_tail s4 hkl hl c4 r2 (by rw [List.length_drop]; omega)
          rw [ea]
          refine ⟨a3, cc3, _, ?_, done_ext' (hin.trans (w9 hin.len)), w10.done⟩
          by_cases hlt : bsK es e0 < es.length
          · have dl : 0 < (es.drop (bsK es e0)).length := by rw [List.length_drop]; omega
            obtain ⟨b', of', _, hbl', e1', e2'⟩ := SE.at' r2 (t := 51) (el := 72) (by kernel_rfl) (by kernel_rfl) dl
            obtain ⟨_, f2, f3, _⟩ := e2' h4 rfl
            rw [List.getElem_drop] at f2 f3
            simp only [Nat.add_zero] at f2 f3
            have i1 := e1' .i64
            rw [show ((0 : Nat) : Int) = 0 from rfl] at i1
            by_cases hf : es[bsK es e0].f = e0.f
            · have hn : ¬ (es[bsK es e0].n = e0.n) := fun hn => by
                have hs' := ((goodE_iff es).1 hg).2
                have := (key_at hs' hlt hf hn).1
                rw [this] at hb; cases hb
              simp -implicitDefEqProofs (disch := omega) only [↓c34_2_eq, y0, y3, y5, r1, lnRs, dcT, dcF, i1, faRe0, faRe1, ldI, ldU, f2, f3, p0, p1, decide_eq_true hf, w1, w2, w3, ldR, w4, Option.map_some, entA, w5, w6, w7, w8, List.append_nil, ↓ret34, ↓cnd_true, ↓cnd_false, ↓Option.bind_some, ↓obH_some', bin_add, bin_sub, bin_mul, bin_lss, bin_leq, bin_gtr, bin_geq, bin_eql, bin_neq, un_not, un_neg, Option.bind_some, Option.bind_none, Option.map_some, cnd_true, cnd_false, pickV_true, pickV_false, gd_true, gd_false, gdV_true, gdV_false, gdH_true, gdH_false, gdS_true, gdS_false, wt_ff, wt_tt, wt_ft, wt_tf, wt_undef, obH_some', extractV_tuple, nilCheckV_ptr, againK_normal, againK_exit, againK_ret, blockK_normal, blockK_same, blockK_ret, seqK_normal, seqK_exit, seqK_ret, fin_done, if_true', if_false', Bool.not_true, Bool.not_false, idx0, idx1, idx2, idx3, idx4, chk_nil_l, chk_nil_r, done_nm, up_cons, up_nil, cond_true, cond_false, Nat.reduceBEq]
            · simp -implicitDefEqProofs (disch := omega) only [↓c34_2_eq, y0, y3, y5, r1, lnRs, dcT, dcF, i1, faRe0, faRe1, ldI, ldU, f2, f3, p0, p1, decide_eq_false hf, w1, w2, w3, ldR, w4, Option.map_some, entA, w5, w6, w7, w8, List.append_nil, ↓ret34, ↓cnd_true, ↓cnd_false, ↓Option.bind_some, ↓obH_some', bin_add, bin_sub, bin_mul, bin_lss, bin_leq, bin_gtr, bin_geq, bin_eql, bin_neq, un_not, un_neg, Option.bind_some, Option.bind_none, Option.map_some, cnd_true, cnd_false, pickV_true, pickV_false, gd_true, gd_false, gdV_true, gdV_false, gdH_true, gdH_false, gdS_true, gdS_false, wt_ff, wt_tt, wt_ft, wt_tf, wt_undef, obH_some', extractV_tuple, nilCheckV_ptr, againK_normal, againK_exit, againK_ret, blockK_normal, blockK_same, blockK_ret, seqK_normal, seqK_exit, seqK_ret, fin_done, if_true', if_false', Bool.not_true, Bool.not_false, idx0, idx1, idx2, idx3, idx4, chk_nil_l, chk_nil_r, done_nm, up_cons, up_nil, cond_true, cond_false, Nat.reduceBEq]
          · have dl : (es.drop (bsK es e0)).length = 0 := by rw [List.length_drop]; omega
            have dn : decide ((((es.drop (bsK es e0)).length : Nat) : Int) > 0) = false := decide_eq_false (by omega)
            simp -implicitDefEqProofs (disch := omega) only [↓c34_2_eq, y0, y3, y5, r1, lnRs, dn, w1, w2, w3, ldR, w4, Option.map_some, entA, w5, w6, w7, w8, List.append_nil, ↓ret34, ↓cnd_true, ↓cnd_false, ↓Option.bind_some, ↓obH_some', bin_add, bin_sub, bin_mul, bin_lss, bin_leq, bin_gtr, bin_geq, bin_eql, bin_neq, un_not, un_neg, Option.bind_some, Option.bind_none, Option.map_some, cnd_true, cnd_false, pickV_true, pickV_false, gd_true, gd_false, gdV_true, gdV_false, gdH_true, gdH_false, gdS_true, gdS_false, wt_ff, wt_tt, wt_ft, wt_tf, wt_undef, obH_some', extractV_tuple, nilCheckV_ptr, againK_normal, againK_exit, againK_ret, blockK_normal, blockK_same, blockK_ret, seqK_normal, seqK_exit, seqK_ret, fin_done, if_true', if_false', Bool.not_true, Bool.not_false, idx0, idx1, idx2, idx3, idx4, chk_nil_l, chk_nil_r, done_nm, up_cons, up_nil, cond_true, cond_false, Nat.reduceBEq]
      · rfl
      · rfl
      · rfl
end Go.Am
namespace Go.Am
open Go.Proofs
set_option maxRecDepth 100000
set_option linter.all false
attribute [local congr] obind_congr obH_congr cnd_congr chk_congr retK_congr codeK_congr
theorem addE_lenR (es : List E3) (x : E3) : (addE es x).length ≤ es.length + 1 := by
  unfold addE
  split
  · split
    · rw [List.length_set]; omega
    · unfold insE; rw [List.length_append, List.length_cons, List.length_take, List.length_drop]; omega
  · omega
theorem fold_lenR : ∀ (L r : List E3), (L.foldl addE r).length ≤ r.length + L.length
  | [], r => by simp
  | x :: L, r => by
    have a := fold_lenR L (addE r x)
    have b := addE_lenR r x
    simp only [List.foldl_cons, List.length_cons]
    omega
def rA (own heard : List E3) (i : Nat) : List E3 := ((own.take i).filterMap (gA heard)).foldl addE []
theorem rA_len (own heard : List E3) (i : Nat) (hi : i ≤ own.length) : (rA own heard i).length ≤ i := by
  have a := fold_lenR ((own.take i).filterMap (gA heard)) []
  have b := List.length_filterMap_le (gA heard) (own.take i)
  rw [List.length_take] at b
  unfold rA
  simp only [List.length_nil] at a
  omega
theorem rA_some {own heard : List E3} {i : Nat} (hi : i < own.length) {e : E3} (h : gA heard own[i] = some e) : rA own heard (i + 1) = addE (rA own heard i) e := by
  unfold rA
  rw [List.take_succ, List.getElem?_eq_getElem hi, Option.toList_some, List.filterMap_append, List.foldl_append]
  simp [h]
theorem rA_none {own heard : List E3} {i : Nat} (hi : i < own.length) (h : gA heard own[i] = none) : rA own heard (i + 1) = rA own heard i := by
  unfold rA
  rw [List.take_succ, List.getElem?_eq_getElem hi, Option.toList_some, List.filterMap_append, List.foldl_append]
  simp [h]
def rB (own heard : List E3) (j : Nat) : List E3 := ((heard.take j).filter (gB own)).foldl addE (rA own heard own.length)
theorem rB_len (own heard : List E3) (j : Nat) (hj : j ≤ heard.length) : (rB own heard j).length ≤ own.length + j := by
  have a := fold_lenR ((heard.take j).filter (gB own)) (rA own heard own.length)
  have b := List.length_filter_le (gB own) (heard.take j)
  have c := rA_len own heard own.length (Nat.le_refl _)
  rw [List.length_take] at b
  unfold rB
  omega
theorem rB_some {own heard : List E3} {j : Nat} (hj : j < heard.length) (h : gB own heard[j] = true) : rB own heard (j + 1) = addE (rB own heard j) heard[j] := by
  unfold rB
  rw [List.take_succ, List.getElem?_eq_getElem hj, Option.toList_some, List.filter_append, List.foldl_append]
  simp [h]
theorem rB_none {own heard : List E3} {j : Nat} (hj : j < heard.length) (h : gB own heard[j] = false) : rB own heard (j + 1) = rB own heard j := by
  unfold rB
  rw [List.take_succ, List.getElem?_eq_getElem hj, Option.toList_some, List.filter_append, List.foldl_append]
  simp [h]
theorem rB_all (own heard : List E3) : rB own heard heard.length = joinR own heard := by
  unfold rB rA joinR
  rw [List.take_length, List.take_length]
theorem findI_yes {l : List E3} {x : E3} (h : bsF l x = true) : findI l x l.length = (bsK l x : Nat) := by
  obtain ⟨hk, _⟩ := key_bs h
  unfold findI
  rw [if_pos ⟨h, hk⟩]
theorem findI_no {l : List E3} {x : E3} (h : bsF l x = false) : findI l x l.length = -1 := by
  unfold findI
  rw [if_neg (by rw [h]; intro k; cases k.1)]
theorem joinA_loop {β : Type} {Q : Option β → Prop} {kk : Ex → St → Option β} {n0 : Nat} {hS h1 : Heap} {va vb : Value} {own heard : List E3} (s : SE h1 va own) (s2 : SE h1 vb heard) (hs2 : Srt heard) (w : wide own) (w2 : wide heard) (hl : own.length < 2 ^ 36) (hl2 : heard.length < 2 ^ 36)
    (hk : ∀ (h : Heap) (y : Nat → Value) (a : Option Addr) (c : Nat),In n0 No hS h → Same h1 h → SE h (.slice a (rA own heard own.length).length c) (rA own heard own.length) → y 0 = va → y 1 = vb → y 5 = .slice a (rA own heard own.length).length c → Q (kk .normal ⟨ar 98 y, h⟩)) :
    ∀ (m i : Nat), own.length - i = m → i ≤ own.length → ∀ (x : Nat → Value) (h : Heap) (a : Option Addr) (c : Nat),In n0 No hS h → Same h1 h → SE h (.slice a (rA own heard i).length c) (rA own heard i) → x 0 = va → x 1 = vb → x 5 = .slice a (rA own heard i).length c → x 6 = .int .i64 i →
    Q (lK c38_1 98 x h (blockK 0 kk)) := by
  intro m
  obtain ⟨a1, c1, rfl⟩ := s.shape
  obtain ⟨a2, c2, rfl⟩ := s2.shape
  induction m with
  | zero =>
    intro i e1 e2 x h a c hin hs sr Aa Ab Af Ag
    obtain rfl : i = own.length := by omega
    rw [lK_eq]
    simp -implicitDefEqProofs (disch := omega) only [↓c38_1_eq,Aa,Ab,Af,Ag, lnRs, dcF, ↓cnd_true, ↓cnd_false, ↓Option.bind_some, ↓obH_some', bin_add, bin_sub, bin_mul, bin_lss, bin_leq, bin_gtr, bin_geq, bin_eql, bin_neq, un_not, un_neg, Option.bind_some, Option.bind_none, Option.map_some, cnd_true, cnd_false, pickV_true, pickV_false, gd_true, gd_false, gdV_true, gdV_false, gdH_true, gdH_false, gdS_true, gdS_false, wt_ff, wt_tt, wt_ft, wt_tf, wt_undef, obH_some', extractV_tuple, nilCheckV_ptr, againK_normal, againK_exit, againK_ret, blockK_normal, blockK_same, blockK_ret, seqK_normal, seqK_exit, seqK_ret, fin_done, if_true', if_false', Bool.not_true, Bool.not_false, idx0, idx1, idx2, idx3, idx4, chk_nil_l, chk_nil_r, done_nm, up_cons, up_nil, cond_true, cond_false, Nat.reduceBEq]
    exact hk h _ a c hin hs sr Aa Ab Af
  | succ m ih =>
    intro i hm hi x h a c hin hs sr Aa Ab Af Ag
    have hil : i < own.length := by omega
    rw [lK_eq]
    obtain ⟨b, of, hb, hbl, e1, e2⟩ := s.at' (t := 51) (el := 72) (by kernel_rfl) (by kernel_rfl) hil
    obtain ⟨f1, _⟩ := e2 h (hs.2 b hbl)
    have wi : IntKind.i64.wrap ((i : Int) + 1) = ((i + 1 : Nat) : Int) := by rw [wrap_i64] <;> omega
    have rl := rA_len own heard i hi
    obtain ⟨h2, q2, y2⟩ := spec_find (Sl.same s2 hs) hs2 (by omega) own[i]
    have hs2' := hs.trans y2.same
    have in2 := hin.trans (y2.inn (Nat.le_trans hin.le hin.len))
    obtain ⟨g0, g1, g2, g3⟩ := e2 h2 (hs2'.2 b hbl)
    have sr2 := Sl.same sr y2.same
    cases hbs : bsF heard own[i] with
    | true =>
      obtain ⟨hk', _, _⟩ := key_bs hbs
      rw [findI_yes hbs] at q2
      obtain ⟨b', of', hb', hbl', e1', e2'⟩ := s2.at' (t := 51) (el := 72) (by kernel_rfl) (by kernel_rfl) hk'
      obtain ⟨_, _, _, g4⟩ := e2' h2 (hs2'.2 b' hbl')
      have an := fun t xo yo => anU t xo yo own[i].t heard[bsK heard own[i]].t (w _ (List.getElem_mem hil)).2 (w2 _ (List.getElem_mem hk')).2
      have hga : gA heard own[i] = some { own[i] with t := own[i].t &&& heard[bsK heard own[i]].t } := by
        unfold gA bothF
        rw [if_pos hbs, if_pos hbs, List.getD_eq_getElem?_getD, List.getElem?_eq_getElem hk']
        rfl
      have er := rA_some hil hga
      obtain ⟨a3, c3, h3, q3, y3, s3⟩ := spec_AddLog sr2 (by omega) { own[i] with t := own[i].t &&& heard[bsK heard own[i]].t }
      rw [← er] at q3 s3
      have q3' : evC Try.prog 34 #[.slice a (rA own heard i).length c, .agg #[.int .i64 own[i].f, .int .u64 (own[i].n : Nat), .int .u64 ((own[i].t &&& heard[bsK heard own[i]].t : Nat) : Int)]] h2 = some (.slice a3 (rA own heard (i + 1)).length c3, h3) := q3
      have bd := bdR3 own[i].f (own[i].n : Nat) ((own[i].t &&& heard[bsK heard own[i]].t : Nat) : Int)
      simp -implicitDefEqProofs (disch := omega) only [↓c38_1_eq,Aa,Ab,Af,Ag, lnRs, dcT, e1, ldR, f1, Option.map_some, entA, q2, faRe0, faRe1, faRe2, ldI, ldU, g1, g2, g3, e1', g4, an, bd, q3', wi, ↓cnd_true, ↓cnd_false, ↓Option.bind_some, ↓obH_some', bin_add, bin_sub, bin_mul, bin_lss, bin_leq, bin_gtr, bin_geq, bin_eql, bin_neq, un_not, un_neg, Option.bind_some, Option.bind_none, Option.map_some, cnd_true, cnd_false, pickV_true, pickV_false, gd_true, gd_false, gdV_true, gdV_false, gdH_true, gdH_false, gdS_true, gdS_false, wt_ff, wt_tt, wt_ft, wt_tf, wt_undef, obH_some', extractV_tuple, nilCheckV_ptr, againK_normal, againK_exit, againK_ret, blockK_normal, blockK_same, blockK_ret, seqK_normal, seqK_exit, seqK_ret, fin_done, if_true', if_false', Bool.not_true, Bool.not_false, idx0, idx1, idx2, idx3, idx4, chk_nil_l, chk_nil_r, done_nm, up_cons, up_nil, cond_true, cond_false, Nat.reduceBEq]
      exact ih (i + 1) (by omega) (by omega) _ h3 a3 c3 (in2.trans (y3.inn (Nat.le_trans in2.le in2.len))) (hs2'.trans y3.same) s3 Aa Ab rfl rfl
    | false =>
      rw [findI_no hbs] at q2
      cases hmo : moreF heard own[i] with
      | true =>
        rw [hmo] at q2
        have er := rA_none hil (show gA heard own[i] = none by unfold gA; rw [if_neg (by rw [hbs]; decide), if_pos hmo])
        rw [← er] at sr2 Af
        simp -implicitDefEqProofs (disch := omega) only [↓c38_1_eq,Aa,Ab,Ag, lnRs, dcT, dcF, e1, ldR, f1, Option.map_some, entA, q2, wi, ↓cnd_true, ↓cnd_false, ↓Option.bind_some, ↓obH_some', bin_add, bin_sub, bin_mul, bin_lss, bin_leq, bin_gtr, bin_geq, bin_eql, bin_neq, un_not, un_neg, Option.bind_some, Option.bind_none, Option.map_some, cnd_true, cnd_false, pickV_true, pickV_false, gd_true, gd_false, gdV_true, gdV_false, gdH_true, gdH_false, gdS_true, gdS_false, wt_ff, wt_tt, wt_ft, wt_tf, wt_undef, obH_some', extractV_tuple, nilCheckV_ptr, againK_normal, againK_exit, againK_ret, blockK_normal, blockK_same, blockK_ret, seqK_normal, seqK_exit, seqK_ret, fin_done, if_true', if_false', Bool.not_true, Bool.not_false, idx0, idx1, idx2, idx3, idx4, chk_nil_l, chk_nil_r, done_nm, up_cons, up_nil, cond_true, cond_false, Nat.reduceBEq]
        exact ih (i + 1) (by omega) (by omega) _ h2 a c in2 hs2' sr2 Aa Ab Af rfl
      | false =>
        rw [hmo] at q2
        have er := rA_some hil (show gA heard own[i] = some own[i] by unfold gA; rw [if_neg (by rw [hbs]; decide), if_neg (by rw [hmo]; decide)])
        obtain ⟨a3, c3, h3, q3, y3, s3⟩ := spec_AddLog sr2 (by omega) own[i]
        rw [← er] at q3 s3
        simp -implicitDefEqProofs (disch := omega) only [↓c38_1_eq,Aa,Ab,Af,Ag, lnRs, dcT, dcF, e1, ldR, f1, g0, Option.map_some, entA, q2, q3, wi, ↓cnd_true, ↓cnd_false, ↓Option.bind_some, ↓obH_some', bin_add, bin_sub, bin_mul, bin_lss, bin_leq, bin_gtr, bin_geq, bin_eql, bin_neq, un_not, un_neg, Option.bind_some, Option.bind_none, Option.map_some, cnd_true, cnd_false, pickV_true, pickV_false, gd_true, gd_false, gdV_true, gdV_false, gdH_true, gdH_false, gdS_true, gdS_false, wt_ff, wt_tt, wt_ft, wt_tf, wt_undef, obH_some', extractV_tuple, nilCheckV_ptr, againK_normal, againK_exit, againK_ret, blockK_normal, blockK_same, blockK_ret, seqK_normal, seqK_exit, seqK_ret, fin_done, if_true', if_false', Bool.not_true, Bool.not_false, idx0, idx1, idx2, idx3, idx4, chk_nil_l, chk_nil_r, done_nm, up_cons, up_nil, cond_true, cond_false, Nat.reduceBEq]
        exact ih (i + 1) (by omega) (by omega) _ h3 a3 c3 (in2.trans (y3.inn (Nat.le_trans in2.le in2.len))) (hs2'.trans y3.same) s3 Aa Ab rfl rfl
theorem joinB_loop {h0 h1 : Heap} {va vb : Value} {own heard : List E3} (s : SE h1 va own) (s2 : SE h1 vb heard) (hs1 : Srt own) (hl : own.length < 2 ^ 36) (hl2 : heard.length < 2 ^ 36) :
    ∀ (m j : Nat), heard.length - j = m → j ≤ heard.length → ∀ (x : Nat → Value) (h : Heap) (a : Option Addr) (c : Nat),In h0.blks.length No (nm h0) h → Same h1 h → SE h (.slice a (rB own heard j).length c) (rB own heard j) → x 0 = va → x 1 = vb → x 5 = .slice a (rB own heard j).length c → x 9 = .int .i64 j →
    ∃ a' c' h', lK c38_3 98 x h (blockK 2 (sK c38_4 (retK Try.f38 Try.prog h0))) = some (.slice a' (rB own heard heard.length).length c', done h0 h') ∧ In h0.blks.length No (nm h0) h' ∧ SE h' (.slice a' (rB own heard heard.length).length c') (rB own heard heard.length) := by
  intro m
  obtain ⟨a1, c1, rfl⟩ := s.shape
  obtain ⟨a2, c2, rfl⟩ := s2.shape
  induction m with
  | zero =>
    intro j e1 e2 x h a c hin hs sr Aa Ab Af Aj
    obtain rfl : j = heard.length := by omega
    rw [lK_eq]
    refine ⟨a, c, h, ?_, hin, sr⟩
    simp -implicitDefEqProofs (disch := omega) only [↓c38_3_eq, ↓c38_4_eq,Aa,Ab,Af,Aj, lnRs, dcF, ↓ret38, ↓cnd_true, ↓cnd_false, ↓Option.bind_some, ↓obH_some', bin_add, bin_sub, bin_mul, bin_lss, bin_leq, bin_gtr, bin_geq, bin_eql, bin_neq, un_not, un_neg, Option.bind_some, Option.bind_none, Option.map_some, cnd_true, cnd_false, pickV_true, pickV_false, gd_true, gd_false, gdV_true, gdV_false, gdH_true, gdH_false, gdS_true, gdS_false, wt_ff, wt_tt, wt_ft, wt_tf, wt_undef, obH_some', extractV_tuple, nilCheckV_ptr, againK_normal, againK_exit, againK_ret, blockK_normal, blockK_same, blockK_ret, seqK_normal, seqK_exit, seqK_ret, fin_done, if_true', if_false', Bool.not_true, Bool.not_false, idx0, idx1, idx2, idx3, idx4, chk_nil_l, chk_nil_r, done_nm, up_cons, up_nil, cond_true, cond_false, Nat.reduceBEq]
  | succ m ih =>
    intro j hm hj x h a c hin hs sr Aa Ab Af Aj
    have hjl : j < heard.length := by omega
    rw [lK_eq]
    obtain ⟨b, of, hb, hbl, e1, e2⟩ := s2.at' (t := 51) (el := 72) (by kernel_rfl) (by kernel_rfl) hjl
    obtain ⟨f1, _⟩ := e2 h (hs.2 b hbl)
    have wj : IntKind.i64.wrap ((j : Int) + 1) = ((j + 1 : Nat) : Int) := by rw [wrap_i64] <;> omega
    have rl := rB_len own heard j hj
    obtain ⟨h2, q2, y2⟩ := spec_find (Sl.same s hs) hs1 (by omega) heard[j]
    have hs2' := hs.trans y2.same
    have in2 := hin.trans (y2.inn (Nat.le_trans hin.le hin.len))
    obtain ⟨g0, _⟩ := e2 h2 (hs2'.2 b hbl)
    have sr2 := Sl.same sr y2.same
    cases hbs : bsF own heard[j] with
    | true =>
      rw [findI_yes hbs] at q2
      have er := rB_none hjl (show gB own heard[j] = false by unfold gB; rw [hbs]; rfl)
      rw [← er] at sr2 Af
      simp -implicitDefEqProofs (disch := omega) only [↓c38_3_eq,Aa,Ab,Aj, lnRs, dcT, dcF, e1, ldR, f1, Option.map_some, entA, q2, wj, ↓cnd_true, ↓cnd_false, ↓Option.bind_some, ↓obH_some', bin_add, bin_sub, bin_mul, bin_lss, bin_leq, bin_gtr, bin_geq, bin_eql, bin_neq, un_not, un_neg, Option.bind_some, Option.bind_none, Option.map_some, cnd_true, cnd_false, pickV_true, pickV_false, gd_true, gd_false, gdV_true, gdV_false, gdH_true, gdH_false, gdS_true, gdS_false, wt_ff, wt_tt, wt_ft, wt_tf, wt_undef, obH_some', extractV_tuple, nilCheckV_ptr, againK_normal, againK_exit, againK_ret, blockK_normal, blockK_same, blockK_ret, seqK_normal, seqK_exit, seqK_ret, fin_done, if_true', if_false', Bool.not_true, Bool.not_false, idx0, idx1, idx2, idx3, idx4, chk_nil_l, chk_nil_r, done_nm, up_cons, up_nil, cond_true, cond_false, Nat.reduceBEq]
      exact ih (j + 1) (by omega) (by omega) _ h2 a c in2 hs2' sr2 Aa Ab Af rfl
    | false =>
      rw [findI_no hbs] at q2
      cases hmo : moreF own heard[j] with
      | true =>
        rw [hmo] at q2
        have er := rB_none hjl (show gB own heard[j] = false by unfold gB; rw [hbs, hmo]; rfl)
        rw [← er] at sr2 Af
        simp -implicitDefEqProofs (disch := omega) only [↓c38_3_eq,Aa,Ab,Aj, lnRs, dcT, dcF, e1, ldR, f1, Option.map_some, entA, q2, wj, ↓cnd_true, ↓cnd_false, ↓Option.bind_some, ↓obH_some', bin_add, bin_sub, bin_mul, bin_lss, bin_leq, bin_gtr, bin_geq, bin_eql, bin_neq, un_not, un_neg, Option.bind_some, Option.bind_none, Option.map_some, cnd_true, cnd_false, pickV_true, pickV_false, gd_true, gd_false, gdV_true, gdV_false, gdH_true, gdH_false, gdS_true, gdS_false, wt_ff, wt_tt, wt_ft, wt_tf, wt_undef, obH_some', extractV_tuple, nilCheckV_ptr, againK_normal, againK_exit, againK_ret, blockK_normal, blockK_same, blockK_ret, seqK_normal, seqK_exit, seqK_ret, fin_done, if_true', if_false', Bool.not_true, Bool.not_false, idx0, idx1, idx2, idx3, idx4, chk_nil_l, chk_nil_r, done_nm, up_cons, up_nil, cond_true, cond_false, Nat.reduceBEq]
        exact ih (j + 1) (by omega) (by omega) _ h2 a c in2 hs2' sr2 Aa Ab Af rfl
      | false =>
        rw [hmo] at q2
        have er := rB_some hjl (show gB own heard[j] = true by unfold gB; rw [hbs, hmo]; rfl)
        obtain ⟨a3, c3, h3, q3, y3, s3⟩ := spec_AddLog sr2 (by omega) heard[j]
        rw [← er] at q3 s3
        simp -implicitDefEqProofs (disch := omega) only [↓c38_3_eq,Aa,Ab,Af,Aj, lnRs, dcT, dcF, e1, ldR, f1, g0, Option.map_some, entA, q2, q3, wj, ↓cnd_true, ↓cnd_false, ↓Option.bind_some, ↓obH_some', bin_add, bin_sub, bin_mul, bin_lss, bin_leq, bin_gtr, bin_geq, bin_eql, bin_neq, un_not, un_neg, Option.bind_some, Option.bind_none, Option.map_some, cnd_true, cnd_false, pickV_true, pickV_false, gd_true, gd_false, gdV_true, gdV_false, gdH_true, gdH_false, gdS_true, gdS_false, wt_ff, wt_tt, wt_ft, wt_tf, wt_undef, obH_some', extractV_tuple, nilCheckV_ptr, againK_normal, againK_exit, againK_ret, blockK_normal, blockK_same, blockK_ret, seqK_normal, seqK_exit, seqK_ret, fin_done, if_true', if_false', Bool.not_true, Bool.not_false, idx0, idx1, idx2, idx3, idx4, chk_nil_l, chk_nil_r, done_nm, up_cons, up_nil, cond_true, cond_false, Nat.reduceBEq]
        exact ih (j + 1) (by omega) (by omega) _ h3 a3 c3 (in2.trans (y3.inn (Nat.le_trans in2.le in2.len))) (hs2'.trans y3.same) s3 Aa Ab rfl rfl
theorem spec_JoinLog {h : Heap} {va vb : Value} {own heard : List E3} (s : SE h va own) (s2 : SE h vb heard) (w : wide own) (w2 : wide heard) (hl : own.length < 2 ^ 36) (hl2 : heard.length < 2 ^ 36) : ∃ a c h', evC Try.prog 38 #[va, vb] h = some (.slice a (joinE own heard).length c, h') ∧ HExt h h' ∧ SE h' (.slice a (joinE own heard).length c) (joinE own heard) := by
  rw [call38]
  obtain ⟨h2, q2,Ac⟩ := spec_GoodLog s.nm (by omega)
  have k2 : In h.blks.length No (nm h) h2 := Ac.inn (Nat.le_refl h.blks.length)
  have sa : SE h2 va own := Sl.same s.nm Ac.same
  have sb : SE h2 vb heard := Sl.same s2.nm Ac.same
  obtain ⟨a1, c1, rfl⟩ := s.shape
  obtain ⟨a2, c2, rfl⟩ := s2.shape
  cases hg : goodE own with
  | false =>
    rw [hg] at q2
    have ej : joinE own heard = own := by unfold joinE; rw [if_neg (by rw [hg]; intro k; cases k.1)]
    rw [ej]
    refine ⟨a1, c1, _, ?_, done_ext' k2, sa.done⟩
    simp -implicitDefEqProofs (disch := omega) only [↓c38_0_eq, q2, ↓ret38, ↓cnd_true, ↓cnd_false, ↓Option.bind_some, ↓obH_some', bin_add, bin_sub, bin_mul, bin_lss, bin_leq, bin_gtr, bin_geq, bin_eql, bin_neq, un_not, un_neg, Option.bind_some, Option.bind_none, Option.map_some, cnd_true, cnd_false, pickV_true, pickV_false, gd_true, gd_false, gdV_true, gdV_false, gdH_true, gdH_false, gdS_true, gdS_false, wt_ff, wt_tt, wt_ft, wt_tf, wt_undef, obH_some', extractV_tuple, nilCheckV_ptr, againK_normal, againK_exit, againK_ret, blockK_normal, blockK_same, blockK_ret, seqK_normal, seqK_exit, seqK_ret, fin_done, if_true', if_false', Bool.not_true, Bool.not_false, idx0, idx1, idx2, idx3, idx4, chk_nil_l, chk_nil_r, done_nm, up_cons, up_nil, cond_true, cond_false, Nat.reduceBEq]
  | true =>
    rw [hg] at q2
    obtain ⟨h3, q3,Ad⟩ := spec_GoodLog sb (by omega)
    have k3 := k2.trans (Ad.inn (Nat.le_trans k2.le k2.len))
    have sa3 := Sl.same sa Ad.same
    have sb3 := Sl.same sb Ad.same
    cases hg2 : goodE heard with
    | false =>
      rw [hg2] at q3
      have ej : joinE own heard = own := by unfold joinE; rw [if_neg (by rw [hg2]; intro k; cases k.2)]
      rw [ej]
      refine ⟨a1, c1, _, ?_, done_ext' k3, sa3.done⟩
      simp -implicitDefEqProofs (disch := omega) only [↓c38_0_eq, q2, q3, ↓ret38, ↓cnd_true, ↓cnd_false, ↓Option.bind_some, ↓obH_some', bin_add, bin_sub, bin_mul, bin_lss, bin_leq, bin_gtr, bin_geq, bin_eql, bin_neq, un_not, un_neg, Option.bind_some, Option.bind_none, Option.map_some, cnd_true, cnd_false, pickV_true, pickV_false, gd_true, gd_false, gdV_true, gdV_false, gdH_true, gdH_false, gdS_true, gdS_false, wt_ff, wt_tt, wt_ft, wt_tf, wt_undef, obH_some', extractV_tuple, nilCheckV_ptr, againK_normal, againK_exit, againK_ret, blockK_normal, blockK_same, blockK_ret, seqK_normal, seqK_exit, seqK_ret, fin_done, if_true', if_false', Bool.not_true, Bool.not_false, idx0, idx1, idx2, idx3, idx4, chk_nil_l, chk_nil_r, done_nm, up_cons, up_nil, cond_true, cond_false, Nat.reduceBEq]
    | true =>
      rw [hg2] at q3
      have t1 := ((goodE_iff own).1 hg).2
      have t2 := ((goodE_iff heard).1 hg2).2
      have ej : rB own heard heard.length = joinE own heard := (rB_all own heard).trans (joinR_eq hg hg2)
      simp -implicitDefEqProofs (disch := omega) only [↓c38_0_eq, q2, q3, ↓cnd_true, ↓cnd_false, ↓Option.bind_some, ↓obH_some', bin_add, bin_sub, bin_mul, bin_lss, bin_leq, bin_gtr, bin_geq, bin_eql, bin_neq, un_not, un_neg, Option.bind_some, Option.bind_none, Option.map_some, cnd_true, cnd_false, pickV_true, pickV_false, gd_true, gd_false, gdV_true, gdV_false, gdH_true, gdH_false, gdS_true, gdS_false, wt_ff, wt_tt, wt_ft, wt_tf, wt_undef, obH_some', extractV_tuple, nilCheckV_ptr, againK_normal, againK_exit, againK_ret, blockK_normal, blockK_same, blockK_ret, seqK_normal, seqK_exit, seqK_ret, fin_done, if_true', if_false', Bool.not_true, Bool.not_false, idx0, idx1, idx2, idx3, idx4, chk_nil_l, chk_nil_r, done_nm, up_cons, up_nil, cond_true, cond_false, Nat.reduceBEq]
      refine joinA_loop (Q := fun r => ∃ a c h', r = some (Value.slice a (joinE own heard).length c, h') ∧ HExt h h' ∧ SE h' (.slice a (joinE own heard).length c) (joinE own heard)) (n0 := h.blks.length) (hS := nm h) sa3 sb3 t2 w w2 hl hl2 (fun h4 y a c hin hs sr y0 y1 y5 => ?_) own.length 0 (by omega) (by omega) _ h3 none 0 k3 (Same.refl _) (SE.nil _) ?_ ?_ ?_ ?_
      · have lp := joinB_loop (h0 := h) (Sl.same sa3 hs) (Sl.same sb3 hs) t1 hl hl2 heard.length 0 (by omega) (by omega)
        have fin' : ∀ {r : Option (Value × Heap)}, (∃ a c h', r = some (.slice a (rB own heard heard.length).length c, done h h') ∧ In h.blks.length No (nm h) h' ∧ SE h' (.slice a (rB own heard heard.length).length c) (rB own heard heard.length)) → ∃ a c h', r = some (Value.slice a (joinE own heard).length c, h') ∧ HExt h h' ∧ SE h' (.slice a (joinE own heard).length c) (joinE own heard) := fun ⟨a, c, h', q1, q2, q3⟩ => by
          rw [ej] at q1 q3
          exact ⟨a, c, _, q1, done_ext' q2, q3.done⟩
        simp -implicitDefEqProofs (disch := omega) only [↓c38_2_eq, ↓cnd_true, ↓cnd_false, ↓Option.bind_some, ↓obH_some', bin_add, bin_sub, bin_mul, bin_lss, bin_leq, bin_gtr, bin_geq, bin_eql, bin_neq, un_not, un_neg, Option.bind_some, Option.bind_none, Option.map_some, cnd_true, cnd_false, pickV_true, pickV_false, gd_true, gd_false, gdV_true, gdV_false, gdH_true, gdH_false, gdS_true, gdS_false, wt_ff, wt_tt, wt_ft, wt_tf, wt_undef, obH_some', extractV_tuple, nilCheckV_ptr, againK_normal, againK_exit, againK_ret, blockK_normal, blockK_same, blockK_ret, seqK_normal, seqK_exit, seqK_ret, fin_done, if_true', if_false', Bool.not_true, Bool.not_false, idx0, idx1, idx2, idx3, idx4, chk_nil_l, chk_nil_r, done_nm, up_cons, up_nil, cond_true, cond_false, Nat.reduceBEq]
        exact fin' (lp _ h4 a c hin (Same.refl _) sr y0 y1 y5 rfl)
      all_goals rfl
end Go.Am
namespace Go.Am
open Go.Proofs
set_option maxRecDepth 100000
set_option linter.all false
attribute [local congr] obind_congr obH_congr cnd_congr chk_congr retK_congr codeK_congr
theorem spec_InsertEnd {n0 : Nat} {h : Heap} {a : Option Addr} {c : Nat} {es : List E3} (hn : n0 ≤ h.blks.length) (ha : AE n0 h (.slice a es.length c) es) (x : E3) (hl : es.length < 2 ^ 38) :
    ∃ a' c' h', evC Try.prog 63 #[.slice a es.length c, .int .i64 es.length, .slice (some ⟨h.blks.length, 0, none⟩) 1 1] (h.new (.cells (entC x)) 57) = some (.slice a' (es ++ [x]).length c', h') ∧
      AE n0 h' (.slice a' (es ++ [x]).length c') (es ++ [x]) ∧ Keeps n0 h h' ∧ (∀ q, q < h.blks.length → blockOf (.slice a es.length c) ≠ some q → h'.blks[q]? = h.blks[q]?) := by
  obtain ⟨a', c', h', g1, g2, g3, g4⟩ := app_ent etE (n0 := n0) (h := h) hn ha x (by omega)
  refine ⟨a', c', h', ?_, g2, g3, g4⟩
  rw [evC_ext xt_ins]
  unfold insX
  simp only []
  rw [if_pos trivial, if_pos (by omega)]
  exact g1
theorem insOk_end {es : List E3} {x : E3} (hk : bsK es x = es.length) (hl : es.length < 2 ^ 38) : InsOk es x := fun _ _ _ n0 h a c hn ha => by
  have hi : insE es x = es ++ [x] := by unfold insE; rw [hk, List.take_length, List.drop_length]
  rw [hi, hk]
  exact spec_InsertEnd hn ha x hl
theorem bsK_leM (es : List E3) (t : E3) : bsK es t ≤ es.length := List.Sublist.length_le (List.takeWhile_sublist _)
theorem entL_takeM : ∀ (es : List E3) (i : Nat), (entL es).take (i * 3) = entL (es.take i)
  | [], i => by simp [entL]
  | e :: es, 0 => rfl
  | e :: es, i + 1 => by
    rw [show (i + 1) * 3 = (i * 3) + 1 + 1 + 1 by omega]
    simp only [entL, List.take_succ_cons]
    rw [entL_takeM es i]
theorem entL_dropM : ∀ (es : List E3) (i : Nat), (entL es).drop (i * 3) = entL (es.drop i)
  | [], i => by simp [entL]
  | e :: es, 0 => rfl
  | e :: es, i + 1 => by
    rw [show (i + 1) * 3 = (i * 3) + 1 + 1 + 1 by omega]
    simp only [entL, List.drop_succ_cons]
    exact entL_dropM es i
theorem AE.blkM {n0 : Nat} {h : Heap} {a : Option Addr} {c : Nat} {es : List E3} (ha : AE n0 h (.slice a es.length c) es) (h0 : 0 < es.length) :
    ∃ b o all, a = some ⟨b, o, none⟩ ∧ n0 ≤ b ∧ h.blks[b]? = some ⟨.cells all, 57, true⟩ ∧ o + es.length * 3 ≤ all.length ∧ (all.drop o).take (es.length * 3) = entL es ∧ (c = UNK ∨ c = es.length) := by
  have key : ∀ {v : Value} {n : Nat} {cs : List Value}, Acc n0 h 57 3 v n cs → 0 < n → v = .slice a n c → ∃ b o all, a = some ⟨b, o, none⟩ ∧ n0 ≤ b ∧ h.blks[b]? = some ⟨.cells all, 57, true⟩ ∧ o + n * 3 ≤ all.length ∧ (all.drop o).take (n * 3) = cs ∧ (c = UNK ∨ c = n) := by
    intro v n cs x hn hv
    cases x with
    | nil => omega
    | full h1 h2 h3 h4 h5 => injection hv with e1 e2 e3; subst e1; exact ⟨_, _, _, rfl, h1, h3, h4, h5, .inr e3.symm⟩
    | unk h1 h2 h3 h4 => injection hv with e1 e2 e3; subst e1; exact ⟨_, _, _, rfl, h1, h2, h3, h4, .inl e3.symm⟩
  exact key ha h0 rfl
theorem insOk_all {es : List E3} {x : E3} (hl : es.length < 2 ^ 38) : InsOk es x := by
  by_cases hk : bsK es x = es.length
  · exact insOk_end hk hl
  intro hg hm hb n0 h a c hn ha
  have hlt : bsK es x < es.length := by have := bsK_leM es x; omega
  obtain ⟨b, o, all, rfl, hb0, hbk, hle, he, hc⟩ := AE.blkM ha (by omega)
  have hbl : b < h.blks.length := (List.getElem?_eq_some_iff.1 hbk).1
  have hk1 : (h.new (.cells (entC x)) 57).blks[b]? = some ⟨.cells all, 57, true⟩ := (Heap.new_old hbl).trans hbk
  have hk2 : (h.new (.cells (entC x)) 57).blks[h.blks.length]? = some ⟨.cells (entC x), 57, true⟩ := blk_new_self _ _ _
  have hone : ((all.drop o).take (es.length * 3)).all Value.oneCell' = true := by rw [he]; exact entL_one es
  have hL : ((all.drop o).take (bsK es x * 3) ++ (entC x ++ ((all.drop o).take (es.length * 3)).drop (bsK es x * 3))) = entL (insE es x) := by
    have h1 : (all.drop o).take (bsK es x * 3) = entL (es.take (bsK es x)) := by
      rw [← entL_takeM, ← he, List.take_take, Nat.min_eq_left (by omega)]
    rw [h1, he, entL_dropM]
    unfold insE
    rw [entL_app]
    rfl
  have hlen : (insE es x).length = es.length + 1 := by unfold insE; rw [List.length_append, List.length_cons, List.length_take, List.length_drop]; omega
  have hpl : ((h.new (.cells (entC x)) 57).put b .dead).blks.length = h.blks.length + 1 := by rw [Heap.put_len]; simp [Heap.new]
  refine ⟨some ⟨h.blks.length + 1, 0, none⟩, UNK, ((h.new (.cells (entC x)) 57).put b .dead).new (.cells (entL (insE es x))) 57, ?_, ?_, ⟨hn, ?_, fun q hq => ?_, fun m hm' => ?_⟩, fun q hq hne => ?_⟩
  · rw [evC_ext xt_ins]
    unfold insX
    simp only []
    rw [if_neg (by omega), if_pos ⟨by omega, by omega, by omega, hc⟩]
    simp only [hk1, hk2]
    rw [if_pos ⟨trivial, trivial, by omega, hle, rfl, rfl, hone⟩, Int.toNat_natCast, hL, hlen]
    rw [show (h.new (.cells (entC x)) 57).blks.length = h.blks.length + 1 by simp [Heap.new]]
  · have := blk_new_self ((h.new (.cells (entC x)) 57).put b .dead) (.cells (entL (insE es x))) 57
    rw [hpl] at this
    exact .unk (by omega) this (by rw [entL_len]; omega) (by rw [List.drop_zero, ← entL_len, List.take_length])
  · rw [Heap.new_len, hpl]; omega
  · rw [Heap.new_old (by rw [hpl]; omega), Heap.put_other (by omega), Heap.new_old (by omega)]
  · have : (((h.new (.cells (entC x)) 57).put b .dead).new (.cells (entL (insE es x))) 57).mods = b :: h.mods := by rw [Heap.put_eq hk1]; rfl
    rw [this] at hm'
    rcases List.mem_cons.1 hm' with rfl | hm'
    · exact .inr hb0
    · exact .inl hm'
  · rw [Heap.new_old (by rw [hpl]; omega), Heap.put_other (fun e => hne (by rw [e]; rfl)), Heap.new_old hq]
end Go.Am
namespace Go.Am
open Go.Proofs
set_option maxRecDepth 100000
set_option linter.all false
set_option maxHeartbeats 8000000
attribute [local congr] obind_congr obH_congr cnd_congr chk_congr retK_congr codeK_congr
theorem Rd.ent1 {h : Heap} {v : Value} {d : DT} (r : Rd Try.prog h 57 v d) : ∃ e : E3, v = entV e ∧ e.n < 2 ^ 64 ∧ e.t < 2 ^ 64 := by
  obtain ⟨⟨f, a⟩, b⟩ := r
  have hst : isStruct Try.prog 57 = true := by kernel_rfl
  obtain ⟨e, he, h1, h2, _⟩ := reads_ent a
  refine ⟨e, ?_, h1, h2⟩
  rcases b with ⟨_, cs, rfl⟩ | x
  · have : cs.toList = entC e := he
    show Value.agg cs = Value.agg (entC e).toArray
    rw [← this]
  · rw [x] at he
    simp [entC] at he
theorem bxEn (e : E3) (h : Heap) : boxV Try.prog 57 (entV e) h = some (.pointer (some ⟨h.blks.length, 0, none⟩), h.new (.cells (entC e)) 57) := by kernel_rfl
theorem alRn (h : Heap) : allocV Try.prog 72 h = some (.pointer (some ⟨h.blks.length, 0, none⟩), h.new (.cells [.int .i64 0, .int .u64 0, .int .u64 0]) 72) := by kernel_rfl
theorem stRn (p : Nat) (e : E3) (h : Heap) : storeV Try.prog 72 (.pointer (some ⟨p, 0, none⟩)) (entV e) h = h.storeN p 0 (entC e) := by kernel_rfl
theorem var_entR {h : Heap} (e : E3) : ∃ h', (h.new (.cells [.int .i64 0, .int .u64 0, .int .u64 0]) 72).storeN h.blks.length 0 (entC e) = some h' ∧ Cells h' h.blks.length 72 (entC e) ∧ Same h h' := by
  have c := Cells.new h 72 [.int .i64 0, .int .u64 0, .int .u64 0]
  exact ⟨_, (storeN_blk c (by simp [entC])).trans rfl, c.put _, (Same.new h _ _).put (Nat.le_refl _) _⟩
theorem purge_lenS (es : List E3) : (purgeE es).length ≤ es.length := by unfold purgeE; split; exact purgeL_len es; omega
theorem joinE_lenS (es fs : List E3) : (joinE es fs).length ≤ es.length + fs.length + es.length := by
  unfold joinE
  split
  · rw [srtE_len, List.length_append, List.length_append]
    have a := List.length_filter_le (fun x => !bsF fs x && decide ((getM (lastM fs) x.f).getD 0 < x.n)) es
    have b := List.length_filter_le (fun x => !bsF es x && decide ((getM (lastM es) x.f).getD 0 < x.n)) fs
    have c := List.length_filterMap_le (bothF fs) es
    unfold newsE bothE
    omega
  · omega
theorem mlaw_TrimSays (h : Heap) {v w : Value} {es fs : List E3} (s : SE h v es) (t : SE h w fs) (hw : wide es) (hwf : wide fs) (e : E3) (he1 : e.n < 2 ^ 64) (he2 : e.t < 2 ^ 64) (to : Nat) (hto : to < 2 ^ 64) (d : Int) :
    ∃ h', evC Try.prog 8 #[v, w, entV e, .int .u64 to, .int .i64 d] h = some (.bool true, h') := by
  rw [call8]
  obtain ⟨va, vc, rfl⟩ := s.shape
  obtain ⟨wa, wc, rfl⟩ := t.shape
  have c0 := Cells.new (nm h) 57 (entC e)
  have s0 : SE ((nm h).new (.cells (entC e)) 57) (.slice va es.length vc) es := s.nm.keepNew _ _
  have t0 : SE ((nm h).new (.cells (entC e)) 57) (.slice wa fs.length wc) fs := t.nm.keepNew _ _
  generalize hh0 : (nm h).new (.cells (entC e)) 57 = h0 at *
  generalize hp0 : (nm h).blks.length = p0 at *
  obtain ⟨h1, q1,Ab⟩ := spec_awake18 h0
  have s1 := Sl.same s0 Ab.same
  have t1 := Sl.same t0 Ab.same
  have c1 := c0.same Ab.same
  simp -implicitDefEqProofs (disch := omega) only [↓c8_0_eq, ↓c8_1_eq, ↓c8_2_eq, ↓c8_3_eq, bxEn, hh0, hp0, q1, ↓cnd_true, ↓cnd_false, ↓Option.bind_some, ↓obH_some', bin_add, bin_sub, bin_mul, bin_lss, bin_leq, bin_gtr, bin_geq, bin_eql, bin_neq, un_not, un_neg, Option.bind_some, Option.bind_none, Option.map_some, cnd_true, cnd_false, pickV_true, pickV_false, gd_true, gd_false, gdV_true, gdV_false, gdH_true, gdH_false, gdS_true, gdS_false, wt_ff, wt_tt, wt_ft, wt_tf, wt_undef, obH_some', extractV_tuple, nilCheckV_ptr, againK_normal, againK_exit, againK_ret, blockK_normal, blockK_same, blockK_ret, seqK_normal, seqK_exit, seqK_ret, fin_done, if_true', if_false', Bool.not_true, Bool.not_false, idx0, idx1, idx2, idx3, idx4, chk_nil_l, chk_nil_r, done_nm, up_cons, up_nil, cond_true, cond_false, Nat.reduceBEq]
  by_cases h40 : es.length ≤ 40
  rotate_left
  · simp -implicitDefEqProofs (disch := omega) only [↓c8_4_eq, ↓c8_5_eq, lnEs, dcT, ↓ret8, ↓cnd_true, ↓cnd_false, ↓Option.bind_some, ↓obH_some', bin_add, bin_sub, bin_mul, bin_lss, bin_leq, bin_gtr, bin_geq, bin_eql, bin_neq, un_not, un_neg, Option.bind_some, Option.bind_none, Option.map_some, cnd_true, cnd_false, pickV_true, pickV_false, gd_true, gd_false, gdV_true, gdV_false, gdH_true, gdH_false, gdS_true, gdS_false, wt_ff, wt_tt, wt_ft, wt_tf, wt_undef, obH_some', extractV_tuple, nilCheckV_ptr, againK_normal, againK_exit, againK_ret, blockK_normal, blockK_same, blockK_ret, seqK_normal, seqK_exit, seqK_ret, fin_done, if_true', if_false', Bool.not_true, Bool.not_false, idx0, idx1, idx2, idx3, idx4, chk_nil_l, chk_nil_r, done_nm, up_cons, up_nil, cond_true, cond_false, Nat.reduceBEq]
    exact ⟨_, rfl⟩
  by_cases f40 : fs.length ≤ 40
  rotate_left
  · simp -implicitDefEqProofs (disch := omega) only [↓c8_4_eq, ↓c8_5_eq, lnEs, dcT, dcF, ↓ret8, ↓cnd_true, ↓cnd_false, ↓Option.bind_some, ↓obH_some', bin_add, bin_sub, bin_mul, bin_lss, bin_leq, bin_gtr, bin_geq, bin_eql, bin_neq, un_not, un_neg, Option.bind_some, Option.bind_none, Option.map_some, cnd_true, cnd_false, pickV_true, pickV_false, gd_true, gd_false, gdV_true, gdV_false, gdH_true, gdH_false, gdS_true, gdS_false, wt_ff, wt_tt, wt_ft, wt_tf, wt_undef, obH_some', extractV_tuple, nilCheckV_ptr, againK_normal, againK_exit, againK_ret, blockK_normal, blockK_same, blockK_ret, seqK_normal, seqK_exit, seqK_ret, fin_done, if_true', if_false', Bool.not_true, Bool.not_false, idx0, idx1, idx2, idx3, idx4, chk_nil_l, chk_nil_r, done_nm, up_cons, up_nil, cond_true, cond_false, Nat.reduceBEq]
    exact ⟨_, rfl⟩
  -- the two logs' variables
  have cA := (Cells.new h1 47 [.slice none 0 0]).keepNew (.cells [.slice none 0 0]) 47
  have cB := Cells.new (h1.new (.cells [.slice none 0 0]) 47) 47 [.slice none 0 0]
  have n7 : (h1.new (.cells [.slice none 0 0]) 47).blks.length = h1.blks.length + 1 := by simp [Heap.new]
  rw [n7] at cB
  have s8 := (s1.keepNew (.cells [.slice none 0 0]) 47).keepNew (.cells [.slice none 0 0]) 47
  have t8 := (t1.keepNew (.cells [.slice none 0 0]) 47).keepNew (.cells [.slice none 0 0]) 47
  have sm8 : Same h1 ((h1.new (.cells [.slice none 0 0]) 47).new (.cells [.slice none 0 0]) 47) := (Same.new h1 _ _).trans (Same.new _ _ _)
  generalize hh8 : (h1.new (.cells [.slice none 0 0]) 47).new (.cells [.slice none 0 0]) 47 = h8 at cA cB s8 t8 sm8
  have stA := storeN_blk cA (o := 0) (vs := [.slice va es.length vc]) (by simp)
  have dA := cA.put [.slice va es.length vc]
  have dB : Cells (h8.put h1.blks.length (.cells [.slice va es.length vc])) (h1.blks.length + 1) 47 [.slice none 0 0] := cB.keepPut (by omega) _
  have stB := storeN_blk dB (o := 0) (vs := [.slice wa fs.length wc]) (by simp)
  simp only [List.take_zero, List.nil_append, List.append_nil, List.length_cons, List.length_nil, List.drop_succ_cons, List.drop_zero, Nat.zero_add] at stA stB
  have fA : Cells ((h8.put h1.blks.length (.cells [.slice va es.length vc])).put (h1.blks.length + 1) (.cells [.slice wa fs.length wc])) h1.blks.length 47 [.slice va es.length vc] := dA.keepPut (by omega) _
  have fB := dB.put [.slice wa fs.length wc]
  have sm9 : Same h1 ((h8.put h1.blks.length (.cells [.slice va es.length vc])).put (h1.blks.length + 1) (.cells [.slice wa fs.length wc])) := (sm8.put (Nat.le_refl _) _).put (by omega) _
  generalize hh9 : (h8.put h1.blks.length (.cells [.slice va es.length vc])).put (h1.blks.length + 1) (.cells [.slice wa fs.length wc]) = h9 at fA fB sm9 stB
  have s9 := Sl.same s1 sm9
  have t9 := Sl.same t1 sm9
  obtain ⟨ua, uc, h10, q10,Ak, r10⟩ := spec_log1 s9 (by omega)
  obtain ⟨wa2, wc2, h11, q11,Al, r11⟩ := spec_log1 (Sl.same t9 Ak.same) (by omega)
  simp -implicitDefEqProofs (disch := omega) only [↓c8_4_eq, ↓c8_5_eq, ↓c8_6_eq, ↓c8_7_eq, ↓c8_8_eq, ↓c8_9_eq, lnEs, dcF, bdL, alL, n7, hh8, stL, stA, stB, q10, q11, ↓cnd_true, ↓cnd_false, ↓Option.bind_some, ↓obH_some', bin_add, bin_sub, bin_mul, bin_lss, bin_leq, bin_gtr, bin_geq, bin_eql, bin_neq, un_not, un_neg, Option.bind_some, Option.bind_none, Option.map_some, cnd_true, cnd_false, pickV_true, pickV_false, gd_true, gd_false, gdV_true, gdV_false, gdH_true, gdH_false, gdS_true, gdS_false, wt_ff, wt_tt, wt_ft, wt_tf, wt_undef, obH_some', extractV_tuple, nilCheckV_ptr, againK_normal, againK_exit, againK_ret, blockK_normal, blockK_same, blockK_ret, seqK_normal, seqK_exit, seqK_ret, fin_done, if_true', if_false', Bool.not_true, Bool.not_false, idx0, idx1, idx2, idx3, idx4, chk_nil_l, chk_nil_r, done_nm, up_cons, up_nil, cond_true, cond_false, Nat.reduceBEq]
  have c11 := ((c1.same sm9).same Ak.same).same Al.same
  have l0 : h11.load1 p0 0 = some (.int .i64 e.f) := c11.load 0
  have l1 : h11.load1 p0 (0 + 1) = some (.int .u64 e.n) := c11.load 1
  have l2 : h11.load1 p0 (0 + 2) = some (.int .u64 e.t) := c11.load 2
  obtain ⟨h12, q12, cY, y12⟩ := var_entR (h := h11) e
  have bd : buildV Try.prog 72 #[(0, .int .i64 e.f), (1, .int .u64 e.n), (2, .int .u64 e.t)] = some (entV e) := bdR3 _ _ _
  simp -implicitDefEqProofs (disch := omega) only [↓c8_10_eq, ↓c8_11_eq, faE0, faE1, faE2, ldI, ldU, ldS, l0, l1, l2, bd, alRn, stRn, q12, ↓cnd_true, ↓cnd_false, ↓Option.bind_some, ↓obH_some', bin_add, bin_sub, bin_mul, bin_lss, bin_leq, bin_gtr, bin_geq, bin_eql, bin_neq, un_not, un_neg, Option.bind_some, Option.bind_none, Option.map_some, cnd_true, cnd_false, pickV_true, pickV_false, gd_true, gd_false, gdV_true, gdV_false, gdH_true, gdH_false, gdS_true, gdS_false, wt_ff, wt_tt, wt_ft, wt_tf, wt_undef, obH_some', extractV_tuple, nilCheckV_ptr, againK_normal, againK_exit, againK_ret, blockK_normal, blockK_same, blockK_ret, seqK_normal, seqK_exit, seqK_ret, fin_done, if_true', if_false', Bool.not_true, Bool.not_false, idx0, idx1, idx2, idx3, idx4, chk_nil_l, chk_nil_r, done_nm, up_cons, up_nil, cond_true, cond_false, Nat.reduceBEq]
  have la : ∀ {h' : Heap}, Same h12 h' → (h'.loadN h1.blks.length 0 1).map (fun cs => Value.agg cs.toArray) = some (.agg #[.slice va es.length vc]) := fun k => by rw [(((((fA.same Ak.same).same Al.same).same y12).same k).loadN (n := 1) rfl)]; rfl
  have lb : ∀ {h' : Heap}, Same h12 h' → (h'.loadN (h1.blks.length + 1) 0 1).map (fun cs => Value.agg cs.toArray) = some (.agg #[.slice wa fs.length wc]) := fun k => by rw [(((((fB.same Ak.same).same Al.same).same y12).same k).loadN (n := 1) rfl)]; rfl
  have lx : ∀ {h' : Heap}, Same h12 h' → h'.loadN p0 0 3 = some (entC e) := fun k => ((c11.same y12).same k).loadN (n := 3) rfl
  have ly : ∀ {h' : Heap}, Same h12 h' → h'.loadN h11.blks.length 0 3 = some (entC e) := fun k => (cY.same k).loadN (n := 3) rfl
  have sa : ∀ {h' : Heap}, Same h12 h' → SE h' (.slice va es.length vc) es := fun k => Sl.same (Sl.same (Sl.same (Sl.same s9 Ak.same) Al.same) y12) k
  have sb : ∀ {h' : Heap}, Same h12 h' → SE h' (.slice wa fs.length wc) fs := fun k => Sl.same (Sl.same (Sl.same (Sl.same t9 Ak.same) Al.same) y12) k
  have su : ∀ {h' : Heap}, Same h12 h' → SE h' (.slice ua es.length uc) es := fun k => Sl.same (Sl.same (Sl.same (Acc.sl r10 etR.size) Al.same) y12) k
  have sv : ∀ {h' : Heap}, Same h12 h' → SE h' (.slice wa2 fs.length wc2) fs := fun k => Sl.same (Sl.same (Acc.sl r11 etR.size) y12) k
  -- Good
  obtain ⟨h13, q13,Ao⟩ := spec_Good (sa (Same.refl _)) hw (by omega)
  have k13 := Ao.same
  obtain ⟨h14, q14,Ap⟩ := spec_GoodLog (su k13) (by omega)
  have k14 := k13.trans Ap.same
  -- Add
  obtain ⟨a15, c15, h15, q15,Aq, r15⟩ := spec_Add (h := nm h14) (Sl.nm (sa k14)) hw (by omega) e he2 (insOk_all (by omega))
  obtain ⟨z15, m15⟩ := Aq.amx
  have al := addE_lenR es e
  have k15 := k14.trans z15.same
  have s15 : SE (am h15 h14) (.slice a15 (addE es e).length c15) (addE es e) := Sl.keep (h' := am h15 h14) (AE.se r15) fun _ _ _ => rfl
  generalize hh15 : am h15 h14 = g15 at *
  obtain ⟨a16, c16, h16, q16,Ar, r16⟩ := spec_log1 (h := nm g15) (Sl.nm s15) (by omega)
  obtain ⟨z16, m16⟩ := Ar.amx
  have k16 := k15.trans z16.same
  have s16 : SE (am h16 g15) (.slice a16 (addE es e).length c16) (addE es e) := Sl.keep (h' := am h16 g15) (Acc.sl r16 etR.size) fun _ _ _ => rfl
  generalize hh16 : am h16 g15 = g16 at *
  obtain ⟨a17, c17, h17, q17,As, s17⟩ := spec_AddLog (su k16) (by omega) e
  have k17 := k16.trans As.same
  have q18 := spec_logs (Sl.same s16 As.same) s17 (by omega) (by omega)
  rw [decide_eq_true rfl] at q18
  -- Less
  obtain ⟨a19, c19, h19, q19,Au, r19⟩ := spec_Less (sa k17) hw (by omega) to hto
  have k19 := k17.trans Au.same
  have ll := lessE_len es to
  have s19 : SE h19 (.slice a19 es.length c19) (lessE es to) := by have := AE.se r19; exact this
  obtain ⟨a20, c20, h20, q20,Av, r20⟩ := spec_log1 s19 (by omega)
  have k20 := k19.trans Av.same
  obtain ⟨a21, c21, h21, q21,Aw, s21⟩ := spec_LessLog (su k20) hw (by omega) to hto
  have k21 := k20.trans Aw.same
  have q22 := spec_logs (Sl.same (Acc.sl r20 etR.size) Aw.same) s21 (by omega) (by omega)
  rw [decide_eq_true rfl] at q22
  -- But
  obtain ⟨a23, c23, h23, q23,Ay, r23⟩ := spec_But (sa k21) hw (by omega) to hto d
  have k23 := k21.trans Ay.same
  have lb2 := lessE_len es (outB to (ofN d))
  have s23 : SE h23 (.slice a23 es.length c23) (lessE es (outB to (ofN d))) := by have := AE.se r23; exact this
  obtain ⟨a24, c24, h24, q24,Az, r24⟩ := spec_log1 s23 (by omega)
  have k24 := k23.trans Az.same
  obtain ⟨a25, c25, h25, q25,Ba, s25⟩ := spec_ButLog (su k24) hw (by omega) to hto d
  have k25 := k24.trans Ba.same
  have q26 := spec_logs (Sl.same (Acc.sl r24 etR.size) Ba.same) s25 (by omega) (by omega)
  rw [decide_eq_true rfl] at q26
  -- Purge
  obtain ⟨a27, c27, h27, q27,Bc, r27⟩ := spec_Purge (sa k25) hw (by omega)
  have k27 := k25.trans Bc.same
  have pl := purge_lenS es
  obtain ⟨a28, c28, h28, q28,Bd, r28⟩ := spec_log1 (AE.se r27) (by omega)
  have k28 := k27.trans Bd.same
  obtain ⟨a29, c29, h29, q29,Be, s29⟩ := spec_PurgeR (su k28) (by omega)
  have k29 := k28.trans Be.same
  have q30 := spec_logs (Sl.same (Acc.sl r28 etR.size) Be.same) s29 (by omega) (by omega)
  rw [decide_eq_true rfl] at q30
  -- Join
  obtain ⟨a31, c31, h31, q31,Bg, r31⟩ := spec_Join (sa k29) (sb k29) hw hwf (by omega) (by omega)
  have k31 := k29.trans Bg.same
  have jl := joinE_lenS es fs
  obtain ⟨a32, c32, h32, q32,Bh, r32⟩ := spec_log1 (AE.se r31) (by omega)
  have k32 := k31.trans Bh.same
  obtain ⟨a33, c33, h33, q33,Bi, s33⟩ := spec_JoinLog (su k32) (sv k32) hw hwf (by omega) (by omega)
  have k33 := k32.trans Bi.same
  have q34 := spec_logs (Sl.same (Acc.sl r32 etR.size) Bi.same) s33 (by omega) (by omega)
  rw [decide_eq_true rfl] at q34
  -- Put
  obtain ⟨a35, c35, h35, q35,Bk, r35⟩ := spec_Put18 (sa k33) hw (by omega)
  have k35 := k33.trans Bk.same
  have q36 := strB (Acc.sl r35 etB.size)
  obtain ⟨a37, c37, h37, q37,Bm, r37⟩ := spec_PutLog (h := nm h35) (Sl.nm (su k35)) hw (by omega)
  obtain ⟨z37, m37⟩ := Bm.amx
  have s37 : SB (am h37 h35) (.slice a37 (putE es).length c37) (putE es) := Sl.keep (h' := am h37 h35) (Acc.sl r37 etB.size) fun _ _ _ => rfl
  have q38 := strB s37
  generalize hh37 : am h37 h35 = g37 at *
  have la12 := la (Same.refl _)
  have la14 := la k14
  have lx14 := lx k14
  have ly16 := ly k16
  have la17 := la k17
  have la21 := la k21
  have la25 := la k25
  have la29 := la k29
  have lb29 := lb k29
  have la33 := la k33
  simp -implicitDefEqProofs (maxSteps := 2000000) (disch := omega) only [↓c8_12_eq, ↓c8_13_eq, ↓c8_14_eq, ↓d8_0_0, ↓d8_0_1, ↓d8_0_2, ↓d8_0_3, ↓d8_0_4, ↓d8_0_5, ↓d8_0_6, ↓d8_0_7, ↓d8_0_8, ↓d8_0_9, ↓d8_0_10, ↓d8_0_11, ↓d8_0_12, ↓d8_0_13, ↓d8_0_14, ↓d8_0_15, ↓d8_0_16, ↓d8_0_17, ↓d8_0_18, ↓d8_0_19, ↓d8_0_20, ↓d8_0_21, ↓d8_0_22, ↓d8_0_23, ↓d8_0_24, ↓d8_0_25, ↓d8_0_26, ↓d8_0_27, ↓d8_0_28, ↓d8_0_29, ↓d8_0_30, ↓d8_0_31, ↓d8_0_32, ↓d8_0_33, ↓d8_0_34, ↓d8_0_35, ↓d8_0_36, ↓d8_0_37, ↓d8_0_38, ↓d8_0_39, ↓d8_0_40, ↓d8_0_41, ↓d8_0_42, ↓d8_0_43, ↓d8_0_44, ↓d8_0_45, ↓d8_0_46, ↓d8_0_47, ↓d8_0_48, ↓d8_0_49, ↓d8_0_50, ↓d8_0_51, ↓d8_0_52, ↓d8_0_53, ↓d8_0_54, ↓d8_0_55, ↓d8_0_56, ↓d8_0_57, ↓d8_0_58, ↓d8_0_59, ↓d8_0_60, ↓d8_0_61, ↓d8_0_62, ↓d8_0_63, ↓d8_0_64, ↓d8_0_65, ↓d8_0_66, ↓d8_0_67, ↓d8_0_68, ↓d8_0_69, ↓d8_0_70, ldL, la12, q13, q14, beql, beq_self_eq_true, la14, ldE, lx14, Option.map_some, entA, q15, hh15, m15, fvL, q16, hh16, m16, ldR, ly16, q17, q18, la17, q19, q20, q21, q22, la21, q23, q24, q25, q26, la25, q27, q28, q29, q30, la29, lb29, q31, q32, q33, q34, la33, q35, q36, q37, hh37, m37, q38, bin_streq, decide_true, List.nil_append, List.append_nil, ↓ret8, ↓cnd_true, ↓cnd_false, ↓Option.bind_some, ↓obH_some', bin_add, bin_sub, bin_mul, bin_lss, bin_leq, bin_gtr, bin_geq, bin_eql, bin_neq, un_not, un_neg, Option.bind_some, Option.bind_none, Option.map_some, cnd_true, cnd_false, pickV_true, pickV_false, gd_true, gd_false, gdV_true, gdV_false, gdH_true, gdH_false, gdS_true, gdS_false, wt_ff, wt_tt, wt_ft, wt_tf, wt_undef, obH_some', extractV_tuple, nilCheckV_ptr, againK_normal, againK_exit, againK_ret, blockK_normal, blockK_same, blockK_ret, seqK_normal, seqK_exit, seqK_ret, fin_done, if_true', if_false', Bool.not_true, Bool.not_false, idx0, idx1, idx2, idx3, idx4, chk_nil_l, chk_nil_r, done_nm, up_cons, up_nil, cond_true, cond_false, Nat.reduceBEq]
  exact ⟨_, rfl⟩
theorem law_TrimSays (h : Heap) (vs : List Value) (dd : List DT) (r : RdAll Try.prog h [45, 45, 57, 35, 3] vs dd) : ∃ h', evC Try.prog 8 vs.toArray h = some (.bool true, h') := by
  obtain ⟨v, d0, vs1, ds1, rfl, rfl, rv, r⟩ := r.cons_inv
  obtain ⟨w, d1, vs2, ds2, rfl, rfl, rw', r⟩ := r.cons_inv
  obtain ⟨x, d2, vs3, ds3, rfl, rfl, rx, r⟩ := r.cons_inv
  obtain ⟨y, d3, vs4, ds4, rfl, rfl, ry, r⟩ := r.cons_inv
  obtain ⟨z, d4, vs5, ds5, rfl, rfl, rz, r⟩ := r.cons_inv
  obtain ⟨rfl, rfl⟩ := r.nil_inv
  obtain ⟨es, s, hw⟩ := rv.ents
  obtain ⟨fs, t, hwf⟩ := rw'.ents
  obtain ⟨e, rfl, he1, he2⟩ := rx.ent1
  obtain ⟨to, rfl, hto⟩ := ry.u64 (by kernel_rfl)
  obtain ⟨d, rfl, _⟩ := rz.i64 (by kernel_rfl)
  exact mlaw_TrimSays h s t hw hwf e he1 he2 to hto d
end Go.Am
namespace Go.Am.Z
open Go.Proofs
set_option maxRecDepth 100000
set_option linter.all false
@[reducible] def xt0 : Xt Try.prog := ⟨fun _ => none⟩
@[reducible] def gl0 : Gl Try.prog := ⟨none⟩
attribute [local instance] xt0 gl0
theorem xm0 : XtM Try.prog := ⟨fun _ _ h => by cases h⟩
theorem xo0 : XtOk Try.prog := ⟨fun _ _ h => (by cases h), fun _ _ _ h => (by cases h)⟩
attribute [local instance] xm0 xo0
section
variable {β : Type}
noncomputable abbrev ev : Ev := evC Try.prog
noncomputable abbrev cK (c : Code) (n : Nat) (x : Nat → Value) (h : Heap) (k : Ex → St → Option β) : Option β := codeK Try.prog (evC Try.prog) loopL c ⟨ar n x, h⟩ k
noncomputable abbrev lK (c : Code) (n : Nat) (x : Nat → Value) (h : Heap) (k : Ex → St → Option β) : Option β := loopK Try.prog (evC Try.prog) c ⟨ar n x, h⟩ k
noncomputable abbrev sK (c : Code) (k : Ex → St → Option β) : Ex → St → Option β := seqK Try.prog (evC Try.prog) c k
noncomputable abbrev rD (ops : Array Oper) (j n : Nat) (x : Nat → Value) (h : Heap) (r m : List Nat) (k : St → Option β) : Option β := regD Try.prog (evC Try.prog) ops j ⟨ar n x, h⟩ r m k
variable (x : Nat → Value) (h : Heap) (k : Ex → St → Option β) (r m : List Nat) (g : Heap)
noncomputable def c85_0 : Code := bodyC Try.f85 []
theorem c85_0_eq : cK c85_0 6 x h k =
(bn .neq 3 (x 0) (x 0)).bind fun v0 =>
k .ret ⟨ar 6 (up x [(2,v0),(3,(x 0)),(4,(x 0)),(5,v0)]), h⟩ := by kernel_rfl
theorem call85 (a0 : Value) : evC Try.prog 85 #[a0] h = cK c85_0 6 (up un [(0,a0)]) (nm h) (retK Try.f85 Try.prog h) :=
  (evC_call 85 Try.f85 c85_0 Try.func85 (by kernel_rfl) #[a0] h).trans (by kernel_rfl)
theorem ret85 : retK Try.f85 Try.prog g .ret ⟨ar 6 x, h⟩ = fin g (some (x 2)) h := by kernel_rfl
noncomputable def c86_0 : Code := bodyC Try.f86 []
theorem c86_0_eq : cK c86_0 6 x h k =
(bn .neq 35 (x 0) (x 0)).bind fun v0 =>
k .ret ⟨ar 6 (up x [(2,v0),(3,(x 0)),(4,(x 0)),(5,v0)]), h⟩ := by kernel_rfl
theorem call86 (a0 : Value) : evC Try.prog 86 #[a0] h = cK c86_0 6 (up un [(0,a0)]) (nm h) (retK Try.f86 Try.prog h) :=
  (evC_call 86 Try.f86 c86_0 Try.func86 (by kernel_rfl) #[a0] h).trans (by kernel_rfl)
theorem ret86 : retK Try.f86 Try.prog g .ret ⟨ar 6 x, h⟩ = fin g (some (x 2)) h := by kernel_rfl
noncomputable def c71_0 : Code := bodyC Try.f71 []
theorem c71_0_eq : cK c71_0 20 x h k =
obH (ev 85 #[x 0] h) fun v0 h1 =>
obH (ev 85 #[x 1] h1) fun v2 h3 =>
cnd v0 (
cnd v2 (
k .ret ⟨ar 20 (up x [(4,(.int .i64 0)),(5,v0),(6,v2),(7,(x 0)),(8,v0),(9,(x 1)),(10,v2),(11,v0),(12,v2)]), h3⟩) (
k .ret ⟨ar 20 (up x [(4,(.int .i64 (-1))),(5,v0),(6,v2),(7,(x 0)),(8,v0),(9,(x 1)),(10,v2),(11,v0),(12,v2)]), h3⟩)) (
cnd v2 (
k .ret ⟨ar 20 (up x [(4,(.int .i64 1)),(5,v0),(6,v2),(7,(x 0)),(8,v0),(9,(x 1)),(10,v2),(11,v0),(13,v2)]), h3⟩) (
(bn .lss 3 (x 0) (x 1)).bind fun v4 =>
cnd v4 (
k .ret ⟨ar 20 (up x [(4,(.int .i64 (-1))),(5,v0),(6,v2),(7,(x 0)),(8,v0),(9,(x 1)),(10,v2),(11,v0),(13,v2),(14,(x 0)),(15,(x 1)),(16,v4)]), h3⟩) (
(bn .gtr 3 (x 0) (x 1)).bind fun v5 =>
cnd v5 (
k .ret ⟨ar 20 (up x [(4,(.int .i64 1)),(5,v0),(6,v2),(7,(x 0)),(8,v0),(9,(x 1)),(10,v2),(11,v0),(13,v2),(14,(x 0)),(15,(x 1)),(16,v4),(17,(x 0)),(18,(x 1)),(19,v5)]), h3⟩) (
k .ret ⟨ar 20 (up x [(4,(.int .i64 0)),(5,v0),(6,v2),(7,(x 0)),(8,v0),(9,(x 1)),(10,v2),(11,v0),(13,v2),(14,(x 0)),(15,(x 1)),(16,v4),(17,(x 0)),(18,(x 1)),(19,v5)]), h3⟩)))) := by kernel_rfl
theorem call71 (a0 a1 : Value) : evC Try.prog 71 #[a0,a1] h = cK c71_0 20 (up un [(0,a0),(1,a1)]) (nm h) (retK Try.f71 Try.prog h) :=
  (evC_call 71 Try.f71 c71_0 Try.func71 (by kernel_rfl) #[a0,a1] h).trans (by kernel_rfl)
theorem ret71 : retK Try.f71 Try.prog g .ret ⟨ar 20 x, h⟩ = fin g (some (x 4)) h := by kernel_rfl
noncomputable def c72_0 : Code := bodyC Try.f72 []
theorem c72_0_eq : cK c72_0 20 x h k =
obH (ev 86 #[x 0] h) fun v0 h1 =>
obH (ev 86 #[x 1] h1) fun v2 h3 =>
cnd v0 (
cnd v2 (
k .ret ⟨ar 20 (up x [(4,(.int .i64 0)),(5,v0),(6,v2),(7,(x 0)),(8,v0),(9,(x 1)),(10,v2),(11,v0),(12,v2)]), h3⟩) (
k .ret ⟨ar 20 (up x [(4,(.int .i64 (-1))),(5,v0),(6,v2),(7,(x 0)),(8,v0),(9,(x 1)),(10,v2),(11,v0),(12,v2)]), h3⟩)) (
cnd v2 (
k .ret ⟨ar 20 (up x [(4,(.int .i64 1)),(5,v0),(6,v2),(7,(x 0)),(8,v0),(9,(x 1)),(10,v2),(11,v0),(13,v2)]), h3⟩) (
(bn .lss 35 (x 0) (x 1)).bind fun v4 =>
cnd v4 (
k .ret ⟨ar 20 (up x [(4,(.int .i64 (-1))),(5,v0),(6,v2),(7,(x 0)),(8,v0),(9,(x 1)),(10,v2),(11,v0),(13,v2),(14,(x 0)),(15,(x 1)),(16,v4)]), h3⟩) (
(bn .gtr 35 (x 0) (x 1)).bind fun v5 =>
cnd v5 (
k .ret ⟨ar 20 (up x [(4,(.int .i64 1)),(5,v0),(6,v2),(7,(x 0)),(8,v0),(9,(x 1)),(10,v2),(11,v0),(13,v2),(14,(x 0)),(15,(x 1)),(16,v4),(17,(x 0)),(18,(x 1)),(19,v5)]), h3⟩) (
k .ret ⟨ar 20 (up x [(4,(.int .i64 0)),(5,v0),(6,v2),(7,(x 0)),(8,v0),(9,(x 1)),(10,v2),(11,v0),(13,v2),(14,(x 0)),(15,(x 1)),(16,v4),(17,(x 0)),(18,(x 1)),(19,v5)]), h3⟩)))) := by kernel_rfl
theorem call72 (a0 a1 : Value) : evC Try.prog 72 #[a0,a1] h = cK c72_0 20 (up un [(0,a0),(1,a1)]) (nm h) (retK Try.f72 Try.prog h) :=
  (evC_call 72 Try.f72 c72_0 Try.func72 (by kernel_rfl) #[a0,a1] h).trans (by kernel_rfl)
theorem ret72 : retK Try.f72 Try.prog g .ret ⟨ar 20 x, h⟩ = fin g (some (x 4)) h := by kernel_rfl
noncomputable def c70_0 : Code := bodyC Try.f70 []
noncomputable def c70_1 : Code := bodyC Try.f70 [true, true, false, true, false, false]
noncomputable def c70_2 : Code := bodyC Try.f70 [true, true, true]
theorem c70_0_eq : cK c70_0 18 x h k =
(ln 43 (x 0) h).bind fun v0 =>
lK c70_1 18 (up x [(2,(.int .i64 0)),(3,(.int .i64 0)),(6,(x 0)),(7,v0),(8,(.int .i64 0))]) h (blockK 0 (sK c70_2 k)) := by kernel_rfl
theorem c70_1_eq : cK c70_1 18 x h k =
(bn .lss 3 (x 8) (x 7)).bind fun v1 =>
cnd v1 (
(ia 43 (x 6) (x 8)).bind fun v2 =>
(ld 3 v2 h).bind fun v3 =>
(bn .neq 3 v3 (x 3)).bind fun v4 =>
cnd v4 (
k .ret ⟨ar 18 (up x [(2,v3),(5,v3),(9,v1),(10,v2),(11,v3),(12,v3),(13,(x 3)),(14,v4),(15,v3)]), h⟩) (
(bn .add 3 (x 8) (.int .i64 1)).bind fun v5 =>
k .normal ⟨ar 18 (up x [(5,v3),(8,v5),(9,v1),(10,v2),(11,v3),(12,v3),(13,(x 3)),(14,v4),(16,v5)]), h⟩)) (
k (.exit 0) ⟨ar 18 (up x [(9,v1)]), h⟩) := by kernel_rfl
theorem c70_2_eq : cK c70_2 18 x h k =
k .ret ⟨ar 18 (up x [(2,(x 3)),(17,(x 3))]), h⟩ := by kernel_rfl
theorem call70 (a0 : Value) : evC Try.prog 70 #[a0] h = cK c70_0 18 (up un [(0,a0)]) (nm h) (retK Try.f70 Try.prog h) :=
  (evC_call 70 Try.f70 c70_0 Try.func70 (by kernel_rfl) #[a0] h).trans (by kernel_rfl)
theorem ret70 : retK Try.f70 Try.prog g .ret ⟨ar 18 x, h⟩ = fin g (some (x 2)) h := by kernel_rfl
noncomputable def c48_0 : Code := bodyC Try.f48 []
theorem c48_0_eq : cK c48_0 17 x h k =
obH (boxV Try.prog 57 (x 0) h) fun v0 h1 =>
obH (boxV Try.prog 57 (x 1) h1) fun v2 h3 =>
(fa 57 v0 0).bind fun v4 =>
(ld 3 v4 h3).bind fun v5 =>
(fa 57 v2 0).bind fun v6 =>
(ld 3 v6 h3).bind fun v7 =>
obH (ev 71 #[v5,v7] (nm h3)) fun v8 h9 =>
(fa 57 v0 1).bind fun v10 =>
(ld 35 v10 (am h9 h3)).bind fun v11 =>
(fa 57 v2 1).bind fun v12 =>
(ld 35 v12 (am h9 h3)).bind fun v13 =>
obH (ev 72 #[v11,v13] (am h9 h3)) fun v14 h15 =>
obH (buildSliceV Try.prog 43 2 #[(0, v8), (1, v14)] h15) fun v16 h17 =>
obH (ev 70 #[v16] h17) fun v18 h19 =>
chk ((rb v12) ++ ((rb v10) ++ [])) (h9.mods ++ []) (
k .ret ⟨ar 17 (up x [(2,v0),(3,v2),(4,v18),(5,v4),(6,v5),(7,v6),(8,v7),(9,v8),(10,v10),(11,v11),(12,v12),(13,v13),(14,v14),(15,v16),(16,v18)]), h19⟩) := by kernel_rfl
theorem call48 (a0 a1 : Value) : evC Try.prog 48 #[a0,a1] h = cK c48_0 17 (up un [(0,a0),(1,a1)]) (nm h) (retK Try.f48 Try.prog h) :=
  (evC_call 48 Try.f48 c48_0 Try.func48 (by kernel_rfl) #[a0,a1] h).trans (by kernel_rfl)
theorem ret48 : retK Try.f48 Try.prog g .ret ⟨ar 17 x, h⟩ = fin g (some (x 4)) h := by kernel_rfl
end
attribute [local congr] obind_congr obH_congr cnd_congr chk_congr retK_congr codeK_congr
theorem spec_isNaNI (a : Int) (h : Heap) : evC Try.prog 85 #[.int .i64 a] h = some (.bool false, h) := by
  rw [call85]
  simp -implicitDefEqProofs only [↓c85_0_eq, eq_self, ne_eq, not_true_eq_false, decide_false, ↓ret85, ↓cnd_true, ↓cnd_false, ↓Option.bind_some, ↓obH_some', bin_add, bin_sub, bin_mul, bin_lss, bin_leq, bin_gtr, bin_geq, bin_eql, bin_neq, un_not, un_neg, Option.bind_some, Option.bind_none, Option.map_some, cnd_true, cnd_false, pickV_true, pickV_false, gd_true, gd_false, gdV_true, gdV_false, gdH_true, gdH_false, gdS_true, gdS_false, wt_ff, wt_tt, wt_ft, wt_tf, wt_undef, obH_some', extractV_tuple, nilCheckV_ptr, againK_normal, againK_exit, againK_ret, blockK_normal, blockK_same, blockK_ret, seqK_normal, seqK_exit, seqK_ret, fin_done, if_true', if_false', Bool.not_true, Bool.not_false, idx0, idx1, idx2, idx3, idx4, chk_nil_l, chk_nil_r, done_nm, up_cons, up_nil, cond_true, cond_false, Nat.reduceBEq]
theorem spec_isNaNW (a : Int) (h : Heap) : evC Try.prog 86 #[.int .u64 a] h = some (.bool false, h) := by
  rw [call86]
  simp -implicitDefEqProofs only [↓c86_0_eq, eq_self, ne_eq, not_true_eq_false, decide_false, ↓ret86, ↓cnd_true, ↓cnd_false, ↓Option.bind_some, ↓obH_some', bin_add, bin_sub, bin_mul, bin_lss, bin_leq, bin_gtr, bin_geq, bin_eql, bin_neq, un_not, un_neg, Option.bind_some, Option.bind_none, Option.map_some, cnd_true, cnd_false, pickV_true, pickV_false, gd_true, gd_false, gdV_true, gdV_false, gdH_true, gdH_false, gdS_true, gdS_false, wt_ff, wt_tt, wt_ft, wt_tf, wt_undef, obH_some', extractV_tuple, nilCheckV_ptr, againK_normal, againK_exit, againK_ret, blockK_normal, blockK_same, blockK_ret, seqK_normal, seqK_exit, seqK_ret, fin_done, if_true', if_false', Bool.not_true, Bool.not_false, idx0, idx1, idx2, idx3, idx4, chk_nil_l, chk_nil_r, done_nm, up_cons, up_nil, cond_true, cond_false, Nat.reduceBEq]
def cmpI (a b : Int) : Int := if a < b then -1 else if b < a then 1 else 0
theorem spec_CmpI (a b : Int) (h : Heap) : evC Try.prog 71 #[.int .i64 a, .int .i64 b] h = some (.int .i64 (cmpI a b), h) := by
  rw [call71]
  have e1 := fun h => spec_isNaNI a h
  have e2 := fun h => spec_isNaNI b h
  unfold cmpI
  by_cases h1 : a < b
  · rw [if_pos h1]
    simp -implicitDefEqProofs (disch := omega) only [↓c71_0_eq, dcT, dcF, e1, e2, ↓ret71, ↓cnd_true, ↓cnd_false, ↓Option.bind_some, ↓obH_some', bin_add, bin_sub, bin_mul, bin_lss, bin_leq, bin_gtr, bin_geq, bin_eql, bin_neq, un_not, un_neg, Option.bind_some, Option.bind_none, Option.map_some, cnd_true, cnd_false, pickV_true, pickV_false, gd_true, gd_false, gdV_true, gdV_false, gdH_true, gdH_false, gdS_true, gdS_false, wt_ff, wt_tt, wt_ft, wt_tf, wt_undef, obH_some', extractV_tuple, nilCheckV_ptr, againK_normal, againK_exit, againK_ret, blockK_normal, blockK_same, blockK_ret, seqK_normal, seqK_exit, seqK_ret, fin_done, if_true', if_false', Bool.not_true, Bool.not_false, idx0, idx1, idx2, idx3, idx4, chk_nil_l, chk_nil_r, done_nm, up_cons, up_nil, cond_true, cond_false, Nat.reduceBEq]
  · rw [if_neg h1]
    by_cases h2 : b < a
    · rw [if_pos h2]
      simp -implicitDefEqProofs (disch := omega) only [↓c71_0_eq, dcT, dcF, e1, e2, ↓ret71, ↓cnd_true, ↓cnd_false, ↓Option.bind_some, ↓obH_some', bin_add, bin_sub, bin_mul, bin_lss, bin_leq, bin_gtr, bin_geq, bin_eql, bin_neq, un_not, un_neg, Option.bind_some, Option.bind_none, Option.map_some, cnd_true, cnd_false, pickV_true, pickV_false, gd_true, gd_false, gdV_true, gdV_false, gdH_true, gdH_false, gdS_true, gdS_false, wt_ff, wt_tt, wt_ft, wt_tf, wt_undef, obH_some', extractV_tuple, nilCheckV_ptr, againK_normal, againK_exit, againK_ret, blockK_normal, blockK_same, blockK_ret, seqK_normal, seqK_exit, seqK_ret, fin_done, if_true', if_false', Bool.not_true, Bool.not_false, idx0, idx1, idx2, idx3, idx4, chk_nil_l, chk_nil_r, done_nm, up_cons, up_nil, cond_true, cond_false, Nat.reduceBEq]
    · rw [if_neg h2]
      simp -implicitDefEqProofs (disch := omega) only [↓c71_0_eq, dcT, dcF, e1, e2, ↓ret71, ↓cnd_true, ↓cnd_false, ↓Option.bind_some, ↓obH_some', bin_add, bin_sub, bin_mul, bin_lss, bin_leq, bin_gtr, bin_geq, bin_eql, bin_neq, un_not, un_neg, Option.bind_some, Option.bind_none, Option.map_some, cnd_true, cnd_false, pickV_true, pickV_false, gd_true, gd_false, gdV_true, gdV_false, gdH_true, gdH_false, gdS_true, gdS_false, wt_ff, wt_tt, wt_ft, wt_tf, wt_undef, obH_some', extractV_tuple, nilCheckV_ptr, againK_normal, againK_exit, againK_ret, blockK_normal, blockK_same, blockK_ret, seqK_normal, seqK_exit, seqK_ret, fin_done, if_true', if_false', Bool.not_true, Bool.not_false, idx0, idx1, idx2, idx3, idx4, chk_nil_l, chk_nil_r, done_nm, up_cons, up_nil, cond_true, cond_false, Nat.reduceBEq]
theorem spec_CmpW (a b : Int) (h : Heap) : evC Try.prog 72 #[.int .u64 a, .int .u64 b] h = some (.int .i64 (cmpI a b), h) := by
  rw [call72]
  have e1 := fun h => spec_isNaNW a h
  have e2 := fun h => spec_isNaNW b h
  unfold cmpI
  by_cases h1 : a < b
  · rw [if_pos h1]
    simp -implicitDefEqProofs (disch := omega) only [↓c72_0_eq, dcT, dcF, e1, e2, ↓ret72, ↓cnd_true, ↓cnd_false, ↓Option.bind_some, ↓obH_some', bin_add, bin_sub, bin_mul, bin_lss, bin_leq, bin_gtr, bin_geq, bin_eql, bin_neq, un_not, un_neg, Option.bind_some, Option.bind_none, Option.map_some, cnd_true, cnd_false, pickV_true, pickV_false, gd_true, gd_false, gdV_true, gdV_false, gdH_true, gdH_false, gdS_true, gdS_false, wt_ff, wt_tt, wt_ft, wt_tf, wt_undef, obH_some', extractV_tuple, nilCheckV_ptr, againK_normal, againK_exit, againK_ret, blockK_normal, blockK_same, blockK_ret, seqK_normal, seqK_exit, seqK_ret, fin_done, if_true', if_false', Bool.not_true, Bool.not_false, idx0, idx1, idx2, idx3, idx4, chk_nil_l, chk_nil_r, done_nm, up_cons, up_nil, cond_true, cond_false, Nat.reduceBEq]
  · rw [if_neg h1]
    by_cases h2 : b < a
    · rw [if_pos h2]
      simp -implicitDefEqProofs (disch := omega) only [↓c72_0_eq, dcT, dcF, e1, e2, ↓ret72, ↓cnd_true, ↓cnd_false, ↓Option.bind_some, ↓obH_some', bin_add, bin_sub, bin_mul, bin_lss, bin_leq, bin_gtr, bin_geq, bin_eql, bin_neq, un_not, un_neg, Option.bind_some, Option.bind_none, Option.map_some, cnd_true, cnd_false, pickV_true, pickV_false, gd_true, gd_false, gdV_true, gdV_false, gdH_true, gdH_false, gdS_true, gdS_false, wt_ff, wt_tt, wt_ft, wt_tf, wt_undef, obH_some', extractV_tuple, nilCheckV_ptr, againK_normal, againK_exit, againK_ret, blockK_normal, blockK_same, blockK_ret, seqK_normal, seqK_exit, seqK_ret, fin_done, if_true', if_false', Bool.not_true, Bool.not_false, idx0, idx1, idx2, idx3, idx4, chk_nil_l, chk_nil_r, done_nm, up_cons, up_nil, cond_true, cond_false, Nat.reduceBEq]
    · rw [if_neg h2]
      simp -implicitDefEqProofs (disch := omega) only [↓c72_0_eq, dcT, dcF, e1, e2, ↓ret72, ↓cnd_true, ↓cnd_false, ↓Option.bind_some, ↓obH_some', bin_add, bin_sub, bin_mul, bin_lss, bin_leq, bin_gtr, bin_geq, bin_eql, bin_neq, un_not, un_neg, Option.bind_some, Option.bind_none, Option.map_some, cnd_true, cnd_false, pickV_true, pickV_false, gd_true, gd_false, gdV_true, gdV_false, gdH_true, gdH_false, gdS_true, gdS_false, wt_ff, wt_tt, wt_ft, wt_tf, wt_undef, obH_some', extractV_tuple, nilCheckV_ptr, againK_normal, againK_exit, againK_ret, blockK_normal, blockK_same, blockK_ret, seqK_normal, seqK_exit, seqK_ret, fin_done, if_true', if_false', Bool.not_true, Bool.not_false, idx0, idx1, idx2, idx3, idx4, chk_nil_l, chk_nil_r, done_nm, up_cons, up_nil, cond_true, cond_false, Nat.reduceBEq]
theorem spec_Or {h : Heap} {p c : Nat} (a b : Int) (hc : Cells h p 3 [.int .i64 a, .int .i64 b]) : evC Try.prog 70 #[.slice (some ⟨p, 0, none⟩) 2 c] h = some (.int .i64 (if a = 0 then b else a), h) := by
  rw [call70]
  have l0 : (nm h).load1 p 0 = some (.int .i64 a) := hc.nm.load 0
  have l1 : (nm h).load1 p 1 = some (.int .i64 b) := hc.nm.load 1
  have w1 : IntKind.i64.wrap (0 + 1) = 1 := rfl
  have w2 : IntKind.i64.wrap (1 + 1) = 2 := rfl
  by_cases h1 : a = 0
  · rw [if_pos h1]
    by_cases h2 : b = 0
    · simp -implicitDefEqProofs (disch := omega) only [↓c70_0_eq, ↓c70_1_eq, ↓c70_2_eq, ↓loopK_eq evC_m, dcT, dcF, lnI, iaI0, iaI1, ldI, l0, l1, w1, w2, ↓ret70, ↓cnd_true, ↓cnd_false, ↓Option.bind_some, ↓obH_some', bin_add, bin_sub, bin_mul, bin_lss, bin_leq, bin_gtr, bin_geq, bin_eql, bin_neq, un_not, un_neg, Option.bind_some, Option.bind_none, Option.map_some, cnd_true, cnd_false, pickV_true, pickV_false, gd_true, gd_false, gdV_true, gdV_false, gdH_true, gdH_false, gdS_true, gdS_false, wt_ff, wt_tt, wt_ft, wt_tf, wt_undef, obH_some', extractV_tuple, nilCheckV_ptr, againK_normal, againK_exit, againK_ret, blockK_normal, blockK_same, blockK_ret, seqK_normal, seqK_exit, seqK_ret, fin_done, if_true', if_false', Bool.not_true, Bool.not_false, idx0, idx1, idx2, idx3, idx4, chk_nil_l, chk_nil_r, done_nm, up_cons, up_nil, cond_true, cond_false, Nat.reduceBEq]
      rw [h2]
    · simp -implicitDefEqProofs (disch := omega) only [↓c70_0_eq, ↓c70_1_eq, ↓c70_2_eq, ↓loopK_eq evC_m, dcT, dcF, lnI, iaI0, iaI1, ldI, l0, l1, w1, w2, ↓ret70, ↓cnd_true, ↓cnd_false, ↓Option.bind_some, ↓obH_some', bin_add, bin_sub, bin_mul, bin_lss, bin_leq, bin_gtr, bin_geq, bin_eql, bin_neq, un_not, un_neg, Option.bind_some, Option.bind_none, Option.map_some, cnd_true, cnd_false, pickV_true, pickV_false, gd_true, gd_false, gdV_true, gdV_false, gdH_true, gdH_false, gdS_true, gdS_false, wt_ff, wt_tt, wt_ft, wt_tf, wt_undef, obH_some', extractV_tuple, nilCheckV_ptr, againK_normal, againK_exit, againK_ret, blockK_normal, blockK_same, blockK_ret, seqK_normal, seqK_exit, seqK_ret, fin_done, if_true', if_false', Bool.not_true, Bool.not_false, idx0, idx1, idx2, idx3, idx4, chk_nil_l, chk_nil_r, done_nm, up_cons, up_nil, cond_true, cond_false, Nat.reduceBEq]
  · rw [if_neg h1]
    simp -implicitDefEqProofs (disch := omega) only [↓c70_0_eq, ↓c70_1_eq, ↓c70_2_eq, ↓loopK_eq evC_m, dcT, dcF, lnI, iaI0, iaI1, ldI, l0, l1, w1, w2, ↓ret70, ↓cnd_true, ↓cnd_false, ↓Option.bind_some, ↓obH_some', bin_add, bin_sub, bin_mul, bin_lss, bin_leq, bin_gtr, bin_geq, bin_eql, bin_neq, un_not, un_neg, Option.bind_some, Option.bind_none, Option.map_some, cnd_true, cnd_false, pickV_true, pickV_false, gd_true, gd_false, gdV_true, gdV_false, gdH_true, gdH_false, gdS_true, gdS_false, wt_ff, wt_tt, wt_ft, wt_tf, wt_undef, obH_some', extractV_tuple, nilCheckV_ptr, againK_normal, againK_exit, againK_ret, blockK_normal, blockK_same, blockK_ret, seqK_normal, seqK_exit, seqK_ret, fin_done, if_true', if_false', Bool.not_true, Bool.not_false, idx0, idx1, idx2, idx3, idx4, chk_nil_l, chk_nil_r, done_nm, up_cons, up_nil, cond_true, cond_false, Nat.reduceBEq]
theorem cmpE_or (x y : E3) : (if cmpI x.f y.f = 0 then cmpI x.n y.n else cmpI x.f y.f) = cmpE x y := by
  unfold cmpE cmpI
  by_cases h1 : x.f < y.f
  · simp [h1]
  · by_cases h2 : y.f < x.f
    · simp [h1, h2]
    · have : (x.n : Int) < y.n ↔ x.n < y.n := Int.ofNat_lt
      have : (y.n : Int) < x.n ↔ y.n < x.n := Int.ofNat_lt
      simp [h1, h2]
theorem spec_order (x y : E3) (h : Heap) : ∃ h', evC Try.prog 48 #[entV x, entV y] h = some (.int .i64 (cmpE x y), h') ∧ HExt h h' := by
  rw [call48]
  have c1 : Cells (((nm h).new (.cells [.int .i64 x.f, .int .u64 x.n, .int .u64 x.t]) 57).new (.cells [.int .i64 y.f, .int .u64 y.n, .int .u64 y.t]) 57) (nm h).blks.length 57 [.int .i64 x.f, .int .u64 x.n, .int .u64 x.t] := (Cells.new _ _ _).keepNew _ _
  have c2 := Cells.new ((nm h).new (.cells [.int .i64 x.f, .int .u64 x.n, .int .u64 x.t]) 57) 57 [.int .i64 y.f, .int .u64 y.n, .int .u64 y.t]
  have k2 : In h.blks.length No (nm h) (((nm h).new (.cells [.int .i64 x.f, .int .u64 x.n, .int .u64 x.t]) 57).new (.cells [.int .i64 y.f, .int .u64 y.n, .int .u64 y.t]) 57) :=
    In.trans (In.new (h := nm h) (Nat.le_refl h.blks.length) _ _) (In.new (by simp [Heap.new]) _ _)
  generalize hp1 : ((nm h).new (.cells [.int .i64 x.f, .int .u64 x.n, .int .u64 x.t]) 57).blks.length = p1 at c2
  generalize hp0 : (nm h).blks.length = p0 at c1
  generalize hh2 : ((nm h).new (.cells [.int .i64 x.f, .int .u64 x.n, .int .u64 x.t]) 57).new (.cells [.int .i64 y.f, .int .u64 y.n, .int .u64 y.t]) 57 = h2 at c1 c2 k2
  have la : h2.load1 p0 0 = some (.int .i64 x.f) := c1.load 0
  have lb : h2.load1 p0 1 = some (.int .u64 x.n) := c1.load 1
  have lc : h2.load1 p1 0 = some (.int .i64 y.f) := c2.load 0
  have ld : h2.load1 p1 1 = some (.int .u64 y.n) := c2.load 1
  have k3 := k2.trans (In.new (Nat.le_trans k2.le k2.len) (.cells [.int .i64 (cmpI x.f y.f), .int .i64 (cmpI x.n y.n)]) 3)
  have e3 := spec_Or (c := 2) _ _ (Cells.new h2 3 [.int .i64 (cmpI x.f y.f), .int .i64 (cmpI x.n y.n)])
  rw [cmpE_or] at e3
  refine ⟨_, ?_, done_ext' k3⟩
  simp -implicitDefEqProofs (disch := omega) only [↓c48_0_eq, entV, bxE, hp0, hp1, hh2, faE0, faE1, ldI, ldU, la, lb, lc, ld, spec_CmpI, spec_CmpW, am_nm, nm_load1, nm_mods, List.nil_append, List.append_nil, lsI2', e3, ↓ret48, ↓cnd_true, ↓cnd_false, ↓Option.bind_some, ↓obH_some', bin_add, bin_sub, bin_mul, bin_lss, bin_leq, bin_gtr, bin_geq, bin_eql, bin_neq, un_not, un_neg, Option.bind_some, Option.bind_none, Option.map_some, cnd_true, cnd_false, pickV_true, pickV_false, gd_true, gd_false, gdV_true, gdV_false, gdH_true, gdH_false, gdS_true, gdS_false, wt_ff, wt_tt, wt_ft, wt_tf, wt_undef, obH_some', extractV_tuple, nilCheckV_ptr, againK_normal, againK_exit, againK_ret, blockK_normal, blockK_same, blockK_ret, seqK_normal, seqK_exit, seqK_ret, fin_done, if_true', if_false', Bool.not_true, Bool.not_false, idx0, idx1, idx2, idx3, idx4, chk_nil_l, chk_nil_r, done_nm, up_cons, up_nil, cond_true, cond_false, Nat.reduceBEq]
end Go.Am.Z
set_option linter.unusedVariables false
set_option linter.unusedSimpArgs false
namespace Go.Proofs
open Go.RowKit Go.Lib
theorem run_copy_cellsK {P : Program} (w : World) (dT sT ty elem : TypeId) (K b o dLen dCap : Nat) (a : Addr) (sLen sCap n : Nat) (cs : List Value)
    (hu : P.underlying dT = some (.slice elem)) (hs : ∀ w, (Go.sizeOf elem).run P w = .ok K w) (hn : n = Nat.min sLen dLen) (hl : cs.length = n * K)
    (hsrc : ∀ j v, cs[j]? = some v → w.cell? (a.add j) = some v) (hc : ∀ j, j < cs.length → (w.cell? ⟨b, o + j, none⟩).isSome = true) (hf : ∀ j, j < cs.length → w.frozen? ⟨b, o + j, none⟩ = false) (h1 : ∀ v ∈ cs, v.oneCell' = true) :
    (Builtin.copy_ #[dT, sT] ty #[.slice (some ⟨b, o, none⟩) dLen dCap, .slice (some a) sLen sCap]).run P w = .ok (goInt n) (w.setCells b o cs) := by
  have hl2 := run_loadCells_list (P := P) w a cs hsrc
  have hst := run_storeCells_cells (P := P) b o cs 0 w (by simpa using hc) (by simpa using hf) h1
  rw [hl] at hl2
  simp [Builtin.copy_, run_underlying hu, Builtin.lenOf, Builtin.firstCells, hs, ← hn, hl2, hst]
theorem szE : ∀ w, (Go.sizeOf 57).run Try.prog w = .ok 3 w := fun w => @Go.Am.run_sizeT Try.prog ⟨none⟩ 57 3 (by kernel_rfl) w
theorem uEs : Try.prog.underlying 45 = some (.slice 57) := by kernel_rfl
set_option maxHeartbeats 4000000 in
set_option maxRecDepth 100000 in
theorem ins_shift (b off n c i vb voff vc : Nat) (cs vs : List Value) (w : World) (hi : i < n) (hn60 : n < 1152921504606846976) (hroom : n + 1 ≤ c) (hvb : vb ≠ b)
    (hcl : cs.length = n * 3) (hvl : vs.length = 3)
    (hcs : ∀ j v, cs[j]? = some v → w.cell? ⟨b, off + j, none⟩ = some v) (hsp : ∀ j, j < (n + 1) * 3 → (w.cell? ⟨b, off + j, none⟩).isSome = true) (hfz : ∀ j, j < (n + 1) * 3 → w.frozen? ⟨b, off + j, none⟩ = false)
    (hvs : ∀ j v, vs[j]? = some v → w.cell? ⟨vb, voff + j, none⟩ = some v) (h1c : ∀ v ∈ cs, v.oneCell' = true) (h1v : ∀ v ∈ vs, v.oneCell' = true)
    (tA tB : TypeId) (kA kB : Nat) (hsa : w.shape? vb = some (tA, kA)) (hsb : w.shape? b = some (tB, kB)) (hkB : kB ≠ 0) (hfa : w.frozen? ⟨vb, voff, none⟩ = false) (hfe : w.frozen? ⟨vb, kA, none⟩ = false) :
    Calls Try.prog 63 #[.slice (some ⟨b, off, none⟩) n c, .int .i64 i, .slice (some ⟨vb, voff, none⟩) (1 : Nat) vc] w fun e w' =>
      e = .returned (.slice (some ⟨b, off, none⟩) (n + 1) c) ∧ w' = (w.drew.setCells b (off + (i + 1) * 3) (cs.drop (i * 3))).setCells b (off + i * 3) vs := by
  have hz2 : ¬ ((i : Int) = (n : Int)) := by omega
  have hov : ∀ lb cb, (callFunc 81 #[.slice (some ⟨vb, voff, none⟩) 1 vc, .slice (some ⟨b, off + (i + 1) * 3, none⟩) lb cb]).run Try.prog w = .ok (.value (.bool false)) w := fun lb cb => by
    rw [run_callFunc_extern Try.func81 (by kernel_rfl) (by kernel_rfl) (by kernel_rfl) (e := Extern.SlicesOverlaps.overlaps #[45, 45] #[4]) (by kernel_rfl),
      Lib.run_overlaps_apart w 45 4 57 uEs 3 szE ⟨vb, voff, none⟩ ⟨b, off + (i + 1) * 3, none⟩ 1 vc lb cb hvb tA tB kA kB hsa hsb hkB hfa hfe]
    rfl
  have hw1 : IntKind.i64.wrap ((i : Int) + 1) = (i : Int) + 1 := by rw [IntKind.wrap_i64]; omega
  have hw2 : IntKind.i64.wrap ((n : Int) + 1) = (n : Int) + 1 := by rw [IntKind.wrap_i64]; omega
  have hb1 : (0 : Int) ≤ (i : Int) + 1 := by omega
  have hin : i ≤ n := by omega
  have htn : ((i : Int) + 1).toNat = i + 1 := by omega
  have hb2 : ¬ (c = i + 1) := by omega
  have hb3 : (i : Int) ≤ (n : Int) + 1 := by omega
  have hb4 : ¬ (c = i) := by omega
  have hdl : (cs.drop (i * 3)).length = (n - i) * 3 := by rw [List.length_drop, hcl, Nat.sub_mul]
  have hcp1 : ∀ ty dc sc, (Builtin.copy_ #[45, 45] ty #[.slice (some ⟨b, off + (i + 1) * 3, none⟩) (n - i) dc, .slice (some ⟨b, off + i * 3, none⟩) (n + 1 - i) sc]).run Try.prog w.drew = .ok (goInt (n - i : Nat)) (w.drew.setCells b (off + (i + 1) * 3) (cs.drop (i * 3))) := fun ty dc sc =>
    run_copy_cellsK w.drew _ _ ty 57 3 b (off + (i + 1) * 3) (n - i) dc ⟨b, off + i * 3, none⟩ (n + 1 - i) sc (n - i) (cs.drop (i * 3)) uEs szE (by simp only [Nat.min_def]; split <;> omega) hdl
      (fun j v hj => by rw [Addr.add_lit, Nat.add_assoc]; exact hcs (i * 3 + j) v (by rwa [List.getElem?_drop] at hj))
      (fun j hj => by rw [Nat.add_assoc]; exact hsp _ (by omega)) (fun j hj => by rw [Nat.add_assoc]; exact hfz _ (by omega)) (fun v hv => h1c v (List.mem_of_mem_drop hv))
  obtain ⟨W1, hW1⟩ : ∃ W1, W1 = w.drew.setCells b (off + (i + 1) * 3) (cs.drop (i * 3)) := ⟨_, rfl⟩
  have hsp1 : ∀ k, k < (n + 1) * 3 → (W1.cell? ⟨b, off + k, none⟩).isSome = true := fun k hk => by
    rw [hW1]
    exact isSome_setCells b _ _ _ (fun j hj => by rw [Nat.add_assoc]; exact hsp _ (by omega)) _ (hsp k hk)
  have hcp2 : ∀ (W : World), (∀ x, W.cell? x = W1.cell? x) → (∀ x, W.frozen? x = W1.frozen? x) → ∀ ty dc, (Builtin.copy_ #[45, 45] ty #[.slice (some ⟨b, off + i * 3, none⟩) (n + 1 - i) dc, .slice (some ⟨vb, voff, none⟩) 1 vc]).run Try.prog W = .ok (goInt (1 : Nat)) (W.setCells b (off + i * 3) vs) := fun W hWc hWf ty dc =>
    run_copy_cellsK W _ _ ty 57 3 b (off + i * 3) (n + 1 - i) dc ⟨vb, voff, none⟩ 1 vc 1 vs uEs szE (by simp only [Nat.min_def]; split <;> omega) (by omega)
      (fun j v hj => by
        rw [Addr.add_lit, hWc, hW1, World.cell?_setCells_out b _ _ _ _ (fun h _ => absurd h hvb)]
        exact hvs j v hj)
      (fun j hj => by rw [hWc, Nat.add_assoc]; exact hsp1 _ (by omega)) (fun j hj => by rw [hWf, hW1, World.frozen?_setCells, Nat.add_assoc]; exact hfz _ (by omega)) h1v
  rw [← hW1] at hcp1
  go_enter Try.func63, Try.ntmps63
  go_wp2_with (simp only [hov])
  go_region_law (refine step_copy_runI rfl _ _ 45 45 rfl _ _ (by simp [Act.eval, Act.put]) (by simp [Act.eval, Act.put]) (hcp1 _ _ _) ?_)
  go_wp2_with (at_builtin; refine wpList_copy_runI _ rfl _ _ 45 45 rfl _ _ rfl rfl (hcp2 _ (fun _ => rfl) (fun _ => rfl) _ _) ?_)
  go_ret
  first | exact ⟨rfl, rfl⟩ | exact ⟨rfl, by rw [hW1]⟩
def zEv : Value := .agg #[.int .i64 0, .int .u64 0, .int .u64 0]
theorem iE : (Try.prog.info? 57).map (fun i => (i.zero, i.size, i.bytes)) = some (some zEv, 3, 24) := by kernel_rfl
theorem uInt : Try.prog.underlying 3 = some (.int .i64) := by kernel_rfl
theorem zc_size (k : Nat) : (Builtin.zeroCells zEv.cells k).size = k * 3 := by
  simp [Builtin.zeroCells, zEv, Value.cells]
def insRow (w : World) (n c i : Nat) (cs : List Value) : Array Value := (cs.take (i * 3)).toArray ++ Builtin.zeroCells zEv.cells (n + 1 - i) ++ Builtin.zeroCells zEv.cells (grownCap w (n + 1) c 57 - (n + 1))
set_option maxHeartbeats 4000000 in
set_option maxRecDepth 100000 in
theorem ins_grow (b off n c i vb voff vc : Nat) (cs vs : List Value) (w : World) (hi : i < n) (hnc : n ≤ c) (hroom : c < n + 1) (hbig : (n + 1) * 24 ≤ 140737488355328)
    (hcl : cs.length = n * 3) (hvl : vs.length = 3)
    (hcs : ∀ j v, cs[j]? = some v → w.cell? ⟨b, off + j, none⟩ = some v)
    (hvs : ∀ j v, vs[j]? = some v → w.cell? ⟨vb, voff + j, none⟩ = some v) (h1c : ∀ v ∈ cs, v.oneCell' = true) (h1v : ∀ v ∈ vs, v.oneCell' = true) :
    Calls Try.prog 63 #[.slice (some ⟨b, off, none⟩) n c, .int .i64 i, .slice (some ⟨vb, voff, none⟩) (1 : Nat) vc] w fun e w' =>
      e = .returned (.slice (some ⟨w.heap.size, 0, none⟩) (n + 1) (grownCap w (n + 1) c 57)) ∧
      w' = (((w.alloc (.cells (insRow w n c i cs) 57)).drew.setCells w.heap.size (i * 3) vs).drew).setCells w.heap.size ((i + 1) * 3) (cs.drop (i * 3)) := by
  obtain ⟨i0, hi0, hz0, hzs, hzb⟩ := info_parts iE
  have hz2 : ¬ ((i : Int) = (n : Int)) := by omega
  have hz3 : (c : Int) < (n : Int) + 1 := by omega
  have hbw : b < w.heap.size := block_lt_of_cell (hcs 0 _ (List.getElem?_eq_getElem (by omega)))
  have hvw : vb < w.heap.size := block_lt_of_cell (hvs 0 _ (List.getElem?_eq_getElem (by omega)))
  have hkk : (n : Int) + 1 - (i : Int) = ((n + 1 - i : Nat) : Int) := by omega
  have hik : i + (n + 1 - i) = n + 1 := by omega
  have hold : (Builtin.firstCells i0.size i (.slice (some ⟨b, off, none⟩) i c)).run Try.prog w.drew = .ok (cs.take (i * 3)).toArray w.drew := by
    rw [hzs]
    exact run_firstCells_some w.drew 3 i ⟨b, off, none⟩ i c (cs.take (i * 3)) (by rw [List.length_take]; omega) (fun j v hj => by
      rw [Addr.add_lit]
      rw [List.getElem?_take] at hj
      split at hj
      · exact hcs j v hj
      · cases hj)
  have hrz : ∀ ty, (Builtin.append_ #[45, 3] ty #[.slice (some ⟨b, off, none⟩) i c, .int .i64 ((n : Int) + 1 - (i : Int))]).run Try.prog w =
      .ok (.slice (some ⟨w.heap.size, 0, none⟩) (n + 1) (grownCap w (n + 1) c 57)) (w.drew.alloc (.cells (insRow w n c i cs) 57)) := fun ty => by
    have h := Lib.run_append_grow_zeros w 45 3 ty 57 i0 _ .i64 .i64 uEs uInt hi0 hz0 (some ⟨b, off, none⟩) i c (cs.take (i * 3)) hold (n + 1 - i) (by omega) (by omega) (by omega) (by omega) (by rw [hzb]; omega) (by rw [hzb, hik]; exact growslice_fits hroom hbig)
    rw [hik] at h
    rw [hkk]
    exact h
  obtain ⟨G, hG⟩ : ∃ G, G = grownCap w (n + 1) c 57 := ⟨_, rfl⟩
  obtain ⟨ROW, hROW⟩ : ∃ ROW : Array Value, ROW = insRow w n c i cs := ⟨_, rfl⟩
  have hRl : (n + 1) * 3 ≤ ROW.size := by
    rw [hROW]
    unfold insRow
    rw [Array.size_append, Array.size_append, zc_size, zc_size, List.size_toArray, List.length_take]
    omega
  rw [← hG, ← hROW] at hrz ⊢
  obtain ⟨W1, hW1⟩ : ∃ W1, W1 = w.drew.alloc (.cells ROW 57) := ⟨_, rfl⟩
  rw [← hW1] at hrz
  have hN : ∀ j, j < (n + 1) * 3 → (W1.cell? ⟨w.heap.size, j, none⟩).isSome = true := fun j hj => by
    rw [hW1, World.cell?_alloc_at (w := w.drew) ROW _ w.heap.size j rfl, Array.getElem?_eq_getElem (by omega)]; rfl
  have hNf : ∀ j, W1.frozen? ⟨w.heap.size, j, none⟩ = false := fun j => by rw [hW1]; exact World.frozen?_alloc_at (w := w.drew) ROW _ w.heap.size j rfl
  have hOb : ∀ j v, w.cell? ⟨b, j, none⟩ = some v → W1.cell? ⟨b, j, none⟩ = some v := fun j v h => by rw [hW1, World.cell?_alloc_past (w := w.drew) _ b j hbw]; exact h
  have hOv : ∀ j v, w.cell? ⟨vb, j, none⟩ = some v → W1.cell? ⟨vb, j, none⟩ = some v := fun j v h => by rw [hW1, World.cell?_alloc_past (w := w.drew) _ vb j hvw]; exact h
  have hcpA : ∀ (W : World), (∀ x, W.cell? x = W1.cell? x) → (∀ x, W.frozen? x = W1.frozen? x) → ∀ ty dc, (Builtin.copy_ #[45, 45] ty #[.slice (some ⟨w.heap.size, i * 3, none⟩) (n + 1 - i) dc, .slice (some ⟨vb, voff, none⟩) 1 vc]).run Try.prog W = .ok (goInt (1 : Nat)) (W.setCells w.heap.size (i * 3) vs) := fun W hWc hWf ty dc =>
    run_copy_cellsK W _ _ ty 57 3 w.heap.size (i * 3) (n + 1 - i) dc ⟨vb, voff, none⟩ 1 vc 1 vs uEs szE (by simp only [Nat.min_def]; split <;> omega) (by omega)
      (fun j v hj => by rw [Addr.add_lit, hWc]; exact hOv _ v (hvs j v hj))
      (fun j hj => by rw [hWc]; exact hN _ (by omega)) (fun j hj => by rw [hWf]; exact hNf _) h1v
  have hGn : n + 1 ≤ G := by rw [hG]; exact grownCap_ge w _ _ _
  have hG63 : G ≤ 9223372036854775807 := by
    have := grownCap_le_maxLen w (n + 1) c 57 (by unfold maxLen; omega)
    rw [← hG] at this
    unfold maxLen at this
    omega
  have hGi : ¬ (G = i) := by omega
  have hGim : ¬ (G = i + 1) := by omega
  have hci : ¬ (c = i) := by omega
  have hbN : b ≠ w.heap.size := by omega
  have hdl : (cs.drop (i * 3)).length = (n - i) * 3 := by rw [List.length_drop, hcl, Nat.sub_mul]
  have hcpB : ∀ (W : World), (∀ x, W.cell? x = (W1.setCells w.heap.size (i * 3) vs).cell? x) → (∀ x, W.frozen? x = (W1.setCells w.heap.size (i * 3) vs).frozen? x) → ∀ ty dc sc, (Builtin.copy_ #[45, 45] ty #[.slice (some ⟨w.heap.size, (i + 1) * 3, none⟩) (n - i) dc, .slice (some ⟨b, off + i * 3, none⟩) (n - i) sc]).run Try.prog W = .ok (goInt (n - i : Nat)) (W.setCells w.heap.size ((i + 1) * 3) (cs.drop (i * 3))) := fun W hWc hWf ty dc sc =>
    run_copy_cellsK W _ _ ty 57 3 w.heap.size ((i + 1) * 3) (n - i) dc ⟨b, off + i * 3, none⟩ (n - i) sc (n - i) (cs.drop (i * 3)) uEs szE (by simp) hdl
      (fun j v hj => by
        rw [Addr.add_lit, hWc, World.cell?_setCells_out _ _ _ _ _ (fun h _ => absurd h hbN), Nat.add_assoc]
        exact hOb _ v (hcs (i * 3 + j) v (by rwa [List.getElem?_drop] at hj)))
      (fun j hj => by rw [hWc]; exact isSome_setCells _ _ _ _ (fun t ht => hN _ (by omega)) _ (hN _ (by omega)))
      (fun j hj => by rw [hWf, World.frozen?_setCells]; exact hNf _) (fun v hv => h1c v (List.mem_of_mem_drop hv))
  subst hW1
  have hE1 : ∀ x, ((w.alloc (.cells ROW 57)).drew).cell? x = (w.drew.alloc (.cells ROW 57)).cell? x := fun x => rfl
  have hE2 : ∀ x, ((w.alloc (.cells ROW 57)).drew).frozen? x = (w.drew.alloc (.cells ROW 57)).frozen? x := fun x => rfl
  have hF1 : ∀ x, (((w.alloc (.cells ROW 57)).drew.setCells w.heap.size (i * 3) vs).drew).cell? x = ((w.drew.alloc (.cells ROW 57)).setCells w.heap.size (i * 3) vs).cell? x := fun x => rfl
  have hF2 : ∀ x, (((w.alloc (.cells ROW 57)).drew.setCells w.heap.size (i * 3) vs).drew).frozen? x = ((w.drew.alloc (.cells ROW 57)).setCells w.heap.size (i * 3) vs).frozen? x := fun x => rfl
  have hw1 : IntKind.i64.wrap ((i : Int) + 1) = (i : Int) + 1 := by rw [IntKind.wrap_i64]; omega
  have hw2 : IntKind.i64.wrap ((n : Int) + 1) = (n : Int) + 1 := by rw [IntKind.wrap_i64]; omega
  have hw3 : IntKind.i64.wrap ((n : Int) + 1 - (i : Int)) = (n : Int) + 1 - (i : Int) := by rw [IntKind.wrap_i64]; omega
  have hb1 : (0 : Int) ≤ (i : Int) + 1 := by omega
  have hin : i ≤ n := by omega
  have htn : ((i : Int) + 1).toNat = i + 1 := by omega
  have hb3 : (i : Int) ≤ (n : Int) := by omega
  clear hkk hik hold hROW hG hRl
  go_enter Try.func63, Try.ntmps63
  go_wp2_with (first
    | (at_builtin; refine Lib.wpList_append_run _ rfl _ _ _ _ rfl _ _ rfl rfl _ _ (hrz _) ?_)
    | (at_builtin; refine wpList_copy_runI _ rfl _ _ 45 45 rfl _ _ rfl rfl (hcpA _ hE1 hE2 _ _) ?_)
    | (at_builtin; refine wpList_copy_runI _ rfl _ _ 45 45 rfl _ _ rfl rfl (hcpB _ (fun _ => rfl) (fun _ => rfl) _ _ _) ?_))
  go_region_law (refine step_copy_runI rfl _ _ 45 45 rfl (.slice (some ⟨w.heap.size, (i + 1) * 3, none⟩) (n - i) (G - (i + 1))) (.slice (some ⟨b, off + i * 3, none⟩) (n - i) (c - i)) (by simp [Act.eval, Act.put]) (by simp [Act.eval, Act.put]) (hcpB _ hF1 hF2 3 (G - (i + 1)) (c - i)) ?_)
  go_wp2
  go_ret
  exact ⟨rfl, rfl⟩
set_option maxHeartbeats 4000000 in
set_option maxRecDepth 100000 in
theorem ins_end (ad : Addr) (n c : Nat) (x : Value) (vb voff vc : Nat) (w w' : World) (v' : Value) (hnc : n ≤ c) (hn : n < 1152921504606846976) (hx : x = .slice (some ⟨vb, voff, none⟩) (1 : Nat) vc)
    (hrun : (Builtin.append_ #[45, 45] 45 #[.slice (some ad) n c, x]).run Try.prog w = .ok v' w') :
    Calls Try.prog 63 #[.slice (some ad) n c, .int .i64 n, x] w fun e w2 => e = .returned v' ∧ w2 = w' := by
  subst hx
  have hin : n ≤ n := Nat.le_refl n
  go_enter Try.func63, Try.ntmps63
  go_wp2_with (at_builtin; refine Lib.wpList_append_run _ rfl _ _ _ _ rfl _ _ rfl rfl _ _ hrun ?_)
  all_goals (go_ret; exact ⟨rfl, rfl⟩)
set_option maxHeartbeats 4000000 in
set_option maxRecDepth 100000 in
theorem ins_endN (x : Value) (vb voff vc : Nat) (w w' : World) (v' : Value) (hx : x = .slice (some ⟨vb, voff, none⟩) (1 : Nat) vc)
    (hrun : (Builtin.append_ #[45, 45] 45 #[.slice none 0 0, x]).run Try.prog w = .ok v' w') :
    Calls Try.prog 63 #[.slice none 0 0, .int .i64 0, x] w fun e w2 => e = .returned v' ∧ w2 = w' := by
  subst hx
  go_enter Try.func63, Try.ntmps63
  go_wp2_with (at_builtin; refine Lib.wpList_append_run _ rfl _ _ _ _ rfl _ _ rfl rfl _ _ hrun ?_)
  go_ret
  exact ⟨rfl, rfl⟩
end Go.Proofs
namespace Go.Am
open Go.Proofs
set_option maxRecDepth 100000
set_option linter.all false
theorem own_frz {P : Program} {k : Blk} {l : Loc} {w : World} (h : Own P k l w) (he : l.es = 3) (j : Nat) : w.frozen? ⟨l.cb, j, none⟩ = false := by
  obtain ⟨cs, e, lo, hi, hh, hs, _, hf⟩ := h
  have : lo = hi := by omega
  subst this
  simp only [World.frozen?, hh]
  simp
theorem own_shape {P : Program} {k : Blk} {l : Loc} {w : World} (h : Own P k l w) : ∃ e, w.shape? l.cb = some (e, l.sz) := by
  obtain ⟨cs, e, lo, hi, hh, hs, _, hf⟩ := h
  exact ⟨e, by simp only [World.shape?, hh, hs]⟩
theorem own_cell {P : Program} {k : Blk} {l : Loc} {w : World} (h : Own P k l w) {j : Nat} (hj : j < l.sz) : (w.cell? ⟨l.cb, j, none⟩).isSome = true := by
  obtain ⟨cs, e, lo, hi, hh, hs, _, hf⟩ := h
  simp only [World.cell?, hh]
  simp
  omega
theorem Wrote.tr {c : Nat} {a b d : World} (h : Wrote c a b) (k : Wrote c b d) : Wrote c a d :=
  ⟨k.os.trans h.os, k.tape.trans h.tape, k.output.trans h.output, k.size.trans h.size, fun x hx => (k.blk x hx).trans (h.blk x hx), Nat.le_trans h.drawn k.drawn⟩
theorem drew_wrote (c : Nat) (w : World) : Wrote c w w.drew := ⟨rfl, rfl, rfl, rfl, fun _ _ => rfl, Nat.le_succ _⟩
theorem ins_blk {E : Env} {row xs row' xs' : List Value} (hr : LRel E row row') (hx : LRel E xs xs') {w2 : World} {cb s i : Nat} (hi : i * 3 ≤ row.length) (hxl : xs.length = 3)
    (c1 : ∀ j v, j < i * 3 → row'[j]? = some v → w2.cell? ⟨cb, s + j, none⟩ = some v) (c2 : ∀ j v, xs'[j]? = some v → w2.cell? ⟨cb, s + i * 3 + j, none⟩ = some v)
    (c3 : ∀ j v, (row'.drop (i * 3))[j]? = some v → w2.cell? ⟨cb, s + (i + 1) * 3 + j, none⟩ = some v) :
    ∀ (k : Nat) v, (row.take (i * 3) ++ (xs ++ row.drop (i * 3)))[k]? = some v → ∃ v', w2.cell? ⟨cb, s + k, none⟩ = some v' ∧ VR E v v' := by
  intro k v hk
  have hlt : (row.take (i * 3)).length = i * 3 := by rw [List.length_take]; omega
  rcases Nat.lt_or_ge k (i * 3) with h1 | h1
  · rw [List.getElem?_append_left (by omega), List.getElem?_take, if_pos h1] at hk
    obtain ⟨v', h2, h3⟩ := hr.2 k v hk
    exact ⟨v', c1 k v' h1 h2, h3⟩
  · rw [List.getElem?_append_right (by omega), hlt] at hk
    rcases Nat.lt_or_ge (k - i * 3) 3 with h2 | h2
    · rw [List.getElem?_append_left (by omega)] at hk
      obtain ⟨v', h3, h4⟩ := hx.2 _ v hk
      refine ⟨v', ?_, h4⟩
      have := c2 _ v' h3
      rwa [show s + i * 3 + (k - i * 3) = s + k by omega] at this
    · rw [List.getElem?_append_right (by omega), hxl, List.getElem?_drop] at hk
      obtain ⟨v', h3, h4⟩ := hr.2 _ v hk
      refine ⟨v', ?_, h4⟩
      have := c3 (k - i * 3 - 3) v' (by rw [List.getElem?_drop]; exact h3)
      rwa [show s + (i + 1) * 3 + (k - i * 3 - 3) = s + k by omega] at this
theorem set_in {w : World} {b o : Nat} {vs : List Value} (h : ∀ j, j < vs.length → (w.cell? ⟨b, o + j, none⟩).isSome = true) {j : Nat} {v : Value} (hv : vs[j]? = some v) : (w.setCells b o vs).cell? ⟨b, o + j, none⟩ = some v := by
  obtain ⟨hj, e⟩ := List.getElem?_eq_some_iff.1 hv
  rw [World.cell?_setCells_in b vs o w h j hj, e]
theorem set_out {w : World} {b o k : Nat} {vs : List Value} (h : k < o ∨ o + vs.length ≤ k) : (w.setCells b o vs).cell? ⟨b, k, none⟩ = w.cell? ⟨b, k, none⟩ :=
  World.cell?_setCells_out b vs o w _ (fun _ _ => h)
theorem alloc_pushed (w : World) (o : Obj) : Pushed w (w.alloc o) :=
  ⟨rfl, rfl, rfl, by show (w.heap.push o).size = _; rw [Array.size_push], fun c hc => by show (w.heap.push o)[c]? = _; rw [Array.getElem?_push, if_neg (by omega)], Nat.le_refl _⟩
theorem Pushed.wr {w a d : World} (h : Pushed w a) (k : Wrote w.heap.size a d) : Pushed w d :=
  ⟨k.os.trans h.os, k.tape.trans h.tape, k.output.trans h.output, k.size.trans h.size, fun c hc => (k.blk c (by omega)).trans (h.blk c hc), Nat.le_trans h.drawn k.drawn⟩
theorem insRow_size (w : World) (n c i : Nat) (cs : List Value) (hi : i < n) (hl : cs.length = n * 3) : (insRow w n c i cs).size = grownCap w (n + 1) c 57 * 3 := by
  have hg : n + 1 ≤ grownCap w (n + 1) c 57 := grownCap_ge w _ _ _
  unfold insRow
  rw [Array.size_append, Array.size_append, zc_size, zc_size, List.size_toArray, List.length_take, hl]
  omega
theorem insRow_at (w : World) (n c i : Nat) (cs : List Value) {j : Nat} (hj : j < i * 3) (hl : i * 3 ≤ cs.length) : (insRow w n c i cs)[j]? = cs[j]? := by
  unfold insRow
  have h1 : j < ((cs.take (i * 3)).toArray).size := by rw [List.size_toArray, List.length_take]; omega
  rw [Array.append_assoc, Array.getElem?_append_left h1, List.getElem?_toArray, List.getElem?_take, if_pos hj]
theorem ins_sound (base : Nat) (args : Array Value) (h : Heap) (v : Value) (h' : Heap) (E : Env) (w : World) (args' : Array Value) (hv : insX args h = some (v, h')) (hR : Rel Try.prog base E h w) (ha : ARel E args args') (hfree : Free E h h') :
    Calls Try.prog 63 args' w fun e w' => ∃ v' E', e = .returned v' ∧ Post Try.prog base E h w E' h' w' ∧ VR E' v v' := by
  have three : ∀ x y z, args.toList = [x, y, z] → ∃ x' y' z', args' = #[x', y', z'] ∧ VR E x x' ∧ VR E y y' ∧ VR E z z' := fun x y z he => by
    have hl := ha.list
    rw [he] at hl
    obtain ⟨x', h1, r1⟩ := hl.2 0 x rfl
    obtain ⟨y', h2, r2⟩ := hl.2 1 y rfl
    obtain ⟨z', h3, r3⟩ := hl.2 2 z rfl
    have h4 := hl.1
    refine ⟨x', y', z', ?_, r1, r2, r3⟩
    obtain ⟨l⟩ := args'
    match l, h4, h1, h2, h3 with
    | [a, b, c], _, h1, h2, h3 => cases h1; cases h2; cases h3; rfl
  unfold insX at hv
  split at hv
  · rename_i a n c i vb he
    obtain ⟨x', y', z', rfl, r1, r2, r3⟩ := three _ _ _ he
    have hy : y' = .int .i64 i := by cases r2; rfl
    subst hy
    have r30 := r3
    rcases r3.slice_inv with ⟨lz, cz, ez, _, _, _, rfl⟩ | ⟨h0, _⟩
    rotate_left
    · omega
    split at hv
    · rename_i hin
      subst hin
      split at hv
      · rename_i hn
        obtain ⟨E', w', v', g1, g2, g3⟩ := appendV_run (t2 := 45) (ts := #[45, 45]) hR rfl hfree hv r1 r30
        have fin : ∀ e w2, e = Ending.returned v' ∧ w2 = w' → ∃ v' E', e = .returned v' ∧ Post Try.prog base E h w E' h' w2 ∧ VR E' v v' := fun e w2 ⟨q1, q2⟩ => ⟨v', E', q1, by rw [q2]; exact g2, g3⟩
        cases r1 with
        | sliceNil => exact (ins_endN _ lz.cb (lz.s + 0) cz w w' v' rfl g1).mono fin
        | slice q1 q2 q3 q4 => exact (ins_end _ n _ _ lz.cb (lz.s + 0) cz w w' v' q3 (by omega) rfl g1).mono fin
        | sliceEmpty q => exact (ins_end _ 0 0 _ lz.cb (lz.s + 0) cz w w' v' (Nat.le_refl _) (by omega) rfl g1).mono fin
      · cases hv
    · split at hv
      · rename_i hne hc
        obtain ⟨i0, i1, n40, hcap⟩ := hc
        obtain ⟨i, rfl⟩ : ∃ k : Nat, i = k := ⟨i.toNat, by omega⟩
        rw [Int.toNat_natCast] at hv
        split at hv
        · rename_i b o
          split at hv
          · rename_i cs ty xs ty2 hk hkv
            split at hv
            · rename_i hc2
              obtain ⟨rfl, rfl, hbv, hle, hxl, hx1, hc1⟩ := hc2
              simp only [Option.some.injEq, Prod.mk.injEq] at hv
              obtain ⟨rfl, rfl⟩ := hv
              rcases r1.slice_inv with ⟨l, c', e1, e2, e3, e4, rfl⟩ | ⟨h0, _⟩
              rotate_left
              · omega
              have hin : i < n := by omega
              have hfr : E h.blks.length = none := hfree _ (Nat.le_refl _) (by rw [Heap.new_len, Heap.put_len]; omega)
              have hsz3 : sizeT Try.prog 57 = some 3 := by kernel_rfl
              have hblk := hR.blk b _ l hk e1
              have hblz := hR.blk vb _ lz hkv ez
              have hes : l.es = 3 := by have := hblk.1; simp only at this; rw [hsz3] at this; simpa using this.symm
              have hez : lz.es = 3 := by have := hblz.1; simp only at this; rw [hsz3] at this; simpa using this.symm
              have own := hblk.2.2 rfl
              have ownz := hblz.2.2 rfl
              have hcb : lz.cb ≠ l.cb := fun e => hbv (hR.inj b vb _ _ l lz hk hkv e1 ez rfl rfl trivial trivial e.symm)
              have hload : h.loadN b o (n * 3) = some ((cs.drop o).take (n * 3)) := by
                unfold Heap.loadN Heap.cells?
                simp only [hk]
                rw [if_pos hle]
              have hloadv : h.loadN vb 0 3 = some xs := by
                unfold Heap.loadN Heap.cells?
                simp only [hkv]
                rw [if_pos (by omega), List.drop_zero, List.take_of_length_le (by omega)]
              obtain ⟨row', hr, hcell⟩ := loadN_read hR hload e1
              obtain ⟨xs', hx, hcellx⟩ := loadN_read hR hloadv ez
              have hrl : ((cs.drop o).take (n * 3)).length = n * 3 := by rw [List.length_take, List.length_drop]; omega
              have hr'l : row'.length = n * 3 := by rw [← hr.1]; exact hrl
              have hx'l : xs'.length = 3 := by rw [← hx.1]; exact hxl
              have h1c : ∀ v ∈ row', v.oneCell' = true := hr.all_one hc1
              have h1v : ∀ v ∈ xs', v.oneCell' = true := hx.all_one hx1
              have hcs : ∀ j v, row'[j]? = some v → w.cell? ⟨l.cb, l.s + o + j, none⟩ = some v := fun j v hj => by rw [Nat.add_assoc]; exact hcell j v hj
              have hvs : ∀ j v, xs'[j]? = some v → w.cell? ⟨lz.cb, lz.s + 0 + j, none⟩ = some v := fun j v hj => by rw [Nat.add_assoc]; exact hcellx j v hj
              have htk : (cs.drop o).take (i * 3) = ((cs.drop o).take (n * 3)).take (i * 3) := by rw [List.take_take, Nat.min_eq_left (by omega)]
              rw [htk] at hfree ⊢
              clear htk
              generalize hrow : (cs.drop o).take (n * 3) = row at *
              rcases Nat.lt_or_ge c' (n + 1) with hgrow | hshift
              · have hG := grownCap_ge w (n + 1) c' 57
                have hsz := insRow_size w n c' i row' hin hr'l
                have hat : ∀ j, j < i * 3 → (insRow w n c' i row')[j]? = row'[j]? := fun j hj => insRow_at w n c' i row' hj (by omega)
                refine (ins_grow l.cb (l.s + o) n c' i lz.cb (lz.s + 0) cz row' xs' w hin e3 hgrow (by omega) hr'l hx'l hcs hvs h1c h1v).mono ?_
                rintro e w' ⟨rfl, rfl⟩
                generalize hROW : insRow w n c' i row' = ROW at *
                generalize grownCap w (n + 1) c' 57 = G at *
                have pk := Post.kill hR hk e1 rfl trivial hblk.1
                have hpl : (h.put b .dead).blks.length = h.blks.length := Heap.put_len _ _ _
                have hA : ∀ j, (w.alloc (.cells ROW 57)).drew.cell? ⟨w.heap.size, j, none⟩ = ROW[j]? := fun j => World.cell?_alloc_at (w := w) ROW _ w.heap.size j rfl
                have hAs : ∀ j, j < G * 3 → ((w.alloc (.cells ROW 57)).drew.cell? ⟨w.heap.size, j, none⟩).isSome = true := fun j hj => by
                  rw [hA, Array.getElem?_eq_getElem (by omega)]; rfl
                have hd : (row'.drop (i * 3)).length = (n - i) * 3 := by rw [List.length_drop, hr'l, Nat.sub_mul]
                have hs2 : ∀ j, j < xs'.length → ((w.alloc (.cells ROW 57)).drew.cell? ⟨w.heap.size, i * 3 + j, none⟩).isSome = true := fun j hj => hAs _ (by omega)
                have hs1 : ∀ j, j < (row'.drop (i * 3)).length → (((w.alloc (.cells ROW 57)).drew.setCells w.heap.size (i * 3) xs').drew.cell? ⟨w.heap.size, (i + 1) * 3 + j, none⟩).isSome = true := fun j hj => by
                  show (((w.alloc (.cells ROW 57)).drew.setCells w.heap.size (i * 3) xs').cell? ⟨w.heap.size, (i + 1) * 3 + j, none⟩).isSome = true
                  rw [set_out (.inr (by omega))]
                  exact hAs _ (by omega)
                have pw : Pushed w ((((w.alloc (.cells ROW 57)).drew.setCells w.heap.size (i * 3) xs').drew).setCells w.heap.size ((i + 1) * 3) (row'.drop (i * 3))) :=
                  (alloc_pushed w _).wr ((((drew_wrote _ _).tr (setCells_far _ _ _ _)).tr (drew_wrote _ _)).tr (setCells_far _ _ _ _))
                have hh : (w.alloc (.cells ROW 57)).drew.heap[w.heap.size]? = some (.cells ROW 57 (0, 0)) := by
                  show (w.heap.push (.cells ROW 57))[w.heap.size]? = _
                  simp
                obtain ⟨c2, q2, s2⟩ := setCells_block w.heap.size xs' (i * 3) _ hh
                obtain ⟨c3, q3, s3⟩ := setCells_block w.heap.size (row'.drop (i * 3)) ((i + 1) * 3) (((w.alloc (.cells ROW 57)).drew.setCells w.heap.size (i * 3) xs').drew) q2
                have p2 := Post.new pk.rel (by rw [hpl]; exact hfr) (.cells (row.take (i * 3) ++ (xs ++ row.drop (i * 3)))) 57 ⟨w.heap.size, 0, G * 3, 3⟩ rfl pw ⟨hsz3, by
                  refine ins_blk hr hx (by omega) hxl (fun j v hj hv => ?_) (fun j v hv => ?_) (fun j v hv => ?_)
                  · rw [Nat.zero_add, set_out (.inl (by omega))]
                    show ((w.alloc (.cells ROW 57)).drew.setCells w.heap.size (i * 3) xs').cell? _ = _
                    rw [set_out (.inl hj), hA, hat j hj]
                    exact hv
                  · have hj := (List.getElem?_eq_some_iff.1 hv).1
                    rw [Nat.zero_add, set_out (.inl (by omega))]
                    exact set_in hs2 hv
                  · rw [Nat.zero_add]
                    exact set_in hs1 hv, fun _ => ⟨c3, _, 0, 0, q3, by rw [s3, s2, hsz], hsz3, .inl rfl⟩⟩
                have p3 := pk.trans p2 (Grow.put hk trivial _ rfl) (Grow.new _ _ _ (by simp [Body.kind])) (by intro x hx hx'; exact hfree x hx hx')
                refine ⟨_, _, rfl, p3, ?_⟩
                rw [hpl]
                have := VR.slice (E := E.upd h.blks.length ⟨w.heap.size, 0, G * 3, 3⟩) (b := h.blks.length) (o := 0) (n := n + 1) (c := UNK) (c' := G) (Env.upd_same _ _ _) (.inl rfl) hG (fun _ => by simp)
                simpa using this
              · -- in place
                have hU : c = UNK := by
                  rcases e2 with e | ⟨e, _⟩
                  · exact e
                  · rcases hcap with e' | e'
                    · exact e'
                    · omega
                have hb4 := e4 hU
                rw [hes] at hb4
                have hroom : l.s + o + (n + 1) * 3 ≤ l.sz := by
                  have : (n + 1) * 3 ≤ c' * 3 := Nat.mul_le_mul_right _ hshift
                  omega
                obtain ⟨tA, hsa⟩ := own_shape ownz
                obtain ⟨tB, hsb⟩ := own_shape own
                have hsp : ∀ j, j < (n + 1) * 3 → (w.cell? ⟨l.cb, l.s + o + j, none⟩).isSome = true := fun j hj => own_cell own (by omega)
                refine (ins_shift l.cb (l.s + o) n c' i lz.cb (lz.s + 0) cz row' xs' w hin (by omega) hshift hcb hr'l hx'l hcs hsp (fun j _ => own_frz own hes _) hvs h1c h1v tA tB lz.sz l.sz hsa hsb (by omega) (own_frz ownz hez _) (own_frz ownz hez _)).mono ?_
                rintro e w' ⟨rfl, rfl⟩
                have hd : (row'.drop (i * 3)).length = (n - i) * 3 := by rw [List.length_drop, hr'l, Nat.sub_mul]
                have hs1 : ∀ j, j < (row'.drop (i * 3)).length → (w.drew.cell? ⟨l.cb, l.s + o + (i + 1) * 3 + j, none⟩).isSome = true := fun j hj => by
                  rw [Nat.add_assoc (l.s + o)]; exact hsp _ (by omega)
                have hs2 : ∀ j, j < xs'.length → ((w.drew.setCells l.cb (l.s + o + (i + 1) * 3) (row'.drop (i * 3))).cell? ⟨l.cb, l.s + o + i * 3 + j, none⟩).isSome = true := fun j hj => by
                  rw [set_out (.inl (by omega)), Nat.add_assoc (l.s + o)]; exact hsp _ (by omega)
                refine ⟨_, _, rfl, Post.alias hR hfr hk e1 rfl trivial hblk.1 _ _ ⟨l.cb, l.s + o, l.sz, 3⟩ rfl (((drew_wrote _ _).tr (setCells_far _ _ _ _)).tr (setCells_far _ _ _ _)) ⟨hsz3, ?_, fun _ => ?_⟩, ?_⟩
                · refine ins_blk hr hx (by omega) hxl (fun j v hj hv => ?_) (fun j v hv => set_in hs2 hv) (fun j v hv => ?_)
                  · show ((w.drew.setCells l.cb (l.s + o + (i + 1) * 3) (row'.drop (i * 3))).setCells l.cb (l.s + o + i * 3) xs').cell? ⟨l.cb, l.s + o + j, none⟩ = some v
                    rw [set_out (.inl (by omega)), set_out (.inl (by omega))]
                    exact hcs j v hv
                  · show ((w.drew.setCells l.cb (l.s + o + (i + 1) * 3) (row'.drop (i * 3))).setCells l.cb (l.s + o + i * 3) xs').cell? ⟨l.cb, l.s + o + (i + 1) * 3 + j, none⟩ = some v
                    rw [set_out (.inr (by rw [hx'l]; omega))]
                    exact set_in hs1 hv
                · obtain ⟨c1, ee, lo, hi, hh, hsz, _, hfz⟩ := own
                  obtain ⟨c2, q2, s2⟩ := setCells_block l.cb (row'.drop (i * 3)) (l.s + o + (i + 1) * 3) w.drew hh
                  obtain ⟨c3, q3, s3⟩ := setCells_block l.cb xs' (l.s + o + i * 3) _ q2
                  exact ⟨c3, ee, lo, hi, q3, by rw [s3, s2, hsz], hsz3, by show lo = hi ∨ l.sz ≤ lo ∧ 3 = 1; rw [← hes]; exact hfz⟩
                · have := VR.slice (E := E.upd h.blks.length ⟨l.cb, l.s + o, l.sz, 3⟩) (b := h.blks.length) (o := 0) (n := n + 1) (c := UNK) (c' := c') (Env.upd_same _ _ _) (.inl rfl) hshift (fun _ => by simpa using hb4)
                  simpa using this
            · cases hv
          · cases hv
        · cases hv
      · cases hv
  · cases hv
end Go.Am
namespace Go.Proofs
open Go.Shelf
def srtLay_ren : Go.Shelf.Ren := ⟨fun | 6 => 52 | 15 => 76 | 14 => 75 | 28 => 95 | 29 => 96 | 20 => 87 | 21 => 88 | 22 => 89 | 23 => 90 | 24 => 91 | 25 => 92 | 26 => 93 | 27 => 94 | 46 => 99 | 47 => 100 | 48 => 101 | 49 => 102 | 50 => 103 | 57 => 105 | n => n, fun | 22 => 45 | 24 => 57 | 25 => 98 | 3 => 3 | 39 => 114 | 0 => 0 | 53 => 154 | 55 => 35 | 4 => 4 | 46 => 148 | 45 => 147 | 50 => 39 | 5 => 5 | 9 => 9 | 66 => 156 | 70 => 160 | 76 => 163 | 77 => 164 | n => n, fun | n => n⟩
theorem srtLay : Go.Proofs.SlLaysF0.n6 Try.prog srtLay_ren := { mixed := by kernel_rfl, f6 := ⟨Try.f52.name, by decide, Try.func52.trans (congrArg some (by kernel_rfl))⟩, f14 := ⟨Try.f75.name, by decide, Try.func75.trans (congrArg some (by kernel_rfl))⟩, f15 := Try.func76.trans (congrArg some (by kernel_rfl)), f20 := ⟨Try.f87.name, by decide, Try.func87.trans (congrArg some (by kernel_rfl))⟩, f21 := ⟨Try.f88.name, by decide, Try.func88.trans (congrArg some (by kernel_rfl))⟩, f22 := ⟨Try.f89.name, by decide, Try.func89.trans (congrArg some (by kernel_rfl))⟩, f23 := ⟨Try.f90.name, by decide, Try.func90.trans (congrArg some (by kernel_rfl))⟩, f24 := ⟨Try.f91.name, by decide, Try.func91.trans (congrArg some (by kernel_rfl))⟩, f25 := ⟨Try.f92.name, by decide, Try.func92.trans (congrArg some (by kernel_rfl))⟩, f26 := ⟨Try.f93.name, by decide, Try.func93.trans (congrArg some (by kernel_rfl))⟩, f27 := ⟨Try.f94.name, by decide, Try.func94.trans (congrArg some (by kernel_rfl))⟩, f28 := Try.func95.trans (congrArg some (by kernel_rfl)), f29 := Try.func96.trans (congrArg some (by kernel_rfl)), f46 := ⟨Try.f99.name, by decide, Try.func99.trans (congrArg some (by kernel_rfl))⟩, f47 := Try.func100.trans (congrArg some (by kernel_rfl)), f48 := Try.func101.trans (congrArg some (by kernel_rfl)), f49 := ⟨Try.f102.name, by decide, Try.func102.trans (congrArg some (by kernel_rfl))⟩, f50 := ⟨Try.f103.name, by decide, Try.func103.trans (congrArg some (by kernel_rfl))⟩, f57 := ⟨Try.f105.name, by decide, Try.func105.trans (congrArg some (by kernel_rfl))⟩, t0 := Try.underlying0, a0 := Try.isAgg0, z0 := Try.sizeOf0, v0 := Try.zeroValue0, t3 := Try.underlying3, a3 := Try.isAgg3, z3 := Try.sizeOf3, v3 := Try.zeroValue3, t4 := Try.underlying4, a4 := Try.isAgg4, z4 := Try.sizeOf4, v4 := Try.zeroValue4, t5 := Try.underlying5, a5 := Try.isAgg5, z5 := Try.sizeOf5, v5 := Try.zeroValue5, t9 := Try.underlying9, a9 := Try.isAgg9, z9 := Try.sizeOf9, v9 := Try.zeroValue9, t22 := Try.underlying45, a22 := Try.isAgg45, z22 := Try.sizeOf45, v22 := Try.zeroValue45, t25 := Try.underlying98, a25 := Try.isAgg98, z25 := Try.sizeOf98, v25 := Try.zeroValue98, t39 := Try.underlying114, a39 := Try.isAgg114, z39 := Try.sizeOf114, v39 := Try.zeroValue114, t45 := Try.underlying147, a45 := Try.isAgg147, z45 := Try.sizeOf147, v45 := Try.zeroValue147, t46 := Try.underlying148, a46 := Try.isAgg148, z46 := Try.sizeOf148, v46 := Try.zeroValue148, t50 := Try.underlying39, a50 := Try.isAgg39, z50 := Try.sizeOf39, v50 := Try.zeroValue39, t53 := Try.underlying154, a53 := Try.isAgg154, z53 := Try.sizeOf154, v53 := Try.zeroValue154, t55 := Try.underlying35, a55 := Try.isAgg35, z55 := Try.sizeOf35, v55 := Try.zeroValue35, t66 := Try.underlying156, a66 := Try.isAgg156, z66 := Try.sizeOf156, v66 := Try.zeroValue156, t70 := Try.underlying160, a70 := Try.isAgg160, z70 := Try.sizeOf160, v70 := Try.zeroValue160, t76 := Try.underlying163, a76 := Try.isAgg163, z76 := Try.sizeOf163, v76 := Try.zeroValue163, t77 := Try.underlying164, a77 := Try.isAgg164, z77 := Try.sizeOf164, v77 := Try.zeroValue164 }
end Go.Proofs
namespace Go.Am
open Go.Proofs Go.Sort
set_option maxRecDepth 100000
set_option linter.all false
theorem mixedT : Try.prog.follows .mixedOrders = true := by kernel_rfl
theorem grown_of {h : Heap} {W W' : World} (fr : Fr noE h W W') : ∃ q os', W' = grow (W.drewN q) os' := by
  have hb : ∀ c, c < W.heap.size → W'.heap[c]? = W.heap[c]? := fun c hc => fr.blk c hc fun ⟨b, k, l, _, h1, _⟩ => by cases h1
  have ho := fr.os
  have ht := fr.tape
  have hu := fr.output
  have hs := fr.size
  have hd := fr.drawn
  obtain ⟨heap, tape, drawn, os, output⟩ := W
  obtain ⟨heap', tape', drawn', os', output'⟩ := W'
  simp only at ho ht hu hs hd hb
  subst ho ht hu
  refine ⟨drawn' - drawn, heap'.extract heap.size heap'.size, ?_⟩
  unfold grow World.drewN
  simp only
  congr 1
  · apply Array.ext_getElem?
    intro c
    rcases Nat.lt_or_ge c heap.size with h1 | h1
    · rw [Array.getElem?_append_left h1, ← hb c h1]
    · rw [Array.getElem?_append_right h1, Array.getElem?_extract]
      split
      · rename_i h2; rw [show heap.size + (c - heap.size) = c by omega]
      · rename_i h2; rw [Array.getElem?_eq_none (by omega)]
  · omega
theorem cmp_lays (blk off size : Nat) (w : World) : CmpLays Try.prog 48 #[] entC 3 cmpE blk off size w := fun m os dk _ x y => by
  obtain ⟨h', he, _⟩ := Z.spec_order x y ⟨[], []⟩
  have hA : ARel noE #[entV x, entV y] #[.agg (entC x).toArray, .agg (entC y).toArray] := ⟨rfl, fun i h1 h2 => by
    have : i = 0 ∨ i = 1 := by simp at h1; omega
    rcases this with rfl | rfl
    · exact VR.of_ground (v := entV x) (by simp [ground, entV, ground0])
    · exact VR.of_ground (v := entV y) (by simp [ground, entV, ground0])⟩
  rw [Array.append_empty]
  refine (@evC_sound _ Z.xt0 Z.gl0 Z.xo0 mixedT (sortWorldK entC 3 w blk off m dk os).heap.size 48 #[entV x, entV y] ⟨[], []⟩ _ h' noE _ _ he (@rel_none _ Z.gl0 _ (@GlobW.none _ Z.gl0 rfl _ _)) hA (fun b _ _ => rfl)).mono ?_
  rintro e W' ⟨v', E', h1, h2, h3⟩
  cases h3
  exact ⟨h1, grown_of (@Post.fr _ Z.gl0 _ _ _ _ _ _ _ h2)⟩
theorem swo : SWO (ltOf cmpE) := by
  have key : ∀ x y : E3, ltOf cmpE x y = decide (x.f < y.f ∨ x.f = y.f ∧ x.n < y.n) := fun x y => by
    unfold ltOf cmpE
    by_cases h1 : x.f < y.f
    · simp [h1]
    · by_cases h2 : y.f < x.f
      · have : ¬ (x.f = y.f) := by omega
        simp [h1, h2, this]
      · have : x.f = y.f := by omega
        by_cases h3 : x.n < y.n
        · simp [h1, h2, h3, this]
        · by_cases h4 : y.n < x.n <;> simp [h1, h2, h3, h4, this]
  constructor
  · intro x; rw [key]; simp
  · intro x y z h1 h2; rw [key] at *; simp at *; omega
  · intro x y z h1 h2; rw [key] at *; simp at *; omega
theorem flatK_ent (l : List E3) : (flatK entC 3 l.toArray).toList = entL l := by
  have key : ∀ (l : List E3) (t : Nat), t < l.length * 3 → (entC (l.getD (t / 3) default))[t % 3]! = (entL l)[t]! := by
    intro l
    induction l with
    | nil => intro t ht; simp at ht
    | cons e l ih =>
      intro t ht
      rcases Nat.lt_or_ge t 3 with h | h
      · have : t = 0 ∨ t = 1 ∨ t = 2 := by omega
        rcases this with rfl | rfl | rfl <;> rfl
      · obtain ⟨u, rfl⟩ : ∃ u, t = u + 3 := ⟨t - 3, by omega⟩
        rw [show (u + 3) / 3 = u / 3 + 1 by omega, show (u + 3) % 3 = u % 3 by omega]
        simp only [List.getD_cons_succ]
        rw [ih u (by simp at ht; omega)]
        rfl
  apply List.ext_getElem
  · simp [entL_len]
  · intro t h1 h2
    have ht : t < l.length * 3 := by rw [entL_len] at h2; exact h2
    have := key l t ht
    rw [getElem!_pos (entL l) t h2] at this
    rw [← this]
    simp only [flatK, Array.toList_map, Array.toList_range, List.getElem_map, List.getElem_range]
    congr 1
    simp [getElem!_def, List.getD_eq_getElem?_getD]
    cases l[t / 3]? <;> rfl
theorem setCells_sort {w : World} {blk off : Nat} {l : List E3} (hH : HoldsK entC 3 w blk off l.toArray) (d : Array E3) (hd : d.size = l.length) : w.setCells blk off (entL d.toList) = putRowK entC 3 w blk off d := by
  have e0 := putRow_self id w blk off _ hH
  have e1 := setCells_putRow w blk off (entL d.toList) 0 (flatK entC 3 l.toArray) (by rw [entL_len, size_flatK]; simp [hd])
  rw [e0, Nat.add_zero] at e1
  rw [e1]
  unfold putRowK
  congr 1
  refine ext_get! (by simp [hd]) fun t ht => ?_
  have ht' : t < (flatK entC 3 l.toArray).size := by simpa using ht
  have hlen : (entL d.toList).length = (flatK entC 3 l.toArray).size := by rw [entL_len, size_flatK]; simp [hd]
  rw [get_setMany _ _ _ _ ht', if_pos (by omega), Nat.sub_zero]
  have := flatK_ent d.toList
  simp only [Array.toArray_toList] at this
  rw [← this]
  simp [getElem!_def]
theorem Post.grown {P : Program} [Gl P] {base : Nat} {E : Env} {h h' : Heap} {w w1 : World} (p : Post P base E h w E h' w1) (os : Array Obj) : Post P base E h w E h' (grow w1 os) := by
  have hb : ∀ c, c < w1.heap.size → (grow w1 os).heap[c]? = w1.heap[c]? := fun c hc => by
    unfold grow
    exact Array.getElem?_append_left hc
  refine ⟨p.ext, p.dom, ⟨fun b k l hk hl => (p.rel.blk b k l hk hl).congr (Ext.refl _) (hb _ (p.rel.bnd b l hl)), p.rel.low, p.rel.ro, fun b l hl => ?_, p.rel.inj, p.rel.glob.keep (fun c hc => hb c (Nat.lt_of_lt_of_le hc p.rel.base)), ?_⟩, ⟨p.fr.os, p.fr.tape, p.fr.output, ?_, fun c hc hm => ?_, p.fr.drawn⟩, p.orig⟩
  · have := p.rel.bnd b l hl
    simp [grow]; omega
  · have := p.rel.base
    simp [grow]; omega
  · have := p.fr.size
    simp [grow]; omega
  · rw [hb c (Nat.lt_of_lt_of_le hc p.fr.size)]; exact p.fr.blk c hc hm
theorem Post.drewN {P : Program} [Gl P] {base : Nat} {E : Env} {h h' : Heap} {w w1 : World} (n : Nat) (p : Post P base E h (w.drewN n) E h' w1) : Post P base E h w E h' w1 :=
  ⟨p.ext, p.dom, p.rel, ⟨p.fr.os, p.fr.tape, p.fr.output, p.fr.size, p.fr.blk, Nat.le_trans (Nat.le_add_right _ _) p.fr.drawn⟩, p.orig⟩
theorem VR.func_inv {E : Env} {fn : Fn} {f c : Array Value} {x : Value} (h : VR E (.func fn f c) x) (hf : f.size = 0) (hc : c.size = 0) : x = .func fn #[] #[] := by
  cases h with
  | func h1 _ h2 _ =>
    rw [hf] at h1
    rw [hc] at h2
    congr 1
    · exact Array.eq_empty_of_size_eq_zero h1.symm
    · exact Array.eq_empty_of_size_eq_zero h2.symm
theorem enters_order : ∀ args w, (callFunc 48 args).run Try.prog w = .ok (.enter 48 args) w := enters_of Try.func48 (by kernel_rfl) rfl
theorem aggE : ∀ w, (isAgg 57).run Try.prog w = .ok true w := fun w => by simpa using run_isAggT (P := Try.prog) (t := 57) (b := true) (by kernel_rfl) w
theorem sizE : ∀ w, (Go.sizeOf 57).run Try.prog w = .ok 3 w := fun w => run_sizeT (P := Try.prog) (t := 57) (by kernel_rfl) w
theorem pdq_size (l : List E3) : (pdq (ltOf cmpE) l.toArray 0 l.toArray.size (Lib.bitLen l.toArray.size) true true).size = l.length := by
  have h := pdq_sorts (ltOf cmpE) swo l.toArray 0 l.toArray.size (Lib.bitLen l.toArray.size) true true (Nat.zero_le _) (Nat.le_refl _) (Or.inl rfl)
  rw [h.1.1]; simp
theorem sort_sound (base : Nat) (args : Array Value) (h : Heap) (v : Value) (h' : Heap) (E : Env) (w : World) (args' : Array Value) (hv : sortX 48 args h = some (v, h')) (hR : Rel Try.prog base E h w) (ha : ARel E args args') :
    Calls Try.prog 52 args' w fun e w' => ∃ v' E', e = .returned v' ∧ Post Try.prog base E h w E' h' w' ∧ VR E' v v' := by
  have two : ∀ x y, args.toList = [x, y] → ∃ x' y', args' = #[x', y'] ∧ VR E x x' ∧ VR E y y' := fun x y he => by
    have hl := ha.list
    rw [he] at hl
    obtain ⟨x', h1, r1⟩ := hl.2 0 x rfl
    obtain ⟨y', h2, r2⟩ := hl.2 1 y rfl
    have h3 := hl.1
    refine ⟨x', y', ?_, r1, r2⟩
    obtain ⟨l⟩ := args'
    match l, h3, h1, h2 with
    | [a, b], _, h1, h2 => cases h1; cases h2; rfl
  unfold sortX at hv
  split at hv
  · rename_i ad n c f x y he
    split at hv
    · rename_i hc
      obtain ⟨rfl, hx, hy, hn2⟩ := hc
      split at hv
      · rename_i hn0
        subst hn0
        cases hv
        obtain ⟨x', y', rfl, r1, r2⟩ := two _ _ he
        rw [r2.func_inv hx hy]
        have : ∃ p' c', x' = .slice p' 0 c' := by cases r1 <;> exact ⟨_, _, rfl⟩
        obtain ⟨p', c', rfl⟩ := this
        exact (AnyF.slices_SortFunc_none srtLay p' c' _ w).mono fun e w' ⟨h1, h2⟩ => ⟨_, E, h1, by rw [h2]; exact Post.refl hR, VR.undef⟩
      · rename_i hn0
        have hn : 0 < n := Nat.pos_of_ne_zero hn0
        split at hv
        · rename_i b o
          split at hv
          · rename_i cs hcs
            split at hv
            · rename_i l hl
              obtain ⟨h1, hs, hq⟩ := Option.map_eq_some_iff.1 hv
              cases hq
              obtain ⟨x', y', rfl, r1, r2⟩ := two _ _ he
              rw [r2.func_inv hx hy]
              have hcse := e3Of_inv _ _ hl
              subst hcse
              have hlen := loadN_len hcs
              rw [entL_len] at hlen
              have hln : l.length = n := by omega
              cases r1 with
              | sliceEmpty => omega
              | @slice _ _ _ _ c' l0 hE _ _ _ =>
                have hst : ∃ cs0 ty, h.blks[b]? = some ⟨.cells cs0, ty, true⟩ ∧ o + n * 3 ≤ cs0.length := by
                  unfold Heap.storeN at hs
                  split at hs
                  · rename_i cs0 ty hk
                    refine ⟨cs0, ty, hk, ?_⟩
                    unfold Heap.loadN Heap.cells? at hcs
                    rw [hk] at hcs
                    simp only at hcs
                    split at hcs
                    · assumption
                    · cases hcs
                  · cases hs
                obtain ⟨cs0, ty, hk, hle⟩ := hst
                obtain ⟨oc, oe, lo, hi, hheap, hsz, _, hfz⟩ := (hR.blk b _ l0 hk hE).2.2 rfl
                obtain ⟨cs', hLr, hcell⟩ := loadN_read hR hcs hE
                have hcell' : ∀ (j : Nat) v, (entL l)[j]? = some v → w.cell? ⟨l0.cb, l0.s + o + j, none⟩ = some v := fun j v hj => by
                  obtain ⟨v', h2, h3⟩ := hLr.2 j v hj
                  have hg : ground v = true := by
                    have : ∀ (l : List E3) (j : Nat) v, (entL l)[j]? = some v → ground v = true := by
                      intro l
                      induction l with
                      | nil => intro j v h; simp [entL] at h
                      | cons e l ih =>
                        intro j v h
                        match j, h with
                        | 0, h => cases h; rfl
                        | 1, h => cases h; rfl
                        | 2, h => cases h; rfl
                        | j + 3, h => exact ih j v h
                    exact this l j v hj
                  rw [h3.ground_eq hg] at h2
                  rw [Nat.add_assoc]
                  exact hcell j v h2
                have hH : HoldsK entC 3 w l0.cb (l0.s + o) l.toArray := fun j hj => by
                  have hj' : j < (entL l).length := by rw [entL_len]; simpa using hj
                  have e1 : (flatK entC 3 l.toArray)[j]! = (entL l)[j] := by
                    rw [← getElem!_pos (entL l) j hj', ← flatK_ent l]; simp [getElem!_def]
                  have h2 := hcell' j _ (List.getElem?_eq_getElem hj')
                  refine ⟨by rw [h2]; simp only [id]; rw [e1], ?_⟩
                  have hlt : l0.s + o + j < oc.size := by
                    simp only [World.cell?, hheap] at h2
                    have := (Array.getElem?_eq_some_iff.1 (by simpa using h2)).1
                    exact this
                  simp only [World.frozen?, hheap]
                  simp
                  omega
                have hlt : l0.cb < w.heap.size := hR.bnd b l0 hE
                have hcon := AnyQ.slices_SortFunc_eq srtLay 3 aggE sizE entC (fun _ => rfl) (fun x v hv => by simp [entC] at hv; rcases hv with rfl | rfl | rfl <;> rfl) cmpE swo 48 #[] l0.cb (l0.s + o) c' l.toArray w enters_order (cmp_lays _ _ _ _) hH hlt (by simp; omega)
                rw [show l.toArray.size = n by simpa using hln] at hcon
                refine hcon.mono ?_
                rintro e w' ⟨h2, m, os, h3⟩
                refine ⟨_, E, h2, ?_, VR.undef⟩
                have hRn : Rel Try.prog base E h (w.drewN m) := Rel.drawn hR _
                have hHn : HoldsK entC 3 (w.drewN m) l0.cb (l0.s + o) l.toArray := hH
                obtain ⟨w2, hw2, hp2⟩ := storeN_run hRn hs hE (vs' := entL (srtE l)) ⟨rfl, fun i v hv => ⟨v, hv, by
                  have : ∀ (l : List E3) (j : Nat) v, (entL l)[j]? = some v → ground v = true := by
                    intro l
                    induction l with
                    | nil => intro j v h; simp [entL] at h
                    | cons e l ih =>
                      intro j v h
                      match j, h with
                      | 0, h => cases h; rfl
                      | 1, h => cases h; rfl
                      | 2, h => cases h; rfl
                      | j + 3, h => exact ih j v h
                  exact VR.of_ground (this _ i v hv)⟩⟩ (entL_one _)
                have hds : (pdq (ltOf cmpE) l.toArray 0 l.toArray.size (Lib.bitLen l.toArray.size) true true).size = l.length := pdq_size l
                have e2 := setCells_sort hHn (pdq (ltOf cmpE) l.toArray 0 l.toArray.size (Lib.bitLen l.toArray.size) true true) hds
                have hrun := stores_of_holds Try.prog hHn 0 (entL (srtE l)) (by rw [entL_len, size_flatK]; unfold srtE; rw [Array.length_toList]; exact Nat.le_of_eq (by rw [show (pdq (fun x y : E3 => decide (cmpE x y < 0)) l.toArray 0 l.toArray.size (Lib.bitLen l.toArray.size) true true).size = l.length from hds]; simp)) (fun v hv => by
                  have := List.all_eq_true.1 (entL_one (srtE l)) v hv
                  exact this)
                rw [Nat.add_zero] at hrun
                rw [show (storeCells ⟨l0.cb, l0.s + o, none⟩ (entL (srtE l))).run Try.prog (w.drewN m) = Sem.run Try.prog (storeCells ⟨l0.cb, l0.s + o, none⟩ (entL (srtE l)) 0) (w.drewN m) from rfl, hrun] at hw2
                cases hw2
                have e3 : w' = grow ((w.drewN m).setCells l0.cb (l0.s + o) (entL (srtE l))) os := by
                  rw [h3]
                  unfold sortWorldK
                  congr 1
                  rw [show n = l.toArray.size by simpa using hln.symm]
                  exact e2.symm
                rw [e3]
                exact (hp2.drewN m).grown os
            · cases hv
          · cases hv
        · cases hv
    · cases hv
  · cases hv
instance : XtOk Try.prog := ⟨fun f g hX args h v h' hv => by
    rcases xt_inv hX with ⟨_, rfl⟩ | ⟨_, rfl⟩
    · exact sortX_grow _ _ _ _ _ hv
    · exact insX_grow _ _ _ _ hv,
  fun base f g hX args h v h' E w args' hv hR ha hf => by
    rcases xt_inv hX with ⟨rfl, rfl⟩ | ⟨rfl, rfl⟩
    · exact sort_sound base args h v h' E w args' hv hR ha
    · exact ins_sound base args h v h' E w args' hv hR ha hf⟩

end Go.Am
