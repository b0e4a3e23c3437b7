/- What the functions answer, in the machine. -/
import Derived.Test.YtclpkcampbhbdaaKC
import Derived.Test.YtclpkcampbhbdaaChecked
import Derived.KernelRfl
import Derived.Sort.AssemblyPlain
set_option linter.all false
namespace Go.Am
open Go.Proofs
set_option maxRecDepth 100000
theorem etU : ElemT Try.prog 88 35 1 8 (.int .u64 0) := ⟨by kernel_rfl, by kernel_rfl, by kernel_rfl, by kernel_rfl, by omega, rfl, rfl⟩
abbrev SU (h : Heap) (v : Value) (ns : List Nat) : Prop := Sl Try.prog h 1 v ns.length (ns.map u64V)
abbrev AU (n0 : Nat) (h : Heap) (v : Value) (ns : List Nat) : Prop := Acc n0 h 35 1 v ns.length (ns.map u64V)
theorem AU.su {n0 : Nat} {h : Heap} {v : Value} {ns : List Nat} (a : AU n0 h v ns) : SU h v ns := a.sl etU.size
end Go.Am
namespace Go.Am
open Go.Proofs
set_option maxRecDepth 100000
set_option linter.all false
def entV (e : E3) : Value := .agg #[.int .i64 e.f, .int .u64 e.n, .int .u64 e.t]
theorem bxE (a b c : Value) (h : Heap) : boxV Try.prog 57 (.agg #[a, b, c]) h = some (.pointer (some ⟨h.blks.length, 0, none⟩), h.new (.cells [a, b, c]) 57) := by kernel_rfl
theorem faE0 (p o : Nat) : fieldAddrV Try.prog 57 (.pointer (some ⟨p, o, none⟩)) 0 = some (.pointer (some ⟨p, o, none⟩)) := by kernel_rfl
theorem faE1 (p o : Nat) : fieldAddrV Try.prog 57 (.pointer (some ⟨p, o, none⟩)) 1 = some (.pointer (some ⟨p, o + 1, none⟩)) := by kernel_rfl
theorem faE2 (p o : Nat) : fieldAddrV Try.prog 57 (.pointer (some ⟨p, o, none⟩)) 2 = some (.pointer (some ⟨p, o + 2, none⟩)) := by kernel_rfl
theorem ldI (p o : Nat) (h : Heap) : loadV Try.prog 3 (.pointer (some ⟨p, o, none⟩)) h = h.load1 p o := by kernel_rfl
theorem ldU (p o : Nat) (h : Heap) : loadV Try.prog 35 (.pointer (some ⟨p, o, none⟩)) h = h.load1 p o := by kernel_rfl
theorem ldS (p o : Nat) (h : Heap) : loadV Try.prog 55 (.pointer (some ⟨p, o, none⟩)) h = h.load1 p o := by kernel_rfl
theorem lsI2' (x y : Int) (h : Heap) : buildSliceV Try.prog 43 2 #[(0, .int .i64 x), (1, .int .i64 y)] h = some (.slice (some ⟨h.blks.length, 0, none⟩) 2 2, h.new (.cells [.int .i64 x, .int .i64 y]) 3) := by kernel_rfl
theorem lnI (a : Option Addr) (n c : Nat) (h : Heap) : lenV Try.prog 43 (.slice a n c) h = some (.int .i64 n) := by kernel_rfl
theorem iaI0 (p c : Nat) : indexAddrV Try.prog 43 (.slice (some ⟨p, 0, none⟩) 2 c) (.int .i64 0) = some (.pointer (some ⟨p, 0, none⟩)) := by kernel_rfl
theorem iaI1 (p c : Nat) : indexAddrV Try.prog 43 (.slice (some ⟨p, 0, none⟩) 2 c) (.int .i64 1) = some (.pointer (some ⟨p, 1, none⟩)) := by kernel_rfl
end Go.Am
namespace Go.Am
open Go.Proofs
set_option maxRecDepth 100000
set_option linter.all false
attribute [local congr] obind_congr obH_congr cnd_congr chk_congr retK_congr codeK_congr
theorem spec_isNaNI (a : Int) (h : Heap) : evC Try.prog 85 #[.int .i64 a] h = some (.bool false, h) := by
  rw [call85]
  simp -implicitDefEqProofs only [↓c85_0_eq, eq_self, ne_eq, not_true_eq_false, decide_false, ↓ret85, ↓cnd_true, ↓cnd_false, ↓Option.bind_some, ↓obH_some', bin_add, bin_sub, bin_mul, bin_lss, bin_leq, bin_gtr, bin_geq, bin_eql, bin_neq, un_not, un_neg, Option.bind_some, Option.bind_none, Option.map_some, cnd_true, cnd_false, pickV_true, pickV_false, gd_true, gd_false, gdV_true, gdV_false, gdH_true, gdH_false, gdS_true, gdS_false, wt_ff, wt_tt, wt_ft, wt_tf, wt_undef, obH_some', extractV_tuple, nilCheckV_ptr, againK_normal, againK_exit, againK_ret, blockK_normal, blockK_same, blockK_ret, seqK_normal, seqK_exit, seqK_ret, fin_done, if_true', if_false', Bool.not_true, Bool.not_false, idx0, idx1, idx2, idx3, idx4, chk_nil_l, chk_nil_r, done_nm, up_cons, up_nil, cond_true, cond_false, Nat.reduceBEq]
theorem spec_isNaNW (a : Int) (h : Heap) : evC Try.prog 86 #[.int .u64 a] h = some (.bool false, h) := by
  rw [call86]
  simp -implicitDefEqProofs only [↓c86_0_eq, eq_self, ne_eq, not_true_eq_false, decide_false, ↓ret86, ↓cnd_true, ↓cnd_false, ↓Option.bind_some, ↓obH_some', bin_add, bin_sub, bin_mul, bin_lss, bin_leq, bin_gtr, bin_geq, bin_eql, bin_neq, un_not, un_neg, Option.bind_some, Option.bind_none, Option.map_some, cnd_true, cnd_false, pickV_true, pickV_false, gd_true, gd_false, gdV_true, gdV_false, gdH_true, gdH_false, gdS_true, gdS_false, wt_ff, wt_tt, wt_ft, wt_tf, wt_undef, obH_some', extractV_tuple, nilCheckV_ptr, againK_normal, againK_exit, againK_ret, blockK_normal, blockK_same, blockK_ret, seqK_normal, seqK_exit, seqK_ret, fin_done, if_true', if_false', Bool.not_true, Bool.not_false, idx0, idx1, idx2, idx3, idx4, chk_nil_l, chk_nil_r, done_nm, up_cons, up_nil, cond_true, cond_false, Nat.reduceBEq]
def cmpI (a b : Int) : Int := if a < b then -1 else if b < a then 1 else 0
theorem spec_CmpI (a b : Int) (h : Heap) : evC Try.prog 71 #[.int .i64 a, .int .i64 b] h = some (.int .i64 (cmpI a b), h) := by
  rw [call71]
  have e1 := fun h => spec_isNaNI a h
  have e2 := fun h => spec_isNaNI b h
  unfold cmpI
  by_cases h1 : a < b
  · rw [if_pos h1]
    simp -implicitDefEqProofs (disch := omega) only [↓c71_0_eq, dcT, dcF, e1, e2, ↓ret71, ↓cnd_true, ↓cnd_false, ↓Option.bind_some, ↓obH_some', bin_add, bin_sub, bin_mul, bin_lss, bin_leq, bin_gtr, bin_geq, bin_eql, bin_neq, un_not, un_neg, Option.bind_some, Option.bind_none, Option.map_some, cnd_true, cnd_false, pickV_true, pickV_false, gd_true, gd_false, gdV_true, gdV_false, gdH_true, gdH_false, gdS_true, gdS_false, wt_ff, wt_tt, wt_ft, wt_tf, wt_undef, obH_some', extractV_tuple, nilCheckV_ptr, againK_normal, againK_exit, againK_ret, blockK_normal, blockK_same, blockK_ret, seqK_normal, seqK_exit, seqK_ret, fin_done, if_true', if_false', Bool.not_true, Bool.not_false, idx0, idx1, idx2, idx3, idx4, chk_nil_l, chk_nil_r, done_nm, up_cons, up_nil, cond_true, cond_false, Nat.reduceBEq]
  · rw [if_neg h1]
    by_cases h2 : b < a
    · rw [if_pos h2]
      simp -implicitDefEqProofs (disch := omega) only [↓c71_0_eq, dcT, dcF, e1, e2, ↓ret71, ↓cnd_true, ↓cnd_false, ↓Option.bind_some, ↓obH_some', bin_add, bin_sub, bin_mul, bin_lss, bin_leq, bin_gtr, bin_geq, bin_eql, bin_neq, un_not, un_neg, Option.bind_some, Option.bind_none, Option.map_some, cnd_true, cnd_false, pickV_true, pickV_false, gd_true, gd_false, gdV_true, gdV_false, gdH_true, gdH_false, gdS_true, gdS_false, wt_ff, wt_tt, wt_ft, wt_tf, wt_undef, obH_some', extractV_tuple, nilCheckV_ptr, againK_normal, againK_exit, againK_ret, blockK_normal, blockK_same, blockK_ret, seqK_normal, seqK_exit, seqK_ret, fin_done, if_true', if_false', Bool.not_true, Bool.not_false, idx0, idx1, idx2, idx3, idx4, chk_nil_l, chk_nil_r, done_nm, up_cons, up_nil, cond_true, cond_false, Nat.reduceBEq]
    · rw [if_neg h2]
      simp -implicitDefEqProofs (disch := omega) only [↓c71_0_eq, dcT, dcF, e1, e2, ↓ret71, ↓cnd_true, ↓cnd_false, ↓Option.bind_some, ↓obH_some', bin_add, bin_sub, bin_mul, bin_lss, bin_leq, bin_gtr, bin_geq, bin_eql, bin_neq, un_not, un_neg, Option.bind_some, Option.bind_none, Option.map_some, cnd_true, cnd_false, pickV_true, pickV_false, gd_true, gd_false, gdV_true, gdV_false, gdH_true, gdH_false, gdS_true, gdS_false, wt_ff, wt_tt, wt_ft, wt_tf, wt_undef, obH_some', extractV_tuple, nilCheckV_ptr, againK_normal, againK_exit, againK_ret, blockK_normal, blockK_same, blockK_ret, seqK_normal, seqK_exit, seqK_ret, fin_done, if_true', if_false', Bool.not_true, Bool.not_false, idx0, idx1, idx2, idx3, idx4, chk_nil_l, chk_nil_r, done_nm, up_cons, up_nil, cond_true, cond_false, Nat.reduceBEq]
theorem spec_CmpW (a b : Int) (h : Heap) : evC Try.prog 72 #[.int .u64 a, .int .u64 b] h = some (.int .i64 (cmpI a b), h) := by
  rw [call72]
  have e1 := fun h => spec_isNaNW a h
  have e2 := fun h => spec_isNaNW b h
  unfold cmpI
  by_cases h1 : a < b
  · rw [if_pos h1]
    simp -implicitDefEqProofs (disch := omega) only [↓c72_0_eq, dcT, dcF, e1, e2, ↓ret72, ↓cnd_true, ↓cnd_false, ↓Option.bind_some, ↓obH_some', bin_add, bin_sub, bin_mul, bin_lss, bin_leq, bin_gtr, bin_geq, bin_eql, bin_neq, un_not, un_neg, Option.bind_some, Option.bind_none, Option.map_some, cnd_true, cnd_false, pickV_true, pickV_false, gd_true, gd_false, gdV_true, gdV_false, gdH_true, gdH_false, gdS_true, gdS_false, wt_ff, wt_tt, wt_ft, wt_tf, wt_undef, obH_some', extractV_tuple, nilCheckV_ptr, againK_normal, againK_exit, againK_ret, blockK_normal, blockK_same, blockK_ret, seqK_normal, seqK_exit, seqK_ret, fin_done, if_true', if_false', Bool.not_true, Bool.not_false, idx0, idx1, idx2, idx3, idx4, chk_nil_l, chk_nil_r, done_nm, up_cons, up_nil, cond_true, cond_false, Nat.reduceBEq]
  · rw [if_neg h1]
    by_cases h2 : b < a
    · rw [if_pos h2]
      simp -implicitDefEqProofs (disch := omega) only [↓c72_0_eq, dcT, dcF, e1, e2, ↓ret72, ↓cnd_true, ↓cnd_false, ↓Option.bind_some, ↓obH_some', bin_add, bin_sub, bin_mul, bin_lss, bin_leq, bin_gtr, bin_geq, bin_eql, bin_neq, un_not, un_neg, Option.bind_some, Option.bind_none, Option.map_some, cnd_true, cnd_false, pickV_true, pickV_false, gd_true, gd_false, gdV_true, gdV_false, gdH_true, gdH_false, gdS_true, gdS_false, wt_ff, wt_tt, wt_ft, wt_tf, wt_undef, obH_some', extractV_tuple, nilCheckV_ptr, againK_normal, againK_exit, againK_ret, blockK_normal, blockK_same, blockK_ret, seqK_normal, seqK_exit, seqK_ret, fin_done, if_true', if_false', Bool.not_true, Bool.not_false, idx0, idx1, idx2, idx3, idx4, chk_nil_l, chk_nil_r, done_nm, up_cons, up_nil, cond_true, cond_false, Nat.reduceBEq]
    · rw [if_neg h2]
      simp -implicitDefEqProofs (disch := omega) only [↓c72_0_eq, dcT, dcF, e1, e2, ↓ret72, ↓cnd_true, ↓cnd_false, ↓Option.bind_some, ↓obH_some', bin_add, bin_sub, bin_mul, bin_lss, bin_leq, bin_gtr, bin_geq, bin_eql, bin_neq, un_not, un_neg, Option.bind_some, Option.bind_none, Option.map_some, cnd_true, cnd_false, pickV_true, pickV_false, gd_true, gd_false, gdV_true, gdV_false, gdH_true, gdH_false, gdS_true, gdS_false, wt_ff, wt_tt, wt_ft, wt_tf, wt_undef, obH_some', extractV_tuple, nilCheckV_ptr, againK_normal, againK_exit, againK_ret, blockK_normal, blockK_same, blockK_ret, seqK_normal, seqK_exit, seqK_ret, fin_done, if_true', if_false', Bool.not_true, Bool.not_false, idx0, idx1, idx2, idx3, idx4, chk_nil_l, chk_nil_r, done_nm, up_cons, up_nil, cond_true, cond_false, Nat.reduceBEq]
theorem spec_Or {h : Heap} {p c : Nat} (a b : Int) (hc : Cells h p 3 [.int .i64 a, .int .i64 b]) : evC Try.prog 70 #[.slice (some ⟨p, 0, none⟩) 2 c] h = some (.int .i64 (if a = 0 then b else a), h) := by
  rw [call70]
  have l0 : (nm h).load1 p 0 = some (.int .i64 a) := hc.nm.load 0
  have l1 : (nm h).load1 p 1 = some (.int .i64 b) := hc.nm.load 1
  have w1 : IntKind.i64.wrap (0 + 1) = 1 := rfl
  have w2 : IntKind.i64.wrap (1 + 1) = 2 := rfl
  by_cases h1 : a = 0
  · rw [if_pos h1]
    by_cases h2 : b = 0
    · simp -implicitDefEqProofs (disch := omega) only [↓c70_0_eq, ↓c70_1_eq, ↓c70_2_eq, ↓loopK_eq evC_m, dcT, dcF, lnI, iaI0, iaI1, ldI, l0, l1, w1, w2, ↓ret70, ↓cnd_true, ↓cnd_false, ↓Option.bind_some, ↓obH_some', bin_add, bin_sub, bin_mul, bin_lss, bin_leq, bin_gtr, bin_geq, bin_eql, bin_neq, un_not, un_neg, Option.bind_some, Option.bind_none, Option.map_some, cnd_true, cnd_false, pickV_true, pickV_false, gd_true, gd_false, gdV_true, gdV_false, gdH_true, gdH_false, gdS_true, gdS_false, wt_ff, wt_tt, wt_ft, wt_tf, wt_undef, obH_some', extractV_tuple, nilCheckV_ptr, againK_normal, againK_exit, againK_ret, blockK_normal, blockK_same, blockK_ret, seqK_normal, seqK_exit, seqK_ret, fin_done, if_true', if_false', Bool.not_true, Bool.not_false, idx0, idx1, idx2, idx3, idx4, chk_nil_l, chk_nil_r, done_nm, up_cons, up_nil, cond_true, cond_false, Nat.reduceBEq]
      rw [h2]
    · simp -implicitDefEqProofs (disch := omega) only [↓c70_0_eq, ↓c70_1_eq, ↓c70_2_eq, ↓loopK_eq evC_m, dcT, dcF, lnI, iaI0, iaI1, ldI, l0, l1, w1, w2, ↓ret70, ↓cnd_true, ↓cnd_false, ↓Option.bind_some, ↓obH_some', bin_add, bin_sub, bin_mul, bin_lss, bin_leq, bin_gtr, bin_geq, bin_eql, bin_neq, un_not, un_neg, Option.bind_some, Option.bind_none, Option.map_some, cnd_true, cnd_false, pickV_true, pickV_false, gd_true, gd_false, gdV_true, gdV_false, gdH_true, gdH_false, gdS_true, gdS_false, wt_ff, wt_tt, wt_ft, wt_tf, wt_undef, obH_some', extractV_tuple, nilCheckV_ptr, againK_normal, againK_exit, againK_ret, blockK_normal, blockK_same, blockK_ret, seqK_normal, seqK_exit, seqK_ret, fin_done, if_true', if_false', Bool.not_true, Bool.not_false, idx0, idx1, idx2, idx3, idx4, chk_nil_l, chk_nil_r, done_nm, up_cons, up_nil, cond_true, cond_false, Nat.reduceBEq]
  · rw [if_neg h1]
    simp -implicitDefEqProofs (disch := omega) only [↓c70_0_eq, ↓c70_1_eq, ↓c70_2_eq, ↓loopK_eq evC_m, dcT, dcF, lnI, iaI0, iaI1, ldI, l0, l1, w1, w2, ↓ret70, ↓cnd_true, ↓cnd_false, ↓Option.bind_some, ↓obH_some', bin_add, bin_sub, bin_mul, bin_lss, bin_leq, bin_gtr, bin_geq, bin_eql, bin_neq, un_not, un_neg, Option.bind_some, Option.bind_none, Option.map_some, cnd_true, cnd_false, pickV_true, pickV_false, gd_true, gd_false, gdV_true, gdV_false, gdH_true, gdH_false, gdS_true, gdS_false, wt_ff, wt_tt, wt_ft, wt_tf, wt_undef, obH_some', extractV_tuple, nilCheckV_ptr, againK_normal, againK_exit, againK_ret, blockK_normal, blockK_same, blockK_ret, seqK_normal, seqK_exit, seqK_ret, fin_done, if_true', if_false', Bool.not_true, Bool.not_false, idx0, idx1, idx2, idx3, idx4, chk_nil_l, chk_nil_r, done_nm, up_cons, up_nil, cond_true, cond_false, Nat.reduceBEq]
theorem cmpE_or (x y : E3) : (if cmpI x.f y.f = 0 then cmpI x.n y.n else cmpI x.f y.f) = cmpE x y := by
  unfold cmpE cmpI
  by_cases h1 : x.f < y.f
  · simp [h1]
  · by_cases h2 : y.f < x.f
    · simp [h1, h2]
    · have : (x.n : Int) < y.n ↔ x.n < y.n := Int.ofNat_lt
      have : (y.n : Int) < x.n ↔ y.n < x.n := Int.ofNat_lt
      simp [h1, h2]
theorem spec_order (x y : E3) (h : Heap) : ∃ h', evC Try.prog 48 #[entV x, entV y] h = some (.int .i64 (cmpE x y), h') ∧ HExt h h' := by
  rw [call48]
  have c1 : Cells (((nm h).new (.cells [.int .i64 x.f, .int .u64 x.n, .int .u64 x.t]) 57).new (.cells [.int .i64 y.f, .int .u64 y.n, .int .u64 y.t]) 57) (nm h).blks.length 57 [.int .i64 x.f, .int .u64 x.n, .int .u64 x.t] := (Cells.new _ _ _).keepNew _ _
  have c2 := Cells.new ((nm h).new (.cells [.int .i64 x.f, .int .u64 x.n, .int .u64 x.t]) 57) 57 [.int .i64 y.f, .int .u64 y.n, .int .u64 y.t]
  have k2 : In h.blks.length No (nm h) (((nm h).new (.cells [.int .i64 x.f, .int .u64 x.n, .int .u64 x.t]) 57).new (.cells [.int .i64 y.f, .int .u64 y.n, .int .u64 y.t]) 57) :=
    In.trans (In.new (h := nm h) (Nat.le_refl h.blks.length) _ _) (In.new (by simp [Heap.new]) _ _)
  generalize hp1 : ((nm h).new (.cells [.int .i64 x.f, .int .u64 x.n, .int .u64 x.t]) 57).blks.length = p1 at c2
  generalize hp0 : (nm h).blks.length = p0 at c1
  generalize hh2 : ((nm h).new (.cells [.int .i64 x.f, .int .u64 x.n, .int .u64 x.t]) 57).new (.cells [.int .i64 y.f, .int .u64 y.n, .int .u64 y.t]) 57 = h2 at c1 c2 k2
  have la : h2.load1 p0 0 = some (.int .i64 x.f) := c1.load 0
  have lb : h2.load1 p0 1 = some (.int .u64 x.n) := c1.load 1
  have lc : h2.load1 p1 0 = some (.int .i64 y.f) := c2.load 0
  have ld : h2.load1 p1 1 = some (.int .u64 y.n) := c2.load 1
  have k3 := k2.trans (In.new (Nat.le_trans k2.le k2.len) (.cells [.int .i64 (cmpI x.f y.f), .int .i64 (cmpI x.n y.n)]) 3)
  have e3 := spec_Or (c := 2) _ _ (Cells.new h2 3 [.int .i64 (cmpI x.f y.f), .int .i64 (cmpI x.n y.n)])
  rw [cmpE_or] at e3
  refine ⟨_, ?_, done_ext' k3⟩
  simp -implicitDefEqProofs (disch := omega) only [↓c48_0_eq, entV, bxE, hp0, hp1, hh2, faE0, faE1, ldI, ldU, la, lb, lc, ld, spec_CmpI, spec_CmpW, am_nm, nm_load1, nm_mods, List.nil_append, List.append_nil, lsI2', e3, ↓ret48, ↓cnd_true, ↓cnd_false, ↓Option.bind_some, ↓obH_some', bin_add, bin_sub, bin_mul, bin_lss, bin_leq, bin_gtr, bin_geq, bin_eql, bin_neq, un_not, un_neg, Option.bind_some, Option.bind_none, Option.map_some, cnd_true, cnd_false, pickV_true, pickV_false, gd_true, gd_false, gdV_true, gdV_false, gdH_true, gdH_false, gdS_true, gdS_false, wt_ff, wt_tt, wt_ft, wt_tf, wt_undef, obH_some', extractV_tuple, nilCheckV_ptr, againK_normal, againK_exit, againK_ret, blockK_normal, blockK_same, blockK_ret, seqK_normal, seqK_exit, seqK_ret, fin_done, if_true', if_false', Bool.not_true, Bool.not_false, idx0, idx1, idx2, idx3, idx4, chk_nil_l, chk_nil_r, done_nm, up_cons, up_nil, cond_true, cond_false, Nat.reduceBEq]
end Go.Am
namespace Go.Am
open Go.Proofs
set_option maxRecDepth 100000
set_option linter.all false
theorem entL_app (a b : List E3) : entL (a ++ b) = entL a ++ entL b := by
  induction a with
  | nil => rfl
  | cons e a ih => simp only [List.cons_append, entL, ih]
theorem entL_at : ∀ (es : List E3) (i : Nat) (hi : i < es.length), ((entL es).drop (i * 3)).take 3 = entC es[i]
  | e :: es, 0, _ => rfl
  | e :: es, i + 1, hi => by
    rw [show (i + 1) * 3 = i * 3 + 1 + 1 + 1 by omega]
    simp only [entL, List.drop_succ_cons]
    exact entL_at es i (by simpa using hi)
abbrev SE (h : Heap) (v : Value) (es : List E3) : Prop := Sl Try.prog h 3 v es.length (entL es)
abbrev AE (n0 : Nat) (h : Heap) (v : Value) (es : List E3) : Prop := Acc n0 h 57 3 v es.length (entL es)
abbrev AR (n0 : Nat) (h : Heap) (v : Value) (es : List E3) : Prop := Acc n0 h 72 3 v es.length (entL es)
theorem etE : ElemT Try.prog 45 57 3 24 (.agg #[.int .i64 0, .int .u64 0, .int .u64 0]) := ⟨by kernel_rfl, by kernel_rfl, by kernel_rfl, by kernel_rfl, by omega, rfl, by simp [ground, ground0]⟩
theorem etR : ElemT Try.prog 51 72 3 24 (.agg #[.int .i64 0, .int .u64 0, .int .u64 0]) := ⟨by kernel_rfl, by kernel_rfl, by kernel_rfl, by kernel_rfl, by omega, rfl, by simp [ground, ground0]⟩
theorem AE.se {n0 : Nat} {h : Heap} {v : Value} {es : List E3} (a : AE n0 h v es) : SE h v es := a.sl etE.size
theorem AR.se {n0 : Nat} {h : Heap} {v : Value} {es : List E3} (a : AR n0 h v es) : SE h v es := a.sl etR.size
theorem SE.nil (h : Heap) : SE h (.slice none 0 0) [] := Sl.nil
theorem AE.nil (n0 : Nat) (h : Heap) : AE n0 h (.slice none 0 0) [] := Acc.nil
theorem AR.nil (n0 : Nat) (h : Heap) : AR n0 h (.slice none 0 0) [] := Acc.nil
theorem SE.at' {h : Heap} {v : Value} {es : List E3} (s : SE h v es) {t el : TypeId} (hu : Try.prog.underlying t = some (.slice el)) (hs : sizeT Try.prog el = some 3) {i : Nat} (hi : i < es.length) :
    ∃ b o, blockOf v = some b ∧ b < h.blks.length ∧ (∀ k, indexAddrV Try.prog t v (.int k i) = some (.pointer (some ⟨b, o, none⟩))) ∧
      ∀ h' : Heap, h'.blks[b]? = h.blks[b]? → h'.loadN b o 3 = some (entC es[i]) ∧ h'.load1 b o = some (.int .i64 es[i].f) ∧ h'.load1 b (o + 1) = some (.int .u64 es[i].n) ∧ h'.load1 b (o + 2) = some (.int .u64 es[i].t) := by
  rcases s.inv with ⟨rfl, h2, _⟩ | ⟨b, o, c, rfl, hl, _⟩
  · omega
  · refine ⟨b, o + i * 3, rfl, loadN_lt hl, fun k => ?_, fun h' hb => ?_⟩
    · unfold indexAddrV
      simp only [hu, natOf_int, hs]
      rw [if_pos hi]
    · have h1 : h'.loadN b (o + i * 3) 3 = some (entC es[i]) := by
        rw [loadN_of hb, loadN_sub hl (by omega), entL_at es i hi]
      exact ⟨h1, loadN_get (i := 0) h1 (by omega), loadN_get (i := 1) h1 (by omega), loadN_get (i := 2) h1 (by omega)⟩
theorem ldE (p o : Nat) (h : Heap) : loadV Try.prog 57 (.pointer (some ⟨p, o, none⟩)) h = (h.loadN p o 3).map fun cs => .agg cs.toArray := by kernel_rfl
theorem ldR (p o : Nat) (h : Heap) : loadV Try.prog 72 (.pointer (some ⟨p, o, none⟩)) h = (h.loadN p o 3).map fun cs => .agg cs.toArray := by kernel_rfl
theorem entA (e : E3) : Value.agg (entC e).toArray = entV e := rfl
theorem alE (h : Heap) : allocV Try.prog 57 h = some (.pointer (some ⟨h.blks.length, 0, none⟩), h.new (.cells [.int .i64 0, .int .u64 0, .int .u64 0]) 57) := by kernel_rfl
theorem stE (p : Nat) (e : E3) (h : Heap) : storeV Try.prog 57 (.pointer (some ⟨p, 0, none⟩)) (entV e) h = h.storeN p 0 (entC e) := by kernel_rfl
theorem var_ent {n0 : Nat} {h : Heap} (hn : n0 ≤ h.blks.length) (e : E3) : ∃ hA h', allocV Try.prog 57 h = some (.pointer (some ⟨h.blks.length, 0, none⟩), hA) ∧ storeV Try.prog 57 (.pointer (some ⟨h.blks.length, 0, none⟩)) (entV e) hA = some h' ∧
    Cells h' h.blks.length 57 (entC e) ∧ (∀ S,In n0 S h h') ∧ Same h h' ∧ loadV Try.prog 57 (.pointer (some ⟨h.blks.length, 0, none⟩)) h' = some (entV e) := by
  have c := Cells.new h 57 [.int .i64 0, .int .u64 0, .int .u64 0]
  have c' : Cells ((h.new (.cells [.int .i64 0, .int .u64 0, .int .u64 0]) 57).put h.blks.length (.cells (entC e))) h.blks.length 57 (entC e) := c.put _
  refine ⟨_, _, alE h, ?_, c', fun S => (In.new hn _ _).trans (In.put (by simp [Heap.new]; omega) (.inl hn) _), (Same.new h _ _).put (Nat.le_refl _) _, ?_⟩
  · rw [stE, storeN_blk c (by simp [entC])]; rfl
  · rw [ldE, c'.loadN (n := 3) rfl]; rfl
theorem bsE (e : E3) (h : Heap) : buildSliceV Try.prog 45 1 #[(0, entV e)] h = some (.slice (some ⟨h.blks.length, 0, none⟩) 1 1, h.new (.cells (entC e)) 57) := by kernel_rfl
theorem bsR (e : E3) (h : Heap) : buildSliceV Try.prog 51 1 #[(0, entV e)] h = some (.slice (some ⟨h.blks.length, 0, none⟩) 1 1, h.new (.cells (entC e)) 72) := by kernel_rfl
theorem app_ents {t t1 el : TypeId} (et : ElemT Try.prog t el 3 24 (.agg #[.int .i64 0, .int .u64 0, .int .u64 0])) (et1 : Try.prog.underlying t1 = some (.slice el)) {n0 : Nat} {h : Heap} (hn0 : n0 ≤ h.blks.length) {v x : Value} {bs cs : List E3}
    (ha : Acc n0 h el 3 v bs.length (entL bs)) (hx : SE h x cs) (hl : bs.length + cs.length < 2 ^ 40) :
    ∃ a c h', appendV Try.prog t (some t1) v x h = some (.slice a (bs ++ cs).length c, h') ∧ Acc n0 h' el 3 (.slice a (bs ++ cs).length c) (bs ++ cs).length (entL (bs ++ cs)) ∧ Keeps n0 h h' ∧ (∀ b, b < h.blks.length → blockOf v ≠ some b → h'.blks[b]? = h.blks[b]?) ∧
      (.slice a (bs ++ cs).length c = v ∧ h' = h ∨ blockOf (.slice a (bs ++ cs).length c) = some h.blks.length ∧ h.blks.length < h'.blks.length) := by
  obtain ⟨v', h', e1, e2, e3, e4, e5⟩ := append_acc et (t1 := some t1) hn0 ha (newsV_row et1 hx.row) (by rw [entL_len]) (by omega) (by omega) (entL_one cs)
  obtain ⟨a, c, rfl⟩ := e2.shape
  rw [← List.length_append] at e1 e2 e5
  rw [← entL_app] at e2
  exact ⟨a, c, h', e1, e2, e3, e4, e5⟩
theorem lit_ent (el : TypeId) (hs : sizeT Try.prog el = some 3) (e : E3) (h : Heap) : SE (h.new (.cells (entC e)) el) (.slice (some ⟨h.blks.length, 0, none⟩) 1 1) [e] :=
  .mk (by simp [Heap.loadN, Heap.cells?, blk_new_self, entC, entL]) (.inr ⟨Nat.le_refl _, by unfold UNK; omega⟩)
theorem app_ent {t el : TypeId} (et : ElemT Try.prog t el 3 24 (.agg #[.int .i64 0, .int .u64 0, .int .u64 0])) {n0 : Nat} {h : Heap} (hn0 : n0 ≤ h.blks.length) {v : Value} {bs : List E3}
    (ha : Acc n0 h el 3 v bs.length (entL bs)) (e : E3) (hl : bs.length < 2 ^ 39) :
    ∃ a c h', appendV Try.prog t (some t) v (.slice (some ⟨h.blks.length, 0, none⟩) 1 1) (h.new (.cells (entC e)) el) = some (.slice a (bs ++ [e]).length c, h') ∧ Acc n0 h' el 3 (.slice a (bs ++ [e]).length c) (bs ++ [e]).length (entL (bs ++ [e])) ∧ Keeps n0 h h' ∧
      (∀ q, q < h.blks.length → blockOf v ≠ some q → h'.blks[q]? = h.blks[q]?) := by
  have ha' : Acc n0 (h.new (.cells (entC e)) el) el 3 v bs.length (entL bs) := ha.keep fun _ hb _ => Heap.new_old hb
  obtain ⟨a, c, h', e1, e2, e3, e4, _⟩ := app_ents et et.under (n0 := n0) (h := h.new (.cells (entC e)) el) (by simp [Heap.new]; omega) ha' (lit_ent el et.size e h) (by simp; omega)
  exact ⟨a, c, h', e1, e2, (Keeps.new hn0 _ _).trans e3, fun q hq hne => (e4 q (by simp [Heap.new]; omega) hne).trans (Heap.new_old hq)⟩
end Go.Am
namespace Go.Am
open Go.Proofs
def sizeN (n : Nat) : Nat := if n < 128 then 1 else sizeN (n / 128) + 1
theorem sizeN_le (n : Nat) : ∀ k, n < 2 ^ (7 * k) → 1 ≤ k → sizeN n ≤ k := by
  induction n using Nat.strongRecOn with
  | _ n ih =>
    intro k hk h1
    rw [sizeN]
    split
    · omega
    · rename_i h
      obtain ⟨k, rfl⟩ : ∃ j, k = j + 1 := ⟨k - 1, by omega⟩
      have : 1 ≤ k := by
        rcases Nat.eq_zero_or_pos k with rfl | h'
        · simp at hk; omega
        · exact h'
      have := ih (n / 128) (by omega) k (by
        rw [Nat.div_lt_iff_lt_mul (by omega)]
        have e : 2 ^ (7 * (k + 1)) = 2 ^ (7 * k) * 128 := by rw [Nat.mul_add, Nat.pow_add]
        omega) this
      omega
theorem fdiv_128 (n : Nat) : Int.fdiv (n : Int) 128 = ((n / 128 : Nat) : Int) := by
  rw [Int.fdiv_eq_ediv_of_nonneg _ (by omega)]; omega
end Go.Am
namespace Go.Am
open Go.Proofs
def putL (n : Nat) : List UInt8 := if n < 128 then [UInt8.ofNat n] else UInt8.ofNat (n % 128 + 128) :: putL (n / 128)
theorem putL_len (n : Nat) : (putL n).length = sizeN n := by
  induction n using Nat.strongRecOn with
  | _ n ih =>
    rw [putL, sizeN]
    split
    · rfl
    · rw [List.length_cons, ih (n / 128) (by omega)]
theorem etB : ElemT Try.prog 33 5 1 1 (.int .u8 0) := ⟨by kernel_rfl, by kernel_rfl, by kernel_rfl, by kernel_rfl, by omega, rfl, rfl⟩
theorem bs1 (k : IntKind) (m : Int) (h : Heap) : buildSliceV Try.prog 33 1 #[(0, .int k m)] h = some (.slice (some ⟨h.blks.length, 0, none⟩) 1 1, h.new (.cells [.int k m]) 5) := by kernel_rfl
theorem conv_22_5 (k : IntKind) (n : Int) (h : Heap) : convV Try.prog 35 5 (.int k n) h = some (.int .u8 (IntKind.wrap .u8 n), h) := conv_int (ks := .u64) (by kernel_rfl) (by kernel_rfl) k n h
theorem or128 (x : Fin 256) : (IntKind.wrap .u8 ((BitVec.ofInt 8 (x.val : Int) ||| BitVec.ofInt 8 128).toNat : Int)) = ((x.val % 128 + 128 : Nat) : Int) := by
  revert x; decide +kernel
theorem bin_or (P : Program) (t : TypeId) (xo yo : Operand) (k : IntKind) (a b : Int) : binV P .or t xo yo (.int k a) (.int k b) = some (.int k (k.wrap ((BitVec.ofInt k.bits a ||| BitVec.ofInt k.bits b).toNat))) :=
  bin_int t xo yo k k a b .or rfl (by simp [eqGuard,Go.binOp,Op.intBits])
theorem wrap8 (n : Nat) : IntKind.wrap .u8 (n : Int) = ((n % 256 : Nat) : Int) := by simp only [IntKind.wrap, IntKind.bits, IntKind.signed]; simp
theorem or_byte (t : TypeId) (xo yo : Operand) (n : Nat) : binV Try.prog .or t xo yo (.int .u8 (IntKind.wrap .u8 (n : Int))) (.int .u8 128) = some (byteV (UInt8.ofNat (n % 128 + 128))) := by
  rw [bin_or, wrap8]
  have := or128 ⟨n % 256, by omega⟩
  simp only at this
  show some (Value.int .u8 (IntKind.wrap .u8 ((BitVec.ofInt 8 ((n % 256 : Nat) : Int) ||| BitVec.ofInt 8 128).toNat))) = _
  rw [this]
  unfold byteV
  have e : (UInt8.ofNat (n % 128 + 128)).toNat = n % 256 % 128 + 128 := by simp; omega
  rw [e]
theorem small_byte (n : Nat) : Value.int .u8 (IntKind.wrap .u8 (n : Int)) = byteV (UInt8.ofNat n) := by
  rw [wrap8]; unfold byteV
  have e : (UInt8.ofNat n).toNat = n % 256 := by simp
  rw [e]
theorem app1 {n0 : Nat} {h : Heap} (hn0 : n0 ≤ h.blks.length) {v : Value} {n : Nat} {cs : List Value} (ha : Acc n0 h 5 1 v n cs) (hn : n < 2 ^ 40) (b : UInt8) :
    ∃ v' h', appendV Try.prog 33 (some 33) v (.slice (some ⟨h.blks.length, 0, none⟩) 1 1) (h.new (.cells [byteV b]) 5) = some (v', h') ∧ Acc n0 h' 5 1 v' (n + 1) (cs ++ [byteV b]) ∧ Keeps n0 h h' := by
  have ha' : Acc n0 (h.new (.cells [byteV b]) 5) 5 1 v n cs := ha.keep fun b hb _ => Heap.new_old hb
  have hr : Row (h.new (.cells [byteV b]) 5) 1 (.slice (some ⟨h.blks.length, 0, none⟩) 1 1) 1 [byteV b] := .mk (by simp [Heap.loadN, Heap.cells?, Heap.new])
  obtain ⟨v', h', h1, h2, h3, h4, h5⟩ := append_acc etB (t1 := some 33) (n0 := n0) (by simp [Heap.new]; omega) ha' (newsV_row etB.under hr) (by simp) (by omega) (by omega) (by simp [byteV, Value.oneCell'])
  exact ⟨v', h', h1, h2, (Keeps.new hn0 _ _).trans h3⟩
theorem put_loop (h0 : Heap) (n : Nat) : ∀ (h : Heap) (v : Value) (k : Nat) (cs : List Value) (Aa Ac Ad Ae Ag Ah Ai Aj Ak Al An Ao Ap Aq Ar As At Au Av Aw Ax : Value),
    k + sizeN n < 2 ^ 40 → Keeps h0.blks.length (nm h0) h → Acc h0.blks.length h 5 1 v k cs →
    ∃ v' h', loopK Try.prog (evC Try.prog) c68_1 ⟨#[Aa, .int .u64 n,Ac,Ad,Ae, v,Ag,Ah,Ai,Aj,Ak,Al,An,Ao,Ap,Aq,Ar,As,At,Au,Av,Aw,Ax], h⟩ (blockK 0 (seqK Try.prog (evC Try.prog) c68_2 (retK Try.f68 Try.prog h0))) =
      some (v', h') ∧ HExt h0 h' ∧ Acc h0.blks.length h' 5 1 v' (k + sizeN n) (cs ++ (putL n).map byteV) := by
  induction n using Nat.strongRecOn with
  | _ n ih =>
    intro h v k cs Aa Ac Ad Ae Ag Ah Ai Aj Ak Al An Ao Ap Aq Ar As At Au Av Aw Ax hk hkeep ha
    have hle : h0.blks.length ≤ h.blks.length := hkeep.len
    rw [loopK_eq evC_m, c68_1_eq]
    simp only [bin_geq, Option.bind_some, cnd_dec]
    by_cases hge : 128 ≤ n
    · rw [if_pos (by omega)]
      simp only [conv_22_5, obH_some', or_byte, Option.bind_some]
      obtain ⟨v', h', e1, e2, e3⟩ := app1 hle ha (by omega) (UInt8.ofNat (n % 128 + 128))
      rw [show byteV (UInt8.ofNat (n % 128 + 128)) = .int .u8 ((UInt8.ofNat (n % 128 + 128)).toNat : Int) from rfl] at e1
      rw [show byteV (UInt8.ofNat (n % 128 + 128)) = .int .u8 ((UInt8.ofNat (n % 128 + 128)).toNat : Int) from rfl, bs1]
      simp only [obH_some']
      rw [e1, bin_shr _ _ _ _ _ _ _ (by omega)]
      simp only [obH_some', Option.bind_some, againK_normal]
      have f1 : Int.fdiv (n : Int) (2 ^ min (Int.toNat 7) IntKind.u64.bits) = ((n / 128 : Nat) : Int) := fdiv_128 n
      have f3 : sizeN n = sizeN (n / 128) + 1 := by rw [sizeN, if_neg (by omega)]
      rw [f1]
      obtain ⟨v2, h2, g1, g2, g3⟩ := ih (n / 128) (by omega) h' v' (k + 1) _ Aa Ac Ad Ae Ag Ah _ _ _ _ _ _ _ _ _ _ _ _ _ _ _ (by omega) (hkeep.trans e3) e2
      refine ⟨v2, h2, g1, g2, ?_⟩
      have f4 : k + sizeN n = k + 1 + sizeN (n / 128) := by omega
      have f5 : cs ++ (putL n).map byteV = cs ++ [byteV (UInt8.ofNat (n % 128 + 128))] ++ (putL (n / 128)).map byteV := by
        rw [putL, if_neg (by omega)]; simp
      rw [f4, f5]; exact g3
    · rw [if_neg (by omega)]
      simp only [againK_exit, blockK_same, seqK_normal]
      rw [c68_2_eq]
      simp only [conv_22_5, obH_some', bs1]
      obtain ⟨v', h', e1, e2, e3⟩ := app1 hle ha (by omega) (UInt8.ofNat n)
      rw [← small_byte n] at e1 e2
      rw [e1]
      simp only [obH_some']
      rw [ret68, fin_done]
      refine ⟨_, _, rfl, done_ext (hkeep.trans e3), ?_⟩
      have f3 : sizeN n = 1 := by rw [sizeN, if_pos (by omega)]
      have f5 : (putL n).map byteV = [byteV (UInt8.ofNat n)] := by rw [putL, if_pos (by omega)]; rfl
      rw [f3, f5, ← small_byte n]
      exact e2.keep fun _ _ _ => rfl
theorem spec_Put (n : Nat) (hn : n < 2 ^ 64) (h : Heap) (b : Value) (k : Nat) (cs : List Value) (hb : Row h 1 b k cs) (hk : k < 2 ^ 39) (hone : cs.all Value.oneCell' = true) :
    ∃ v' h', evC Try.prog 68 #[b, .int .u64 n] h = some (v', h') ∧ HExt h h' ∧ Acc h.blks.length h' 5 1 v' (k + sizeN n) (cs ++ (putL n).map byteV) := by
  rw [call68, c68_0_eq]
  have hs := sizeN_le n 10 (by omega) (by omega)
  have hr : Row (nm h) 1 b k cs := hb.keep fun _ _ _ => rfl
  obtain ⟨v', h', h1, h2, h3, h4, h5⟩ := append_acc etB (t1 := some 33) (n0 := h.blks.length) (h := nm h) (Nat.le_refl _) .nil (newsV_row etB.under hr) (by simpa using hr.len) (by omega) (by omega) hone
  rw [h1]
  simp only [obH_some']
  obtain ⟨v2, h2', g1, g2, g3⟩ := put_loop h n h' v' (0 + k) _ b undef undef (Go.Value.slice Option.none 0 0) b v' undef undef undef undef undef undef undef undef undef undef undef undef undef undef undef (by omega) h3 h2
  exact ⟨v2, h2', g1, g2, by simpa using g3⟩
end Go.Am
namespace Go.Am
open Go.Proofs
end Go.Am
namespace Go.Am
open Go.Proofs
theorem ldB (p o : Nat) (h : Heap) : loadV Try.prog 33 (.pointer (some ⟨p, o, none⟩)) h = h.load1 p o := by kernel_rfl
theorem stB (p o : Nat) (a : Option Addr) (n c : Nat) (h : Heap) : storeV Try.prog 33 (.pointer (some ⟨p, o, none⟩)) (.slice a n c) h = h.storeN p o [.slice a n c] := by kernel_rfl
theorem nilB (xo yo : Operand) : binV Try.prog .eql 33 xo yo (.slice none 0 0) (.slice none 0 0) = some (.bool true) := by kernel_rfl
theorem mkB0 (h : Heap) : buildSliceV Try.prog 33 0 #[] h = some (.slice (some ⟨h.blks.length, 0, none⟩) 0 0, h.new (.cells []) 5) := by kernel_rfl
theorem mkB1 (k : IntKind) (n : Int) (h : Heap) : buildSliceV Try.prog 33 1 #[(0, .int k n)] h = some (.slice (some ⟨h.blks.length, 0, none⟩) 1 1, h.new (.cells [.int k n]) 5) := by kernel_rfl
theorem cvB8 (k : IntKind) (n : Nat) (h : Heap) : convV Try.prog 35 5 (.int k n) h = some (byteV (UInt8.ofNat n), h) := by
  rw [conv_int (ks := .u64) (kd := .u8) (by kernel_rfl) (by kernel_rfl), small_byte]
theorem cvI64 (n : Int) (h : Heap) (h0 : 0 ≤ n) (h1 : n < 2 ^ 63) : convV Try.prog 3 35 (.int .i64 n) h = some (.int .u64 n, h) := conv_u64 (ks := .i64) (by kernel_rfl) (by kernel_rfl) _ _ _ h0 (by omega)
theorem beql (xo yo : Operand) (a b : Bool) : binV Try.prog .eql 4 xo yo (.bool a) (.bool b) = some (.bool (a == b)) := bin_beql _ _ _ _ (by cases a <;> cases b <;> kernel_rfl)
abbrev SB (h : Heap) (v : Value) (bs : List UInt8) : Prop := Sl Try.prog h 1 v bs.length (bs.map byteV)
abbrev AB (n0 : Nat) (h : Heap) (v : Value) (bs : List UInt8) : Prop := Acc n0 h 5 1 v bs.length (bs.map byteV)
theorem AB.sb {n0 : Nat} {h : Heap} {v : Value} {bs : List UInt8} (a : AB n0 h v bs) : SB h v bs := a.sl etB.size
theorem bytes_one (bs : List UInt8) : (bs.map byteV).all Value.oneCell' = true := by
  rw [List.all_map, List.all_eq_true]; intro x _; rfl
theorem AB.empty (n0 : Nat) (h : Heap) (hn : n0 ≤ h.blks.length) : AB n0 (h.new (.cells []) 5) (.slice (some ⟨h.blks.length, 0, none⟩) 0 0) [] := .full (all := []) hn (by omega) (blk_new_self _ _ _) (by simp) rfl
theorem app_bytes {n0 : Nat} {h : Heap} (hn0 : n0 ≤ h.blks.length) {v x : Value} {bs cs : List UInt8} (ha : AB n0 h v bs) (hx : SB h x cs) (hl : bs.length + cs.length < 2 ^ 44) :
    ∃ a c h', appendV Try.prog 33 (some 33) v x h = some (.slice a (bs ++ cs).length c, h') ∧ AB n0 h' (.slice a (bs ++ cs).length c) (bs ++ cs) ∧ Keeps n0 h h' ∧ (∀ b, b < h.blks.length → blockOf v ≠ some b → h'.blks[b]? = h.blks[b]?) ∧
      (.slice a (bs ++ cs).length c = v ∧ h' = h ∨ blockOf (.slice a (bs ++ cs).length c) = some h.blks.length ∧ h.blks.length < h'.blks.length) := by
  obtain ⟨v', h', e1, e2, e3, e4, e5⟩ := append_acc etB (t1 := some 33) hn0 ha (newsV_row etB.under hx.row) (by simpa using hx.len) (by omega) (by omega) (bytes_one cs)
  obtain ⟨a, c, rfl⟩ := e2.shape
  rw [← List.length_append] at e1 e2 e5
  rw [← List.map_append] at e2
  exact ⟨a, c, h', e1, e2, e3, e4, e5⟩
theorem strB {h : Heap} {v : Value} {bs : List UInt8} (s : SB h v bs) : convV Try.prog 33 9 v h = some (strV bs, h) := by
  have hs : Try.prog.underlying 33 = some (.slice 5) := by kernel_rfl
  have hd : Try.prog.underlying 9 = some .string := by kernel_rfl
  have hb : isByteT Try.prog 5 = true := by kernel_rfl
  have hbo : ∀ l : List UInt8, bytesOf? (l.map byteV) = some l := by
    intro l
    induction l with
    | nil => rfl
    | cons x l ih =>
      rw [List.map_cons]
      unfold byteV bytesOf?
      rw [show (l.map byteV) = l.map byteV from rfl] at ih
      have : bytesOf? (l.map fun b => Value.int .u8 (b.toNat : Int)) = some l := ih
      change (bytesOf? (l.map byteV)).map _ = _
      rw [ih]
      simp
  unfold convV
  rw [hs, hd]
  rcases s.inv with ⟨rfl, _, h3⟩ | ⟨b, o, c, rfl, hl, _⟩
  · have : bs = [] := by simpa using h3
    subst this
    simp [hb]
    rfl
  · simp only [hb, if_true]
    rw [Nat.mul_one] at hl
    rw [hl, Option.bind_some, hbo]
    rfl
theorem mkBb (b : UInt8) (h : Heap) : buildSliceV Try.prog 33 1 #[(0, byteV b)] h = some (.slice (some ⟨h.blks.length, 0, none⟩) 1 1, h.new (.cells [byteV b]) 5) := mkB1 _ _ _
theorem lit1 (b : UInt8) (h : Heap) : SB (h.new (.cells [byteV b]) 5) (.slice (some ⟨h.blks.length, 0, none⟩) 1 1) [b] :=
  .mk (by simp [Heap.loadN, Heap.cells?, blk_new_self]) (.inr ⟨Nat.le_refl _, by unfold UNK; omega⟩)
theorem app_b {n0 : Nat} {h : Heap} (hn0 : n0 ≤ h.blks.length) {v : Value} {bs : List UInt8} (ha : AB n0 h v bs) (b : UInt8) (hl : bs.length < 2 ^ 43) :
    ∃ a c h', appendV Try.prog 33 (some 33) v (.slice (some ⟨h.blks.length, 0, none⟩) 1 1) (h.new (.cells [byteV b]) 5) = some (.slice a (bs ++ [b]).length c, h') ∧ AB n0 h' (.slice a (bs ++ [b]).length c) (bs ++ [b]) ∧ Keeps n0 h h' ∧
      (∀ q, q < h.blks.length → blockOf v ≠ some q → h'.blks[q]? = h.blks[q]?) := by
  have ha' : AB n0 (h.new (.cells [byteV b]) 5) v bs := ha.keep fun _ hb _ => Heap.new_old hb
  obtain ⟨a, c, h', e1, e2, e3, e4, _⟩ := app_bytes (n0 := n0) (by simp [Heap.new]; omega) ha' (lit1 b h) (by simp; omega)
  exact ⟨a, c, h', e1, e2, (Keeps.new hn0 _ _).trans e3, fun q hq hne => (e4 q (by simp [Heap.new]; omega) hne).trans (Heap.new_old hq)⟩
theorem spec_Clone (h : Heap) (x : Value) (bs : List UInt8) (hx : SB h x bs) (hl : bs.length < 2 ^ 43) :
    ∃ a c h', evC Try.prog 69 #[x] h = some (.slice a bs.length c, h') ∧ HExt h h' ∧ AB h.blks.length h' (.slice a bs.length c) bs := by
  rw [call69, c69_0_eq]
  rcases hx.inv with ⟨rfl, _, h3⟩ | ⟨b, o, c, rfl, _, _⟩
  · have : bs = [] := by simpa using h3
    subst this
    simp -implicitDefEqProofs only [nilB, ↓cnd_true, ↓cnd_false, ↓Option.bind_some, ↓obH_some', bin_add, bin_sub, bin_mul, bin_lss, bin_leq, bin_gtr, bin_geq, bin_eql, bin_neq, un_not, un_neg, Option.bind_some, Option.bind_none, Option.map_some, cnd_true, cnd_false, pickV_true, pickV_false, gd_true, gd_false, gdV_true, gdV_false, gdH_true, gdH_false, gdS_true, gdS_false, wt_ff, wt_tt, wt_ft, wt_tf, wt_undef, obH_some', extractV_tuple, nilCheckV_ptr, againK_normal, againK_exit, againK_ret, blockK_normal, blockK_same, blockK_ret, seqK_normal, seqK_exit, seqK_ret, fin_done, if_true', if_false', Bool.not_true, Bool.not_false, idx0, idx1, idx2, idx3, idx4, chk_nil_l, chk_nil_r, done_nm]
    rw [ret69, fin_done]
    exact ⟨none, 0, h, by simp, HExt.refl h, .nil⟩
  · simp -implicitDefEqProofs only [bin_nil_some (P := Try.prog) (t := 33) etB.under, mkB0, ↓cnd_true, ↓cnd_false, ↓Option.bind_some, ↓obH_some', bin_add, bin_sub, bin_mul, bin_lss, bin_leq, bin_gtr, bin_geq, bin_eql, bin_neq, un_not, un_neg, Option.bind_some, Option.bind_none, Option.map_some, cnd_true, cnd_false, pickV_true, pickV_false, gd_true, gd_false, gdV_true, gdV_false, gdH_true, gdH_false, gdS_true, gdS_false, wt_ff, wt_tt, wt_ft, wt_tf, wt_undef, obH_some', extractV_tuple, nilCheckV_ptr, againK_normal, againK_exit, againK_ret, blockK_normal, blockK_same, blockK_ret, seqK_normal, seqK_exit, seqK_ret, fin_done, if_true', if_false', Bool.not_true, Bool.not_false, idx0, idx1, idx2, idx3, idx4, chk_nil_l, chk_nil_r, done_nm]
    obtain ⟨a, c', h', e1, e2, e3, e4, e5⟩ := app_bytes (n0 := h.blks.length) (by simp [Heap.new]) (AB.empty h.blks.length (nm h) (by simp)) (hx.nm.keepNew _ _) (by simp; omega)
    rw [e1]
    simp only [obH_some']
    rw [ret69, fin_done]
    exact ⟨a, c', _, rfl, done_ext' ((In.new (S := No) (by simp) _ _).trans e3.inn), e2.done⟩
theorem spec_PutB (n : Nat) (hn : n < 2 ^ 64) (h : Heap) (b : Value) (bs : List UInt8) (hb : SB h b bs) (hk : bs.length < 2 ^ 39) :
    ∃ a c h', evC Try.prog 68 #[b, .int .u64 n] h = some (.slice a (bs ++ putL n).length c, h') ∧ HExt h h' ∧ AB h.blks.length h' (.slice a (bs ++ putL n).length c) (bs ++ putL n) := by
  obtain ⟨v, h', e1, e2, e3⟩ := spec_Put n hn h b _ _ hb.row hk (bytes_one bs)
  obtain ⟨a, c, rfl⟩ := e3.shape
  rw [← putL_len, ← List.length_append] at e1 e3
  rw [← List.map_append] at e3
  exact ⟨a, c, h', e1, e2, e3⟩
end Go.Am
namespace Go.Am
open Go.Proofs
def rbs (r : Option (List UInt8)) : List UInt8 := r.getD []
def Wr (n0 : Nat) (h : Heap) (p : Nat) (bs : List UInt8) : Prop := ∃ a c, Cells h p 126 [.slice a bs.length c] ∧ AB n0 h (.slice a bs.length c) bs ∧ blockOf (.slice a bs.length c) ≠ some p
def LoP (v : Value) (L p : Nat) : Prop := ∀ b, blockOf v = some b → L ≤ b ∧ b < p
theorem LoP.ne {v : Value} {L p : Nat} (l : LoP v L p) : blockOf v ≠ some p := fun e => by have := (l p e).2; omega
theorem LoP.to {v w : Value} {L p : Nat} (l : LoP v L p) (e : blockOf w = blockOf v) : LoP w L p := fun b hb => l b (by rw [← e]; exact hb)
theorem LoP.nil (L p : Nat) : LoP (.slice none 0 0) L p := fun b hb => by cases hb
def RdrL (L : Nat) (h : Heap) (p : Nat) (r : Option (List UInt8)) : Prop := ∃ a c, Cells h p 138 [.slice a (rbs r).length c, .bool r.isNone] ∧ SB h (.slice a (rbs r).length c) (rbs r) ∧ LoP (.slice a (rbs r).length c) L p
theorem Wr.lt {n0 : Nat} {h : Heap} {p : Nat} {bs : List UInt8} (w : Wr n0 h p bs) : p < h.blks.length := let ⟨_, _, c, _⟩ := w; c.lt
abbrev Rdr (h : Heap) (p : Nat) (r : Option (List UInt8)) : Prop := RdrL 0 h p r
theorem RdrL.dn {L : Nat} {h : Heap} {p : Nat} {r : Option (List UInt8)} (w : RdrL L h p r) : Rdr h p r := let ⟨a, c, x, y, z⟩ := w; ⟨a, c, x, y, fun b hb => ⟨Nat.zero_le _, (z b hb).2⟩⟩
theorem RdrL.lt {L : Nat} {h : Heap} {p : Nat} {r : Option (List UInt8)} (w : RdrL L h p r) : p < h.blks.length := let ⟨_, _, c, _⟩ := w; c.lt
theorem faW (p : Nat) : fieldAddrV Try.prog 126 (.pointer (some ⟨p, 0, none⟩)) 0 = some (.pointer (some ⟨p, 0, none⟩)) := by kernel_rfl
theorem bdW : buildV Try.prog 126 #[] = some (.agg #[.slice none 0 0]) := by kernel_rfl
theorem bxW (x : Value) (h : Heap) : boxV Try.prog 126 (.agg #[x]) h = some (.pointer (some ⟨h.blks.length, 0, none⟩), h.new (.cells [x]) 126) := by kernel_rfl
theorem spec_NewWriter (h : Heap) : ∃ h', evC Try.prog 44 #[] h = some (.pointer (some ⟨h.blks.length, 0, none⟩), h') ∧ HExt h h' ∧ Wr h.blks.length h' h.blks.length [] ∧ h'.blks.length = h.blks.length + 1 := by
  rw [call44, c44_0_eq]
  simp -implicitDefEqProofs only [bdW, bxW, ↓cnd_true, ↓cnd_false, ↓Option.bind_some, ↓obH_some', bin_add, bin_sub, bin_mul, bin_lss, bin_leq, bin_gtr, bin_geq, bin_eql, bin_neq, un_not, un_neg, Option.bind_some, Option.bind_none, Option.map_some, cnd_true, cnd_false, pickV_true, pickV_false, gd_true, gd_false, gdV_true, gdV_false, gdH_true, gdH_false, gdS_true, gdS_false, wt_ff, wt_tt, wt_ft, wt_tf, wt_undef, obH_some', extractV_tuple, nilCheckV_ptr, againK_normal, againK_exit, againK_ret, blockK_normal, blockK_same, blockK_ret, seqK_normal, seqK_exit, seqK_ret, fin_done, if_true', if_false', Bool.not_true, Bool.not_false, idx0, idx1, idx2, idx3, idx4, chk_nil_l, chk_nil_r, done_nm]
  rw [ret44, fin_done]
  exact ⟨_, rfl, done_ext' (In.new (S := No) (by simp) _ _), ⟨none, 0, (Cells.new (nm h) _ _).done, .nil, by simp [blockOf]⟩, by simp [Heap.new]⟩
theorem Wr.put {n0 : Nat} {h : Heap} {p : Nat} {a : Option Addr} {bs : List UInt8} {c : Nat} {cs : List Value} (hc : Cells h p 126 cs) (ha : AB n0 h (.slice a bs.length c) bs) (hb : blockOf (.slice a bs.length c) ≠ some p) :
    Wr n0 (h.put p (.cells [.slice a bs.length c])) p bs := ⟨a, c, hc.put _, ha.keepPut hb _, hb⟩
theorem Wr.nm {n0 : Nat} {h : Heap} {p : Nat} {bs : List UInt8} (w : Wr n0 h p bs) : Wr n0 (Am.nm h) p bs := let ⟨a, c, x, y, z⟩ := w; ⟨a, c, x, y.keep fun _ _ _ => rfl, z⟩
theorem Wr.done {n0 : Nat} {h0 h : Heap} {p : Nat} {bs : List UInt8} (w : Wr n0 h p bs) : Wr n0 (Am.done h0 h) p bs := let ⟨a, c, x, y, z⟩ := w; ⟨a, c, x.done, y.done, z⟩
theorem Wr.same {n0 : Nat} {h h' : Heap} {p : Nat} {bs : List UInt8} (w : Wr n0 h p bs) (e : Same h h') : Wr n0 h' p bs := let ⟨a, c, x, y, z⟩ := w; ⟨a, c, x.same e, y.same e, z⟩
theorem Wr.ext {n0 : Nat} {h h' : Heap} {p : Nat} {bs : List UInt8} (w : Wr n0 h p bs) (e : HExt h h') : Wr n0 h' p bs := let ⟨a, c, x, y, z⟩ := w; ⟨a, c, x.ext e, y.keep fun b hb _ => e.old b hb, z⟩
theorem Wr.up {n0 n1 : Nat} {h : Heap} {p : Nat} {bs : List UInt8} (w : Wr n0 h p bs) (hn : n1 ≤ n0) : Wr n1 h p bs := let ⟨a, c, x, y, z⟩ := w; ⟨a, c, x, y.up hn, z⟩
theorem spec_WNum {n0 : Nat} {h : Heap} {p : Nat} {bs : List UInt8} (w : Wr n0 h p bs) (hn0 : n0 ≤ h.blks.length) (n : Nat) (hn : n < 2 ^ 64) (hl : bs.length < 2 ^ 39) :
    ∃ h', evC Try.prog 45 #[.pointer (some ⟨p, 0, none⟩), .int .u64 n] h = some (.tuple #[], h') ∧ HMod (Just p) h h' ∧ Wr h.blks.length h' p (bs ++ putL n) := by
  rw [call45, c45_0_eq]
  obtain ⟨a, c, hc, ha, hne⟩ := w
  obtain ⟨a2, c2, h2, e2,Ac, ab⟩ := spec_PutB n hn (nm h) _ bs ha.sb.nm hl
  simp -implicitDefEqProofs only [faW, ldB, hc.nm.load, List.getElem?_cons_zero, e2, stB, storeN_blk (hc.nm.ext Ac) (o := 0) (vs := [.slice a2 (bs ++ putL n).length c2]) (by simp), ↓cnd_true, ↓cnd_false, ↓Option.bind_some, ↓obH_some', bin_add, bin_sub, bin_mul, bin_lss, bin_leq, bin_gtr, bin_geq, bin_eql, bin_neq, un_not, un_neg, Option.bind_some, Option.bind_none, Option.map_some, cnd_true, cnd_false, pickV_true, pickV_false, gd_true, gd_false, gdV_true, gdV_false, gdH_true, gdH_false, gdS_true, gdS_false, wt_ff, wt_tt, wt_ft, wt_tf, wt_undef, obH_some', extractV_tuple, nilCheckV_ptr, againK_normal, againK_exit, againK_ret, blockK_normal, blockK_same, blockK_ret, seqK_normal, seqK_exit, seqK_ret, fin_done, if_true', if_false', Bool.not_true, Bool.not_false, idx0, idx1, idx2, idx3, idx4, chk_nil_l, chk_nil_r, done_nm]
  rw [retn45, fin_done]
  refine ⟨_, rfl, done_mod ((Ac.inn (by simp)).trans (In.put (by have := Ac.len; simpa using this) (.inr (show Just p p from rfl)) _)), ?_⟩
  simp only [List.take_zero, List.nil_append, List.length_singleton, Nat.zero_add, List.drop_succ_cons, List.drop_nil, List.append_nil]
  exact (Wr.put (hc.nm.ext Ac) ab (ab.ne hc.lt)).done
theorem spec_WDone {n0 : Nat} {h : Heap} {p : Nat} {bs : List UInt8} (w : Wr n0 h p bs) (hl : bs.length < 2 ^ 43) :
    ∃ a c h', evC Try.prog 46 #[.pointer (some ⟨p, 0, none⟩)] h = some (.slice a bs.length c, h') ∧ HExt h h' ∧ AB h.blks.length h' (.slice a bs.length c) bs := by
  rw [call46, c46_0_eq]
  obtain ⟨a, c, hc, ha, hne⟩ := w
  obtain ⟨a2, c2, h2, e2,Ac, ab⟩ := spec_Clone (nm h) _ bs ha.sb.nm hl
  simp -implicitDefEqProofs only [faW, ldB, hc.nm.load, List.getElem?_cons_zero, e2, ↓cnd_true, ↓cnd_false, ↓Option.bind_some, ↓obH_some', bin_add, bin_sub, bin_mul, bin_lss, bin_leq, bin_gtr, bin_geq, bin_eql, bin_neq, un_not, un_neg, Option.bind_some, Option.bind_none, Option.map_some, cnd_true, cnd_false, pickV_true, pickV_false, gd_true, gd_false, gdV_true, gdV_false, gdH_true, gdH_false, gdS_true, gdS_false, wt_ff, wt_tt, wt_ft, wt_tf, wt_undef, obH_some', extractV_tuple, nilCheckV_ptr, againK_normal, againK_exit, againK_ret, blockK_normal, blockK_same, blockK_ret, seqK_normal, seqK_exit, seqK_ret, fin_done, if_true', if_false', Bool.not_true, Bool.not_false, idx0, idx1, idx2, idx3, idx4, chk_nil_l, chk_nil_r, done_nm]
  rw [ret46, fin_done]
  exact ⟨a2, c2, _, rfl, done_ext' (Ac.inn (by simp)), ab.done⟩
theorem RdrL.nm {L : Nat} {h : Heap} {p : Nat} {r : Option (List UInt8)} (w : RdrL L h p r) : RdrL L (Am.nm h) p r := let ⟨a, c, x, y, z⟩ := w; ⟨a, c, x, y.nm, z⟩
theorem RdrL.done {L : Nat} {h0 h : Heap} {p : Nat} {r : Option (List UInt8)} (w : RdrL L h p r) : RdrL L (Am.done h0 h) p r := let ⟨a, c, x, y, z⟩ := w; ⟨a, c, x.done, y.done, z⟩
theorem RdrL.same {L : Nat} {h h' : Heap} {p : Nat} {r : Option (List UInt8)} (w : RdrL L h p r) (e : Same h h') : RdrL L h' p r := let ⟨a, c, x, y, z⟩ := w; ⟨a, c, x.same e, y.same e, z⟩
theorem RdrL.keepPut {L : Nat} {h : Heap} {p q : Nat} {r : Option (List UInt8)} (w : RdrL L h p r) (hq : p < q) (body : Body) : RdrL L (h.put q body) p r :=
  let ⟨a, c, x, y, z⟩ := w; ⟨a, c, x.keepPut (by omega) _, y.keepPut (fun e => by have := (z _ e).2; omega) _, z⟩
theorem RdrL.ext {L : Nat} {h h' : Heap} {p : Nat} {r : Option (List UInt8)} (w : RdrL L h p r) (e : HExt h h') : RdrL L h' p r := let ⟨a, c, x, y, z⟩ := w; ⟨a, c, x.ext e, y.ext e, z⟩
theorem RdrL.put {L : Nat} {h : Heap} {p : Nat} {a : Option Addr} {r : Option (List UInt8)} {c : Nat} {cs : List Value} (hc : Cells h p 138 cs) (ha : SB h (.slice a (rbs r).length c) (rbs r)) (hb : LoP (.slice a (rbs r).length c) L p) :
    RdrL L (h.put p (.cells [.slice a (rbs r).length c, .bool r.isNone])) p r := ⟨a, c, hc.put _, ha.keepPut hb.ne _, hb⟩
end Go.Am
namespace Go.Am
end Go.Am
namespace Go.Am
open Go.Proofs
theorem bin_quo64 (P : Program) (t : TypeId) (xo yo : Operand) (a b : Int) (ha : 0 ≤ a) (ha' : a < 2 ^ 64) (hb : 0 < b) : binV P .quo t xo yo (.int .u64 a) (.int .u64 b) = some (.int .u64 ((a.toNat / b.toNat : Nat) : Int)) := by
  refine bin_int t xo yo .u64 .u64 a b .quo rfl ?_
  have h1 : ¬ (b = 0) := by omega
  have e : ((a.toNat / b.toNat : Nat) : Int) = a.tdiv b := by
    rw [Int.tdiv_eq_ediv_of_nonneg ha]
    push_cast
    rw [Int.toNat_of_nonneg ha, Int.toNat_of_nonneg (by omega)]
  have hlt : ((a.toNat / b.toNat : Nat) : Int) < 2 ^ 64 := by
    have := Nat.div_le_self a.toNat b.toNat
    omega
  simp only [eqGuard,Go.binOp,Op.intDiv]
  rw [if_neg h1, ← e, wrap_u64 (Int.natCast_nonneg _) hlt]
  rfl
theorem bin_rem64 (P : Program) (t : TypeId) (xo yo : Operand) (a b : Int) (ha : 0 ≤ a) (hb : 0 < b) : binV P .rem t xo yo (.int .u64 a) (.int .u64 b) = some (.int .u64 ((a.toNat % b.toNat : Nat) : Int)) := by
  refine bin_int t xo yo .u64 .u64 a b .rem rfl ?_
  have h1 : ¬ (b = 0) := by omega
  have e : ((a.toNat % b.toNat : Nat) : Int) = a.tmod b := by
    rw [Int.tmod_eq_emod_of_nonneg ha]
    push_cast
    rw [Int.toNat_of_nonneg ha, Int.toNat_of_nonneg (by omega)]
  simp only [eqGuard,Go.binOp,Op.intDiv]
  rw [if_neg h1, ← e]
  rfl
theorem add128 (t : TypeId) (xo yo : Operand) (n : Nat) : binV Try.prog .add t xo yo (byteV (UInt8.ofNat (n % 128))) (.int .u8 128) = some (byteV (UInt8.ofNat (n % 128 + 128))) := by
  unfold byteV
  rw [bin_add]
  have e1 : (UInt8.ofNat (n % 128)).toNat = n % 128 := by simp; omega
  have e2 : (UInt8.ofNat (n % 128 + 128)).toNat = n % 128 + 128 := by simp; omega
  rw [e1, e2]
  have : IntKind.wrap .u8 (((n % 128 : Nat) : Int) + 128) = ((n % 128 + 128 : Nat) : Int) := by rw [wrap_u8 (by omega) (by omega)]; omega
  rw [this]
theorem rput_loop (h0 : Heap) (n : Nat) : ∀ (h : Heap) (v : Value) (bs : List UInt8) (Ac Ad Ae Af Ag Ah Ai Aj Ak Al An Ao Ap Aq Ar As At Au Av Aw Ax Ay : Value), n < 2 ^ 64 → bs.length + sizeN n < 2 ^ 40 → In h0.blks.length No (nm h0) h → AB h0.blks.length h v bs →
    ∃ a c h', loopK Try.prog (evC Try.prog) c83_1 ⟨#[v, .int .u64 n,Ac,Ad,Ae,Af,Ag,Ah,Ai,Aj,Ak,Al,An,Ao,Ap,Aq,Ar,As,At,Au,Av,Aw,Ax,Ay], h⟩ (blockK 0 (seqK Try.prog (evC Try.prog) c83_2 (retK Try.f83 Try.prog h0))) =
      some (.slice a (bs ++ putL n).length c, h') ∧ HExt h0 h' ∧ AB h0.blks.length h' (.slice a (bs ++ putL n).length c) (bs ++ putL n) := by
  induction n using Nat.strongRecOn with
  | _ n ih =>
    intro h v bs Ac Ad Ae Af Ag Ah Ai Aj Ak Al An Ao Ap Aq Ar As At Au Av Aw Ax Ay hn hk hin ha
    rw [loopK_eq evC_m, c83_1_eq]
    have hle : h0.blks.length ≤ h.blks.length := hin.len
    by_cases hge : 128 ≤ n
    · have f3 : sizeN n = sizeN (n / 128) + 1 := by rw [sizeN, if_neg (by omega)]
      obtain ⟨a, c, h', e1, e2, e3, _⟩ := app_b hle ha (UInt8.ofNat (n % 128 + 128)) (by omega)
      simp -implicitDefEqProofs (disch := omega) only [dcT, dcF, bin_rem64, bin_quo64, Int.toNat_natCast, Int.reduceToNat, cvB8, add128, mkBb, e1, ↓cnd_true, ↓cnd_false, ↓Option.bind_some, ↓obH_some', bin_add, bin_sub, bin_mul, bin_lss, bin_leq, bin_gtr, bin_geq, bin_eql, bin_neq, un_not, un_neg, Option.bind_some, Option.bind_none, Option.map_some, cnd_true, cnd_false, pickV_true, pickV_false, gd_true, gd_false, gdV_true, gdV_false, gdH_true, gdH_false, gdS_true, gdS_false, wt_ff, wt_tt, wt_ft, wt_tf, wt_undef, obH_some', extractV_tuple, nilCheckV_ptr, againK_normal, againK_exit, againK_ret, blockK_normal, blockK_same, blockK_ret, seqK_normal, seqK_exit, seqK_ret, fin_done, if_true', if_false', Bool.not_true, Bool.not_false, idx0, idx1, idx2, idx3, idx4, chk_nil_l, chk_nil_r, done_nm]
      obtain ⟨a2, c2, h2, g1, g2, g3⟩ := ih (n / 128) (by omega) h' _ _ _ _ _ _ _ _ _ _ _ _ _ _ _ _ _ _ _ _ _ _ _ _ (by omega) (by simp only [List.length_append, List.length_singleton]; omega) (hin.trans e3.inn) e2
      have e : bs ++ putL n = bs ++ [UInt8.ofNat (n % 128 + 128)] ++ putL (n / 128) := by rw [putL, if_neg (by omega)]; simp
      rw [e]
      exact ⟨a2, c2, h2, g1, g2, g3⟩
    · obtain ⟨a, c, h', e1, e2, e3, _⟩ := app_b hle ha (UInt8.ofNat n) (by omega)
      simp -implicitDefEqProofs (disch := omega) only [dcT, dcF, c83_2_eq, cvB8, mkBb, e1, ↓cnd_true, ↓cnd_false, ↓Option.bind_some, ↓obH_some', bin_add, bin_sub, bin_mul, bin_lss, bin_leq, bin_gtr, bin_geq, bin_eql, bin_neq, un_not, un_neg, Option.bind_some, Option.bind_none, Option.map_some, cnd_true, cnd_false, pickV_true, pickV_false, gd_true, gd_false, gdV_true, gdV_false, gdH_true, gdH_false, gdS_true, gdS_false, wt_ff, wt_tt, wt_ft, wt_tf, wt_undef, obH_some', extractV_tuple, nilCheckV_ptr, againK_normal, againK_exit, againK_ret, blockK_normal, blockK_same, blockK_ret, seqK_normal, seqK_exit, seqK_ret, fin_done, if_true', if_false', Bool.not_true, Bool.not_false, idx0, idx1, idx2, idx3, idx4, chk_nil_l, chk_nil_r, done_nm]
      rw [ret83, fin_done]
      have e : putL n = [UInt8.ofNat n] := by rw [putL, if_pos (by omega)]
      rw [e]
      exact ⟨a, c, _, rfl, done_ext' (hin.trans e3.inn), e2.done⟩
theorem spec_refPut (n : Nat) (hn : n < 2 ^ 64) (h : Heap) (b : Value) (bs : List UInt8) (hb : SB h b bs) (hk : bs.length < 2 ^ 39) :
    ∃ a c h', evC Try.prog 83 #[b, .int .u64 n] h = some (.slice a (bs ++ putL n).length c, h') ∧ HExt h h' ∧ AB h.blks.length h' (.slice a (bs ++ putL n).length c) (bs ++ putL n) := by
  rw [call83, c83_0_eq]
  have hs := sizeN_le n 10 (by omega) (by omega)
  obtain ⟨a, c, h', e1, e2, e3, _⟩ := app_bytes (n0 := h.blks.length) (by simp [Heap.new]) (AB.empty h.blks.length (nm h) (by simp)) (hb.nm.keepNew _ _) (by simp; omega)
  rw [List.nil_append] at e1 e2
  simp -implicitDefEqProofs only [mkB0, e1, ↓cnd_true, ↓cnd_false, ↓Option.bind_some, ↓obH_some', bin_add, bin_sub, bin_mul, bin_lss, bin_leq, bin_gtr, bin_geq, bin_eql, bin_neq, un_not, un_neg, Option.bind_some, Option.bind_none, Option.map_some, cnd_true, cnd_false, pickV_true, pickV_false, gd_true, gd_false, gdV_true, gdV_false, gdH_true, gdH_false, gdS_true, gdS_false, wt_ff, wt_tt, wt_ft, wt_tf, wt_undef, obH_some', extractV_tuple, nilCheckV_ptr, againK_normal, againK_exit, againK_ret, blockK_normal, blockK_same, blockK_ret, seqK_normal, seqK_exit, seqK_ret, fin_done, if_true', if_false', Bool.not_true, Bool.not_false, idx0, idx1, idx2, idx3, idx4, chk_nil_l, chk_nil_r, done_nm]
  exact rput_loop h n h' _ bs _ _ _ _ _ _ _ _ _ _ _ _ _ _ _ _ _ _ _ _ _ _ hn (by omega) ((In.new (by simp) _ _).trans e3.inn) e2
end Go.Am
namespace Go.Am
open Go.Proofs
theorem faRW (p : Nat) : fieldAddrV Try.prog 118 (.pointer (some ⟨p, 0, none⟩)) 0 = some (.pointer (some ⟨p, 0, none⟩)) := by kernel_rfl
theorem bdRW : buildV Try.prog 118 #[] = some (.agg #[.slice none 0 0]) := by kernel_rfl
theorem bxRW (x : Value) (h : Heap) : boxV Try.prog 118 (.agg #[x]) h = some (.pointer (some ⟨h.blks.length, 0, none⟩), h.new (.cells [x]) 118) := by kernel_rfl
def WrR (n0 : Nat) (h : Heap) (p : Nat) (bs : List UInt8) : Prop := ∃ a c, Cells h p 118 [.slice a bs.length c] ∧ AB n0 h (.slice a bs.length c) bs ∧ blockOf (.slice a bs.length c) ≠ some p
theorem WrR.lt {n0 : Nat} {h : Heap} {p : Nat} {bs : List UInt8} (w : WrR n0 h p bs) : p < h.blks.length := let ⟨_, _, c, _⟩ := w; c.lt
theorem WrR.put {n0 : Nat} {h : Heap} {p : Nat} {a : Option Addr} {bs : List UInt8} {c : Nat} {cs : List Value} (hc : Cells h p 118 cs) (ha : AB n0 h (.slice a bs.length c) bs) (hb : blockOf (.slice a bs.length c) ≠ some p) :
    WrR n0 (h.put p (.cells [.slice a bs.length c])) p bs := ⟨a, c, hc.put _, ha.keepPut hb _, hb⟩
theorem WrR.nm {n0 : Nat} {h : Heap} {p : Nat} {bs : List UInt8} (w : WrR n0 h p bs) : WrR n0 (Am.nm h) p bs := let ⟨a, c, x, y, z⟩ := w; ⟨a, c, x, y.keep fun _ _ _ => rfl, z⟩
theorem WrR.done {n0 : Nat} {h0 h : Heap} {p : Nat} {bs : List UInt8} (w : WrR n0 h p bs) : WrR n0 (Am.done h0 h) p bs := let ⟨a, c, x, y, z⟩ := w; ⟨a, c, x.done, y.done, z⟩
theorem WrR.same {n0 : Nat} {h h' : Heap} {p : Nat} {bs : List UInt8} (w : WrR n0 h p bs) (e : Same h h') : WrR n0 h' p bs := let ⟨a, c, x, y, z⟩ := w; ⟨a, c, x.same e, y.same e, z⟩
theorem WrR.ext {n0 : Nat} {h h' : Heap} {p : Nat} {bs : List UInt8} (w : WrR n0 h p bs) (e : HExt h h') : WrR n0 h' p bs := let ⟨a, c, x, y, z⟩ := w; ⟨a, c, x.ext e, y.keep fun b hb _ => e.old b hb, z⟩
theorem WrR.up {n0 n1 : Nat} {h : Heap} {p : Nat} {bs : List UInt8} (w : WrR n0 h p bs) (hn : n1 ≤ n0) : WrR n1 h p bs := let ⟨a, c, x, y, z⟩ := w; ⟨a, c, x, y.up hn, z⟩
theorem spec_RWNum {n0 : Nat} {h : Heap} {p : Nat} {bs : List UInt8} (w : WrR n0 h p bs) (hn0 : n0 ≤ h.blks.length) (n : Nat) (hn : n < 2 ^ 64) (hl : bs.length < 2 ^ 39) :
    ∃ h', evC Try.prog 65 #[.pointer (some ⟨p, 0, none⟩), .int .u64 n] h = some (.tuple #[], h') ∧ HMod (Just p) h h' ∧ WrR h.blks.length h' p (bs ++ putL n) := by
  rw [call65, c65_0_eq]
  obtain ⟨a, c, hc, ha, hne⟩ := w
  obtain ⟨a2, c2, h2, e2,Ac, ab⟩ := spec_refPut n hn (nm h) _ bs ha.sb.nm hl
  simp -implicitDefEqProofs only [faRW, ldB, hc.nm.load, List.getElem?_cons_zero, e2, stB, storeN_blk (hc.nm.ext Ac) (o := 0) (vs := [.slice a2 (bs ++ putL n).length c2]) (by simp), ↓cnd_true, ↓cnd_false, ↓Option.bind_some, ↓obH_some', bin_add, bin_sub, bin_mul, bin_lss, bin_leq, bin_gtr, bin_geq, bin_eql, bin_neq, un_not, un_neg, Option.bind_some, Option.bind_none, Option.map_some, cnd_true, cnd_false, pickV_true, pickV_false, gd_true, gd_false, gdV_true, gdV_false, gdH_true, gdH_false, gdS_true, gdS_false, wt_ff, wt_tt, wt_ft, wt_tf, wt_undef, obH_some', extractV_tuple, nilCheckV_ptr, againK_normal, againK_exit, againK_ret, blockK_normal, blockK_same, blockK_ret, seqK_normal, seqK_exit, seqK_ret, fin_done, if_true', if_false', Bool.not_true, Bool.not_false, idx0, idx1, idx2, idx3, idx4, chk_nil_l, chk_nil_r, done_nm]
  rw [retn65, fin_done]
  refine ⟨_, rfl, done_mod ((Ac.inn (by simp)).trans (In.put (by have := Ac.len; simpa using this) (.inr (show Just p p from rfl)) _)), ?_⟩
  simp only [List.take_zero, List.nil_append, List.length_singleton, Nat.zero_add, List.drop_succ_cons, List.drop_nil, List.append_nil]
  exact (WrR.put (hc.nm.ext Ac) ab (ab.ne hc.lt)).done
def LoR (v : Value) (N p : Nat) : Prop := Lo v N ∧ N ≤ p
theorem LoR.ne {v : Value} {N p : Nat} (l : LoR v N p) : blockOf v ≠ some p := (l.1.mono l.2).ne
theorem LoR.to {v w : Value} {N p : Nat} (l : LoR v N p) (e : blockOf w = blockOf v) : LoR w N p := ⟨l.1.to e, l.2⟩
theorem LoR.none {v : Value} {N p : Nat} (l : LoR v N p) : LoR (.slice Option.none 0 0) N p := ⟨Lo.nil _ _ _, l.2⟩
def RdrR (N : Nat) (h : Heap) (p : Nat) (r : Option (List UInt8)) : Prop := ∃ a c, Cells h p 109 [.slice a (rbs r).length c, .bool r.isNone] ∧ SB h (.slice a (rbs r).length c) (rbs r) ∧ LoR (.slice a (rbs r).length c) N p
theorem RdrR.lt {N : Nat} {h : Heap} {p : Nat} {r : Option (List UInt8)} (w : RdrR N h p r) : p < h.blks.length := let ⟨_, _, c, _⟩ := w; c.lt
theorem RdrR.nm {N : Nat} {h : Heap} {p : Nat} {r : Option (List UInt8)} (w : RdrR N h p r) : RdrR N (Am.nm h) p r := let ⟨a, c, x, y, z⟩ := w; ⟨a, c, x, y.nm, z⟩
theorem RdrR.done {N : Nat} {h0 h : Heap} {p : Nat} {r : Option (List UInt8)} (w : RdrR N h p r) : RdrR N (Am.done h0 h) p r := let ⟨a, c, x, y, z⟩ := w; ⟨a, c, x.done, y.done, z⟩
theorem RdrR.same {N : Nat} {h h' : Heap} {p : Nat} {r : Option (List UInt8)} (w : RdrR N h p r) (e : Same h h') : RdrR N h' p r := let ⟨a, c, x, y, z⟩ := w; ⟨a, c, x.same e, y.same e, z⟩
theorem RdrR.keepPut {N : Nat} {h : Heap} {p q : Nat} {r : Option (List UInt8)} (w : RdrR N h p r) (hq : p < q) (body : Body) : RdrR N (h.put q body) p r :=
  let ⟨a, c, x, y, z⟩ := w; ⟨a, c, x.keepPut (by omega) _, y.keepPut (fun e => by have := z.1 _ e; have := z.2; omega) _, z⟩
theorem RdrR.ext {N : Nat} {h h' : Heap} {p : Nat} {r : Option (List UInt8)} (w : RdrR N h p r) (e : HExt h h') : RdrR N h' p r := let ⟨a, c, x, y, z⟩ := w; ⟨a, c, x.ext e, y.ext e, z⟩
theorem RdrR.put {N : Nat} {h : Heap} {p : Nat} {a : Option Addr} {r : Option (List UInt8)} {c : Nat} {cs : List Value} (hc : Cells h p 109 cs) (ha : SB h (.slice a (rbs r).length c) (rbs r)) (hb : LoR (.slice a (rbs r).length c) N p) :
    RdrR N (h.put p (.cells [.slice a (rbs r).length c, .bool r.isNone])) p r := ⟨a, c, hc.put _, ha.keepPut hb.ne _, hb⟩
end Go.Am
namespace Go.Am
end Go.Am
namespace Go.Am
open Go.Proofs
set_option maxRecDepth 100000
set_option linter.all false
attribute [local congr] obind_congr obH_congr cnd_congr chk_congr retK_congr codeK_congr
def outB (n w : Nat) : Nat := n &&& (2 ^ 64 - 1 - w)
theorem anN (t : TypeId) (xo yo : Operand) (n w : Nat) (hn : n < 2 ^ 64) (hw : w < 2 ^ 64) : binV Try.prog .andNot t xo yo (.int .u64 n) (.int .u64 w) = some (.int .u64 ((outB n w : Nat) : Int)) := by
  rw [bin_andNot64 _ _ _ _ _ (by omega) (by omega) (by omega) (by omega), Int.toNat_natCast, Int.toNat_natCast]; rfl
theorem spec_Within (n w : Nat) (hn : n < 2 ^ 64) (hw : w < 2 ^ 64) (h : Heap) : evC Try.prog 28 #[.int .u64 n, .int .u64 w] h = some (.bool (decide (outB n w = 0)), h) := by
  rw [call28, c28_0_eq]
  have e := fun t xo yo => anN t xo yo n w hn hw
  have d : decide (((outB n w : Nat) : Int) = 0) = decide (outB n w = 0) := by congr 1; apply propext; omega
  simp -implicitDefEqProofs only [e, d, ↓ret28, ↓cnd_true, ↓cnd_false, ↓Option.bind_some, ↓obH_some', bin_add, bin_sub, bin_mul, bin_lss, bin_leq, bin_gtr, bin_geq, bin_eql, bin_neq, un_not, un_neg, Option.bind_some, Option.bind_none, Option.map_some, cnd_true, cnd_false, pickV_true, pickV_false, gd_true, gd_false, gdV_true, gdV_false, gdH_true, gdH_false, gdS_true, gdS_false, wt_ff, wt_tt, wt_ft, wt_tf, wt_undef, obH_some', extractV_tuple, nilCheckV_ptr, againK_normal, againK_exit, againK_ret, blockK_normal, blockK_same, blockK_ret, seqK_normal, seqK_exit, seqK_ret, fin_done, if_true', if_false', Bool.not_true, Bool.not_false, idx0, idx1, idx2, idx3, idx4, chk_nil_l, chk_nil_r, done_nm]
theorem spec_WSet {n0 : Nat} {h : Heap} {p : Nat} {bs : List UInt8} (w : Wr n0 h p bs) (hn0 : n0 ≤ h.blks.length) (n : Nat) (hn : n < 2 ^ 64) (hl : bs.length < 2 ^ 39) :
    ∃ h', evC Try.prog 60 #[.pointer (some ⟨p, 0, none⟩), .int .u64 n] h = some (.tuple #[], h') ∧ HMod (Just p) h h' ∧ Wr h.blks.length h' p (bs ++ putL n) := by
  rw [call60, c60_0_eq]
  obtain ⟨h2, e2,Ac, w2⟩ := spec_WNum w.nm (by simpa using hn0) n hn hl
  simp -implicitDefEqProofs only [e2, ↓retn60, ↓cnd_true, ↓cnd_false, ↓Option.bind_some, ↓obH_some', bin_add, bin_sub, bin_mul, bin_lss, bin_leq, bin_gtr, bin_geq, bin_eql, bin_neq, un_not, un_neg, Option.bind_some, Option.bind_none, Option.map_some, cnd_true, cnd_false, pickV_true, pickV_false, gd_true, gd_false, gdV_true, gdV_false, gdH_true, gdH_false, gdS_true, gdS_false, wt_ff, wt_tt, wt_ft, wt_tf, wt_undef, obH_some', extractV_tuple, nilCheckV_ptr, againK_normal, againK_exit, againK_ret, blockK_normal, blockK_same, blockK_ret, seqK_normal, seqK_exit, seqK_ret, fin_done, if_true', if_false', Bool.not_true, Bool.not_false, idx0, idx1, idx2, idx3, idx4, chk_nil_l, chk_nil_r, done_nm]
  exact ⟨_, rfl, done_mod (Ac.inn (by simp) fun _ _ h => h), w2.done⟩
end Go.Am
namespace Go.Am
open Go.Proofs
set_option maxRecDepth 100000
set_option linter.all false
attribute [local congr] obind_congr obH_congr cnd_congr chk_congr retK_congr codeK_congr
theorem vmaxI (a b : Int) (h : Heap) : builtinV Try.prog .max #[3, 3] #[.int .i64 a, .int .i64 b] h = some (.int .i64 (max a b), h) := by
  have e : builtinV Try.prog .max #[3, 3] #[.int .i64 a, .int .i64 b] h = some (.int .i64 (if b > a then b else a), h) := by kernel_rfl
  rw [e]
  have : (if b > a then b else a) = max a b := by split <;> omega
  rw [this]
theorem vminI (a b : Int) (h : Heap) : builtinV Try.prog .min #[3, 3] #[.int .i64 a, .int .i64 b] h = some (.int .i64 (min a b), h) := by
  have e : builtinV Try.prog .min #[3, 3] #[.int .i64 a, .int .i64 b] h = some (.int .i64 (if b < a then b else a), h) := by kernel_rfl
  rw [e]
  have : (if b < a then b else a) = min a b := by split <;> omega
  rw [this]
theorem shrN (t : TypeId) (xo yo : Operand) (yk : IntKind) (s p : Nat) (hs : s < 2 ^ 64) (hp : p < 64) : binV Try.prog .shr t xo yo (.int .u64 s) (.int yk p) = some (.int .u64 ((s / 2 ^ p : Nat) : Int)) := by
  rw [bin_shr64 _ _ _ _ _ _ (by omega) (by omega) (by omega), Int.toNat_natCast, Int.toNat_natCast]
theorem cvUint (n : Int) (h : Heap) (h0 : 0 ≤ n) (h1 : n < 2 ^ 63) : convV Try.prog 3 114 (.int .i64 n) h = some (.int .u64 n, h) := conv_u64 (ks := .i64) (by kernel_rfl) (by kernel_rfl) _ _ _ h0 (by omega)
theorem shl1 (t : TypeId) (xo yo : Operand) (p : Nat) (hp : p < 64) : binV Try.prog .shl t xo yo (.int .u64 1) (.int .i64 p) = some (.int .u64 ((2 ^ p : Nat) : Int)) := by
  have h2 : 2 ^ p < 2 ^ 64 := Nat.pow_lt_pow_right (by omega) hp
  rw [bin_shl64 _ _ _ _ _ _ (by omega) (by omega) (by omega), Int.toNat_natCast, show (1 : Int).toNat = 1 from rfl, Nat.one_mul, Nat.mod_eq_of_lt h2]
def allN (n : Nat) : Nat := 2 ^ n - 1
theorem spec_All (n : Nat) (hn : n < 64) (h : Heap) : evC Try.prog 56 #[.int .i64 n] h = some (.int .u64 (allN n : Nat), h) := by
  rw [call56, c56_0_eq]
  have hm : min (max (n : Int) 0) 64 = n := by omega
  have e1 := fun t xo yo => shl1 t xo yo n hn
  have e2 : ∀ t xo yo, binV Try.prog .sub t xo yo (.int .u64 ((2 ^ n : Nat) : Int)) (.int .u64 1) = some (.int .u64 (allN n : Nat)) := fun t xo yo => by
    have h2 : 2 ^ n < 2 ^ 64 := Nat.pow_lt_pow_right (by omega) hn
    have h1 : 1 ≤ 2 ^ n := Nat.one_le_two_pow
    rw [bin_sub, show ((2 ^ n : Nat) : Int) - 1 = (allN n : Nat) by unfold allN; omega, wrap_u64_nat, Nat.mod_eq_of_lt (by unfold allN; omega)]
  simp -implicitDefEqProofs only [vmaxI, vminI, hm, e1, e2, ↓ret56, ↓cnd_true, ↓cnd_false, ↓Option.bind_some, ↓obH_some', bin_add, bin_sub, bin_mul, bin_lss, bin_leq, bin_gtr, bin_geq, bin_eql, bin_neq, un_not, un_neg, Option.bind_some, Option.bind_none, Option.map_some, cnd_true, cnd_false, pickV_true, pickV_false, gd_true, gd_false, gdV_true, gdV_false, gdH_true, gdH_false, gdS_true, gdS_false, wt_ff, wt_tt, wt_ft, wt_tf, wt_undef, obH_some', extractV_tuple, nilCheckV_ptr, againK_normal, againK_exit, againK_ret, blockK_normal, blockK_same, blockK_ret, seqK_normal, seqK_exit, seqK_ret, fin_done, if_true', if_false', Bool.not_true, Bool.not_false, idx0, idx1, idx2, idx3, idx4, chk_nil_l, chk_nil_r, done_nm]
theorem HExt.amx {h h' : Heap} (e : HExt (nm h) h') : HExt h (am h' h) ∧ h'.mods = [] := ⟨⟨e.len, e.old, by rw [am_mods, e.mods]; rfl⟩, e.mods⟩
theorem Acc.blk {n0 : Nat} {h : Heap} {elem : TypeId} {es n : Nat} {v : Value} {cs : List Value} (a : Acc n0 h elem es v n cs) {b : Nat} (hb : blockOf v = some b) : ∃ all, h.blks[b]? = some ⟨.cells all, elem, true⟩ := by
  cases a with
  | nil => cases hb
  | full _ _ h1 _ _ => cases hb; exact ⟨_, h1⟩
  | unk _ h1 _ _ => cases hb; exact ⟨_, h1⟩
end Go.Am
namespace Go.Am
open Go.Proofs
set_option maxRecDepth 100000
set_option linter.all false
attribute [local congr] obind_congr obH_congr cnd_congr chk_congr retK_congr codeK_congr
theorem out16 (t : Nat) (ht : t < 2 ^ 64) : decide (outB t (allN 16) = 0) = decide (t < 65536) := by
  congr 1
  apply propext
  unfold outB allN
  constructor
  · intro h
    refine Classical.byContradiction fun hn => ?_
    have hp : 2 ^ 16 ≤ t := by omega
    obtain ⟨i, hi⟩ : ∃ i, 16 ≤ i ∧ t.testBit i = true := Nat.exists_ge_and_testBit_of_ge_two_pow hp
    have := congrArg (fun x => x.testBit i) h
    simp only [Nat.testBit_and, hi.2, Nat.zero_testBit, Bool.true_and] at this
    have h64 : i < 64 := by
      refine Classical.byContradiction fun hc => ?_
      have := Nat.testBit_lt_two_pow (Nat.lt_of_lt_of_le ht (Nat.pow_le_pow_right (by omega) (show 64 ≤ i by omega)))
      rw [hi.2] at this; cases this
    rw [show 2 ^ 64 - 1 - (2 ^ 16 - 1) = 2 ^ 64 - (65535 + 1) from rfl, Nat.testBit_two_pow_sub_succ (by omega)] at this
    have h3 : Nat.testBit 65535 i = false := Nat.testBit_lt_two_pow (Nat.lt_of_lt_of_le (show 65535 < 2 ^ 16 by omega) (Nat.pow_le_pow_right (by omega) hi.1))
    simp [h64, h3] at this
  · intro h
    apply Nat.eq_of_testBit_eq
    intro i
    rw [Nat.testBit_and, Nat.zero_testBit, show 2 ^ 64 - 1 - (2 ^ 16 - 1) = 2 ^ 64 - (65535 + 1) from rfl, Nat.testBit_two_pow_sub_succ (by omega)]
    rcases Nat.lt_or_ge i 16 with h1 | h1
    · have : Nat.testBit 65535 i = true := by
        rw [show 65535 = 2 ^ 16 - 1 from rfl, Nat.testBit_two_pow_sub_one]; simpa using h1
      simp [this]
    · rw [Nat.testBit_lt_two_pow (Nat.lt_of_lt_of_le (show t < 2 ^ 16 from h) (Nat.pow_le_pow_right (by omega) h1))]; rfl
def mayE (e : E3) : Bool := decide (0 ≤ e.f) && (decide (e.f < 16) && (decide (0 < e.n) && decide (e.t < 65536)))
theorem spec_may (e : E3) (ht : e.t < 2 ^ 64) (h : Heap) : ∃ h', evC Try.prog 47 #[entV e] h = some (.bool (mayE e), h') ∧ HExt h h' := by
  rw [call47]
  have c := Cells.new (nm h) 57 [.int .i64 e.f, .int .u64 e.n, .int .u64 e.t]
  have k1 : In h.blks.length No (nm h) ((nm h).new (.cells [.int .i64 e.f, .int .u64 e.n, .int .u64 e.t]) 57) := In.new (h := nm h) (Nat.le_refl h.blks.length) _ _
  generalize hh : (nm h).new (.cells [.int .i64 e.f, .int .u64 e.n, .int .u64 e.t]) 57 = h1 at c k1
  generalize hp : (nm h).blks.length = p at c
  have l0 : h1.load1 p 0 = some (.int .i64 e.f) := c.load 0
  have l1 : h1.load1 p (0 + 1) = some (.int .u64 e.n) := c.load 1
  have l2 : h1.load1 p (0 + 2) = some (.int .u64 e.t) := c.load 2
  have w1 := fun h => spec_All 16 (by omega) h
  rw [show ((16 : Nat) : Int) = 16 from rfl] at w1
  have w2 := fun h => spec_Within e.t (allN 16) ht (by unfold allN; omega) h
  rw [out16 e.t ht] at w2
  have d0 : ∀ n : Nat, decide (((n : Nat) : Int) > 0) = decide (0 < n) := fun n => by congr 1; apply propext; omega
  unfold mayE
  refine ⟨_, ?_, done_ext' k1⟩
  by_cases h1 : 0 ≤ e.f
  · by_cases h2 : e.f < 16
    · by_cases h3 : 0 < e.n
      · simp -implicitDefEqProofs (disch := omega) only [↓c47_0_eq, ↓c47_1_eq, ↓c47_2_eq, ↓c47_3_eq, ↓c47_4_eq, ↓d47_0_0, ↓d47_0_1, ↓d47_0_2, ↓d47_0_3, ↓d47_0_4, ↓d47_0_5, ↓d47_0_6, ↓d47_0_7, ↓d47_0_8, ↓d47_0_9, ↓d47_0_10, ↓d47_0_11, ↓d47_0_12, ↓d47_0_13, ↓d47_0_14, ↓d47_0_15, ↓d47_0_16, ↓d47_0_17, ↓d47_0_18, ↓d47_0_19, ↓d47_0_20, entV, bxE, hh, hp, faE0, faE1, faE2, ldI, ldU, ldS, l0, l1, l2, w1, w2, d0, dcT, dcF, am_nm, nm_mods, List.nil_append, List.append_nil, Bool.true_and, Bool.false_and, ↓ret47, ↓cnd_true, ↓cnd_false, ↓Option.bind_some, ↓obH_some', bin_add, bin_sub, bin_mul, bin_lss, bin_leq, bin_gtr, bin_geq, bin_eql, bin_neq, un_not, un_neg, Option.bind_some, Option.bind_none, Option.map_some, cnd_true, cnd_false, pickV_true, pickV_false, gd_true, gd_false, gdV_true, gdV_false, gdH_true, gdH_false, gdS_true, gdS_false, wt_ff, wt_tt, wt_ft, wt_tf, wt_undef, obH_some', extractV_tuple, nilCheckV_ptr, againK_normal, againK_exit, againK_ret, blockK_normal, blockK_same, blockK_ret, seqK_normal, seqK_exit, seqK_ret, fin_done, if_true', if_false', Bool.not_true, Bool.not_false, idx0, idx1, idx2, idx3, idx4, chk_nil_l, chk_nil_r, done_nm, up_cons, up_nil, cond_true, cond_false, Nat.reduceBEq]
      · simp -implicitDefEqProofs (disch := omega) only [↓c47_0_eq, ↓c47_1_eq, ↓c47_2_eq, ↓c47_3_eq, ↓c47_4_eq, ↓d47_0_0, ↓d47_0_1, ↓d47_0_2, ↓d47_0_3, ↓d47_0_4, ↓d47_0_5, ↓d47_0_6, ↓d47_0_7, ↓d47_0_8, ↓d47_0_9, ↓d47_0_10, ↓d47_0_11, ↓d47_0_12, ↓d47_0_13, ↓d47_0_14, ↓d47_0_15, ↓d47_0_16, ↓d47_0_17, ↓d47_0_18, ↓d47_0_19, ↓d47_0_20, entV, bxE, hh, hp, faE0, faE1, faE2, ldI, ldU, ldS, l0, l1, l2, w1, w2, d0, dcT, dcF, am_nm, nm_mods, List.nil_append, List.append_nil, Bool.true_and, Bool.false_and, ↓ret47, ↓cnd_true, ↓cnd_false, ↓Option.bind_some, ↓obH_some', bin_add, bin_sub, bin_mul, bin_lss, bin_leq, bin_gtr, bin_geq, bin_eql, bin_neq, un_not, un_neg, Option.bind_some, Option.bind_none, Option.map_some, cnd_true, cnd_false, pickV_true, pickV_false, gd_true, gd_false, gdV_true, gdV_false, gdH_true, gdH_false, gdS_true, gdS_false, wt_ff, wt_tt, wt_ft, wt_tf, wt_undef, obH_some', extractV_tuple, nilCheckV_ptr, againK_normal, againK_exit, againK_ret, blockK_normal, blockK_same, blockK_ret, seqK_normal, seqK_exit, seqK_ret, fin_done, if_true', if_false', Bool.not_true, Bool.not_false, idx0, idx1, idx2, idx3, idx4, chk_nil_l, chk_nil_r, done_nm, up_cons, up_nil, cond_true, cond_false, Nat.reduceBEq]
    · simp -implicitDefEqProofs (disch := omega) only [↓c47_0_eq, ↓c47_1_eq, ↓c47_2_eq, ↓c47_3_eq, ↓c47_4_eq, ↓d47_0_0, ↓d47_0_1, ↓d47_0_2, ↓d47_0_3, ↓d47_0_4, ↓d47_0_5, ↓d47_0_6, ↓d47_0_7, ↓d47_0_8, ↓d47_0_9, ↓d47_0_10, ↓d47_0_11, ↓d47_0_12, ↓d47_0_13, ↓d47_0_14, ↓d47_0_15, ↓d47_0_16, ↓d47_0_17, ↓d47_0_18, ↓d47_0_19, ↓d47_0_20, entV, bxE, hh, hp, faE0, faE1, faE2, ldI, ldU, ldS, l0, l1, l2, w1, w2, d0, dcT, dcF, am_nm, nm_mods, List.nil_append, List.append_nil, Bool.true_and, Bool.false_and, ↓ret47, ↓cnd_true, ↓cnd_false, ↓Option.bind_some, ↓obH_some', bin_add, bin_sub, bin_mul, bin_lss, bin_leq, bin_gtr, bin_geq, bin_eql, bin_neq, un_not, un_neg, Option.bind_some, Option.bind_none, Option.map_some, cnd_true, cnd_false, pickV_true, pickV_false, gd_true, gd_false, gdV_true, gdV_false, gdH_true, gdH_false, gdS_true, gdS_false, wt_ff, wt_tt, wt_ft, wt_tf, wt_undef, obH_some', extractV_tuple, nilCheckV_ptr, againK_normal, againK_exit, againK_ret, blockK_normal, blockK_same, blockK_ret, seqK_normal, seqK_exit, seqK_ret, fin_done, if_true', if_false', Bool.not_true, Bool.not_false, idx0, idx1, idx2, idx3, idx4, chk_nil_l, chk_nil_r, done_nm, up_cons, up_nil, cond_true, cond_false, Nat.reduceBEq]
  · simp -implicitDefEqProofs (disch := omega) only [↓c47_0_eq, ↓c47_1_eq, ↓c47_2_eq, ↓c47_3_eq, ↓c47_4_eq, ↓d47_0_0, ↓d47_0_1, ↓d47_0_2, ↓d47_0_3, ↓d47_0_4, ↓d47_0_5, ↓d47_0_6, ↓d47_0_7, ↓d47_0_8, ↓d47_0_9, ↓d47_0_10, ↓d47_0_11, ↓d47_0_12, ↓d47_0_13, ↓d47_0_14, ↓d47_0_15, ↓d47_0_16, ↓d47_0_17, ↓d47_0_18, ↓d47_0_19, ↓d47_0_20, entV, bxE, hh, hp, faE0, faE1, faE2, ldI, ldU, ldS, l0, l1, l2, w1, w2, d0, dcT, dcF, am_nm, nm_mods, List.nil_append, List.append_nil, Bool.true_and, Bool.false_and, ↓ret47, ↓cnd_true, ↓cnd_false, ↓Option.bind_some, ↓obH_some', bin_add, bin_sub, bin_mul, bin_lss, bin_leq, bin_gtr, bin_geq, bin_eql, bin_neq, un_not, un_neg, Option.bind_some, Option.bind_none, Option.map_some, cnd_true, cnd_false, pickV_true, pickV_false, gd_true, gd_false, gdV_true, gdV_false, gdH_true, gdH_false, gdS_true, gdS_false, wt_ff, wt_tt, wt_ft, wt_tf, wt_undef, obH_some', extractV_tuple, nilCheckV_ptr, againK_normal, againK_exit, againK_ret, blockK_normal, blockK_same, blockK_ret, seqK_normal, seqK_exit, seqK_ret, fin_done, if_true', if_false', Bool.not_true, Bool.not_false, idx0, idx1, idx2, idx3, idx4, chk_nil_l, chk_nil_r, done_nm, up_cons, up_nil, cond_true, cond_false, Nat.reduceBEq]
end Go.Am
namespace Go.Am
open Go.Proofs
set_option maxRecDepth 100000
set_option linter.all false
attribute [local congr] obind_congr obH_congr cnd_congr chk_congr retK_congr codeK_congr
theorem bxL (v : Value) (h : Heap) : boxV Try.prog 47 (.agg #[v]) h = some (.pointer (some ⟨h.blks.length, 0, none⟩), h.new (.cells [v]) 47) := by kernel_rfl
theorem faL (p : Nat) : fieldAddrV Try.prog 47 (.pointer (some ⟨p, 0, none⟩)) 0 = some (.pointer (some ⟨p, 0, none⟩)) := by kernel_rfl
theorem ldEs (p o : Nat) (h : Heap) : loadV Try.prog 45 (.pointer (some ⟨p, o, none⟩)) h = h.load1 p o := by kernel_rfl
theorem lnEs (a : Option Addr) (n c : Nat) (h : Heap) : lenV Try.prog 45 (.slice a n c) h = some (.int .i64 n) := by kernel_rfl
theorem ldL (p : Nat) (h : Heap) : loadV Try.prog 47 (.pointer (some ⟨p, 0, none⟩)) h = (h.loadN p 0 1).map fun cs => .agg cs.toArray := by kernel_rfl
theorem alL (h : Heap) : allocV Try.prog 47 h = some (.pointer (some ⟨h.blks.length, 0, none⟩), h.new (.cells [.slice none 0 0]) 47) := by kernel_rfl
theorem bdL (a : Option Addr) (n c : Nat) : buildV Try.prog 47 #[(0, .slice a n c)] = some (.agg #[.slice a n c]) := by kernel_rfl
theorem stL (p : Nat) (a : Option Addr) (n c : Nat) (h : Heap) : storeV Try.prog 47 (.pointer (some ⟨p, 0, none⟩)) (.agg #[.slice a n c]) h = h.storeN p 0 [.slice a n c] := by kernel_rfl
def goodC : Option E3 → List E3 → Bool
  | _, [] => true
  | p, e :: l => mayE e && (match p with | none => true | some q => decide (cmpE q e < 0)) && goodC (some e) l
def prevE (es : List E3) (i : Nat) : Option E3 := if i = 0 then none else es[i - 1]?
def goodE (es : List E3) : Bool := goodC none es
abbrev wide (es : List E3) : Prop := ∀ e ∈ es, e.n < 2 ^ 64 ∧ e.t < 2 ^ 64
theorem endL {h0 : Heap} {v : Value} {r : Option (Value × Heap)} (e : ∃ h', r = some (v, done h0 h') ∧ In h0.blks.length No (nm h0) h') : ∃ h', r = some (v, h') ∧ HExt h0 h' := let ⟨_, e, k⟩ := e; ⟨_, e, done_ext' k⟩
theorem good_loop {h0 h1 : Heap} {v : Value} {es : List E3} {pl : Nat} (s : SE h1 v es) (c : Cells h1 pl 47 [v]) (hw : wide es) (hl : es.length < 2 ^ 40) : ∀ (m i : Nat), es.length - i = m → i ≤ es.length →
    ∀ (x : Nat → Value) (h : Heap),In h0.blks.length No (nm h0) h → Same h1 h → x 1 = .pointer (some ⟨pl, 0, none⟩) → x 6 = v → x 7 = .int .i64 es.length → x 8 = .int .i64 i →
    ∃ h', lK c19_1 32 x h (blockK 0 (sK c19_2 (retK Try.f19 Try.prog h0))) = some (.bool (goodC (prevE es i) (es.drop i)), done h0 h') ∧ In h0.blks.length No (nm h0) h' := by
  intro m
  induction m with
  | zero =>
    intro i h1 h2 x h hin hs Ab Ag Ah Ai
    obtain rfl : i = es.length := by omega
    rw [lK_eq, List.drop_length]
    simp -implicitDefEqProofs (disch := omega) only [↓c19_1_eq, ↓c19_2_eq,Ah,Ai, dcF, goodC, ↓ret19, ↓cnd_true, ↓cnd_false, ↓Option.bind_some, ↓obH_some', bin_add, bin_sub, bin_mul, bin_lss, bin_leq, bin_gtr, bin_geq, bin_eql, bin_neq, un_not, un_neg, Option.bind_some, Option.bind_none, Option.map_some, cnd_true, cnd_false, pickV_true, pickV_false, gd_true, gd_false, gdV_true, gdV_false, gdH_true, gdH_false, gdS_true, gdS_false, wt_ff, wt_tt, wt_ft, wt_tf, wt_undef, obH_some', extractV_tuple, nilCheckV_ptr, againK_normal, againK_exit, againK_ret, blockK_normal, blockK_same, blockK_ret, seqK_normal, seqK_exit, seqK_ret, fin_done, if_true', if_false', Bool.not_true, Bool.not_false, idx0, idx1, idx2, idx3, idx4, chk_nil_l, chk_nil_r, done_nm, up_cons, up_nil, cond_true, cond_false, Nat.reduceBEq]
    exact ⟨_, rfl, hin⟩
  | succ m ih =>
    intro i hm hi x h hin hs Ab Ag Ah Ai
    have hil : i < es.length := by omega
    rw [lK_eq, List.drop_eq_getElem_cons hil]
    obtain ⟨b, o, hb, hbl, e1, e2⟩ := s.at' (t := 45) (el := 57) (by kernel_rfl) (by kernel_rfl) hil
    obtain ⟨f1, f2, f3, f4⟩ := e2 h (hs.2 b hbl)
    obtain ⟨hA, hB, a1, a2, a3, a4, a5, a6⟩ := var_ent (Nat.le_trans hin.le hin.len) es[i]
    have w := hw es[i] (List.getElem_mem hil)
    obtain ⟨hC, g1, g2⟩ := spec_may es[i] w.2 hB
    have wi : IntKind.i64.wrap ((i : Int) + 1) = ((i + 1 : Nat) : Int) := by rw [wrap_i64] <;> omega
    have hin3 := (hin.trans (a4 No)).trans (g2.inn (Nat.le_trans (a4 No).le (a4 No).len))
    have hs3 := (hs.trans a5).trans g2.same
    have ne : es[i] :: es.drop (i + 1) = es[i] :: es.drop (i + 1) := rfl
    cases hmay : mayE es[i] with
    | false =>
      rw [hmay] at g1
      simp -implicitDefEqProofs (disch := omega) only [↓c19_1_eq, ↓c19_2_eq,Ab,Ag,Ah,Ai, e1, ldE, f1, Option.map_some, entA, a1, a2, a6, g1, dcT, dcF, goodC, hmay, Bool.false_and, ↓ret19, ↓cnd_true, ↓cnd_false, ↓Option.bind_some, ↓obH_some', bin_add, bin_sub, bin_mul, bin_lss, bin_leq, bin_gtr, bin_geq, bin_eql, bin_neq, un_not, un_neg, Option.bind_some, Option.bind_none, Option.map_some, cnd_true, cnd_false, pickV_true, pickV_false, gd_true, gd_false, gdV_true, gdV_false, gdH_true, gdH_false, gdS_true, gdS_false, wt_ff, wt_tt, wt_ft, wt_tf, wt_undef, obH_some', extractV_tuple, nilCheckV_ptr, againK_normal, againK_exit, againK_ret, blockK_normal, blockK_same, blockK_ret, seqK_normal, seqK_exit, seqK_ret, fin_done, if_true', if_false', Bool.not_true, Bool.not_false, idx0, idx1, idx2, idx3, idx4, chk_nil_l, chk_nil_r, done_nm, up_cons, up_nil, cond_true, cond_false, Nat.reduceBEq]
      exact ⟨_, rfl, hin3⟩
    | true =>
      rw [hmay] at g1
      by_cases hi0 : i = 0
      · subst hi0
        simp -implicitDefEqProofs (disch := omega) only [↓c19_1_eq, ↓c19_2_eq,Ab,Ag,Ah,Ai, e1, ldE, f1, Option.map_some, entA, a1, a2, a6, g1, dcT, dcF, goodC, hmay, prevE, Bool.true_and, wi, ↓ret19, ↓cnd_true, ↓cnd_false, ↓Option.bind_some, ↓obH_some', bin_add, bin_sub, bin_mul, bin_lss, bin_leq, bin_gtr, bin_geq, bin_eql, bin_neq, un_not, un_neg, Option.bind_some, Option.bind_none, Option.map_some, cnd_true, cnd_false, pickV_true, pickV_false, gd_true, gd_false, gdV_true, gdV_false, gdH_true, gdH_false, gdS_true, gdS_false, wt_ff, wt_tt, wt_ft, wt_tf, wt_undef, obH_some', extractV_tuple, nilCheckV_ptr, againK_normal, againK_exit, againK_ret, blockK_normal, blockK_same, blockK_ret, seqK_normal, seqK_exit, seqK_ret, fin_done, if_true', if_false', Bool.not_true, Bool.not_false, idx0, idx1, idx2, idx3, idx4, chk_nil_l, chk_nil_r, done_nm, up_cons, up_nil, cond_true, cond_false, Nat.reduceBEq]
        have hpv' : prevE es (0 + 1) = some es[0] := by unfold prevE; rw [if_neg (by omega), List.getElem?_eq_getElem hil]
        rw [← hpv']
        refine ih 1 (by omega) (by omega) _ _ hin3 hs3 ?_ ?_ ?_ ?_
        exact Ab
        exact Ag
        exact Ah
        rfl
      · have hp : i - 1 < es.length := by omega
        obtain ⟨b', o', hb', hbl', e1', e2'⟩ := s.at' (t := 45) (el := 57) (by kernel_rfl) (by kernel_rfl) hp
        obtain ⟨f1', _⟩ := e2' hC (hs3.2 b' hbl')
        have wp : IntKind.i64.wrap ((i : Int) - 1) = ((i - 1 : Nat) : Int) := by rw [wrap_i64] <;> omega
        have c3 := c.same hs3
        have a3' := a3.ext g2
        have l3 : hC.load1 pl 0 = some v := c3.load 0
        have l4 : (hC.loadN h.blks.length 0 3).map (fun cs => Value.agg cs.toArray) = some (entV es[i]) := by rw [a3'.loadN (n := 3) rfl]; rfl
        obtain ⟨hD, q1, q2⟩ := spec_order es[i - 1] es[i] hC
        have hpv : prevE es i = some es[i - 1] := by unfold prevE; rw [if_neg hi0, List.getElem?_eq_getElem hp]
        have hin4 := hin3.trans (q2.inn (Nat.le_trans hin3.le hin3.len))
        have hs4 := hs3.trans q2.same
        by_cases hc : cmpE es[i - 1] es[i] < 0
        · simp -implicitDefEqProofs (disch := omega) only [↓c19_1_eq, ↓c19_2_eq,Ab,Ag,Ah,Ai, e1, ldE, f1, f1', Option.map_some, entA, a1, a2, a6, g1, dcT, dcF, goodC, hmay, hpv, Bool.true_and, wi, wp, faL, ldEs, l3, e1', l4, q1, decide_eq_true hc, ↓ret19, ↓cnd_true, ↓cnd_false, ↓Option.bind_some, ↓obH_some', bin_add, bin_sub, bin_mul, bin_lss, bin_leq, bin_gtr, bin_geq, bin_eql, bin_neq, un_not, un_neg, Option.bind_some, Option.bind_none, Option.map_some, cnd_true, cnd_false, pickV_true, pickV_false, gd_true, gd_false, gdV_true, gdV_false, gdH_true, gdH_false, gdS_true, gdS_false, wt_ff, wt_tt, wt_ft, wt_tf, wt_undef, obH_some', extractV_tuple, nilCheckV_ptr, againK_normal, againK_exit, againK_ret, blockK_normal, blockK_same, blockK_ret, seqK_normal, seqK_exit, seqK_ret, fin_done, if_true', if_false', Bool.not_true, Bool.not_false, idx0, idx1, idx2, idx3, idx4, chk_nil_l, chk_nil_r, done_nm, up_cons, up_nil, cond_true, cond_false, Nat.reduceBEq]
          have hpv' : prevE es (i + 1) = some es[i] := by unfold prevE; rw [if_neg (by omega), Nat.add_sub_cancel, List.getElem?_eq_getElem hil]
          rw [← hpv']
          refine ih (i + 1) (by omega) (by omega) _ _ hin4 hs4 ?_ ?_ ?_ ?_
          exact Ab
          exact Ag
          exact Ah
          rfl
        · simp -implicitDefEqProofs (disch := omega) only [↓c19_1_eq, ↓c19_2_eq,Ab,Ag,Ah,Ai, e1, ldE, f1, f1', Option.map_some, entA, a1, a2, a6, g1, dcT, dcF, goodC, hmay, hpv, Bool.true_and, Bool.and_false, Bool.false_and, wi, wp, faL, ldEs, l3, e1', l4, q1, decide_eq_false hc, ↓ret19, ↓cnd_true, ↓cnd_false, ↓Option.bind_some, ↓obH_some', bin_add, bin_sub, bin_mul, bin_lss, bin_leq, bin_gtr, bin_geq, bin_eql, bin_neq, un_not, un_neg, Option.bind_some, Option.bind_none, Option.map_some, cnd_true, cnd_false, pickV_true, pickV_false, gd_true, gd_false, gdV_true, gdV_false, gdH_true, gdH_false, gdS_true, gdS_false, wt_ff, wt_tt, wt_ft, wt_tf, wt_undef, obH_some', extractV_tuple, nilCheckV_ptr, againK_normal, againK_exit, againK_ret, blockK_normal, blockK_same, blockK_ret, seqK_normal, seqK_exit, seqK_ret, fin_done, if_true', if_false', Bool.not_true, Bool.not_false, idx0, idx1, idx2, idx3, idx4, chk_nil_l, chk_nil_r, done_nm, up_cons, up_nil, cond_true, cond_false, Nat.reduceBEq]
          exact ⟨_, rfl, hin4⟩
theorem spec_Good {h : Heap} {v : Value} {es : List E3} (s : SE h v es) (hw : wide es) (hl : es.length < 2 ^ 40) : ∃ h', evC Try.prog 19 #[.agg #[v]] h = some (.bool (goodE es), h') ∧ HExt h h' := by
  rw [call19]
  have c := Cells.new (nm h) 47 [v]
  have s1 : SE ((nm h).new (.cells [v]) 47) v es := s.nm.keepNew _ _
  have k1 : In h.blks.length No (nm h) ((nm h).new (.cells [v]) 47) := In.new (h := nm h) (Nat.le_refl h.blks.length) _ _
  obtain ⟨a, cc, rfl⟩ := s.shape
  have l0 : ((nm h).new (.cells [.slice a es.length cc]) 47).load1 (nm h).blks.length 0 = some (.slice a es.length cc) := c.load 0
  have lp := good_loop (h0 := h) s1 c hw hl es.length 0 (by omega) (by omega)
  simp -implicitDefEqProofs (disch := omega) only [↓c19_0_eq, bxL, faL, ldEs, l0, lnEs, ↓cnd_true, ↓cnd_false, ↓Option.bind_some, ↓obH_some', bin_add, bin_sub, bin_mul, bin_lss, bin_leq, bin_gtr, bin_geq, bin_eql, bin_neq, un_not, un_neg, Option.bind_some, Option.bind_none, Option.map_some, cnd_true, cnd_false, pickV_true, pickV_false, gd_true, gd_false, gdV_true, gdV_false, gdH_true, gdH_false, gdS_true, gdS_false, wt_ff, wt_tt, wt_ft, wt_tf, wt_undef, obH_some', extractV_tuple, nilCheckV_ptr, againK_normal, againK_exit, againK_ret, blockK_normal, blockK_same, blockK_ret, seqK_normal, seqK_exit, seqK_ret, fin_done, if_true', if_false', Bool.not_true, Bool.not_false, idx0, idx1, idx2, idx3, idx4, chk_nil_l, chk_nil_r, done_nm, up_cons, up_nil, cond_true, cond_false, Nat.reduceBEq]
  refine endL (lp _ _ k1 (Same.refl _) ?_ ?_ ?_ ?_)
  all_goals rfl
theorem mkE0 (h : Heap) : buildSliceV Try.prog 45 0 #[] h = some (.slice (some ⟨h.blks.length, 0, none⟩) 0 0, h.new (.cells []) 57) := by kernel_rfl
theorem nilE (xo yo : Operand) : binV Try.prog .eql 45 xo yo (.slice none 0 0) (.slice none 0 0) = some (.bool true) := by kernel_rfl
theorem AE.empty (n0 : Nat) (h : Heap) (hn : n0 ≤ h.blks.length) : AE n0 (h.new (.cells []) 57) (.slice (some ⟨h.blks.length, 0, none⟩) 0 0) [] := .full (all := []) hn (by omega) (blk_new_self _ _ _) (by simp) rfl
theorem spec_CloneE {h : Heap} {v : Value} {es : List E3} (s : SE h v es) (hl : es.length < 2 ^ 39) : ∃ a c h', evC Try.prog 73 #[v] h = some (.slice a es.length c, h') ∧ HExt h h' ∧ AE h.blks.length h' (.slice a es.length c) es := by
  rw [call73]
  obtain ⟨a, c, rfl⟩ := s.shape
  cases a with
  | none =>
    obtain ⟨rfl, rfl⟩ : es = [] ∧ c = 0 := by
      rcases s.inv with ⟨h1, h2, _⟩ | ⟨b, o, c', h1, _⟩
      · injection h1 with _ _ h4; exact ⟨List.eq_nil_of_length_eq_zero h2, h4⟩
      · injection h1 with h4; cases h4
    refine ⟨none, 0, h, ?_, HExt.refl _, AE.nil _ _⟩
    simp -implicitDefEqProofs (disch := omega) only [↓c73_0_eq, List.length_nil, nilE, ↓ret73, ↓cnd_true, ↓cnd_false, ↓Option.bind_some, ↓obH_some', bin_add, bin_sub, bin_mul, bin_lss, bin_leq, bin_gtr, bin_geq, bin_eql, bin_neq, un_not, un_neg, Option.bind_some, Option.bind_none, Option.map_some, cnd_true, cnd_false, pickV_true, pickV_false, gd_true, gd_false, gdV_true, gdV_false, gdH_true, gdH_false, gdS_true, gdS_false, wt_ff, wt_tt, wt_ft, wt_tf, wt_undef, obH_some', extractV_tuple, nilCheckV_ptr, againK_normal, againK_exit, againK_ret, blockK_normal, blockK_same, blockK_ret, seqK_normal, seqK_exit, seqK_ret, fin_done, if_true', if_false', Bool.not_true, Bool.not_false, idx0, idx1, idx2, idx3, idx4, chk_nil_l, chk_nil_r, done_nm, up_cons, up_nil, cond_true, cond_false, Nat.reduceBEq]
  | some ad =>
    have e0 := fun xo yo => bin_nil_some (P := Try.prog) (t := 45) (e := 57) (by kernel_rfl) xo yo ad es.length c
    have hn : h.blks.length ≤ (nm h).blks.length := Nat.le_refl _
    obtain ⟨a2, c2, h2, e2, a3, k2, _⟩ := app_ents etE etE.under (n0 := h.blks.length) (h := (nm h).new (.cells []) 57) (by simp [Heap.new]) (AE.empty _ _ hn) (s.nm.keepNew (.cells []) 57) (by simp; omega)
    simp only [List.nil_append] at e2 a3
    refine ⟨a2, c2, done h h2, ?_, done_ext' ((In.new (h := nm h) hn _ _).trans k2.inn), a3.done⟩
    simp -implicitDefEqProofs (disch := omega) only [↓c73_0_eq, e0, mkE0, e2, ↓ret73, ↓cnd_true, ↓cnd_false, ↓Option.bind_some, ↓obH_some', bin_add, bin_sub, bin_mul, bin_lss, bin_leq, bin_gtr, bin_geq, bin_eql, bin_neq, un_not, un_neg, Option.bind_some, Option.bind_none, Option.map_some, cnd_true, cnd_false, pickV_true, pickV_false, gd_true, gd_false, gdV_true, gdV_false, gdH_true, gdH_false, gdS_true, gdS_false, wt_ff, wt_tt, wt_ft, wt_tf, wt_undef, obH_some', extractV_tuple, nilCheckV_ptr, againK_normal, againK_exit, againK_ret, blockK_normal, blockK_same, blockK_ret, seqK_normal, seqK_exit, seqK_ret, fin_done, if_true', if_false', Bool.not_true, Bool.not_false, idx0, idx1, idx2, idx3, idx4, chk_nil_l, chk_nil_r, done_nm, up_cons, up_nil, cond_true, cond_false, Nat.reduceBEq]
theorem spec_clone {h : Heap} {v : Value} {es : List E3} (s : SE h v es) (hl : es.length < 2 ^ 39) : ∃ a c h', evC Try.prog 49 #[.agg #[v]] h = some (.agg #[.slice a es.length c], h') ∧ HExt h h' ∧ AE h.blks.length h' (.slice a es.length c) es := by
  rw [call49]
  have c1 := (Cells.new (nm h) 47 [v]).keepNew (.cells [.slice none 0 0]) 47
  have c2 := Cells.new ((nm h).new (.cells [v]) 47) 47 [.slice none 0 0]
  have s2 : SE (((nm h).new (.cells [v]) 47).new (.cells [.slice none 0 0]) 47) v es := (s.nm.keepNew _ _).keepNew _ _
  have k2 : In h.blks.length No (nm h) (((nm h).new (.cells [v]) 47).new (.cells [.slice none 0 0]) 47) := (In.new (h := nm h) (Nat.le_refl h.blks.length) _ _).trans (In.new (by simp [Heap.new]) _ _)
  have e0 : (nm h).blks.length = h.blks.length := rfl
  have e1 : ((nm h).new (.cells [v]) 47).blks.length = h.blks.length + 1 := by simp [Heap.new]
  rw [e0] at c1
  rw [e1] at c2
  have hlen : (((nm h).new (.cells [v]) 47).new (.cells [.slice none 0 0]) 47).blks.length = h.blks.length + 2 := by simp [Heap.new]
  generalize hh : (((nm h).new (.cells [v]) 47).new (.cells [.slice none 0 0]) 47) = h2 at c1 c2 s2 k2 hlen
  have l0 : h2.load1 h.blks.length 0 = some v := c1.load 0
  obtain ⟨a, c, h3, e3,Ad, a3⟩ := spec_CloneE s2 hl
  have c3 := c2.ext Ad
  have c4 := c3.put [.slice a es.length c]
  have l4 : (Heap.loadN (h3.put (h.blks.length + 1) (.cells [.slice a es.length c])) (h.blks.length + 1) 0 1).map (fun cs => Value.agg cs.toArray) = some (.agg #[.slice a es.length c]) := by rw [c4.loadN (n := 1) rfl]; rfl
  have a4 : AE h.blks.length (h3.put (h.blks.length + 1) (.cells [.slice a es.length c])) (.slice a es.length c) es := (a3.keepPut (fun e => by have := a3.ge e; omega) _).up (by omega)
  refine ⟨a, c, _, ?_, done_ext' ((k2.trans (Ad.inn (by omega))).trans (In.put (by have := Ad.len; omega) (.inl (by omega)) _)), a4.done⟩
  simp -implicitDefEqProofs (disch := omega) only [↓c49_0_eq, bxL, alL, e0, e1, hh, faL, ldEs, l0, e3, bdL, stL, storeN_blk c3 (o := 0) (vs := [.slice a es.length c]) (by simp), List.take_zero, List.nil_append, List.append_nil, List.length_cons, List.length_nil, List.drop_succ_cons, List.drop_zero, Nat.zero_add, ldL, l4, rvals, ↓ret49, ↓cnd_true, ↓cnd_false, ↓Option.bind_some, ↓obH_some', bin_add, bin_sub, bin_mul, bin_lss, bin_leq, bin_gtr, bin_geq, bin_eql, bin_neq, un_not, un_neg, Option.bind_some, Option.bind_none, Option.map_some, cnd_true, cnd_false, pickV_true, pickV_false, gd_true, gd_false, gdV_true, gdV_false, gdH_true, gdH_false, gdS_true, gdS_false, wt_ff, wt_tt, wt_ft, wt_tf, wt_undef, obH_some', extractV_tuple, nilCheckV_ptr, againK_normal, againK_exit, againK_ret, blockK_normal, blockK_same, blockK_ret, seqK_normal, seqK_exit, seqK_ret, fin_done, if_true', if_false', Bool.not_true, Bool.not_false, idx0, idx1, idx2, idx3, idx4, chk_nil_l, chk_nil_r, done_nm, up_cons, up_nil, cond_true, cond_false, Nat.reduceBEq]
end Go.Am
namespace Go.Am
open Go.Proofs
set_option maxRecDepth 100000
set_option linter.all false
variable {P : Program}
theorem Acc.store {n0 : Nat} {h : Heap} {elem : TypeId} {es : Nat} {v : Value} {n : Nat} {cs : List Value} (a : Acc n0 h elem es v n cs) (hn : 0 < n) :
    ∃ b o, blockOf v = some b ∧ n0 ≤ b ∧ b < h.blks.length ∧ (∀ {t : TypeId}, P.underlying t = some (.slice elem) → sizeT P elem = some es → ∀ (k : IntKind) (i : Nat), i < n → indexAddrV P t v (.int k i) = some (.pointer (some ⟨b, o + i * es, none⟩))) ∧
      ∀ (j : Nat) (vs : List Value), j + vs.length ≤ n * es → ∃ h', h.storeN b (o + j) vs = some h' ∧ Acc n0 h' elem es v n (cs.take j ++ vs ++ cs.drop (j + vs.length)) ∧ (∀ S,In n0 S h h') ∧ h'.blks.length = h.blks.length ∧ (∀ q, q ≠ b → h'.blks[q]? = h.blks[q]?) := by
  have main : ∀ {b o c : Nat} {all : List Value}, n0 ≤ b → h.blks[b]? = some ⟨.cells all, elem, true⟩ → o + n * es ≤ all.length → (all.drop o).take (n * es) = cs → (c = n ∧ n < 2 ^ 62 ∨ c = UNK) → v = .slice (some ⟨b, o, none⟩) n c →
      ∃ b o, blockOf v = some b ∧ n0 ≤ b ∧ b < h.blks.length ∧ (∀ {t : TypeId}, P.underlying t = some (.slice elem) → sizeT P elem = some es → ∀ (k : IntKind) (i : Nat), i < n → indexAddrV P t v (.int k i) = some (.pointer (some ⟨b, o + i * es, none⟩))) ∧
      ∀ (j : Nat) (vs : List Value), j + vs.length ≤ n * es → ∃ h', h.storeN b (o + j) vs = some h' ∧ Acc n0 h' elem es v n (cs.take j ++ vs ++ cs.drop (j + vs.length)) ∧ (∀ S,In n0 S h h') ∧ h'.blks.length = h.blks.length ∧ (∀ q, q ≠ b → h'.blks[q]? = h.blks[q]?) := by
    intro b o c all hb0 hb hle he hc hv
    subst hv
    refine ⟨b, o, rfl, hb0, lt_of_blk hb, fun ht hs k i hi => ?_, fun j vs hj => ?_⟩
    · unfold indexAddrV
      simp only [ht, natOf_int, hs, if_pos hi]
    · have hput : (h.put b (.cells (all.take (o + j) ++ vs ++ all.drop (o + j + vs.length)))).blks[b]? = some ⟨.cells (all.take (o + j) ++ vs ++ all.drop (o + j + vs.length)), elem, true⟩ := by
        rw [blk_put_self hb]
      have hnew : ((all.take (o + j) ++ vs ++ all.drop (o + j + vs.length)).drop o).take (n * es) = cs.take j ++ vs ++ cs.drop (j + vs.length) := by
        rw [← he]
        apply List.ext_getElem?
        intro k
        simp only [List.getElem?_take, List.getElem?_drop, List.getElem?_append, List.length_take, List.length_append, List.length_drop]
        have hall : o + n * es ≤ all.length := hle
        rw [Nat.min_eq_left (show o + j ≤ all.length by omega), Nat.min_eq_left (show n * es ≤ all.length - o by omega), Nat.min_eq_left (show j ≤ n * es by omega)]
        by_cases h1 : k < j
        · simp only [show k < n * es by omega, show o + k < o + j + vs.length by omega, show o + k < o + j by omega, show k < j + vs.length by omega, h1, if_true]
        · by_cases h2 : k < j + vs.length
          · rw [if_pos (by omega), if_pos (by omega), if_neg (by omega), if_pos (by omega), if_neg (by omega)]
            congr 1; omega
          · by_cases h3 : k < n * es
            · rw [if_pos (by omega), if_neg (by omega), if_neg (by omega), if_pos (by omega)]
              congr 1; omega
            · rw [if_neg (by omega), if_neg (by omega), if_neg (by omega)]
      have hlen : o + n * es ≤ (all.take (o + j) ++ vs ++ all.drop (o + j + vs.length)).length := by simp; omega
      refine ⟨_, storeN_blk hb (by omega), ?_, fun S => In.put (Nat.le_of_lt (Nat.lt_of_le_of_lt hb0 (lt_of_blk hb))) (.inl hb0) _, Heap.put_len _ _ _, fun q hq => Heap.put_other hq _⟩
      rcases hc with ⟨rfl, h62⟩ | rfl
      · exact .full hb0 h62 hput hlen hnew
      · exact .unk hb0 hput hlen hnew
  cases a with
  | nil => omega
  | full h1 h2 hb hle he => exact main h1 hb hle he (.inl ⟨rfl, h2⟩) rfl
  | unk h1 hb hle he => exact main h1 hb hle he (.inr rfl) rfl
theorem entL_setT : ∀ (es : List E3) (i : Nat) (hi : i < es.length) (t : Nat), (entL es).take (i * 3 + 2) ++ [.int .u64 (t : Int)] ++ (entL es).drop (i * 3 + 2 + 1) = entL (es.set i { es[i] with t := t })
  | e :: es, 0, _, t => rfl
  | e :: es, i + 1, hi, t => by
    rw [show (i + 1) * 3 + 2 = (i * 3 + 2) + 1 + 1 + 1 by omega, show (i * 3 + 2) + 1 + 1 + 1 + 1 = (i * 3 + 2 + 1) + 1 + 1 + 1 by omega]
    simp only [entL, List.take_succ_cons, List.drop_succ_cons, List.cons_append, List.set_cons_succ, List.getElem_cons_succ]
    rw [← entL_setT es i (by simpa using hi) t]
theorem AE.setT {n0 : Nat} {h : Heap} {v : Value} {es : List E3} (a : AE n0 h v es) {i : Nat} (hi : i < es.length) (t : Nat) :
    ∃ b o h', blockOf v = some b ∧ n0 ≤ b ∧ b < h.blks.length ∧ (∀ k, indexAddrV Try.prog 45 v (.int k i) = some (.pointer (some ⟨b, o, none⟩))) ∧ h.load1 b (o + 2) = some (.int .u64 es[i].t) ∧
      h.storeN b (o + 2) [.int .u64 t] = some h' ∧ AE n0 h' v (es.set i { es[i] with t := t }) ∧ (∀ S,In n0 S h h') ∧ h'.blks.length = h.blks.length ∧ (∀ q, q ≠ b → h'.blks[q]? = h.blks[q]?) := by
  obtain ⟨b, o, e1, e2, e3, e4, e5⟩ := Acc.store (P := Try.prog) a (by omega)
  obtain ⟨h', g1, g2, g3, g4, g5⟩ := e5 (i * 3 + 2) [.int .u64 (t : Int)] (by simp; omega)
  obtain ⟨b', o', q1, _, q3, q4⟩ := a.se.at' (t := 45) (el := 57) (by kernel_rfl) (by kernel_rfl) hi
  have q5 := e4 (t := 45) (by kernel_rfl) (by kernel_rfl) .i64 i hi
  have q6 := q3 .i64
  rw [q5] at q6
  injection q6 with q6
  injection q6 with q6
  injection q6 with q6
  injection q6 with q7 q8
  subst q7 q8
  refine ⟨b, o + i * 3, h', e1, e2, e3, fun k => e4 (by kernel_rfl) (by kernel_rfl) k i hi, (q4 h rfl).2.2.2, by rw [Nat.add_assoc]; exact g1, ?_, g3, g4, g5⟩
  rw [List.length_singleton, entL_setT es i hi t] at g2
  show Acc n0 h' _ 3 v (es.set i _).length _
  rw [List.length_set]
  exact g2
theorem In.dn {n0 n1 : Nat} {S : Nat → Prop} {h h' : Heap} (k : In n1 S h h') (hn : n0 ≤ n1) : In n0 S h h' :=
  ⟨Nat.le_trans hn k.le, k.len, fun b hb hs => k.old b (Nat.lt_of_lt_of_le hb hn) hs, fun m hm => (k.mods m hm).imp id (Or.imp (fun h => Nat.le_trans hn h) id)⟩
theorem Keeps.dn {n0 n1 : Nat} {h h' : Heap} (k : Keeps n1 h h') (hn : n0 ≤ n1) : Keeps n0 h h' := ⟨Nat.le_trans hn k.le, k.len, fun b hb => k.old b (Nat.lt_of_lt_of_le hb hn), fun m hm => (k.mods m hm).imp id (fun h => Nat.le_trans hn h)⟩
end Go.Am
namespace Go.Am
open Go.Proofs
set_option maxRecDepth 100000
set_option linter.all false
theorem pureRun_ite {α : Type} {P : Program} (c : Prop) [Decidable c] (a b : Sem α) : pureRun P (if c then a else b) = if c then pureRun P a else pureRun P b := by split <;> rfl
theorem eq_parts (a b : E3) : pureRun Try.prog (Op.equal 72 (entV a) (entV b)) = some ((a.f == b.f) && ((a.n : Int) == b.n) && ((a.t : Int) == b.t)) := by
  have s0 : pureRun Try.prog (program) = some Try.prog := rfl
  have q1 : ∀ d (x y : Int), pureRun Try.prog (Op.equalIn (d + 1) 3 (.int .i64 x) (.int .i64 y)) = some (x == y) := fun d x y => by
    simp only [Op.equalIn]
    rw [pureRun_bind, pureRun_under Try.underlying3]
    rfl
  have q2 : ∀ d (x y : Int), pureRun Try.prog (Op.equalIn (d + 1) 35 (.int .u64 x) (.int .u64 y)) = some (x == y) := fun d x y => by
    simp only [Op.equalIn]
    rw [pureRun_bind, pureRun_under Try.underlying35]
    rfl
  have p0 : ∀ x y z : Value, pureRun Try.prog (part 3 #[x, y, z] 0) = some x := fun _ _ _ => by kernel_rfl
  have p1 : ∀ x y z : Value, pureRun Try.prog (part 35 #[x, y, z] 1) = some y := fun _ _ _ => by kernel_rfl
  have p2 : ∀ x y z : Value, pureRun Try.prog (part 35 #[x, y, z] 2) = some z := fun _ _ _ => by kernel_rfl
  have st : Try.prog.stoodInHeld 72 = false := by kernel_rfl
  show pureRun Try.prog (Op.equalIn (9999 + 1) 72 (.agg #[.int .i64 a.f, .int .u64 a.n, .int .u64 a.t]) (.agg #[.int .i64 b.f, .int .u64 b.n, .int .u64 b.t])) = _
  rw [Op.equalIn.eq_def]
  simp only []
  rw [pureRun_bind, pureRun_under Try.underlying72]
  have q1' := fun x y => q1 9998 x y
  have q2' := fun x y => q2 9998 x y
  simp only [Nat.reduceAdd] at q1' q2'
  simp only [Option.bind_some, pureRun_bind, s0, st, Bool.false_eq_true, if_false, forIn, ForIn.forIn, List.forIn'_toArray, List.forIn'_cons, List.forIn'_nil, ne_eq, String.reduceEq, not_false_eq_true, if_true, p0, p1, p2, q1', q2', pureRun_ite]
  generalize (a.f == b.f) = p
  generalize hq : (((a.n : Nat) : Int) == ((b.n : Nat) : Int)) = q
  generalize hr : (((a.t : Nat) : Int) == ((b.t : Nat) : Int)) = r
  cases p
  · rfl
  · simp only [Bool.not_true, Bool.false_eq_true, if_false, pureRun_pure, Option.bind_some, pureRun_bind, p1, q2', hq, pureRun_ite]
    cases q
    · rfl
    · simp only [Bool.not_true, Bool.false_eq_true, if_false, pureRun_pure, Option.bind_some, pureRun_bind, p2, q2', hr, pureRun_ite]
      cases r <;> rfl
theorem neqR (xo yo : Operand) (a b : E3) : binV Try.prog .neq 72 xo yo (entV a) (entV b) = some (.bool (!decide (a = b))) := by
  have hg : ∀ e : E3, ground (entV e) = true := fun e => by simp [ground, entV, ground0]
  have e1 := eq_parts a b
  have e2 : ((a.f == b.f) && ((a.n : Int) == b.n) && ((a.t : Int) == b.t)) = decide (a = b) := by
    obtain ⟨f, n, t⟩ := a
    obtain ⟨f', n', t'⟩ := b
    simp only [E3.mk.injEq]
    by_cases h1 : f = f' <;> by_cases h2 : n = n' <;> by_cases h3 : t = t' <;> simp [h1, h2, h3] <;> omega
  rw [e2] at e1
  have eg : pureRun Try.prog (eqGuard .neq 72 xo yo (entV a) (entV b)) = some () := by kernel_rfl
  unfold binV
  rw [if_pos (by rw [hg, hg]; rfl)]
  refine pureV_of ?_ rfl
  rw [pureRun_bind, eg, Option.bind_some]
  show pureRun Try.prog (do let r ← Op.equal 72 (entV a) (entV b); pure (Value.bool (!r))) = _
  rw [pureRun_bind, e1]
  rfl
end Go.Am
namespace Go.Am
open Go.Proofs
set_option maxRecDepth 100000
set_option linter.all false
attribute [local congr] obind_congr obH_congr cnd_congr chk_congr retK_congr codeK_congr
theorem bdR3 (a b c : Int) : buildV Try.prog 72 #[(0, .int .i64 a), (1, .int .u64 b), (2, .int .u64 c)] = some (.agg #[.int .i64 a, .int .u64 b, .int .u64 c]) := by kernel_rfl
theorem lnRs (a : Option Addr) (n c : Nat) (h : Heap) : lenV Try.prog 51 (.slice a n c) h = some (.int .i64 n) := by kernel_rfl
theorem Acc.off {n0 : Nat} {h : Heap} {elem : TypeId} {es n : Nat} {v : Value} {cs : List Value} (a : Acc n0 h elem es v n cs) {n1 : Nat} (hn : n1 ≤ n0) {q : Nat} (hq : q < n1) : blockOf v ≠ some q := fun e => by have := a.ge e; omega
theorem log1_loop {h0 h1 : Heap} {v : Value} {es : List E3} (s : SE h1 v es) (hl : es.length < 2 ^ 38) (hn : h0.blks.length ≤ h1.blks.length) :
    ∀ (m i : Nat), es.length - i = m → i ≤ es.length → ∀ (x : Nat → Value) (h : Heap) (a : Option Addr) (c : Nat),In h0.blks.length No (nm h0) h → Same h1 h → AR h1.blks.length h (.slice a (es.take i).length c) (es.take i) →
    x 0 = v → x 3 = .slice a (es.take i).length c → x 4 = .int .i64 i →
    ∃ a' c' h', lK c22_1 31 x h (blockK 0 (sK c22_2 (retK Try.f22 Try.prog h0))) = some (.slice a' es.length c', done h0 h') ∧ In h0.blks.length No (nm h0) h' ∧ AR h1.blks.length h' (.slice a' es.length c') es := by
  intro m
  obtain ⟨va, vc, rfl⟩ := s.shape
  induction m with
  | zero =>
    intro i e1 e2 x h a c hin hs ha Aa Ad Ae
    obtain rfl : i = es.length := by omega
    rw [List.take_length] at ha Ad
    rw [lK_eq]
    refine ⟨a, c, h, ?_, hin, ha⟩
    simp -implicitDefEqProofs (disch := omega) only [↓c22_1_eq, ↓c22_2_eq,Aa,Ad,Ae, lnEs, dcF, ↓ret22, ↓cnd_true, ↓cnd_false, ↓Option.bind_some, ↓obH_some', bin_add, bin_sub, bin_mul, bin_lss, bin_leq, bin_gtr, bin_geq, bin_eql, bin_neq, un_not, un_neg, Option.bind_some, Option.bind_none, Option.map_some, cnd_true, cnd_false, pickV_true, pickV_false, gd_true, gd_false, gdV_true, gdV_false, gdH_true, gdH_false, gdS_true, gdS_false, wt_ff, wt_tt, wt_ft, wt_tf, wt_undef, obH_some', extractV_tuple, nilCheckV_ptr, againK_normal, againK_exit, againK_ret, blockK_normal, blockK_same, blockK_ret, seqK_normal, seqK_exit, seqK_ret, fin_done, if_true', if_false', Bool.not_true, Bool.not_false, idx0, idx1, idx2, idx3, idx4, chk_nil_l, chk_nil_r, done_nm, up_cons, up_nil, cond_true, cond_false, Nat.reduceBEq]
  | succ m ih =>
    intro i hm hi x h a c hin hs ha Aa Ad Ae
    have hil : i < es.length := by omega
    obtain ⟨b, of, hb, hbl, e1, e2⟩ := s.at' (t := 45) (el := 57) (by kernel_rfl) (by kernel_rfl) hil
    obtain ⟨f1, f2, f3, f4⟩ := e2 h (hs.2 b hbl)
    have wi : IntKind.i64.wrap ((i : Int) + 1) = ((i + 1 : Nat) : Int) := by rw [wrap_i64] <;> omega
    have hol : (es.take i).length < 2 ^ 39 := by rw [List.length_take]; omega
    obtain ⟨a', c', hD, q1, q2, q3, q4⟩ := app_ent etR (n0 := h1.blks.length) hs.1 ha es[i] hol
    have ht : es.take i ++ [es[i]] = es.take (i + 1) := by rw [List.take_succ, List.getElem?_eq_getElem hil]; rfl
    rw [ht] at q1 q2
    have hsD : Same h1 hD := ⟨Nat.le_trans hs.1 q3.len, fun q hq => (q4 q (Nat.lt_of_lt_of_le hq hs.1) (Acc.off ha (Nat.le_refl _) hq)).trans (hs.2 q hq)⟩
    have hinD := hin.trans (Keeps.inn (S := No) (q3.dn hn))
    rw [lK_eq]
    simp -implicitDefEqProofs (disch := omega) only [↓c22_1_eq, ↓c22_2_eq,Aa,Ad,Ae, lnEs, dcT, e1, faE0, faE1, faE2, ldI, ldU, ldS, f2, f3, f4, bdR3, entA, bsR, show ([.int .i64 es[i].f, .int .u64 es[i].n, .int .u64 es[i].t] : List Value) = entC es[i] from rfl, q1, wi, ↓cnd_true, ↓cnd_false, ↓Option.bind_some, ↓obH_some', bin_add, bin_sub, bin_mul, bin_lss, bin_leq, bin_gtr, bin_geq, bin_eql, bin_neq, un_not, un_neg, Option.bind_some, Option.bind_none, Option.map_some, cnd_true, cnd_false, pickV_true, pickV_false, gd_true, gd_false, gdV_true, gdV_false, gdH_true, gdH_false, gdS_true, gdS_false, wt_ff, wt_tt, wt_ft, wt_tf, wt_undef, obH_some', extractV_tuple, nilCheckV_ptr, againK_normal, againK_exit, againK_ret, blockK_normal, blockK_same, blockK_ret, seqK_normal, seqK_exit, seqK_ret, fin_done, if_true', if_false', Bool.not_true, Bool.not_false, idx0, idx1, idx2, idx3, idx4, chk_nil_l, chk_nil_r, done_nm, up_cons, up_nil, cond_true, cond_false, Nat.reduceBEq]
    refine ih (i + 1) (by omega) (by omega) _ hD a' c' hinD hsD q2 ?_ ?_ ?_
    · exact Aa
    · rfl
    · rfl
theorem spec_log1 {h : Heap} {v : Value} {es : List E3} (s : SE h v es) (hl : es.length < 2 ^ 38) : ∃ a c h', evC Try.prog 22 #[v] h = some (.slice a es.length c, h') ∧ HExt h h' ∧ AR h.blks.length h' (.slice a es.length c) es := by
  rw [call22]
  have lp := log1_loop (h0 := h) s.nm hl (Nat.le_refl _) es.length 0 (by omega) (by omega)
  have fin' : ∀ {r : Option (Value × Heap)}, (∃ a c h', r = some (.slice a es.length c, done h h') ∧ In h.blks.length No (nm h) h' ∧ AR (nm h).blks.length h' (.slice a es.length c) es) → ∃ a c h', r = some (.slice a es.length c, h') ∧ HExt h h' ∧ AR h.blks.length h' (.slice a es.length c) es := fun ⟨a, c, h', q1, q2, q3⟩ => ⟨a, c, _, q1, done_ext' q2, Acc.done q3⟩
  simp -implicitDefEqProofs (disch := omega) only [↓c22_0_eq, ↓cnd_true, ↓cnd_false, ↓Option.bind_some, ↓obH_some', bin_add, bin_sub, bin_mul, bin_lss, bin_leq, bin_gtr, bin_geq, bin_eql, bin_neq, un_not, un_neg, Option.bind_some, Option.bind_none, Option.map_some, cnd_true, cnd_false, pickV_true, pickV_false, gd_true, gd_false, gdV_true, gdV_false, gdH_true, gdH_false, gdS_true, gdS_false, wt_ff, wt_tt, wt_ft, wt_tf, wt_undef, obH_some', extractV_tuple, nilCheckV_ptr, againK_normal, againK_exit, againK_ret, blockK_normal, blockK_same, blockK_ret, seqK_normal, seqK_exit, seqK_ret, fin_done, if_true', if_false', Bool.not_true, Bool.not_false, idx0, idx1, idx2, idx3, idx4, chk_nil_l, chk_nil_r, done_nm, up_cons, up_nil, cond_true, cond_false, Nat.reduceBEq]
  refine fin' (lp _ _ none 0 (In.refl (Nat.le_refl _)) (Same.refl _) (AR.nil _ _) ?_ ?_ ?_)
  all_goals rfl
theorem logs_loop {h0 h1 : Heap} {v w : Value} {es fs : List E3} (s : SE h1 v es) (s2 : SE h1 w fs) (hl : es.length < 2 ^ 38) (he : es.length = fs.length) :
    ∀ (m i : Nat), es.length - i = m → i ≤ es.length → ∀ (x : Nat → Value), x 0 = v → x 1 = w → x 5 = .int .i64 i →
    lK c21_1 26 x h1 (blockK 0 (sK c21_2 (retK Try.f21 Try.prog h0))) = some (.bool (decide (es.drop i = fs.drop i)), done h0 h1) := by
  intro m
  obtain ⟨va, vc, rfl⟩ := s.shape
  induction m with
  | zero =>
    intro i e1 e2 x Aa Ab Af
    obtain rfl : i = es.length := by omega
    have e3 : decide (es.drop es.length = fs.drop es.length) = true := decide_eq_true (by rw [List.drop_length, he, List.drop_length])
    rw [lK_eq, e3]
    simp -implicitDefEqProofs (disch := omega) only [↓c21_1_eq, ↓c21_2_eq,Aa,Ab,Af, lnRs, dcF, ↓ret21, ↓cnd_true, ↓cnd_false, ↓Option.bind_some, ↓obH_some', bin_add, bin_sub, bin_mul, bin_lss, bin_leq, bin_gtr, bin_geq, bin_eql, bin_neq, un_not, un_neg, Option.bind_some, Option.bind_none, Option.map_some, cnd_true, cnd_false, pickV_true, pickV_false, gd_true, gd_false, gdV_true, gdV_false, gdH_true, gdH_false, gdS_true, gdS_false, wt_ff, wt_tt, wt_ft, wt_tf, wt_undef, obH_some', extractV_tuple, nilCheckV_ptr, againK_normal, againK_exit, againK_ret, blockK_normal, blockK_same, blockK_ret, seqK_normal, seqK_exit, seqK_ret, fin_done, if_true', if_false', Bool.not_true, Bool.not_false, idx0, idx1, idx2, idx3, idx4, chk_nil_l, chk_nil_r, done_nm, up_cons, up_nil, cond_true, cond_false, Nat.reduceBEq]
  | succ m ih =>
    intro i hm hi x Aa Ab Af
    have hil : i < es.length := by omega
    have hil2 : i < fs.length := by omega
    obtain ⟨b, of, hb, hbl, e1, e2⟩ := s.at' (t := 51) (el := 72) (by kernel_rfl) (by kernel_rfl) hil
    obtain ⟨b', of', hb', hbl', e1', e2'⟩ := s2.at' (t := 51) (el := 72) (by kernel_rfl) (by kernel_rfl) hil2
    obtain ⟨f1, _⟩ := e2 h1 rfl
    obtain ⟨g1, _⟩ := e2' h1 rfl
    have wi : IntKind.i64.wrap ((i : Int) + 1) = ((i + 1 : Nat) : Int) := by rw [wrap_i64] <;> omega
    have hd : decide (es.drop i = fs.drop i) = (decide (es[i] = fs[i]) && decide (es.drop (i + 1) = fs.drop (i + 1))) := by
      rw [List.drop_eq_getElem_cons hil, List.drop_eq_getElem_cons hil2]
      simp only [List.cons.injEq, Bool.decide_and]
    rw [lK_eq, hd]
    by_cases hc : es[i] = fs[i]
    · have d1 : decide (es[i] = fs[i]) = true := decide_eq_true hc
      rw [d1, Bool.true_and]
      simp -implicitDefEqProofs (disch := omega) only [↓c21_1_eq, ↓c21_2_eq,Aa,Ab,Af, lnRs, dcT, e1, e1', ldR, f1, g1, Option.map_some, entA, neqR, d1, wi, ↓cnd_true, ↓cnd_false, ↓Option.bind_some, ↓obH_some', bin_add, bin_sub, bin_mul, bin_lss, bin_leq, bin_gtr, bin_geq, bin_eql, bin_neq, un_not, un_neg, Option.bind_some, Option.bind_none, Option.map_some, cnd_true, cnd_false, pickV_true, pickV_false, gd_true, gd_false, gdV_true, gdV_false, gdH_true, gdH_false, gdS_true, gdS_false, wt_ff, wt_tt, wt_ft, wt_tf, wt_undef, obH_some', extractV_tuple, nilCheckV_ptr, againK_normal, againK_exit, againK_ret, blockK_normal, blockK_same, blockK_ret, seqK_normal, seqK_exit, seqK_ret, fin_done, if_true', if_false', Bool.not_true, Bool.not_false, idx0, idx1, idx2, idx3, idx4, chk_nil_l, chk_nil_r, done_nm, up_cons, up_nil, cond_true, cond_false, Nat.reduceBEq]
      refine ih (i + 1) (by omega) (by omega) _ ?_ ?_ ?_
      · exact Aa
      · exact Ab
      · rfl
    · have d1 : decide (es[i] = fs[i]) = false := decide_eq_false hc
      rw [d1, Bool.false_and]
      simp -implicitDefEqProofs (disch := omega) only [↓c21_1_eq, ↓c21_2_eq,Aa,Ab,Af, lnRs, dcT, e1, e1', ldR, f1, g1, Option.map_some, entA, neqR, d1, ↓ret21, ↓cnd_true, ↓cnd_false, ↓Option.bind_some, ↓obH_some', bin_add, bin_sub, bin_mul, bin_lss, bin_leq, bin_gtr, bin_geq, bin_eql, bin_neq, un_not, un_neg, Option.bind_some, Option.bind_none, Option.map_some, cnd_true, cnd_false, pickV_true, pickV_false, gd_true, gd_false, gdV_true, gdV_false, gdH_true, gdH_false, gdS_true, gdS_false, wt_ff, wt_tt, wt_ft, wt_tf, wt_undef, obH_some', extractV_tuple, nilCheckV_ptr, againK_normal, againK_exit, againK_ret, blockK_normal, blockK_same, blockK_ret, seqK_normal, seqK_exit, seqK_ret, fin_done, if_true', if_false', Bool.not_true, Bool.not_false, idx0, idx1, idx2, idx3, idx4, chk_nil_l, chk_nil_r, done_nm, up_cons, up_nil, cond_true, cond_false, Nat.reduceBEq]
theorem spec_logs {h : Heap} {v w : Value} {es fs : List E3} (s : SE h v es) (s2 : SE h w fs) (hl : es.length < 2 ^ 38) (hl2 : fs.length < 2 ^ 38) : evC Try.prog 21 #[v, w] h = some (.bool (decide (es = fs)), h) := by
  rw [call21]
  obtain ⟨va, vc, rfl⟩ := s.shape
  obtain ⟨wa, wc, rfl⟩ := s2.shape
  by_cases he : es.length = fs.length
  · have lp := logs_loop (h0 := h) s.nm s2.nm hl he es.length 0 (by omega) (by omega)
    rw [List.drop_zero, List.drop_zero] at lp
    have d1 : decide ((es.length : Int) ≠ (fs.length : Int)) = false := decide_eq_false (by omega)
    simp -implicitDefEqProofs (disch := omega) only [↓c21_0_eq, lnRs, d1, ↓cnd_true, ↓cnd_false, ↓Option.bind_some, ↓obH_some', bin_add, bin_sub, bin_mul, bin_lss, bin_leq, bin_gtr, bin_geq, bin_eql, bin_neq, un_not, un_neg, Option.bind_some, Option.bind_none, Option.map_some, cnd_true, cnd_false, pickV_true, pickV_false, gd_true, gd_false, gdV_true, gdV_false, gdH_true, gdH_false, gdS_true, gdS_false, wt_ff, wt_tt, wt_ft, wt_tf, wt_undef, obH_some', extractV_tuple, nilCheckV_ptr, againK_normal, againK_exit, againK_ret, blockK_normal, blockK_same, blockK_ret, seqK_normal, seqK_exit, seqK_ret, fin_done, if_true', if_false', Bool.not_true, Bool.not_false, idx0, idx1, idx2, idx3, idx4, chk_nil_l, chk_nil_r, done_nm, up_cons, up_nil, cond_true, cond_false, Nat.reduceBEq]
    refine Eq.trans (lp _ ?_ ?_ ?_) (by rw [done_nm])
    all_goals rfl
  · have d1 : decide ((es.length : Int) ≠ (fs.length : Int)) = true := decide_eq_true (by omega)
    rw [decide_eq_false (fun e => he (by rw [e]))]
    simp -implicitDefEqProofs (disch := omega) only [↓c21_0_eq, lnRs, d1, ↓ret21, ↓cnd_true, ↓cnd_false, ↓Option.bind_some, ↓obH_some', bin_add, bin_sub, bin_mul, bin_lss, bin_leq, bin_gtr, bin_geq, bin_eql, bin_neq, un_not, un_neg, Option.bind_some, Option.bind_none, Option.map_some, cnd_true, cnd_false, pickV_true, pickV_false, gd_true, gd_false, gdV_true, gdV_false, gdH_true, gdH_false, gdS_true, gdS_false, wt_ff, wt_tt, wt_ft, wt_tf, wt_undef, obH_some', extractV_tuple, nilCheckV_ptr, againK_normal, againK_exit, againK_ret, blockK_normal, blockK_same, blockK_ret, seqK_normal, seqK_exit, seqK_ret, fin_done, if_true', if_false', Bool.not_true, Bool.not_false, idx0, idx1, idx2, idx3, idx4, chk_nil_l, chk_nil_r, done_nm, up_cons, up_nil, cond_true, cond_false, Nat.reduceBEq]
end Go.Am
namespace Go.Am
open Go.Proofs
set_option maxRecDepth 100000
set_option linter.all false
attribute [local congr] obind_congr obH_congr cnd_congr chk_congr retK_congr codeK_congr
def ltE (a b : E3) : Prop := a.f < b.f ∨ a.f = b.f ∧ a.n < b.n
theorem cmpE_lt (a b : E3) : cmpE a b < 0 ↔ ltE a b := by
  unfold cmpE ltE
  by_cases h1 : a.f < b.f
  · simp [h1]
  · by_cases h2 : b.f < a.f
    · have : ¬ (a.f = b.f) := by omega
      simp [h1, h2, this]
    · have : a.f = b.f := by omega
      by_cases h3 : a.n < b.n
      · simp [h1, h2, h3, this]
      · by_cases h4 : b.n < a.n <;> simp [h1, h2, h3, h4, this]
theorem cmpE_eq (a b : E3) : cmpE a b = 0 ↔ a.f = b.f ∧ a.n = b.n := by
  unfold cmpE
  by_cases h1 : a.f < b.f
  · simp [h1]; omega
  · by_cases h2 : b.f < a.f
    · simp [h1, h2]; omega
    · have : a.f = b.f := by omega
      by_cases h3 : a.n < b.n
      · simp [h1, h2, h3, this]; omega
      · by_cases h4 : b.n < a.n
        · simp [h1, h2, h3, h4, this]; omega
        · simp [h1, h2, h3, h4, this]; omega
theorem ltE_trans {a b c : E3} (h : ltE a b) (k : ltE b c) : ltE a c := by unfold ltE at *; omega
theorem ltE_irr (a : E3) : ¬ ltE a a := by unfold ltE; omega
abbrev Srt (es : List E3) : Prop := es.Pairwise ltE
theorem goodC_inv : ∀ (es : List E3) (p : Option E3), goodC p es = true → (∀ e ∈ es, mayE e = true) ∧ Srt es ∧ ∀ q, p = some q → ∀ e ∈ es, ltE q e
  | [], p, _ => ⟨by simp, .nil, by simp⟩
  | e :: l, p, h => by
    simp only [goodC, Bool.and_eq_true] at h
    obtain ⟨⟨h1, h2⟩, h3⟩ := h
    obtain ⟨g1, g2, g3⟩ := goodC_inv l (some e) h3
    have g4 := g3 e rfl
    have h4 : ∀ q, p = some q → ltE q e := fun q hq => by
      subst hq
      exact (cmpE_lt q e).1 (of_decide_eq_true h2)
    refine ⟨fun x hx => ?_, List.pairwise_cons.2 ⟨fun x hx => g4 x hx, g2⟩, fun q hq x hx => ?_⟩
    · rcases List.mem_cons.1 hx with rfl | hx
      · exact h1
      · exact g1 x hx
    · rcases List.mem_cons.1 hx with rfl | hx
      · exact h4 q hq
      · exact ltE_trans (h4 q hq) (g4 x hx)
theorem goodC_of : ∀ (es : List E3) (p : Option E3), (∀ e ∈ es, mayE e = true) → Srt es → (∀ q, p = some q → ∀ e ∈ es, ltE q e) → goodC p es = true
  | [], p, _, _, _ => rfl
  | e :: l, p, h1, h2, h3 => by
    obtain ⟨h4, h5⟩ := List.pairwise_cons.1 h2
    simp only [goodC, Bool.and_eq_true]
    refine ⟨⟨h1 e (by simp), ?_⟩, goodC_of l (some e) (fun x hx => h1 x (by simp [hx])) h5 (fun q hq x hx => by cases hq; exact h4 x hx)⟩
    cases p with
    | none => rfl
    | some q => exact decide_eq_true ((cmpE_lt q e).2 (h3 q rfl e (by simp)))
theorem goodE_iff (es : List E3) : goodE es = true ↔ (∀ e ∈ es, mayE e = true) ∧ Srt es :=
  ⟨fun h => ⟨(goodC_inv es none h).1, (goodC_inv es none h).2.1⟩, fun h => goodC_of es none h.1 h.2 (fun q hq => by cases hq)⟩
def bsK (es : List E3) (t : E3) : Nat := (es.takeWhile fun e => decide (cmpE e t < 0)).length
def bsF (es : List E3) (t : E3) : Bool := match es[bsK es t]? with | some e => decide (cmpE e t = 0) | none => false
theorem bsK_eq : ∀ (es : List E3) (t : E3) (i : Nat), i ≤ es.length → (∀ l (hl : l < es.length), l < i → ltE es[l] t) → (∀ (h : i < es.length), ¬ ltE es[i] t) → bsK es t = i
  | [], t, i, h, _, _ => by simp at h; subst h; rfl
  | e :: es, t, 0, _, _, h2 => by
    have := h2 (by simp)
    have : ¬ cmpE e t < 0 := fun h => this ((cmpE_lt _ _).1 h)
    simp [bsK, this]
  | e :: es, t, i + 1, h, h1, h2 => by
    have h3 : cmpE e t < 0 := (cmpE_lt _ _).2 (h1 0 (by simp) (by omega))
    have := bsK_eq es t i (by simpa using h) (fun l hl hli => h1 (l + 1) (by simpa using hl) (by omega)) (fun hi => h2 (by simpa using hi))
    simp only [bsK, List.takeWhile_cons, decide_eq_true h3, if_true, List.length_cons] at this ⊢
    rw [this]
theorem callOrd (a b : Value) (h : Heap) : callV Try.prog (evC Try.prog) (.func (.func 48) #[] #[]) #[a, b] h = evC Try.prog 48 #[a, b] h := by kernel_rfl
theorem cvUi (n : Int) (h : Heap) (h0 : 0 ≤ n) (h1 : n < 2 ^ 63) : convV Try.prog 114 3 (.int .u64 n) h = some (.int .i64 n, h) := conv_i64 (ks := .u64) (by kernel_rfl) (by kernel_rfl) _ _ _ (by omega) h1
theorem bs_loop {h0 h1 : Heap} {v : Value} {es : List E3} {t : E3} {p : Nat} (s : SE h1 v es) (hst : Srt es) (hl : es.length < 2 ^ 40) (hn : h0.blks.length ≤ h1.blks.length) (c : Cells h1 p 57 (entC t)) :
    ∀ (m i j : Nat), j - i ≤ m → i ≤ j → j ≤ es.length → (∀ l (hl : l < es.length), l < i → ltE es[l] t) → (∀ l (hl : l < es.length), j ≤ l → ¬ ltE es[l] t) → ∀ (x : Nat → Value) (h : Heap),In h0.blks.length No (nm h0) h → Same h1 h →
    x 0 = v → x 2 = .func (.func 48) #[] #[] → x 4 = .pointer (some ⟨p, 0, none⟩) → x 8 = .int .i64 es.length → x 9 = .int .i64 i → x 10 = .int .i64 j →
    ∃ h', lK c51_1 49 x h (blockK 0 (sK c51_2 (retK Try.f51 Try.prog h0))) = some (.tuple #[.int .i64 (bsK es t : Nat), .bool (bsF es t)], done h0 h') ∧ In h0.blks.length No (nm h0) h' := by
  intro m
  induction m with
  | zero =>
    intro i j hm hij hj lo hi x h hin hs Aa Ac Ae Ai Aj Ak
    obtain rfl : i = j := by omega
    have hk := bsK_eq es t i hj lo (fun hi' => hi i hi' (Nat.le_refl _))
    have ce : (h.loadN p 0 3).map (fun cs => Value.agg cs.toArray) = some (entV t) := by rw [(c.same hs).loadN (n := 3) rfl]; rfl
    rw [lK_eq]
    by_cases hil : i < es.length
    · obtain ⟨b, of, hb, hbl, e1, e2⟩ := s.at' (t := 45) (el := 57) (by kernel_rfl) (by kernel_rfl) hil
      obtain ⟨f1, _⟩ := e2 h (hs.2 b hbl)
      obtain ⟨hD, q1, q2⟩ := spec_order es[i] t h
      have hf : bsF es t = decide (cmpE es[i] t = 0) := by unfold bsF; rw [hk, List.getElem?_eq_getElem hil]
      rw [hk, hf]
      refine ⟨hD, ?_, hin.trans (q2.inn (Nat.le_trans hin.le hin.len))⟩
      cases hc : decide (cmpE es[i] t = 0) <;>
      simp -implicitDefEqProofs (disch := omega) only [↓c51_1_eq, ↓c51_2_eq,Aa,Ac,Ae,Ai,Aj,Ak, dcT, dcF, e1, ldE, f1, Option.map_some, entA, ce, callOrd, q1, hc, ↓ret51, ↓cnd_true, ↓cnd_false, ↓Option.bind_some, ↓obH_some', bin_add, bin_sub, bin_mul, bin_lss, bin_leq, bin_gtr, bin_geq, bin_eql, bin_neq, un_not, un_neg, Option.bind_some, Option.bind_none, Option.map_some, cnd_true, cnd_false, pickV_true, pickV_false, gd_true, gd_false, gdV_true, gdV_false, gdH_true, gdH_false, gdS_true, gdS_false, wt_ff, wt_tt, wt_ft, wt_tf, wt_undef, obH_some', extractV_tuple, nilCheckV_ptr, againK_normal, againK_exit, againK_ret, blockK_normal, blockK_same, blockK_ret, seqK_normal, seqK_exit, seqK_ret, fin_done, if_true', if_false', Bool.not_true, Bool.not_false, idx0, idx1, idx2, idx3, idx4, chk_nil_l, chk_nil_r, done_nm, up_cons, up_nil, cond_true, cond_false, Nat.reduceBEq]
    · have hf : bsF es t = false := by unfold bsF; rw [hk, List.getElem?_eq_none (by omega)]
      rw [hk, hf]
      refine ⟨h, ?_, hin⟩
      simp -implicitDefEqProofs (disch := omega) only [↓c51_1_eq, ↓c51_2_eq,Aa,Ac,Ae,Ai,Aj,Ak, dcF, ↓ret51, ↓cnd_true, ↓cnd_false, ↓Option.bind_some, ↓obH_some', bin_add, bin_sub, bin_mul, bin_lss, bin_leq, bin_gtr, bin_geq, bin_eql, bin_neq, un_not, un_neg, Option.bind_some, Option.bind_none, Option.map_some, cnd_true, cnd_false, pickV_true, pickV_false, gd_true, gd_false, gdV_true, gdV_false, gdH_true, gdH_false, gdS_true, gdS_false, wt_ff, wt_tt, wt_ft, wt_tf, wt_undef, obH_some', extractV_tuple, nilCheckV_ptr, againK_normal, againK_exit, againK_ret, blockK_normal, blockK_same, blockK_ret, seqK_normal, seqK_exit, seqK_ret, fin_done, if_true', if_false', Bool.not_true, Bool.not_false, idx0, idx1, idx2, idx3, idx4, chk_nil_l, chk_nil_r, done_nm, up_cons, up_nil, cond_true, cond_false, Nat.reduceBEq]
  | succ m ih =>
    intro i j hm hij hj lo hi x h hin hs Aa Ac Ae Ai Aj Ak
    by_cases hij' : i = j
    · exact ih i j (by omega) hij hj lo hi x h hin hs Aa Ac Ae Ai Aj Ak
    · have hlt : i < j := by omega
      have ce : (h.loadN p 0 3).map (fun cs => Value.agg cs.toArray) = some (entV t) := by rw [(c.same hs).loadN (n := 3) rfl]; rfl
      have w1 : IntKind.i64.wrap ((i : Int) + (j : Int)) = ((i + j : Nat) : Int) := by rw [wrap_i64] <;> omega
      obtain ⟨k, hk⟩ : ∃ k, k = (i + j) / 2 := ⟨_, rfl⟩
      have sh : ∀ t xo yo, binV Try.prog .shr t xo yo (.int .u64 ((i + j : Nat) : Int)) (.int .u64 1) = some (.int .u64 (k : Nat)) := fun t xo yo => by
        have := shrN t xo yo .u64 (i + j) 1 (by omega) (by omega)
        rw [hk]; exact this
      have hkl : k < es.length := by omega
      obtain ⟨b, of, hb, hbl, e1, e2⟩ := s.at' (t := 45) (el := 57) (by kernel_rfl) (by kernel_rfl) hkl
      obtain ⟨f1, _⟩ := e2 h (hs.2 b hbl)
      obtain ⟨hD, q1, q2⟩ := spec_order es[k] t h
      have hin2 := hin.trans (q2.inn (Nat.le_trans hin.le hin.len))
      have hs2 := hs.trans q2.same
      have wk : IntKind.i64.wrap ((k : Int) + 1) = ((k + 1 : Nat) : Int) := by rw [wrap_i64] <;> omega
      rw [lK_eq]
      by_cases hc : cmpE es[k] t < 0
      · simp -implicitDefEqProofs (disch := omega) only [↓c51_1_eq, ↓c51_2_eq,Aa,Ac,Ae,Ai,Aj,Ak, dcT, w1, cvUint, sh, cvUi, e1, ldE, f1, Option.map_some, entA, ce, callOrd, q1, decide_eq_true hc, wk, ↓cnd_true, ↓cnd_false, ↓Option.bind_some, ↓obH_some', bin_add, bin_sub, bin_mul, bin_lss, bin_leq, bin_gtr, bin_geq, bin_eql, bin_neq, un_not, un_neg, Option.bind_some, Option.bind_none, Option.map_some, cnd_true, cnd_false, pickV_true, pickV_false, gd_true, gd_false, gdV_true, gdV_false, gdH_true, gdH_false, gdS_true, gdS_false, wt_ff, wt_tt, wt_ft, wt_tf, wt_undef, obH_some', extractV_tuple, nilCheckV_ptr, againK_normal, againK_exit, againK_ret, blockK_normal, blockK_same, blockK_ret, seqK_normal, seqK_exit, seqK_ret, fin_done, if_true', if_false', Bool.not_true, Bool.not_false, idx0, idx1, idx2, idx3, idx4, chk_nil_l, chk_nil_r, done_nm, up_cons, up_nil, cond_true, cond_false, Nat.reduceBEq]
        have hlk := (cmpE_lt _ _).1 hc
        refine ih (k + 1) j (by omega) (by omega) hj (fun l hl hlk' => ?_) hi _ hD hin2 hs2 ?_ ?_ ?_ ?_ ?_ ?_
        · rcases Nat.lt_or_ge l k with h | h
          · exact ltE_trans (List.pairwise_iff_getElem.1 hst l k hl hkl h) hlk
          · obtain rfl : l = k := by omega
            exact hlk
        · exact Aa
        · exact Ac
        · exact Ae
        · exact Ai
        · rfl
        · exact Ak
      · simp -implicitDefEqProofs (disch := omega) only [↓c51_1_eq, ↓c51_2_eq,Aa,Ac,Ae,Ai,Aj,Ak, dcT, w1, cvUint, sh, cvUi, e1, ldE, f1, Option.map_some, entA, ce, callOrd, q1, decide_eq_false hc, ↓cnd_true, ↓cnd_false, ↓Option.bind_some, ↓obH_some', bin_add, bin_sub, bin_mul, bin_lss, bin_leq, bin_gtr, bin_geq, bin_eql, bin_neq, un_not, un_neg, Option.bind_some, Option.bind_none, Option.map_some, cnd_true, cnd_false, pickV_true, pickV_false, gd_true, gd_false, gdV_true, gdV_false, gdH_true, gdH_false, gdS_true, gdS_false, wt_ff, wt_tt, wt_ft, wt_tf, wt_undef, obH_some', extractV_tuple, nilCheckV_ptr, againK_normal, againK_exit, againK_ret, blockK_normal, blockK_same, blockK_ret, seqK_normal, seqK_exit, seqK_ret, fin_done, if_true', if_false', Bool.not_true, Bool.not_false, idx0, idx1, idx2, idx3, idx4, chk_nil_l, chk_nil_r, done_nm, up_cons, up_nil, cond_true, cond_false, Nat.reduceBEq]
        have hlk : ¬ ltE es[k] t := fun h => hc ((cmpE_lt _ _).2 h)
        refine ih i k (by omega) (by omega) (by omega) lo (fun l hl hlk' => ?_) _ hD hin2 hs2 ?_ ?_ ?_ ?_ ?_ ?_
        · rcases Nat.lt_or_ge k l with h | h
          · exact fun h2 => hlk (ltE_trans (List.pairwise_iff_getElem.1 hst k l hkl hl h) h2)
          · obtain rfl : l = k := by omega
            exact hlk
        · exact Aa
        · exact Ac
        · exact Ae
        · exact Ai
        · exact Aj
        · rfl
theorem spec_BS {h : Heap} {v : Value} {es : List E3} (s : SE h v es) (hst : Srt es) (hl : es.length < 2 ^ 40) (t : E3) :
    ∃ h', evC Try.prog 51 #[v, entV t, .func (.func 48) #[] #[]] h = some (.tuple #[.int .i64 (bsK es t : Nat), .bool (bsF es t)], h') ∧ HExt h h' := by
  rw [call51]
  have c := Cells.new (nm h) 57 (entC t)
  have s1 : SE ((nm h).new (.cells (entC t)) 57) v es := s.nm.keepNew _ _
  have k1 : In h.blks.length No (nm h) ((nm h).new (.cells (entC t)) 57) := In.new (h := nm h) (Nat.le_refl h.blks.length) _ _
  obtain ⟨a, cc, rfl⟩ := s.shape
  have lp := bs_loop (h0 := h) s1 hst hl (by simp [Heap.new]) c es.length 0 es.length (by omega) (by omega) (by omega) (fun _ _ h => absurd h (Nat.not_lt_zero _)) (fun l hl h => absurd hl (Nat.not_lt.2 h))
  have bx : ∀ h, boxV Try.prog 57 (entV t) h = some (.pointer (some ⟨h.blks.length, 0, none⟩), h.new (.cells (entC t)) 57) := fun h => bxE _ _ _ h
  simp -implicitDefEqProofs (disch := omega) only [↓c51_0_eq, bx, lnEs, ↓cnd_true, ↓cnd_false, ↓Option.bind_some, ↓obH_some', bin_add, bin_sub, bin_mul, bin_lss, bin_leq, bin_gtr, bin_geq, bin_eql, bin_neq, un_not, un_neg, Option.bind_some, Option.bind_none, Option.map_some, cnd_true, cnd_false, pickV_true, pickV_false, gd_true, gd_false, gdV_true, gdV_false, gdH_true, gdH_false, gdS_true, gdS_false, wt_ff, wt_tt, wt_ft, wt_tf, wt_undef, obH_some', extractV_tuple, nilCheckV_ptr, againK_normal, againK_exit, againK_ret, blockK_normal, blockK_same, blockK_ret, seqK_normal, seqK_exit, seqK_ret, fin_done, if_true', if_false', Bool.not_true, Bool.not_false, idx0, idx1, idx2, idx3, idx4, chk_nil_l, chk_nil_r, done_nm, up_cons, up_nil, cond_true, cond_false, Nat.reduceBEq]
  refine endL (lp _ _ k1 (Same.refl _) ?_ ?_ ?_ ?_ ?_ ?_)
  all_goals rfl
end Go.Am
namespace Go.Am
open Go.Proofs
set_option maxRecDepth 100000
set_option linter.all false
attribute [local congr] obind_congr obH_congr cnd_congr chk_congr retK_congr codeK_congr
def mV (l : List (Int × Nat)) : List (Value × Value) := l.map fun p => (.int .i64 p.1, .int .u64 p.2)
def getM : List (Int × Nat) → Int → Option Nat
  | [], _ => none
  | (g, m) :: l, f => if f = g then some m else getM l f
def putM : List (Int × Nat) → Int → Nat → List (Int × Nat)
  | [], f, n => [(f, n)]
  | (g, m) :: l, f, n => if f = g then (f, n) :: l else (g, m) :: putM l f n
theorem getM_put : ∀ (l : List (Int × Nat)) (f : Int) (n : Nat) (g : Int), getM (putM l f n) g = if g = f then some n else getM l g
  | [], f, n, g => by simp [putM, getM]
  | (k, m) :: l, f, n, g => by
    unfold putM
    split
    · rename_i h; subst h
      simp only [getM]
      split <;> rfl
    · rename_i h
      simp only [getM, getM_put l f n g]
      by_cases h1 : g = k
      · subst h1; rw [if_pos rfl, if_neg (fun e => h e.symm), if_pos rfl]
      · rw [if_neg h1]
        by_cases h2 : g = f
        · rw [if_pos h2, if_pos h2]
        · rw [if_neg h2, if_neg h2, if_neg h1]
theorem find_mV (f : Int) (n : Nat) : ∀ (l : List (Int × Nat)) (i : Nat),
    (findInt .i64 f (mV l) i = some none ∧ putM l f n = l ++ [(f, n)] ∧ getM l f = none) ∨ ∃ j m, findInt .i64 f (mV l) i = some (some (i + j, .int .u64 (m : Nat))) ∧ putM l f n = l.set j (f, n) ∧ getM l f = some m
  | [], i => .inl ⟨rfl, rfl, rfl⟩
  | (g, m) :: l, i => by
    simp only [mV, List.map_cons, findInt, putM, getM, if_true]
    by_cases h : f = g
    · rw [if_pos h, if_pos h, if_pos h]
      exact .inr ⟨0, m, rfl, rfl, rfl⟩
    · rw [if_neg h, if_neg h, if_neg h]
      rcases find_mV f n l (i + 1) with ⟨h1, h2, h3⟩ | ⟨j, m', h1, h2, h3⟩
      · exact .inl ⟨h1, by rw [h2]; rfl, h3⟩
      · exact .inr ⟨j + 1, m', by rw [show i + (j + 1) = i + 1 + j by omega]; exact h1, by rw [h2]; rfl, h3⟩
def MB (h : Heap) (r : Nat) (l : List (Int × Nat)) : Prop := h.blks[r]? = some ⟨.map (mV l), 0, true⟩
theorem MB.same {h h' : Heap} {r : Nat} {l : List (Int × Nat)} (m : MB h r l) (s : Same h h') : MB h' r l := (s.2 r (lt_of_blk m)).trans m
theorem mapU {h : Heap} {r : Nat} {l : List (Int × Nat)} (m : MB h r l) (f : Int) (n : Nat) : mapUpdateV Try.prog 133 (.map (some r)) (.int .i64 f) (.int .u64 n) h = some (h.put r (.map (mV (putM l f n)))) := by
  have hu : Try.prog.underlying 133 = some (.map 3 35) := by kernel_rfl
  have hi : isIntT Try.prog 3 = true := by kernel_rfl
  unfold mapUpdateV
  rw [hu]
  simp only [mapOf?, show h.blks[r]? = some ⟨.map (mV l), 0, true⟩ from m, hi, if_true]
  rcases find_mV f n l 0 with ⟨h1, h2, _⟩ | ⟨j, m', h1, h2, _⟩
  · rw [h1, h2]; simp [mV]
  · rw [h1, h2]; simp [mV, List.map_set]
theorem MB.put {h : Heap} {r : Nat} {l : List (Int × Nat)} (m : MB h r l) (l' : List (Int × Nat)) : MB (h.put r (.map (mV l'))) r l' := by
  unfold MB; rw [blk_put_self m]
theorem mapL {h : Heap} {r : Nat} {l : List (Int × Nat)} (m : MB h r l) (f : Int) : lookupV Try.prog 133 (.map (some r)) (.int .i64 f) false h = some (.int .u64 ((getM l f).getD 0 : Nat)) := by
  have hu : Try.prog.underlying 133 = some (.map 3 35) := by kernel_rfl
  have hi : isIntT Try.prog 3 = true := by kernel_rfl
  have hz : zeroT Try.prog 35 = some (.int .u64 0) := by kernel_rfl
  unfold lookupV
  rw [hu]
  simp only [mapOf?, show h.blks[r]? = some ⟨.map (mV l), 0, true⟩ from m, hi, hz]
  rcases find_mV f 0 l 0 with ⟨h1, _, h3⟩ | ⟨j, m', h1, _, h3⟩
  · rw [h1, h3]; rfl
  · rw [h1, h3]; rfl
def lastM (es : List E3) : List (Int × Nat) := es.foldl (fun l e => putM l e.f e.n) []
theorem lastM_snoc (es : List E3) (e : E3) : lastM (es ++ [e]) = putM (lastM es) e.f e.n := by simp [lastM]
theorem last_loop {h0 h1 : Heap} {v : Value} {es : List E3} {r : Nat} (s : SE h1 v es) (hl : es.length < 2 ^ 38) (hn : h0.blks.length ≤ h1.blks.length) (hr : h0.blks.length ≤ r) (hrb : blockOf v ≠ some r) (hr1 : r < h1.blks.length) :
    ∀ (m i : Nat), es.length - i = m → i ≤ es.length → ∀ (x : Nat → Value) (h : Heap),In h0.blks.length No (nm h0) h → (∀ b, b < h1.blks.length → b ≠ r → h.blks[b]? = h1.blks[b]?) → h1.blks.length ≤ h.blks.length → MB h r (lastM (es.take i)) →
    x 3 = .map (some r) → x 8 = v → x 9 = .int .i64 es.length → x 10 = .int .i64 i →
    ∃ h', lK c74_1 21 x h (blockK 0 (sK c74_2 (retK Try.f74 Try.prog h0))) = some (.map (some r), done h0 h') ∧ In h0.blks.length No (nm h0) h' ∧ MB h' r (lastM es) := by
  intro m
  induction m with
  | zero =>
    intro i e1 e2 x h hin hs hs2 hm Ad Ai Aj Ak
    obtain rfl : i = es.length := by omega
    rw [List.take_length] at hm
    rw [lK_eq]
    refine ⟨h, ?_, hin, hm⟩
    simp -implicitDefEqProofs (disch := omega) only [↓c74_1_eq, ↓c74_2_eq,Ad,Ai,Aj,Ak, dcF, ↓ret74, ↓cnd_true, ↓cnd_false, ↓Option.bind_some, ↓obH_some', bin_add, bin_sub, bin_mul, bin_lss, bin_leq, bin_gtr, bin_geq, bin_eql, bin_neq, un_not, un_neg, Option.bind_some, Option.bind_none, Option.map_some, cnd_true, cnd_false, pickV_true, pickV_false, gd_true, gd_false, gdV_true, gdV_false, gdH_true, gdH_false, gdS_true, gdS_false, wt_ff, wt_tt, wt_ft, wt_tf, wt_undef, obH_some', extractV_tuple, nilCheckV_ptr, againK_normal, againK_exit, againK_ret, blockK_normal, blockK_same, blockK_ret, seqK_normal, seqK_exit, seqK_ret, fin_done, if_true', if_false', Bool.not_true, Bool.not_false, idx0, idx1, idx2, idx3, idx4, chk_nil_l, chk_nil_r, done_nm, up_cons, up_nil, cond_true, cond_false, Nat.reduceBEq]
  | succ m ih =>
    intro i hmi hi x h hin hs hs2 hm Ad Ai Aj Ak
    have hil : i < es.length := by omega
    obtain ⟨b, of, hb, hbl, e1, e2⟩ := s.at' (t := 45) (el := 57) (by kernel_rfl) (by kernel_rfl) hil
    obtain ⟨f1, _⟩ := e2 h (hs b hbl (fun e => hrb (by rw [hb, e])))
    obtain ⟨hA, hB, a1, a2, a3, a4, a5, a6⟩ := var_ent (n0 := h1.blks.length) hs2 es[i]
    have lf : hB.load1 h.blks.length 0 = some (.int .i64 es[i].f) := a3.load 0
    have ln : hB.load1 h.blks.length (0 + 1) = some (.int .u64 es[i].n) := a3.load 1
    have mB := hm.same a5
    have up := mapU mB es[i].f es[i].n
    have hin2 := (hin.trans (In.dn (a4 No) hn)).trans (In.put (S := No) (p := r) (by have := a5.1; omega) (.inl hr) (.map (mV (putM (lastM (es.take i)) es[i].f es[i].n))))
    have wi : IntKind.i64.wrap ((i : Int) + 1) = ((i + 1 : Nat) : Int) := by rw [wrap_i64] <;> omega
    have ht : es.take i ++ [es[i]] = es.take (i + 1) := by rw [List.take_succ, List.getElem?_eq_getElem hil]; rfl
    have m2 := mB.put (putM (lastM (es.take i)) es[i].f es[i].n)
    rw [← lastM_snoc, ht] at m2 up hin2
    rw [lK_eq]
    simp -implicitDefEqProofs (disch := omega) only [↓c74_1_eq, ↓c74_2_eq,Ad,Ai,Aj,Ak, dcT, e1, ldE, f1, Option.map_some, entA, a1, a2, faE0, faE1, ldI, ldU, lf, ln, up, wi, ↓cnd_true, ↓cnd_false, ↓Option.bind_some, ↓obH_some', bin_add, bin_sub, bin_mul, bin_lss, bin_leq, bin_gtr, bin_geq, bin_eql, bin_neq, un_not, un_neg, Option.bind_some, Option.bind_none, Option.map_some, cnd_true, cnd_false, pickV_true, pickV_false, gd_true, gd_false, gdV_true, gdV_false, gdH_true, gdH_false, gdS_true, gdS_false, wt_ff, wt_tt, wt_ft, wt_tf, wt_undef, obH_some', extractV_tuple, nilCheckV_ptr, againK_normal, againK_exit, againK_ret, blockK_normal, blockK_same, blockK_ret, seqK_normal, seqK_exit, seqK_ret, fin_done, if_true', if_false', Bool.not_true, Bool.not_false, idx0, idx1, idx2, idx3, idx4, chk_nil_l, chk_nil_r, done_nm, up_cons, up_nil, cond_true, cond_false, Nat.reduceBEq]
    refine ih (i + 1) (by omega) (by omega) _ _ hin2 (fun q hq hne => ?_) (by rw [Heap.put_len]; exact Nat.le_trans hs2 a5.1) m2 ?_ ?_ ?_ ?_
    · rw [Heap.put_other hne, a5.2 q (Nat.lt_of_lt_of_le hq hs2)]; exact hs q hq hne
    · exact Ad
    · exact Ai
    · exact Aj
    · rfl
theorem spec_last {h : Heap} {v : Value} {es : List E3} (s : SE h v es) (hl : es.length < 2 ^ 38) : ∃ r h', evC Try.prog 74 #[.agg #[v]] h = some (.map (some r), h') ∧ HExt h h' ∧ MB h' r (lastM es) ∧ h.blks.length ≤ r := by
  rw [call74]
  have c1 := (Cells.new (nm h) 47 [v]).keepNew (.map []) 0
  have m2 : MB (((nm h).new (.cells [v]) 47).new (.map []) 0) ((nm h).new (.cells [v]) 47).blks.length [] := blk_new_self _ _ _
  have s2 : SE (((nm h).new (.cells [v]) 47).new (.map []) 0) v es := (s.nm.keepNew _ _).keepNew _ _
  have k2 : In h.blks.length No (nm h) (((nm h).new (.cells [v]) 47).new (.map []) 0) := (In.new (h := nm h) (Nat.le_refl h.blks.length) _ _).trans (In.new (by simp [Heap.new]) _ _)
  have e0 : (nm h).blks.length = h.blks.length := rfl
  have e1 : ((nm h).new (.cells [v]) 47).blks.length = h.blks.length + 1 := by simp [Heap.new]
  rw [e0] at c1
  rw [e1] at m2
  have hlen : (((nm h).new (.cells [v]) 47).new (.map []) 0).blks.length = h.blks.length + 2 := by simp [Heap.new]
  have mk : ∀ h, makeMapV h = (.map (some h.blks.length), h.new (.map []) 0) := fun _ => rfl
  generalize hh : (((nm h).new (.cells [v]) 47).new (.map []) 0) = h2 at c1 m2 s2 k2 hlen
  have lA : h2.load1 h.blks.length 0 = some v := c1.load 0
  obtain ⟨a, cc, rfl⟩ := s.shape
  have hb : blockOf (.slice a es.length cc) ≠ some (h.blks.length + 1) := fun e => by have := s.lt e; omega
  have lp := last_loop (h0 := h) (r := h.blks.length + 1) s2 hl (by omega) (by omega) hb (by omega) es.length 0 (by omega) (by omega)
  have fin' : ∀ {r : Option (Value × Heap)}, (∃ h', r = some (.map (some (h.blks.length + 1)), done h h') ∧ In h.blks.length No (nm h) h' ∧ MB h' (h.blks.length + 1) (lastM es)) → ∃ q h', r = some (.map (some q), h') ∧ HExt h h' ∧ MB h' q (lastM es) ∧ h.blks.length ≤ q := fun ⟨h', q1, q2, q3⟩ => ⟨_, _, q1, done_ext' q2, q3, by omega⟩
  simp -implicitDefEqProofs (disch := omega) only [↓c74_0_eq, bxL, mk, e0, e1, hh, faL, ldEs, lA, lnEs, ↓cnd_true, ↓cnd_false, ↓Option.bind_some, ↓obH_some', bin_add, bin_sub, bin_mul, bin_lss, bin_leq, bin_gtr, bin_geq, bin_eql, bin_neq, un_not, un_neg, Option.bind_some, Option.bind_none, Option.map_some, cnd_true, cnd_false, pickV_true, pickV_false, gd_true, gd_false, gdV_true, gdV_false, gdH_true, gdH_false, gdS_true, gdS_false, wt_ff, wt_tt, wt_ft, wt_tf, wt_undef, obH_some', extractV_tuple, nilCheckV_ptr, againK_normal, againK_exit, againK_ret, blockK_normal, blockK_same, blockK_ret, seqK_normal, seqK_exit, seqK_ret, fin_done, if_true', if_false', Bool.not_true, Bool.not_false, idx0, idx1, idx2, idx3, idx4, chk_nil_l, chk_nil_r, done_nm, up_cons, up_nil, cond_true, cond_false, Nat.reduceBEq]
  refine fin' (lp _ _ k2 (fun _ _ _ => rfl) (Nat.le_refl _) m2 ?_ ?_ ?_ ?_)
  all_goals rfl
def newsE (g other : List E3) : List E3 := g.filter fun x => !bsF other x && decide ((getM (lastM other) x.f).getD 0 < x.n)
theorem newsE_snoc (g other : List E3) (e : E3) : newsE (g ++ [e]) other = newsE g other ++ (if (!bsF other e && decide ((getM (lastM other) e.f).getD 0 < e.n)) = true then [e] else []) := by
  unfold newsE
  rw [List.filter_append]
  congr 1
  rw [List.filter_cons, List.filter_nil]
theorem news_loop {h0 h1 : Heap} {v w : Value} {es fs : List E3} {r p : Nat} (s : SE h1 v es) (s2 : SE h1 w fs) (hst : Srt fs) (hl : es.length < 2 ^ 38) (hl2 : fs.length < 2 ^ 38) (hn : h0.blks.length ≤ h1.blks.length) (mb : MB h1 r (lastM fs)) (c : Cells h1 p 47 [w]) :
    ∀ (m i : Nat), es.length - i = m → i ≤ es.length → ∀ (x : Nat → Value) (h : Heap) (a : Option Addr) (cc : Nat),In h0.blks.length No (nm h0) h → Same h1 h → AE h1.blks.length h (.slice a (newsE (es.take i) fs).length cc) (newsE (es.take i) fs) →
    x 3 = .pointer (some ⟨p, 0, none⟩) → x 5 = .map (some r) → x 6 = .slice a (newsE (es.take i) fs).length cc → x 14 = v → x 15 = .int .i64 es.length → x 16 = .int .i64 i →
    ∃ a' c' h', lK c50_1 44 x h (blockK 0 (sK c50_2 (retK Try.f50 Try.prog h0))) = some (.slice a' (newsE es fs).length c', done h0 h') ∧ In h0.blks.length No (nm h0) h' ∧ AE h1.blks.length h' (.slice a' (newsE es fs).length c') (newsE es fs) := by
  intro m
  induction m with
  | zero =>
    intro i e1 e2 x h a cc hin hs ha Ad Af Ag Ap Aq Ar
    obtain rfl : i = es.length := by omega
    rw [List.take_length] at ha Ag
    rw [lK_eq]
    refine ⟨a, cc, h, ?_, hin, ha⟩
    simp -implicitDefEqProofs (disch := omega) only [↓c50_1_eq, ↓c50_2_eq,Ag,Ap,Aq,Ar, dcF, ↓ret50, ↓cnd_true, ↓cnd_false, ↓Option.bind_some, ↓obH_some', bin_add, bin_sub, bin_mul, bin_lss, bin_leq, bin_gtr, bin_geq, bin_eql, bin_neq, un_not, un_neg, Option.bind_some, Option.bind_none, Option.map_some, cnd_true, cnd_false, pickV_true, pickV_false, gd_true, gd_false, gdV_true, gdV_false, gdH_true, gdH_false, gdS_true, gdS_false, wt_ff, wt_tt, wt_ft, wt_tf, wt_undef, obH_some', extractV_tuple, nilCheckV_ptr, againK_normal, againK_exit, againK_ret, blockK_normal, blockK_same, blockK_ret, seqK_normal, seqK_exit, seqK_ret, fin_done, if_true', if_false', Bool.not_true, Bool.not_false, idx0, idx1, idx2, idx3, idx4, chk_nil_l, chk_nil_r, done_nm, up_cons, up_nil, cond_true, cond_false, Nat.reduceBEq]
  | succ m ih =>
    intro i hm hi x h a cc hin hs ha Ad Af Ag Ap Aq Ar
    have hil : i < es.length := by omega
    obtain ⟨b, of, hb, hbl, e1, e2⟩ := s.at' (t := 45) (el := 57) (by kernel_rfl) (by kernel_rfl) hil
    obtain ⟨f1, _⟩ := e2 h (hs.2 b hbl)
    obtain ⟨hA, hB, a1, a2, a3, a4, a5, a6⟩ := var_ent (n0 := h1.blks.length) hs.1 es[i]
    have hsB := hs.trans a5
    have lw : hB.load1 p 0 = some w := (c.same hsB).load 0
    obtain ⟨hC, q1, q2⟩ := spec_BS (s2.same hsB) hst (by omega) es[i]
    have hsC := hsB.trans q2.same
    have hinC := (hin.trans (In.dn (a4 No) hn)).trans (q2.inn (by have := hsB.1; omega))
    have a3C := a3.ext q2
    have lf : hC.load1 h.blks.length 0 = some (.int .i64 es[i].f) := a3C.load 0
    have ln : hC.load1 h.blks.length (0 + 1) = some (.int .u64 es[i].n) := a3C.load 1
    have l3 : (hC.loadN h.blks.length 0 3).map (fun cs => Value.agg cs.toArray) = some (entV es[i]) := by rw [a3C.loadN (n := 3) rfl]; rfl
    have ml := mapL (mb.same hsC) es[i].f
    have wi : IntKind.i64.wrap ((i : Int) + 1) = ((i + 1 : Nat) : Int) := by rw [wrap_i64] <;> omega
    have ht : es.take i ++ [es[i]] = es.take (i + 1) := by rw [List.take_succ, List.getElem?_eq_getElem hil]; rfl
    have hsn := newsE_snoc (es.take i) fs es[i]
    rw [ht] at hsn
    have haC : AE h1.blks.length hC (.slice a (newsE (es.take i) fs).length cc) (newsE (es.take i) fs) := (ha.same a5).same q2.same
    have hnl : (newsE (es.take i) fs).length < 2 ^ 39 := by
      have := List.length_filter_le (fun x => !bsF fs x && decide ((getM (lastM fs) x.f).getD 0 < x.n)) (es.take i)
      rw [List.length_take] at this
      unfold newsE; omega
    rw [lK_eq]
    cases hbs : bsF fs es[i] with
    | true =>
      rw [hbs] at q1 hsn
      simp only [Bool.not_true, Bool.false_and, Bool.false_eq_true, if_false, List.append_nil] at hsn
      rw [← hsn] at haC Ag
      simp -implicitDefEqProofs (disch := omega) only [↓c50_1_eq, ↓c50_2_eq,Ad,Af,Ap,Aq,Ar, dcT, e1, ldE, f1, Option.map_some, entA, a1, a2, a6, faL, ldEs, lw, q1, wi, ↓cnd_true, ↓cnd_false, ↓Option.bind_some, ↓obH_some', bin_add, bin_sub, bin_mul, bin_lss, bin_leq, bin_gtr, bin_geq, bin_eql, bin_neq, un_not, un_neg, Option.bind_some, Option.bind_none, Option.map_some, cnd_true, cnd_false, pickV_true, pickV_false, gd_true, gd_false, gdV_true, gdV_false, gdH_true, gdH_false, gdS_true, gdS_false, wt_ff, wt_tt, wt_ft, wt_tf, wt_undef, obH_some', extractV_tuple, nilCheckV_ptr, againK_normal, againK_exit, againK_ret, blockK_normal, blockK_same, blockK_ret, seqK_normal, seqK_exit, seqK_ret, fin_done, if_true', if_false', Bool.not_true, Bool.not_false, idx0, idx1, idx2, idx3, idx4, chk_nil_l, chk_nil_r, done_nm, up_cons, up_nil, cond_true, cond_false, Nat.reduceBEq]
      refine ih (i + 1) (by omega) (by omega) _ hC a cc hinC hsC haC ?_ ?_ ?_ ?_ ?_ ?_
      · exact Ad
      · exact Af
      · exact Ag
      · exact Ap
      · exact Aq
      · rfl
    | false =>
      rw [hbs] at q1 hsn
      simp only [Bool.not_false, Bool.true_and, decide_eq_true_eq] at hsn
      by_cases hk : (getM (lastM fs) es[i].f).getD 0 < es[i].n
      · rw [if_pos hk] at hsn
        have d1 : decide ((((getM (lastM fs) es[i].f).getD 0 : Nat) : Int) < (es[i].n : Int)) = true := decide_eq_true (by omega)
        obtain ⟨a', c', hD, g1, g2, g3, g4⟩ := app_ent etE (n0 := h1.blks.length) hsC.1 haC es[i] hnl
        rw [← hsn] at g1 g2
        have hsD : Same h1 hD := ⟨Nat.le_trans hsC.1 g3.len, fun q hq => (g4 q (Nat.lt_of_lt_of_le hq hsC.1) (Acc.off haC (Nat.le_refl _) hq)).trans (hsC.2 q hq)⟩
        have hinD := hinC.trans (Keeps.inn (S := No) (g3.dn hn))
        simp -implicitDefEqProofs (disch := omega) only [↓c50_1_eq, ↓c50_2_eq,Ad,Af,Ag,Ap,Aq,Ar, dcT, e1, ldE, f1, Option.map_some, entA, a1, a2, a6, faL, faE0, faE1, ldI, ldU, lf, ln, ml, d1, ldEs, lw, q1, l3, bsE, g1, wi, ↓cnd_true, ↓cnd_false, ↓Option.bind_some, ↓obH_some', bin_add, bin_sub, bin_mul, bin_lss, bin_leq, bin_gtr, bin_geq, bin_eql, bin_neq, un_not, un_neg, Option.bind_some, Option.bind_none, Option.map_some, cnd_true, cnd_false, pickV_true, pickV_false, gd_true, gd_false, gdV_true, gdV_false, gdH_true, gdH_false, gdS_true, gdS_false, wt_ff, wt_tt, wt_ft, wt_tf, wt_undef, obH_some', extractV_tuple, nilCheckV_ptr, againK_normal, againK_exit, againK_ret, blockK_normal, blockK_same, blockK_ret, seqK_normal, seqK_exit, seqK_ret, fin_done, if_true', if_false', Bool.not_true, Bool.not_false, idx0, idx1, idx2, idx3, idx4, chk_nil_l, chk_nil_r, done_nm, up_cons, up_nil, cond_true, cond_false, Nat.reduceBEq]
        refine ih (i + 1) (by omega) (by omega) _ hD a' c' hinD hsD g2 ?_ ?_ ?_ ?_ ?_ ?_
        · exact Ad
        · exact Af
        · rfl
        · exact Ap
        · exact Aq
        · rfl
      · rw [if_neg hk, List.append_nil] at hsn
        have d1 : decide ((((getM (lastM fs) es[i].f).getD 0 : Nat) : Int) < (es[i].n : Int)) = false := decide_eq_false (by omega)
        rw [← hsn] at haC Ag
        simp -implicitDefEqProofs (disch := omega) only [↓c50_1_eq, ↓c50_2_eq,Ad,Af,Ap,Aq,Ar, dcT, e1, ldE, f1, Option.map_some, entA, a1, a2, a6, faL, faE0, faE1, ldI, ldU, lf, ln, ml, d1, ldEs, lw, q1, wi, ↓cnd_true, ↓cnd_false, ↓Option.bind_some, ↓obH_some', bin_add, bin_sub, bin_mul, bin_lss, bin_leq, bin_gtr, bin_geq, bin_eql, bin_neq, un_not, un_neg, Option.bind_some, Option.bind_none, Option.map_some, cnd_true, cnd_false, pickV_true, pickV_false, gd_true, gd_false, gdV_true, gdV_false, gdH_true, gdH_false, gdS_true, gdS_false, wt_ff, wt_tt, wt_ft, wt_tf, wt_undef, obH_some', extractV_tuple, nilCheckV_ptr, againK_normal, againK_exit, againK_ret, blockK_normal, blockK_same, blockK_ret, seqK_normal, seqK_exit, seqK_ret, fin_done, if_true', if_false', Bool.not_true, Bool.not_false, idx0, idx1, idx2, idx3, idx4, chk_nil_l, chk_nil_r, done_nm, up_cons, up_nil, cond_true, cond_false, Nat.reduceBEq]
        refine ih (i + 1) (by omega) (by omega) _ hC a cc hinC hsC haC ?_ ?_ ?_ ?_ ?_ ?_
        · exact Ad
        · exact Af
        · exact Ag
        · exact Ap
        · exact Aq
        · rfl
theorem spec_news {h : Heap} {v w : Value} {es fs : List E3} (s : SE h v es) (s2 : SE h w fs) (hst : Srt fs) (hl : es.length < 2 ^ 38) (hl2 : fs.length < 2 ^ 38) :
    ∃ a c h', evC Try.prog 50 #[.agg #[v], .agg #[w]] h = some (.slice a (newsE es fs).length c, h') ∧ HExt h h' ∧ AE h.blks.length h' (.slice a (newsE es fs).length c) (newsE es fs) := by
  rw [call50]
  have c1 := (Cells.new (nm h) 47 [v]).keepNew (.cells [w]) 47
  have c2 := Cells.new ((nm h).new (.cells [v]) 47) 47 [w]
  have s1 : SE (((nm h).new (.cells [v]) 47).new (.cells [w]) 47) v es := (s.nm.keepNew _ _).keepNew _ _
  have s2' : SE (((nm h).new (.cells [v]) 47).new (.cells [w]) 47) w fs := (s2.nm.keepNew _ _).keepNew _ _
  have k2 : In h.blks.length No (nm h) (((nm h).new (.cells [v]) 47).new (.cells [w]) 47) := (In.new (h := nm h) (Nat.le_refl h.blks.length) _ _).trans (In.new (by simp [Heap.new]) _ _)
  have e0 : (nm h).blks.length = h.blks.length := rfl
  have e1 : ((nm h).new (.cells [v]) 47).blks.length = h.blks.length + 1 := by simp [Heap.new]
  rw [e0] at c1
  rw [e1] at c2
  have hlen : (((nm h).new (.cells [v]) 47).new (.cells [w]) 47).blks.length = h.blks.length + 2 := by simp [Heap.new]
  generalize hh : (((nm h).new (.cells [v]) 47).new (.cells [w]) 47) = h2 at c1 c2 s1 s2' k2 hlen
  have l2 : (h2.loadN (h.blks.length + 1) 0 1).map (fun cs => Value.agg cs.toArray) = some (.agg #[w]) := by rw [c2.loadN (n := 1) rfl]; rfl
  obtain ⟨r, h3, q1, q2, q3, q4⟩ := spec_last s2' hl2
  have l1 : h3.load1 h.blks.length 0 = some v := (c1.ext q2).load 0
  have c3 := c2.ext q2
  obtain ⟨a, cc, rfl⟩ := s.shape
  have hq := q2.len
  have lp := news_loop (h0 := h) (s1.ext q2) (s2'.ext q2) hst hl hl2 (by omega) q3 c3 es.length 0 (by omega) (by omega)
  have fin' : ∀ {r : Option (Value × Heap)}, (∃ a c h', r = some (.slice a (newsE es fs).length c, done h h') ∧ In h.blks.length No (nm h) h' ∧ AE h3.blks.length h' (.slice a (newsE es fs).length c) (newsE es fs)) → ∃ a c h', r = some (.slice a (newsE es fs).length c, h') ∧ HExt h h' ∧ AE h.blks.length h' (.slice a (newsE es fs).length c) (newsE es fs) := fun ⟨a, c, h', g1, g2, g3⟩ => ⟨a, c, _, g1, done_ext' g2, (Acc.up g3 (by omega)).done⟩
  simp -implicitDefEqProofs (disch := omega) only [↓c50_0_eq, bxL, e0, e1, hh, ldL, l2, q1, faL, ldEs, l1, lnEs, ↓cnd_true, ↓cnd_false, ↓Option.bind_some, ↓obH_some', bin_add, bin_sub, bin_mul, bin_lss, bin_leq, bin_gtr, bin_geq, bin_eql, bin_neq, un_not, un_neg, Option.bind_some, Option.bind_none, Option.map_some, cnd_true, cnd_false, pickV_true, pickV_false, gd_true, gd_false, gdV_true, gdV_false, gdH_true, gdH_false, gdS_true, gdS_false, wt_ff, wt_tt, wt_ft, wt_tf, wt_undef, obH_some', extractV_tuple, nilCheckV_ptr, againK_normal, againK_exit, againK_ret, blockK_normal, blockK_same, blockK_ret, seqK_normal, seqK_exit, seqK_ret, fin_done, if_true', if_false', Bool.not_true, Bool.not_false, idx0, idx1, idx2, idx3, idx4, chk_nil_l, chk_nil_r, done_nm, up_cons, up_nil, cond_true, cond_false, Nat.reduceBEq]
  refine fin' (lp _ _ none 0 (k2.trans (q2.inn (by omega))) (Same.refl _) (AE.nil _ _) ?_ ?_ ?_ ?_ ?_ ?_)
  all_goals rfl
end Go.Am
namespace Go.Am
open Go.Proofs
set_option maxRecDepth 100000
set_option linter.all false
attribute [local congr] obind_congr obH_congr cnd_congr chk_congr retK_congr codeK_congr
theorem spec_sort {n0 : Nat} {h : Heap} {v : Value} {es : List E3} (hn : n0 ≤ h.blks.length) (a : AE n0 h v es) (hl : es.length < 2 ^ 40) (hs : (srtE es).length = es.length) :
    ∃ h', evC Try.prog 52 #[v, .func (.func 48) #[] #[]] h = some (.tuple #[], h') ∧ AE n0 h' v (srtE es) ∧ (∀ S,In n0 S h h') ∧ h'.blks.length = h.blks.length ∧ (∀ q, blockOf v ≠ some q → h'.blks[q]? = h.blks[q]?) := by
  rw [evC_ext xt_sort]
  have hu : Try.prog.underlying 45 = some (.slice 57) := by kernel_rfl
  have hz : sizeT Try.prog 57 = some 3 := by kernel_rfl
  rcases Nat.eq_zero_or_pos es.length with h0 | h0
  · have e0 : es = [] := List.eq_nil_of_length_eq_zero h0
    have e1 : srtE es = [] := List.eq_nil_of_length_eq_zero (by omega)
    obtain ⟨ad, c, rfl⟩ := a.shape
    refine ⟨h, ?_, by rw [e1]; rw [e0] at a ⊢; exact a, fun S => In.refl hn, rfl, fun _ _ => rfl⟩
    unfold sortX
    simp [h0]
  · obtain ⟨b, o, e1, e2, e3, e4, e5⟩ := Acc.store (P := Try.prog) a h0
    obtain ⟨h', g1, g2, g3, g4, g5⟩ := e5 0 (entL (srtE es)) (by rw [entL_len]; omega)
    rcases a.se.inv with ⟨_, h2, _⟩ | ⟨b', o', c', rfl, hld, _⟩
    · omega
    · cases e1
      have hh := e4 hu hz .i64 0 h0
      unfold indexAddrV at hh
      simp only [hu, natOf_int, hz] at hh
      rw [if_pos h0] at hh
      simp only [Option.some.injEq, Value.pointer.injEq, Addr.mk.injEq] at hh
      obtain rfl : o' = o := by omega
      rw [Nat.add_zero] at g1
      refine ⟨h', ?_, ?_, g3, g4, fun q hq => g5 q (fun e => hq (by rw [e]; rfl))⟩
      · unfold sortX
        simp only [List.size_toArray, List.length_nil, true_and]
        rw [if_pos hl, if_neg (by omega)]
        simp only [hld, e3Of_ent, g1, Option.map_some]
      · have : (entL es).take 0 ++ entL (srtE es) ++ (entL es).drop (0 + (entL (srtE es)).length) = entL (srtE es) := by
          rw [List.drop_of_length_le (by rw [entL_len, entL_len]; omega)]; simp
        rw [this] at g2
        show Acc n0 h' _ 3 _ (srtE es).length _
        rw [hs]
        exact g2
end Go.Am
namespace Go.Am
open Go.Sort
instance (a b : E3) : Decidable (ltE a b) := inferInstanceAs (Decidable (_ ∨ _))
theorem swoE : SWO (fun x y : E3 => decide (cmpE x y < 0)) := by
  constructor
  · intro x
    exact decide_eq_false (fun h => ltE_irr x ((cmpE_lt _ _).1 h))
  · intro x y z h1 h2
    exact decide_eq_true ((cmpE_lt _ _).2 (ltE_trans ((cmpE_lt _ _).1 (of_decide_eq_true h1)) ((cmpE_lt _ _).1 (of_decide_eq_true h2))))
  · intro x y z h1 h2
    refine decide_eq_false (fun h => ?_)
    have g1 : ¬ ltE x y := fun k => of_decide_eq_false h1 ((cmpE_lt _ _).2 k)
    have g2 : ¬ ltE y z := fun k => of_decide_eq_false h2 ((cmpE_lt _ _).2 k)
    have g3 := (cmpE_lt _ _).1 h
    unfold ltE at g1 g2 g3
    omega
theorem srtE_all (l : List E3) : (srtE l).Perm l ∧ ∀ (i j : Nat) (hi : i < (srtE l).length) (hj : j < (srtE l).length), i < j → ¬ ltE (srtE l)[j] (srtE l)[i] := by
  have h := pdq_sorts (fun x y : E3 => decide (cmpE x y < 0)) swoE l.toArray 0 l.toArray.size (Lib.bitLen l.toArray.size) true true (Nat.zero_le _) (Nat.le_refl _) (Or.inl rfl)
  obtain ⟨⟨h1, _, h2⟩, h3⟩ := h
  have hs : (srtE l).length = l.length := by unfold srtE; rw [Array.length_toList, h1]; simp
  refine ⟨?_, fun i j hi hj hij => ?_⟩
  · have e1 : ∀ a : Array E3, a.size = l.toArray.size → (a.extract 0 l.toArray.size).toList = a.toList := fun a ha => by
      rw [← ha, Array.extract_size]
    rw [e1 _ h1, e1 _ rfl] at h2
    exact h2
  · have h4 := h3 i j (Nat.zero_le _) hij (by rw [hs] at hj; simpa using hj)
    intro hlt
    have h5 := of_decide_eq_false h4
    apply h5
    rw [cmpE_lt]
    have e2 : ∀ (a : Array E3) (i : Nat) (hi : i < a.toList.length), a[i]! = a.toList[i] := fun a i hi => by
      rw [getElem!_pos a i (by simpa using hi)]; simp
    rw [e2 _ j hj, e2 _ i hi]
    exact hlt
theorem srtE_perm (l : List E3) : (srtE l).Perm l := (srtE_all l).1
theorem srtE_len (l : List E3) : (srtE l).length = l.length := (srtE_perm l).length_eq
theorem srtE_srt {l : List E3} (h : l.Pairwise fun a b => ltE a b ∨ ltE b a) : Srt (srtE l) := by
  have h2 : (srtE l).Pairwise fun a b => ltE a b ∨ ltE b a := (srtE_perm l).symm.pairwise h (fun h => h.symm)
  refine List.pairwise_iff_getElem.2 fun i j hi hj hij => ?_
  exact (List.pairwise_iff_getElem.1 h2 i j hi hj hij).resolve_right ((srtE_all l).2 i j hi hj hij)
theorem srt_unique : ∀ {a b : List E3}, Srt a → Srt b → a.Perm b → a = b
  | [], b, _, _, p => by rw [List.nil_perm.1 p]
  | x :: a, [], _, _, p => by have := p.length_eq; simp at this
  | x :: a, y :: b, ha, hb, p => by
    obtain ⟨ha1, ha2⟩ := List.pairwise_cons.1 ha
    obtain ⟨hb1, hb2⟩ := List.pairwise_cons.1 hb
    have hxy : x = y := by
      have h1 : x ∈ y :: b := p.subset (by simp)
      have h2 : y ∈ x :: a := p.symm.subset (by simp)
      rcases List.mem_cons.1 h1 with h1 | h1
      · exact h1
      · rcases List.mem_cons.1 h2 with h2 | h2
        · exact h2.symm
        · exact absurd (ltE_trans (ha1 y h2) (hb1 x h1)) (ltE_irr x)
    subst hxy
    rw [srt_unique ha2 hb2 (List.Perm.cons_inv p)]
theorem srtE_id {l : List E3} (h : Srt l) : srtE l = l :=
  srt_unique (srtE_srt (h.imp fun h => .inl h)) h (srtE_perm l)
end Go.Am
namespace Go.Am
open Go.Proofs
set_option maxRecDepth 100000
set_option linter.all false
attribute [local congr] obind_congr obH_congr cnd_congr chk_congr retK_congr codeK_congr
theorem anS (t : TypeId) (xo yo : Operand) (n w : Nat) (hn : n < 2 ^ 64) (hw : w < 2 ^ 64) : binV Try.prog .andNot t xo yo (.int .u64 n) (.int .u64 w) = some (.int .u64 ((outB n w : Nat) : Int)) := anN t xo yo n w hn hw
theorem stSet (p o : Nat) (k : IntKind) (n : Int) (h : Heap) : storeV Try.prog 55 (.pointer (some ⟨p, o, none⟩)) (.int k n) h = h.storeN p o [.int k n] := by kernel_rfl
def lessF (to : Nat) (e : E3) : E3 := { e with t := outB e.t to }
def lessI (to : Nat) (es : List E3) (i : Nat) : List E3 := es.mapIdx fun j e => if j < i then lessF to e else e
theorem lessI_len (to : Nat) (es : List E3) (i : Nat) : (lessI to es i).length = es.length := by simp [lessI]
theorem lessI_zero (to : Nat) (es : List E3) : lessI to es 0 = es := by
  apply List.ext_getElem
  · simp [lessI]
  · intro i h1 h2; simp [lessI]
theorem lessI_all (to : Nat) (es : List E3) : lessI to es es.length = es.map (lessF to) := by
  apply List.ext_getElem
  · simp [lessI]
  · intro i h1 h2
    simp only [lessI, List.getElem_mapIdx, List.getElem_map]
    rw [if_pos (by simpa [lessI] using h1)]
theorem lessI_set (to : Nat) (es : List E3) (i : Nat) (hi : i < (lessI to es i).length) : (lessI to es i).set i { (lessI to es i)[i] with t := outB (lessI to es i)[i].t to } = lessI to es (i + 1) := by
  apply List.ext_getElem
  · simp [lessI]
  · intro j h1 h2
    rw [List.getElem_set]
    simp only [lessI, List.getElem_mapIdx]
    by_cases h : i = j
    · subst h
      rw [if_pos rfl, if_neg (by omega), if_pos (by omega)]
      rfl
    · rw [if_neg h]
      by_cases h3 : j < i
      · rw [if_pos h3, if_pos (by omega)]
      · rw [if_neg h3, if_neg (by omega)]
theorem lessI_at (to : Nat) (es : List E3) (i : Nat) (hi : i < (lessI to es i).length) : (lessI to es i)[i] = es[i]'(by simpa [lessI] using hi) := by
  simp [lessI]
theorem outB_lt {a b : Nat} (h : a < 2 ^ 64) : outB a b < 2 ^ 64 := Nat.lt_of_le_of_lt Nat.and_le_left h
def lessE (es : List E3) (to : Nat) : List E3 := if goodE es then es.map (lessF to) else es
theorem lessE_len (es : List E3) (to : Nat) : (lessE es to).length = es.length := by unfold lessE; split <;> simp
theorem less_loop {h0 : Heap} {a : Option Addr} {cc : Nat} {es : List E3} {p2 p4 to : Nat} (hw : wide es) (hto : to < 2 ^ 64) (hl : es.length < 2 ^ 40) (hp2 : h0.blks.length ≤ p2) (hp4 : h0.blks.length ≤ p4) (hne : p2 ≠ p4) (hb2 : blockOf (.slice a es.length cc) ≠ some p2) (hb4 : blockOf (.slice a es.length cc) ≠ some p4) :
    ∀ (m i : Nat), es.length - i = m → i ≤ es.length → ∀ (x : Nat → Value) (h : Heap),In h0.blks.length No (nm h0) h → AE h0.blks.length h (.slice a es.length cc) (lessI to es i) → Cells h p2 47 [.slice a es.length cc] → Cells h p4 47 [.slice none 0 0] →
    x 1 = .int .u64 to → x 2 = .pointer (some ⟨p2, 0, none⟩) → x 4 = .pointer (some ⟨p4, 0, none⟩) → x 14 = .int .i64 es.length → x 15 = .int .i64 i →
    ∃ h', lK c24_1 30 x h (blockK 0 (sK c24_2 (retK Try.f24 Try.prog h0))) = some (.agg #[.slice a es.length cc], done h0 h') ∧ In h0.blks.length No (nm h0) h' ∧ AE h0.blks.length h' (.slice a es.length cc) (es.map (lessF to)) := by
  intro m
  induction m with
  | zero =>
    intro i h1 h2 x h hin ha c2 c4 Ab Ac Ae Ap Aq
    obtain rfl : i = es.length := by omega
    rw [lessI_all] at ha
    have c5 := c4.put [.slice a es.length cc]
    have l2 : (h.loadN p2 0 1).map (fun cs => Value.agg cs.toArray) = some (.agg #[.slice a es.length cc]) := by rw [c2.loadN (n := 1) rfl]; rfl
    have l5 : (Heap.loadN (h.put p4 (.cells [.slice a es.length cc])) p4 0 1).map (fun cs => Value.agg cs.toArray) = some (.agg #[.slice a es.length cc]) := by rw [c5.loadN (n := 1) rfl]; rfl
    have i5 := hin.trans (In.put (S := No) (Nat.le_trans hin.le hin.len) (p := p4) (.inl hp4) (.cells [.slice a es.length cc]))
    rw [lK_eq]
    simp -implicitDefEqProofs (disch := omega) only [↓c24_1_eq, ↓c24_2_eq,Ab,Ac,Ae,Ap,Aq, dcF, ldL, l2, stL, storeN_blk c4 (o := 0) (vs := [.slice a es.length cc]) (by simp), List.take_zero, List.nil_append, List.append_nil, List.length_cons, List.length_nil, List.drop_succ_cons, List.drop_zero, Nat.zero_add, l5, rvals, ↓ret24, ↓cnd_true, ↓cnd_false, ↓Option.bind_some, ↓obH_some', bin_add, bin_sub, bin_mul, bin_lss, bin_leq, bin_gtr, bin_geq, bin_eql, bin_neq, un_not, un_neg, Option.bind_some, Option.bind_none, Option.map_some, cnd_true, cnd_false, pickV_true, pickV_false, gd_true, gd_false, gdV_true, gdV_false, gdH_true, gdH_false, gdS_true, gdS_false, wt_ff, wt_tt, wt_ft, wt_tf, wt_undef, obH_some', extractV_tuple, nilCheckV_ptr, againK_normal, againK_exit, againK_ret, blockK_normal, blockK_same, blockK_ret, seqK_normal, seqK_exit, seqK_ret, fin_done, if_true', if_false', Bool.not_true, Bool.not_false, idx0, idx1, idx2, idx3, idx4, chk_nil_l, chk_nil_r, done_nm, up_cons, up_nil, cond_true, cond_false, Nat.reduceBEq]
    exact ⟨_, rfl, i5, ha.keepPut hb4 _⟩
  | succ m ih =>
    intro i hm hi x h hin ha c2 c4 Ab Ac Ae Ap Aq
    have hil : i < es.length := by omega
    have hil' : i < (lessI to es i).length := by rw [lessI_len]; exact hil
    have w := hw es[i] (List.getElem_mem hil)
    obtain ⟨b, o, h2, e1, e2, e3, e4, e5, e6, e7, e8, e9, e10⟩ := AE.setT ha hil' (outB (lessI to es i)[i].t to)
    rw [lessI_set, AE, lessI_len] at e7
    rw [lessI_at] at e5 e6
    have hb2' : b ≠ p2 := fun e => hb2 (by rw [e1, e])
    have hb4' : b ≠ p4 := fun e => hb4 (by rw [e1, e])
    have l2 : h.load1 p2 0 = some (.slice a es.length cc) := c2.load 0
    have an := fun t xo yo => anS t xo yo es[i].t to w.2 hto
    have wi : IntKind.i64.wrap ((i : Int) + 1) = ((i + 1 : Nat) : Int) := by rw [wrap_i64] <;> omega
    rw [lK_eq]
    simp -implicitDefEqProofs (disch := omega) only [↓c24_1_eq, ↓c24_2_eq,Ab,Ac,Ae,Ap,Aq, dcT, faL, ldEs, l2, e4, faE2, ldS, e5, an, stSet, e6, wi, ↓cnd_true, ↓cnd_false, ↓Option.bind_some, ↓obH_some', bin_add, bin_sub, bin_mul, bin_lss, bin_leq, bin_gtr, bin_geq, bin_eql, bin_neq, un_not, un_neg, Option.bind_some, Option.bind_none, Option.map_some, cnd_true, cnd_false, pickV_true, pickV_false, gd_true, gd_false, gdV_true, gdV_false, gdH_true, gdH_false, gdS_true, gdS_false, wt_ff, wt_tt, wt_ft, wt_tf, wt_undef, obH_some', extractV_tuple, nilCheckV_ptr, againK_normal, againK_exit, againK_ret, blockK_normal, blockK_same, blockK_ret, seqK_normal, seqK_exit, seqK_ret, fin_done, if_true', if_false', Bool.not_true, Bool.not_false, idx0, idx1, idx2, idx3, idx4, chk_nil_l, chk_nil_r, done_nm, up_cons, up_nil, cond_true, cond_false, Nat.reduceBEq]
    refine ih (i + 1) (by omega) (by omega) _ _ (hin.trans (e8 No)) ?_ ((e10 p2 (Ne.symm hb2')).trans c2) ((e10 p4 (Ne.symm hb4')).trans c4) ?_ ?_ ?_ ?_ ?_
    · rw [AE, lessI_len]; exact e7
    · exact Ab
    · exact Ac
    · exact Ae
    · exact Ap
    · rfl
theorem spec_Less {h : Heap} {v : Value} {es : List E3} (s : SE h v es) (hw : wide es) (hl : es.length < 2 ^ 39) (to : Nat) (hto : to < 2 ^ 64) :
    ∃ a c h', evC Try.prog 24 #[.agg #[v], .int .u64 to] h = some (.agg #[.slice a es.length c], h') ∧ HExt h h' ∧ AE h.blks.length h' (.slice a es.length c) (lessE es to) := by
  rw [call24]
  have c1 := (Cells.new (nm h) 47 [v]).keepNew (.cells [.slice none 0 0]) 47
  have c2 := Cells.new ((nm h).new (.cells [v]) 47) 47 [.slice none 0 0]
  have s2 : SE (((nm h).new (.cells [v]) 47).new (.cells [.slice none 0 0]) 47) v es := (s.nm.keepNew _ _).keepNew _ _
  have k2 : In h.blks.length No (nm h) (((nm h).new (.cells [v]) 47).new (.cells [.slice none 0 0]) 47) := (In.new (h := nm h) (Nat.le_refl h.blks.length) _ _).trans (In.new (by simp [Heap.new]) _ _)
  have e0 : (nm h).blks.length = h.blks.length := rfl
  have e1 : ((nm h).new (.cells [v]) 47).blks.length = h.blks.length + 1 := by simp [Heap.new]
  rw [e0] at c1
  rw [e1] at c2
  have hlen : (((nm h).new (.cells [v]) 47).new (.cells [.slice none 0 0]) 47).blks.length = h.blks.length + 2 := by simp [Heap.new]
  generalize hh : (((nm h).new (.cells [v]) 47).new (.cells [.slice none 0 0]) 47) = h2 at c1 c2 s2 k2 hlen
  have lA : (h2.loadN h.blks.length 0 1).map (fun cs => Value.agg cs.toArray) = some (.agg #[v]) := by rw [c1.loadN (n := 1) rfl]; rfl
  obtain ⟨a, c, h3, e3,Ad, a3⟩ := spec_clone s2 hl
  have c3 := c1.ext Ad
  have d3 := c2.ext Ad
  have hx3 := Ad.len
  have b1 : blockOf (.slice a es.length c) ≠ some h.blks.length := fun e => by have := a3.ge e; omega
  have b2 : blockOf (.slice a es.length c) ≠ some (h.blks.length + 1) := fun e => by have := a3.ge e; omega
  have c4 := c3.put [.slice a es.length c]
  have d4 : Cells (h3.put h.blks.length (.cells [.slice a es.length c])) (h.blks.length + 1) 47 [.slice none 0 0] := d3.keepPut (by omega) _
  have a4 : AE h.blks.length (h3.put h.blks.length (.cells [.slice a es.length c])) (.slice a es.length c) es := (a3.keepPut b1 _).up (by omega)
  have k4 := (k2.trans (Ad.inn (by omega))).trans (In.put (S := No) (by omega) (p := h.blks.length) (.inl (by omega)) (.cells [.slice a es.length c]))
  have hs4 := storeN_blk c3 (o := 0) (vs := [.slice a es.length c]) (by simp)
  simp only [List.take_zero, List.nil_append, List.append_nil, List.length_cons, List.length_nil, List.drop_succ_cons, List.drop_zero, Nat.zero_add] at hs4
  generalize hh4 : h3.put h.blks.length (.cells [.slice a es.length c]) = h4 at c4 d4 a4 k4 hs4
  have l4 : (h4.loadN h.blks.length 0 1).map (fun cs => Value.agg cs.toArray) = some (.agg #[.slice a es.length c]) := by rw [c4.loadN (n := 1) rfl]; rfl
  obtain ⟨h5, e5,Af⟩ := spec_Good a4.se hw (by omega)
  have c5 := c4.ext Af
  have d5 := d4.ext Af
  have a5 : AE h.blks.length h5 (.slice a es.length c) es := a4.same Af.same
  have k5 := k4.trans (Af.inn (Nat.le_trans k4.le k4.len))
  have l5 : (h5.loadN h.blks.length 0 1).map (fun cs => Value.agg cs.toArray) = some (.agg #[.slice a es.length c]) := by rw [c5.loadN (n := 1) rfl]; rfl
  have l5' : h5.load1 h.blks.length 0 = some (.slice a es.length c) := c5.load 0
  refine ⟨a, c, ?_⟩
  cases hg : goodE es with
  | false =>
    rw [hg] at e5
    have d6 := d5.put [.slice a es.length c]
    have l6 : (Heap.loadN (h5.put (h.blks.length + 1) (.cells [.slice a es.length c])) (h.blks.length + 1) 0 1).map (fun cs => Value.agg cs.toArray) = some (.agg #[.slice a es.length c]) := by rw [d6.loadN (n := 1) rfl]; rfl
    have k6 := k5.trans (In.put (S := No) (Nat.le_trans k5.le k5.len) (p := h.blks.length + 1) (.inl (by omega)) (.cells [.slice a es.length c]))
    refine ⟨_, ?_, done_ext' k6, ?_⟩
    rotate_left
    · unfold lessE; rw [hg]; exact (a5.keepPut b2 _).done
    simp -implicitDefEqProofs (disch := omega) only [↓c24_0_eq, bxL, alL, e0, e1, hh, ldL, lA, e3, stL, hs4, l4, e5, l5, storeN_blk d5 (o := 0) (vs := [.slice a es.length c]) (by simp), List.take_zero, List.nil_append, List.append_nil, List.length_cons, List.length_nil, List.drop_succ_cons, List.drop_zero, Nat.zero_add, l6, rvals, ↓ret24, ↓cnd_true, ↓cnd_false, ↓Option.bind_some, ↓obH_some', bin_add, bin_sub, bin_mul, bin_lss, bin_leq, bin_gtr, bin_geq, bin_eql, bin_neq, un_not, un_neg, Option.bind_some, Option.bind_none, Option.map_some, cnd_true, cnd_false, pickV_true, pickV_false, gd_true, gd_false, gdV_true, gdV_false, gdH_true, gdH_false, gdS_true, gdS_false, wt_ff, wt_tt, wt_ft, wt_tf, wt_undef, obH_some', extractV_tuple, nilCheckV_ptr, againK_normal, againK_exit, againK_ret, blockK_normal, blockK_same, blockK_ret, seqK_normal, seqK_exit, seqK_ret, fin_done, if_true', if_false', Bool.not_true, Bool.not_false, idx0, idx1, idx2, idx3, idx4, chk_nil_l, chk_nil_r, done_nm, up_cons, up_nil, cond_true, cond_false, Nat.reduceBEq]
  | true =>
    rw [hg] at e5
    have lp := less_loop (h0 := h) (p2 := h.blks.length) (p4 := h.blks.length + 1) (a := a) (cc := c) hw hto (by omega) (by omega) (by omega) (by omega) b1 b2 es.length 0 (by omega) (by omega)
    have fin' : ∀ {r : Option (Value × Heap)}, (∃ h', r = some (.agg #[.slice a es.length c], done h h') ∧ In h.blks.length No (nm h) h' ∧ AE h.blks.length h' (.slice a es.length c) (es.map (lessF to))) → ∃ h', r = some (.agg #[.slice a es.length c], h') ∧ HExt h h' ∧ AE h.blks.length h' (.slice a es.length c) (lessE es to) := fun ⟨h', q1, q2, q3⟩ => ⟨_, q1, done_ext' q2, by unfold lessE; rw [hg]; exact q3.done⟩
    simp -implicitDefEqProofs (disch := omega) only [↓c24_0_eq, bxL, alL, e0, e1, hh, ldL, lA, e3, stL, hs4, l4, e5, faL, ldEs, l5', lnEs, ↓cnd_true, ↓cnd_false, ↓Option.bind_some, ↓obH_some', bin_add, bin_sub, bin_mul, bin_lss, bin_leq, bin_gtr, bin_geq, bin_eql, bin_neq, un_not, un_neg, Option.bind_some, Option.bind_none, Option.map_some, cnd_true, cnd_false, pickV_true, pickV_false, gd_true, gd_false, gdV_true, gdV_false, gdH_true, gdH_false, gdS_true, gdS_false, wt_ff, wt_tt, wt_ft, wt_tf, wt_undef, obH_some', extractV_tuple, nilCheckV_ptr, againK_normal, againK_exit, againK_ret, blockK_normal, blockK_same, blockK_ret, seqK_normal, seqK_exit, seqK_ret, fin_done, if_true', if_false', Bool.not_true, Bool.not_false, idx0, idx1, idx2, idx3, idx4, chk_nil_l, chk_nil_r, done_nm, up_cons, up_nil, cond_true, cond_false, Nat.reduceBEq]
    refine fin' (lp _ _ k5 ?_ c5 d5 ?_ ?_ ?_ ?_ ?_)
    · rw [lessI_zero]; exact a5
    all_goals rfl
def ofN (d : Int) : Nat := if 0 ≤ d ∧ d < 64 then 2 ^ d.toNat else 0
theorem ofN_lt (d : Int) : ofN d < 2 ^ 64 := by
  unfold ofN
  split
  · exact Nat.pow_lt_pow_right (by omega) (by omega)
  · omega
theorem lnI1 (a : Option Addr) (n c : Nat) (h : Heap) : lenV Try.prog 43 (.slice a n c) h = some (.int .i64 n) := by kernel_rfl
theorem iaI (p c : Nat) : indexAddrV Try.prog 43 (.slice (some ⟨p, 0, none⟩) 1 c) (.int .i64 0) = some (.pointer (some ⟨p, 0, none⟩)) := by kernel_rfl
theorem lsI1 (a : Int) (h : Heap) : buildSliceV Try.prog 43 1 #[(0, .int .i64 a)] h = some (.slice (some ⟨h.blks.length, 0, none⟩) 1 1, h.new (.cells [.int .i64 a]) 3) := by kernel_rfl
theorem or0 (t : TypeId) (xo yo : Operand) (n : Nat) (hn : n < 2 ^ 64) : binV Try.prog .or t xo yo (.int .u64 0) (.int .u64 n) = some (.int .u64 n) := by
  rw [bin_or64 _ _ _ _ _ (by omega) (by omega) (by omega) (by omega), Int.toNat_natCast, show (0 : Int).toNat = 0 from rfl, Nat.zero_or]
theorem spec_Of1 {h : Heap} {p c : Nat} {d : Int} (hc : Cells h p 3 [.int .i64 d]) : evC Try.prog 26 #[.slice (some ⟨p, 0, none⟩) 1 c] h = some (.int .u64 (ofN d : Nat), h) := by
  rw [call26]
  have l0 : (nm h).load1 p 0 = some (.int .i64 d) := hc.nm.load 0
  have w1 : IntKind.i64.wrap (0 + 1) = 1 := rfl
  have c1 : ((1 : Nat) : Int) = 1 := rfl
  unfold ofN
  by_cases h1 : 0 ≤ d
  · by_cases h2 : d < 64
    · rw [if_pos ⟨h1, h2⟩]
      obtain ⟨q, rfl⟩ : ∃ q : Nat, d = q := ⟨d.toNat, by omega⟩
      have hq : 2 ^ q < 2 ^ 64 := Nat.pow_lt_pow_right (by omega) (by omega)
      have e1 := fun t xo yo => shl1 t xo yo q (by omega)
      have e2 := fun t xo yo => or0 t xo yo (2 ^ q) hq
      simp -implicitDefEqProofs (disch := omega) only [↓c26_0_eq, ↓c26_1_eq, ↓c26_2_eq, ↓loopK_eq evC_m, dcT, dcF, lnI1, iaI, ldI, l0, w1, c1, e1, e2, Int.toNat_natCast, ↓ret26, ↓cnd_true, ↓cnd_false, ↓Option.bind_some, ↓obH_some', bin_add, bin_sub, bin_mul, bin_lss, bin_leq, bin_gtr, bin_geq, bin_eql, bin_neq, un_not, un_neg, Option.bind_some, Option.bind_none, Option.map_some, cnd_true, cnd_false, pickV_true, pickV_false, gd_true, gd_false, gdV_true, gdV_false, gdH_true, gdH_false, gdS_true, gdS_false, wt_ff, wt_tt, wt_ft, wt_tf, wt_undef, obH_some', extractV_tuple, nilCheckV_ptr, againK_normal, againK_exit, againK_ret, blockK_normal, blockK_same, blockK_ret, seqK_normal, seqK_exit, seqK_ret, fin_done, if_true', if_false', Bool.not_true, Bool.not_false, idx0, idx1, idx2, idx3, idx4, chk_nil_l, chk_nil_r, done_nm, up_cons, up_nil, cond_true, cond_false, Nat.reduceBEq]
    · rw [if_neg (by omega)]
      simp -implicitDefEqProofs (disch := omega) only [↓c26_0_eq, ↓c26_1_eq, ↓c26_2_eq, ↓loopK_eq evC_m, dcT, dcF, lnI1, iaI, ldI, l0, w1, c1, Int.natCast_zero, ↓ret26, ↓cnd_true, ↓cnd_false, ↓Option.bind_some, ↓obH_some', bin_add, bin_sub, bin_mul, bin_lss, bin_leq, bin_gtr, bin_geq, bin_eql, bin_neq, un_not, un_neg, Option.bind_some, Option.bind_none, Option.map_some, cnd_true, cnd_false, pickV_true, pickV_false, gd_true, gd_false, gdV_true, gdV_false, gdH_true, gdH_false, gdS_true, gdS_false, wt_ff, wt_tt, wt_ft, wt_tf, wt_undef, obH_some', extractV_tuple, nilCheckV_ptr, againK_normal, againK_exit, againK_ret, blockK_normal, blockK_same, blockK_ret, seqK_normal, seqK_exit, seqK_ret, fin_done, if_true', if_false', Bool.not_true, Bool.not_false, idx0, idx1, idx2, idx3, idx4, chk_nil_l, chk_nil_r, done_nm, up_cons, up_nil, cond_true, cond_false, Nat.reduceBEq]
  · rw [if_neg (by omega)]
    simp -implicitDefEqProofs (disch := omega) only [↓c26_0_eq, ↓c26_1_eq, ↓c26_2_eq, ↓loopK_eq evC_m, dcT, dcF, lnI1, iaI, ldI, l0, w1, c1, Int.natCast_zero, ↓ret26, ↓cnd_true, ↓cnd_false, ↓Option.bind_some, ↓obH_some', bin_add, bin_sub, bin_mul, bin_lss, bin_leq, bin_gtr, bin_geq, bin_eql, bin_neq, un_not, un_neg, Option.bind_some, Option.bind_none, Option.map_some, cnd_true, cnd_false, pickV_true, pickV_false, gd_true, gd_false, gdV_true, gdV_false, gdH_true, gdH_false, gdS_true, gdS_false, wt_ff, wt_tt, wt_ft, wt_tf, wt_undef, obH_some', extractV_tuple, nilCheckV_ptr, againK_normal, againK_exit, againK_ret, blockK_normal, blockK_same, blockK_ret, seqK_normal, seqK_exit, seqK_ret, fin_done, if_true', if_false', Bool.not_true, Bool.not_false, idx0, idx1, idx2, idx3, idx4, chk_nil_l, chk_nil_r, done_nm, up_cons, up_nil, cond_true, cond_false, Nat.reduceBEq]
theorem spec_But {h : Heap} {v : Value} {es : List E3} (s : SE h v es) (hw : wide es) (hl : es.length < 2 ^ 39) (to : Nat) (hto : to < 2 ^ 64) (d : Int) :
    ∃ a c h', evC Try.prog 25 #[.agg #[v], .int .u64 to, .int .i64 d] h = some (.agg #[.slice a es.length c], h') ∧ HExt h h' ∧ AE h.blks.length h' (.slice a es.length c) (lessE es (outB to (ofN d))) := by
  rw [call25]
  have c1 := ((Cells.new (nm h) 47 [v]).keepNew (.cells [.slice none 0 0]) 47).keepNew (.cells [.int .i64 d]) 3
  have c2 := (Cells.new ((nm h).new (.cells [v]) 47) 47 [.slice none 0 0]).keepNew (.cells [.int .i64 d]) 3
  have c3 := Cells.new (((nm h).new (.cells [v]) 47).new (.cells [.slice none 0 0]) 47) 3 [.int .i64 d]
  have cA := (Cells.new (nm h) 47 [v]).keepNew (.cells [.slice none 0 0]) 47
  have s2 : SE ((((nm h).new (.cells [v]) 47).new (.cells [.slice none 0 0]) 47).new (.cells [.int .i64 d]) 3) v es := ((s.nm.keepNew _ _).keepNew _ _).keepNew _ _
  have e0 : (nm h).blks.length = h.blks.length := rfl
  have e1 : ((nm h).new (.cells [v]) 47).blks.length = h.blks.length + 1 := by simp [Heap.new]
  have e2 : (((nm h).new (.cells [v]) 47).new (.cells [.slice none 0 0]) 47).blks.length = h.blks.length + 2 := by simp [Heap.new]
  have k2 : In h.blks.length No (nm h) ((((nm h).new (.cells [v]) 47).new (.cells [.slice none 0 0]) 47).new (.cells [.int .i64 d]) 3) := ((In.new (h := nm h) (Nat.le_refl h.blks.length) _ _).trans (In.new (by omega) _ _)).trans (In.new (by omega) _ _)
  have hlen : ((((nm h).new (.cells [v]) 47).new (.cells [.slice none 0 0]) 47).new (.cells [.int .i64 d]) 3).blks.length = h.blks.length + 3 := by simp [Heap.new]
  rw [e0] at c1 cA
  rw [e1] at c2
  rw [e2] at c3
  have lA : (Heap.loadN (((nm h).new (.cells [v]) 47).new (.cells [.slice none 0 0]) 47) h.blks.length 0 1).map (fun cs => Value.agg cs.toArray) = some (.agg #[v]) := by rw [cA.loadN (n := 1) rfl]; rfl
  have eO := spec_Of1 (c := 1) (h := nm ((((nm h).new (.cells [v]) 47).new (.cells [.slice none 0 0]) 47).new (.cells [.int .i64 d]) 3)) c3
  generalize hh : (((nm h).new (.cells [v]) 47).new (.cells [.slice none 0 0]) 47) = hB at e2 k2 hlen lA c1 c2 c3 s2 eO
  generalize hh2 : hB.new (.cells [.int .i64 d]) 3 = h2 at k2 hlen c1 c2 c3 s2 eO
  have an := fun t xo yo => anS t xo yo to (ofN d) hto (ofN_lt d)
  obtain ⟨a, c, h3, e3,Ad, a3⟩ := spec_Less s2 hw hl (outB to (ofN d)) (outB_lt hto)
  have d3 := c2.ext Ad
  have hx3 := Ad.len
  have b2 : blockOf (.slice a es.length c) ≠ some (h.blks.length + 1) := fun e => by have := Acc.ge a3 e; omega
  have d6 := d3.put [.slice a es.length c]
  have l6 : (Heap.loadN (h3.put (h.blks.length + 1) (.cells [.slice a es.length c])) (h.blks.length + 1) 0 1).map (fun cs => Value.agg cs.toArray) = some (.agg #[.slice a es.length c]) := by rw [d6.loadN (n := 1) rfl]; rfl
  have k6 := (k2.trans (Ad.inn (by omega))).trans (In.put (S := No) (by omega) (p := h.blks.length + 1) (.inl (by omega)) (.cells [.slice a es.length c]))
  refine ⟨a, c, _, ?_, done_ext' k6, ((Acc.keepPut a3 b2 _).up (by omega)).done⟩
  simp -implicitDefEqProofs (disch := omega) only [↓c25_0_eq, bxL, alL, e0, e1, e2, hh, ldL, lA, lsI1, hh2, eO, an, am_nm, nm_mods, List.nil_append, e3, stL, storeN_blk d3 (o := 0) (vs := [.slice a es.length c]) (by simp), List.take_zero, List.append_nil, List.length_cons, List.length_nil, List.drop_succ_cons, List.drop_zero, Nat.zero_add, l6, rvals, ↓ret25, ↓cnd_true, ↓cnd_false, ↓Option.bind_some, ↓obH_some', bin_add, bin_sub, bin_mul, bin_lss, bin_leq, bin_gtr, bin_geq, bin_eql, bin_neq, un_not, un_neg, Option.bind_some, Option.bind_none, Option.map_some, cnd_true, cnd_false, pickV_true, pickV_false, gd_true, gd_false, gdV_true, gdV_false, gdH_true, gdH_false, gdS_true, gdS_false, wt_ff, wt_tt, wt_ft, wt_tf, wt_undef, obH_some', extractV_tuple, nilCheckV_ptr, againK_normal, againK_exit, againK_ret, blockK_normal, blockK_same, blockK_ret, seqK_normal, seqK_exit, seqK_ret, fin_done, if_true', if_false', Bool.not_true, Bool.not_false, idx0, idx1, idx2, idx3, idx4, chk_nil_l, chk_nil_r, done_nm, up_cons, up_nil, cond_true, cond_false, Nat.reduceBEq]
end Go.Am
namespace Go.Am
open Go.Proofs
set_option maxRecDepth 100000
set_option linter.all false
attribute [local congr] obind_congr obH_congr cnd_congr chk_congr retK_congr codeK_congr
theorem anU (t : TypeId) (xo yo : Operand) (a b : Nat) (ha : a < 2 ^ 64) (hb : b < 2 ^ 64) : binV Try.prog .and t xo yo (.int .u64 a) (.int .u64 b) = some (.int .u64 ((a &&& b : Nat) : Int)) := by
  rw [bin_and64 _ _ _ _ _ (by omega) (by omega) (by omega) (by omega), Int.toNat_natCast, Int.toNat_natCast]
def bothF (hd : List E3) (x : E3) : Option E3 := if bsF hd x = true then some { x with t := x.t &&& (hd.getD (bsK hd x) default).t } else none
def bothE (own hd : List E3) : List E3 := own.filterMap (bothF hd)
theorem bothE_snoc (a hd : List E3) (e : E3) : bothE (a ++ [e]) hd = bothE a hd ++ (if bsF hd e = true then [{ e with t := e.t &&& (hd.getD (bsK hd e) default).t }] else []) := by
  unfold bothE
  rw [List.filterMap_append]
  congr 1
  unfold bothF
  by_cases h : bsF hd e = true <;> simp [h]
theorem bsK_lt {hd : List E3} {x : E3} (h : bsF hd x = true) : bsK hd x < hd.length := by
  unfold bsF at h
  refine Classical.byContradiction fun hn => ?_
  rw [List.getElem?_eq_none (by omega)] at h
  cases h
theorem var_setT {h : Heap} {p : Nat} {e : E3} (c : Cells h p 57 (entC e)) (t : Nat) : ∃ h', storeV Try.prog 55 (.pointer (some ⟨p, 0 + 2, none⟩)) (.int .u64 t) h = some h' ∧ h' = h.put p (.cells (entC { e with t := t })) := by
  refine ⟨_, ?_, rfl⟩
  rw [stSet, storeN_blk c (by simp [entC])]
  rfl
theorem join_loop {h0 h1 : Heap} {v w : Value} {es fs pre : List E3} {p1 p2 : Nat} (s : SE h1 v es) (s2 : SE h1 w fs) (hst : Srt fs) (hw : wide es) (hw2 : wide fs) (hl : es.length < 2 ^ 37) (hl2 : fs.length < 2 ^ 37) (hlp : pre.length < 2 ^ 38) (hn : h0.blks.length ≤ h1.blks.length) (c1 : Cells h1 p1 47 [w]) (c2 : Cells h1 p2 47 [.slice none 0 0]) (hp2 : h0.blks.length ≤ p2) (hsrt : (srtE (pre ++ bothE es fs)).length = (pre ++ bothE es fs).length) (nA : Nat) (hnA : h0.blks.length ≤ nA) (hnA1 : nA ≤ h1.blks.length) (hvA : ∀ b, blockOf v = some b → b < nA) (hwA : ∀ b, blockOf w = some b → b < nA) (hpA : p1 < nA) (hpA2 : p2 < nA) :
    ∀ (m i : Nat), es.length - i = m → i ≤ es.length → ∀ (x : Nat → Value) (h : Heap) (a : Option Addr) (cc : Nat),In h0.blks.length No (nm h0) h → (∀ b, b < nA → h.blks[b]? = h1.blks[b]?) → h1.blks.length ≤ h.blks.length → AE nA h (.slice a (pre ++ bothE (es.take i) fs).length cc) (pre ++ bothE (es.take i) fs) →
    x 3 = .pointer (some ⟨p1, 0, none⟩) → x 4 = .pointer (some ⟨p2, 0, none⟩) → x 5 = .slice a (pre ++ bothE (es.take i) fs).length cc → x 28 = v → x 29 = .int .i64 es.length → x 30 = .int .i64 i →
    ∃ a' c' h', lK c23_1 61 x h (blockK 0 (sK c23_2 (retK Try.f23 Try.prog h0))) = some (.agg #[.slice a' (srtE (pre ++ bothE es fs)).length c'], done h0 h') ∧ In h0.blks.length No (nm h0) h' ∧ AE nA h' (.slice a' (srtE (pre ++ bothE es fs)).length c') (srtE (pre ++ bothE es fs)) := by
  intro m
  have bl : ∀ i, (bothE (es.take i) fs).length ≤ es.length := fun i => by
    have := List.length_filterMap_le (bothF fs) (es.take i)
    unfold bothE
    rw [List.length_take] at this
    omega
  have s0 : ∀ {h : Heap}, (∀ b, b < nA → h.blks[b]? = h1.blks[b]?) → SE h v es := fun hs => s.keep fun b hb hv => hs b (hvA b hv)
  have t0 : ∀ {h : Heap}, (∀ b, b < nA → h.blks[b]? = h1.blks[b]?) → SE h w fs := fun hs => s2.keep fun b hb hv => hs b (hwA b hv)
  induction m with
  | zero =>
    intro i e1 e2 x h a cc hin hs hs2 ha Ad Ae Af Bd Be Bf
    obtain rfl : i = es.length := by omega
    have b0 := bl es.length
    rw [List.take_length] at ha Af b0
    obtain ⟨h2, q1, q2, q3, q4, q5⟩ := spec_sort (by omega) ha (by rw [List.length_append]; omega) hsrt
    rw [← hsrt] at q1 q2 Af
    have cc2 : Cells h p2 47 [.slice none 0 0] := (hs p2 hpA2).trans c2
    have hb2 : ∀ {w}, blockOf (.slice a w cc) ≠ some p2 := fun {w} e => by
      have := Acc.ge ha (b := p2) (by cases a with | none => cases e | some ad => exact e)
      omega
    have c3 : Cells h2 p2 47 [.slice none 0 0] := (q5 p2 hb2).trans cc2
    have c4 := c3.put [.slice a (srtE (pre ++ bothE es fs)).length cc]
    have l4 : (Heap.loadN (h2.put p2 (.cells [.slice a (srtE (pre ++ bothE es fs)).length cc])) p2 0 1).map (fun cs => Value.agg cs.toArray) = some (.agg #[.slice a (srtE (pre ++ bothE es fs)).length cc]) := by rw [c4.loadN (n := 1) rfl]; rfl
    have i2 := hin.trans (In.dn (q3 No) hnA)
    have i4 := i2.trans (In.put (S := No) (Nat.le_trans i2.le i2.len) (p := p2) (.inl hp2) (.cells [.slice a (srtE (pre ++ bothE es fs)).length cc]))
    rw [lK_eq]
    refine ⟨a, cc, _, ?_, i4, q2.keepPut hb2 _⟩
    simp -implicitDefEqProofs (disch := omega) only [↓c23_1_eq, ↓c23_2_eq,Ad,Ae,Af,Bd,Be,Bf, dcF, q1, bdL, stL, storeN_blk c3 (o := 0) (vs := [.slice a (srtE (pre ++ bothE es fs)).length cc]) (by simp), List.take_zero, List.nil_append, List.append_nil, List.length_cons, List.length_nil, List.drop_succ_cons, List.drop_zero, Nat.zero_add, ldL, l4, rvals, ↓ret23, ↓cnd_true, ↓cnd_false, ↓Option.bind_some, ↓obH_some', bin_add, bin_sub, bin_mul, bin_lss, bin_leq, bin_gtr, bin_geq, bin_eql, bin_neq, un_not, un_neg, Option.bind_some, Option.bind_none, Option.map_some, cnd_true, cnd_false, pickV_true, pickV_false, gd_true, gd_false, gdV_true, gdV_false, gdH_true, gdH_false, gdS_true, gdS_false, wt_ff, wt_tt, wt_ft, wt_tf, wt_undef, obH_some', extractV_tuple, nilCheckV_ptr, againK_normal, againK_exit, againK_ret, blockK_normal, blockK_same, blockK_ret, seqK_normal, seqK_exit, seqK_ret, fin_done, if_true', if_false', Bool.not_true, Bool.not_false, idx0, idx1, idx2, idx3, idx4, chk_nil_l, chk_nil_r, done_nm, up_cons, up_nil, cond_true, cond_false, Nat.reduceBEq]
  | succ m ih =>
    intro i hm hi x h a cc hin hs hs2 ha Ad Ae Af Bd Be Bf
    have hil : i < es.length := by omega
    obtain ⟨b, of, hb, hbl, e1, e2⟩ := s.at' (t := 45) (el := 57) (by kernel_rfl) (by kernel_rfl) hil
    obtain ⟨f1, _⟩ := e2 h (hs b (hvA b hb))
    obtain ⟨hA, hB, a1, a2, a3, a4, a5, a6⟩ := var_ent (n0 := h1.blks.length) hs2 es[i]
    have hsB : ∀ b, b < nA → hB.blks[b]? = h1.blks[b]? := fun b hb => (a5.2 b (by omega)).trans (hs b hb)
    have cB : Cells hB p1 47 [w] := (hsB p1 hpA).trans c1
    have lw : hB.load1 p1 0 = some w := cB.load 0
    obtain ⟨hC, q1, q2⟩ := spec_BS (t0 hsB) hst (by omega) es[i]
    have hsC : ∀ b, b < nA → hC.blks[b]? = h1.blks[b]? := fun b hb => (q2.old b (by have := a5.1; omega)).trans (hsB b hb)
    have hlC : h1.blks.length ≤ hC.blks.length := by have := a5.1; have := q2.len; omega
    have hinC := (hin.trans (In.dn (a4 No) hn)).trans (q2.inn (by have := a5.1; omega))
    have a3C := a3.ext q2
    have lt : hC.load1 h.blks.length (0 + 2) = some (.int .u64 es[i].t) := a3C.load 2
    have haC : AE nA hC (.slice a (pre ++ bothE (es.take i) fs).length cc) (pre ++ bothE (es.take i) fs) := (ha.same a5).same q2.same
    have wi : IntKind.i64.wrap ((i : Int) + 1) = ((i + 1 : Nat) : Int) := by rw [wrap_i64] <;> omega
    have ht : es.take i ++ [es[i]] = es.take (i + 1) := by rw [List.take_succ, List.getElem?_eq_getElem hil]; rfl
    have hsn := bothE_snoc (es.take i) fs es[i]
    rw [ht] at hsn
    have hbi := bl i
    rw [lK_eq]
    cases hbs : bsF fs es[i] with
    | false =>
      rw [hbs] at q1 hsn
      simp only [Bool.false_eq_true, if_false, List.append_nil] at hsn
      rw [← hsn] at haC Af
      simp -implicitDefEqProofs (disch := omega) only [↓c23_1_eq, ↓c23_2_eq,Ad,Bd,Be,Bf, dcT, e1, ldE, f1, Option.map_some, entA, a1, a2, a6, faL, ldEs, lw, q1, wi, ↓cnd_true, ↓cnd_false, ↓Option.bind_some, ↓obH_some', bin_add, bin_sub, bin_mul, bin_lss, bin_leq, bin_gtr, bin_geq, bin_eql, bin_neq, un_not, un_neg, Option.bind_some, Option.bind_none, Option.map_some, cnd_true, cnd_false, pickV_true, pickV_false, gd_true, gd_false, gdV_true, gdV_false, gdH_true, gdH_false, gdS_true, gdS_false, wt_ff, wt_tt, wt_ft, wt_tf, wt_undef, obH_some', extractV_tuple, nilCheckV_ptr, againK_normal, againK_exit, againK_ret, blockK_normal, blockK_same, blockK_ret, seqK_normal, seqK_exit, seqK_ret, fin_done, if_true', if_false', Bool.not_true, Bool.not_false, idx0, idx1, idx2, idx3, idx4, chk_nil_l, chk_nil_r, done_nm, up_cons, up_nil, cond_true, cond_false, Nat.reduceBEq]
      refine ih (i + 1) (by omega) (by omega) _ hC a cc hinC hsC hlC haC ?_ ?_ ?_ ?_ ?_ ?_
      · exact Ad
      · exact Ae
      · exact Af
      · exact Bd
      · exact Be
      · rfl
    | true =>
      rw [hbs] at q1 hsn
      simp only [if_true] at hsn
      have hkl := bsK_lt hbs
      have hgd : fs.getD (bsK fs es[i]) default = fs[bsK fs es[i]] := by rw [List.getD_eq_getElem?_getD, List.getElem?_eq_getElem hkl]; rfl
      rw [hgd] at hsn
      obtain ⟨b', of', hb', hbl', e1', e2'⟩ := s2.at' (t := 45) (el := 57) (by kernel_rfl) (by kernel_rfl) hkl
      obtain ⟨_, _, _, g4⟩ := e2' hC (hsC b' (hwA b' hb'))
      have lw2 : hC.load1 p1 0 = some w := ((show Cells hC p1 47 [w] from (hsC p1 hpA).trans c1)).load 0
      have an := fun t xo yo => anU t xo yo es[i].t fs[bsK fs es[i]].t (hw _ (List.getElem_mem hil)).2 (hw2 _ (List.getElem_mem hkl)).2
      obtain ⟨hD, r1, r2⟩ := var_setT a3C (es[i].t &&& fs[bsK fs es[i]].t)
      subst r2
      have a3D := a3C.put (entC { es[i] with t := es[i].t &&& fs[bsK fs es[i]].t })
      have l3 : (Heap.loadN (hC.put h.blks.length (.cells (entC { es[i] with t := es[i].t &&& fs[bsK fs es[i]].t }))) h.blks.length 0 3).map (fun cs => Value.agg cs.toArray) = some (entV { es[i] with t := es[i].t &&& fs[bsK fs es[i]].t }) := by rw [a3D.loadN (n := 3) rfl]; rfl
      have hsD : ∀ b, b < nA → (hC.put h.blks.length (.cells (entC { es[i] with t := es[i].t &&& fs[bsK fs es[i]].t }))).blks[b]? = h1.blks[b]? := fun b hb => by rw [Heap.put_other (by omega)]; exact hsC b hb
      have hlD : (hC.put h.blks.length (.cells (entC { es[i] with t := es[i].t &&& fs[bsK fs es[i]].t }))).blks.length = hC.blks.length := Heap.put_len _ _ _
      have hinD := hinC.trans (In.put (S := No) (Nat.le_trans hinC.le hinC.len) (p := h.blks.length) (.inl (by omega)) (.cells (entC { es[i] with t := es[i].t &&& fs[bsK fs es[i]].t })))
      have hbh : blockOf (.slice a (pre ++ bothE (es.take i) fs).length cc) ≠ some h.blks.length := fun e => by have := Sl.lt ha.se e; omega
      have haD : AE nA (hC.put h.blks.length (.cells (entC { es[i] with t := es[i].t &&& fs[bsK fs es[i]].t }))) (.slice a (pre ++ bothE (es.take i) fs).length cc) (pre ++ bothE (es.take i) fs) := haC.keepPut hbh _
      generalize hC.put h.blks.length (.cells (entC { es[i] with t := es[i].t &&& fs[bsK fs es[i]].t })) = hD at r1 l3 hsD hlD hinD haD
      obtain ⟨a', c', hE, q6, q7, q8, q9⟩ := app_ent etE (n0 := nA) (by omega) haD { es[i] with t := es[i].t &&& fs[bsK fs es[i]].t } (by rw [List.length_append]; omega)
      rw [List.append_assoc, ← hsn] at q6 q7
      have hsE : ∀ b, b < nA → hE.blks[b]? = h1.blks[b]? := fun b hb => (q9 b (by omega) (Acc.off haD (Nat.le_refl _) hb)).trans (hsD b hb)
      have hinE := hinD.trans (Keeps.inn (S := No) (q8.dn hnA))
      simp -implicitDefEqProofs (disch := omega) only [↓c23_1_eq, ↓c23_2_eq,Ad,Ae,Af,Bd,Be,Bf, dcT, e1, ldE, f1, Option.map_some, entA, a1, a2, a6, faL, ldEs, lw, q1, faE2, ldS, lt, lw2, e1', g4, an, r1, l3, bsE, q6, wi, ↓cnd_true, ↓cnd_false, ↓Option.bind_some, ↓obH_some', bin_add, bin_sub, bin_mul, bin_lss, bin_leq, bin_gtr, bin_geq, bin_eql, bin_neq, un_not, un_neg, Option.bind_some, Option.bind_none, Option.map_some, cnd_true, cnd_false, pickV_true, pickV_false, gd_true, gd_false, gdV_true, gdV_false, gdH_true, gdH_false, gdS_true, gdS_false, wt_ff, wt_tt, wt_ft, wt_tf, wt_undef, obH_some', extractV_tuple, nilCheckV_ptr, againK_normal, againK_exit, againK_ret, blockK_normal, blockK_same, blockK_ret, seqK_normal, seqK_exit, seqK_ret, fin_done, if_true', if_false', Bool.not_true, Bool.not_false, idx0, idx1, idx2, idx3, idx4, chk_nil_l, chk_nil_r, done_nm, up_cons, up_nil, cond_true, cond_false, Nat.reduceBEq]
      refine ih (i + 1) (by omega) (by omega) _ hE a' c' hinE hsE (by have := q8.len; omega) q7 ?_ ?_ ?_ ?_ ?_ ?_
      · exact Ad
      · exact Ae
      · rfl
      · exact Bd
      · exact Be
      · rfl
end Go.Am
namespace Go.Am
open Go.Proofs
set_option maxRecDepth 100000
set_option linter.all false
attribute [local congr] obind_congr obH_congr cnd_congr chk_congr retK_congr codeK_congr
def joinE (own hd : List E3) : List E3 := if goodE own = true ∧ goodE hd = true then srtE (newsE own hd ++ newsE hd own ++ bothE own hd) else own
theorem spec_Join {h : Heap} {v w : Value} {es fs : List E3} (s : SE h v es) (s2 : SE h w fs) (hw : wide es) (hw2 : wide fs) (hl : es.length < 2 ^ 36) (hl2 : fs.length < 2 ^ 36) :
    ∃ a c h', evC Try.prog 23 #[.agg #[v], .agg #[w]] h = some (.agg #[.slice a (joinE es fs).length c], h') ∧ HExt h h' ∧ AE h.blks.length h' (.slice a (joinE es fs).length c) (joinE es fs) := by
  rw [call23]
  have c1 := ((Cells.new (nm h) 47 [v]).keepNew (.cells [w]) 47).keepNew (.cells [.slice none 0 0]) 47
  have c2 := (Cells.new ((nm h).new (.cells [v]) 47) 47 [w]).keepNew (.cells [.slice none 0 0]) 47
  have c3 := Cells.new (((nm h).new (.cells [v]) 47).new (.cells [w]) 47) 47 [.slice none 0 0]
  have s1' : SE ((((nm h).new (.cells [v]) 47).new (.cells [w]) 47).new (.cells [.slice none 0 0]) 47) v es := ((s.nm.keepNew _ _).keepNew _ _).keepNew _ _
  have s2' : SE ((((nm h).new (.cells [v]) 47).new (.cells [w]) 47).new (.cells [.slice none 0 0]) 47) w fs := ((s2.nm.keepNew _ _).keepNew _ _).keepNew _ _
  have e0 : (nm h).blks.length = h.blks.length := rfl
  have e1 : ((nm h).new (.cells [v]) 47).blks.length = h.blks.length + 1 := by simp [Heap.new]
  have e2 : (((nm h).new (.cells [v]) 47).new (.cells [w]) 47).blks.length = h.blks.length + 2 := by simp [Heap.new]
  have k2 : In h.blks.length No (nm h) ((((nm h).new (.cells [v]) 47).new (.cells [w]) 47).new (.cells [.slice none 0 0]) 47) := ((In.new (h := nm h) (Nat.le_refl h.blks.length) _ _).trans (In.new (by omega) _ _)).trans (In.new (by omega) _ _)
  have hlen : ((((nm h).new (.cells [v]) 47).new (.cells [w]) 47).new (.cells [.slice none 0 0]) 47).blks.length = h.blks.length + 3 := by simp [Heap.new]
  rw [e0] at c1
  rw [e1] at c2
  rw [e2] at c3
  generalize hh : ((((nm h).new (.cells [v]) 47).new (.cells [w]) 47).new (.cells [.slice none 0 0]) 47) = h2 at c1 c2 c3 s1' s2' k2 hlen
  have lv : ∀ {h' : Heap}, Same h2 h' → (h'.loadN h.blks.length 0 1).map (fun cs => Value.agg cs.toArray) = some (.agg #[v]) := fun hs => by rw [(c1.same hs).loadN (n := 1) rfl]; rfl
  have lw : ∀ {h' : Heap}, Same h2 h' → (h'.loadN (h.blks.length + 1) 0 1).map (fun cs => Value.agg cs.toArray) = some (.agg #[w]) := fun hs => by rw [(c2.same hs).loadN (n := 1) rfl]; rfl
  obtain ⟨h3, q3,Ad⟩ := spec_Good s1' hw (by omega)
  have s3 := Ad.same
  have hx3 := Ad.len
  have k3 := k2.trans (Ad.inn (by omega))
  -- a log that may not be: its copy
  have bad : ∀ {h4 : Heap}, Same h2 h4 → In h.blks.length No (nm h) h4 → ∃ a c h5 h6, evC Try.prog 49 #[.agg #[v]] h4 = some (.agg #[.slice a es.length c], h5) ∧ storeV Try.prog 47 (.pointer (some ⟨h.blks.length + 2, 0, none⟩)) (.agg #[.slice a es.length c]) h5 = some h6 ∧ (h6.loadN (h.blks.length + 2) 0 1).map (fun cs => Value.agg cs.toArray) = some (.agg #[.slice a es.length c]) ∧ In h.blks.length No (nm h) h6 ∧ AE h.blks.length h6 (.slice a es.length c) es := fun {h4} hs hk => by
    obtain ⟨a, c, h5, g1, g2, g3⟩ := spec_clone (s1'.same hs) (by omega)
    have d5 := (c3.same hs).ext g2
    have d6 := d5.put [.slice a es.length c]
    have hs' := hs.1
    have hg2 := g2.len
    refine ⟨a, c, h5, h5.put (h.blks.length + 2) (.cells [.slice a es.length c]), g1, ?_, ?_, (hk.trans (g2.inn (by omega))).trans (In.put (by omega) (.inl (by omega)) _), (Acc.keepPut g3 (fun e => by have := Acc.ge g3 e; omega) _).up (by omega)⟩
    · rw [stL, storeN_blk d5 (by simp)]; rfl
    · rw [d6.loadN (n := 1) rfl]; rfl
  cases hg : goodE es with
  | false =>
    rw [hg] at q3
    obtain ⟨a, c, h5, h6, g1, g2, g3, g4, g5⟩ := bad s3 k3
    have hj : joinE es fs = es := by unfold joinE; rw [if_neg (by simp [hg])]
    rw [hj]
    refine ⟨a, c, _, ?_, done_ext' g4, g5.done⟩
    simp -implicitDefEqProofs (disch := omega) only [↓c23_0_eq, bxL, alL, e0, e1, e2, hh, ldL, lv (Same.refl _), q3, lv s3, g1, g2, g3, rvals, ↓ret23, ↓cnd_true, ↓cnd_false, ↓Option.bind_some, ↓obH_some', bin_add, bin_sub, bin_mul, bin_lss, bin_leq, bin_gtr, bin_geq, bin_eql, bin_neq, un_not, un_neg, Option.bind_some, Option.bind_none, Option.map_some, cnd_true, cnd_false, pickV_true, pickV_false, gd_true, gd_false, gdV_true, gdV_false, gdH_true, gdH_false, gdS_true, gdS_false, wt_ff, wt_tt, wt_ft, wt_tf, wt_undef, obH_some', extractV_tuple, nilCheckV_ptr, againK_normal, againK_exit, againK_ret, blockK_normal, blockK_same, blockK_ret, seqK_normal, seqK_exit, seqK_ret, fin_done, if_true', if_false', Bool.not_true, Bool.not_false, idx0, idx1, idx2, idx3, idx4, chk_nil_l, chk_nil_r, done_nm, up_cons, up_nil, cond_true, cond_false, Nat.reduceBEq]
  | true =>
    rw [hg] at q3
    obtain ⟨h4, q4,Ae⟩ := spec_Good (s2'.same s3) hw2 (by omega)
    have s4 := s3.trans Ae.same
    have hx4 := Ae.len
    have k4 := k3.trans (Ae.inn (by omega))
    cases hg2 : goodE fs with
    | false =>
      rw [hg2] at q4
      obtain ⟨a, c, h5, h6, g1, g2, g3, g4, g5⟩ := bad s4 k4
      have hj : joinE es fs = es := by unfold joinE; rw [if_neg (by simp [hg2])]
      rw [hj]
      refine ⟨a, c, _, ?_, done_ext' g4, g5.done⟩
      simp -implicitDefEqProofs (disch := omega) only [↓c23_0_eq, bxL, alL, e0, e1, e2, hh, ldL, lv (Same.refl _), q3, lw s3, q4, lv s4, g1, g2, g3, rvals, ↓ret23, ↓cnd_true, ↓cnd_false, ↓Option.bind_some, ↓obH_some', bin_add, bin_sub, bin_mul, bin_lss, bin_leq, bin_gtr, bin_geq, bin_eql, bin_neq, un_not, un_neg, Option.bind_some, Option.bind_none, Option.map_some, cnd_true, cnd_false, pickV_true, pickV_false, gd_true, gd_false, gdV_true, gdV_false, gdH_true, gdH_false, gdS_true, gdS_false, wt_ff, wt_tt, wt_ft, wt_tf, wt_undef, obH_some', extractV_tuple, nilCheckV_ptr, againK_normal, againK_exit, againK_ret, blockK_normal, blockK_same, blockK_ret, seqK_normal, seqK_exit, seqK_ret, fin_done, if_true', if_false', Bool.not_true, Bool.not_false, idx0, idx1, idx2, idx3, idx4, chk_nil_l, chk_nil_r, done_nm, up_cons, up_nil, cond_true, cond_false, Nat.reduceBEq]
    | true =>
      rw [hg2] at q4
      have g1 := ((goodE_iff es).1 hg).2
      have g2 := ((goodE_iff fs).1 hg2).2
      obtain ⟨a5, c5, h5, q5,Af, r5⟩ := spec_news (h := nm h4) (s1'.same s4).nm (s2'.same s4).nm g2 (by omega) (by omega)
      obtain ⟨Af', m5⟩ := Af.amx
      have r5' : AE h4.blks.length (am h5 h4) (.slice a5 (newsE es fs).length c5) (newsE es fs) := Acc.keep r5 fun _ _ _ => rfl
      have s5 := s4.trans Af'.same
      have hx5 := Af'.len
      obtain ⟨a6, c6, h6, q6,Ag, r6⟩ := spec_news (h := am h5 h4) (s2'.same s5) (s1'.same s5) g1 (by omega) (by omega)
      have s6 := s5.trans Ag.same
      have hx6 := Ag.len
      have nl : ∀ a b, (newsE a b).length ≤ a.length := fun a b => List.length_filter_le _ _
      have n1 := nl es fs
      have n2 := nl fs es
      obtain ⟨a7, c7, h7, q7, r7,Ah, o7, _⟩ := app_ents etE etE.under (n0 := h4.blks.length) (h := h6) (by omega) (Acc.same r5' Ag.same) (AE.se r6) (by omega)
      have k7 := (((k4.trans (Af'.inn (by omega))).trans (Ag.inn (by omega))).trans (Keeps.inn (S := No) (Ah.dn (by omega))))
      have s7 : Same h2 h7 := ⟨by have := Ah.len; omega, fun q hq => (o7 q (by omega) (Acc.off r5' (n1 := h2.blks.length) (by omega) hq)).trans (s6.2 q hq)⟩
      have l7 : h7.load1 h.blks.length 0 = some v := (c1.same s7).load 0
      have hj : joinE es fs = srtE (newsE es fs ++ newsE fs es ++ bothE es fs) := by unfold joinE; rw [if_pos ⟨hg, hg2⟩]
      rw [hj]
      obtain ⟨va, vc, rfl⟩ := s.shape
      have hlt7 := s7.1
      have r7' : AE h4.blks.length h7 (.slice a7 (newsE es fs ++ newsE fs es ++ bothE (es.take 0) fs).length c7) (newsE es fs ++ newsE fs es ++ bothE (es.take 0) fs) := by
        rw [List.take_zero]; show AE _ _ (.slice a7 (newsE es fs ++ newsE fs es ++ []).length c7) (newsE es fs ++ newsE fs es ++ []); rw [List.append_nil]; exact r7
      have lp := join_loop (h0 := h) (h1 := h7) (p1 := h.blks.length + 1) (p2 := h.blks.length + 2) (pre := newsE es fs ++ newsE fs es) (s1'.same s7) (s2'.same s7) g2 hw hw2 (by omega) (by omega) (by rw [List.length_append]; omega) (by omega) (c2.same s7) (c3.same s7) (by omega) (srtE_len _) h4.blks.length (by omega) (by have := Ah.len; omega) (fun b hb => by have := Sl.lt s1' hb; omega) (fun b hb => by have := Sl.lt s2' hb; omega) (by omega) (by omega) es.length 0 (by omega) (by omega)
      have fin' : ∀ {r : Option (Value × Heap)}, (∃ a c h', r = some (.agg #[.slice a (srtE (newsE es fs ++ newsE fs es ++ bothE es fs)).length c], done h h') ∧ In h.blks.length No (nm h) h' ∧ AE h4.blks.length h' (.slice a (srtE (newsE es fs ++ newsE fs es ++ bothE es fs)).length c) (srtE (newsE es fs ++ newsE fs es ++ bothE es fs))) → ∃ a c h', r = some (.agg #[.slice a (srtE (newsE es fs ++ newsE fs es ++ bothE es fs)).length c], h') ∧ HExt h h' ∧ AE h.blks.length h' (.slice a (srtE (newsE es fs ++ newsE fs es ++ bothE es fs)).length c) (srtE (newsE es fs ++ newsE fs es ++ bothE es fs)) := fun ⟨a, c, h', g1, g2, g3⟩ => ⟨a, c, _, g1, done_ext' g2, (Acc.up g3 (by omega)).done⟩
      simp -implicitDefEqProofs (disch := omega) only [↓c23_0_eq, bxL, alL, e0, e1, e2, hh, ldL, lv (Same.refl _), q3, lw s3, q4, lv s4, lw s4, q5, m5, lw s5, lv s5, q6, q7, List.nil_append, faL, ldEs, l7, lnEs, ↓cnd_true, ↓cnd_false, ↓Option.bind_some, ↓obH_some', bin_add, bin_sub, bin_mul, bin_lss, bin_leq, bin_gtr, bin_geq, bin_eql, bin_neq, un_not, un_neg, Option.bind_some, Option.bind_none, Option.map_some, cnd_true, cnd_false, pickV_true, pickV_false, gd_true, gd_false, gdV_true, gdV_false, gdH_true, gdH_false, gdS_true, gdS_false, wt_ff, wt_tt, wt_ft, wt_tf, wt_undef, obH_some', extractV_tuple, nilCheckV_ptr, againK_normal, againK_exit, againK_ret, blockK_normal, blockK_same, blockK_ret, seqK_normal, seqK_exit, seqK_ret, fin_done, if_true', if_false', Bool.not_true, Bool.not_false, idx0, idx1, idx2, idx3, idx4, chk_nil_l, chk_nil_r, done_nm, up_cons, up_nil, cond_true, cond_false, Nat.reduceBEq]
      refine fin' (lp _ _ a7 c7 k7 (fun _ _ => rfl) (Nat.le_refl _) r7' ?_ ?_ ?_ ?_ ?_ ?_)
      · rfl
      · rfl
      · rw [List.take_zero]; show Value.slice a7 (newsE es fs ++ newsE fs es).length c7 = Value.slice a7 (newsE es fs ++ newsE fs es ++ []).length c7; rw [List.append_nil]
      all_goals rfl
end Go.Am
namespace Go.Am
open Go.Proofs
set_option maxRecDepth 100000
set_option linter.all false
attribute [local congr] obind_congr obH_congr cnd_congr chk_congr retK_congr codeK_congr
def purgeL : List E3 → List E3
  | [] => []
  | [e] => [e]
  | e :: e' :: l => if e.t ≠ 0 ∨ e'.f ≠ e.f then e :: purgeL (e' :: l) else purgeL (e' :: l)
theorem purgeL_two (e e' : E3) (l : List E3) : purgeL (e :: e' :: l) = if e.t ≠ 0 ∨ e'.f ≠ e.f then e :: purgeL (e' :: l) else purgeL (e' :: l) := by rw [purgeL]
theorem purgeL_len : ∀ l : List E3, (purgeL l).length ≤ l.length
  | [] => Nat.le_refl _
  | [e] => Nat.le_refl _
  | e :: e' :: l => by
    have := purgeL_len (e' :: l)
    unfold purgeL
    split
    · simp at *; omega
    · simp at *; omega
def purgeE (es : List E3) : List E3 := if goodE es then purgeL es else es
theorem purge_loop {h0 h1 : Heap} {v : Value} {es : List E3} {p1 p2 : Nat} (s : SE h1 v es) (hl : es.length < 2 ^ 38) (c1 : Cells h1 p1 47 [v]) (c2 : Cells h1 p2 47 [.slice none 0 0]) (hp2 : h0.blks.length ≤ p2) (hn1 : p2 < h1.blks.length) (hn0 : h0.blks.length ≤ h1.blks.length) :
    ∀ (m i : Nat), es.length - i = m → i ≤ es.length → ∀ (x : Nat → Value) (h : Heap) (a : Option Addr) (c : Nat) (o : List E3),In h0.blks.length No (nm h0) h → Same h1 h → AE h1.blks.length h (.slice a o.length c) o → o ++ purgeL (es.drop i) = purgeL es →
    x 1 = .pointer (some ⟨p1, 0, none⟩) → x 2 = .pointer (some ⟨p2, 0, none⟩) → x 3 = .slice a o.length c → x 13 = v → x 14 = .int .i64 es.length → x 15 = .int .i64 i →
    ∃ a' c' h', lK c20_1 50 x h (blockK 0 (sK c20_2 (retK Try.f20 Try.prog h0))) = some (.agg #[.slice a' (purgeL es).length c'], done h0 h') ∧ In h0.blks.length No (nm h0) h' ∧ AE h1.blks.length h' (.slice a' (purgeL es).length c') (purgeL es) := by
  intro m
  have hpl := purgeL_len es
  induction m with
  | zero =>
    intro i e1 e2 x h a c o hin hs ha ho Ab Ac Ad Ao Ap Aq
    obtain rfl : i = es.length := by omega
    rw [List.drop_length] at ho
    simp only [purgeL, List.append_nil] at ho
    subst ho
    have c2' := c2.same hs
    have c5 := c2'.put [.slice a (purgeL es).length c]
    have hb : blockOf (.slice a (purgeL es).length c) ≠ some p2 := fun e => by have := Acc.ge ha e; omega
    have l5 : (Heap.loadN (h.put p2 (.cells [.slice a (purgeL es).length c])) p2 0 1).map (fun cs => Value.agg cs.toArray) = some (.agg #[.slice a (purgeL es).length c]) := by rw [c5.loadN (n := 1) rfl]; rfl
    have i5 := hin.trans (In.put (S := No) (Nat.le_trans hin.le hin.len) (p := p2) (.inl hp2) (.cells [.slice a (purgeL es).length c]))
    rw [lK_eq]
    refine ⟨a, c, _, ?_, i5, ha.keepPut hb _⟩
    simp -implicitDefEqProofs (disch := omega) only [↓c20_1_eq, ↓c20_2_eq,Ab,Ac,Ad,Ao,Ap,Aq, dcF, bdL, stL, storeN_blk c2' (o := 0) (vs := [.slice a (purgeL es).length c]) (by simp), List.take_zero, List.nil_append, List.append_nil, List.length_cons, List.length_nil, List.drop_succ_cons, List.drop_zero, Nat.zero_add, ldL, l5, rvals, ↓ret20, ↓cnd_true, ↓cnd_false, ↓Option.bind_some, ↓obH_some', bin_add, bin_sub, bin_mul, bin_lss, bin_leq, bin_gtr, bin_geq, bin_eql, bin_neq, un_not, un_neg, Option.bind_some, Option.bind_none, Option.map_some, cnd_true, cnd_false, pickV_true, pickV_false, gd_true, gd_false, gdV_true, gdV_false, gdH_true, gdH_false, gdS_true, gdS_false, wt_ff, wt_tt, wt_ft, wt_tf, wt_undef, obH_some', extractV_tuple, nilCheckV_ptr, againK_normal, againK_exit, againK_ret, blockK_normal, blockK_same, blockK_ret, seqK_normal, seqK_exit, seqK_ret, fin_done, if_true', if_false', Bool.not_true, Bool.not_false, idx0, idx1, idx2, idx3, idx4, chk_nil_l, chk_nil_r, done_nm, up_cons, up_nil, cond_true, cond_false, Nat.reduceBEq]
  | succ m ih =>
    intro i hm hi x h a c o hin hs ha ho Ab Ac Ad Ao Ap Aq
    have hil : i < es.length := by omega
    obtain ⟨b, of, hb, hbl, e1, e2⟩ := s.at' (t := 45) (el := 57) (by kernel_rfl) (by kernel_rfl) hil
    obtain ⟨f1, f2, f3, f4⟩ := e2 h (hs.2 b hbl)
    have hnh : h1.blks.length ≤ h.blks.length := hs.1
    obtain ⟨hA, hB, a1, a2, a3, a4, a5, a6⟩ := var_ent (n0 := h1.blks.length) hnh es[i]
    have hsB := hs.trans a5
    have hinB := hin.trans (In.dn (a4 No) hn0)
    have lB : hB.load1 p1 0 = some v := (c1.same hsB).load 0
    have lf : hB.load1 h.blks.length 0 = some (.int .i64 es[i].f) := a3.load 0
    have lt : hB.load1 h.blks.length (0 + 2) = some (.int .u64 es[i].t) := a3.load 2
    obtain ⟨va, vc, rfl⟩ := s.shape
    have wi : IntKind.i64.wrap ((i : Int) + 1) = ((i + 1 : Nat) : Int) := by rw [wrap_i64] <;> omega
    have wl : IntKind.i64.wrap ((es.length : Int) - 1) = ((es.length - 1 : Nat) : Int) := by rw [wrap_i64] <;> omega
    have hol : o.length < 2 ^ 39 := by
      have := congrArg List.length ho
      rw [List.length_append] at this; omega
    obtain ⟨a', c', hD, q1, q2, q3, q4⟩ := app_ent etE (n0 := h1.blks.length) (Nat.le_trans hnh a5.1) (ha.same a5) es[i] hol
    have hsD : Same h1 hD := ⟨Nat.le_trans hsB.1 q3.len, fun q hq => (q4 q (Nat.lt_of_lt_of_le hq hsB.1) (fun e => by have := Acc.ge ha e; omega)).trans (hsB.2 q hq)⟩
    have hinD := hinB.trans (Keeps.inn (S := No) (q3.dn hn0))
    by_cases hlast : i + 1 = es.length
    · have ho' : (o ++ [es[i]]) ++ purgeL (es.drop (i + 1)) = purgeL es := by
        rw [← ho, List.drop_eq_getElem_cons hil, hlast, List.drop_length]; simp [purgeL]
      have d1 : decide ((i : Int) = ((es.length - 1 : Nat) : Int)) = true := decide_eq_true (by omega)
      by_cases ht : es[i].t = 0
      · have d0 : decide ((es[i].t : Int) ≠ 0) = false := decide_eq_false (by omega)
        rw [lK_eq]
        simp -implicitDefEqProofs (disch := omega) only [↓c20_1_eq, ↓c20_2_eq,Ab,Ac,Ad,Ao,Ap,Aq, dcT, e1, ldE, f1, Option.map_some, entA, a1, a2, a6, faE0, faE2, ldS, lt, d0, faL, ldEs, lB, lnEs, wl, d1, bsE, q1, wi, ↓cnd_true, ↓cnd_false, ↓Option.bind_some, ↓obH_some', bin_add, bin_sub, bin_mul, bin_lss, bin_leq, bin_gtr, bin_geq, bin_eql, bin_neq, un_not, un_neg, Option.bind_some, Option.bind_none, Option.map_some, cnd_true, cnd_false, pickV_true, pickV_false, gd_true, gd_false, gdV_true, gdV_false, gdH_true, gdH_false, gdS_true, gdS_false, wt_ff, wt_tt, wt_ft, wt_tf, wt_undef, obH_some', extractV_tuple, nilCheckV_ptr, againK_normal, againK_exit, againK_ret, blockK_normal, blockK_same, blockK_ret, seqK_normal, seqK_exit, seqK_ret, fin_done, if_true', if_false', Bool.not_true, Bool.not_false, idx0, idx1, idx2, idx3, idx4, chk_nil_l, chk_nil_r, done_nm, up_cons, up_nil, cond_true, cond_false, Nat.reduceBEq]
        exact ih (i + 1) (by omega) (by omega) (up _ _) hD a' c' _ hinD hsD q2 ho' Ab Ac rfl Ao Ap rfl
      · have d0 : decide ((es[i].t : Int) ≠ 0) = true := decide_eq_true (by omega)
        rw [lK_eq]
        simp -implicitDefEqProofs (disch := omega) only [↓c20_1_eq, ↓c20_2_eq,Ab,Ac,Ad,Ao,Ap,Aq, dcT, e1, ldE, f1, Option.map_some, entA, a1, a2, a6, faE0, faE2, ldS, lt, d0, faL, ldEs, lB, lnEs, wl, d1, bsE, q1, wi, ↓cnd_true, ↓cnd_false, ↓Option.bind_some, ↓obH_some', bin_add, bin_sub, bin_mul, bin_lss, bin_leq, bin_gtr, bin_geq, bin_eql, bin_neq, un_not, un_neg, Option.bind_some, Option.bind_none, Option.map_some, cnd_true, cnd_false, pickV_true, pickV_false, gd_true, gd_false, gdV_true, gdV_false, gdH_true, gdH_false, gdS_true, gdS_false, wt_ff, wt_tt, wt_ft, wt_tf, wt_undef, obH_some', extractV_tuple, nilCheckV_ptr, againK_normal, againK_exit, againK_ret, blockK_normal, blockK_same, blockK_ret, seqK_normal, seqK_exit, seqK_ret, fin_done, if_true', if_false', Bool.not_true, Bool.not_false, idx0, idx1, idx2, idx3, idx4, chk_nil_l, chk_nil_r, done_nm, up_cons, up_nil, cond_true, cond_false, Nat.reduceBEq]
        exact ih (i + 1) (by omega) (by omega) (up _ _) hD a' c' _ hinD hsD q2 ho' Ab Ac rfl Ao Ap rfl
    · have hin1 : i + 1 < es.length := by omega
      have d1 : decide ((i : Int) = ((es.length - 1 : Nat) : Int)) = false := decide_eq_false (by omega)
      obtain ⟨b', of', hb', hbl', e1', e2'⟩ := s.at' (t := 45) (el := 57) (by kernel_rfl) (by kernel_rfl) hin1
      obtain ⟨_, f2', _⟩ := e2' hB (hsB.2 b' hbl')
      have hdr : es.drop i = es[i] :: es[i + 1] :: es.drop (i + 2) := by rw [List.drop_eq_getElem_cons hil, List.drop_eq_getElem_cons hin1]
      by_cases hk : es[i].t ≠ 0 ∨ es[i + 1].f ≠ es[i].f
      · have ho' : (o ++ [es[i]]) ++ purgeL (es.drop (i + 1)) = purgeL es := by
          rw [← ho, hdr, List.drop_eq_getElem_cons hin1, purgeL_two es[i], if_pos hk, List.append_assoc]; rfl
        by_cases ht : es[i].t = 0
        · have hf : es[i + 1].f ≠ es[i].f := hk.resolve_left (fun h => h ht)
          have d0 : decide ((es[i].t : Int) ≠ 0) = false := decide_eq_false (by omega)
          rw [lK_eq]
          simp -implicitDefEqProofs (disch := omega) only [↓c20_1_eq, ↓c20_2_eq,Ab,Ac,Ad,Ao,Ap,Aq, dcT, e1, ldE, f1, Option.map_some, entA, a1, a2, a6, faE0, faE2, ldS, lt, d0, faL, ldEs, lB, lnEs, wl, d1, wi, e1', ldI, f2', lf, decide_eq_true hf, bsE, q1, ↓cnd_true, ↓cnd_false, ↓Option.bind_some, ↓obH_some', bin_add, bin_sub, bin_mul, bin_lss, bin_leq, bin_gtr, bin_geq, bin_eql, bin_neq, un_not, un_neg, Option.bind_some, Option.bind_none, Option.map_some, cnd_true, cnd_false, pickV_true, pickV_false, gd_true, gd_false, gdV_true, gdV_false, gdH_true, gdH_false, gdS_true, gdS_false, wt_ff, wt_tt, wt_ft, wt_tf, wt_undef, obH_some', extractV_tuple, nilCheckV_ptr, againK_normal, againK_exit, againK_ret, blockK_normal, blockK_same, blockK_ret, seqK_normal, seqK_exit, seqK_ret, fin_done, if_true', if_false', Bool.not_true, Bool.not_false, idx0, idx1, idx2, idx3, idx4, chk_nil_l, chk_nil_r, done_nm, up_cons, up_nil, cond_true, cond_false, Nat.reduceBEq]
          exact ih (i + 1) (by omega) (by omega) (up _ _) hD a' c' _ hinD hsD q2 ho' Ab Ac rfl Ao Ap rfl
        · have d0 : decide ((es[i].t : Int) ≠ 0) = true := decide_eq_true (by omega)
          rw [lK_eq]
          simp -implicitDefEqProofs (disch := omega) only [↓c20_1_eq, ↓c20_2_eq,Ab,Ac,Ad,Ao,Ap,Aq, dcT, e1, ldE, f1, Option.map_some, entA, a1, a2, a6, faE0, faE2, ldS, lt, d0, bsE, q1, wi, ↓cnd_true, ↓cnd_false, ↓Option.bind_some, ↓obH_some', bin_add, bin_sub, bin_mul, bin_lss, bin_leq, bin_gtr, bin_geq, bin_eql, bin_neq, un_not, un_neg, Option.bind_some, Option.bind_none, Option.map_some, cnd_true, cnd_false, pickV_true, pickV_false, gd_true, gd_false, gdV_true, gdV_false, gdH_true, gdH_false, gdS_true, gdS_false, wt_ff, wt_tt, wt_ft, wt_tf, wt_undef, obH_some', extractV_tuple, nilCheckV_ptr, againK_normal, againK_exit, againK_ret, blockK_normal, blockK_same, blockK_ret, seqK_normal, seqK_exit, seqK_ret, fin_done, if_true', if_false', Bool.not_true, Bool.not_false, idx0, idx1, idx2, idx3, idx4, chk_nil_l, chk_nil_r, done_nm, up_cons, up_nil, cond_true, cond_false, Nat.reduceBEq]
          exact ih (i + 1) (by omega) (by omega) (up _ _) hD a' c' _ hinD hsD q2 ho' Ab Ac rfl Ao Ap rfl
      · have ht : es[i].t = 0 := Classical.byContradiction fun h => hk (.inl h)
        have hf : es[i + 1].f = es[i].f := Classical.byContradiction fun h => hk (.inr h)
        have d0 : decide ((es[i].t : Int) ≠ 0) = false := decide_eq_false (by omega)
        have d2 : decide (es[i + 1].f ≠ es[i].f) = false := decide_eq_false (fun h => h hf)
        have ho' : o ++ purgeL (es.drop (i + 1)) = purgeL es := by
          rw [← ho, hdr, List.drop_eq_getElem_cons hin1, purgeL_two es[i], if_neg hk]
        rw [lK_eq]
        simp -implicitDefEqProofs (disch := omega) only [↓c20_1_eq, ↓c20_2_eq,Ab,Ac,Ad,Ao,Ap,Aq, dcT, e1, ldE, f1, Option.map_some, entA, a1, a2, a6, faE0, faE2, ldS, lt, d0, faL, ldEs, lB, lnEs, wl, d1, wi, e1', ldI, f2', lf, d2, ↓cnd_true, ↓cnd_false, ↓Option.bind_some, ↓obH_some', bin_add, bin_sub, bin_mul, bin_lss, bin_leq, bin_gtr, bin_geq, bin_eql, bin_neq, un_not, un_neg, Option.bind_some, Option.bind_none, Option.map_some, cnd_true, cnd_false, pickV_true, pickV_false, gd_true, gd_false, gdV_true, gdV_false, gdH_true, gdH_false, gdS_true, gdS_false, wt_ff, wt_tt, wt_ft, wt_tf, wt_undef, obH_some', extractV_tuple, nilCheckV_ptr, againK_normal, againK_exit, againK_ret, blockK_normal, blockK_same, blockK_ret, seqK_normal, seqK_exit, seqK_ret, fin_done, if_true', if_false', Bool.not_true, Bool.not_false, idx0, idx1, idx2, idx3, idx4, chk_nil_l, chk_nil_r, done_nm, up_cons, up_nil, cond_true, cond_false, Nat.reduceBEq]
        exact ih (i + 1) (by omega) (by omega) (up _ _) hB a c _ hinB hsB (ha.same a5) ho' Ab Ac Ad Ao Ap rfl
theorem spec_Purge {h : Heap} {v : Value} {es : List E3} (s : SE h v es) (hw : wide es) (hl : es.length < 2 ^ 38) :
    ∃ a c h', evC Try.prog 20 #[.agg #[v]] h = some (.agg #[.slice a (purgeE es).length c], h') ∧ HExt h h' ∧ AE h.blks.length h' (.slice a (purgeE es).length c) (purgeE es) := by
  rw [call20]
  have c1 := (Cells.new (nm h) 47 [v]).keepNew (.cells [.slice none 0 0]) 47
  have c2 := Cells.new ((nm h).new (.cells [v]) 47) 47 [.slice none 0 0]
  have s2 : SE (((nm h).new (.cells [v]) 47).new (.cells [.slice none 0 0]) 47) v es := (s.nm.keepNew _ _).keepNew _ _
  have k2 : In h.blks.length No (nm h) (((nm h).new (.cells [v]) 47).new (.cells [.slice none 0 0]) 47) := (In.new (h := nm h) (Nat.le_refl h.blks.length) _ _).trans (In.new (by simp [Heap.new]) _ _)
  have e0 : (nm h).blks.length = h.blks.length := rfl
  have e1 : ((nm h).new (.cells [v]) 47).blks.length = h.blks.length + 1 := by simp [Heap.new]
  rw [e0] at c1
  rw [e1] at c2
  have hlen : (((nm h).new (.cells [v]) 47).new (.cells [.slice none 0 0]) 47).blks.length = h.blks.length + 2 := by simp [Heap.new]
  generalize hh : (((nm h).new (.cells [v]) 47).new (.cells [.slice none 0 0]) 47) = h2 at c1 c2 s2 k2 hlen
  have lA : (h2.loadN h.blks.length 0 1).map (fun cs => Value.agg cs.toArray) = some (.agg #[v]) := by rw [c1.loadN (n := 1) rfl]; rfl
  obtain ⟨a, c, h3, e3,Ad, a3⟩ := spec_clone s2 (by omega)
  have c3 := c1.ext Ad
  have d3 := c2.ext Ad
  have hx3 := Ad.len
  have b1 : blockOf (.slice a es.length c) ≠ some h.blks.length := fun e => by have := a3.ge e; omega
  have b2 : blockOf (.slice a es.length c) ≠ some (h.blks.length + 1) := fun e => by have := a3.ge e; omega
  have c4 := c3.put [.slice a es.length c]
  have d4 : Cells (h3.put h.blks.length (.cells [.slice a es.length c])) (h.blks.length + 1) 47 [.slice none 0 0] := d3.keepPut (by omega) _
  have a4 : AE h.blks.length (h3.put h.blks.length (.cells [.slice a es.length c])) (.slice a es.length c) es := (a3.keepPut b1 _).up (by omega)
  have k4 := (k2.trans (Ad.inn (by omega))).trans (In.put (S := No) (by omega) (p := h.blks.length) (.inl (by omega)) (.cells [.slice a es.length c]))
  have hs4 := storeN_blk c3 (o := 0) (vs := [.slice a es.length c]) (by simp)
  have hl4 : (h3.put h.blks.length (.cells [.slice a es.length c])).blks.length = h3.blks.length := Heap.put_len _ _ _
  simp only [List.take_zero, List.nil_append, List.append_nil, List.length_cons, List.length_nil, List.drop_succ_cons, List.drop_zero, Nat.zero_add] at hs4
  generalize hh4 : h3.put h.blks.length (.cells [.slice a es.length c]) = h4 at c4 d4 a4 k4 hs4 hl4
  have l4 : (h4.loadN h.blks.length 0 1).map (fun cs => Value.agg cs.toArray) = some (.agg #[.slice a es.length c]) := by rw [c4.loadN (n := 1) rfl]; rfl
  obtain ⟨h5, e5,Af⟩ := spec_Good a4.se hw (by omega)
  have c5 := c4.ext Af
  have d5 := d4.ext Af
  have hx5 := Af.len
  have a5 : AE h.blks.length h5 (.slice a es.length c) es := a4.same Af.same
  have k5 := k4.trans (Af.inn (Nat.le_trans k4.le k4.len))
  have l5 : (h5.loadN h.blks.length 0 1).map (fun cs => Value.agg cs.toArray) = some (.agg #[.slice a es.length c]) := by rw [c5.loadN (n := 1) rfl]; rfl
  have l5' : h5.load1 h.blks.length 0 = some (.slice a es.length c) := c5.load 0
  unfold purgeE
  cases hg : goodE es with
  | false =>
    rw [hg] at e5
    refine ⟨a, c, ?_⟩
    have d6 := d5.put [.slice a es.length c]
    have l6 : (Heap.loadN (h5.put (h.blks.length + 1) (.cells [.slice a es.length c])) (h.blks.length + 1) 0 1).map (fun cs => Value.agg cs.toArray) = some (.agg #[.slice a es.length c]) := by rw [d6.loadN (n := 1) rfl]; rfl
    have k6 := k5.trans (In.put (S := No) (Nat.le_trans k5.le k5.len) (p := h.blks.length + 1) (.inl (by omega)) (.cells [.slice a es.length c]))
    simp only [Bool.false_eq_true, if_false]
    refine ⟨_, ?_, done_ext' k6, (a5.keepPut b2 _).done⟩
    simp -implicitDefEqProofs (disch := omega) only [↓c20_0_eq, bxL, alL, e0, e1, hh, ldL, lA, e3, stL, hs4, l4, e5, l5, storeN_blk d5 (o := 0) (vs := [.slice a es.length c]) (by simp), List.take_zero, List.nil_append, List.append_nil, List.length_cons, List.length_nil, List.drop_succ_cons, List.drop_zero, Nat.zero_add, l6, rvals, ↓ret20, ↓cnd_true, ↓cnd_false, ↓Option.bind_some, ↓obH_some', bin_add, bin_sub, bin_mul, bin_lss, bin_leq, bin_gtr, bin_geq, bin_eql, bin_neq, un_not, un_neg, Option.bind_some, Option.bind_none, Option.map_some, cnd_true, cnd_false, pickV_true, pickV_false, gd_true, gd_false, gdV_true, gdV_false, gdH_true, gdH_false, gdS_true, gdS_false, wt_ff, wt_tt, wt_ft, wt_tf, wt_undef, obH_some', extractV_tuple, nilCheckV_ptr, againK_normal, againK_exit, againK_ret, blockK_normal, blockK_same, blockK_ret, seqK_normal, seqK_exit, seqK_ret, fin_done, if_true', if_false', Bool.not_true, Bool.not_false, idx0, idx1, idx2, idx3, idx4, chk_nil_l, chk_nil_r, done_nm, up_cons, up_nil, cond_true, cond_false, Nat.reduceBEq]
  | true =>
    rw [hg] at e5
    have lp := purge_loop (h0 := h) (h1 := h5) (p1 := h.blks.length) (p2 := h.blks.length + 1) a5.se hl c5 d5 (by omega) (by omega) (by omega) es.length 0 (by omega) (by omega)
    have fin' : ∀ {r : Option (Value × Heap)}, (∃ a c h', r = some (.agg #[.slice a (purgeL es).length c], done h h') ∧ In h.blks.length No (nm h) h' ∧ AE h5.blks.length h' (.slice a (purgeL es).length c) (purgeL es)) → ∃ a c h', r = some (.agg #[.slice a (purgeL es).length c], h') ∧ HExt h h' ∧ AE h.blks.length h' (.slice a (purgeL es).length c) (purgeL es) := fun ⟨a, c, h', q1, q2, q3⟩ => ⟨a, c, _, q1, done_ext' q2, (Acc.up q3 (by omega)).done⟩
    simp only [if_true]
    simp -implicitDefEqProofs (disch := omega) only [↓c20_0_eq, bxL, alL, e0, e1, hh, ldL, lA, e3, stL, hs4, l4, e5, faL, ldEs, l5', lnEs, ↓cnd_true, ↓cnd_false, ↓Option.bind_some, ↓obH_some', bin_add, bin_sub, bin_mul, bin_lss, bin_leq, bin_gtr, bin_geq, bin_eql, bin_neq, un_not, un_neg, Option.bind_some, Option.bind_none, Option.map_some, cnd_true, cnd_false, pickV_true, pickV_false, gd_true, gd_false, gdV_true, gdV_false, gdH_true, gdH_false, gdS_true, gdS_false, wt_ff, wt_tt, wt_ft, wt_tf, wt_undef, obH_some', extractV_tuple, nilCheckV_ptr, againK_normal, againK_exit, againK_ret, blockK_normal, blockK_same, blockK_ret, seqK_normal, seqK_exit, seqK_ret, fin_done, if_true', if_false', Bool.not_true, Bool.not_false, idx0, idx1, idx2, idx3, idx4, chk_nil_l, chk_nil_r, done_nm, up_cons, up_nil, cond_true, cond_false, Nat.reduceBEq]
    refine fin' (lp _ _ none 0 [] k5 (Same.refl _) (AE.nil _ _) (by rw [List.drop_zero]; rfl) ?_ ?_ ?_ ?_ ?_ ?_)
    all_goals rfl
end Go.Am
namespace Go.Am
open Go.Proofs
set_option maxRecDepth 100000
set_option linter.all false
attribute [local congr] obind_congr obH_congr cnd_congr chk_congr retK_congr codeK_congr
theorem bdE3 (a b c : Int) : buildV Try.prog 57 #[(0, .int .i64 a), (1, .int .u64 b), (2, .int .u64 c)] = some (.agg #[.int .i64 a, .int .u64 b, .int .u64 c]) := by kernel_rfl
theorem bsE3 (a b c : Int) (h : Heap) : buildSliceV Try.prog 45 1 #[(0, .agg #[.int .i64 a, .int .u64 b, .int .u64 c])] h = some (.slice (some ⟨h.blks.length, 0, none⟩) 1 1, h.new (.cells [.int .i64 a, .int .u64 b, .int .u64 c]) 57) := by kernel_rfl
theorem fvL (a : Option Addr) (n c : Nat) : fieldV Try.prog 47 (.agg #[.slice a n c]) 0 = some (.slice a n c) := by kernel_rfl
def aw1 : List E3 := [⟨0, 2, 2⟩]
def aw2 : List E3 := [⟨0, 1, 8⟩]
theorem aw_join : joinE aw1 aw2 = aw1 := by
  unfold joinE
  rw [if_pos (by decide), show newsE aw1 aw2 = aw1 by decide, show newsE aw2 aw1 = [] by decide, show bothE aw1 aw2 = [] by decide, List.append_nil, List.append_nil]
  exact srtE_id (List.pairwise_singleton _ _)
theorem spec_awake18 (h : Heap) : ∃ h', evC Try.prog 18 #[] h = some (.bool true, h') ∧ HExt h h' := by
  rw [call18]
  have e0 : (nm h).blks.length = h.blks.length := rfl
  obtain ⟨h6, hh6⟩ : ∃ h6, h6 = ((nm h).new (.cells [.int .i64 0, .int .u64 2, .int .u64 2]) 57).new (.cells [.int .i64 0, .int .u64 1, .int .u64 8]) 57 := ⟨_, rfl⟩
  have e1 : ((nm h).new (.cells [.int .i64 0, .int .u64 2, .int .u64 2]) 57).blks.length = h.blks.length + 1 := by simp [Heap.new]
  have s1 : SE h6 (.slice (some ⟨h.blks.length, 0, none⟩) 1 1) aw1 := by rw [hh6]; exact Sl.keepNew (lit_ent 57 etE.size ⟨0, 2, 2⟩ (nm h)) _ _
  have s2 : SE h6 (.slice (some ⟨h.blks.length + 1, 0, none⟩) 1 1) aw2 := by rw [hh6, ← e1]; exact lit_ent 57 etE.size ⟨0, 1, 8⟩ _
  have k6 : In h.blks.length No (nm h) h6 := by rw [hh6]; exact (In.new (h := nm h) (Nat.le_refl h.blks.length) _ _).trans (In.new (by omega) _ _)
  have e6 : h6.blks.length = h.blks.length + 2 := by rw [hh6]; simp [Heap.new]
  obtain ⟨h11, hh11⟩ : ∃ h11, h11 = (h6.new (.cells [.slice none 0 0]) 47).new (.cells [.slice none 0 0]) 47 := ⟨_, rfl⟩
  have e9 : (h6.new (.cells [.slice none 0 0]) 47).blks.length = h.blks.length + 3 := by simp [Heap.new, e6]
  have e11 : h11.blks.length = h.blks.length + 4 := by rw [hh11]; simp [Heap.new, e6]
  have c1 : Cells h11 (h.blks.length + 2) 47 [.slice none 0 0] := by rw [hh11, ← e6]; exact (Cells.new _ _ _).keepNew _ _
  have c2 : Cells h11 (h.blks.length + 3) 47 [.slice none 0 0] := by rw [hh11, ← e9]; exact Cells.new _ _ _
  have k11 : In h.blks.length No (nm h) h11 := by rw [hh11]; exact (k6.trans (In.new (by omega) _ _)).trans (In.new (by omega) _ _)
  have t1 : SE h11 (.slice (some ⟨h.blks.length, 0, none⟩) 1 1) aw1 := by rw [hh11]; exact (s1.keepNew _ _).keepNew _ _
  have t2 : SE h11 (.slice (some ⟨h.blks.length + 1, 0, none⟩) 1 1) aw2 := by rw [hh11]; exact (s2.keepNew _ _).keepNew _ _
  have st1 := storeN_blk c1 (o := 0) (vs := [.slice (some ⟨h.blks.length, 0, none⟩) 1 1]) (by simp)
  have d1 := c1.put [.slice (some ⟨h.blks.length, 0, none⟩) 1 1]
  have d2 : Cells (h11.put (h.blks.length + 2) (.cells [.slice (some ⟨h.blks.length, 0, none⟩) 1 1])) (h.blks.length + 3) 47 [.slice none 0 0] := c2.keepPut (by omega) _
  have st2 := storeN_blk d2 (o := 0) (vs := [.slice (some ⟨h.blks.length + 1, 0, none⟩) 1 1]) (by simp)
  simp only [List.take_zero, List.nil_append, List.append_nil, List.length_cons, List.length_nil, List.drop_succ_cons, List.drop_zero, Nat.zero_add] at st1 st2
  have f1 : Cells ((h11.put (h.blks.length + 2) (.cells [.slice (some ⟨h.blks.length, 0, none⟩) 1 1])).put (h.blks.length + 3) (.cells [.slice (some ⟨h.blks.length + 1, 0, none⟩) 1 1])) (h.blks.length + 2) 47 [.slice (some ⟨h.blks.length, 0, none⟩) 1 1] := d1.keepPut (by omega) _
  have f2 := d2.put [.slice (some ⟨h.blks.length + 1, 0, none⟩) 1 1]
  have k13 : In h.blks.length No (nm h) ((h11.put (h.blks.length + 2) (.cells [.slice (some ⟨h.blks.length, 0, none⟩) 1 1])).put (h.blks.length + 3) (.cells [.slice (some ⟨h.blks.length + 1, 0, none⟩) 1 1])) := (k11.trans (In.put (by omega) (.inl (by omega)) _)).trans (In.put (by rw [Heap.put_len]; omega) (.inl (by omega)) _)
  have u1 : SE ((h11.put (h.blks.length + 2) (.cells [.slice (some ⟨h.blks.length, 0, none⟩) 1 1])).put (h.blks.length + 3) (.cells [.slice (some ⟨h.blks.length + 1, 0, none⟩) 1 1])) (.slice (some ⟨h.blks.length, 0, none⟩) 1 1) aw1 := (t1.keepPut (by simp [blockOf]) _).keepPut (by simp [blockOf]) _
  have u2 : SE ((h11.put (h.blks.length + 2) (.cells [.slice (some ⟨h.blks.length, 0, none⟩) 1 1])).put (h.blks.length + 3) (.cells [.slice (some ⟨h.blks.length + 1, 0, none⟩) 1 1])) (.slice (some ⟨h.blks.length + 1, 0, none⟩) 1 1) aw2 := (t2.keepPut (by simp [blockOf]) _).keepPut (by simp [blockOf]) _
  generalize hh13 : (h11.put (h.blks.length + 2) (.cells [.slice (some ⟨h.blks.length, 0, none⟩) 1 1])).put (h.blks.length + 3) (.cells [.slice (some ⟨h.blks.length + 1, 0, none⟩) 1 1]) = h13 at f1 f2 k13 u1 u2 st2
  have l1 : ∀ {h' : Heap}, Same h13 h' → (h'.loadN (h.blks.length + 2) 0 1).map (fun cs => Value.agg cs.toArray) = some (.agg #[.slice (some ⟨h.blks.length, 0, none⟩) 1 1]) := fun hs => by rw [(f1.same hs).loadN (n := 1) rfl]; rfl
  have l2 : ∀ {h' : Heap}, Same h13 h' → (h'.loadN (h.blks.length + 3) 0 1).map (fun cs => Value.agg cs.toArray) = some (.agg #[.slice (some ⟨h.blks.length + 1, 0, none⟩) 1 1]) := fun hs => by rw [(f2.same hs).loadN (n := 1) rfl]; rfl
  have w1 : wide aw1 := by decide
  have w2 : wide aw2 := by decide
  obtain ⟨hA, q1,Ab⟩ := spec_Good u1 w1 (by decide)
  rw [show goodE aw1 = true by decide] at q1
  have sA := Ab.same
  obtain ⟨a2, c3, hB, q2,Ac, r2⟩ := spec_Join (h := nm hA) (u1.same sA).nm (u2.same sA).nm w1 w2 (by decide) (by decide)
  rw [aw_join] at q2 r2
  obtain ⟨Ac', m2⟩ := Ac.amx
  have sB := sA.trans Ac'.same
  have r2' : SE (am hB hA) (.slice a2 aw1.length c3) aw1 := Sl.keep (AE.se r2) fun _ _ _ => rfl
  obtain ⟨a4, c4, hC, q3,Ad, r3⟩ := spec_log1 (h := nm (am hB hA)) r2'.nm (by decide)
  obtain ⟨Ad', m3⟩ := Ad.amx
  have sC := sB.trans Ad'.same
  have r3' : SE (am hC (am hB hA)) (.slice a4 aw1.length c4) aw1 := Sl.keep (AR.se r3) fun _ _ _ => rfl
  have l3 : (am hC (am hB hA)).load1 (h.blks.length + 2) 0 = some (.slice (some ⟨h.blks.length, 0, none⟩) 1 1) := (f1.same sC).load 0
  obtain ⟨a5, c5, hD, q4,Ae, r4⟩ := spec_log1 (u1.same sC) (by decide)
  have q5 := spec_logs (r3'.ext Ae) (AR.se r4) (by decide) (by decide)
  rw [decide_eq_true rfl] at q5
  refine ⟨_, ?_, done_ext' ((((k13.trans (Ab.inn (Nat.le_trans k13.le k13.len))).trans (Ac'.inn (Nat.le_trans (Nat.le_trans k13.le k13.len) Ab.len))).trans (Ad'.inn (Nat.le_trans (Nat.le_trans (Nat.le_trans k13.le k13.len) Ab.len) Ac'.len))).trans (Ae.inn (Nat.le_trans (Nat.le_trans (Nat.le_trans (Nat.le_trans k13.le k13.len) Ab.len) Ac'.len) Ad'.len)))⟩
  simp -implicitDefEqProofs (disch := omega) only [↓c18_0_eq, ↓c18_1_eq, ↓c18_2_eq, ↓c18_3_eq, ↓c18_4_eq, ↓c18_5_eq, ↓c18_6_eq, ↓d18_0_0, ↓d18_0_1, ↓d18_0_2, ↓d18_0_3, ↓d18_0_4, ↓d18_0_5, ↓d18_0_6, ↓d18_0_7, ↓d18_0_8, ↓d18_0_9, ↓d18_0_10, ↓d18_0_11, ↓d18_0_12, ↓d18_0_13, ↓d18_0_14, bdE3, bsE3, e0, e1, ← hh6, bdL, alL, e6, e9, ← hh11, stL, st1, st2, ldL, l1 (Same.refl _), q1, l1 sA, l2 sA, q2, m2, fvL, q3, m3, faL, ldEs, l3, q4, q5, List.nil_append, List.append_nil, ↓ret18, ↓cnd_true, ↓cnd_false, ↓Option.bind_some, ↓obH_some', bin_add, bin_sub, bin_mul, bin_lss, bin_leq, bin_gtr, bin_geq, bin_eql, bin_neq, un_not, un_neg, Option.bind_some, Option.bind_none, Option.map_some, cnd_true, cnd_false, pickV_true, pickV_false, gd_true, gd_false, gdV_true, gdV_false, gdH_true, gdH_false, gdS_true, gdS_false, wt_ff, wt_tt, wt_ft, wt_tf, wt_undef, obH_some', extractV_tuple, nilCheckV_ptr, againK_normal, againK_exit, againK_ret, blockK_normal, blockK_same, blockK_ret, seqK_normal, seqK_exit, seqK_ret, fin_done, if_true', if_false', Bool.not_true, Bool.not_false, idx0, idx1, idx2, idx3, idx4, chk_nil_l, chk_nil_r, done_nm, up_cons, up_nil, cond_true, cond_false, Nat.reduceBEq]
theorem reads_ent {h : Heap} {f : Nat} {cs : List Value} {d : DT} (x : Reads Try.prog h f 57 cs d) : ∃ e : E3, cs = entC e ∧ e.n < 2 ^ 64 ∧ e.t < 2 ^ 64 ∧ -2 ^ 63 ≤ e.f ∧ e.f < 2 ^ 63 := by
  obtain ⟨g, l, rfl, hlen, ha⟩ := reads_struct Try.underlying57 x
  rw [show Try.prog.cellsOf 57 = 3 by kernel_rfl] at hlen
  obtain ⟨d0, m0, a0⟩ := ha.get (i := 0) rfl
  obtain ⟨d1, m1, a1⟩ := ha.get (i := 1) rfl
  obtain ⟨d2, m2, a2⟩ := ha.get (i := 2) rfl
  match cs, hlen with
  | [u, v, w], _ =>
    obtain ⟨n0, _, h0, w0⟩ := reads_int (k := .i64) Try.underlying3 a0
    obtain ⟨n1, _, h1, w1⟩ := reads_int (k := .u64) Try.underlying35 a1
    obtain ⟨n2, _, h2, w2⟩ := reads_int (k := .u64) Try.underlying55 a2
    simp [show Try.prog.cellsOf 3 = 1 by kernel_rfl] at h0
    simp [show Try.prog.cellsOf 35 = 1 by kernel_rfl] at h1
    simp [show Try.prog.cellsOf 55 = 1 by kernel_rfl] at h2
    have b0 := wf_i64 w0
    have b1 := wf_nat (k := .u64) rfl w1
    have b2 := wf_nat (k := .u64) rfl w2
    simp only [IntKind.bits] at b1 b2
    refine ⟨⟨n0, n1.toNat, n2.toNat⟩, ?_, by simp; omega, by simp; omega, b0.1, b0.2⟩
    simp only [entC]
    rw [h0, h1, h2, Int.toNat_of_nonneg b1.1, Int.toNat_of_nonneg b2.1]
theorem flat_ents {h : Heap} {f : Nat} {css : List (List Value)} {l : List DT} (a : All2 (fun c d => c.length = Try.prog.cellsOf 57 ∧ Reads Try.prog h f 57 c d) css l) : ∃ es : List E3, es.length = l.length ∧ css.flatten = entL es ∧ wide es := by
  induction a with
  | nil => exact ⟨[], rfl, rfl, fun e he => (List.not_mem_nil he).elim⟩
  | cons x _ ih =>
    obtain ⟨es, h1, h2, h3⟩ := ih
    obtain ⟨e, rfl, w1, w2, _⟩ := reads_ent x.2
    refine ⟨e :: es, by simp [h1], by rw [List.flatten_cons, h2]; rfl, fun z hz => ?_⟩
    rcases List.mem_cons.1 hz with rfl | hz
    · exact ⟨w1, w2⟩
    · exact h3 z hz
theorem Rd.ents {h : Heap} {v : Value} {d : DT} (r : Rd Try.prog h 45 v d) : ∃ es, SE h v es ∧ wide es := by
  obtain ⟨f, l, css, rfl, h1, h2, h3⟩ := r.slice Try.underlying45
  obtain ⟨es, g1, g2, g3⟩ := flat_ents h2
  rw [g2, show Try.prog.cellsOf 57 = 3 by kernel_rfl, ← g1] at h1
  exact ⟨es, h1, g3⟩
end Go.Am
namespace Go.Am
open Go.Proofs
set_option maxRecDepth 100000
set_option linter.all false
attribute [local congr] obind_congr obH_congr cnd_congr chk_congr retK_congr codeK_congr
def Old (n : Nat) (h h' : Heap) : Prop := h.blks.length ≤ h'.blks.length ∧ ∀ b, b < n → h'.blks[b]? = h.blks[b]?
theorem Old.refl (n : Nat) (h : Heap) : Old n h h := ⟨Nat.le_refl _, fun _ _ => rfl⟩
theorem Old.trans {n : Nat} {a b c : Heap} (h : Old n a b) (k : Old n b c) : Old n a c := ⟨Nat.le_trans h.1 k.1, fun i hi => (k.2 i hi).trans (h.2 i hi)⟩
theorem Same.to {n : Nat} {h h' : Heap} (s : Same h h') (hn : n ≤ h.blks.length) : Old n h h' := ⟨s.1, fun b hb => s.2 b (Nat.lt_of_lt_of_le hb hn)⟩
theorem HMod.to {n p : Nat} {h h' : Heap} (m : HMod (Just p) h h') (hp : n ≤ p) (hn : n ≤ h.blks.length) : Old n h h' := ⟨m.len, fun b hb => m.old b (Nat.lt_of_lt_of_le hb hn) (fun e => by have : b = p := e; omega)⟩
theorem Sl.old {P : Program} {k : Nat} {h h' : Heap} {es n : Nat} {v : Value} {cs : List Value} (r : Sl P h es v n cs) (o : Old k h h') (hv : Lo v k) : Sl P h' es v n cs := r.keep fun b _ hb => o.2 b (hv b hb)
theorem Cells.old {k : Nat} {h h' : Heap} {p : Nat} {ty : TypeId} {cs : List Value} (c : Cells h p ty cs) (o : Old k h h') (hp : p < k) : Cells h' p ty cs := (o.2 p hp).trans c
def encE (e : E3) : List UInt8 := putL e.f.toNat ++ (putL e.n ++ putL e.t)
def encL (es : List E3) : List UInt8 := (es.map encE).flatten
def logB (es : List E3) : List UInt8 := putL es.length ++ encL es
theorem encL_snoc (es : List E3) (e : E3) : encL (es ++ [e]) = encL es ++ encE e := by simp [encL]
theorem putL_le (n : Nat) (h : n < 2 ^ 64) : (putL n).length ≤ 10 := by
  rw [putL_len]; exact sizeN_le n 10 (Nat.lt_of_lt_of_le h (by decide)) (by omega)
theorem encE_le (e : E3) (h0 : e.f < 2 ^ 63) (h1 : e.n < 2 ^ 64) (h2 : e.t < 2 ^ 64) : (encE e).length ≤ 30 := by
  have a := putL_le e.f.toNat (by omega)
  have b := putL_le e.n h1
  have c := putL_le e.t h2
  simp only [encE, List.length_append]; omega
theorem encL_le : ∀ (es : List E3), (∀ e ∈ es, e.f < 2 ^ 63) → wide es → (encL es).length ≤ 30 * es.length
  | [], _, _ => Nat.le_refl _
  | e :: es, h, w => by
    have a := encL_le es (fun x hx => h x (by simp [hx])) (fun x hx => w x (by simp [hx]))
    have b := encE_le e (h e (by simp)) (w e (by simp)).1 (w e (by simp)).2
    simp only [encL, List.map_cons, List.flatten_cons, List.length_append, List.length_cons] at a ⊢
    omega
theorem put_loop18 {h0 h1 : Heap} {v : Value} {es : List E3} {p : Nat} (s : SE h1 v es) (hv : Lo v p) (hw : wide es) (hf : ∀ e ∈ es, 0 ≤ e.f ∧ e.f < 2 ^ 63) (hl : es.length < 2 ^ 32) (hn : h0.blks.length ≤ p) (hp1 : p ≤ h1.blks.length) :
    ∀ (m i : Nat), es.length - i = m → i ≤ es.length → ∀ (x : Nat → Value) (h : Heap),In h0.blks.length No (nm h0) h → Old p h1 h → Wr p h p (putL es.length ++ encL (es.take i)) →
    x 3 = .pointer (some ⟨p, 0, none⟩) → x 17 = v → x 18 = .int .i64 es.length → x 19 = .int .i64 i →
    ∃ a c h', lK c31_1 39 x h (blockK 0 (sK c31_2 (retK Try.f31 Try.prog h0))) = some (.slice a (logB es).length c, done h0 h') ∧ In h0.blks.length No (nm h0) h' ∧ AB h0.blks.length h' (.slice a (logB es).length c) (logB es) := by
  intro m
  have ll : ∀ i, (encL (es.take i)).length ≤ 30 * es.length := fun i => by
    have := encL_le (es.take i) (fun e he => (hf e (List.mem_of_mem_take he)).2) (fun e he => hw e (List.mem_of_mem_take he))
    have h2 : (es.take i).length ≤ es.length := by rw [List.length_take]; omega
    omega
  have l0 := putL_le es.length (by omega)
  induction m with
  | zero =>
    intro i e1 e2 x h hin ho w Ad As At Au
    obtain rfl : i = es.length := by omega
    have := ll es.length
    rw [List.take_length] at w this
    obtain ⟨a, c, h2, q1, q2, q3⟩ := spec_WDone w (by rw [List.length_append]; omega)
    rw [lK_eq]
    refine ⟨a, c, h2, ?_, hin.trans (q2.inn (Nat.le_trans hin.le hin.len)), Acc.up q3 (Nat.le_trans hin.le hin.len)⟩
    simp -implicitDefEqProofs (disch := omega) only [↓c31_1_eq, ↓c31_2_eq,Ad,As,At,Au, dcF, q1, ↓ret31, ↓cnd_true, ↓cnd_false, ↓Option.bind_some, ↓obH_some', bin_add, bin_sub, bin_mul, bin_lss, bin_leq, bin_gtr, bin_geq, bin_eql, bin_neq, un_not, un_neg, Option.bind_some, Option.bind_none, Option.map_some, cnd_true, cnd_false, pickV_true, pickV_false, gd_true, gd_false, gdV_true, gdV_false, gdH_true, gdH_false, gdS_true, gdS_false, wt_ff, wt_tt, wt_ft, wt_tf, wt_undef, obH_some', extractV_tuple, nilCheckV_ptr, againK_normal, againK_exit, againK_ret, blockK_normal, blockK_same, blockK_ret, seqK_normal, seqK_exit, seqK_ret, fin_done, if_true', if_false', Bool.not_true, Bool.not_false, idx0, idx1, idx2, idx3, idx4, chk_nil_l, chk_nil_r, done_nm, up_cons, up_nil, cond_true, cond_false, Nat.reduceBEq]
    rfl
  | succ m ih =>
    intro i hm hi x h hin ho w Ad As At Au
    have hil : i < es.length := by omega
    have hph : p ≤ h.blks.length := Nat.le_trans hp1 ho.1
    obtain ⟨b, of, hb, hbl, e1, e2⟩ := s.at' (t := 45) (el := 57) (by kernel_rfl) (by kernel_rfl) hil
    obtain ⟨f1, _⟩ := e2 h (ho.2 b (hv b hb))
    obtain ⟨hA, hB, a1, a2, a3, a4, a5, a6⟩ := var_ent (n0 := p) hph es[i]
    have wd := hw es[i] (List.getElem_mem hil)
    have fd := hf es[i] (List.getElem_mem hil)
    have wlt := w.lt
    have bl := ll i
    have lt1 : ∀ {h' : Heap}, Cells h' h.blks.length 57 (entC es[i]) → h'.load1 h.blks.length 0 = some (.int .i64 es[i].f) ∧ h'.load1 h.blks.length (0 + 1) = some (.int .u64 es[i].n) ∧ h'.load1 h.blks.length (0 + 2) = some (.int .u64 es[i].t) := fun c => ⟨c.load 0, c.load 1, c.load 2⟩
    obtain ⟨l1, _, _⟩ := lt1 a3
    have wB := w.same a5
    have p1 := putL_le es[i].f.toNat (by omega)
    have p2 := putL_le es[i].n wd.1
    have p3 := putL_le es[i].t wd.2
    obtain ⟨hC, q1, q2, q3⟩ := spec_WNum wB (by have := a5.1; omega) es[i].f.toNat (by omega) (by rw [List.length_append]; omega)
    rw [Int.toNat_of_nonneg fd.1] at q1
    have hab := a5.1
    have a3C : Cells hC h.blks.length 57 (entC es[i]) := a3.mod q2 (fun e => by have : h.blks.length = p := e; omega)
    obtain ⟨_, l2, _⟩ := lt1 a3C
    have lC := q2.len
    obtain ⟨hD, r1, r2, r3⟩ := spec_WNum (q3.up (n1 := p) (by omega)) (by omega) es[i].n wd.1 (by simp only [List.length_append]; omega)
    have a3D : Cells hD h.blks.length 57 (entC es[i]) := a3C.mod r2 (fun e => by have : h.blks.length = p := e; omega)
    obtain ⟨_, _, l3⟩ := lt1 a3D
    have lD := r2.len
    obtain ⟨hE, s1, s2, s3⟩ := spec_WSet (r3.up (n1 := p) (by omega)) (by omega) es[i].t wd.2 (by simp only [List.length_append]; omega)
    have lE := s2.len
    have cv := fun h => cvI64 es[i].f h fd.1 fd.2
    have wi : IntKind.i64.wrap ((i : Int) + 1) = ((i + 1 : Nat) : Int) := by rw [wrap_i64] <;> omega
    have ht : es.take i ++ [es[i]] = es.take (i + 1) := by rw [List.take_succ, List.getElem?_eq_getElem hil]; rfl
    have hsn := encL_snoc (es.take i) es[i]
    rw [ht] at hsn
    have w2 : Wr p hE p (putL es.length ++ encL (es.take (i + 1))) := by
      have := s3.up (n1 := p) (by omega)
      rw [hsn]
      simpa [encE, List.append_assoc] using this
    have hb0 : ∀ b, b < h0.blks.length → Just p b → No b := fun b hb e => by have : b = p := e; omega
    have hin2 := (((hin.trans (In.dn (a4 No) hn)).trans (q2.inn (by omega) hb0)).trans (r2.inn (by omega) hb0)).trans (s2.inn (by omega) hb0)
    have ho2 := (((ho.trans (a5.to hph)).trans (q2.to (Nat.le_refl _) (by omega))).trans (r2.to (Nat.le_refl _) (by omega))).trans (s2.to (Nat.le_refl _) (by omega))
    rw [lK_eq]
    simp -implicitDefEqProofs (disch := omega) only [↓c31_1_eq, ↓c31_2_eq,Ad,As,At,Au, dcT, e1, ldE, f1, Option.map_some, entA, a1, a2, faE0, faE1, faE2, ldI, ldU, ldS, l1, cv, q1, l2, r1, l3, s1, wi, ↓cnd_true, ↓cnd_false, ↓Option.bind_some, ↓obH_some', bin_add, bin_sub, bin_mul, bin_lss, bin_leq, bin_gtr, bin_geq, bin_eql, bin_neq, un_not, un_neg, Option.bind_some, Option.bind_none, Option.map_some, cnd_true, cnd_false, pickV_true, pickV_false, gd_true, gd_false, gdV_true, gdV_false, gdH_true, gdH_false, gdS_true, gdS_false, wt_ff, wt_tt, wt_ft, wt_tf, wt_undef, obH_some', extractV_tuple, nilCheckV_ptr, againK_normal, againK_exit, againK_ret, blockK_normal, blockK_same, blockK_ret, seqK_normal, seqK_exit, seqK_ret, fin_done, if_true', if_false', Bool.not_true, Bool.not_false, idx0, idx1, idx2, idx3, idx4, chk_nil_l, chk_nil_r, done_nm, up_cons, up_nil, cond_true, cond_false, Nat.reduceBEq]
    refine ih (i + 1) (by omega) (by omega) _ hE hin2 ho2 w2 ?_ ?_ ?_ ?_
    · exact Ad
    · exact As
    · exact At
    · rfl
def putE (es : List E3) : List UInt8 := if goodE es then logB es else []
theorem good_f {es : List E3} (h : goodE es = true) : ∀ e ∈ es, 0 ≤ e.f ∧ e.f < 16 ∧ 0 < e.n ∧ e.t < 65536 := fun e he => by
  have := ((goodE_iff es).1 h).1 e he
  unfold mayE at this
  simpa [Bool.and_eq_true] using this
theorem spec_Put18 {h : Heap} {v : Value} {es : List E3} (s : SE h v es) (hw : wide es) (hl : es.length < 2 ^ 32) : ∃ a c h', evC Try.prog 31 #[.agg #[v]] h = some (.slice a (putE es).length c, h') ∧ HExt h h' ∧ AB h.blks.length h' (.slice a (putE es).length c) (putE es) := by
  rw [call31]
  have c1 := Cells.new (nm h) 47 [v]
  have s1 : SE ((nm h).new (.cells [v]) 47) v es := s.nm.keepNew _ _
  have k1 : In h.blks.length No (nm h) ((nm h).new (.cells [v]) 47) := In.new (h := nm h) (Nat.le_refl h.blks.length) _ _
  have e0 : (nm h).blks.length = h.blks.length := rfl
  have e1 : ((nm h).new (.cells [v]) 47).blks.length = h.blks.length + 1 := by simp [Heap.new]
  generalize hh : (nm h).new (.cells [v]) 47 = h1 at c1 s1 k1 e1
  rw [e0] at c1
  have lA : (h1.loadN h.blks.length 0 1).map (fun cs => Value.agg cs.toArray) = some (.agg #[v]) := by rw [c1.loadN (n := 1) rfl]; rfl
  obtain ⟨h2, q2,Ac⟩ := spec_Good s1 hw (by omega)
  have hx2 := Ac.len
  unfold putE
  cases hg : goodE es with
  | false =>
    rw [hg] at q2
    refine ⟨none, 0, _, ?_, done_ext' (k1.trans (Ac.inn (by omega))), Acc.done .nil⟩
    simp -implicitDefEqProofs (disch := omega) only [↓c31_0_eq, bxL, e0, hh, ldL, lA, q2, ↓ret31, ↓cnd_true, ↓cnd_false, ↓Option.bind_some, ↓obH_some', bin_add, bin_sub, bin_mul, bin_lss, bin_leq, bin_gtr, bin_geq, bin_eql, bin_neq, un_not, un_neg, Option.bind_some, Option.bind_none, Option.map_some, cnd_true, cnd_false, pickV_true, pickV_false, gd_true, gd_false, gdV_true, gdV_false, gdH_true, gdH_false, gdS_true, gdS_false, wt_ff, wt_tt, wt_ft, wt_tf, wt_undef, obH_some', extractV_tuple, nilCheckV_ptr, againK_normal, againK_exit, againK_ret, blockK_normal, blockK_same, blockK_ret, seqK_normal, seqK_exit, seqK_ret, fin_done, if_true', if_false', Bool.not_true, Bool.not_false, idx0, idx1, idx2, idx3, idx4, chk_nil_l, chk_nil_r, done_nm, up_cons, up_nil, cond_true, cond_false, Nat.reduceBEq]
    rfl
  | true =>
    rw [hg] at q2
    have hf := good_f hg
    obtain ⟨h3, q3,Ad, w3, n3⟩ := spec_NewWriter h2
    have s3 := (s1.ext Ac).ext Ad
    have c3 := (c1.ext Ac).ext Ad
    have l3 : h3.load1 h.blks.length 0 = some v := c3.load 0
    have hx3 := Ad.len
    obtain ⟨a, c, rfl⟩ := s.shape
    have cv := fun h => cvI64 (es.length : Int) h (by omega) (by omega)
    obtain ⟨h4, q4,Ae, w4⟩ := spec_WNum w3 (by omega) es.length (by omega) (by simp)
    have hx4 := Ae.len
    have lo : Lo (.slice a es.length c) h2.blks.length := (s1.ext Ac).lo
    have o4 : Old h2.blks.length h3 h4 := Ae.to (Nat.le_refl _) (by omega)
    have s4 : SE h4 (.slice a es.length c) es := Sl.old s3 o4 lo
    have l4 : h4.load1 h.blks.length 0 = some (.slice a es.length c) := (c3.old o4 (by omega)).load 0
    have k4 := ((k1.trans (Ac.inn (by omega))).trans (Ad.inn (by omega))).trans (Ae.inn (by omega) (fun b hb e => by have : b = h2.blks.length := e; omega))
    have lp := put_loop18 (h0 := h) s4 lo hw (fun e he => ⟨(hf e he).1, by have := (hf e he).2.1; omega⟩) hl (by omega) (by omega) es.length 0 (by omega) (by omega)
    have fin' : ∀ {r : Option (Value × Heap)}, (∃ a c h', r = some (.slice a (logB es).length c, done h h') ∧ In h.blks.length No (nm h) h' ∧ AB h.blks.length h' (.slice a (logB es).length c) (logB es)) → ∃ a c h', r = some (.slice a (logB es).length c, h') ∧ HExt h h' ∧ AB h.blks.length h' (.slice a (logB es).length c) (logB es) := fun ⟨a, c, h', g1, g2, g3⟩ => ⟨a, c, _, g1, done_ext' g2, Acc.done g3⟩
    simp only [if_true]
    simp -implicitDefEqProofs (disch := omega) only [↓c31_0_eq, bxL, e0, hh, ldL, lA, q2, q3, faL, ldEs, l3, lnEs, cv, q4, l4, ↓cnd_true, ↓cnd_false, ↓Option.bind_some, ↓obH_some', bin_add, bin_sub, bin_mul, bin_lss, bin_leq, bin_gtr, bin_geq, bin_eql, bin_neq, un_not, un_neg, Option.bind_some, Option.bind_none, Option.map_some, cnd_true, cnd_false, pickV_true, pickV_false, gd_true, gd_false, gdV_true, gdV_false, gdH_true, gdH_false, gdS_true, gdS_false, wt_ff, wt_tt, wt_ft, wt_tf, wt_undef, obH_some', extractV_tuple, nilCheckV_ptr, againK_normal, againK_exit, againK_ret, blockK_normal, blockK_same, blockK_ret, seqK_normal, seqK_exit, seqK_ret, fin_done, if_true', if_false', Bool.not_true, Bool.not_false, idx0, idx1, idx2, idx3, idx4, chk_nil_l, chk_nil_r, done_nm, up_cons, up_nil, cond_true, cond_false, Nat.reduceBEq]
    refine fin' (lp _ _ k4 (Old.refl _ _) ?_ ?_ ?_ ?_ ?_)
    · rw [List.take_zero, show encL [] = [] from rfl, List.append_nil, ← List.nil_append (putL es.length)]; exact w4.up (by omega)
    all_goals rfl
end Go.Am
namespace Go.Am
theorem HMod.amx {S : Nat → Prop} {h h' : Heap} (e : HMod S (Am.nm h) h') : HMod S h (Am.am h' h) := by
  obtain ⟨d, e1, e2⟩ := e.mods
  refine ⟨e.len, e.old, d, ?_, e2⟩
  show h'.mods ++ h.mods = d ++ h.mods
  rw [e1]; simp
end Go.Am
namespace Go.Am
end Go.Am
namespace Go.Am
open Go.Proofs
set_option maxRecDepth 100000
set_option linter.all false
attribute [local congr] obind_congr obH_congr cnd_congr chk_congr retK_congr codeK_congr
theorem RdrL.old {L k : Nat} {h h' : Heap} {p : Nat} {r : Option (List UInt8)} (w : RdrL L h p r) (o : Old k h h') (hp : p < k) : RdrL L h' p r :=
  let ⟨a, c, x, y, z⟩ := w
  ⟨a, c, x.old o hp, y.old o fun b hb => by have := (z b hb).2; omega, z⟩
end Go.Am
namespace Go.Am
open Go.Proofs
set_option maxRecDepth 100000
set_option linter.all false
attribute [local congr] obind_congr obH_congr cnd_congr chk_congr retK_congr codeK_congr
end Go.Am
