/- What the functions answer, in the machine. -/
import Derived.Test.YtojjjicjpimhoaaKD
set_option linter.all false
namespace Go.Am
open Go.Proofs
set_option maxRecDepth 100000
set_option linter.all false
attribute [local congr] obind_congr obH_congr cnd_congr chk_congr retK_congr codeK_congr
def kM0 : MT := ⟨16, 1, 2, 0, 0, 0, 0, 0, [97], []⟩
def kM1 : MT := ⟨0, 0, 2, 0, 0, 0, 0, 0, [97], []⟩
def kM2 : MT := ⟨0, 1, 1, 0, 0, 0, 0, 0, [97], []⟩
def kM3 : MT := ⟨0, 1, 65536, 0, 0, 0, 0, 0, [97], []⟩
def kM4 : MT := ⟨0, 1, 2, 4, 0, 0, 0, 0, [97], []⟩
def kM5 : MT := ⟨0, 1, 2, 0, 0, 0, 0, 0, List.replicate 257 0, []⟩
def kM6 : MT := ⟨0, 1, 2, 2, 0, 0, 0, 0, [97], []⟩
def kM7 : MT := ⟨0, 1, 2, 0, 1, 0, 0, 0, [97], []⟩
def kM8 : MT := ⟨0, 1, 2, 0, 0, 4607182418800017408, 0, 0, [97], []⟩
def kM9 : MT := ⟨0, 1, 2, 0, 0, 0, 1, 0, [97], []⟩
def kM10 : MT := ⟨0, 1, 2, 0, 0, 0, 0, 1, [97], []⟩
def kM11 : MT := ⟨0, 1, 2, 0, 0, 0, 0, 0, [97], List.replicate 20001 0⟩
def kM12 : MT := ⟨0, 1, 2, 1, 0, 0, 1, 1, [], []⟩
def kM13 : MT := ⟨0, 1, 2, 1, 0, 0, 0, 0, [], []⟩
def kM14 : MT := ⟨0, 1, 2, 3, 0, 0, 2, 0, [], []⟩
def kM15 : MT := ⟨0, 1, 2, 0, 0, 9223372036854775808, 0, 0, [97], []⟩
def kMA : MT := ⟨1, 300, 1, 3, 2, nanBits, -1, 0, [], []⟩
def kMB : MT := ⟨0, 1, 2, 2, 15, 0, 0, 0, [], []⟩
def kMC : MT := ⟨3, 1, 2, 1, 0, 0, 3, 1, [], []⟩
theorem kg0 : goodMsg kM0 = false := by decide +kernel
theorem kg1 : goodMsg kM1 = false := by decide +kernel
theorem kg2 : goodMsg kM2 = false := by decide +kernel
theorem kg3 : goodMsg kM3 = false := by decide +kernel
theorem kg4 : goodMsg kM4 = false := by decide +kernel
theorem kg5 : goodMsg kM5 = false := by unfold goodMsg; simp [kM5]
theorem kg6 : goodMsg kM6 = false := by decide +kernel
theorem kg7 : goodMsg kM7 = false := by decide +kernel
theorem kg8 : goodMsg kM8 = false := by decide +kernel
theorem kg9 : goodMsg kM9 = false := by decide +kernel
theorem kg10 : goodMsg kM10 = false := by decide +kernel
theorem kM11_len : kM11.stamp.length = 20001 := List.length_replicate
theorem kg11 : goodMsg kM11 = false := by
  unfold goodMsg
  rw [show decide (kM11.stamp.length ≤ 20000) = false from decide_eq_false (by rw [kM11_len]; omega)]
  simp only [Bool.false_and, Bool.and_false]
theorem kg12 : goodMsg kM12 = false := by decide +kernel
theorem kg13 : goodMsg kM13 = false := by decide +kernel
theorem kg14 : goodMsg kM14 = false := by decide +kernel
theorem kg15 : goodMsg kM15 = false := by decide +kernel
theorem ko0 : MTok kM0 := ⟨by decide, by decide, by decide, by decide, by decide, by decide, by decide, by decide, by decide, by decide, by decide, by decide, by decide, by decide⟩
theorem ko1 : MTok kM1 := ⟨by decide, by decide, by decide, by decide, by decide, by decide, by decide, by decide, by decide, by decide, by decide, by decide, by decide, by decide⟩
theorem ko2 : MTok kM2 := ⟨by decide, by decide, by decide, by decide, by decide, by decide, by decide, by decide, by decide, by decide, by decide, by decide, by decide, by decide⟩
theorem ko3 : MTok kM3 := ⟨by decide, by decide, by decide, by decide, by decide, by decide, by decide, by decide, by decide, by decide, by decide, by decide, by decide, by decide⟩
theorem ko4 : MTok kM4 := ⟨by decide, by decide, by decide, by decide, by decide, by decide, by decide, by decide, by decide, by decide, by decide, by decide, by decide, by decide⟩
theorem ko5 : MTok kM5 := ⟨by decide, by decide, by decide, by decide, by decide, by decide, by decide, by decide, by decide, by decide, by decide, by decide, by simp [kM5], by simp [kM5]⟩
theorem ko6 : MTok kM6 := ⟨by decide, by decide, by decide, by decide, by decide, by decide, by decide, by decide, by decide, by decide, by decide, by decide, by decide, by decide⟩
theorem ko7 : MTok kM7 := ⟨by decide, by decide, by decide, by decide, by decide, by decide, by decide, by decide, by decide, by decide, by decide, by decide, by decide, by decide⟩
theorem ko8 : MTok kM8 := ⟨by decide, by decide, by decide, by decide, by decide, by decide, by decide, by decide, by decide, by decide, by decide, by decide, by decide, by decide⟩
theorem ko9 : MTok kM9 := ⟨by decide, by decide, by decide, by decide, by decide, by decide, by decide, by decide, by decide, by decide, by decide, by decide, by decide, by decide⟩
theorem ko10 : MTok kM10 := ⟨by decide, by decide, by decide, by decide, by decide, by decide, by decide, by decide, by decide, by decide, by decide, by decide, by decide, by decide⟩
theorem ko11 : MTok kM11 := ⟨by decide, by decide, by decide, by decide, by decide, by decide, by decide, by decide, by decide, by decide, by decide, by decide, by decide, by rw [kM11_len]; decide⟩
theorem ko12 : MTok kM12 := ⟨by decide, by decide, by decide, by decide, by decide, by decide, by decide, by decide, by decide, by decide, by decide, by decide, by decide, by decide⟩
theorem ko13 : MTok kM13 := ⟨by decide, by decide, by decide, by decide, by decide, by decide, by decide, by decide, by decide, by decide, by decide, by decide, by decide, by decide⟩
theorem ko14 : MTok kM14 := ⟨by decide, by decide, by decide, by decide, by decide, by decide, by decide, by decide, by decide, by decide, by decide, by decide, by decide, by decide⟩
theorem ko15 : MTok kM15 := ⟨by decide, by decide, by decide, by decide, by decide, by decide, by decide, by decide, by decide, by decide, by decide, by decide, by decide, by decide⟩
theorem koA : MTok kMA := ⟨by decide, by decide, by decide, by decide, by decide, by decide, by decide, by decide, by decide, by decide, by decide, by decide, by decide, by decide⟩
theorem koB : MTok kMB := ⟨by decide, by decide, by decide, by decide, by decide, by decide, by decide, by decide, by decide, by decide, by decide, by decide, by decide, by decide⟩
theorem koC : MTok kMC := ⟨by decide, by decide, by decide, by decide, by decide, by decide, by decide, by decide, by decide, by decide, by decide, by decide, by decide, by decide⟩
theorem kgA : goodMsg kMA = true := by decide +kernel
theorem kgB : goodMsg kMB = true := by decide +kernel
theorem kgC : goodMsg kMC = true := by decide +kernel
theorem kgetA : getM (putM kMA) = some kMA := by decide +kernel
theorem klenA : (putM kMA).length < 2 ^ 38 := by decide +kernel
theorem kget0 : getM [] = none := by decide +kernel
theorem kget1 : getM (putM wordM ++ [0]) = none := by decide +kernel
theorem klen1 : (putM wordM ++ [0]).length < 2 ^ 38 := by decide +kernel
theorem spec_Copy (h : Heap) : evC Try.prog 63 #[.float .f64 0, .float .f64 13830554455654793216] h = some (.float .f64 9223372036854775808, h) := by
  rw [call63]
  have e1 : ∀ h, callV Try.prog (evC Try.prog) (.func (.func 109) #[] #[]) #[.float .f64 0] h = some (.int .u64 0, h) := fun h => bits_of 0 h
  have e2 : ∀ h, callV Try.prog (evC Try.prog) (.func (.func 109) #[] #[]) #[.float .f64 13830554455654793216] h = some (.int .u64 13830554455654793216, h) := fun h => bits_of 13830554455654793216 h
  have e3 : binV Try.prog .andNot 46 (.tmp 0) (.tmp 0) (.int .u64 0) (.int .u64 9223372036854775808) = some (.int .u64 0) := by kernel_rfl
  have e4 : binV Try.prog .and 46 (.tmp 0) (.tmp 0) (.int .u64 13830554455654793216) (.int .u64 9223372036854775808) = some (.int .u64 9223372036854775808) := by kernel_rfl
  have e5 : binV Try.prog .or 46 (.tmp 0) (.tmp 0) (.int .u64 0) (.int .u64 9223372036854775808) = some (.int .u64 9223372036854775808) := by kernel_rfl
  have e6 : ∀ h, callV Try.prog (evC Try.prog) (.func (.func 108) #[] #[]) #[.int .u64 9223372036854775808] h = some (.float .f64 9223372036854775808, h) := fun h => frombits 9223372036854775808 h
  simp -implicitDefEqProofs only [↓c63_0_eq, e1, e2, e3, e4, e5, e6, ↓ret63, ↓cnd_true, ↓cnd_false, ↓Option.bind_some, ↓obH_some', bin_add, bin_sub, bin_mul, bin_lss, bin_leq, bin_gtr, bin_geq, bin_eql, bin_neq, un_not, un_neg, Option.bind_some, Option.bind_none, Option.map_some, cnd_true, cnd_false, pickV_true, pickV_false, gd_true, gd_false, gdV_true, gdV_false, gdH_true, gdH_false, gdS_true, gdS_false, wt_ff, wt_tt, wt_ft, wt_tf, wt_undef, obH_some', extractV_tuple, nilCheckV_ptr, againK_normal, againK_exit, againK_ret, blockK_normal, blockK_same, blockK_ret, seqK_normal, seqK_exit, seqK_ret, fin_done, if_true', if_false', Bool.not_true, Bool.not_false, idx0, idx1, idx2, idx3, idx4, chk_nil_l, chk_nil_r, done_nm, up_cons, up_nil, cond_true, cond_false, Nat.reduceBEq]
theorem zeros_b (m : Nat) (hm : m < 2 ^ 40) (h : Heap) : makeSliceV Try.prog 23 (.int .i64 m) (.int .i64 m) h = some (.slice (some ⟨h.blks.length, 0, none⟩) m m, h.new (.cells (List.replicate m (.int .u8 0))) 5) := by
  unfold makeSliceV
  simp only [etB.under, natOf_int, etB.size, etB.bytes, etB.zero]
  rw [if_pos ⟨Nat.le_refl _, by omega, by omega, by omega, etB.zs, etB.zg⟩]
  have e : (fun i : Nat => (Value.int .u8 0).cells[i % (Value.int .u8 0).cells.size]!) = fun _ => Value.int .u8 0 := by
    funext i
    have : i % (Value.int .u8 0).cells.size = 0 := Nat.mod_one i
    rw [this]; rfl
  rw [e, Nat.mul_one]
  simp [List.map_const']
theorem sb_zeros {h : Heap} (m : Nat) (hm : m < 2 ^ 40) : SB (h.new (.cells (List.replicate m (.int .u8 0))) 5) (.slice (some ⟨h.blks.length, 0, none⟩) m m) (List.replicate m 0) := by
  have e : (List.replicate m (0 : UInt8)).map byteV = List.replicate m (.int .u8 0) := by rw [List.map_replicate]; rfl
  have key : Sl Try.prog (h.new (.cells (List.replicate m (.int .u8 0))) 5) 1 (.slice (some ⟨h.blks.length, 0, none⟩) m m) m (List.replicate m (.int .u8 0)) :=
    .mk ((Cells.new h 5 (List.replicate m (.int .u8 0))).loadN (by rw [List.length_replicate, Nat.mul_one])) (.inr ⟨Nat.le_refl _, by unfold UNK; omega⟩)
  show Sl Try.prog _ 1 _ (List.replicate m (0 : UInt8)).length ((List.replicate m (0 : UInt8)).map byteV)
  rw [e, List.length_replicate]
  exact key
theorem mkMs (h : Heap) : makeSliceV Try.prog 120 (.int .i64 16) (.int .i64 16) h = some (.slice (some ⟨h.blks.length, 0, none⟩) 16 16, h.new (.cells (mcells (List.replicate 16 (m00, nilSl, nilSl)))) 104) := by kernel_rfl
theorem bdK12 : buildV Try.prog 104 #[(1, .int .u64 1), (2, .int .u64 2), (3, .int .i64 1), (6, .int .i64 1), (7, .int .u64 1)] = some (msgA kM12 nilSl nilSl) := by kernel_rfl
theorem bdK13 : buildV Try.prog 104 #[(1, .int .u64 1), (2, .int .u64 2), (3, .int .i64 1)] = some (msgA kM13 nilSl nilSl) := by kernel_rfl
theorem bdK14 : buildV Try.prog 104 #[(1, .int .u64 1), (2, .int .u64 2), (3, .int .i64 3), (6, .int .i64 2)] = some (msgA kM14 nilSl nilSl) := by kernel_rfl
theorem bdKA : buildV Try.prog 104 #[(0, .int .i64 1), (1, .int .u64 300), (2, .int .u64 1), (3, .int .i64 3), (4, .int .i64 2), (5, .float .f64 nanBits), (6, .int .i64 (-1))] = some (msgA kMA nilSl nilSl) := by kernel_rfl
theorem bdKB : buildV Try.prog 104 #[(1, .int .u64 1), (2, .int .u64 2), (3, .int .i64 2), (4, .int .i64 15)] = some (msgA kMB nilSl nilSl) := by kernel_rfl
theorem bdKC : buildV Try.prog 104 #[(0, .int .i64 3), (1, .int .u64 1), (2, .int .u64 2), (3, .int .i64 1), (6, .int .i64 3), (7, .int .u64 1)] = some (msgA kMC nilSl nilSl) := by kernel_rfl
def wl (bs : List Value) : List MB := bs.map fun b => (wordM, b, nilSl)
theorem wl_set (bs : List Value) (k : Nat) (z : MB) (b : Value) : (wl bs ++ List.replicate (k + 1) z).set bs.length (wordM, b, nilSl) = wl (bs ++ [b]) ++ List.replicate k z := by
  have hl : (wl bs).length = bs.length := List.length_map _
  rw [List.set_append_right _ _ (by omega), hl, Nat.sub_self, List.replicate_succ, List.set_cons_zero]
  unfold wl
  simp
theorem kn_fill {Q : Option (Value × Heap) → Prop} {p : Nat} (k : Ex → St → Option (Value × Heap)) (hk : ∀ (h' : Heap) (bs : List Value), bs.length = 16 → MRow h' p (wl bs) → ∀ x : Nat → Value, x 1 = .slice (some ⟨p, 0, none⟩) 16 16 → Q (k .normal ⟨ar 148 x, h'⟩)) :
    ∀ (m : Nat) (bs : List Value) (h : Heap), 16 = bs.length + m → MRow h p (wl bs ++ List.replicate m (m00, nilSl, nilSl)) → ∀ x : Nat → Value, x 1 = .slice (some ⟨p, 0, none⟩) 16 16 → x 2 = .int .i64 bs.length →
    Q (lK c16_9 148 x h (blockK 0 k)) := by
  intro m
  induction m with
  | zero =>
    intro bs h hb R x Ab Ac
    rw [lK_eq]
    rw [List.replicate_zero, List.append_nil] at R
    simp -implicitDefEqProofs (disch := omega) only [↓c16_9_eq, dcT, dcF,Ab,Ac, ↓cnd_true, ↓cnd_false, ↓Option.bind_some, ↓obH_some', bin_add, bin_sub, bin_mul, bin_lss, bin_leq, bin_gtr, bin_geq, bin_eql, bin_neq, un_not, un_neg, Option.bind_some, Option.bind_none, Option.map_some, cnd_true, cnd_false, pickV_true, pickV_false, gd_true, gd_false, gdV_true, gdV_false, gdH_true, gdH_false, gdS_true, gdS_false, wt_ff, wt_tt, wt_ft, wt_tf, wt_undef, obH_some', extractV_tuple, nilCheckV_ptr, againK_normal, againK_exit, againK_ret, blockK_normal, blockK_same, blockK_ret, seqK_normal, seqK_exit, seqK_ret, fin_done, if_true', if_false', Bool.not_true, Bool.not_false, idx0, idx1, idx2, idx3, idx4, chk_nil_l, chk_nil_r, done_nm, up_cons, up_nil, cond_true, cond_false, Nat.reduceBEq]
    exact hk h bs (by omega) R _ Ab
  | succ m ih =>
    intro bs h hb R x Ab Ac
    rw [lK_eq]
    obtain ⟨bv, h1, e1, y1, s1, a, c, rfl, hge⟩ := spec_wordF h
    have R1 := R.same y1.same
    have hp : p < h.blks.length := R.c.lt
    have hlen : bs.length < (wl bs ++ List.replicate (m + 1) (m00, nilSl, nilSl)).length := by unfold wl; simp
    obtain ⟨h2, e2, R2, _, _⟩ := R1.stM (i := bs.length) (wordM, .slice a 1 c, nilSl) hlen ⟨s1, fun e => by have := hge p e; omega⟩ ⟨.nil, by simp [blockOf]⟩
    rw [wl_set] at R2
    have e3 := iaM p 16 16 bs.length (by omega)
    have e4 : storeV Try.prog 104 (.pointer (some ⟨p, bs.length * 10, none⟩)) (msgA wordM (.slice a 1 c) nilSl) h1 = some h2 := (stMo _ _ _ _ _ _ _ _ _ _ _ _ _ _ _ _ _).trans e2
    have hw : IntKind.wrap .i64 ((bs.length : Int) + 1) = ((bs.length + 1 : Nat) : Int) := by rw [wrap_i64] <;> omega
    simp -implicitDefEqProofs (disch := omega) only [↓c16_9_eq, dcT, dcF,Ab,Ac, e1, e3, e4, hw, ↓cnd_true, ↓cnd_false, ↓Option.bind_some, ↓obH_some', bin_add, bin_sub, bin_mul, bin_lss, bin_leq, bin_gtr, bin_geq, bin_eql, bin_neq, un_not, un_neg, Option.bind_some, Option.bind_none, Option.map_some, cnd_true, cnd_false, pickV_true, pickV_false, gd_true, gd_false, gdV_true, gdV_false, gdH_true, gdH_false, gdS_true, gdS_false, wt_ff, wt_tt, wt_ft, wt_tf, wt_undef, obH_some', extractV_tuple, nilCheckV_ptr, againK_normal, againK_exit, againK_ret, blockK_normal, blockK_same, blockK_ret, seqK_normal, seqK_exit, seqK_ret, fin_done, if_true', if_false', Bool.not_true, Bool.not_false, idx0, idx1, idx2, idx3, idx4, chk_nil_l, chk_nil_r, done_nm, up_cons, up_nil, cond_true, cond_false, Nat.reduceBEq]
    refine ih (bs ++ [.slice a 1 c]) h2 (by rw [List.length_append, List.length_singleton]; omega) R2 _ ?_ ?_
    · exact Ab
    · rw [List.length_append, List.length_singleton]; rfl
theorem putM_bad {m : MT} (h : goodMsg m = false) : putM m = [] := by unfold putM; rw [if_neg (by rw [h]; decide)]
theorem kn_bad {Q : Option (Value × Heap) → Prop} {p : Nat} {l : List MB} (hl : l.length = 16) (hbad : ∀ x ∈ l, goodMsg x.1 = false ∧ MTok x.1) (k : Ex → St → Option (Value × Heap)) (hk : ∀ (h' : Heap) (x : Nat → Value), Q (k .normal ⟨ar 148 x, h'⟩)) :
    ∀ (m i : Nat) (h : Heap), 16 = i + m → MRow h p l → ∀ x : Nat → Value, x 1 = .slice (some ⟨p, 0, none⟩) 16 16 → x 3 = .int .i64 i →
    Q (lK c16_44 148 x h (blockK 2 k)) := by
  intro m
  induction m with
  | zero =>
    intro i h hi R x Ab Ad
    rw [lK_eq]
    simp -implicitDefEqProofs (disch := omega) only [↓c16_44_eq, dcT, dcF,Ab,Ad, ↓cnd_true, ↓cnd_false, ↓Option.bind_some, ↓obH_some', bin_add, bin_sub, bin_mul, bin_lss, bin_leq, bin_gtr, bin_geq, bin_eql, bin_neq, un_not, un_neg, Option.bind_some, Option.bind_none, Option.map_some, cnd_true, cnd_false, pickV_true, pickV_false, gd_true, gd_false, gdV_true, gdV_false, gdH_true, gdH_false, gdS_true, gdS_false, wt_ff, wt_tt, wt_ft, wt_tf, wt_undef, obH_some', extractV_tuple, nilCheckV_ptr, againK_normal, againK_exit, againK_ret, blockK_normal, blockK_same, blockK_ret, seqK_normal, seqK_exit, seqK_ret, fin_done, if_true', if_false', Bool.not_true, Bool.not_false, idx0, idx1, idx2, idx3, idx4, chk_nil_l, chk_nil_r, done_nm, up_cons, up_nil, cond_true, cond_false, Nat.reduceBEq]
    exact hk h _
  | succ m ih =>
    intro i h hi R x Ab Ad
    rw [lK_eq]
    have hi' : i < l.length := by omega
    obtain ⟨g, ok⟩ := hbad _ (List.getElem_mem hi')
    have e0 := iaM p 16 16 i (by omega)
    have l0 := R.ldA hi'
    obtain ⟨h1, e1, y1⟩ := spec_GoodM (R.b _ (List.getElem_mem hi')).1 (R.s _ (List.getElem_mem hi')).1 ok
    rw [g] at e1
    have R1 := R.same y1.same
    have l1 := R1.ldA hi'
    obtain ⟨pa, pc, h2, e2, y2, _⟩ := spec_PutM (R1.b _ (List.getElem_mem hi')).1 (R1.s _ (List.getElem_mem hi')).1 ok
    rw [putM_bad g] at e2
    have ln : lenV Try.prog 23 (.slice pa ([] : List UInt8).length pc) h2 = some (.int .i64 0) := by kernel_rfl
    have R2 := R1.same y2.same
    have l2 := R2.ldA hi'
    obtain ⟨h3, e3, y3⟩ := spec_SizeM (R2.b _ (List.getElem_mem hi')).1 (R2.s _ (List.getElem_mem hi')).1 ok
    rw [putM_bad g, show ((([] : List UInt8).length : Nat) : Int) = 0 from rfl] at e3
    have R3 := R2.same y3.same
    have hw : IntKind.wrap .i64 ((i : Int) + 1) = ((i + 1 : Nat) : Int) := by rw [wrap_i64] <;> omega
    simp -implicitDefEqProofs (disch := omega) only [↓c16_44_eq, dcT, dcF,Ab,Ad, e0, l0, e1, l1, e2, ln, l2, e3, hw, ↓cnd_true, ↓cnd_false, ↓Option.bind_some, ↓obH_some', bin_add, bin_sub, bin_mul, bin_lss, bin_leq, bin_gtr, bin_geq, bin_eql, bin_neq, un_not, un_neg, Option.bind_some, Option.bind_none, Option.map_some, cnd_true, cnd_false, pickV_true, pickV_false, gd_true, gd_false, gdV_true, gdV_false, gdH_true, gdH_false, gdS_true, gdS_false, wt_ff, wt_tt, wt_ft, wt_tf, wt_undef, obH_some', extractV_tuple, nilCheckV_ptr, againK_normal, againK_exit, againK_ret, blockK_normal, blockK_same, blockK_ret, seqK_normal, seqK_exit, seqK_ret, fin_done, if_true', if_false', Bool.not_true, Bool.not_false, idx0, idx1, idx2, idx3, idx4, chk_nil_l, chk_nil_r, done_nm, up_cons, up_nil, cond_true, cond_false, Nat.reduceBEq]
    refine ih (i + 1) h3 (by omega) R3 _ ?_ ?_
    · exact Ab
    · rfl
variable {Q : Option (Value × Heap) → Prop} {p : Nat} {h : Heap} {b0 b1 b2 b3 b4 b5 b6 b7 b8 b9 b10 b11 b12 b13 b14 b15 : Value} {q5 q11 : Nat} {x : Nat → Value}
theorem kn_s0 (R : MRow h p [(wordM, b0, nilSl), (wordM, b1, nilSl), (wordM, b2, nilSl), (wordM, b3, nilSl), (wordM, b4, nilSl), (wordM, b5, nilSl), (wordM, b6, nilSl), (wordM, b7, nilSl), (wordM, b8, nilSl), (wordM, b9, nilSl), (wordM, b10, nilSl), (wordM, b11, nilSl), (wordM, b12, nilSl), (wordM, b13, nilSl), (wordM, b14, nilSl), (wordM, b15, nilSl)]) (k : Ex → St → Option (Value × Heap)) (hk : ∀ (h' : Heap) (x' : Nat → Value) , MRow h' p [(kM0, b0, nilSl), (wordM, b1, nilSl), (wordM, b2, nilSl), (wordM, b3, nilSl), (wordM, b4, nilSl), (wordM, b5, nilSl), (wordM, b6, nilSl), (wordM, b7, nilSl), (wordM, b8, nilSl), (wordM, b9, nilSl), (wordM, b10, nilSl), (wordM, b11, nilSl), (wordM, b12, nilSl), (wordM, b13, nilSl), (wordM, b14, nilSl), (wordM, b15, nilSl)] → x' 1 = .slice (some ⟨p, 0, none⟩) 16 16 → Q (k .normal ⟨ar 148 x', h'⟩)) (Ab : x 1 = .slice (some ⟨p, 0, none⟩) 16 16) : Q (cK c16_10 148 x h k) := by
  have e0 := iaM p 16 16 0 (by omega)
  simp only [Int.natCast_zero, Int.natCast_one, show ((0 : Nat) : Int) = 0 from rfl] at e0
  have B := R.b (wordM, b0, nilSl) (by simp)
  have T := R.s (wordM, b0, nilSl) (by simp)
  obtain ⟨h2, e2, R2, _, _⟩ := R.st (i := 0) (k := 0) (.int .i64 16) (kM0, b0, nilSl) (by simp) (by omega) rfl B T
  have e3 : storeV Try.prog 3 (.pointer (some ⟨p, 0 * 10 + 0, none⟩)) (.int .i64 16) h = some h2 := (smI _ _ _ _ _).trans e2
  simp -implicitDefEqProofs only [↓c16_10_eq,Ab, e0, faMo0, e3, ↓cnd_true, ↓cnd_false, ↓Option.bind_some, ↓obH_some', bin_add, bin_sub, bin_mul, bin_lss, bin_leq, bin_gtr, bin_geq, bin_eql, bin_neq, un_not, un_neg, Option.bind_some, Option.bind_none, Option.map_some, cnd_true, cnd_false, pickV_true, pickV_false, gd_true, gd_false, gdV_true, gdV_false, gdH_true, gdH_false, gdS_true, gdS_false, wt_ff, wt_tt, wt_ft, wt_tf, wt_undef, obH_some', extractV_tuple, nilCheckV_ptr, againK_normal, againK_exit, againK_ret, blockK_normal, blockK_same, blockK_ret, seqK_normal, seqK_exit, seqK_ret, fin_done, if_true', if_false', Bool.not_true, Bool.not_false, idx0, idx1, idx2, idx3, idx4, chk_nil_l, chk_nil_r, done_nm, up_cons, up_nil, cond_true, cond_false, Nat.reduceBEq]
  exact hk h2 _ R2 Ab
theorem kn_s1 (R : MRow h p [(kM0, b0, nilSl), (wordM, b1, nilSl), (wordM, b2, nilSl), (wordM, b3, nilSl), (wordM, b4, nilSl), (wordM, b5, nilSl), (wordM, b6, nilSl), (wordM, b7, nilSl), (wordM, b8, nilSl), (wordM, b9, nilSl), (wordM, b10, nilSl), (wordM, b11, nilSl), (wordM, b12, nilSl), (wordM, b13, nilSl), (wordM, b14, nilSl), (wordM, b15, nilSl)]) (k : Ex → St → Option (Value × Heap)) (hk : ∀ (h' : Heap) (x' : Nat → Value) , MRow h' p [(kM0, b0, nilSl), (kM1, b1, nilSl), (wordM, b2, nilSl), (wordM, b3, nilSl), (wordM, b4, nilSl), (wordM, b5, nilSl), (wordM, b6, nilSl), (wordM, b7, nilSl), (wordM, b8, nilSl), (wordM, b9, nilSl), (wordM, b10, nilSl), (wordM, b11, nilSl), (wordM, b12, nilSl), (wordM, b13, nilSl), (wordM, b14, nilSl), (wordM, b15, nilSl)] → x' 1 = .slice (some ⟨p, 0, none⟩) 16 16 → Q (k .normal ⟨ar 148 x', h'⟩)) (Ab : x 1 = .slice (some ⟨p, 0, none⟩) 16 16) : Q (cK c16_12 148 x h k) := by
  have e0 := iaM p 16 16 1 (by omega)
  simp only [Int.natCast_zero, Int.natCast_one, show ((1 : Nat) : Int) = 1 from rfl] at e0
  have B := R.b (wordM, b1, nilSl) (by simp)
  have T := R.s (wordM, b1, nilSl) (by simp)
  obtain ⟨h2, e2, R2, _, _⟩ := R.st (i := 1) (k := 1) (.int .u64 0) (kM1, b1, nilSl) (by simp) (by omega) rfl B T
  have e3 : storeV Try.prog 46 (.pointer (some ⟨p, 1 * 10 + 1, none⟩)) (.int .u64 0) h = some h2 := (stU _ _ _ _ _).trans e2
  simp -implicitDefEqProofs only [↓c16_12_eq,Ab, e0, faMo1, e3, ↓cnd_true, ↓cnd_false, ↓Option.bind_some, ↓obH_some', bin_add, bin_sub, bin_mul, bin_lss, bin_leq, bin_gtr, bin_geq, bin_eql, bin_neq, un_not, un_neg, Option.bind_some, Option.bind_none, Option.map_some, cnd_true, cnd_false, pickV_true, pickV_false, gd_true, gd_false, gdV_true, gdV_false, gdH_true, gdH_false, gdS_true, gdS_false, wt_ff, wt_tt, wt_ft, wt_tf, wt_undef, obH_some', extractV_tuple, nilCheckV_ptr, againK_normal, againK_exit, againK_ret, blockK_normal, blockK_same, blockK_ret, seqK_normal, seqK_exit, seqK_ret, fin_done, if_true', if_false', Bool.not_true, Bool.not_false, idx0, idx1, idx2, idx3, idx4, chk_nil_l, chk_nil_r, done_nm, up_cons, up_nil, cond_true, cond_false, Nat.reduceBEq]
  exact hk h2 _ R2 Ab
theorem kn_s2 (R : MRow h p [(kM0, b0, nilSl), (kM1, b1, nilSl), (wordM, b2, nilSl), (wordM, b3, nilSl), (wordM, b4, nilSl), (wordM, b5, nilSl), (wordM, b6, nilSl), (wordM, b7, nilSl), (wordM, b8, nilSl), (wordM, b9, nilSl), (wordM, b10, nilSl), (wordM, b11, nilSl), (wordM, b12, nilSl), (wordM, b13, nilSl), (wordM, b14, nilSl), (wordM, b15, nilSl)]) (k : Ex → St → Option (Value × Heap)) (hk : ∀ (h' : Heap) (x' : Nat → Value) , MRow h' p [(kM0, b0, nilSl), (kM1, b1, nilSl), (kM2, b2, nilSl), (wordM, b3, nilSl), (wordM, b4, nilSl), (wordM, b5, nilSl), (wordM, b6, nilSl), (wordM, b7, nilSl), (wordM, b8, nilSl), (wordM, b9, nilSl), (wordM, b10, nilSl), (wordM, b11, nilSl), (wordM, b12, nilSl), (wordM, b13, nilSl), (wordM, b14, nilSl), (wordM, b15, nilSl)] → x' 1 = .slice (some ⟨p, 0, none⟩) 16 16 → Q (k .normal ⟨ar 148 x', h'⟩)) (Ab : x 1 = .slice (some ⟨p, 0, none⟩) 16 16) : Q (cK c16_14 148 x h k) := by
  have e0 := iaM p 16 16 2 (by omega)
  simp only [Int.natCast_zero, Int.natCast_one, show ((2 : Nat) : Int) = 2 from rfl] at e0
  have B := R.b (wordM, b2, nilSl) (by simp)
  have T := R.s (wordM, b2, nilSl) (by simp)
  obtain ⟨h2, e2, R2, _, _⟩ := R.st (i := 2) (k := 2) (.int .u64 1) (kM2, b2, nilSl) (by simp) (by omega) rfl B T
  have e3 : storeV Try.prog 47 (.pointer (some ⟨p, 2 * 10 + 2, none⟩)) (.int .u64 1) h = some h2 := (stSet _ _ _ _ _).trans e2
  simp -implicitDefEqProofs only [↓c16_14_eq,Ab, e0, faMo2, e3, ↓cnd_true, ↓cnd_false, ↓Option.bind_some, ↓obH_some', bin_add, bin_sub, bin_mul, bin_lss, bin_leq, bin_gtr, bin_geq, bin_eql, bin_neq, un_not, un_neg, Option.bind_some, Option.bind_none, Option.map_some, cnd_true, cnd_false, pickV_true, pickV_false, gd_true, gd_false, gdV_true, gdV_false, gdH_true, gdH_false, gdS_true, gdS_false, wt_ff, wt_tt, wt_ft, wt_tf, wt_undef, obH_some', extractV_tuple, nilCheckV_ptr, againK_normal, againK_exit, againK_ret, blockK_normal, blockK_same, blockK_ret, seqK_normal, seqK_exit, seqK_ret, fin_done, if_true', if_false', Bool.not_true, Bool.not_false, idx0, idx1, idx2, idx3, idx4, chk_nil_l, chk_nil_r, done_nm, up_cons, up_nil, cond_true, cond_false, Nat.reduceBEq]
  exact hk h2 _ R2 Ab
theorem kn_s3 (R : MRow h p [(kM0, b0, nilSl), (kM1, b1, nilSl), (kM2, b2, nilSl), (wordM, b3, nilSl), (wordM, b4, nilSl), (wordM, b5, nilSl), (wordM, b6, nilSl), (wordM, b7, nilSl), (wordM, b8, nilSl), (wordM, b9, nilSl), (wordM, b10, nilSl), (wordM, b11, nilSl), (wordM, b12, nilSl), (wordM, b13, nilSl), (wordM, b14, nilSl), (wordM, b15, nilSl)]) (k : Ex → St → Option (Value × Heap)) (hk : ∀ (h' : Heap) (x' : Nat → Value) , MRow h' p [(kM0, b0, nilSl), (kM1, b1, nilSl), (kM2, b2, nilSl), (kM3, b3, nilSl), (wordM, b4, nilSl), (wordM, b5, nilSl), (wordM, b6, nilSl), (wordM, b7, nilSl), (wordM, b8, nilSl), (wordM, b9, nilSl), (wordM, b10, nilSl), (wordM, b11, nilSl), (wordM, b12, nilSl), (wordM, b13, nilSl), (wordM, b14, nilSl), (wordM, b15, nilSl)] → x' 1 = .slice (some ⟨p, 0, none⟩) 16 16 → Q (k .normal ⟨ar 148 x', h'⟩)) (Ab : x 1 = .slice (some ⟨p, 0, none⟩) 16 16) : Q (cK c16_16 148 x h k) := by
  have e0 := iaM p 16 16 3 (by omega)
  simp only [Int.natCast_zero, Int.natCast_one, show ((3 : Nat) : Int) = 3 from rfl] at e0
  have B := R.b (wordM, b3, nilSl) (by simp)
  have T := R.s (wordM, b3, nilSl) (by simp)
  obtain ⟨h2, e2, R2, _, _⟩ := R.st (i := 3) (k := 2) (.int .u64 65536) (kM3, b3, nilSl) (by simp) (by omega) rfl B T
  have e3 : storeV Try.prog 47 (.pointer (some ⟨p, 3 * 10 + 2, none⟩)) (.int .u64 65536) h = some h2 := (stSet _ _ _ _ _).trans e2
  simp -implicitDefEqProofs only [↓c16_16_eq,Ab, e0, faMo2, e3, ↓cnd_true, ↓cnd_false, ↓Option.bind_some, ↓obH_some', bin_add, bin_sub, bin_mul, bin_lss, bin_leq, bin_gtr, bin_geq, bin_eql, bin_neq, un_not, un_neg, Option.bind_some, Option.bind_none, Option.map_some, cnd_true, cnd_false, pickV_true, pickV_false, gd_true, gd_false, gdV_true, gdV_false, gdH_true, gdH_false, gdS_true, gdS_false, wt_ff, wt_tt, wt_ft, wt_tf, wt_undef, obH_some', extractV_tuple, nilCheckV_ptr, againK_normal, againK_exit, againK_ret, blockK_normal, blockK_same, blockK_ret, seqK_normal, seqK_exit, seqK_ret, fin_done, if_true', if_false', Bool.not_true, Bool.not_false, idx0, idx1, idx2, idx3, idx4, chk_nil_l, chk_nil_r, done_nm, up_cons, up_nil, cond_true, cond_false, Nat.reduceBEq]
  exact hk h2 _ R2 Ab
theorem kn_s4 (R : MRow h p [(kM0, b0, nilSl), (kM1, b1, nilSl), (kM2, b2, nilSl), (kM3, b3, nilSl), (wordM, b4, nilSl), (wordM, b5, nilSl), (wordM, b6, nilSl), (wordM, b7, nilSl), (wordM, b8, nilSl), (wordM, b9, nilSl), (wordM, b10, nilSl), (wordM, b11, nilSl), (wordM, b12, nilSl), (wordM, b13, nilSl), (wordM, b14, nilSl), (wordM, b15, nilSl)]) (k : Ex → St → Option (Value × Heap)) (hk : ∀ (h' : Heap) (x' : Nat → Value) , MRow h' p [(kM0, b0, nilSl), (kM1, b1, nilSl), (kM2, b2, nilSl), (kM3, b3, nilSl), (kM4, b4, nilSl), (wordM, b5, nilSl), (wordM, b6, nilSl), (wordM, b7, nilSl), (wordM, b8, nilSl), (wordM, b9, nilSl), (wordM, b10, nilSl), (wordM, b11, nilSl), (wordM, b12, nilSl), (wordM, b13, nilSl), (wordM, b14, nilSl), (wordM, b15, nilSl)] → x' 1 = .slice (some ⟨p, 0, none⟩) 16 16 → Q (k .normal ⟨ar 148 x', h'⟩)) (Ab : x 1 = .slice (some ⟨p, 0, none⟩) 16 16) : Q (cK c16_18 148 x h k) := by
  have e0 := iaM p 16 16 4 (by omega)
  simp only [Int.natCast_zero, Int.natCast_one, show ((4 : Nat) : Int) = 4 from rfl] at e0
  have B := R.b (wordM, b4, nilSl) (by simp)
  have T := R.s (wordM, b4, nilSl) (by simp)
  obtain ⟨h2, e2, R2, _, _⟩ := R.st (i := 4) (k := 3) (.int .i64 4) (kM4, b4, nilSl) (by simp) (by omega) rfl B T
  have e3 : storeV Try.prog 3 (.pointer (some ⟨p, 4 * 10 + 3, none⟩)) (.int .i64 4) h = some h2 := (smI _ _ _ _ _).trans e2
  simp -implicitDefEqProofs only [↓c16_18_eq,Ab, e0, faMo3, e3, ↓cnd_true, ↓cnd_false, ↓Option.bind_some, ↓obH_some', bin_add, bin_sub, bin_mul, bin_lss, bin_leq, bin_gtr, bin_geq, bin_eql, bin_neq, un_not, un_neg, Option.bind_some, Option.bind_none, Option.map_some, cnd_true, cnd_false, pickV_true, pickV_false, gd_true, gd_false, gdV_true, gdV_false, gdH_true, gdH_false, gdS_true, gdS_false, wt_ff, wt_tt, wt_ft, wt_tf, wt_undef, obH_some', extractV_tuple, nilCheckV_ptr, againK_normal, againK_exit, againK_ret, blockK_normal, blockK_same, blockK_ret, seqK_normal, seqK_exit, seqK_ret, fin_done, if_true', if_false', Bool.not_true, Bool.not_false, idx0, idx1, idx2, idx3, idx4, chk_nil_l, chk_nil_r, done_nm, up_cons, up_nil, cond_true, cond_false, Nat.reduceBEq]
  exact hk h2 _ R2 Ab
theorem kn_s5 (R : MRow h p [(kM0, b0, nilSl), (kM1, b1, nilSl), (kM2, b2, nilSl), (kM3, b3, nilSl), (kM4, b4, nilSl), (wordM, b5, nilSl), (wordM, b6, nilSl), (wordM, b7, nilSl), (wordM, b8, nilSl), (wordM, b9, nilSl), (wordM, b10, nilSl), (wordM, b11, nilSl), (wordM, b12, nilSl), (wordM, b13, nilSl), (wordM, b14, nilSl), (wordM, b15, nilSl)]) (k : Ex → St → Option (Value × Heap)) (hk : ∀ (h' : Heap) (x' : Nat → Value) (q5 : Nat) , MRow h' p [(kM0, b0, nilSl), (kM1, b1, nilSl), (kM2, b2, nilSl), (kM3, b3, nilSl), (kM4, b4, nilSl), (kM5, (.slice (some ⟨q5, 0, none⟩) 257 257), nilSl), (wordM, b6, nilSl), (wordM, b7, nilSl), (wordM, b8, nilSl), (wordM, b9, nilSl), (wordM, b10, nilSl), (wordM, b11, nilSl), (wordM, b12, nilSl), (wordM, b13, nilSl), (wordM, b14, nilSl), (wordM, b15, nilSl)] → x' 1 = .slice (some ⟨p, 0, none⟩) 16 16 → Q (k .normal ⟨ar 148 x', h'⟩)) (Ab : x 1 = .slice (some ⟨p, 0, none⟩) 16 16) : Q (cK c16_20 148 x h k) := by
  have e0 := iaM p 16 16 5 (by omega)
  simp only [Int.natCast_zero, Int.natCast_one, show ((5 : Nat) : Int) = 5 from rfl] at e0
  have B := R.b (wordM, b5, nilSl) (by simp)
  have T := R.s (wordM, b5, nilSl) (by simp)
  have hp : p < h.blks.length := R.c.lt
  have e1 := zeros_b 257 (by omega) h
  simp only [show ((257 : Nat) : Int) = 257 from rfl] at e1
  have sz := sb_zeros (h := h) 257 (by omega)
  have R1 := R.same (Same.new h (.cells (List.replicate 257 (.int .u8 0))) 5)
  have B := R1.b (wordM, b5, nilSl) (by simp)
  have T := R1.s (wordM, b5, nilSl) (by simp)
  obtain ⟨h2, e2, R2, _, _⟩ := R1.st (i := 5) (k := 8) (.slice (some ⟨h.blks.length, 0, none⟩) 257 257) (kM5, (.slice (some ⟨h.blks.length, 0, none⟩) 257 257), nilSl) (by simp) (by omega) rfl ⟨by show SB _ _ (List.replicate 257 0); exact sz, by simp [blockOf]; omega⟩ T
  have e3 : storeV Try.prog 23 (.pointer (some ⟨p, 5 * 10 + 8, none⟩)) (.slice (some ⟨h.blks.length, 0, none⟩) 257 257) _ = some h2 := (stB _ _ _ _ _ _).trans e2
  simp -implicitDefEqProofs only [↓c16_20_eq,Ab, e1, e0, faMo8, e3, ↓cnd_true, ↓cnd_false, ↓Option.bind_some, ↓obH_some', bin_add, bin_sub, bin_mul, bin_lss, bin_leq, bin_gtr, bin_geq, bin_eql, bin_neq, un_not, un_neg, Option.bind_some, Option.bind_none, Option.map_some, cnd_true, cnd_false, pickV_true, pickV_false, gd_true, gd_false, gdV_true, gdV_false, gdH_true, gdH_false, gdS_true, gdS_false, wt_ff, wt_tt, wt_ft, wt_tf, wt_undef, obH_some', extractV_tuple, nilCheckV_ptr, againK_normal, againK_exit, againK_ret, blockK_normal, blockK_same, blockK_ret, seqK_normal, seqK_exit, seqK_ret, fin_done, if_true', if_false', Bool.not_true, Bool.not_false, idx0, idx1, idx2, idx3, idx4, chk_nil_l, chk_nil_r, done_nm, up_cons, up_nil, cond_true, cond_false, Nat.reduceBEq]
  exact hk h2 _ h.blks.length R2 Ab
theorem kn_s6 (R : MRow h p [(kM0, b0, nilSl), (kM1, b1, nilSl), (kM2, b2, nilSl), (kM3, b3, nilSl), (kM4, b4, nilSl), (kM5, (.slice (some ⟨q5, 0, none⟩) 257 257), nilSl), (wordM, b6, nilSl), (wordM, b7, nilSl), (wordM, b8, nilSl), (wordM, b9, nilSl), (wordM, b10, nilSl), (wordM, b11, nilSl), (wordM, b12, nilSl), (wordM, b13, nilSl), (wordM, b14, nilSl), (wordM, b15, nilSl)]) (k : Ex → St → Option (Value × Heap)) (hk : ∀ (h' : Heap) (x' : Nat → Value) , MRow h' p [(kM0, b0, nilSl), (kM1, b1, nilSl), (kM2, b2, nilSl), (kM3, b3, nilSl), (kM4, b4, nilSl), (kM5, (.slice (some ⟨q5, 0, none⟩) 257 257), nilSl), (kM6, b6, nilSl), (wordM, b7, nilSl), (wordM, b8, nilSl), (wordM, b9, nilSl), (wordM, b10, nilSl), (wordM, b11, nilSl), (wordM, b12, nilSl), (wordM, b13, nilSl), (wordM, b14, nilSl), (wordM, b15, nilSl)] → x' 1 = .slice (some ⟨p, 0, none⟩) 16 16 → Q (k .normal ⟨ar 148 x', h'⟩)) (Ab : x 1 = .slice (some ⟨p, 0, none⟩) 16 16) : Q (cK c16_22 148 x h k) := by
  have e0 := iaM p 16 16 6 (by omega)
  simp only [Int.natCast_zero, Int.natCast_one, show ((6 : Nat) : Int) = 6 from rfl] at e0
  have B := R.b (wordM, b6, nilSl) (by simp)
  have T := R.s (wordM, b6, nilSl) (by simp)
  obtain ⟨h2, e2, R2, _, _⟩ := R.st (i := 6) (k := 3) (.int .i64 2) (kM6, b6, nilSl) (by simp) (by omega) rfl B T
  have e3 : storeV Try.prog 3 (.pointer (some ⟨p, 6 * 10 + 3, none⟩)) (.int .i64 2) h = some h2 := (smI _ _ _ _ _).trans e2
  simp -implicitDefEqProofs only [↓c16_22_eq,Ab, e0, faMo3, e3, ↓cnd_true, ↓cnd_false, ↓Option.bind_some, ↓obH_some', bin_add, bin_sub, bin_mul, bin_lss, bin_leq, bin_gtr, bin_geq, bin_eql, bin_neq, un_not, un_neg, Option.bind_some, Option.bind_none, Option.map_some, cnd_true, cnd_false, pickV_true, pickV_false, gd_true, gd_false, gdV_true, gdV_false, gdH_true, gdH_false, gdS_true, gdS_false, wt_ff, wt_tt, wt_ft, wt_tf, wt_undef, obH_some', extractV_tuple, nilCheckV_ptr, againK_normal, againK_exit, againK_ret, blockK_normal, blockK_same, blockK_ret, seqK_normal, seqK_exit, seqK_ret, fin_done, if_true', if_false', Bool.not_true, Bool.not_false, idx0, idx1, idx2, idx3, idx4, chk_nil_l, chk_nil_r, done_nm, up_cons, up_nil, cond_true, cond_false, Nat.reduceBEq]
  exact hk h2 _ R2 Ab
theorem kn_s7 (R : MRow h p [(kM0, b0, nilSl), (kM1, b1, nilSl), (kM2, b2, nilSl), (kM3, b3, nilSl), (kM4, b4, nilSl), (kM5, (.slice (some ⟨q5, 0, none⟩) 257 257), nilSl), (kM6, b6, nilSl), (wordM, b7, nilSl), (wordM, b8, nilSl), (wordM, b9, nilSl), (wordM, b10, nilSl), (wordM, b11, nilSl), (wordM, b12, nilSl), (wordM, b13, nilSl), (wordM, b14, nilSl), (wordM, b15, nilSl)]) (k : Ex → St → Option (Value × Heap)) (hk : ∀ (h' : Heap) (x' : Nat → Value) , MRow h' p [(kM0, b0, nilSl), (kM1, b1, nilSl), (kM2, b2, nilSl), (kM3, b3, nilSl), (kM4, b4, nilSl), (kM5, (.slice (some ⟨q5, 0, none⟩) 257 257), nilSl), (kM6, b6, nilSl), (kM7, b7, nilSl), (wordM, b8, nilSl), (wordM, b9, nilSl), (wordM, b10, nilSl), (wordM, b11, nilSl), (wordM, b12, nilSl), (wordM, b13, nilSl), (wordM, b14, nilSl), (wordM, b15, nilSl)] → x' 1 = .slice (some ⟨p, 0, none⟩) 16 16 → Q (k .normal ⟨ar 148 x', h'⟩)) (Ab : x 1 = .slice (some ⟨p, 0, none⟩) 16 16) : Q (cK c16_24 148 x h k) := by
  have e0 := iaM p 16 16 7 (by omega)
  simp only [Int.natCast_zero, Int.natCast_one, show ((7 : Nat) : Int) = 7 from rfl] at e0
  have B := R.b (wordM, b7, nilSl) (by simp)
  have T := R.s (wordM, b7, nilSl) (by simp)
  obtain ⟨h2, e2, R2, _, _⟩ := R.st (i := 7) (k := 4) (.int .i64 1) (kM7, b7, nilSl) (by simp) (by omega) rfl B T
  have e3 : storeV Try.prog 3 (.pointer (some ⟨p, 7 * 10 + 4, none⟩)) (.int .i64 1) h = some h2 := (smI _ _ _ _ _).trans e2
  simp -implicitDefEqProofs only [↓c16_24_eq,Ab, e0, faMo4, e3, ↓cnd_true, ↓cnd_false, ↓Option.bind_some, ↓obH_some', bin_add, bin_sub, bin_mul, bin_lss, bin_leq, bin_gtr, bin_geq, bin_eql, bin_neq, un_not, un_neg, Option.bind_some, Option.bind_none, Option.map_some, cnd_true, cnd_false, pickV_true, pickV_false, gd_true, gd_false, gdV_true, gdV_false, gdH_true, gdH_false, gdS_true, gdS_false, wt_ff, wt_tt, wt_ft, wt_tf, wt_undef, obH_some', extractV_tuple, nilCheckV_ptr, againK_normal, againK_exit, againK_ret, blockK_normal, blockK_same, blockK_ret, seqK_normal, seqK_exit, seqK_ret, fin_done, if_true', if_false', Bool.not_true, Bool.not_false, idx0, idx1, idx2, idx3, idx4, chk_nil_l, chk_nil_r, done_nm, up_cons, up_nil, cond_true, cond_false, Nat.reduceBEq]
  exact hk h2 _ R2 Ab
theorem kn_s8 (R : MRow h p [(kM0, b0, nilSl), (kM1, b1, nilSl), (kM2, b2, nilSl), (kM3, b3, nilSl), (kM4, b4, nilSl), (kM5, (.slice (some ⟨q5, 0, none⟩) 257 257), nilSl), (kM6, b6, nilSl), (kM7, b7, nilSl), (wordM, b8, nilSl), (wordM, b9, nilSl), (wordM, b10, nilSl), (wordM, b11, nilSl), (wordM, b12, nilSl), (wordM, b13, nilSl), (wordM, b14, nilSl), (wordM, b15, nilSl)]) (k : Ex → St → Option (Value × Heap)) (hk : ∀ (h' : Heap) (x' : Nat → Value) , MRow h' p [(kM0, b0, nilSl), (kM1, b1, nilSl), (kM2, b2, nilSl), (kM3, b3, nilSl), (kM4, b4, nilSl), (kM5, (.slice (some ⟨q5, 0, none⟩) 257 257), nilSl), (kM6, b6, nilSl), (kM7, b7, nilSl), (kM8, b8, nilSl), (wordM, b9, nilSl), (wordM, b10, nilSl), (wordM, b11, nilSl), (wordM, b12, nilSl), (wordM, b13, nilSl), (wordM, b14, nilSl), (wordM, b15, nilSl)] → x' 1 = .slice (some ⟨p, 0, none⟩) 16 16 → Q (k .normal ⟨ar 148 x', h'⟩)) (Ab : x 1 = .slice (some ⟨p, 0, none⟩) 16 16) : Q (cK c16_26 148 x h k) := by
  have e0 := iaM p 16 16 8 (by omega)
  simp only [Int.natCast_zero, Int.natCast_one, show ((8 : Nat) : Int) = 8 from rfl] at e0
  have B := R.b (wordM, b8, nilSl) (by simp)
  have T := R.s (wordM, b8, nilSl) (by simp)
  obtain ⟨h2, e2, R2, _, _⟩ := R.st (i := 8) (k := 5) (.float .f64 4607182418800017408) (kM8, b8, nilSl) (by simp) (by omega) rfl B T
  have e3 : storeV Try.prog 84 (.pointer (some ⟨p, 8 * 10 + 5, none⟩)) (.float .f64 4607182418800017408) h = some h2 := (smF _ _ _ _).trans e2
  simp -implicitDefEqProofs only [↓c16_26_eq,Ab, e0, faMo5, e3, ↓cnd_true, ↓cnd_false, ↓Option.bind_some, ↓obH_some', bin_add, bin_sub, bin_mul, bin_lss, bin_leq, bin_gtr, bin_geq, bin_eql, bin_neq, un_not, un_neg, Option.bind_some, Option.bind_none, Option.map_some, cnd_true, cnd_false, pickV_true, pickV_false, gd_true, gd_false, gdV_true, gdV_false, gdH_true, gdH_false, gdS_true, gdS_false, wt_ff, wt_tt, wt_ft, wt_tf, wt_undef, obH_some', extractV_tuple, nilCheckV_ptr, againK_normal, againK_exit, againK_ret, blockK_normal, blockK_same, blockK_ret, seqK_normal, seqK_exit, seqK_ret, fin_done, if_true', if_false', Bool.not_true, Bool.not_false, idx0, idx1, idx2, idx3, idx4, chk_nil_l, chk_nil_r, done_nm, up_cons, up_nil, cond_true, cond_false, Nat.reduceBEq]
  exact hk h2 _ R2 Ab
theorem kn_s9 (R : MRow h p [(kM0, b0, nilSl), (kM1, b1, nilSl), (kM2, b2, nilSl), (kM3, b3, nilSl), (kM4, b4, nilSl), (kM5, (.slice (some ⟨q5, 0, none⟩) 257 257), nilSl), (kM6, b6, nilSl), (kM7, b7, nilSl), (kM8, b8, nilSl), (wordM, b9, nilSl), (wordM, b10, nilSl), (wordM, b11, nilSl), (wordM, b12, nilSl), (wordM, b13, nilSl), (wordM, b14, nilSl), (wordM, b15, nilSl)]) (k : Ex → St → Option (Value × Heap)) (hk : ∀ (h' : Heap) (x' : Nat → Value) , MRow h' p [(kM0, b0, nilSl), (kM1, b1, nilSl), (kM2, b2, nilSl), (kM3, b3, nilSl), (kM4, b4, nilSl), (kM5, (.slice (some ⟨q5, 0, none⟩) 257 257), nilSl), (kM6, b6, nilSl), (kM7, b7, nilSl), (kM8, b8, nilSl), (kM9, b9, nilSl), (wordM, b10, nilSl), (wordM, b11, nilSl), (wordM, b12, nilSl), (wordM, b13, nilSl), (wordM, b14, nilSl), (wordM, b15, nilSl)] → x' 1 = .slice (some ⟨p, 0, none⟩) 16 16 → Q (k .normal ⟨ar 148 x', h'⟩)) (Ab : x 1 = .slice (some ⟨p, 0, none⟩) 16 16) : Q (cK c16_28 148 x h k) := by
  have e0 := iaM p 16 16 9 (by omega)
  simp only [Int.natCast_zero, Int.natCast_one, show ((9 : Nat) : Int) = 9 from rfl] at e0
  have B := R.b (wordM, b9, nilSl) (by simp)
  have T := R.s (wordM, b9, nilSl) (by simp)
  obtain ⟨h2, e2, R2, _, _⟩ := R.st (i := 9) (k := 6) (.int .i64 1) (kM9, b9, nilSl) (by simp) (by omega) rfl B T
  have e3 : storeV Try.prog 3 (.pointer (some ⟨p, 9 * 10 + 6, none⟩)) (.int .i64 1) h = some h2 := (smI _ _ _ _ _).trans e2
  simp -implicitDefEqProofs only [↓c16_28_eq,Ab, e0, faMo6, e3, ↓cnd_true, ↓cnd_false, ↓Option.bind_some, ↓obH_some', bin_add, bin_sub, bin_mul, bin_lss, bin_leq, bin_gtr, bin_geq, bin_eql, bin_neq, un_not, un_neg, Option.bind_some, Option.bind_none, Option.map_some, cnd_true, cnd_false, pickV_true, pickV_false, gd_true, gd_false, gdV_true, gdV_false, gdH_true, gdH_false, gdS_true, gdS_false, wt_ff, wt_tt, wt_ft, wt_tf, wt_undef, obH_some', extractV_tuple, nilCheckV_ptr, againK_normal, againK_exit, againK_ret, blockK_normal, blockK_same, blockK_ret, seqK_normal, seqK_exit, seqK_ret, fin_done, if_true', if_false', Bool.not_true, Bool.not_false, idx0, idx1, idx2, idx3, idx4, chk_nil_l, chk_nil_r, done_nm, up_cons, up_nil, cond_true, cond_false, Nat.reduceBEq]
  exact hk h2 _ R2 Ab
theorem kn_s10 (R : MRow h p [(kM0, b0, nilSl), (kM1, b1, nilSl), (kM2, b2, nilSl), (kM3, b3, nilSl), (kM4, b4, nilSl), (kM5, (.slice (some ⟨q5, 0, none⟩) 257 257), nilSl), (kM6, b6, nilSl), (kM7, b7, nilSl), (kM8, b8, nilSl), (kM9, b9, nilSl), (wordM, b10, nilSl), (wordM, b11, nilSl), (wordM, b12, nilSl), (wordM, b13, nilSl), (wordM, b14, nilSl), (wordM, b15, nilSl)]) (k : Ex → St → Option (Value × Heap)) (hk : ∀ (h' : Heap) (x' : Nat → Value) , MRow h' p [(kM0, b0, nilSl), (kM1, b1, nilSl), (kM2, b2, nilSl), (kM3, b3, nilSl), (kM4, b4, nilSl), (kM5, (.slice (some ⟨q5, 0, none⟩) 257 257), nilSl), (kM6, b6, nilSl), (kM7, b7, nilSl), (kM8, b8, nilSl), (kM9, b9, nilSl), (kM10, b10, nilSl), (wordM, b11, nilSl), (wordM, b12, nilSl), (wordM, b13, nilSl), (wordM, b14, nilSl), (wordM, b15, nilSl)] → x' 1 = .slice (some ⟨p, 0, none⟩) 16 16 → Q (k .normal ⟨ar 148 x', h'⟩)) (Ab : x 1 = .slice (some ⟨p, 0, none⟩) 16 16) : Q (cK c16_30 148 x h k) := by
  have e0 := iaM p 16 16 10 (by omega)
  simp only [Int.natCast_zero, Int.natCast_one, show ((10 : Nat) : Int) = 10 from rfl] at e0
  have B := R.b (wordM, b10, nilSl) (by simp)
  have T := R.s (wordM, b10, nilSl) (by simp)
  obtain ⟨h2, e2, R2, _, _⟩ := R.st (i := 10) (k := 7) (.int .u64 1) (kM10, b10, nilSl) (by simp) (by omega) rfl B T
  have e3 : storeV Try.prog 46 (.pointer (some ⟨p, 10 * 10 + 7, none⟩)) (.int .u64 1) h = some h2 := (stU _ _ _ _ _).trans e2
  simp -implicitDefEqProofs only [↓c16_30_eq,Ab, e0, faMo7, e3, ↓cnd_true, ↓cnd_false, ↓Option.bind_some, ↓obH_some', bin_add, bin_sub, bin_mul, bin_lss, bin_leq, bin_gtr, bin_geq, bin_eql, bin_neq, un_not, un_neg, Option.bind_some, Option.bind_none, Option.map_some, cnd_true, cnd_false, pickV_true, pickV_false, gd_true, gd_false, gdV_true, gdV_false, gdH_true, gdH_false, gdS_true, gdS_false, wt_ff, wt_tt, wt_ft, wt_tf, wt_undef, obH_some', extractV_tuple, nilCheckV_ptr, againK_normal, againK_exit, againK_ret, blockK_normal, blockK_same, blockK_ret, seqK_normal, seqK_exit, seqK_ret, fin_done, if_true', if_false', Bool.not_true, Bool.not_false, idx0, idx1, idx2, idx3, idx4, chk_nil_l, chk_nil_r, done_nm, up_cons, up_nil, cond_true, cond_false, Nat.reduceBEq]
  exact hk h2 _ R2 Ab
theorem kn_s11 (R : MRow h p [(kM0, b0, nilSl), (kM1, b1, nilSl), (kM2, b2, nilSl), (kM3, b3, nilSl), (kM4, b4, nilSl), (kM5, (.slice (some ⟨q5, 0, none⟩) 257 257), nilSl), (kM6, b6, nilSl), (kM7, b7, nilSl), (kM8, b8, nilSl), (kM9, b9, nilSl), (kM10, b10, nilSl), (wordM, b11, nilSl), (wordM, b12, nilSl), (wordM, b13, nilSl), (wordM, b14, nilSl), (wordM, b15, nilSl)]) (k : Ex → St → Option (Value × Heap)) (hk : ∀ (h' : Heap) (x' : Nat → Value) (q11 : Nat) , MRow h' p [(kM0, b0, nilSl), (kM1, b1, nilSl), (kM2, b2, nilSl), (kM3, b3, nilSl), (kM4, b4, nilSl), (kM5, (.slice (some ⟨q5, 0, none⟩) 257 257), nilSl), (kM6, b6, nilSl), (kM7, b7, nilSl), (kM8, b8, nilSl), (kM9, b9, nilSl), (kM10, b10, nilSl), (kM11, b11, (.slice (some ⟨q11, 0, none⟩) 20001 20001)), (wordM, b12, nilSl), (wordM, b13, nilSl), (wordM, b14, nilSl), (wordM, b15, nilSl)] → x' 1 = .slice (some ⟨p, 0, none⟩) 16 16 → Q (k .normal ⟨ar 148 x', h'⟩)) (Ab : x 1 = .slice (some ⟨p, 0, none⟩) 16 16) : Q (cK c16_32 148 x h k) := by
  have e0 := iaM p 16 16 11 (by omega)
  simp only [Int.natCast_zero, Int.natCast_one, show ((11 : Nat) : Int) = 11 from rfl] at e0
  have B := R.b (wordM, b11, nilSl) (by simp)
  have T := R.s (wordM, b11, nilSl) (by simp)
  have hp : p < h.blks.length := R.c.lt
  have e1 := zeros_b 20001 (by omega) h
  simp only [show ((20001 : Nat) : Int) = 20001 from rfl] at e1
  have sz := sb_zeros (h := h) 20001 (by omega)
  have R1 := R.same (Same.new h (.cells (List.replicate 20001 (.int .u8 0))) 5)
  have B := R1.b (wordM, b11, nilSl) (by simp)
  have T := R1.s (wordM, b11, nilSl) (by simp)
  obtain ⟨h2, e2, R2, _, _⟩ := R1.st (i := 11) (k := 9) (.slice (some ⟨h.blks.length, 0, none⟩) 20001 20001) (kM11, b11, (.slice (some ⟨h.blks.length, 0, none⟩) 20001 20001)) (by simp) (by omega) rfl B ⟨by show SB _ _ (List.replicate 20001 0); exact sz, by simp [blockOf]; omega⟩
  have e3 : storeV Try.prog 23 (.pointer (some ⟨p, 11 * 10 + 9, none⟩)) (.slice (some ⟨h.blks.length, 0, none⟩) 20001 20001) _ = some h2 := (stB _ _ _ _ _ _).trans e2
  simp -implicitDefEqProofs only [↓c16_32_eq,Ab, e1, e0, faMo9, e3, ↓cnd_true, ↓cnd_false, ↓Option.bind_some, ↓obH_some', bin_add, bin_sub, bin_mul, bin_lss, bin_leq, bin_gtr, bin_geq, bin_eql, bin_neq, un_not, un_neg, Option.bind_some, Option.bind_none, Option.map_some, cnd_true, cnd_false, pickV_true, pickV_false, gd_true, gd_false, gdV_true, gdV_false, gdH_true, gdH_false, gdS_true, gdS_false, wt_ff, wt_tt, wt_ft, wt_tf, wt_undef, obH_some', extractV_tuple, nilCheckV_ptr, againK_normal, againK_exit, againK_ret, blockK_normal, blockK_same, blockK_ret, seqK_normal, seqK_exit, seqK_ret, fin_done, if_true', if_false', Bool.not_true, Bool.not_false, idx0, idx1, idx2, idx3, idx4, chk_nil_l, chk_nil_r, done_nm, up_cons, up_nil, cond_true, cond_false, Nat.reduceBEq]
  exact hk h2 _ h.blks.length R2 Ab
theorem kn_s12 (R : MRow h p [(kM0, b0, nilSl), (kM1, b1, nilSl), (kM2, b2, nilSl), (kM3, b3, nilSl), (kM4, b4, nilSl), (kM5, (.slice (some ⟨q5, 0, none⟩) 257 257), nilSl), (kM6, b6, nilSl), (kM7, b7, nilSl), (kM8, b8, nilSl), (kM9, b9, nilSl), (kM10, b10, nilSl), (kM11, b11, (.slice (some ⟨q11, 0, none⟩) 20001 20001)), (wordM, b12, nilSl), (wordM, b13, nilSl), (wordM, b14, nilSl), (wordM, b15, nilSl)]) (k : Ex → St → Option (Value × Heap)) (hk : ∀ (h' : Heap) (x' : Nat → Value) , MRow h' p [(kM0, b0, nilSl), (kM1, b1, nilSl), (kM2, b2, nilSl), (kM3, b3, nilSl), (kM4, b4, nilSl), (kM5, (.slice (some ⟨q5, 0, none⟩) 257 257), nilSl), (kM6, b6, nilSl), (kM7, b7, nilSl), (kM8, b8, nilSl), (kM9, b9, nilSl), (kM10, b10, nilSl), (kM11, b11, (.slice (some ⟨q11, 0, none⟩) 20001 20001)), (kM12, nilSl, nilSl), (wordM, b13, nilSl), (wordM, b14, nilSl), (wordM, b15, nilSl)] → x' 1 = .slice (some ⟨p, 0, none⟩) 16 16 → Q (k .normal ⟨ar 148 x', h'⟩)) (Ab : x 1 = .slice (some ⟨p, 0, none⟩) 16 16) : Q (cK c16_34 148 x h k) := by
  have e0 := iaM p 16 16 12 (by omega)
  simp only [Int.natCast_zero, Int.natCast_one, show ((12 : Nat) : Int) = 12 from rfl] at e0
  have B := R.b (wordM, b12, nilSl) (by simp)
  have T := R.s (wordM, b12, nilSl) (by simp)
  obtain ⟨h2, e2, R2, _, _⟩ := R.stM (i := 12) (kM12, nilSl, nilSl) (by simp) ⟨.nil, by simp [blockOf]⟩ ⟨.nil, by simp [blockOf]⟩
  have e3 : storeV Try.prog 104 (.pointer (some ⟨p, 12 * 10, none⟩)) (msgA kM12 nilSl nilSl) h = some h2 := (stMo _ _ _ _ _ _ _ _ _ _ _ _ _ _ _ _ _).trans e2
  simp -implicitDefEqProofs only [↓c16_34_eq,Ab, bdK12, e0, e3, ↓cnd_true, ↓cnd_false, ↓Option.bind_some, ↓obH_some', bin_add, bin_sub, bin_mul, bin_lss, bin_leq, bin_gtr, bin_geq, bin_eql, bin_neq, un_not, un_neg, Option.bind_some, Option.bind_none, Option.map_some, cnd_true, cnd_false, pickV_true, pickV_false, gd_true, gd_false, gdV_true, gdV_false, gdH_true, gdH_false, gdS_true, gdS_false, wt_ff, wt_tt, wt_ft, wt_tf, wt_undef, obH_some', extractV_tuple, nilCheckV_ptr, againK_normal, againK_exit, againK_ret, blockK_normal, blockK_same, blockK_ret, seqK_normal, seqK_exit, seqK_ret, fin_done, if_true', if_false', Bool.not_true, Bool.not_false, idx0, idx1, idx2, idx3, idx4, chk_nil_l, chk_nil_r, done_nm, up_cons, up_nil, cond_true, cond_false, Nat.reduceBEq]
  exact hk h2 _ R2 Ab
theorem kn_s13 (R : MRow h p [(kM0, b0, nilSl), (kM1, b1, nilSl), (kM2, b2, nilSl), (kM3, b3, nilSl), (kM4, b4, nilSl), (kM5, (.slice (some ⟨q5, 0, none⟩) 257 257), nilSl), (kM6, b6, nilSl), (kM7, b7, nilSl), (kM8, b8, nilSl), (kM9, b9, nilSl), (kM10, b10, nilSl), (kM11, b11, (.slice (some ⟨q11, 0, none⟩) 20001 20001)), (kM12, nilSl, nilSl), (wordM, b13, nilSl), (wordM, b14, nilSl), (wordM, b15, nilSl)]) (k : Ex → St → Option (Value × Heap)) (hk : ∀ (h' : Heap) (x' : Nat → Value) , MRow h' p [(kM0, b0, nilSl), (kM1, b1, nilSl), (kM2, b2, nilSl), (kM3, b3, nilSl), (kM4, b4, nilSl), (kM5, (.slice (some ⟨q5, 0, none⟩) 257 257), nilSl), (kM6, b6, nilSl), (kM7, b7, nilSl), (kM8, b8, nilSl), (kM9, b9, nilSl), (kM10, b10, nilSl), (kM11, b11, (.slice (some ⟨q11, 0, none⟩) 20001 20001)), (kM12, nilSl, nilSl), (kM13, nilSl, nilSl), (wordM, b14, nilSl), (wordM, b15, nilSl)] → x' 1 = .slice (some ⟨p, 0, none⟩) 16 16 → Q (k .normal ⟨ar 148 x', h'⟩)) (Ab : x 1 = .slice (some ⟨p, 0, none⟩) 16 16) : Q (cK c16_36 148 x h k) := by
  have e0 := iaM p 16 16 13 (by omega)
  simp only [Int.natCast_zero, Int.natCast_one, show ((13 : Nat) : Int) = 13 from rfl] at e0
  have B := R.b (wordM, b13, nilSl) (by simp)
  have T := R.s (wordM, b13, nilSl) (by simp)
  obtain ⟨h2, e2, R2, _, _⟩ := R.stM (i := 13) (kM13, nilSl, nilSl) (by simp) ⟨.nil, by simp [blockOf]⟩ ⟨.nil, by simp [blockOf]⟩
  have e3 : storeV Try.prog 104 (.pointer (some ⟨p, 13 * 10, none⟩)) (msgA kM13 nilSl nilSl) h = some h2 := (stMo _ _ _ _ _ _ _ _ _ _ _ _ _ _ _ _ _).trans e2
  simp -implicitDefEqProofs only [↓c16_36_eq,Ab, bdK13, e0, e3, ↓cnd_true, ↓cnd_false, ↓Option.bind_some, ↓obH_some', bin_add, bin_sub, bin_mul, bin_lss, bin_leq, bin_gtr, bin_geq, bin_eql, bin_neq, un_not, un_neg, Option.bind_some, Option.bind_none, Option.map_some, cnd_true, cnd_false, pickV_true, pickV_false, gd_true, gd_false, gdV_true, gdV_false, gdH_true, gdH_false, gdS_true, gdS_false, wt_ff, wt_tt, wt_ft, wt_tf, wt_undef, obH_some', extractV_tuple, nilCheckV_ptr, againK_normal, againK_exit, againK_ret, blockK_normal, blockK_same, blockK_ret, seqK_normal, seqK_exit, seqK_ret, fin_done, if_true', if_false', Bool.not_true, Bool.not_false, idx0, idx1, idx2, idx3, idx4, chk_nil_l, chk_nil_r, done_nm, up_cons, up_nil, cond_true, cond_false, Nat.reduceBEq]
  exact hk h2 _ R2 Ab
theorem kn_s14 (R : MRow h p [(kM0, b0, nilSl), (kM1, b1, nilSl), (kM2, b2, nilSl), (kM3, b3, nilSl), (kM4, b4, nilSl), (kM5, (.slice (some ⟨q5, 0, none⟩) 257 257), nilSl), (kM6, b6, nilSl), (kM7, b7, nilSl), (kM8, b8, nilSl), (kM9, b9, nilSl), (kM10, b10, nilSl), (kM11, b11, (.slice (some ⟨q11, 0, none⟩) 20001 20001)), (kM12, nilSl, nilSl), (kM13, nilSl, nilSl), (wordM, b14, nilSl), (wordM, b15, nilSl)]) (k : Ex → St → Option (Value × Heap)) (hk : ∀ (h' : Heap) (x' : Nat → Value) , MRow h' p [(kM0, b0, nilSl), (kM1, b1, nilSl), (kM2, b2, nilSl), (kM3, b3, nilSl), (kM4, b4, nilSl), (kM5, (.slice (some ⟨q5, 0, none⟩) 257 257), nilSl), (kM6, b6, nilSl), (kM7, b7, nilSl), (kM8, b8, nilSl), (kM9, b9, nilSl), (kM10, b10, nilSl), (kM11, b11, (.slice (some ⟨q11, 0, none⟩) 20001 20001)), (kM12, nilSl, nilSl), (kM13, nilSl, nilSl), (kM14, nilSl, nilSl), (wordM, b15, nilSl)] → x' 1 = .slice (some ⟨p, 0, none⟩) 16 16 → Q (k .normal ⟨ar 148 x', h'⟩)) (Ab : x 1 = .slice (some ⟨p, 0, none⟩) 16 16) : Q (cK c16_38 148 x h k) := by
  have e0 := iaM p 16 16 14 (by omega)
  simp only [Int.natCast_zero, Int.natCast_one, show ((14 : Nat) : Int) = 14 from rfl] at e0
  have B := R.b (wordM, b14, nilSl) (by simp)
  have T := R.s (wordM, b14, nilSl) (by simp)
  obtain ⟨h2, e2, R2, _, _⟩ := R.stM (i := 14) (kM14, nilSl, nilSl) (by simp) ⟨.nil, by simp [blockOf]⟩ ⟨.nil, by simp [blockOf]⟩
  have e3 : storeV Try.prog 104 (.pointer (some ⟨p, 14 * 10, none⟩)) (msgA kM14 nilSl nilSl) h = some h2 := (stMo _ _ _ _ _ _ _ _ _ _ _ _ _ _ _ _ _).trans e2
  simp -implicitDefEqProofs only [↓c16_38_eq,Ab, bdK14, e0, e3, ↓cnd_true, ↓cnd_false, ↓Option.bind_some, ↓obH_some', bin_add, bin_sub, bin_mul, bin_lss, bin_leq, bin_gtr, bin_geq, bin_eql, bin_neq, un_not, un_neg, Option.bind_some, Option.bind_none, Option.map_some, cnd_true, cnd_false, pickV_true, pickV_false, gd_true, gd_false, gdV_true, gdV_false, gdH_true, gdH_false, gdS_true, gdS_false, wt_ff, wt_tt, wt_ft, wt_tf, wt_undef, obH_some', extractV_tuple, nilCheckV_ptr, againK_normal, againK_exit, againK_ret, blockK_normal, blockK_same, blockK_ret, seqK_normal, seqK_exit, seqK_ret, fin_done, if_true', if_false', Bool.not_true, Bool.not_false, idx0, idx1, idx2, idx3, idx4, chk_nil_l, chk_nil_r, done_nm, up_cons, up_nil, cond_true, cond_false, Nat.reduceBEq]
  exact hk h2 _ R2 Ab
theorem kn_s15 (R : MRow h p [(kM0, b0, nilSl), (kM1, b1, nilSl), (kM2, b2, nilSl), (kM3, b3, nilSl), (kM4, b4, nilSl), (kM5, (.slice (some ⟨q5, 0, none⟩) 257 257), nilSl), (kM6, b6, nilSl), (kM7, b7, nilSl), (kM8, b8, nilSl), (kM9, b9, nilSl), (kM10, b10, nilSl), (kM11, b11, (.slice (some ⟨q11, 0, none⟩) 20001 20001)), (kM12, nilSl, nilSl), (kM13, nilSl, nilSl), (kM14, nilSl, nilSl), (wordM, b15, nilSl)]) (k : Ex → St → Option (Value × Heap)) (hk : ∀ (h' : Heap) (x' : Nat → Value) , MRow h' p [(kM0, b0, nilSl), (kM1, b1, nilSl), (kM2, b2, nilSl), (kM3, b3, nilSl), (kM4, b4, nilSl), (kM5, (.slice (some ⟨q5, 0, none⟩) 257 257), nilSl), (kM6, b6, nilSl), (kM7, b7, nilSl), (kM8, b8, nilSl), (kM9, b9, nilSl), (kM10, b10, nilSl), (kM11, b11, (.slice (some ⟨q11, 0, none⟩) 20001 20001)), (kM12, nilSl, nilSl), (kM13, nilSl, nilSl), (kM14, nilSl, nilSl), (kM15, b15, nilSl)] → x' 1 = .slice (some ⟨p, 0, none⟩) 16 16 → Q (k .normal ⟨ar 148 x', h'⟩)) (Ab : x 1 = .slice (some ⟨p, 0, none⟩) 16 16) : Q (cK c16_40 148 x h k) := by
  have e0 := iaM p 16 16 15 (by omega)
  simp only [Int.natCast_zero, Int.natCast_one, show ((15 : Nat) : Int) = 15 from rfl] at e0
  have B := R.b (wordM, b15, nilSl) (by simp)
  have T := R.s (wordM, b15, nilSl) (by simp)
  obtain ⟨h2, e2, R2, _, _⟩ := R.st (i := 15) (k := 5) (.float .f64 9223372036854775808) (kM15, b15, nilSl) (by simp) (by omega) rfl B T
  have e3 : storeV Try.prog 84 (.pointer (some ⟨p, 15 * 10 + 5, none⟩)) (.float .f64 9223372036854775808) h = some h2 := (smF _ _ _ _).trans e2
  have e4 := fun h => spec_Copy h
  simp -implicitDefEqProofs only [↓c16_40_eq,Ab, e0, faMo5, e3, e4, ↓cnd_true, ↓cnd_false, ↓Option.bind_some, ↓obH_some', bin_add, bin_sub, bin_mul, bin_lss, bin_leq, bin_gtr, bin_geq, bin_eql, bin_neq, un_not, un_neg, Option.bind_some, Option.bind_none, Option.map_some, cnd_true, cnd_false, pickV_true, pickV_false, gd_true, gd_false, gdV_true, gdV_false, gdH_true, gdH_false, gdS_true, gdS_false, wt_ff, wt_tt, wt_ft, wt_tf, wt_undef, obH_some', extractV_tuple, nilCheckV_ptr, againK_normal, againK_exit, againK_ret, blockK_normal, blockK_same, blockK_ret, seqK_normal, seqK_exit, seqK_ret, fin_done, if_true', if_false', Bool.not_true, Bool.not_false, idx0, idx1, idx2, idx3, idx4, chk_nil_l, chk_nil_r, done_nm, up_cons, up_nil, cond_true, cond_false, Nat.reduceBEq]
  exact hk h2 _ R2 Ab
theorem kn_stores (R0 : MRow h p [(wordM, b0, nilSl), (wordM, b1, nilSl), (wordM, b2, nilSl), (wordM, b3, nilSl), (wordM, b4, nilSl), (wordM, b5, nilSl), (wordM, b6, nilSl), (wordM, b7, nilSl), (wordM, b8, nilSl), (wordM, b9, nilSl), (wordM, b10, nilSl), (wordM, b11, nilSl), (wordM, b12, nilSl), (wordM, b13, nilSl), (wordM, b14, nilSl), (wordM, b15, nilSl)]) (k : Ex → St → Option (Value × Heap)) (hk : ∀ (h' : Heap) (x' : Nat → Value) (l : List MB), l.length = 16 → (∀ y ∈ l, goodMsg y.1 = false ∧ MTok y.1) → MRow h' p l → x' 1 = .slice (some ⟨p, 0, none⟩) 16 16 → Q (cK c16_42 148 x' h' (sK c16_43 k))) (Ab : x 1 = .slice (some ⟨p, 0, none⟩) 16 16) : Q (cK c16_8 148 x h k) := by
  simp -implicitDefEqProofs only [↓c16_8_eq, ↓cnd_true, ↓cnd_false, ↓Option.bind_some, ↓obH_some', bin_add, bin_sub, bin_mul, bin_lss, bin_leq, bin_gtr, bin_geq, bin_eql, bin_neq, un_not, un_neg, Option.bind_some, Option.bind_none, Option.map_some, cnd_true, cnd_false, pickV_true, pickV_false, gd_true, gd_false, gdV_true, gdV_false, gdH_true, gdH_false, gdS_true, gdS_false, wt_ff, wt_tt, wt_ft, wt_tf, wt_undef, obH_some', extractV_tuple, nilCheckV_ptr, againK_normal, againK_exit, againK_ret, blockK_normal, blockK_same, blockK_ret, seqK_normal, seqK_exit, seqK_ret, fin_done, if_true', if_false', Bool.not_true, Bool.not_false, idx0, idx1, idx2, idx3, idx4, chk_nil_l, chk_nil_r, done_nm, up_cons, up_nil, cond_true, cond_false, Nat.reduceBEq]
  refine kn_s0 R0 _ ?_ Ab
  clear Ab
  intro h1 x R1 Ab
  simp -implicitDefEqProofs only [↓c16_11_eq, ↓cnd_true, ↓cnd_false, ↓Option.bind_some, ↓obH_some', bin_add, bin_sub, bin_mul, bin_lss, bin_leq, bin_gtr, bin_geq, bin_eql, bin_neq, un_not, un_neg, Option.bind_some, Option.bind_none, Option.map_some, cnd_true, cnd_false, pickV_true, pickV_false, gd_true, gd_false, gdV_true, gdV_false, gdH_true, gdH_false, gdS_true, gdS_false, wt_ff, wt_tt, wt_ft, wt_tf, wt_undef, obH_some', extractV_tuple, nilCheckV_ptr, againK_normal, againK_exit, againK_ret, blockK_normal, blockK_same, blockK_ret, seqK_normal, seqK_exit, seqK_ret, fin_done, if_true', if_false', Bool.not_true, Bool.not_false, idx0, idx1, idx2, idx3, idx4, chk_nil_l, chk_nil_r, done_nm, up_cons, up_nil, cond_true, cond_false, Nat.reduceBEq]
  refine kn_s1 R1 _ ?_ Ab
  clear Ab
  intro h2 x R2 Ab
  simp -implicitDefEqProofs only [↓c16_13_eq, ↓cnd_true, ↓cnd_false, ↓Option.bind_some, ↓obH_some', bin_add, bin_sub, bin_mul, bin_lss, bin_leq, bin_gtr, bin_geq, bin_eql, bin_neq, un_not, un_neg, Option.bind_some, Option.bind_none, Option.map_some, cnd_true, cnd_false, pickV_true, pickV_false, gd_true, gd_false, gdV_true, gdV_false, gdH_true, gdH_false, gdS_true, gdS_false, wt_ff, wt_tt, wt_ft, wt_tf, wt_undef, obH_some', extractV_tuple, nilCheckV_ptr, againK_normal, againK_exit, againK_ret, blockK_normal, blockK_same, blockK_ret, seqK_normal, seqK_exit, seqK_ret, fin_done, if_true', if_false', Bool.not_true, Bool.not_false, idx0, idx1, idx2, idx3, idx4, chk_nil_l, chk_nil_r, done_nm, up_cons, up_nil, cond_true, cond_false, Nat.reduceBEq]
  refine kn_s2 R2 _ ?_ Ab
  clear Ab
  intro h3 x R3 Ab
  simp -implicitDefEqProofs only [↓c16_15_eq, ↓cnd_true, ↓cnd_false, ↓Option.bind_some, ↓obH_some', bin_add, bin_sub, bin_mul, bin_lss, bin_leq, bin_gtr, bin_geq, bin_eql, bin_neq, un_not, un_neg, Option.bind_some, Option.bind_none, Option.map_some, cnd_true, cnd_false, pickV_true, pickV_false, gd_true, gd_false, gdV_true, gdV_false, gdH_true, gdH_false, gdS_true, gdS_false, wt_ff, wt_tt, wt_ft, wt_tf, wt_undef, obH_some', extractV_tuple, nilCheckV_ptr, againK_normal, againK_exit, againK_ret, blockK_normal, blockK_same, blockK_ret, seqK_normal, seqK_exit, seqK_ret, fin_done, if_true', if_false', Bool.not_true, Bool.not_false, idx0, idx1, idx2, idx3, idx4, chk_nil_l, chk_nil_r, done_nm, up_cons, up_nil, cond_true, cond_false, Nat.reduceBEq]
  refine kn_s3 R3 _ ?_ Ab
  clear Ab
  intro h4 x R4 Ab
  simp -implicitDefEqProofs only [↓c16_17_eq, ↓cnd_true, ↓cnd_false, ↓Option.bind_some, ↓obH_some', bin_add, bin_sub, bin_mul, bin_lss, bin_leq, bin_gtr, bin_geq, bin_eql, bin_neq, un_not, un_neg, Option.bind_some, Option.bind_none, Option.map_some, cnd_true, cnd_false, pickV_true, pickV_false, gd_true, gd_false, gdV_true, gdV_false, gdH_true, gdH_false, gdS_true, gdS_false, wt_ff, wt_tt, wt_ft, wt_tf, wt_undef, obH_some', extractV_tuple, nilCheckV_ptr, againK_normal, againK_exit, againK_ret, blockK_normal, blockK_same, blockK_ret, seqK_normal, seqK_exit, seqK_ret, fin_done, if_true', if_false', Bool.not_true, Bool.not_false, idx0, idx1, idx2, idx3, idx4, chk_nil_l, chk_nil_r, done_nm, up_cons, up_nil, cond_true, cond_false, Nat.reduceBEq]
  refine kn_s4 R4 _ ?_ Ab
  clear Ab
  intro h5 x R5 Ab
  simp -implicitDefEqProofs only [↓c16_19_eq, ↓cnd_true, ↓cnd_false, ↓Option.bind_some, ↓obH_some', bin_add, bin_sub, bin_mul, bin_lss, bin_leq, bin_gtr, bin_geq, bin_eql, bin_neq, un_not, un_neg, Option.bind_some, Option.bind_none, Option.map_some, cnd_true, cnd_false, pickV_true, pickV_false, gd_true, gd_false, gdV_true, gdV_false, gdH_true, gdH_false, gdS_true, gdS_false, wt_ff, wt_tt, wt_ft, wt_tf, wt_undef, obH_some', extractV_tuple, nilCheckV_ptr, againK_normal, againK_exit, againK_ret, blockK_normal, blockK_same, blockK_ret, seqK_normal, seqK_exit, seqK_ret, fin_done, if_true', if_false', Bool.not_true, Bool.not_false, idx0, idx1, idx2, idx3, idx4, chk_nil_l, chk_nil_r, done_nm, up_cons, up_nil, cond_true, cond_false, Nat.reduceBEq]
  refine kn_s5 R5 _ ?_ Ab
  clear Ab
  intro h6 x q5 R6 Ab
  simp -implicitDefEqProofs only [↓c16_21_eq, ↓cnd_true, ↓cnd_false, ↓Option.bind_some, ↓obH_some', bin_add, bin_sub, bin_mul, bin_lss, bin_leq, bin_gtr, bin_geq, bin_eql, bin_neq, un_not, un_neg, Option.bind_some, Option.bind_none, Option.map_some, cnd_true, cnd_false, pickV_true, pickV_false, gd_true, gd_false, gdV_true, gdV_false, gdH_true, gdH_false, gdS_true, gdS_false, wt_ff, wt_tt, wt_ft, wt_tf, wt_undef, obH_some', extractV_tuple, nilCheckV_ptr, againK_normal, againK_exit, againK_ret, blockK_normal, blockK_same, blockK_ret, seqK_normal, seqK_exit, seqK_ret, fin_done, if_true', if_false', Bool.not_true, Bool.not_false, idx0, idx1, idx2, idx3, idx4, chk_nil_l, chk_nil_r, done_nm, up_cons, up_nil, cond_true, cond_false, Nat.reduceBEq]
  refine kn_s6 R6 _ ?_ Ab
  clear Ab
  intro h7 x R7 Ab
  simp -implicitDefEqProofs only [↓c16_23_eq, ↓cnd_true, ↓cnd_false, ↓Option.bind_some, ↓obH_some', bin_add, bin_sub, bin_mul, bin_lss, bin_leq, bin_gtr, bin_geq, bin_eql, bin_neq, un_not, un_neg, Option.bind_some, Option.bind_none, Option.map_some, cnd_true, cnd_false, pickV_true, pickV_false, gd_true, gd_false, gdV_true, gdV_false, gdH_true, gdH_false, gdS_true, gdS_false, wt_ff, wt_tt, wt_ft, wt_tf, wt_undef, obH_some', extractV_tuple, nilCheckV_ptr, againK_normal, againK_exit, againK_ret, blockK_normal, blockK_same, blockK_ret, seqK_normal, seqK_exit, seqK_ret, fin_done, if_true', if_false', Bool.not_true, Bool.not_false, idx0, idx1, idx2, idx3, idx4, chk_nil_l, chk_nil_r, done_nm, up_cons, up_nil, cond_true, cond_false, Nat.reduceBEq]
  refine kn_s7 R7 _ ?_ Ab
  clear Ab
  intro h8 x R8 Ab
  simp -implicitDefEqProofs only [↓c16_25_eq, ↓cnd_true, ↓cnd_false, ↓Option.bind_some, ↓obH_some', bin_add, bin_sub, bin_mul, bin_lss, bin_leq, bin_gtr, bin_geq, bin_eql, bin_neq, un_not, un_neg, Option.bind_some, Option.bind_none, Option.map_some, cnd_true, cnd_false, pickV_true, pickV_false, gd_true, gd_false, gdV_true, gdV_false, gdH_true, gdH_false, gdS_true, gdS_false, wt_ff, wt_tt, wt_ft, wt_tf, wt_undef, obH_some', extractV_tuple, nilCheckV_ptr, againK_normal, againK_exit, againK_ret, blockK_normal, blockK_same, blockK_ret, seqK_normal, seqK_exit, seqK_ret, fin_done, if_true', if_false', Bool.not_true, Bool.not_false, idx0, idx1, idx2, idx3, idx4, chk_nil_l, chk_nil_r, done_nm, up_cons, up_nil, cond_true, cond_false, Nat.reduceBEq]
  refine kn_s8 R8 _ ?_ Ab
  clear Ab
  intro h9 x R9 Ab
  simp -implicitDefEqProofs only [↓c16_27_eq, ↓cnd_true, ↓cnd_false, ↓Option.bind_some, ↓obH_some', bin_add, bin_sub, bin_mul, bin_lss, bin_leq, bin_gtr, bin_geq, bin_eql, bin_neq, un_not, un_neg, Option.bind_some, Option.bind_none, Option.map_some, cnd_true, cnd_false, pickV_true, pickV_false, gd_true, gd_false, gdV_true, gdV_false, gdH_true, gdH_false, gdS_true, gdS_false, wt_ff, wt_tt, wt_ft, wt_tf, wt_undef, obH_some', extractV_tuple, nilCheckV_ptr, againK_normal, againK_exit, againK_ret, blockK_normal, blockK_same, blockK_ret, seqK_normal, seqK_exit, seqK_ret, fin_done, if_true', if_false', Bool.not_true, Bool.not_false, idx0, idx1, idx2, idx3, idx4, chk_nil_l, chk_nil_r, done_nm, up_cons, up_nil, cond_true, cond_false, Nat.reduceBEq]
  refine kn_s9 R9 _ ?_ Ab
  clear Ab
  intro h10 x R10 Ab
  simp -implicitDefEqProofs only [↓c16_29_eq, ↓cnd_true, ↓cnd_false, ↓Option.bind_some, ↓obH_some', bin_add, bin_sub, bin_mul, bin_lss, bin_leq, bin_gtr, bin_geq, bin_eql, bin_neq, un_not, un_neg, Option.bind_some, Option.bind_none, Option.map_some, cnd_true, cnd_false, pickV_true, pickV_false, gd_true, gd_false, gdV_true, gdV_false, gdH_true, gdH_false, gdS_true, gdS_false, wt_ff, wt_tt, wt_ft, wt_tf, wt_undef, obH_some', extractV_tuple, nilCheckV_ptr, againK_normal, againK_exit, againK_ret, blockK_normal, blockK_same, blockK_ret, seqK_normal, seqK_exit, seqK_ret, fin_done, if_true', if_false', Bool.not_true, Bool.not_false, idx0, idx1, idx2, idx3, idx4, chk_nil_l, chk_nil_r, done_nm, up_cons, up_nil, cond_true, cond_false, Nat.reduceBEq]
  refine kn_s10 R10 _ ?_ Ab
  clear Ab
  intro h11 x R11 Ab
  simp -implicitDefEqProofs only [↓c16_31_eq, ↓cnd_true, ↓cnd_false, ↓Option.bind_some, ↓obH_some', bin_add, bin_sub, bin_mul, bin_lss, bin_leq, bin_gtr, bin_geq, bin_eql, bin_neq, un_not, un_neg, Option.bind_some, Option.bind_none, Option.map_some, cnd_true, cnd_false, pickV_true, pickV_false, gd_true, gd_false, gdV_true, gdV_false, gdH_true, gdH_false, gdS_true, gdS_false, wt_ff, wt_tt, wt_ft, wt_tf, wt_undef, obH_some', extractV_tuple, nilCheckV_ptr, againK_normal, againK_exit, againK_ret, blockK_normal, blockK_same, blockK_ret, seqK_normal, seqK_exit, seqK_ret, fin_done, if_true', if_false', Bool.not_true, Bool.not_false, idx0, idx1, idx2, idx3, idx4, chk_nil_l, chk_nil_r, done_nm, up_cons, up_nil, cond_true, cond_false, Nat.reduceBEq]
  refine kn_s11 R11 _ ?_ Ab
  clear Ab
  intro h12 x q11 R12 Ab
  simp -implicitDefEqProofs only [↓c16_33_eq, ↓cnd_true, ↓cnd_false, ↓Option.bind_some, ↓obH_some', bin_add, bin_sub, bin_mul, bin_lss, bin_leq, bin_gtr, bin_geq, bin_eql, bin_neq, un_not, un_neg, Option.bind_some, Option.bind_none, Option.map_some, cnd_true, cnd_false, pickV_true, pickV_false, gd_true, gd_false, gdV_true, gdV_false, gdH_true, gdH_false, gdS_true, gdS_false, wt_ff, wt_tt, wt_ft, wt_tf, wt_undef, obH_some', extractV_tuple, nilCheckV_ptr, againK_normal, againK_exit, againK_ret, blockK_normal, blockK_same, blockK_ret, seqK_normal, seqK_exit, seqK_ret, fin_done, if_true', if_false', Bool.not_true, Bool.not_false, idx0, idx1, idx2, idx3, idx4, chk_nil_l, chk_nil_r, done_nm, up_cons, up_nil, cond_true, cond_false, Nat.reduceBEq]
  refine kn_s12 R12 _ ?_ Ab
  clear Ab
  intro h13 x R13 Ab
  simp -implicitDefEqProofs only [↓c16_35_eq, ↓cnd_true, ↓cnd_false, ↓Option.bind_some, ↓obH_some', bin_add, bin_sub, bin_mul, bin_lss, bin_leq, bin_gtr, bin_geq, bin_eql, bin_neq, un_not, un_neg, Option.bind_some, Option.bind_none, Option.map_some, cnd_true, cnd_false, pickV_true, pickV_false, gd_true, gd_false, gdV_true, gdV_false, gdH_true, gdH_false, gdS_true, gdS_false, wt_ff, wt_tt, wt_ft, wt_tf, wt_undef, obH_some', extractV_tuple, nilCheckV_ptr, againK_normal, againK_exit, againK_ret, blockK_normal, blockK_same, blockK_ret, seqK_normal, seqK_exit, seqK_ret, fin_done, if_true', if_false', Bool.not_true, Bool.not_false, idx0, idx1, idx2, idx3, idx4, chk_nil_l, chk_nil_r, done_nm, up_cons, up_nil, cond_true, cond_false, Nat.reduceBEq]
  refine kn_s13 R13 _ ?_ Ab
  clear Ab
  intro h14 x R14 Ab
  simp -implicitDefEqProofs only [↓c16_37_eq, ↓cnd_true, ↓cnd_false, ↓Option.bind_some, ↓obH_some', bin_add, bin_sub, bin_mul, bin_lss, bin_leq, bin_gtr, bin_geq, bin_eql, bin_neq, un_not, un_neg, Option.bind_some, Option.bind_none, Option.map_some, cnd_true, cnd_false, pickV_true, pickV_false, gd_true, gd_false, gdV_true, gdV_false, gdH_true, gdH_false, gdS_true, gdS_false, wt_ff, wt_tt, wt_ft, wt_tf, wt_undef, obH_some', extractV_tuple, nilCheckV_ptr, againK_normal, againK_exit, againK_ret, blockK_normal, blockK_same, blockK_ret, seqK_normal, seqK_exit, seqK_ret, fin_done, if_true', if_false', Bool.not_true, Bool.not_false, idx0, idx1, idx2, idx3, idx4, chk_nil_l, chk_nil_r, done_nm, up_cons, up_nil, cond_true, cond_false, Nat.reduceBEq]
  refine kn_s14 R14 _ ?_ Ab
  clear Ab
  intro h15 x R15 Ab
  simp -implicitDefEqProofs only [↓c16_39_eq, ↓cnd_true, ↓cnd_false, ↓Option.bind_some, ↓obH_some', bin_add, bin_sub, bin_mul, bin_lss, bin_leq, bin_gtr, bin_geq, bin_eql, bin_neq, un_not, un_neg, Option.bind_some, Option.bind_none, Option.map_some, cnd_true, cnd_false, pickV_true, pickV_false, gd_true, gd_false, gdV_true, gdV_false, gdH_true, gdH_false, gdS_true, gdS_false, wt_ff, wt_tt, wt_ft, wt_tf, wt_undef, obH_some', extractV_tuple, nilCheckV_ptr, againK_normal, againK_exit, againK_ret, blockK_normal, blockK_same, blockK_ret, seqK_normal, seqK_exit, seqK_ret, fin_done, if_true', if_false', Bool.not_true, Bool.not_false, idx0, idx1, idx2, idx3, idx4, chk_nil_l, chk_nil_r, done_nm, up_cons, up_nil, cond_true, cond_false, Nat.reduceBEq]
  refine kn_s15 R15 _ ?_ Ab
  clear Ab
  intro h16 x R16 Ab
  simp -implicitDefEqProofs only [↓c16_41_eq, ↓cnd_true, ↓cnd_false, ↓Option.bind_some, ↓obH_some', bin_add, bin_sub, bin_mul, bin_lss, bin_leq, bin_gtr, bin_geq, bin_eql, bin_neq, un_not, un_neg, Option.bind_some, Option.bind_none, Option.map_some, cnd_true, cnd_false, pickV_true, pickV_false, gd_true, gd_false, gdV_true, gdV_false, gdH_true, gdH_false, gdS_true, gdS_false, wt_ff, wt_tt, wt_ft, wt_tf, wt_undef, obH_some', extractV_tuple, nilCheckV_ptr, againK_normal, againK_exit, againK_ret, blockK_normal, blockK_same, blockK_ret, seqK_normal, seqK_exit, seqK_ret, fin_done, if_true', if_false', Bool.not_true, Bool.not_false, idx0, idx1, idx2, idx3, idx4, chk_nil_l, chk_nil_r, done_nm, up_cons, up_nil, cond_true, cond_false, Nat.reduceBEq]
  refine hk _ _ _ rfl ?_ R16 Ab
  intro y hy
  simp only [List.mem_cons, List.not_mem_nil, or_false] at hy
  rcases hy with rfl | rfl | rfl | rfl | rfl | rfl | rfl | rfl | rfl | rfl | rfl | rfl | rfl | rfl | rfl | rfl
  · exact ⟨kg0, ko0⟩
  · exact ⟨kg1, ko1⟩
  · exact ⟨kg2, ko2⟩
  · exact ⟨kg3, ko3⟩
  · exact ⟨kg4, ko4⟩
  · exact ⟨kg5, ko5⟩
  · exact ⟨kg6, ko6⟩
  · exact ⟨kg7, ko7⟩
  · exact ⟨kg8, ko8⟩
  · exact ⟨kg9, ko9⟩
  · exact ⟨kg10, ko10⟩
  · exact ⟨kg11, ko11⟩
  · exact ⟨kg12, ko12⟩
  · exact ⟨kg13, ko13⟩
  · exact ⟨kg14, ko14⟩
  · exact ⟨kg15, ko15⟩
theorem kn_end {h0 : Heap} (h : Heap) (x : Nat → Value) : ∃ h', sK c16_43 (retK Try.f16 Try.prog h0) .normal ⟨ar 148 x, h⟩ = some (.bool true, h') := by
  have a1 := spec_NaN h
  have a2 := alMM h
  obtain ⟨h1, s1, c1, S1, _⟩ := mmvar (n0 := 0) (g := h) (Nat.zero_le _) kMA none none 0 0 0 0
  have b1 := ldCM c1
  obtain ⟨pa, pc, h2, e2, y2, ab2⟩ := spec_PutM (m := kMA) (bv := nilSl) (sv := nilSl) (h := h1) .nil .nil koA
  obtain ⟨gb, gs, h3, e3, y3, ab3, as3⟩ := spec_GetM (ab2.sl etB.size) klenA
  rw [kgetA] at e3 ab3 as3
  rw [show gotV (some kMA) = kMA from rfl] at e3 ab3 as3
  rw [show gotE (some kMA) = 0 from rfl] at e3
  obtain ⟨ba, bc, rfl⟩ := ab3.shape
  obtain ⟨sa, sc, rfl⟩ := as3.shape
  have a4 := alMM h3
  obtain ⟨h4, s4, c4, S4, _⟩ := mmvar (n0 := 0) (g := h3) (Nat.zero_le _) kMA ba sa kMA.body.length bc kMA.stamp.length sc
  have sb4 : SB h4 (.slice ba kMA.body.length bc) kMA.body := (ab3.sl etB.size).same S4
  have ss4 : SB h4 (.slice sa kMA.stamp.length sc) kMA.stamp := (as3.sl etB.size).same S4
  obtain ⟨fb, fs, h5, e5, y5, ab5, as5⟩ := spec_GetM (h := h4) (b := nilSl) (bs := []) .nil (by decide)
  rw [kget0] at e5 ab5 as5
  rw [show gotV none = m00 from rfl] at e5 ab5 as5
  rw [show gotE none = 2 from rfl] at e5
  obtain ⟨fa, fc, rfl⟩ := ab5.shape
  obtain ⟨ga, gc, rfl⟩ := as5.shape
  have a6 := alMM h5
  obtain ⟨h6, s6, c6, S6, _⟩ := mmvar (n0 := 0) (g := h5) (Nat.zero_le _) m00 fa ga m00.body.length fc m00.stamp.length gc
  obtain ⟨wv, h7, e7, y7, s7⟩ := spec_word h6
  obtain ⟨qa, qc, h8, e8, y8, ab8⟩ := spec_PutM (m := wordM) (bv := wv) (sv := nilSl) s7 .nil wordOk
  have a9 := mkBb 0 h8
  have bz : byteV 0 = .int .u8 0 := rfl
  rw [bz] at a9
  obtain ⟨ra, rc, h10, e10, ab10, k10, o10⟩ := app_b (n0 := h7.blks.length) y8.len ab8 0 (by rw [word_put]; decide)
  rw [bz] at e10
  obtain ⟨tb, ts, h11, e11, y11, ab11, as11⟩ := spec_GetM (ab10.sl etB.size) klen1
  rw [kget1] at e11 ab11 as11
  rw [show gotV none = m00 from rfl] at e11 ab11 as11
  rw [show gotE none = 2 from rfl] at e11
  obtain ⟨ta, tc, rfl⟩ := ab11.shape
  obtain ⟨ua, uc, rfl⟩ := as11.shape
  have a12 := alMM h11
  obtain ⟨h12, s12, c12, S12, _⟩ := mmvar (n0 := 0) (g := h11) (Nat.zero_le _) m00 ta ua m00.body.length tc m00.stamp.length uc
  have l712 : Same h6 h7 := y7.same
  have k810 : Same h7 h10 := ⟨Nat.le_trans y8.len k10.len, fun b hb => (k10.old b hb).trans (y8.old b hb)⟩
  have S612 : Same h6 h12 := ((l712.trans k810).trans y11.same).trans S12
  have S412 : Same h4 h12 := (y5.same.trans S6).trans S612
  have S112 : Same h1 h12 := ((y2.same.trans y3.same).trans S4).trans S412
  have b12 := ldCM (c1.same S112)
  obtain ⟨h13, e13, y13⟩ := spec_GoodM (m := kMA) (bv := nilSl) (sv := nilSl) (h := h12) .nil .nil koA
  rw [kgA] at e13
  have b13 := ldCM ((c1.same S112).same y13.same)
  obtain ⟨h14, e14, y14⟩ := spec_own (m := kMA) (bv := nilSl) (sv := nilSl) (h := nm h13) .nil .nil
  obtain ⟨y14', m14⟩ := y14.amx
  have b14 := ldCM (((c4.same S412).same y13.same).same y14'.same)
  have sb14 := ((sb4.same S412).same y13.same).same y14'.same
  have ss14 := ((ss4.same S412).same y13.same).same y14'.same
  obtain ⟨h15, e15, y15⟩ := spec_own (m := kMA) sb14 ss14
  obtain ⟨h16, e16, y16⟩ := spec_alike (m := kMA) (n := kMA) (bv := nilSl) (sv := nilSl) (h := h15) .nil .nil (sb14.same y15.same) (ss14.same y15.same) (Alike.refl _) koA.val koA.val
  obtain ⟨h17, e17, y17⟩ := spec_GoodM (m := kMB) (bv := nilSl) (sv := nilSl) (h := h16) .nil .nil koB
  rw [kgB] at e17
  obtain ⟨h18, e18, y18⟩ := spec_GoodM (m := kMC) (bv := nilSl) (sv := nilSl) (h := h17) .nil .nil koC
  rw [kgC] at e18
  simp -implicitDefEqProofs (maxSteps := 4000000) (disch := omega) only [↓c16_43_eq, ↓c16_45_eq, ↓c16_46_eq, ↓c16_47_eq, ↓c16_48_eq, ↓c16_49_eq, ↓c16_50_eq, ↓c16_51_eq, ↓c16_52_eq, ↓c16_53_eq, ↓c16_54_eq, ↓d16_0_0, ↓d16_0_1, ↓d16_0_2, ↓d16_0_3, ↓d16_0_4, ↓d16_0_5, ↓d16_0_6, ↓d16_0_7, ↓d16_0_8, ↓d16_0_9, ↓d16_0_10, ↓d16_0_11, ↓d16_0_12, ↓d16_0_13, ↓d16_0_14, ↓d16_0_15, ↓d16_0_16, ↓d16_0_17, ↓d16_0_18, ↓d16_0_19, ↓d16_0_20, ↓d16_0_21, ↓d16_0_22, ↓d16_0_23, ↓d16_0_24, ↓d16_0_25, ↓d16_0_26, ↓d16_0_27, ↓d16_0_28, ↓d16_0_29, ↓d16_0_30, dcT, dcF, a1, bdKA, a2, s1, b1, e2, e3, a4, s4, e5, a6, s6, e7, e8, a9, e10, e11, a12, s12, b12, e13, b13, e14, m14, b14, e15, e16, bdKB, e17, bdKC, e18, eq_self, decide_true, nm_mods, List.append_nil, List.nil_append, ↓ret16, ↓cnd_true, ↓cnd_false, ↓Option.bind_some, ↓obH_some', bin_add, bin_sub, bin_mul, bin_lss, bin_leq, bin_gtr, bin_geq, bin_eql, bin_neq, un_not, un_neg, Option.bind_some, Option.bind_none, Option.map_some, cnd_true, cnd_false, pickV_true, pickV_false, gd_true, gd_false, gdV_true, gdV_false, gdH_true, gdH_false, gdS_true, gdS_false, wt_ff, wt_tt, wt_ft, wt_tf, wt_undef, obH_some', extractV_tuple, nilCheckV_ptr, againK_normal, againK_exit, againK_ret, blockK_normal, blockK_same, blockK_ret, seqK_normal, seqK_exit, seqK_ret, fin_done, if_true', if_false', Bool.not_true, Bool.not_false, idx0, idx1, idx2, idx3, idx4, chk_nil_l, chk_nil_r, done_nm, up_cons, up_nil, cond_true, cond_false, Nat.reduceBEq]
  exact ⟨_, rfl⟩
theorem law_MailKnown (h : Heap) (vs : List Value) (dd : List DT) (r : RdAll Try.prog h [] vs dd) : ∃ h', evC Try.prog 16 vs.toArray h = some (.bool true, h') := by
  obtain ⟨rfl, rfl⟩ := r.nil_inv
  show ∃ h', evC Try.prog 16 #[] h = some (.bool true, h')
  rw [show evC Try.prog 16 #[] h = _ from call16 h]
  obtain ⟨h1, e1, y1⟩ := spec_awake7 (nm h)
  have e2 := mkMs h1
  have R2 : MRow (h1.new (.cells (mcells (List.replicate 16 (m00, nilSl, nilSl)))) 104) h1.blks.length (wl [] ++ List.replicate 16 (m00, nilSl, nilSl)) :=
    ⟨Cells.new _ _ _, fun x hx => by rw [show x = (m00, nilSl, nilSl) from List.eq_of_mem_replicate (n := 16) hx]; exact ⟨.nil, by simp [blockOf]⟩, fun x hx => by rw [show x = (m00, nilSl, nilSl) from List.eq_of_mem_replicate (n := 16) hx]; exact ⟨.nil, by simp [blockOf]⟩⟩
  generalize h1.new (.cells (mcells (List.replicate 16 (m00, nilSl, nilSl)))) 104 = h2 at *
  generalize h1.blks.length = p at *
  simp -implicitDefEqProofs only [↓c16_0_eq, ↓c16_1_eq, ↓c16_2_eq, ↓c16_3_eq, ↓c16_4_eq, ↓c16_5_eq, ↓c16_6_eq, ↓c16_7_eq, e1, e2, ↓cnd_true, ↓cnd_false, ↓Option.bind_some, ↓obH_some', bin_add, bin_sub, bin_mul, bin_lss, bin_leq, bin_gtr, bin_geq, bin_eql, bin_neq, un_not, un_neg, Option.bind_some, Option.bind_none, Option.map_some, cnd_true, cnd_false, pickV_true, pickV_false, gd_true, gd_false, gdV_true, gdV_false, gdH_true, gdH_false, gdS_true, gdS_false, wt_ff, wt_tt, wt_ft, wt_tf, wt_undef, obH_some', extractV_tuple, nilCheckV_ptr, againK_normal, againK_exit, againK_ret, blockK_normal, blockK_same, blockK_ret, seqK_normal, seqK_exit, seqK_ret, fin_done, if_true', if_false', Bool.not_true, Bool.not_false, idx0, idx1, idx2, idx3, idx4, chk_nil_l, chk_nil_r, done_nm, up_cons, up_nil, cond_true, cond_false, Nat.reduceBEq]
  refine kn_fill (Q := fun r => ∃ h', r = some (.bool true, h')) (p := p) _ ?_ 16 [] h2 rfl R2 _ rfl rfl
  intro h3 bs hb R3 x Ab
  obtain ⟨b0, b1, b2, b3, b4, b5, b6, b7, b8, b9, b10, b11, b12, b13, b14, b15, rfl⟩ : ∃ b0 b1 b2 b3 b4 b5 b6 b7 b8 b9 b10 b11 b12 b13 b14 b15, bs = [b0, b1, b2, b3, b4, b5, b6, b7, b8, b9, b10, b11, b12, b13, b14, b15] := by
    match bs, hb with
    | [b0, b1, b2, b3, b4, b5, b6, b7, b8, b9, b10, b11, b12, b13, b14, b15], _ => exact ⟨_, _, _, _, _, _, _, _, _, _, _, _, _, _, _, _, rfl⟩
  simp only [seqK_normal]
  refine kn_stores (Q := fun r => ∃ h', r = some (.bool true, h')) (p := p) R3 _ ?_ Ab
  intro h4 x' l hl hbad R4 y1
  simp -implicitDefEqProofs only [↓c16_42_eq, ↓cnd_true, ↓cnd_false, ↓Option.bind_some, ↓obH_some', bin_add, bin_sub, bin_mul, bin_lss, bin_leq, bin_gtr, bin_geq, bin_eql, bin_neq, un_not, un_neg, Option.bind_some, Option.bind_none, Option.map_some, cnd_true, cnd_false, pickV_true, pickV_false, gd_true, gd_false, gdV_true, gdV_false, gdH_true, gdH_false, gdS_true, gdS_false, wt_ff, wt_tt, wt_ft, wt_tf, wt_undef, obH_some', extractV_tuple, nilCheckV_ptr, againK_normal, againK_exit, againK_ret, blockK_normal, blockK_same, blockK_ret, seqK_normal, seqK_exit, seqK_ret, fin_done, if_true', if_false', Bool.not_true, Bool.not_false, idx0, idx1, idx2, idx3, idx4, chk_nil_l, chk_nil_r, done_nm, up_cons, up_nil, cond_true, cond_false, Nat.reduceBEq]
  refine kn_bad (Q := fun r => ∃ h', r = some (.bool true, h')) (p := p) hl hbad _ ?_ 16 0 h4 rfl R4 _ y1 rfl
  intro h5 x
  exact kn_end h5 x
end Go.Am
