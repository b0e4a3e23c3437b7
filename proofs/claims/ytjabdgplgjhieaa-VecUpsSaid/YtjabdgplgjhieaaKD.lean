/- What the functions answer, in the machine. -/
import Derived.Test.YtjabdgplgjhieaaKC
import Derived.Test.YtjabdgplgjhieaaChecked
import Derived.KernelRfl
set_option linter.all false
namespace Go.Am
open Go.Proofs
set_option maxRecDepth 100000
theorem etU : ElemT Try.prog 22 29 1 8 (.int .u64 0) := ⟨by kernel_rfl, by kernel_rfl, by kernel_rfl, by kernel_rfl, by omega, rfl, rfl⟩
theorem vld64 (p o : Nat) (h : Heap) : loadV Try.prog 29 (.pointer (some ⟨p, o, none⟩)) h = h.load1 p o := by kernel_rfl
theorem vst64 (p o : Nat) (k : IntKind) (n : Int) (h : Heap) : storeV Try.prog 29 (.pointer (some ⟨p, o, none⟩)) (.int k n) h = h.storeN p o [.int k n] := by kernel_rfl
theorem mkU0 (h : Heap) : buildSliceV Try.prog 22 0 #[] h = some (.slice (some ⟨h.blks.length, 0, none⟩) 0 0, h.new (.cells []) 29) := by kernel_rfl
theorem mkU1 (k : IntKind) (n : Int) (h : Heap) : buildSliceV Try.prog 22 1 #[(0, .int k n)] h = some (.slice (some ⟨h.blks.length, 0, none⟩) 1 1, h.new (.cells [.int k n]) 29) := by kernel_rfl
theorem mkU2 (k : IntKind) (n m : Int) (h : Heap) : buildSliceV Try.prog 22 2 #[(0, .int k n), (1, .int k m)] h = some (.slice (some ⟨h.blks.length, 0, none⟩) 2 2, h.new (.cells [.int k n, .int k m]) 29) := by kernel_rfl
theorem vbeql (xo yo : Operand) (a b : Bool) : binV Try.prog .eql 4 xo yo (.bool a) (.bool b) = some (.bool (a == b)) := bin_beql _ _ _ _ (by cases a <;> cases b <;> kernel_rfl)
abbrev SU (h : Heap) (v : Value) (ns : List Nat) : Prop := Sl Try.prog h 1 v ns.length (ns.map u64V)
abbrev AU (n0 : Nat) (h : Heap) (v : Value) (ns : List Nat) : Prop := Acc n0 h 29 1 v ns.length (ns.map u64V)
theorem AU.su {n0 : Nat} {h : Heap} {v : Value} {ns : List Nat} (a : AU n0 h v ns) : SU h v ns := a.sl etU.size
theorem nums_one (ns : List Nat) : (ns.map u64V).all Value.oneCell' = true := by
  rw [List.all_map, List.all_eq_true]; intro x _; rfl
theorem AU.lit {n0 : Nat} {h : Heap} (hn : n0 ≤ h.blks.length) (ns : List Nat) (hl : ns.length < 2 ^ 62) : AU n0 (h.new (.cells (ns.map u64V)) 29) (.slice (some ⟨h.blks.length, 0, none⟩) ns.length ns.length) ns :=
  .full hn hl (blk_new_self _ _ _) (by simp) (by rw [List.drop_zero, List.take_of_length_le (by simp)])
theorem app_nums {t t1 : TypeId} (et : ElemT Try.prog t 29 1 8 (.int .u64 0)) (et1 : Try.prog.underlying t1 = some (.slice 29)) {n0 : Nat} {h : Heap} (hn0 : n0 ≤ h.blks.length) {v x : Value} {bs cs : List Nat} (ha : AU n0 h v bs) (hx : SU h x cs) (hl : bs.length + cs.length < 2 ^ 40) :
    ∃ a c h', appendV Try.prog t (some t1) v x h = some (.slice a (bs ++ cs).length c, h') ∧ AU n0 h' (.slice a (bs ++ cs).length c) (bs ++ cs) ∧ Keeps n0 h h' ∧ (∀ b, b < h.blks.length → blockOf v ≠ some b → h'.blks[b]? = h.blks[b]?) := by
  obtain ⟨v', h', e1, e2, e3, e4, e5⟩ := append_acc et (t1 := some t1) hn0 ha (newsV_row et1 hx.row) (by simp) (by omega) (by omega) (nums_one cs)
  obtain ⟨a, c, rfl⟩ := e2.shape
  rw [← List.length_append] at e1 e2
  rw [← List.map_append] at e2
  exact ⟨a, c, h', e1, e2, e3, e4⟩
theorem getD_lt (ns : List Nat) (h : ∀ n ∈ ns, n < 2 ^ 64) (i : Nat) : ns.getD i 0 < 2 ^ 64 := by
  rw [List.getD_eq_getElem?_getD]
  cases e : ns[i]? with
  | none => simp
  | some x => exact h x (List.mem_of_getElem? e)
theorem map_get (ns : List Nat) {i : Nat} (hi : i < ns.length) : (ns.map u64V)[i]? = some (.int .u64 (ns.getD i 0 : Nat)) := by
  rw [List.getElem?_map, List.getElem?_eq_getElem hi, List.getD_eq_getElem?_getD, List.getElem?_eq_getElem hi]; rfl
theorem su_at {h : Heap} {v : Value} {ns : List Nat} (s : SU h v ns) {t : TypeId} (ht : Try.prog.underlying t = some (.slice 29)) {i : Nat} (hi : i < ns.length) :
    ∃ a, indexAddrV Try.prog t v (.int .i64 i) = some (.pointer (some a)) ∧ loadV Try.prog 29 (.pointer (some a)) h = some (.int .u64 (ns.getD i 0 : Nat)) := by
  obtain ⟨a, e1, e2, _⟩ := s.row.at1 ht etU.size (by kernel_rfl) hi .i64
  rw [map_get ns hi] at e2
  exact ⟨a, e1, e2⟩
theorem app_num {n0 : Nat} {h : Heap} (hn0 : n0 ≤ h.blks.length) {v : Value} {bs : List Nat} (ha : AU n0 h v bs) (b : Nat) (hl : bs.length < 2 ^ 39) :
    ∃ a c h', appendV Try.prog 22 (some 22) v (.slice (some ⟨h.blks.length, 0, none⟩) 1 1) (h.new (.cells [.int .u64 b]) 29) = some (.slice a (bs ++ [b]).length c, h') ∧ AU n0 h' (.slice a (bs ++ [b]).length c) (bs ++ [b]) ∧ Keeps n0 h h' ∧
      (∀ q, q < h.blks.length → blockOf v ≠ some q → h'.blks[q]? = h.blks[q]?) := by
  have ha' : AU n0 (h.new (.cells [.int .u64 b]) 29) v bs := ha.keep fun _ hb _ => Heap.new_old hb
  have hlit : SU (h.new (.cells [.int .u64 b]) 29) (.slice (some ⟨h.blks.length, 0, none⟩) 1 1) [b] :=
    .mk (by simp [Heap.loadN, Heap.cells?, blk_new_self]; rfl) (.inr ⟨Nat.le_refl _, by unfold UNK; omega⟩)
  obtain ⟨a, c, h', e1, e2, e3, e4⟩ := app_nums etU etU.under (n0 := n0) (by simp [Heap.new]; omega) ha' hlit (by simp; omega)
  exact ⟨a, c, h', e1, e2, (Keeps.new hn0 _ _).trans e3, fun q hq hne => (e4 q (by simp [Heap.new]; omega) hne).trans (Heap.new_old hq)⟩
end Go.Am
namespace Go.Am
open Go.Proofs
set_option maxRecDepth 100000
attribute [local congr] obind_congr obH_congr cnd_congr chk_congr retK_congr codeK_congr
theorem etV : ElemT Try.prog 27 29 1 8 (.int .u64 0) := ⟨by kernel_rfl, by kernel_rfl, by kernel_rfl, by kernel_rfl, by omega, rfl, rfl⟩
theorem nilV (xo yo : Operand) : binV Try.prog .eql 27 xo yo (.slice none 0 0) (.slice none 0 0) = some (.bool true) := by kernel_rfl
theorem mkV0 (h : Heap) : buildSliceV Try.prog 27 0 #[] h = some (.slice (some ⟨h.blks.length, 0, none⟩) 0 0, h.new (.cells []) 29) := by kernel_rfl
theorem mkV2 (k : IntKind) (n m : Int) (h : Heap) : buildSliceV Try.prog 27 2 #[(0, .int k n), (1, .int k m)] h = some (.slice (some ⟨h.blks.length, 0, none⟩) 2 2, h.new (.cells [.int k n, .int k m]) 29) := by kernel_rfl
theorem vmaxI (a b : Int) (h : Heap) : builtinV Try.prog .max #[3, 3] #[.int .i64 a, .int .i64 b] h = some (.int .i64 (max a b), h) := by
  have e : builtinV Try.prog .max #[3, 3] #[.int .i64 a, .int .i64 b] h = some (.int .i64 (if b > a then b else a), h) := by kernel_rfl
  rw [e]
  have : (if b > a then b else a) = max a b := by split <;> omega
  rw [this]
theorem vminI (a b : Int) (h : Heap) : builtinV Try.prog .min #[3, 3] #[.int .i64 a, .int .i64 b] h = some (.int .i64 (min a b), h) := by
  have e : builtinV Try.prog .min #[3, 3] #[.int .i64 a, .int .i64 b] h = some (.int .i64 (if b < a then b else a), h) := by kernel_rfl
  rw [e]
  have : (if b < a then b else a) = min a b := by split <;> omega
  rw [this]
theorem vmaxU (a b : Int) (h : Heap) : builtinV Try.prog .max #[29, 29] #[.int .u64 a, .int .u64 b] h = some (.int .u64 (max a b), h) := by
  have e : builtinV Try.prog .max #[29, 29] #[.int .u64 a, .int .u64 b] h = some (.int .u64 (if b > a then b else a), h) := by kernel_rfl
  rw [e]
  have : (if b > a then b else a) = max a b := by split <;> omega
  rw [this]
theorem zeros_list (z : Value) (n : Nat) : ((Array.range (n * #[z].size)).map fun i => #[z][i % #[z].size]!).toList = List.replicate n z := by
  have e : (fun i : Nat => #[z][i % #[z].size]!) = fun _ => z := by
    funext i
    have : i % #[z].size = 0 := Nat.mod_one i
    rw [this]; rfl
  rw [e]
  simp [List.map_const']
theorem news_zero (n : Nat) (hn : n < 2 ^ 40) (h : Heap) : newsV Try.prog 1 8 (.int .u64 0) (some 3) (.int .i64 n) h = some (n, (List.replicate n 0).map u64V) := by
  have hu : Try.prog.underlying 3 = some (.int .i64) := by kernel_rfl
  unfold newsV
  simp only [Option.bind_some, hu, natOf_int]
  rw [if_pos (by omega)]
  have := zeros_list (.int .u64 0) n
  rw [show (Builtin.zeroCells (Value.int .u64 0).cells n).toList = List.replicate n (.int .u64 0) from this, List.map_replicate]
  rfl
/-- noughts are appended -/
theorem app_zeros {n0 : Nat} {h : Heap} (hn0 : n0 ≤ h.blks.length) {v : Value} {bs : List Nat} (ha : AU n0 h v bs) (m : Nat) (hl : bs.length + m < 2 ^ 40) :
    ∃ a c h', appendV Try.prog 27 (some 3) v (.int .i64 m) h = some (.slice a (bs ++ List.replicate m 0).length c, h') ∧ AU n0 h' (.slice a (bs ++ List.replicate m 0).length c) (bs ++ List.replicate m 0) ∧ Keeps n0 h h' := by
  obtain ⟨v', h', e1, e2, e3, e4, e5⟩ := append_acc etV (t1 := some 3) hn0 ha (news_zero m (by omega) h) (by simp) (by omega) (by omega) (nums_one _)
  obtain ⟨a, c, rfl⟩ := e2.shape
  have el : bs.length + m = (bs ++ List.replicate m 0).length := by simp
  rw [el] at e1 e2
  rw [← List.map_append] at e2
  exact ⟨a, c, h', e1, e2, e3⟩
theorem spec_New (n : Int) (h : Heap) : ∃ a c h', evC Try.prog 14 #[.int .i64 n] h = some (.slice a (List.replicate (min (max n 0) 64).toNat 0).length c, h') ∧ HExt h h' ∧ AU h.blks.length h' (.slice a (List.replicate (min (max n 0) 64).toNat 0).length c) (List.replicate (min (max n 0) 64).toNat 0) := by
  rw [call14, c14_0_eq]
  obtain ⟨m, hm⟩ : ∃ m : Nat, min (max n 0) 64 = (m : Int) := ⟨(min (max n 0) 64).toNat, by omega⟩
  have hmk : ∀ h, makeSliceV Try.prog 27 (.int .i64 m) (.int .i64 m) h = some (.slice (some ⟨h.blks.length, 0, none⟩) m m, h.new (.cells ((List.replicate m 0).map u64V)) 29) := fun h => by
    unfold makeSliceV
    simp only [etV.under, natOf_int, etV.size, etV.bytes, etV.zero]
    rw [if_pos ⟨Nat.le_refl _, by omega, by omega, by omega, etV.zs, etV.zg⟩]
    have := zeros_list (.int .u64 0) m
    rw [show ((Array.range (m * 1)).map fun x => (Value.int .u64 0).cells[x % (Value.int .u64 0).cells.size]!).toList = List.replicate m (.int .u64 0) from this, List.map_replicate]
    rfl
  simp -implicitDefEqProofs only [vmaxI, vminI, hm, hmk, ↓ret14, bin_add, bin_sub, bin_mul, bin_lss, bin_leq, bin_gtr, bin_geq, bin_eql, bin_neq, un_not, un_neg, Option.bind_some, Option.bind_none, Option.map_some, cnd_true, cnd_false, pickV_true, pickV_false, gd_true, gd_false, gdV_true, gdV_false, gdH_true, gdH_false, gdS_true, gdS_false, wt_ff, wt_tt, wt_ft, wt_tf, wt_undef, obH_some', extractV_tuple, nilCheckV_ptr, againK_normal, againK_exit, againK_ret, blockK_normal, blockK_same, blockK_ret, seqK_normal, seqK_exit, seqK_ret, fin_done, if_true', if_false', Bool.not_true, Bool.not_false, idx0, idx1, idx2, idx3, idx4, chk_nil_l, chk_nil_r, done_nm]
  have hl := AU.lit (h := nm h) (n0 := h.blks.length) (by simp) (List.replicate m 0) (by simp; omega)
  have e : (m : Int).toNat = m := Int.toNat_natCast m
  rw [e]
  simp only [List.length_replicate] at hl ⊢
  exact ⟨_, _, _, rfl, done_ext' (In.new (by simp) _ _), hl.done⟩
/-! At -/
def atI (ns : List Nat) (i : Int) : Nat := if i < 0 then 0 else ns.getD i.toNat 0
theorem atI_nat (ns : List Nat) (i : Nat) : atI ns (i : Int) = ns.getD i 0 := by unfold atI; rw [if_neg (by omega), Int.toNat_natCast]
theorem spec_At {h : Heap} {v : Value} {ns : List Nat} (s : SU h v ns) (i : Int) (hl : ns.length < 2 ^ 62) : evC Try.prog 16 #[v, .int .i64 i] h = some (.int .u64 (atI ns i : Nat), h) := by
  rw [call16, c16_0_eq]
  by_cases h0 : i < 0
  · simp -implicitDefEqProofs (disch := omega) only [dcT, dcF, ↓ret16, bin_add, bin_sub, bin_mul, bin_lss, bin_leq, bin_gtr, bin_geq, bin_eql, bin_neq, un_not, un_neg, Option.bind_some, Option.bind_none, Option.map_some, cnd_true, cnd_false, pickV_true, pickV_false, gd_true, gd_false, gdV_true, gdV_false, gdH_true, gdH_false, gdS_true, gdS_false, wt_ff, wt_tt, wt_ft, wt_tf, wt_undef, obH_some', extractV_tuple, nilCheckV_ptr, againK_normal, againK_exit, againK_ret, blockK_normal, blockK_same, blockK_ret, seqK_normal, seqK_exit, seqK_ret, fin_done, if_true', if_false', Bool.not_true, Bool.not_false, idx0, idx1, idx2, idx3, idx4, chk_nil_l, chk_nil_r, done_nm]
    rw [show atI ns i = 0 by unfold atI; rw [if_pos h0]]; rfl
  · obtain ⟨m, rfl⟩ : ∃ m : Nat, i = m := ⟨i.toNat, by omega⟩
    rw [atI_nat]
    by_cases h1 : ns.length ≤ m
    · simp -implicitDefEqProofs (disch := omega) only [dcT, dcF, s.nm.row.len_eq etV.under, ↓ret16, bin_add, bin_sub, bin_mul, bin_lss, bin_leq, bin_gtr, bin_geq, bin_eql, bin_neq, un_not, un_neg, Option.bind_some, Option.bind_none, Option.map_some, cnd_true, cnd_false, pickV_true, pickV_false, gd_true, gd_false, gdV_true, gdV_false, gdH_true, gdH_false, gdS_true, gdS_false, wt_ff, wt_tt, wt_ft, wt_tf, wt_undef, obH_some', extractV_tuple, nilCheckV_ptr, againK_normal, againK_exit, againK_ret, blockK_normal, blockK_same, blockK_ret, seqK_normal, seqK_exit, seqK_ret, fin_done, if_true', if_false', Bool.not_true, Bool.not_false, idx0, idx1, idx2, idx3, idx4, chk_nil_l, chk_nil_r, done_nm]
      rw [List.getD_eq_getElem?_getD, List.getElem?_eq_none h1]; rfl
    · obtain ⟨a, e1, e2⟩ := su_at s.nm etV.under (i := m) (by omega)
      simp -implicitDefEqProofs (disch := omega) only [dcT, dcF, s.nm.row.len_eq etV.under, e1, e2, ↓ret16, bin_add, bin_sub, bin_mul, bin_lss, bin_leq, bin_gtr, bin_geq, bin_eql, bin_neq, un_not, un_neg, Option.bind_some, Option.bind_none, Option.map_some, cnd_true, cnd_false, pickV_true, pickV_false, gd_true, gd_false, gdV_true, gdV_false, gdH_true, gdH_false, gdS_true, gdS_false, wt_ff, wt_tt, wt_ft, wt_tf, wt_undef, obH_some', extractV_tuple, nilCheckV_ptr, againK_normal, againK_exit, againK_ret, blockK_normal, blockK_same, blockK_ret, seqK_normal, seqK_exit, seqK_ret, fin_done, if_true', if_false', Bool.not_true, Bool.not_false, idx0, idx1, idx2, idx3, idx4, chk_nil_l, chk_nil_r, done_nm]
theorem spec_refAt {h : Heap} {v : Value} {ns : List Nat} (s : SU h v ns) (i : Int) (hl : ns.length < 2 ^ 62) : evC Try.prog 22 #[v, .int .i64 i] h = some (.int .u64 (atI ns i : Nat), h) := by
  rw [call22, c22_0_eq]
  by_cases h0 : i < 0
  · simp -implicitDefEqProofs (disch := omega) only [dcT, dcF, ↓ret22, bin_add, bin_sub, bin_mul, bin_lss, bin_leq, bin_gtr, bin_geq, bin_eql, bin_neq, un_not, un_neg, Option.bind_some, Option.bind_none, Option.map_some, cnd_true, cnd_false, pickV_true, pickV_false, gd_true, gd_false, gdV_true, gdV_false, gdH_true, gdH_false, gdS_true, gdS_false, wt_ff, wt_tt, wt_ft, wt_tf, wt_undef, obH_some', extractV_tuple, nilCheckV_ptr, againK_normal, againK_exit, againK_ret, blockK_normal, blockK_same, blockK_ret, seqK_normal, seqK_exit, seqK_ret, fin_done, if_true', if_false', Bool.not_true, Bool.not_false, idx0, idx1, idx2, idx3, idx4, chk_nil_l, chk_nil_r, done_nm]
    rw [show atI ns i = 0 by unfold atI; rw [if_pos h0]]; rfl
  · obtain ⟨m, rfl⟩ : ∃ m : Nat, i = m := ⟨i.toNat, by omega⟩
    rw [atI_nat]
    by_cases h1 : ns.length ≤ m
    · simp -implicitDefEqProofs (disch := omega) only [dcT, dcF, s.nm.row.len_eq etU.under, ↓ret22, bin_add, bin_sub, bin_mul, bin_lss, bin_leq, bin_gtr, bin_geq, bin_eql, bin_neq, un_not, un_neg, Option.bind_some, Option.bind_none, Option.map_some, cnd_true, cnd_false, pickV_true, pickV_false, gd_true, gd_false, gdV_true, gdV_false, gdH_true, gdH_false, gdS_true, gdS_false, wt_ff, wt_tt, wt_ft, wt_tf, wt_undef, obH_some', extractV_tuple, nilCheckV_ptr, againK_normal, againK_exit, againK_ret, blockK_normal, blockK_same, blockK_ret, seqK_normal, seqK_exit, seqK_ret, fin_done, if_true', if_false', Bool.not_true, Bool.not_false, idx0, idx1, idx2, idx3, idx4, chk_nil_l, chk_nil_r, done_nm]
      rw [List.getD_eq_getElem?_getD, List.getElem?_eq_none h1]; rfl
    · obtain ⟨a, e1, e2⟩ := su_at s.nm etU.under (i := m) (by omega)
      simp -implicitDefEqProofs (disch := omega) only [dcT, dcF, s.nm.row.len_eq etU.under, e1, e2, ↓ret22, bin_add, bin_sub, bin_mul, bin_lss, bin_leq, bin_gtr, bin_geq, bin_eql, bin_neq, un_not, un_neg, Option.bind_some, Option.bind_none, Option.map_some, cnd_true, cnd_false, pickV_true, pickV_false, gd_true, gd_false, gdV_true, gdV_false, gdH_true, gdH_false, gdS_true, gdS_false, wt_ff, wt_tt, wt_ft, wt_tf, wt_undef, obH_some', extractV_tuple, nilCheckV_ptr, againK_normal, againK_exit, againK_ret, blockK_normal, blockK_same, blockK_ret, seqK_normal, seqK_exit, seqK_ret, fin_done, if_true', if_false', Bool.not_true, Bool.not_false, idx0, idx1, idx2, idx3, idx4, chk_nil_l, chk_nil_r, done_nm]
/-! Clone, long -/
theorem spec_CloneV (h : Heap) (x : Value) (bs : List Nat) (hx : SU h x bs) (hl : bs.length < 2 ^ 39) :
    ∃ a c h', evC Try.prog 41 #[x] h = some (.slice a bs.length c, h') ∧ HExt h h' ∧ AU h.blks.length h' (.slice a bs.length c) bs := by
  rw [call41, c41_0_eq]
  rcases hx.inv with ⟨rfl, _, h3⟩ | ⟨b, o, c, rfl, _, _⟩
  · have : bs = [] := by simpa using h3
    subst this
    simp -implicitDefEqProofs only [nilV, ↓ret41, bin_add, bin_sub, bin_mul, bin_lss, bin_leq, bin_gtr, bin_geq, bin_eql, bin_neq, un_not, un_neg, Option.bind_some, Option.bind_none, Option.map_some, cnd_true, cnd_false, pickV_true, pickV_false, gd_true, gd_false, gdV_true, gdV_false, gdH_true, gdH_false, gdS_true, gdS_false, wt_ff, wt_tt, wt_ft, wt_tf, wt_undef, obH_some', extractV_tuple, nilCheckV_ptr, againK_normal, againK_exit, againK_ret, blockK_normal, blockK_same, blockK_ret, seqK_normal, seqK_exit, seqK_ret, fin_done, if_true', if_false', Bool.not_true, Bool.not_false, idx0, idx1, idx2, idx3, idx4, chk_nil_l, chk_nil_r, done_nm]
    exact ⟨none, 0, h, by simp, HExt.refl h, .nil⟩
  · have hlit := AU.lit (h := nm h) (n0 := h.blks.length) (by simp) [] (by simp)
    obtain ⟨a, c', h', e1, e2, e3, e4⟩ := app_nums etV etV.under (n0 := h.blks.length) (by simp [Heap.new]) hlit (hx.nm.keepNew _ _) (by simp; omega)
    rw [List.nil_append] at e1 e2
    simp only [List.map_nil, List.length_nil, nm_blks] at e1
    simp -implicitDefEqProofs only [bin_nil_some (P := Try.prog) (t := 27) etV.under, mkV0, nm_blks, e1, ↓ret41, bin_add, bin_sub, bin_mul, bin_lss, bin_leq, bin_gtr, bin_geq, bin_eql, bin_neq, un_not, un_neg, Option.bind_some, Option.bind_none, Option.map_some, cnd_true, cnd_false, pickV_true, pickV_false, gd_true, gd_false, gdV_true, gdV_false, gdH_true, gdH_false, gdS_true, gdS_false, wt_ff, wt_tt, wt_ft, wt_tf, wt_undef, obH_some', extractV_tuple, nilCheckV_ptr, againK_normal, againK_exit, againK_ret, blockK_normal, blockK_same, blockK_ret, seqK_normal, seqK_exit, seqK_ret, fin_done, if_true', if_false', Bool.not_true, Bool.not_false, idx0, idx1, idx2, idx3, idx4, chk_nil_l, chk_nil_r, done_nm]
    exact ⟨a, c', _, rfl, done_ext' ((In.new (S := No) (by simp) _ _).trans e3.inn), e2.done⟩
def longV (ns : List Nat) (n : Nat) : List Nat := ns ++ List.replicate (n - ns.length) 0
theorem spec_long (h : Heap) (x : Value) (bs : List Nat) (hx : SU h x bs) (hl : bs.length < 2 ^ 39) (n : Nat) (hn : n < 2 ^ 39) :
    ∃ a c h', evC Try.prog 42 #[x, .int .i64 n] h = some (.slice a (longV bs n).length c, h') ∧ HExt h h' ∧ AU h.blks.length h' (.slice a (longV bs n).length c) (longV bs n) := by
  rw [call42, c42_0_eq]
  obtain ⟨a, c, h1, e1, x1, s1⟩ := spec_CloneV (nm h) x bs hx.nm hl
  by_cases hb : bs.length < n
  · obtain ⟨a2, c2, h2, e2, s2, k2⟩ := app_zeros (n0 := h.blks.length) x1.len s1 (n - bs.length) (by omega)
    have hw : IntKind.wrap .i64 ((n : Int) - bs.length) = ((n - bs.length : Nat) : Int) := by rw [wrap_i64] <;> omega
    simp -implicitDefEqProofs (disch := omega) only [dcT, dcF, e1, s1.su.row.len_eq etV.under, hw, e2, ↓ret42, bin_add, bin_sub, bin_mul, bin_lss, bin_leq, bin_gtr, bin_geq, bin_eql, bin_neq, un_not, un_neg, Option.bind_some, Option.bind_none, Option.map_some, cnd_true, cnd_false, pickV_true, pickV_false, gd_true, gd_false, gdV_true, gdV_false, gdH_true, gdH_false, gdS_true, gdS_false, wt_ff, wt_tt, wt_ft, wt_tf, wt_undef, obH_some', extractV_tuple, nilCheckV_ptr, againK_normal, againK_exit, againK_ret, blockK_normal, blockK_same, blockK_ret, seqK_normal, seqK_exit, seqK_ret, fin_done, if_true', if_false', Bool.not_true, Bool.not_false, idx0, idx1, idx2, idx3, idx4, chk_nil_l, chk_nil_r, done_nm]
    exact ⟨a2, c2, _, rfl, done_ext' ((x1.inn (by simp)).trans k2.inn), s2.done⟩
  · have e : longV bs n = bs := by unfold longV; rw [show n - bs.length = 0 by omega]; simp
    rw [e]
    simp -implicitDefEqProofs (disch := omega) only [dcT, dcF, e1, s1.su.row.len_eq etV.under, ↓ret42, bin_add, bin_sub, bin_mul, bin_lss, bin_leq, bin_gtr, bin_geq, bin_eql, bin_neq, un_not, un_neg, Option.bind_some, Option.bind_none, Option.map_some, cnd_true, cnd_false, pickV_true, pickV_false, gd_true, gd_false, gdV_true, gdV_false, gdH_true, gdH_false, gdS_true, gdS_false, wt_ff, wt_tt, wt_ft, wt_tf, wt_undef, obH_some', extractV_tuple, nilCheckV_ptr, againK_normal, againK_exit, againK_ret, blockK_normal, blockK_same, blockK_ret, seqK_normal, seqK_exit, seqK_ret, fin_done, if_true', if_false', Bool.not_true, Bool.not_false, idx0, idx1, idx2, idx3, idx4, chk_nil_l, chk_nil_r, done_nm]
    exact ⟨a, c, _, rfl, done_ext' (x1.inn (by simp)), s1.done⟩
/-! Up -/
def upV (ns : List Nat) (i : Int) : List Nat × Bool :=
  if i < 0 ∨ 64 ≤ i ∨ atI ns i = 2 ^ 64 - 1 then (ns, false) else ((longV ns (i.toNat + 1)).set i.toNat (atI ns i + 1), true)
theorem longV_get (ns : List Nat) (n i : Nat) : (longV ns n).getD i 0 = ns.getD i 0 := by
  unfold longV
  simp only [List.getD_eq_getElem?_getD, List.getElem?_append]
  split
  · rfl
  · rename_i h
    rw [List.getElem?_eq_none (by omega : ns.length ≤ i)]
    rw [List.getElem?_replicate]
    split <;> rfl
theorem longV_len (ns : List Nat) (n : Nat) : (longV ns n).length = max ns.length n := by unfold longV; simp; omega
theorem set_u64 (ns : List Nat) (i m : Nat) : (ns.map u64V).set i (.int .u64 (m : Nat)) = (ns.set i m).map u64V := by rw [List.map_set]; rfl
theorem spec_Up (h : Heap) (x : Value) (bs : List Nat) (hx : SU h x bs) (hl : bs.length < 2 ^ 39) (hb : ∀ n ∈ bs, n < 2 ^ 64) (i : Int) :
    ∃ a c h', evC Try.prog 15 #[x, .int .i64 i] h = some (.tuple #[.slice a (upV bs i).1.length c, .bool (upV bs i).2], h') ∧ HExt h h' ∧ AU h.blks.length h' (.slice a (upV bs i).1.length c) (upV bs i).1 := by
  rw [call15, c15_0_eq]
  by_cases hc : i < 0 ∨ 64 ≤ i ∨ atI bs i = 2 ^ 64 - 1
  · have e : upV bs i = (bs, false) := if_pos hc
    rw [e]
    obtain ⟨a, c, h1, e1, x1, s1⟩ := spec_CloneV (nm h) x bs hx.nm hl
    by_cases h0 : i < 0
    · simp -implicitDefEqProofs (disch := omega) only [dcT, dcF, e1, ↓ret15, bin_add, bin_sub, bin_mul, bin_lss, bin_leq, bin_gtr, bin_geq, bin_eql, bin_neq, un_not, un_neg, Option.bind_some, Option.bind_none, Option.map_some, cnd_true, cnd_false, pickV_true, pickV_false, gd_true, gd_false, gdV_true, gdV_false, gdH_true, gdH_false, gdS_true, gdS_false, wt_ff, wt_tt, wt_ft, wt_tf, wt_undef, obH_some', extractV_tuple, nilCheckV_ptr, againK_normal, againK_exit, againK_ret, blockK_normal, blockK_same, blockK_ret, seqK_normal, seqK_exit, seqK_ret, fin_done, if_true', if_false', Bool.not_true, Bool.not_false, idx0, idx1, idx2, idx3, idx4, chk_nil_l, chk_nil_r, done_nm]
      exact ⟨a, c, _, rfl, done_ext' (x1.inn (by simp)), s1.done⟩
    · by_cases h64 : 64 ≤ i
      · simp -implicitDefEqProofs (disch := omega) only [dcT, dcF, e1, ↓ret15, bin_add, bin_sub, bin_mul, bin_lss, bin_leq, bin_gtr, bin_geq, bin_eql, bin_neq, un_not, un_neg, Option.bind_some, Option.bind_none, Option.map_some, cnd_true, cnd_false, pickV_true, pickV_false, gd_true, gd_false, gdV_true, gdV_false, gdH_true, gdH_false, gdS_true, gdS_false, wt_ff, wt_tt, wt_ft, wt_tf, wt_undef, obH_some', extractV_tuple, nilCheckV_ptr, againK_normal, againK_exit, againK_ret, blockK_normal, blockK_same, blockK_ret, seqK_normal, seqK_exit, seqK_ret, fin_done, if_true', if_false', Bool.not_true, Bool.not_false, idx0, idx1, idx2, idx3, idx4, chk_nil_l, chk_nil_r, done_nm]
        exact ⟨a, c, _, rfl, done_ext' (x1.inn (by simp)), s1.done⟩
      · have hat : atI bs i = 2 ^ 64 - 1 := by omega
        simp -implicitDefEqProofs (disch := omega) only [dcT, dcF, spec_At hx.nm i (by omega), hat, e1, ↓ret15, bin_add, bin_sub, bin_mul, bin_lss, bin_leq, bin_gtr, bin_geq, bin_eql, bin_neq, un_not, un_neg, Option.bind_some, Option.bind_none, Option.map_some, cnd_true, cnd_false, pickV_true, pickV_false, gd_true, gd_false, gdV_true, gdV_false, gdH_true, gdH_false, gdS_true, gdS_false, wt_ff, wt_tt, wt_ft, wt_tf, wt_undef, obH_some', extractV_tuple, nilCheckV_ptr, againK_normal, againK_exit, againK_ret, blockK_normal, blockK_same, blockK_ret, seqK_normal, seqK_exit, seqK_ret, fin_done, if_true', if_false', Bool.not_true, Bool.not_false, idx0, idx1, idx2, idx3, idx4, chk_nil_l, chk_nil_r, done_nm]
        exact ⟨a, c, _, rfl, done_ext' (x1.inn (by simp)), s1.done⟩
  · have e : upV bs i = ((longV bs (i.toNat + 1)).set i.toNat (atI bs i + 1), true) := if_neg hc
    rw [e]
    obtain ⟨m, rfl⟩ : ∃ m : Nat, i = m := ⟨i.toNat, by omega⟩
    have hat := spec_At hx.nm (m : Int) (by omega)
    rw [atI_nat] at hc hat ⊢
    rw [Int.toNat_natCast]
    have hlt := getD_lt bs hb m
    obtain ⟨a, c, h1, e1, x1, s1⟩ := spec_long (nm h) x bs hx.nm hl (m + 1) (by omega)
    have hw : IntKind.wrap .i64 ((m : Int) + 1) = ((m + 1 : Nat) : Int) := by rw [wrap_i64] <;> omega
    have hm : m < (longV bs (m + 1)).length := by rw [longV_len]; omega
    obtain ⟨b, o, h2, e2, l2, st2, s2, k2, _, _, _⟩ := s1.set1 etV.under etV.size hm (.int .u64 ((bs.getD m 0 + 1 : Nat) : Int)) .i64
    rw [map_get _ hm, longV_get] at l2
    rw [set_u64] at s2
    have hw2 : IntKind.wrap .u64 ((bs.getD m 0 : Nat) + 1 : Int) = ((bs.getD m 0 + 1 : Nat) : Int) := by rw [wrap_u64] <;> omega
    simp -implicitDefEqProofs (disch := omega) only [dcT, dcF, hat, hw, e1, e2, vld64, l2, hw2, vst64, st2, ↓ret15, bin_add, bin_sub, bin_mul, bin_lss, bin_leq, bin_gtr, bin_geq, bin_eql, bin_neq, un_not, un_neg, Option.bind_some, Option.bind_none, Option.map_some, cnd_true, cnd_false, pickV_true, pickV_false, gd_true, gd_false, gdV_true, gdV_false, gdH_true, gdH_false, gdS_true, gdS_false, wt_ff, wt_tt, wt_ft, wt_tf, wt_undef, obH_some', extractV_tuple, nilCheckV_ptr, againK_normal, againK_exit, againK_ret, blockK_normal, blockK_same, blockK_ret, seqK_normal, seqK_exit, seqK_ret, fin_done, if_true', if_false', Bool.not_true, Bool.not_false, idx0, idx1, idx2, idx3, idx4, chk_nil_l, chk_nil_r, done_nm]
    have el : ((longV bs (m + 1)).set m (bs.getD m 0 + 1)).length = (longV bs (m + 1)).length := List.length_set ..
    unfold AU
    rw [el]
    exact ⟨a, c, _, rfl, done_ext' ((x1.inn (by simp)).trans k2.inn), s2.done⟩
end Go.Am
namespace Go.Am
open Go.Proofs
set_option maxRecDepth 100000
attribute [local congr] obind_congr obH_congr cnd_congr chk_congr retK_congr codeK_congr
/-! Cmp -/
def lessV (a b : List Nat) (i m : Nat) : Bool := (List.range' i m).any fun j => decide (a.getD j 0 < b.getD j 0)
theorem lessV_zero (a b : List Nat) (i : Nat) : lessV a b i 0 = false := rfl
theorem lessV_succ (a b : List Nat) (i m : Nat) : lessV a b i (m + 1) = (decide (a.getD i 0 < b.getD i 0) || lessV a b (i + 1) m) := rfl
def cmpF (l m : Bool) : Int := if l then (if m then 2 else -1) else if m then 1 else 0
def cmpV (a b : List Nat) : Int := cmpF (lessV a b 0 (max a.length b.length)) (lessV b a 0 (max a.length b.length))
theorem cmp_loop {h0 h : Heap} {v w : Value} {a b : List Nat} (sv : SU h v a) (sw : SU h w b) (ha : a.length < 2 ^ 39) (hb : b.length < 2 ^ 39) (n : Nat) (hn : n < 2 ^ 40) : ∀ (m i : Nat) (bl bm : Bool), n = i + m → ∀ (x2 x3 x4 x7 x8 x9 x10 x11 x12 x13 x16 x17 x18 x19 x20 x21 x22 x23 x24 x25 x26 x27 x28 x29 x30 x31 x32 x33 x34 x35 x36 x37 x38 x39 x40 x41 x42 x43 x44 x45 : Value),
    loopK Try.prog (evC Try.prog) c13_1 ⟨#[v, w, x2, x3, x4, .bool bl, .bool bm, x7, x8, x9, x10, x11, x12, x13, .int .i64 n, .int .i64 i, x16, x17, x18, x19, x20, x21, x22, x23, x24, x25, x26, x27, x28, x29, x30, x31, x32, x33, x34, x35, x36, x37, x38, x39, x40, x41, x42, x43, x44, x45], h⟩ (blockK 0 (seqK Try.prog (evC Try.prog) c13_2 (retK Try.f13 Try.prog h0))) =
      some (.int .i64 (cmpF (bl || lessV a b i m) (bm || lessV b a i m)), done h0 h) := by
  intro m
  induction m with
  | zero =>
    intro i bl bm hm x2 x3 x4 x7 x8 x9 x10 x11 x12 x13 x16 x17 x18 x19 x20 x21 x22 x23 x24 x25 x26 x27 x28 x29 x30 x31 x32 x33 x34 x35 x36 x37 x38 x39 x40 x41 x42 x43 x44 x45
    rw [loopK_eq evC_m, c13_1_eq, lessV_zero, lessV_zero, Bool.or_false, Bool.or_false]
    cases bl <;> cases bm <;>
    · simp -implicitDefEqProofs (disch := omega) only [dcT, dcF, ↓c13_2_eq, ↓ret13, bin_add, bin_sub, bin_mul, bin_lss, bin_leq, bin_gtr, bin_geq, bin_eql, bin_neq, un_not, un_neg, Option.bind_some, Option.bind_none, Option.map_some, cnd_true, cnd_false, pickV_true, pickV_false, gd_true, gd_false, gdV_true, gdV_false, gdH_true, gdH_false, gdS_true, gdS_false, wt_ff, wt_tt, wt_ft, wt_tf, wt_undef, obH_some', extractV_tuple, nilCheckV_ptr, againK_normal, againK_exit, againK_ret, blockK_normal, blockK_same, blockK_ret, seqK_normal, seqK_exit, seqK_ret, fin_done, if_true', if_false', Bool.not_true, Bool.not_false, idx0, idx1, idx2, idx3, idx4, chk_nil_l, chk_nil_r, done_nm]
      rfl
  | succ m ih =>
    intro i bl bm hm x2 x3 x4 x7 x8 x9 x10 x11 x12 x13 x16 x17 x18 x19 x20 x21 x22 x23 x24 x25 x26 x27 x28 x29 x30 x31 x32 x33 x34 x35 x36 x37 x38 x39 x40 x41 x42 x43 x44 x45
    rw [loopK_eq evC_m, c13_1_eq, lessV_succ, lessV_succ]
    have e1 := spec_At sv (i : Int) (by omega)
    have e2 := spec_At sw (i : Int) (by omega)
    rw [atI_nat] at e1 e2
    have hw : IntKind.wrap .i64 ((i : Int) + 1) = ((i + 1 : Nat) : Int) := by rw [wrap_i64] <;> omega
    have d1 : decide ((a.getD i 0 : Int) < (b.getD i 0 : Nat)) = decide (a.getD i 0 < b.getD i 0) := by congr 1; apply propext; omega
    have d2 : decide ((a.getD i 0 : Int) > (b.getD i 0 : Nat)) = decide (b.getD i 0 < a.getD i 0) := by congr 1; apply propext; omega
    have ih' := fun bl bm => ih (i + 1) bl bm (by omega)
    generalize decide (a.getD i 0 < b.getD i 0) = p1 at *
    generalize decide (b.getD i 0 < a.getD i 0) = p2 at *
    cases bl <;> cases bm <;>
    · simp -implicitDefEqProofs (disch := omega) only [dcT, dcF, e1, e2, d1, d2, hw, bin_add, bin_sub, bin_mul, bin_lss, bin_leq, bin_gtr, bin_geq, bin_eql, bin_neq, un_not, un_neg, Option.bind_some, Option.bind_none, Option.map_some, cnd_true, cnd_false, pickV_true, pickV_false, gd_true, gd_false, gdV_true, gdV_false, gdH_true, gdH_false, gdS_true, gdS_false, wt_ff, wt_tt, wt_ft, wt_tf, wt_undef, obH_some', extractV_tuple, nilCheckV_ptr, againK_normal, againK_exit, againK_ret, blockK_normal, blockK_same, blockK_ret, seqK_normal, seqK_exit, seqK_ret, fin_done, if_true', if_false', Bool.not_true, Bool.not_false, idx0, idx1, idx2, idx3, idx4, chk_nil_l, chk_nil_r, done_nm]
      rw [ih' _ _ _ _ _ _ _ _ _ _ _ _ _ _ _ _ _ _ _ _ _ _ _ _ _ _ _ _ _ _ _ _ _ _ _ _ _ _ _ _ _ _]
      simp
theorem spec_Cmp {h : Heap} {v w : Value} {a b : List Nat} (sv : SU h v a) (sw : SU h w b) (ha : a.length < 2 ^ 39) (hb : b.length < 2 ^ 39) : evC Try.prog 13 #[v, w] h = some (.int .i64 (cmpV a b), h) := by
  rw [call13, c13_0_eq]
  have hm : max (a.length : Int) (b.length : Int) = ((max a.length b.length : Nat) : Int) := by omega
  simp -implicitDefEqProofs only [sv.nm.row.len_eq etV.under, sw.nm.row.len_eq etV.under, vmaxI, hm, bin_add, bin_sub, bin_mul, bin_lss, bin_leq, bin_gtr, bin_geq, bin_eql, bin_neq, un_not, un_neg, Option.bind_some, Option.bind_none, Option.map_some, cnd_true, cnd_false, pickV_true, pickV_false, gd_true, gd_false, gdV_true, gdV_false, gdH_true, gdH_false, gdS_true, gdS_false, wt_ff, wt_tt, wt_ft, wt_tf, wt_undef, obH_some', extractV_tuple, nilCheckV_ptr, againK_normal, againK_exit, againK_ret, blockK_normal, blockK_same, blockK_ret, seqK_normal, seqK_exit, seqK_ret, fin_done, if_true', if_false', Bool.not_true, Bool.not_false, idx0, idx1, idx2, idx3, idx4, chk_nil_l, chk_nil_r, done_nm]
  exact cmp_loop (h0 := h) sv.nm sw.nm ha hb (max a.length b.length) (by omega) (max a.length b.length) 0 false false (by omega) _ _ _ _ _ _ _ _ _ _ _ _ _ _ _ _ _ _ _ _ _ _ _ _ _ _ _ _ _ _ _ _ _ _ _ _ _ _ _ _
def leqV (a b : List Nat) (i m : Nat) : Bool := (List.range' i m).all fun j => decide (a.getD j 0 ≤ b.getD j 0)
theorem leqV_succ (a b : List Nat) (i m : Nat) : leqV a b i (m + 1) = (decide (a.getD i 0 ≤ b.getD i 0) && leqV a b (i + 1) m) := rfl
theorem leqV_not (a b : List Nat) (i m : Nat) : leqV a b i m = !lessV b a i m := by
  unfold leqV lessV
  rw [List.not_any_eq_all_not]
  congr 1
  funext j
  have : decide (b.getD j 0 < a.getD j 0) = !decide (a.getD j 0 ≤ b.getD j 0) := by
    by_cases h : a.getD j 0 ≤ b.getD j 0
    · rw [decide_eq_true h, decide_eq_false (by omega)]; rfl
    · rw [decide_eq_false h, decide_eq_true (by omega)]; rfl
  rw [this, Bool.not_not]
def rcmpF (l m : Bool) : Int := if l then (if m then 0 else -1) else if m then 1 else 2
theorem rcmp_loop {h0 h : Heap} {v w : Value} {a b : List Nat} (sv : SU h v a) (sw : SU h w b) (ha : a.length < 2 ^ 39) (hb : b.length < 2 ^ 39) : ∀ (m i : Nat) (bl bm : Bool), max a.length b.length = i + m → ∀ (x2 x3 x4 x8 x9 x10 x11 x12 x13 x14 x15 x16 x17 x18 x19 x20 x21 x22 x23 x24 x25 x26 x27 x28 x29 x30 x31 x32 x33 x34 x35 x36 x37 x38 x39 x40 x41 x42 x43 x44 x45 x46 x47 x48 : Value),
    loopK Try.prog (evC Try.prog) c21_1 ⟨#[v, w, x2, x3, x4, .bool bl, .bool bm, .int .i64 i, x8, x9, x10, x11, x12, x13, x14, x15, x16, x17, x18, x19, x20, x21, x22, x23, x24, x25, x26, x27, x28, x29, x30, x31, x32, x33, x34, x35, x36, x37, x38, x39, x40, x41, x42, x43, x44, x45, x46, x47, x48], h⟩ (blockK 0 (seqK Try.prog (evC Try.prog) c21_2 (retK Try.f21 Try.prog h0))) =
      some (.int .i64 (rcmpF (bl && leqV a b i m) (bm && leqV b a i m)), done h0 h) := by
  intro m
  induction m with
  | zero =>
    intro i bl bm hm x2 x3 x4 x8 x9 x10 x11 x12 x13 x14 x15 x16 x17 x18 x19 x20 x21 x22 x23 x24 x25 x26 x27 x28 x29 x30 x31 x32 x33 x34 x35 x36 x37 x38 x39 x40 x41 x42 x43 x44 x45 x46 x47 x48
    rw [loopK_eq evC_m, c21_1_eq]
    cases bl <;> cases bm <;>
    · simp -implicitDefEqProofs (disch := omega) only [dcT, dcF, sv.row.len_eq etU.under, sw.row.len_eq etU.under, ↓c21_2_eq, ↓ret21, bin_add, bin_sub, bin_mul, bin_lss, bin_leq, bin_gtr, bin_geq, bin_eql, bin_neq, un_not, un_neg, Option.bind_some, Option.bind_none, Option.map_some, cnd_true, cnd_false, pickV_true, pickV_false, gd_true, gd_false, gdV_true, gdV_false, gdH_true, gdH_false, gdS_true, gdS_false, wt_ff, wt_tt, wt_ft, wt_tf, wt_undef, obH_some', extractV_tuple, nilCheckV_ptr, againK_normal, againK_exit, againK_ret, blockK_normal, blockK_same, blockK_ret, seqK_normal, seqK_exit, seqK_ret, fin_done, if_true', if_false', Bool.not_true, Bool.not_false, idx0, idx1, idx2, idx3, idx4, chk_nil_l, chk_nil_r, done_nm]
      rfl
  | succ m ih =>
    intro i bl bm hm x2 x3 x4 x8 x9 x10 x11 x12 x13 x14 x15 x16 x17 x18 x19 x20 x21 x22 x23 x24 x25 x26 x27 x28 x29 x30 x31 x32 x33 x34 x35 x36 x37 x38 x39 x40 x41 x42 x43 x44 x45 x46 x47 x48
    rw [loopK_eq evC_m, c21_1_eq, leqV_succ, leqV_succ]
    have e1 := spec_refAt sv (i : Int) (by omega)
    have e2 := spec_refAt sw (i : Int) (by omega)
    rw [atI_nat] at e1 e2
    have hw : IntKind.wrap .i64 ((i : Int) + 1) = ((i + 1 : Nat) : Int) := by rw [wrap_i64] <;> omega
    have d1 : decide ((a.getD i 0 : Int) ≤ (b.getD i 0 : Nat)) = decide (a.getD i 0 ≤ b.getD i 0) := by congr 1; apply propext; omega
    have d2 : decide ((a.getD i 0 : Int) ≥ (b.getD i 0 : Nat)) = decide (b.getD i 0 ≤ a.getD i 0) := by congr 1; apply propext; omega
    have ih' := fun bl bm => ih (i + 1) bl bm (by omega)
    generalize decide (a.getD i 0 ≤ b.getD i 0) = p1 at *
    generalize decide (b.getD i 0 ≤ a.getD i 0) = p2 at *
    by_cases hi : i < a.length
    all_goals
      cases bl <;> cases bm <;>
      · simp -implicitDefEqProofs (disch := omega) only [dcT, dcF, sv.row.len_eq etU.under, sw.row.len_eq etU.under, e1, e2, d1, d2, hw, bin_add, bin_sub, bin_mul, bin_lss, bin_leq, bin_gtr, bin_geq, bin_eql, bin_neq, un_not, un_neg, Option.bind_some, Option.bind_none, Option.map_some, cnd_true, cnd_false, pickV_true, pickV_false, gd_true, gd_false, gdV_true, gdV_false, gdH_true, gdH_false, gdS_true, gdS_false, wt_ff, wt_tt, wt_ft, wt_tf, wt_undef, obH_some', extractV_tuple, nilCheckV_ptr, againK_normal, againK_exit, againK_ret, blockK_normal, blockK_same, blockK_ret, seqK_normal, seqK_exit, seqK_ret, fin_done, if_true', if_false', Bool.not_true, Bool.not_false, idx0, idx1, idx2, idx3, idx4, chk_nil_l, chk_nil_r, done_nm]
        rw [ih' _ _ _ _ _ _ _ _ _ _ _ _ _ _ _ _ _ _ _ _ _ _ _ _ _ _ _ _ _ _ _ _ _ _ _ _ _ _ _ _ _ _ _ _ _ _]
        simp
theorem spec_refCmp {h : Heap} {v w : Value} {a b : List Nat} (sv : SU h v a) (sw : SU h w b) (ha : a.length < 2 ^ 39) (hb : b.length < 2 ^ 39) : evC Try.prog 21 #[v, w] h = some (.int .i64 (cmpV a b), h) := by
  rw [call21, c21_0_eq]
  refine (rcmp_loop (h0 := h) sv.nm sw.nm ha hb (max a.length b.length) 0 true true (by omega) _ _ _ _ _ _ _ _ _ _ _ _ _ _ _ _ _ _ _ _ _ _ _ _ _ _ _ _ _ _ _ _ _ _ _ _ _ _ _ _ _ _ _ _).trans ?_
  simp only [Bool.true_and, leqV_not, done_nm]
  unfold cmpV
  cases lessV a b 0 (max a.length b.length) <;> cases lessV b a 0 (max a.length b.length) <;> rfl
/-! longs -/
theorem longs_loop {h0 h : Heap} {v w : Value} {a b : List Nat} (sv : SU h v a) (sw : SU h w b) (hab : a.length = b.length) (ha : a.length < 2 ^ 39) : ∀ (m i : Nat), a.length = i + m → ∀ (x2 x3 x4 x6 x7 x8 x9 x10 x11 x12 x13 x14 x15 x16 x17 x18 x19 x20 x21 x22 x23 x24 x25 : Value),
    loopK Try.prog (evC Try.prog) c17_1 ⟨#[v, w, x2, x3, x4, .int .i64 i, x6, x7, x8, x9, x10, x11, x12, x13, x14, x15, x16, x17, x18, x19, x20, x21, x22, x23, x24, x25], h⟩ (blockK 0 (seqK Try.prog (evC Try.prog) c17_2 (retK Try.f17 Try.prog h0))) =
      some (.bool (decide (a.drop i = b.drop i)), done h0 h) := by
  intro m
  induction m with
  | zero =>
    intro i hm x2 x3 x4 x6 x7 x8 x9 x10 x11 x12 x13 x14 x15 x16 x17 x18 x19 x20 x21 x22 x23 x24 x25
    rw [loopK_eq evC_m, c17_1_eq, List.drop_of_length_le (by omega), List.drop_of_length_le (by omega)]
    simp -implicitDefEqProofs (disch := omega) only [dcT, dcF, sv.row.len_eq etU.under, ↓c17_2_eq, ↓ret17, eq_self, decide_true, bin_add, bin_sub, bin_mul, bin_lss, bin_leq, bin_gtr, bin_geq, bin_eql, bin_neq, un_not, un_neg, Option.bind_some, Option.bind_none, Option.map_some, cnd_true, cnd_false, pickV_true, pickV_false, gd_true, gd_false, gdV_true, gdV_false, gdH_true, gdH_false, gdS_true, gdS_false, wt_ff, wt_tt, wt_ft, wt_tf, wt_undef, obH_some', extractV_tuple, nilCheckV_ptr, againK_normal, againK_exit, againK_ret, blockK_normal, blockK_same, blockK_ret, seqK_normal, seqK_exit, seqK_ret, fin_done, if_true', if_false', Bool.not_true, Bool.not_false, idx0, idx1, idx2, idx3, idx4, chk_nil_l, chk_nil_r, done_nm]
  | succ m ih =>
    intro i hm x2 x3 x4 x6 x7 x8 x9 x10 x11 x12 x13 x14 x15 x16 x17 x18 x19 x20 x21 x22 x23 x24 x25
    rw [loopK_eq evC_m, c17_1_eq]
    obtain ⟨p, e1, e2⟩ := su_at sv etU.under (i := i) (by omega)
    obtain ⟨q, e3, e4⟩ := su_at sw etU.under (i := i) (by omega)
    have hw : IntKind.wrap .i64 ((i : Int) + 1) = ((i + 1 : Nat) : Int) := by rw [wrap_i64] <;> omega
    have ea : a.drop i = a.getD i 0 :: a.drop (i + 1) := by
      rw [List.drop_eq_getElem_cons (by omega : i < a.length), List.getD_eq_getElem?_getD, List.getElem?_eq_getElem (by omega)]; rfl
    have eb : b.drop i = b.getD i 0 :: b.drop (i + 1) := by
      rw [List.drop_eq_getElem_cons (by omega : i < b.length), List.getD_eq_getElem?_getD, List.getElem?_eq_getElem (by omega)]; rfl
    rw [ea, eb]
    generalize a.getD i 0 = x at *
    generalize b.getD i 0 = y at *
    by_cases hxy : x = y
    · simp -implicitDefEqProofs (disch := omega) only [dcT, dcF, sv.row.len_eq etU.under, e1, e2, e3, e4, hw, bin_add, bin_sub, bin_mul, bin_lss, bin_leq, bin_gtr, bin_geq, bin_eql, bin_neq, un_not, un_neg, Option.bind_some, Option.bind_none, Option.map_some, cnd_true, cnd_false, pickV_true, pickV_false, gd_true, gd_false, gdV_true, gdV_false, gdH_true, gdH_false, gdS_true, gdS_false, wt_ff, wt_tt, wt_ft, wt_tf, wt_undef, obH_some', extractV_tuple, nilCheckV_ptr, againK_normal, againK_exit, againK_ret, blockK_normal, blockK_same, blockK_ret, seqK_normal, seqK_exit, seqK_ret, fin_done, if_true', if_false', Bool.not_true, Bool.not_false, idx0, idx1, idx2, idx3, idx4, chk_nil_l, chk_nil_r, done_nm]
      rw [ih (i + 1) (by omega) _ _ _ _ _ _ _ _ _ _ _ _ _ _ _ _ _ _ _ _ _ _ _]
      simp [hxy]
    · simp -implicitDefEqProofs (disch := omega) only [dcT, dcF, sv.row.len_eq etU.under, e1, e2, e3, e4, ↓ret17, bin_add, bin_sub, bin_mul, bin_lss, bin_leq, bin_gtr, bin_geq, bin_eql, bin_neq, un_not, un_neg, Option.bind_some, Option.bind_none, Option.map_some, cnd_true, cnd_false, pickV_true, pickV_false, gd_true, gd_false, gdV_true, gdV_false, gdH_true, gdH_false, gdS_true, gdS_false, wt_ff, wt_tt, wt_ft, wt_tf, wt_undef, obH_some', extractV_tuple, nilCheckV_ptr, againK_normal, againK_exit, againK_ret, blockK_normal, blockK_same, blockK_ret, seqK_normal, seqK_exit, seqK_ret, fin_done, if_true', if_false', Bool.not_true, Bool.not_false, idx0, idx1, idx2, idx3, idx4, chk_nil_l, chk_nil_r, done_nm]
      simp [hxy]
theorem spec_longs {h : Heap} {v w : Value} {a b : List Nat} (sv : SU h v a) (sw : SU h w b) (ha : a.length < 2 ^ 39) (hb : b.length < 2 ^ 39) : evC Try.prog 17 #[v, w] h = some (.bool (decide (a = b)), h) := by
  rw [call17, c17_0_eq]
  by_cases hab : a.length = b.length
  · simp -implicitDefEqProofs (disch := omega) only [dcT, dcF, sv.nm.row.len_eq etU.under, sw.nm.row.len_eq etU.under, bin_add, bin_sub, bin_mul, bin_lss, bin_leq, bin_gtr, bin_geq, bin_eql, bin_neq, un_not, un_neg, Option.bind_some, Option.bind_none, Option.map_some, cnd_true, cnd_false, pickV_true, pickV_false, gd_true, gd_false, gdV_true, gdV_false, gdH_true, gdH_false, gdS_true, gdS_false, wt_ff, wt_tt, wt_ft, wt_tf, wt_undef, obH_some', extractV_tuple, nilCheckV_ptr, againK_normal, againK_exit, againK_ret, blockK_normal, blockK_same, blockK_ret, seqK_normal, seqK_exit, seqK_ret, fin_done, if_true', if_false', Bool.not_true, Bool.not_false, idx0, idx1, idx2, idx3, idx4, chk_nil_l, chk_nil_r, done_nm]
    exact longs_loop (h0 := h) sv.nm sw.nm hab ha a.length 0 (by omega) _ _ _ _ _ _ _ _ _ _ _ _ _ _ _ _ _ _ _ _ _ _ _
  · simp -implicitDefEqProofs (disch := omega) only [dcT, dcF, sv.nm.row.len_eq etU.under, sw.nm.row.len_eq etU.under, ↓ret17, bin_add, bin_sub, bin_mul, bin_lss, bin_leq, bin_gtr, bin_geq, bin_eql, bin_neq, un_not, un_neg, Option.bind_some, Option.bind_none, Option.map_some, cnd_true, cnd_false, pickV_true, pickV_false, gd_true, gd_false, gdV_true, gdV_false, gdH_true, gdH_false, gdS_true, gdS_false, wt_ff, wt_tt, wt_ft, wt_tf, wt_undef, obH_some', extractV_tuple, nilCheckV_ptr, againK_normal, againK_exit, againK_ret, blockK_normal, blockK_same, blockK_ret, seqK_normal, seqK_exit, seqK_ret, fin_done, if_true', if_false', Bool.not_true, Bool.not_false, idx0, idx1, idx2, idx3, idx4, chk_nil_l, chk_nil_r, done_nm]
    have : ¬ a = b := fun e => hab (by rw [e])
    simp [this]
end Go.Am
namespace Go.Am
open Go.Proofs
set_option maxRecDepth 100000
attribute [local congr] obind_congr obH_congr cnd_congr chk_congr retK_congr codeK_congr
theorem getD_ext {a b : List Nat} (hl : a.length = b.length) (h : ∀ i, i < a.length → a.getD i 0 = b.getD i 0) : a = b := by
  refine List.ext_getElem hl fun i h1 h2 => ?_
  have := h i h1
  simpa [List.getD_eq_getElem?_getD, h1, h2] using this
def joinU (a b : List Nat) (i : Nat) : List Nat := (List.range (max a.length b.length)).map fun j => if j < i then max (a.getD j 0) (b.getD j 0) else a.getD j 0
def joinV (a b : List Nat) : List Nat := (List.range (max a.length b.length)).map fun j => max (a.getD j 0) (b.getD j 0)
theorem joinU_len (a b : List Nat) (i : Nat) : (joinU a b i).length = max a.length b.length := by simp [joinU]
theorem joinV_len (a b : List Nat) : (joinV a b).length = max a.length b.length := by simp [joinV]
theorem joinU_get (a b : List Nat) (i j : Nat) (hj : j < max a.length b.length) : (joinU a b i).getD j 0 = if j < i then max (a.getD j 0) (b.getD j 0) else a.getD j 0 := by
  simp only [joinU, List.getD_eq_getElem?_getD, List.getElem?_map, List.getElem?_range hj]; rfl
theorem joinV_get (a b : List Nat) (j : Nat) : (joinV a b).getD j 0 = max (a.getD j 0) (b.getD j 0) := by
  by_cases hj : j < max a.length b.length
  · simp only [joinV, List.getD_eq_getElem?_getD, List.getElem?_map, List.getElem?_range hj]; rfl
  · have e : ∀ l : List Nat, l.length ≤ j → l.getD j 0 = 0 := fun l h => by rw [List.getD_eq_getElem?_getD, List.getElem?_eq_none h]; rfl
    rw [e _ (by rw [joinV_len]; omega), e a (by omega), e b (by omega)]; rfl
theorem getD_set (l : List Nat) (i j x : Nat) (hi : i < l.length) : (l.set i x).getD j 0 = if j = i then x else l.getD j 0 := by
  simp only [List.getD_eq_getElem?_getD, List.getElem?_set]
  by_cases h : i = j
  · subst h; simp [hi]
  · rw [if_neg h, if_neg (fun e => h e.symm)]
theorem joinU_zero (a b : List Nat) : longV a b.length = joinU a b 0 := by
  refine getD_ext (by rw [longV_len, joinU_len]) fun i hi => ?_
  rw [longV_len] at hi
  rw [longV_get, joinU_get a b 0 i hi, if_neg (by omega)]
theorem joinU_succ (a b : List Nat) (i : Nat) (hi : i < max a.length b.length) : (joinU a b i).set i (max (a.getD i 0) (b.getD i 0)) = joinU a b (i + 1) := by
  refine getD_ext (by simp [joinU]) fun j hj => ?_
  rw [List.length_set, joinU_len] at hj
  rw [getD_set _ _ _ _ (by rw [joinU_len]; exact hi), joinU_get a b i j hj, joinU_get a b (i + 1) j hj]
  by_cases h : j = i
  · subst h; rw [if_pos rfl, if_pos (by omega)]
  · rw [if_neg h]
    by_cases h2 : j < i
    · rw [if_pos h2, if_pos (by omega)]
    · rw [if_neg h2, if_neg (by omega)]
theorem joinU_end (a b : List Nat) : joinU a b b.length = joinV a b := by
  refine getD_ext (by rw [joinU_len, joinV_len]) fun i hi => ?_
  rw [joinU_len] at hi
  rw [joinU_get a b _ i hi, joinV_get]
  split
  · rfl
  · have : b.getD i 0 = 0 := by rw [List.getD_eq_getElem?_getD, List.getElem?_eq_none (by omega)]; rfl
    rw [this]; omega
theorem join_loop {h0 : Heap} {w : Value} {a b : List Nat} (hb : b.length < 2 ^ 39) (lo : Lo w h0.blks.length) : ∀ (m i : Nat) (h : Heap) (v : Value), b.length = i + m → SU h w b → Acc h0.blks.length h 29 1 v (max a.length b.length) ((joinU a b i).map u64V) → In h0.blks.length No (nm h0) h →
    ∀ (x0 x1 x2 x3 x4 x6 x7 x8 x9 x10 x11 x15 x16 x17 x18 x19 x20 x21 x22 x23 x24 x25 x26 x27 x28 x29 : Value),
    ∃ h', loopK Try.prog (evC Try.prog) c18_1 ⟨#[x0, x1, x2, x3, x4, v, x6, x7, x8, x9, x10, x11, w, .int .i64 b.length, .int .i64 i, x15, x16, x17, x18, x19, x20, x21, x22, x23, x24, x25, x26, x27, x28, x29], h⟩ (blockK 0 (seqK Try.prog (evC Try.prog) c18_2 (retK Try.f18 Try.prog h0))) =
      some (v, h') ∧ HExt h0 h' ∧ Acc h0.blks.length h' 29 1 v (max a.length b.length) ((joinV a b).map u64V) := by
  intro m
  induction m with
  | zero =>
    intro i h v hm sw sv hin x0 x1 x2 x3 x4 x6 x7 x8 x9 x10 x11 x15 x16 x17 x18 x19 x20 x21 x22 x23 x24 x25 x26 x27 x28 x29
    rw [loopK_eq evC_m, c18_1_eq]
    simp -implicitDefEqProofs (disch := omega) only [dcT, dcF, ↓c18_2_eq, ↓ret18, bin_add, bin_sub, bin_mul, bin_lss, bin_leq, bin_gtr, bin_geq, bin_eql, bin_neq, un_not, un_neg, Option.bind_some, Option.bind_none, Option.map_some, cnd_true, cnd_false, pickV_true, pickV_false, gd_true, gd_false, gdV_true, gdV_false, gdH_true, gdH_false, gdS_true, gdS_false, wt_ff, wt_tt, wt_ft, wt_tf, wt_undef, obH_some', extractV_tuple, nilCheckV_ptr, againK_normal, againK_exit, againK_ret, blockK_normal, blockK_same, blockK_ret, seqK_normal, seqK_exit, seqK_ret, fin_done, if_true', if_false', Bool.not_true, Bool.not_false, idx0, idx1, idx2, idx3, idx4, chk_nil_l, chk_nil_r, done_nm]
    have : i = b.length := by omega
    subst this
    rw [joinU_end] at sv
    exact ⟨_, rfl, done_ext' hin, sv.done⟩
  | succ m ih =>
    intro i h v hm sw sv hin x0 x1 x2 x3 x4 x6 x7 x8 x9 x10 x11 x15 x16 x17 x18 x19 x20 x21 x22 x23 x24 x25 x26 x27 x28 x29
    rw [loopK_eq evC_m, c18_1_eq]
    obtain ⟨p, e1, e2⟩ := su_at sw etV.under (i := i) (by omega)
    obtain ⟨q, o, h2, e3, l3, st3, s3, k3, ln3, bq, oq⟩ := sv.set1 etV.under etV.size (i := i) (by omega) (.int .u64 ((max (a.getD i 0) (b.getD i 0) : Nat) : Int)) .i64
    rw [map_get _ (by rw [joinU_len]; omega), joinU_get a b i i (by omega), if_neg (by omega)] at l3
    rw [set_u64, joinU_succ a b i (by omega)] at s3
    have hmx : max ((a.getD i 0 : Nat) : Int) (b.getD i 0 : Nat) = ((max (a.getD i 0) (b.getD i 0) : Nat) : Int) := by omega
    have hw : IntKind.wrap .i64 ((i : Int) + 1) = ((i + 1 : Nat) : Int) := by rw [wrap_i64] <;> omega
    have hq := sv.ge bq
    have sw2 : SU h2 w b := sw.keep fun x hx hv => oq x (by have := lo x hv; omega)
    simp -implicitDefEqProofs (disch := omega) only [dcT, dcF, e1, e2, e3, vld64, l3, vmaxU, hmx, vst64, st3, hw, bin_add, bin_sub, bin_mul, bin_lss, bin_leq, bin_gtr, bin_geq, bin_eql, bin_neq, un_not, un_neg, Option.bind_some, Option.bind_none, Option.map_some, cnd_true, cnd_false, pickV_true, pickV_false, gd_true, gd_false, gdV_true, gdV_false, gdH_true, gdH_false, gdS_true, gdS_false, wt_ff, wt_tt, wt_ft, wt_tf, wt_undef, obH_some', extractV_tuple, nilCheckV_ptr, againK_normal, againK_exit, againK_ret, blockK_normal, blockK_same, blockK_ret, seqK_normal, seqK_exit, seqK_ret, fin_done, if_true', if_false', Bool.not_true, Bool.not_false, idx0, idx1, idx2, idx3, idx4, chk_nil_l, chk_nil_r, done_nm]
    exact ih (i + 1) h2 v (by omega) sw2 s3 (hin.trans k3.inn) _ _ _ _ _ _ _ _ _ _ _ _ _ _ _ _ _ _ _ _ _ _ _ _ _ _
theorem spec_Join {h : Heap} {v w : Value} {a b : List Nat} (sv : SU h v a) (sw : SU h w b) (ha : a.length < 2 ^ 38) (hb : b.length < 2 ^ 38) :
    ∃ x c h', evC Try.prog 18 #[v, w] h = some (.slice x (joinV a b).length c, h') ∧ HExt h h' ∧ AU h.blks.length h' (.slice x (joinV a b).length c) (joinV a b) := by
  rw [call18, c18_0_eq]
  obtain ⟨x, c, h1, e1, x1, s1⟩ := spec_long (nm h) v a sv.nm (by omega) b.length (by omega)
  have sw1 := sw.nm.ext x1
  simp -implicitDefEqProofs (disch := omega) only [dcT, dcF, sw.nm.row.len_eq etV.under, e1, sw1.row.len_eq etV.under, bin_add, bin_sub, bin_mul, bin_lss, bin_leq, bin_gtr, bin_geq, bin_eql, bin_neq, un_not, un_neg, Option.bind_some, Option.bind_none, Option.map_some, cnd_true, cnd_false, pickV_true, pickV_false, gd_true, gd_false, gdV_true, gdV_false, gdH_true, gdH_false, gdS_true, gdS_false, wt_ff, wt_tt, wt_ft, wt_tf, wt_undef, obH_some', extractV_tuple, nilCheckV_ptr, againK_normal, againK_exit, againK_ret, blockK_normal, blockK_same, blockK_ret, seqK_normal, seqK_exit, seqK_ret, fin_done, if_true', if_false', Bool.not_true, Bool.not_false, idx0, idx1, idx2, idx3, idx4, chk_nil_l, chk_nil_r, done_nm]
  have s1' : Acc h.blks.length h1 29 1 (.slice x (longV a b.length).length c) (max a.length b.length) ((joinU a b 0).map u64V) := by
    have := s1
    unfold AU at this
    rw [joinU_zero, joinU_len] at this
    rw [joinU_zero, joinU_len]
    exact this
  obtain ⟨h', e2, x2, s2⟩ := join_loop (h0 := h) (a := a) (by omega) sw.lo b.length 0 h1 _ (by omega) sw1 s1' (x1.inn (by simp)) _ _ _ _ _ _ _ _ _ _ _ _ _ _ _ _ _ _ _ _ _ _ _ _ _ _
  have el : (longV a b.length).length = (joinV a b).length := by rw [longV_len, joinV_len]
  rw [el] at e2 s2
  refine ⟨x, c, h', ?_, x2, ?_⟩
  · rw [← e2, el]; rfl
  · unfold AU
    have := s2
    rw [joinV_len] at this ⊢
    exact this
/-! the reference -/
def joinT (a b : List Nat) (i : Nat) : List Nat := (List.range i).map fun j => max (a.getD j 0) (b.getD j 0)
theorem rjoin_loop {h0 : Heap} {v w : Value} {a b : List Nat} (ha : a.length < 2 ^ 38) (hb : b.length < 2 ^ 38) (lov : Lo v h0.blks.length) (lo : Lo w h0.blks.length) : ∀ (m i : Nat) (h : Heap) (r : Value), max a.length b.length = i + m → SU h v a → SU h w b → AU h0.blks.length h r (joinT a b i) → In h0.blks.length No (nm h0) h →
    ∀ (x2 x3 x4 x7 x8 x9 x10 x11 x12 x13 x14 x15 x16 x17 x18 x19 x20 x21 x22 x23 x24 x25 x26 x27 x28 x29 x30 x31 x32 x33 x34 x35 : Value),
    ∃ x c h', loopK Try.prog (evC Try.prog) c20_1 ⟨#[v, w, x2, x3, x4, r, .int .i64 i, x7, x8, x9, x10, x11, x12, x13, x14, x15, x16, x17, x18, x19, x20, x21, x22, x23, x24, x25, x26, x27, x28, x29, x30, x31, x32, x33, x34, x35], h⟩ (blockK 0 (seqK Try.prog (evC Try.prog) c20_2 (retK Try.f20 Try.prog h0))) =
      some (.slice x (joinV a b).length c, h') ∧ HExt h0 h' ∧ AU h0.blks.length h' (.slice x (joinV a b).length c) (joinV a b) := by
  intro m
  induction m with
  | zero =>
    intro i h r hm sv sw sr hin x2 x3 x4 x7 x8 x9 x10 x11 x12 x13 x14 x15 x16 x17 x18 x19 x20 x21 x22 x23 x24 x25 x26 x27 x28 x29 x30 x31 x32 x33 x34 x35
    rw [loopK_eq evC_m, c20_1_eq]
    simp -implicitDefEqProofs (disch := omega) only [dcT, dcF, sv.row.len_eq etU.under, sw.row.len_eq etU.under, ↓c20_2_eq, ↓ret20, bin_add, bin_sub, bin_mul, bin_lss, bin_leq, bin_gtr, bin_geq, bin_eql, bin_neq, un_not, un_neg, Option.bind_some, Option.bind_none, Option.map_some, cnd_true, cnd_false, pickV_true, pickV_false, gd_true, gd_false, gdV_true, gdV_false, gdH_true, gdH_false, gdS_true, gdS_false, wt_ff, wt_tt, wt_ft, wt_tf, wt_undef, obH_some', extractV_tuple, nilCheckV_ptr, againK_normal, againK_exit, againK_ret, blockK_normal, blockK_same, blockK_ret, seqK_normal, seqK_exit, seqK_ret, fin_done, if_true', if_false', Bool.not_true, Bool.not_false, idx0, idx1, idx2, idx3, idx4, chk_nil_l, chk_nil_r, done_nm]
    have : joinT a b i = joinV a b := by unfold joinT joinV; rw [show i = max a.length b.length by omega]
    rw [this] at sr
    obtain ⟨x, c, rfl⟩ := sr.shape
    exact ⟨x, c, _, rfl, done_ext' hin, sr.done⟩
  | succ m ih =>
    intro i h r hm sv sw sr hin x2 x3 x4 x7 x8 x9 x10 x11 x12 x13 x14 x15 x16 x17 x18 x19 x20 x21 x22 x23 x24 x25 x26 x27 x28 x29 x30 x31 x32 x33 x34 x35
    rw [loopK_eq evC_m, c20_1_eq]
    have e1 := spec_refAt sv (i : Int) (by omega)
    have e2 := spec_refAt sw (i : Int) (by omega)
    rw [atI_nat] at e1 e2
    have hle : h0.blks.length ≤ h.blks.length := hin.len
    obtain ⟨x, c, h2, e3, s3, k3, o3⟩ := app_num hle sr (max (a.getD i 0) (b.getD i 0)) (by simp [joinT]; omega)
    have hw : IntKind.wrap .i64 ((i : Int) + 1) = ((i + 1 : Nat) : Int) := by rw [wrap_i64] <;> omega
    have ej : joinT a b i ++ [max (a.getD i 0) (b.getD i 0)] = joinT a b (i + 1) := by unfold joinT; rw [List.range_succ, List.map_append]; rfl
    rw [ej] at e3 s3
    have keep : ∀ {u : Value} {l : List Nat}, SU h u l → Lo u h0.blks.length → SU h2 u l := fun su l => su.keep fun q hq hv => o3 q hq (fun e => by have := sr.ge e; have := l q hv; omega)
    have ih' := ih (i + 1) h2 _ (by omega) (keep sv lov) (keep sw lo) s3 (hin.trans k3.inn)
    by_cases hgt : a.getD i 0 < b.getD i 0
    · have hm : max (a.getD i 0) (b.getD i 0) = b.getD i 0 := by omega
      rw [hm] at e3
      by_cases hia : i < a.length
      all_goals
        simp -implicitDefEqProofs (disch := omega) only [dcT, dcF, sv.row.len_eq etU.under, sw.row.len_eq etU.under, e1, e2, mkU1, e3, hw, bin_add, bin_sub, bin_mul, bin_lss, bin_leq, bin_gtr, bin_geq, bin_eql, bin_neq, un_not, un_neg, Option.bind_some, Option.bind_none, Option.map_some, cnd_true, cnd_false, pickV_true, pickV_false, gd_true, gd_false, gdV_true, gdV_false, gdH_true, gdH_false, gdS_true, gdS_false, wt_ff, wt_tt, wt_ft, wt_tf, wt_undef, obH_some', extractV_tuple, nilCheckV_ptr, againK_normal, againK_exit, againK_ret, blockK_normal, blockK_same, blockK_ret, seqK_normal, seqK_exit, seqK_ret, fin_done, if_true', if_false', Bool.not_true, Bool.not_false, idx0, idx1, idx2, idx3, idx4, chk_nil_l, chk_nil_r, done_nm]
        exact ih' _ _ _ _ _ _ _ _ _ _ _ _ _ _ _ _ _ _ _ _ _ _ _ _ _ _ _ _ _ _ _ _
    · have hm : max (a.getD i 0) (b.getD i 0) = a.getD i 0 := by omega
      rw [hm] at e3
      by_cases hia : i < a.length
      all_goals
        simp -implicitDefEqProofs (disch := omega) only [dcT, dcF, sv.row.len_eq etU.under, sw.row.len_eq etU.under, e1, e2, mkU1, e3, hw, bin_add, bin_sub, bin_mul, bin_lss, bin_leq, bin_gtr, bin_geq, bin_eql, bin_neq, un_not, un_neg, Option.bind_some, Option.bind_none, Option.map_some, cnd_true, cnd_false, pickV_true, pickV_false, gd_true, gd_false, gdV_true, gdV_false, gdH_true, gdH_false, gdS_true, gdS_false, wt_ff, wt_tt, wt_ft, wt_tf, wt_undef, obH_some', extractV_tuple, nilCheckV_ptr, againK_normal, againK_exit, againK_ret, blockK_normal, blockK_same, blockK_ret, seqK_normal, seqK_exit, seqK_ret, fin_done, if_true', if_false', Bool.not_true, Bool.not_false, idx0, idx1, idx2, idx3, idx4, chk_nil_l, chk_nil_r, done_nm]
        exact ih' _ _ _ _ _ _ _ _ _ _ _ _ _ _ _ _ _ _ _ _ _ _ _ _ _ _ _ _ _ _ _ _
theorem spec_refJoin {h : Heap} {v w : Value} {a b : List Nat} (sv : SU h v a) (sw : SU h w b) (ha : a.length < 2 ^ 38) (hb : b.length < 2 ^ 38) :
    ∃ x c h', evC Try.prog 20 #[v, w] h = some (.slice x (joinV a b).length c, h') ∧ HExt h h' ∧ AU h.blks.length h' (.slice x (joinV a b).length c) (joinV a b) := by
  rw [call20, c20_0_eq]
  exact rjoin_loop (h0 := h) ha hb sv.lo sw.lo (max a.length b.length) 0 (nm h) (.slice none 0 0) (by omega) sv.nm sw.nm .nil (In.refl (by simp)) _ _ _ _ _ _ _ _ _ _ _ _ _ _ _ _ _ _ _ _ _ _ _ _ _ _ _ _ _ _ _ _
theorem rup_loop {h0 : Heap} {i : Nat} (hi : i < 64) {a : List Nat} (ha : a.length < 2 ^ 38) (hb : ∀ n ∈ a, n < 2 ^ 64) (hx : a.getD i 0 ≠ 2 ^ 64 - 1) : ∀ (m : Nat) (h : Heap) (r : Value) (k : Nat), longV a k = longV a k → max a.length k + m = max a.length (i + 1) → AU h0.blks.length h r (longV a k) → In h0.blks.length No (nm h0) h →
    ∀ (x0 x2 x3 x4 x5 x7 x8 x9 x10 x11 x12 x13 x14 x15 x16 x17 x18 x19 x20 x21 x22 x23 x24 x25 x26 x27 x28 x29 x30 x31 x32 x33 x34 x35 x36 : Value),
    ∃ x c h', loopK Try.prog (evC Try.prog) c19_1 ⟨#[x0, .int .i64 i, x2, x3, x4, x5, r, x7, x8, x9, x10, x11, x12, x13, x14, x15, x16, x17, x18, x19, x20, x21, x22, x23, x24, x25, x26, x27, x28, x29, x30, x31, x32, x33, x34, x35, x36], h⟩ (blockK 0 (seqK Try.prog (evC Try.prog) c19_2 (retK Try.f19 Try.prog h0))) =
      some (.tuple #[.slice x ((longV a (i + 1)).set i (a.getD i 0 + 1)).length c, .bool true], h') ∧ HExt h0 h' ∧ AU h0.blks.length h' (.slice x ((longV a (i + 1)).set i (a.getD i 0 + 1)).length c) ((longV a (i + 1)).set i (a.getD i 0 + 1)) := by
  intro m
  induction m with
  | zero =>
    intro h r k _ hm sr hin x0 x2 x3 x4 x5 x7 x8 x9 x10 x11 x12 x13 x14 x15 x16 x17 x18 x19 x20 x21 x22 x23 x24 x25 x26 x27 x28 x29 x30 x31 x32 x33 x34 x35 x36
    have ek : longV a k = longV a (i + 1) := by
      refine getD_ext (by rw [longV_len, longV_len]; omega) fun j _ => by rw [longV_get, longV_get]
    rw [ek] at sr
    have hm2 : i < (longV a (i + 1)).length := by rw [longV_len]; omega
    have hlt := getD_lt a hb i
    obtain ⟨q, o, h2, e3, l3, st3, s3, k3, ln3, bq, oq⟩ := sr.set1 etU.under etU.size hm2 (.int .u64 ((a.getD i 0 + 1 : Nat) : Int)) .i64
    rw [map_get _ hm2, longV_get] at l3
    rw [set_u64] at s3
    obtain ⟨x, c, rfl⟩ := sr.shape
    have hw2 : IntKind.wrap .u64 ((a.getD i 0 : Nat) + 1 : Int) = ((a.getD i 0 + 1 : Nat) : Int) := by rw [wrap_u64] <;> omega
    rw [loopK_eq evC_m, c19_1_eq]
    simp -implicitDefEqProofs (disch := omega) only [dcT, dcF, sr.su.row.len_eq etU.under, ↓c19_2_eq, e3, vld64, l3, hw2, vst64, st3, ↓ret19, bin_add, bin_sub, bin_mul, bin_lss, bin_leq, bin_gtr, bin_geq, bin_eql, bin_neq, un_not, un_neg, Option.bind_some, Option.bind_none, Option.map_some, cnd_true, cnd_false, pickV_true, pickV_false, gd_true, gd_false, gdV_true, gdV_false, gdH_true, gdH_false, gdS_true, gdS_false, wt_ff, wt_tt, wt_ft, wt_tf, wt_undef, obH_some', extractV_tuple, nilCheckV_ptr, againK_normal, againK_exit, againK_ret, blockK_normal, blockK_same, blockK_ret, seqK_normal, seqK_exit, seqK_ret, fin_done, if_true', if_false', Bool.not_true, Bool.not_false, idx0, idx1, idx2, idx3, idx4, chk_nil_l, chk_nil_r, done_nm]
    have el : ((longV a (i + 1)).set i (a.getD i 0 + 1)).length = (longV a (i + 1)).length := List.length_set ..
    unfold AU
    rw [el]
    exact ⟨x, c, _, rfl, done_ext' (hin.trans k3.inn), s3.done⟩
  | succ m ih =>
    intro h r k _ hm sr hin x0 x2 x3 x4 x5 x7 x8 x9 x10 x11 x12 x13 x14 x15 x16 x17 x18 x19 x20 x21 x22 x23 x24 x25 x26 x27 x28 x29 x30 x31 x32 x33 x34 x35 x36
    have hlen := longV_len a k
    have hle : h0.blks.length ≤ h.blks.length := hin.len
    obtain ⟨x, c, h2, e3, s3, k3, _⟩ := app_num hle sr 0 (by omega)
    have ek : longV a k ++ [0] = longV a (max a.length k + 1) := by
      unfold longV
      rw [List.append_assoc]
      congr 1
      have : max a.length k + 1 - a.length = (k - a.length) + 1 := by omega
      rw [this, List.replicate_succ']
    rw [ek] at e3 s3
    rw [loopK_eq evC_m, c19_1_eq]
    simp -implicitDefEqProofs (disch := omega) only [dcT, dcF, sr.su.row.len_eq etU.under, mkU1, show Value.int .u64 0 = .int .u64 ((0 : Nat) : Int) from rfl, e3, bin_add, bin_sub, bin_mul, bin_lss, bin_leq, bin_gtr, bin_geq, bin_eql, bin_neq, un_not, un_neg, Option.bind_some, Option.bind_none, Option.map_some, cnd_true, cnd_false, pickV_true, pickV_false, gd_true, gd_false, gdV_true, gdV_false, gdH_true, gdH_false, gdS_true, gdS_false, wt_ff, wt_tt, wt_ft, wt_tf, wt_undef, obH_some', extractV_tuple, nilCheckV_ptr, againK_normal, againK_exit, againK_ret, blockK_normal, blockK_same, blockK_ret, seqK_normal, seqK_exit, seqK_ret, fin_done, if_true', if_false', Bool.not_true, Bool.not_false, idx0, idx1, idx2, idx3, idx4, chk_nil_l, chk_nil_r, done_nm]
    exact ih h2 _ (max a.length k + 1) rfl (by omega) s3 (hin.trans k3.inn) _ _ _ _ _ _ _ _ _ _ _ _ _ _ _ _ _ _ _ _ _ _ _ _ _ _ _ _ _ _ _ _ _ _ _
theorem spec_refUp (h : Heap) (x : Value) (bs : List Nat) (hx : SU h x bs) (hl : bs.length < 2 ^ 38) (hb : ∀ n ∈ bs, n < 2 ^ 64) (i : Int) :
    ∃ a c h', evC Try.prog 19 #[x, .int .i64 i] h = some (.tuple #[.slice a (upV bs i).1.length c, .bool (upV bs i).2], h') ∧ HExt h h' ∧ AU h.blks.length h' (.slice a (upV bs i).1.length c) (upV bs i).1 := by
  rw [call19, c19_0_eq]
  have hlit := AU.lit (h := nm h) (n0 := h.blks.length) (by simp) [] (by simp)
  obtain ⟨a, c, h3, e3, s3, k3, o3⟩ := app_nums etU etU.under (n0 := h.blks.length) (by simp [Heap.new]) hlit (hx.nm.keepNew _ _) (by simp; omega)
  rw [List.nil_append] at e3 s3
  simp only [List.map_nil, List.length_nil, nm_blks] at e3
  have hx3 : SU h3 x bs := hx.nm.keep fun b hb hv => by
    rw [o3 b (by simp [Heap.new] at hb ⊢; omega) (by simp [blockOf] at hb ⊢; omega)]; exact Heap.new_old hb
  have hin : In h.blks.length No (nm h) h3 := (In.new (by simp) _ _).trans k3.inn
  by_cases hc : i < 0 ∨ 64 ≤ i ∨ atI bs i = 2 ^ 64 - 1
  · have e : upV bs i = (bs, false) := if_pos hc
    rw [e]
    by_cases h0 : i < 0
    · simp -implicitDefEqProofs (disch := omega) only [dcT, dcF, mkU0, nm_blks, e3, ↓ret19, bin_add, bin_sub, bin_mul, bin_lss, bin_leq, bin_gtr, bin_geq, bin_eql, bin_neq, un_not, un_neg, Option.bind_some, Option.bind_none, Option.map_some, cnd_true, cnd_false, pickV_true, pickV_false, gd_true, gd_false, gdV_true, gdV_false, gdH_true, gdH_false, gdS_true, gdS_false, wt_ff, wt_tt, wt_ft, wt_tf, wt_undef, obH_some', extractV_tuple, nilCheckV_ptr, againK_normal, againK_exit, againK_ret, blockK_normal, blockK_same, blockK_ret, seqK_normal, seqK_exit, seqK_ret, fin_done, if_true', if_false', Bool.not_true, Bool.not_false, idx0, idx1, idx2, idx3, idx4, chk_nil_l, chk_nil_r, done_nm]
      exact ⟨a, c, _, rfl, done_ext' hin, s3.done⟩
    · by_cases h64 : 64 ≤ i
      · simp -implicitDefEqProofs (disch := omega) only [dcT, dcF, mkU0, nm_blks, e3, ↓ret19, bin_add, bin_sub, bin_mul, bin_lss, bin_leq, bin_gtr, bin_geq, bin_eql, bin_neq, un_not, un_neg, Option.bind_some, Option.bind_none, Option.map_some, cnd_true, cnd_false, pickV_true, pickV_false, gd_true, gd_false, gdV_true, gdV_false, gdH_true, gdH_false, gdS_true, gdS_false, wt_ff, wt_tt, wt_ft, wt_tf, wt_undef, obH_some', extractV_tuple, nilCheckV_ptr, againK_normal, againK_exit, againK_ret, blockK_normal, blockK_same, blockK_ret, seqK_normal, seqK_exit, seqK_ret, fin_done, if_true', if_false', Bool.not_true, Bool.not_false, idx0, idx1, idx2, idx3, idx4, chk_nil_l, chk_nil_r, done_nm]
        exact ⟨a, c, _, rfl, done_ext' hin, s3.done⟩
      · have hat : atI bs i = 2 ^ 64 - 1 := by omega
        simp -implicitDefEqProofs (disch := omega) only [dcT, dcF, mkU0, nm_blks, e3, spec_refAt hx3 i (by omega), hat, ↓ret19, bin_add, bin_sub, bin_mul, bin_lss, bin_leq, bin_gtr, bin_geq, bin_eql, bin_neq, un_not, un_neg, Option.bind_some, Option.bind_none, Option.map_some, cnd_true, cnd_false, pickV_true, pickV_false, gd_true, gd_false, gdV_true, gdV_false, gdH_true, gdH_false, gdS_true, gdS_false, wt_ff, wt_tt, wt_ft, wt_tf, wt_undef, obH_some', extractV_tuple, nilCheckV_ptr, againK_normal, againK_exit, againK_ret, blockK_normal, blockK_same, blockK_ret, seqK_normal, seqK_exit, seqK_ret, fin_done, if_true', if_false', Bool.not_true, Bool.not_false, idx0, idx1, idx2, idx3, idx4, chk_nil_l, chk_nil_r, done_nm]
        exact ⟨a, c, _, rfl, done_ext' hin, s3.done⟩
  · have e : upV bs i = ((longV bs (i.toNat + 1)).set i.toNat (atI bs i + 1), true) := if_neg hc
    rw [e]
    obtain ⟨m, rfl⟩ : ∃ m : Nat, i = m := ⟨i.toNat, by omega⟩
    have hat := spec_refAt hx3 (m : Int) (by omega)
    rw [atI_nat] at hc hat ⊢
    rw [Int.toNat_natCast]
    have hlt := getD_lt bs hb m
    simp -implicitDefEqProofs (disch := omega) only [dcT, dcF, mkU0, nm_blks, e3, hat, bin_add, bin_sub, bin_mul, bin_lss, bin_leq, bin_gtr, bin_geq, bin_eql, bin_neq, un_not, un_neg, Option.bind_some, Option.bind_none, Option.map_some, cnd_true, cnd_false, pickV_true, pickV_false, gd_true, gd_false, gdV_true, gdV_false, gdH_true, gdH_false, gdS_true, gdS_false, wt_ff, wt_tt, wt_ft, wt_tf, wt_undef, obH_some', extractV_tuple, nilCheckV_ptr, againK_normal, againK_exit, againK_ret, blockK_normal, blockK_same, blockK_ret, seqK_normal, seqK_exit, seqK_ret, fin_done, if_true', if_false', Bool.not_true, Bool.not_false, idx0, idx1, idx2, idx3, idx4, chk_nil_l, chk_nil_r, done_nm]
    have e0 : longV bs 0 = bs := by unfold longV; simp
    have s3' : AU h.blks.length h3 (.slice a bs.length c) (longV bs 0) := by rw [e0]; exact s3
    exact rup_loop (h0 := h) (i := m) (by omega) (by omega) hb (by omega) (max bs.length (m + 1) - bs.length) h3 _ 0 rfl (by omega) s3' hin _ _ _ _ _ _ _ _ _ _ _ _ _ _ _ _ _ _ _ _ _ _ _ _ _ _ _ _ _ _ _ _ _ _ _
end Go.Am
namespace Go.Am
open Go.Proofs
set_option maxRecDepth 100000
attribute [local congr] obind_congr obH_congr cnd_congr chk_congr retK_congr codeK_congr
theorem lit2 (h : Heap) (n m : Nat) : SU (h.new (.cells [.int .u64 n, .int .u64 m]) 29) (.slice (some ⟨h.blks.length, 0, none⟩) 2 2) [n, m] :=
  .mk (by simp [Heap.loadN, Heap.cells?, blk_new_self]; exact ⟨rfl, rfl⟩) (.inr ⟨Nat.le_refl _, by unfold UNK; decide⟩)
theorem spec_awake15 (h : Heap) : ∃ h', evC Try.prog 12 #[] h = some (.bool true, h') ∧ HExt h h' := by
  rw [call12, c12_0_eq]
  obtain ⟨a, c, h1, e1, x1, s1⟩ := spec_New 2 (nm h)
  have en : List.replicate (min (max (2 : Int) 0) 64).toNat 0 = [0, 0] := by decide
  rw [en] at e1 s1
  obtain ⟨a2, c2, h3, e3, x3, s3⟩ := spec_Up h1 _ [0, 0] s1.su (by decide) (by decide) 1
  have eu : upV [0, 0] 1 = ([0, 1], true) := by decide
  rw [eu] at e3 s3
  have i3 := (x1.inn (S := No) (n0 := h.blks.length) (by simp)).trans (x3.inn x1.len)
  have l3 : h.blks.length ≤ h3.blks.length := i3.len
  have b7 := lit2 h3 1 0
  have s7 := s3.su.keepNew (.cells [.int .u64 (1 : Nat), .int .u64 (0 : Nat)]) 29
  have k7 := mkV2 .u64 (1 : Nat) (0 : Nat) h3
  have i7 : In h.blks.length No h3 _ := In.new l3 (.cells [.int .u64 (1 : Nat), .int .u64 (0 : Nat)]) 29
  generalize h3.new (.cells [.int .u64 (1 : Nat), .int .u64 (0 : Nat)]) 29 = h7 at *
  have l7 := i7.len
  have b9 := lit2 h7 0 1
  have s9 := s7.keepNew (.cells [.int .u64 (0 : Nat), .int .u64 (1 : Nat)]) 29
  have b79 := b7.keepNew (.cells [.int .u64 (0 : Nat), .int .u64 (1 : Nat)]) 29
  have k9 := mkV2 .u64 (0 : Nat) (1 : Nat) h7
  have i9 : In h.blks.length No h7 _ := In.new (by omega) (.cells [.int .u64 (0 : Nat), .int .u64 (1 : Nat)]) 29
  generalize h7.new (.cells [.int .u64 (0 : Nat), .int .u64 (1 : Nat)]) 29 = h9 at *
  have l9 := i9.len
  have ec := spec_Cmp b79 b9 (by decide) (by decide)
  rw [show cmpV [1, 0] [0, 1] = 2 by decide] at ec
  have b15 := lit2 h9 0 1
  have s15 := s9.keepNew (.cells [.int .u64 (0 : Nat), .int .u64 (1 : Nat)]) 29
  have k15 := mkU2 .u64 (0 : Nat) (1 : Nat) h9
  have i15 : In h.blks.length No h9 _ := In.new (by omega) (.cells [.int .u64 (0 : Nat), .int .u64 (1 : Nat)]) 29
  generalize h9.new (.cells [.int .u64 (0 : Nat), .int .u64 (1 : Nat)]) 29 = h15 at *
  have el := spec_longs s15 b15 (by decide) (by decide)
  have ea := spec_At s15 1 (by decide)
  simp only [Int.natCast_zero, show ((1 : Nat) : Int) = 1 from rfl] at k7 k9 k15
  rw [show atI [0, 1] 1 = 1 by decide] at ea
  simp -implicitDefEqProofs (disch := omega) only [dcT, dcF, e1, e3, k7, k9, ec, k15, el, ea, eq_self, decide_true, ↓ret12, bin_add, bin_sub, bin_mul, bin_lss, bin_leq, bin_gtr, bin_geq, bin_eql, bin_neq, un_not, un_neg, Option.bind_some, Option.bind_none, Option.map_some, cnd_true, cnd_false, pickV_true, pickV_false, gd_true, gd_false, gdV_true, gdV_false, gdH_true, gdH_false, gdS_true, gdS_false, wt_ff, wt_tt, wt_ft, wt_tf, wt_undef, obH_some', extractV_tuple, nilCheckV_ptr, againK_normal, againK_exit, againK_ret, blockK_normal, blockK_same, blockK_ret, seqK_normal, seqK_exit, seqK_ret, fin_done, if_true', if_false', Bool.not_true, Bool.not_false, idx0, idx1, idx2, idx3, idx4, chk_nil_l, chk_nil_r, done_nm]
  exact ⟨_, rfl, done_ext' (((i3.trans i7).trans i9).trans i15)⟩
theorem mlaw_VecSays (v w : Value) (a b : List Nat) (i : Int) (h : Heap) (sv : SU h v a) (sw : SU h w b) (ha : ∀ n ∈ a, n < 2 ^ 64) : ∃ h', evC Try.prog 6 #[v, w, .int .i64 i] h = some (.bool true, h') := by
  rw [call6, c6_0_eq]
  obtain ⟨h1, e1, x1⟩ := spec_awake15 (nm h)
  have v1 := sv.nm.ext x1
  have w1 := sw.nm.ext x1
  by_cases g1 : a.length > 40
  · simp -implicitDefEqProofs (disch := omega) only [dcT, dcF, e1, v1.row.len_eq etU.under, ↓ret6, bin_add, bin_sub, bin_mul, bin_lss, bin_leq, bin_gtr, bin_geq, bin_eql, bin_neq, un_not, un_neg, Option.bind_some, Option.bind_none, Option.map_some, cnd_true, cnd_false, pickV_true, pickV_false, gd_true, gd_false, gdV_true, gdV_false, gdH_true, gdH_false, gdS_true, gdS_false, wt_ff, wt_tt, wt_ft, wt_tf, wt_undef, obH_some', extractV_tuple, nilCheckV_ptr, againK_normal, againK_exit, againK_ret, blockK_normal, blockK_same, blockK_ret, seqK_normal, seqK_exit, seqK_ret, fin_done, if_true', if_false', Bool.not_true, Bool.not_false, idx0, idx1, idx2, idx3, idx4, chk_nil_l, chk_nil_r, done_nm]
    exact ⟨_, rfl⟩
  by_cases g2 : b.length > 40
  · simp -implicitDefEqProofs (disch := omega) only [dcT, dcF, e1, v1.row.len_eq etU.under, w1.row.len_eq etU.under, ↓ret6, bin_add, bin_sub, bin_mul, bin_lss, bin_leq, bin_gtr, bin_geq, bin_eql, bin_neq, un_not, un_neg, Option.bind_some, Option.bind_none, Option.map_some, cnd_true, cnd_false, pickV_true, pickV_false, gd_true, gd_false, gdV_true, gdV_false, gdH_true, gdH_false, gdS_true, gdS_false, wt_ff, wt_tt, wt_ft, wt_tf, wt_undef, obH_some', extractV_tuple, nilCheckV_ptr, againK_normal, againK_exit, againK_ret, blockK_normal, blockK_same, blockK_ret, seqK_normal, seqK_exit, seqK_ret, fin_done, if_true', if_false', Bool.not_true, Bool.not_false, idx0, idx1, idx2, idx3, idx4, chk_nil_l, chk_nil_r, done_nm]
    exact ⟨_, rfl⟩
  obtain ⟨xa, xc, h2, e2, x2, s2⟩ := spec_Up h1 v a v1 (by omega) ha i
  have v2 := v1.ext x2
  have w2 := w1.ext x2
  obtain ⟨ya, yc, h3, e3, x3, s3⟩ := spec_refUp h2 v a v2 (by omega) ha i
  have v3 := v2.ext x3
  have w3 := w2.ext x3
  have hlen : (upV a i).1.length < 2 ^ 39 := by
    unfold upV
    split
    · simp; omega
    · rename_i hc
      simp only [List.length_set, longV_len]; omega
  have el := spec_longs (s2.su.ext x3) s3.su hlen hlen
  obtain ⟨ja, jc, h4, e4, x4, s4⟩ := spec_Join v3 w3 (by omega) (by omega)
  obtain ⟨ka, kc, h5, e5, x5, s5⟩ := spec_refJoin (v3.ext x4) (w3.ext x4) (by omega) (by omega)
  have el2 := spec_longs (s4.su.ext x5) s5.su (by rw [joinV_len]; omega) (by rw [joinV_len]; omega)
  have v5 := (v3.ext x4).ext x5
  have w5 := (w3.ext x4).ext x5
  have ec := spec_Cmp v5 w5 (by omega) (by omega)
  have ec2 := spec_refCmp v5 w5 (by omega) (by omega)
  have ea := spec_At v5 i (by omega)
  have ea2 := spec_refAt v5 i (by omega)
  have hb : ((upV a i).2 == (upV a i).2) = true := by cases (upV a i).2 <;> rfl
  simp -implicitDefEqProofs (disch := omega) only [dcT, dcF, e1, v1.row.len_eq etU.under, w1.row.len_eq etU.under, e2, e3, el, eq_self, decide_true, vbeql, hb, e4, e5, el2, ec, ec2, ea, ea2, ↓ret6, bin_add, bin_sub, bin_mul, bin_lss, bin_leq, bin_gtr, bin_geq, bin_eql, bin_neq, un_not, un_neg, Option.bind_some, Option.bind_none, Option.map_some, cnd_true, cnd_false, pickV_true, pickV_false, gd_true, gd_false, gdV_true, gdV_false, gdH_true, gdH_false, gdS_true, gdS_false, wt_ff, wt_tt, wt_ft, wt_tf, wt_undef, obH_some', extractV_tuple, nilCheckV_ptr, againK_normal, againK_exit, againK_ret, blockK_normal, blockK_same, blockK_ret, seqK_normal, seqK_exit, seqK_ret, fin_done, if_true', if_false', Bool.not_true, Bool.not_false, idx0, idx1, idx2, idx3, idx4, chk_nil_l, chk_nil_r, done_nm]
  exact ⟨_, rfl⟩
theorem lessV_iff (a b : List Nat) (n : Nat) (hn : b.length ≤ n) : lessV a b 0 n = true ↔ ∃ j, a.getD j 0 < b.getD j 0 := by
  unfold lessV
  rw [List.any_eq_true]
  constructor
  · rintro ⟨j, _, h⟩; exact ⟨j, of_decide_eq_true h⟩
  · rintro ⟨j, h⟩
    have hj : j < n := by
      rcases Nat.lt_or_ge j b.length with h1 | h1
      · omega
      · rw [List.getD_eq_getElem?_getD (l := b), List.getElem?_eq_none h1] at h; simp at h
    exact ⟨j, by simp [List.mem_range'_1, hj], decide_eq_true h⟩
theorem cmpV_cases (a b : List Nat) : (cmpV a b = 0 ∧ (∀ j, a.getD j 0 = b.getD j 0)) ∨ (cmpV a b = -1 ∧ (∀ j, a.getD j 0 ≤ b.getD j 0) ∧ ∃ j, a.getD j 0 < b.getD j 0) ∨
    (cmpV a b = 1 ∧ (∀ j, b.getD j 0 ≤ a.getD j 0) ∧ ∃ j, b.getD j 0 < a.getD j 0) ∨ (cmpV a b = 2 ∧ (∃ j, a.getD j 0 < b.getD j 0) ∧ ∃ j, b.getD j 0 < a.getD j 0) := by
  have h1 := lessV_iff a b (max a.length b.length) (by omega)
  have h2 := lessV_iff b a (max a.length b.length) (by omega)
  unfold cmpV
  cases e1 : lessV a b 0 (max a.length b.length) <;> cases e2 : lessV b a 0 (max a.length b.length)
  · rw [e1] at h1; rw [e2] at h2
    simp only [Bool.false_eq_true, false_iff, not_exists, Nat.not_lt] at h1 h2
    exact .inl ⟨rfl, fun j => Nat.le_antisymm (h2 j) (h1 j)⟩
  · rw [e1] at h1; rw [e2] at h2
    simp only [Bool.false_eq_true, false_iff, not_exists, Nat.not_lt] at h1
    exact .inr (.inr (.inl ⟨rfl, h1, h2.1 rfl⟩))
  · rw [e1] at h1; rw [e2] at h2
    simp only [Bool.false_eq_true, false_iff, not_exists, Nat.not_lt] at h2
    exact .inr (.inl ⟨rfl, h2, h1.1 rfl⟩)
  · rw [e1] at h1; rw [e2] at h2
    exact .inr (.inr (.inr ⟨rfl, h1.1 rfl, h2.1 rfl⟩))
theorem cmpV_le {a b : List Nat} (h : ∀ j, a.getD j 0 ≤ b.getD j 0) : cmpV a b = 0 ∨ cmpV a b = -1 := by
  rcases cmpV_cases a b with ⟨e, _⟩ | ⟨e, _⟩ | ⟨_, _, j, hj⟩ | ⟨_, _, j, hj⟩
  · exact .inl e
  · exact .inr e
  · have := h j; omega
  · have := h j; omega
theorem cmpV_self (a : List Nat) : cmpV a a = 0 := by
  rcases cmpV_cases a a with ⟨e, _⟩ | ⟨_, _, j, hj⟩ | ⟨_, _, j, hj⟩ | ⟨_, _, j, hj⟩
  · exact e
  all_goals omega
theorem joinV_comm (a b : List Nat) : joinV a b = joinV b a := by
  refine getD_ext (by rw [joinV_len, joinV_len]; omega) fun i _ => ?_
  rw [joinV_get, joinV_get]; omega
theorem joinV_again (a b : List Nat) : joinV (joinV a b) a = joinV a b := by
  refine getD_ext (by rw [joinV_len, joinV_len]; omega) fun i _ => ?_
  rw [joinV_get, joinV_get]; omega
theorem mlaw_VecJoins (v w : Value) (a b : List Nat) (i : Int) (h : Heap) (sv : SU h v a) (sw : SU h w b) (ha : ∀ n ∈ a, n < 2 ^ 64) : ∃ h', evC Try.prog 7 #[v, w, .int .i64 i] h = some (.bool true, h') := by
  rw [call7, c7_0_eq]
  obtain ⟨h1, e1, x1⟩ := spec_awake15 (nm h)
  have v1 := sv.nm.ext x1
  have w1 := sw.nm.ext x1
  by_cases g1 : a.length > 40
  · simp -implicitDefEqProofs (disch := omega) only [dcT, dcF, e1, v1.row.len_eq etU.under, ↓ret7, bin_add, bin_sub, bin_mul, bin_lss, bin_leq, bin_gtr, bin_geq, bin_eql, bin_neq, un_not, un_neg, Option.bind_some, Option.bind_none, Option.map_some, cnd_true, cnd_false, pickV_true, pickV_false, gd_true, gd_false, gdV_true, gdV_false, gdH_true, gdH_false, gdS_true, gdS_false, wt_ff, wt_tt, wt_ft, wt_tf, wt_undef, obH_some', extractV_tuple, nilCheckV_ptr, againK_normal, againK_exit, againK_ret, blockK_normal, blockK_same, blockK_ret, seqK_normal, seqK_exit, seqK_ret, fin_done, if_true', if_false', Bool.not_true, Bool.not_false, idx0, idx1, idx2, idx3, idx4, chk_nil_l, chk_nil_r, done_nm]
    exact ⟨_, rfl⟩
  by_cases g2 : b.length > 40
  · simp -implicitDefEqProofs (disch := omega) only [dcT, dcF, e1, v1.row.len_eq etU.under, w1.row.len_eq etU.under, ↓ret7, bin_add, bin_sub, bin_mul, bin_lss, bin_leq, bin_gtr, bin_geq, bin_eql, bin_neq, un_not, un_neg, Option.bind_some, Option.bind_none, Option.map_some, cnd_true, cnd_false, pickV_true, pickV_false, gd_true, gd_false, gdV_true, gdV_false, gdH_true, gdH_false, gdS_true, gdS_false, wt_ff, wt_tt, wt_ft, wt_tf, wt_undef, obH_some', extractV_tuple, nilCheckV_ptr, againK_normal, againK_exit, againK_ret, blockK_normal, blockK_same, blockK_ret, seqK_normal, seqK_exit, seqK_ret, fin_done, if_true', if_false', Bool.not_true, Bool.not_false, idx0, idx1, idx2, idx3, idx4, chk_nil_l, chk_nil_r, done_nm]
    exact ⟨_, rfl⟩
  obtain ⟨ja, jc, h2, e2, x2, s2⟩ := spec_Join v1 w1 (by omega) (by omega)
  have v2 := v1.ext x2
  have w2 := w1.ext x2
  have ec := spec_Cmp v2 s2.su (by omega) (by rw [joinV_len]; omega)
  have ed := spec_Cmp w2 s2.su (by omega) (by rw [joinV_len]; omega)
  obtain ⟨ua, uc, h3, e3, x3, s3⟩ := spec_Up h2 v a v2 (by omega) ha i
  have v3 := v2.ext x3
  have w3 := w2.ext x3
  obtain ⟨ka, kc, h4, e4, x4, s4⟩ := spec_Join w3 v3 (by omega) (by omega)
  rw [joinV_comm b a] at e4 s4
  have hjl : (joinV a b).length < 2 ^ 38 := by rw [joinV_len]; omega
  have el := spec_longs s4.su ((s2.su.ext x3).ext x4) (by omega) (by omega)
  obtain ⟨la, lc, h5, e5, x5, s5⟩ := spec_Join ((s2.su.ext x3).ext x4) (v3.ext x4) hjl (by omega)
  rw [joinV_again] at e5 s5
  have el2 := spec_longs s5.su (((s2.su.ext x3).ext x4).ext x5) (by omega) (by omega)
  have v5 := (v3.ext x4).ext x5
  have es := spec_Cmp v5 v5 (by omega) (by omega)
  rw [cmpV_self] at es
  have hlen : (upV a i).1.length < 2 ^ 39 := by
    unfold upV
    split
    · simp; omega
    · rename_i hc
      simp only [List.length_set, longV_len]; omega
  have eu := spec_Cmp v5 ((s3.su.ext x4).ext x5) (by omega) hlen
  have ea := spec_At ((s3.su.ext x4).ext x5) i (by omega)
  have ea2 := spec_At v5 i (by omega)
  have hc : cmpV a (joinV a b) = 0 ∨ cmpV a (joinV a b) = -1 := cmpV_le fun j => by rw [joinV_get]; omega
  have hd : cmpV b (joinV a b) = 0 ∨ cmpV b (joinV a b) = -1 := cmpV_le fun j => by rw [joinV_get]; omega
  by_cases hok : i < 0 ∨ 64 ≤ i ∨ atI a i = 2 ^ 64 - 1
  · have hu : upV a i = (a, false) := if_pos hok
    rw [hu] at e3
    rcases hc with hc | hc <;> rcases hd with hd | hd <;> rw [hc] at ec <;> rw [hd] at ed <;>
    · simp -implicitDefEqProofs (disch := omega) only [dcT, dcF, e1, v1.row.len_eq etU.under, w1.row.len_eq etU.under, e2, ec, ed, e3, e4, el, e5, el2, es, eq_self, decide_true, ↓ret7, bin_add, bin_sub, bin_mul, bin_lss, bin_leq, bin_gtr, bin_geq, bin_eql, bin_neq, un_not, un_neg, Option.bind_some, Option.bind_none, Option.map_some, cnd_true, cnd_false, pickV_true, pickV_false, gd_true, gd_false, gdV_true, gdV_false, gdH_true, gdH_false, gdS_true, gdS_false, wt_ff, wt_tt, wt_ft, wt_tf, wt_undef, obH_some', extractV_tuple, nilCheckV_ptr, againK_normal, againK_exit, againK_ret, blockK_normal, blockK_same, blockK_ret, seqK_normal, seqK_exit, seqK_ret, fin_done, if_true', if_false', Bool.not_true, Bool.not_false, idx0, idx1, idx2, idx3, idx4, chk_nil_l, chk_nil_r, done_nm]
      exact ⟨_, rfl⟩
  · have hu : upV a i = ((longV a (i.toNat + 1)).set i.toNat (atI a i + 1), true) := if_neg hok
    obtain ⟨m, rfl⟩ : ∃ m : Nat, i = m := ⟨i.toNat, by omega⟩
    rw [Int.toNat_natCast, atI_nat] at hu
    rw [atI_nat] at hok ea ea2
    have hg : ∀ j, (upV a (m : Int)).1.getD j 0 = if j = m then a.getD m 0 + 1 else a.getD j 0 := fun j => by
      rw [hu]; simp only []; rw [getD_set _ _ _ _ (by rw [longV_len]; omega), longV_get]
    have hcu : cmpV a (upV a (m : Int)).1 = -1 := by
      rcases cmpV_cases a (upV a (m : Int)).1 with ⟨_, e⟩ | ⟨e, _⟩ | ⟨_, _, j, hj⟩ | ⟨_, _, j, hj⟩
      · have := e m; rw [hg m, if_pos rfl] at this; omega
      · exact e
      · rw [hg j] at hj; split at hj
        · subst_vars; omega
        · omega
      · rw [hg j] at hj; split at hj
        · subst_vars; omega
        · omega
    rw [hcu] at eu
    have hlt := getD_lt a ha m
    have hat : (upV a (m : Int)).1.getD m 0 = a.getD m 0 + 1 := by rw [hg m, if_pos rfl]
    rw [hat] at ea
    have hw2 : IntKind.wrap .u64 ((a.getD m 0 : Nat) + 1 : Int) = ((a.getD m 0 + 1 : Nat) : Int) := by rw [wrap_u64] <;> omega
    have h2 : (upV a (m : Int)).2 = true := by rw [hu]
    rw [h2] at e3
    rcases hc with hc | hc <;> rcases hd with hd | hd <;> rw [hc] at ec <;> rw [hd] at ed <;>
    · simp -implicitDefEqProofs (disch := omega) only [dcT, dcF, e1, v1.row.len_eq etU.under, w1.row.len_eq etU.under, e2, ec, ed, e3, e4, el, e5, el2, es, eu, ea, ea2, hw2, eq_self, decide_true, ↓ret7, bin_add, bin_sub, bin_mul, bin_lss, bin_leq, bin_gtr, bin_geq, bin_eql, bin_neq, un_not, un_neg, Option.bind_some, Option.bind_none, Option.map_some, cnd_true, cnd_false, pickV_true, pickV_false, gd_true, gd_false, gdV_true, gdV_false, gdH_true, gdH_false, gdS_true, gdS_false, wt_ff, wt_tt, wt_ft, wt_tf, wt_undef, obH_some', extractV_tuple, nilCheckV_ptr, againK_normal, againK_exit, againK_ret, blockK_normal, blockK_same, blockK_ret, seqK_normal, seqK_exit, seqK_ret, fin_done, if_true', if_false', Bool.not_true, Bool.not_false, idx0, idx1, idx2, idx3, idx4, chk_nil_l, chk_nil_r, done_nm]
      exact ⟨_, rfl⟩
theorem cmpV_flip (a b : List Nat) : cmpV a b = 2 ∧ cmpV b a = 2 ∨ cmpV a b = 0 ∧ cmpV b a = 0 ∨ cmpV a b = -1 ∧ cmpV b a = 1 ∨ cmpV a b = 1 ∧ cmpV b a = -1 := by
  have e : cmpV b a = cmpF (lessV b a 0 (max a.length b.length)) (lessV a b 0 (max a.length b.length)) := by unfold cmpV; rw [Nat.max_comm]
  rw [e]
  unfold cmpV
  cases lessV a b 0 (max a.length b.length) <;> cases lessV b a 0 (max a.length b.length) <;> simp [cmpF]
theorem mlaw_VecOrder (u v w : Value) (a b c : List Nat) (h : Heap) (su : SU h u a) (sv : SU h v b) (sw : SU h w c) : ∃ h', evC Try.prog 3 #[u, v, w] h = some (.bool true, h') := by
  rw [call3, c3_0_eq]
  obtain ⟨h1, e1, x1⟩ := spec_awake15 (nm h)
  have u1 := su.nm.ext x1
  have v1 := sv.nm.ext x1
  have w1 := sw.nm.ext x1
  by_cases g1 : a.length > 30
  · simp -implicitDefEqProofs (disch := omega) only [dcT, dcF, e1, u1.row.len_eq etU.under, ↓ret3, bin_add, bin_sub, bin_mul, bin_lss, bin_leq, bin_gtr, bin_geq, bin_eql, bin_neq, un_not, un_neg, Option.bind_some, Option.bind_none, Option.map_some, cnd_true, cnd_false, pickV_true, pickV_false, gd_true, gd_false, gdV_true, gdV_false, gdH_true, gdH_false, gdS_true, gdS_false, wt_ff, wt_tt, wt_ft, wt_tf, wt_undef, obH_some', extractV_tuple, nilCheckV_ptr, againK_normal, againK_exit, againK_ret, blockK_normal, blockK_same, blockK_ret, seqK_normal, seqK_exit, seqK_ret, fin_done, if_true', if_false', Bool.not_true, Bool.not_false, idx0, idx1, idx2, idx3, idx4, chk_nil_l, chk_nil_r, done_nm]
    exact ⟨_, rfl⟩
  by_cases g2 : b.length > 30
  · simp -implicitDefEqProofs (disch := omega) only [dcT, dcF, e1, u1.row.len_eq etU.under, v1.row.len_eq etU.under, ↓ret3, bin_add, bin_sub, bin_mul, bin_lss, bin_leq, bin_gtr, bin_geq, bin_eql, bin_neq, un_not, un_neg, Option.bind_some, Option.bind_none, Option.map_some, cnd_true, cnd_false, pickV_true, pickV_false, gd_true, gd_false, gdV_true, gdV_false, gdH_true, gdH_false, gdS_true, gdS_false, wt_ff, wt_tt, wt_ft, wt_tf, wt_undef, obH_some', extractV_tuple, nilCheckV_ptr, againK_normal, againK_exit, againK_ret, blockK_normal, blockK_same, blockK_ret, seqK_normal, seqK_exit, seqK_ret, fin_done, if_true', if_false', Bool.not_true, Bool.not_false, idx0, idx1, idx2, idx3, idx4, chk_nil_l, chk_nil_r, done_nm]
    exact ⟨_, rfl⟩
  by_cases g3 : c.length > 30
  · simp -implicitDefEqProofs (disch := omega) only [dcT, dcF, e1, u1.row.len_eq etU.under, v1.row.len_eq etU.under, w1.row.len_eq etU.under, ↓ret3, bin_add, bin_sub, bin_mul, bin_lss, bin_leq, bin_gtr, bin_geq, bin_eql, bin_neq, un_not, un_neg, Option.bind_some, Option.bind_none, Option.map_some, cnd_true, cnd_false, pickV_true, pickV_false, gd_true, gd_false, gdV_true, gdV_false, gdH_true, gdH_false, gdS_true, gdS_false, wt_ff, wt_tt, wt_ft, wt_tf, wt_undef, obH_some', extractV_tuple, nilCheckV_ptr, againK_normal, againK_exit, againK_ret, blockK_normal, blockK_same, blockK_ret, seqK_normal, seqK_exit, seqK_ret, fin_done, if_true', if_false', Bool.not_true, Bool.not_false, idx0, idx1, idx2, idx3, idx4, chk_nil_l, chk_nil_r, done_nm]
    exact ⟨_, rfl⟩
  have ex := spec_Cmp u1 v1 (by omega) (by omega)
  have ey := spec_Cmp v1 w1 (by omega) (by omega)
  have ez := spec_Cmp u1 w1 (by omega) (by omega)
  have ew := spec_Cmp v1 u1 (by omega) (by omega)
  have hn1 : IntKind.wrap .i64 (0 - 1) = -1 := by rfl
  have hn2 : IntKind.wrap .i64 (0 - -1) = 1 := by rfl
  have hz : cmpV a b ≤ 0 → cmpV b c ≤ 0 → cmpV a c ≤ 0 := by
    intro hx hy
    have h1 : ∀ j, a.getD j 0 ≤ b.getD j 0 := fun j => by
      rcases cmpV_cases a b with ⟨_, e⟩ | ⟨_, e, _⟩ | ⟨e, _⟩ | ⟨e, _⟩
      · have := e j; omega
      · exact e j
      · omega
      · omega
    have h2 : ∀ j, b.getD j 0 ≤ c.getD j 0 := fun j => by
      rcases cmpV_cases b c with ⟨_, e⟩ | ⟨_, e, _⟩ | ⟨e, _⟩ | ⟨e, _⟩
      · have := e j; omega
      · exact e j
      · omega
      · omega
    rcases cmpV_le (a := a) (b := c) fun j => Nat.le_trans (h1 j) (h2 j) with e | e <;> omega
  generalize cmpV b c = y at *
  generalize cmpV a c = z at *
  rcases cmpV_flip a b with ⟨hx, hw⟩ | ⟨hx, hw⟩ | ⟨hx, hw⟩ | ⟨hx, hw⟩ <;> rw [hx] at ex hz <;> rw [hw] at ew <;> by_cases hy : y ≤ 0
  all_goals first
    | have hz' := hz (by omega) hy
    | skip
  all_goals
    simp -implicitDefEqProofs (disch := omega) only [dcT, dcF, e1, u1.row.len_eq etU.under, v1.row.len_eq etU.under, w1.row.len_eq etU.under, ex, ey, ez, ew, hn1, hn2, ↓ret3, bin_add, bin_sub, bin_mul, bin_lss, bin_leq, bin_gtr, bin_geq, bin_eql, bin_neq, un_not, un_neg, Option.bind_some, Option.bind_none, Option.map_some, cnd_true, cnd_false, pickV_true, pickV_false, gd_true, gd_false, gdV_true, gdV_false, gdH_true, gdH_false, gdS_true, gdS_false, wt_ff, wt_tt, wt_ft, wt_tf, wt_undef, obH_some', extractV_tuple, nilCheckV_ptr, againK_normal, againK_exit, againK_ret, blockK_normal, blockK_same, blockK_ret, seqK_normal, seqK_exit, seqK_ret, fin_done, if_true', if_false', Bool.not_true, Bool.not_false, idx0, idx1, idx2, idx3, idx4, chk_nil_l, chk_nil_r, done_nm]
    exact ⟨_, rfl⟩
theorem law_VecSays (h : Heap) (vs : List Value) (dd : List DT) (r : RdAll Try.prog h [22, 22, 3] vs dd) : ∃ h', evC Try.prog 6 vs.toArray h = some (.bool true, h') := by
  obtain ⟨v, d, vs', ds', rfl, rfl, r0, r1⟩ := r.cons_inv
  obtain ⟨v1, d1, vs', ds', rfl, rfl, ra, r2⟩ := r1.cons_inv
  obtain ⟨v2, d2, vs', ds', rfl, rfl, rb, r3⟩ := r2.cons_inv
  obtain ⟨rfl, rfl⟩ := r3.nil_inv
  obtain ⟨a, ha, hb, _⟩ := r0.u64s (e := 29) (by kernel_rfl) (by kernel_rfl) (by kernel_rfl)
  obtain ⟨b, hc, _, _⟩ := ra.u64s (e := 29) (by kernel_rfl) (by kernel_rfl) (by kernel_rfl)
  obtain ⟨m, rfl, _⟩ := rb.i64 (by kernel_rfl)
  exact mlaw_VecSays v v1 a b m h ha hc hb
theorem law_VecJoins (h : Heap) (vs : List Value) (dd : List DT) (r : RdAll Try.prog h [22, 22, 3] vs dd) : ∃ h', evC Try.prog 7 vs.toArray h = some (.bool true, h') := by
  obtain ⟨v, d, vs', ds', rfl, rfl, r0, r1⟩ := r.cons_inv
  obtain ⟨v1, d1, vs', ds', rfl, rfl, ra, r2⟩ := r1.cons_inv
  obtain ⟨v2, d2, vs', ds', rfl, rfl, rb, r3⟩ := r2.cons_inv
  obtain ⟨rfl, rfl⟩ := r3.nil_inv
  obtain ⟨a, ha, hb, _⟩ := r0.u64s (e := 29) (by kernel_rfl) (by kernel_rfl) (by kernel_rfl)
  obtain ⟨b, hc, _, _⟩ := ra.u64s (e := 29) (by kernel_rfl) (by kernel_rfl) (by kernel_rfl)
  obtain ⟨m, rfl, _⟩ := rb.i64 (by kernel_rfl)
  exact mlaw_VecJoins v v1 a b m h ha hc hb
theorem law_VecOrder (h : Heap) (vs : List Value) (dd : List DT) (r : RdAll Try.prog h [22, 22, 22] vs dd) : ∃ h', evC Try.prog 3 vs.toArray h = some (.bool true, h') := by
  obtain ⟨v, d, vs', ds', rfl, rfl, r0, r1⟩ := r.cons_inv
  obtain ⟨v1, d1, vs', ds', rfl, rfl, ra, r2⟩ := r1.cons_inv
  obtain ⟨v2, d2, vs', ds', rfl, rfl, rb, r3⟩ := r2.cons_inv
  obtain ⟨rfl, rfl⟩ := r3.nil_inv
  obtain ⟨a, ha, _, _⟩ := r0.u64s (e := 29) (by kernel_rfl) (by kernel_rfl) (by kernel_rfl)
  obtain ⟨b, hb, _, _⟩ := ra.u64s (e := 29) (by kernel_rfl) (by kernel_rfl) (by kernel_rfl)
  obtain ⟨c, hc, _, _⟩ := rb.u64s (e := 29) (by kernel_rfl) (by kernel_rfl) (by kernel_rfl)
  exact mlaw_VecOrder v v1 v2 a b c h ha hb hc
end Go.Am
namespace Go.Am
open Go.Proofs
set_option maxRecDepth 100000
set_option linter.all false
attribute [local congr] obind_congr obH_congr cnd_congr chk_congr retK_congr codeK_congr
abbrev SJ (h : Heap) (v : Value) (ns : List Int) : Prop := Sl Try.prog h 1 v ns.length (ns.map (Value.int .i64))
theorem undJ : Try.prog.underlying 26 = some (.slice 3) := by kernel_rfl
theorem sizeJ : sizeT Try.prog 3 = some 1 := by kernel_rfl
theorem sj_at {h : Heap} {v : Value} {ns : List Int} (s : SJ h v ns) {i : Nat} (hi : i < ns.length) :
    ∃ a, indexAddrV Try.prog 26 v (.int .i64 i) = some (.pointer (some a)) ∧ loadV Try.prog 3 (.pointer (some a)) h = some (.int .i64 (ns.getD i 0)) := by
  obtain ⟨a, e1, e2, _⟩ := s.row.at1 undJ sizeJ (by kernel_rfl) hi .i64
  have : (ns.map (Value.int .i64))[i]? = some (.int .i64 (ns.getD i 0)) := by
    rw [List.getElem?_map, List.getElem?_eq_getElem hi, List.getD_eq_getElem?_getD, List.getElem?_eq_getElem hi]; rfl
  rw [this] at e2
  exact ⟨a, e1, e2⟩
theorem alloc64 (h : Heap) : allocV Try.prog 30 h = some (.pointer (some ⟨h.blks.length, 0, none⟩), h.new (.cells ((List.replicate 64 0).map u64V)) 30) := by kernel_rfl
theorem ix64 (p i : Nat) (hi : i < 64) : indexAddrV Try.prog 30 (.pointer (some ⟨p, 0, none⟩)) (.int .i64 i) = some (.pointer (some ⟨p, i, none⟩)) := by
  unfold indexAddrV
  have hu : Try.prog.underlying 30 = some (.array 64 29) := by kernel_rfl
  simp only [hu, natOf_int, etU.size, if_pos hi, Nat.mul_one, Nat.zero_add]
/-! counts -/
structure Cv (v : List Nat) (p : List Int) : Prop where
  len : v.length ≤ 64
  at_ : ∀ j, v.getD j 0 = if j < 64 then p.count (j : Int) else 0
theorem Cv.lt {v : List Nat} {p : List Int} (c : Cv v p) (hp : p.length < 2 ^ 63) : ∀ n ∈ v, n < 2 ^ 64 := by
  intro n hn
  obtain ⟨j, hj, rfl⟩ := List.getElem_of_mem hn
  have h1 := c.at_ j
  rw [List.getD_eq_getElem?_getD, List.getElem?_eq_getElem hj, Option.getD_some] at h1
  rw [h1]
  have := List.count_le_length (a := (j : Int)) (l := p)
  split <;> omega
theorem Cv.getLt {v : List Nat} {p : List Int} (c : Cv v p) (hp : p.length < 2 ^ 63) (j : Nat) : v.getD j 0 < 2 ^ 63 := by
  rw [c.at_ j]
  have := List.count_le_length (a := (j : Int)) (l := p)
  split <;> omega
theorem set_getD (v : List Nat) (m j : Nat) (x : Nat) (hm : m < v.length) : (v.set m x).getD j 0 = if j = m then x else v.getD j 0 := by
  simp only [List.getD_eq_getElem?_getD]
  by_cases e : j = m
  · subst e; rw [List.getElem?_set_self hm, if_pos rfl]; rfl
  · rw [List.getElem?_set_ne (Ne.symm e), if_neg e]
theorem Cv.up {v : List Nat} {p : List Int} (c : Cv v p) (hp : p.length < 2 ^ 63) (n : Int) : Cv (upV v n).1 (p ++ [n]) ∧ (upV v n).2 = decide (0 ≤ n ∧ n < 64) := by
  have hcount : ∀ j : Nat, (p ++ [n]).count (j : Int) = p.count (j : Int) + if n = (j : Int) then 1 else 0 := by
    intro j
    rw [List.count_append, List.count_singleton]
    by_cases e : n = (j : Int)
    · simp [e]
    · rw [if_neg e]; simp [e]
  unfold upV
  by_cases hc : n < 0 ∨ 64 ≤ n
  · rw [if_pos (by omega)]
    refine ⟨⟨c.len, fun j => ?_⟩, ?_⟩
    · dsimp only
      rw [c.at_ j]
      by_cases hj : j < 64
      · rw [if_pos hj, if_pos hj, hcount j, if_neg (by omega)]; rfl
      · rw [if_neg hj, if_neg hj]
    · rw [decide_eq_false (by omega)]
  · obtain ⟨m, rfl⟩ : ∃ m : Nat, n = m := ⟨n.toNat, by omega⟩
    have hg := c.getLt hp m
    rw [atI_nat, if_neg (by omega), Int.toNat_natCast]
    have hl := longV_len v (m + 1)
    have hcl := c.len
    refine ⟨⟨by dsimp only; rw [List.length_set, hl]; omega, fun j => ?_⟩, ?_⟩
    · dsimp only
      rw [set_getD _ _ _ _ (by omega), longV_get, c.at_ j, c.at_ m]
      by_cases hj : j < 64
      · rw [if_pos hj, if_pos hj, hcount j]
        by_cases e : j = m
        · subst e; rw [if_pos rfl, if_pos hj, if_pos rfl]
        · rw [if_neg e, if_neg (by omega)]; rfl
      · rw [if_neg hj, if_neg hj, if_neg (by omega)]
    · rw [decide_eq_true (by omega)]
theorem Cv.same {v w : List Nat} {p q : List Int} (a : Cv v p) (b : Cv w q) (h : ∀ j : Int, p.count j = q.count j) : cmpV v w = 0 := by
  have e : ∀ j, v.getD j 0 = w.getD j 0 := fun j => by rw [a.at_ j, b.at_ j, h]
  rcases cmpV_cases v w with ⟨h0, _⟩ | ⟨_, _, j, hj⟩ | ⟨_, _, j, hj⟩ | ⟨_, ⟨j, hj⟩, _⟩
  · exact h0
  all_goals have := e j; omega
theorem Cv.zero (v : List Nat) (h : ∀ j, v.getD j 0 = 0) (hl : v.length ≤ 64) : Cv v [] := ⟨hl, fun j => by rw [h j]; simp⟩
theorem Cells.setU {h : Heap} {p : Nat} {ty : TypeId} {ns : List Nat} (c : Cells h p ty (ns.map u64V)) {m : Nat} (hm : m < ns.length) (x : Nat) :
    h.storeN p m [.int .u64 (x : Nat)] = some (h.put p (.cells ((ns.set m x).map u64V))) ∧ Cells (h.put p (.cells ((ns.set m x).map u64V))) p ty ((ns.set m x).map u64V) := by
  refine ⟨?_, c.put _⟩
  rw [storeN_blk c (by simp; omega)]
  congr 3
  have : (Value.int .u64 (x : Nat)) = u64V x := rfl
  rw [this, List.map_set, List.set_eq_take_append_cons_drop, if_pos (by simpa using hm)]
  simp
end Go.Am
namespace Go.Am
open Go.Proofs
set_option maxRecDepth 100000
set_option linter.all false
attribute [local congr] obind_congr obH_congr cnd_congr chk_congr retK_congr codeK_congr
theorem ups_loop2 {h0 : Heap} (p : Nat) (v w : Value) (vs ws cs : List Nat) (l q : List Int) (h : Heap) (sv : SU h v vs) (sw : SU h w ws) (sc : Cells h p 30 (cs.map u64V)) (hc : cs.length = 64)
    (cv : Cv vs l) (cw : Cv ws q) (cc : Cv cs l) (hq : ∀ j : Int, l.count j = q.count j) : ∀ (m i : Nat), 64 = i + m → ∀ (x0 x1 x2 x6 x7 x8 x10 x11 x12 x13 x14 x15 x16 x17 x18 x19 x20 x21 x22 x23 x24 x25 x26 x27 x28 x29 x30 x31 x32 x33 x34 x35 x36 x37 x38 x39 x40 x41 x42 x43 x44 x45 x46 x47 x48 x49 x50 x51 x52 x53 x54 x55 x56 x57 x58 x59 x60 x61 x62 x63 x64 x65 x66 x67 x68 x69 x70 x71 x72 x73 x74 x75 x76 x77 x78 x79 x80 x81 x82 x83 : Value),
    ∃ h', loopK Try.prog (evC Try.prog) c4_5 ⟨#[x0, x1, x2, v, w, .pointer (some ⟨p, 0, none⟩), x6, x7, x8, .int .i64 i, x10, x11, x12, x13, x14, x15, x16, x17, x18, x19, x20, x21, x22, x23, x24, x25, x26, x27, x28, x29, x30, x31, x32, x33, x34, x35, x36, x37, x38, x39, x40, x41, x42, x43, x44, x45, x46, x47, x48, x49, x50, x51, x52, x53, x54, x55, x56, x57, x58, x59, x60, x61, x62, x63, x64, x65, x66, x67, x68, x69, x70, x71, x72, x73, x74, x75, x76, x77, x78, x79, x80, x81, x82, x83], h⟩ (blockK 2 (seqK Try.prog (evC Try.prog) c4_6 (retK Try.f4 Try.prog h0))) = some (.bool true, h') := by
  have hv := cv.len
  have hw := cw.len
  intro m
  induction m with
  | zero =>
    intro i hi x0 x1 x2 x6 x7 x8 x10 x11 x12 x13 x14 x15 x16 x17 x18 x19 x20 x21 x22 x23 x24 x25 x26 x27 x28 x29 x30 x31 x32 x33 x34 x35 x36 x37 x38 x39 x40 x41 x42 x43 x44 x45 x46 x47 x48 x49 x50 x51 x52 x53 x54 x55 x56 x57 x58 x59 x60 x61 x62 x63 x64 x65 x66 x67 x68 x69 x70 x71 x72 x73 x74 x75 x76 x77 x78 x79 x80 x81 x82 x83
    rw [loopK_eq evC_m, c4_5_eq]
    have ec := spec_Cmp sv sw (by omega) (by omega)
    rw [cv.same cw hq] at ec
    simp -implicitDefEqProofs (disch := omega) only [dcT, dcF, ↓c4_6_eq, ec, eq_self, decide_true, ↓ret4, bin_add, bin_sub, bin_mul, bin_lss, bin_leq, bin_gtr, bin_geq, bin_eql, bin_neq, un_not, un_neg, Option.bind_some, Option.bind_none, Option.map_some, cnd_true, cnd_false, pickV_true, pickV_false, gd_true, gd_false, gdV_true, gdV_false, gdH_true, gdH_false, gdS_true, gdS_false, wt_ff, wt_tt, wt_ft, wt_tf, wt_undef, obH_some', extractV_tuple, nilCheckV_ptr, againK_normal, againK_exit, againK_ret, blockK_normal, blockK_same, blockK_ret, seqK_normal, seqK_exit, seqK_ret, fin_done, if_true', if_false', Bool.not_true, Bool.not_false, idx0, idx1, idx2, idx3, idx4, chk_nil_l, chk_nil_r, done_nm]
    exact ⟨_, rfl⟩
  | succ m ih =>
    intro i hi x0 x1 x2 x6 x7 x8 x10 x11 x12 x13 x14 x15 x16 x17 x18 x19 x20 x21 x22 x23 x24 x25 x26 x27 x28 x29 x30 x31 x32 x33 x34 x35 x36 x37 x38 x39 x40 x41 x42 x43 x44 x45 x46 x47 x48 x49 x50 x51 x52 x53 x54 x55 x56 x57 x58 x59 x60 x61 x62 x63 x64 x65 x66 x67 x68 x69 x70 x71 x72 x73 x74 x75 x76 x77 x78 x79 x80 x81 x82 x83
    rw [loopK_eq evC_m, c4_5_eq]
    have ea := spec_At (sv.nm) (i : Int) (by omega)
    have hg : (cs.map u64V)[i]? = some (.int .u64 (cs.getD i 0 : Nat)) := map_get cs (by omega)
    have ld : h.load1 p i = some (.int .u64 (cs.getD i 0 : Nat)) := by rw [sc.load, hg]
    have e : vs.getD i 0 = cs.getD i 0 := by rw [cv.at_, cc.at_]
    rw [atI_nat, e] at ea
    have hw : IntKind.wrap .i64 ((i : Int) + 1) = ((i + 1 : Nat) : Int) := by rw [wrap_i64] <;> omega
    have eam : am (nm h) h = h := rfl
    have ix := ix64 p i (by omega)
    simp -implicitDefEqProofs (disch := omega) only [dcT, dcF, ea, ix, eam, vld64, ld, eq_self, decide_true, hw, bin_add, bin_sub, bin_mul, bin_lss, bin_leq, bin_gtr, bin_geq, bin_eql, bin_neq, un_not, un_neg, Option.bind_some, Option.bind_none, Option.map_some, cnd_true, cnd_false, pickV_true, pickV_false, gd_true, gd_false, gdV_true, gdV_false, gdH_true, gdH_false, gdS_true, gdS_false, wt_ff, wt_tt, wt_ft, wt_tf, wt_undef, obH_some', extractV_tuple, nilCheckV_ptr, againK_normal, againK_exit, againK_ret, blockK_normal, blockK_same, blockK_ret, seqK_normal, seqK_exit, seqK_ret, fin_done, if_true', if_false', Bool.not_true, Bool.not_false, idx0, idx1, idx2, idx3, idx4, chk_nil_l, chk_nil_r, done_nm]
    exact ih (i + 1) (by omega) _ _ _ _ _ _ _ _ _ _ _ _ _ _ _ _ _ _ _ _ _ _ _ _ _ _ _ _ _ _ _ _ _ _ _ _ _ _ _ _ _ _ _ _ _ _ _ _ _ _ _ _ _ _ _ _ _ _ _ _ _ _ _ _ _ _ _ _ _ _ _ _ _ _ _ _ _ _ _ _
end Go.Am
namespace Go.Am
open Go.Proofs
set_option maxRecDepth 100000
set_option linter.all false
attribute [local congr] obind_congr obH_congr cnd_congr chk_congr retK_congr codeK_congr
theorem vbneq (xo yo : Operand) (a b : Bool) : binV Try.prog .neq 4 xo yo (.bool a) (.bool b) = some (.bool (!(a == b))) := bin_bneq _ _ _ _ (by cases a <;> cases b <;> kernel_rfl)
theorem take_snoc {l : List Int} {i : Nat} (hi : i < l.length) : l.take (i + 1) = l.take i ++ [l.getD i 0] := by
  rw [List.take_succ, List.getD_eq_getElem?_getD, List.getElem?_eq_getElem hi]; rfl
theorem rev_getD {l : List Int} {i : Nat} (hi : i < l.length) : l.reverse.getD i 0 = l.getD (l.length - 1 - i) 0 := by
  rw [List.getD_eq_getElem?_getD, List.getD_eq_getElem?_getD, List.getElem?_reverse hi]
theorem ups_loop {h0 : Heap} (p : Nat) (hp0 : h0.blks.length ≤ p) (x : Value) (l : List Int) (hl : l.length ≤ 60) : ∀ (m i : Nat) (h : Heap) (v w : Value) (vs ws cs : List Nat), l.length = i + m → SJ h x l → (∀ b, blockOf x = some b → b < h0.blks.length) → SU h v vs → blockOf v ≠ some p → SU h w ws → blockOf w ≠ some p →
    Cells h p 30 (cs.map u64V) → cs.length = 64 → Cv vs (l.take i) → Cv ws (l.reverse.take i) → Cv cs (l.take i) → ∀ (x1 x2 x7 x8 x9 x10 x11 x12 x13 x14 x15 x16 x17 x18 x19 x20 x21 x22 x23 x24 x25 x26 x27 x28 x29 x30 x31 x32 x33 x34 x35 x36 x37 x38 x39 x40 x41 x42 x43 x44 x45 x46 x47 x48 x49 x50 x51 x52 x53 x54 x55 x56 x57 x58 x59 x60 x61 x62 x63 x64 x65 x66 x67 x68 x69 x70 x71 x72 x73 x74 x75 x76 x77 x78 x79 x80 x81 x82 x83 : Value),
    ∃ h', loopK Try.prog (evC Try.prog) c4_1 ⟨#[x, x1, x2, v, w, .pointer (some ⟨p, 0, none⟩), .int .i64 i, x7, x8, x9, x10, x11, x12, x13, x14, x15, x16, x17, x18, x19, x20, x21, x22, x23, x24, x25, x26, x27, x28, x29, x30, x31, x32, x33, x34, x35, x36, x37, x38, x39, x40, x41, x42, x43, x44, x45, x46, x47, x48, x49, x50, x51, x52, x53, x54, x55, x56, x57, x58, x59, x60, x61, x62, x63, x64, x65, x66, x67, x68, x69, x70, x71, x72, x73, x74, x75, x76, x77, x78, x79, x80, x81, x82, x83], h⟩ (blockK 0 (seqK Try.prog (evC Try.prog) c4_2 (retK Try.f4 Try.prog h0))) = some (.bool true, h') := by
  intro m
  induction m with
  | zero =>
    intro i h v w vs ws cs hi sx hx sv hv sw hw sc hc cv cw cc x1 x2 x7 x8 x9 x10 x11 x12 x13 x14 x15 x16 x17 x18 x19 x20 x21 x22 x23 x24 x25 x26 x27 x28 x29 x30 x31 x32 x33 x34 x35 x36 x37 x38 x39 x40 x41 x42 x43 x44 x45 x46 x47 x48 x49 x50 x51 x52 x53 x54 x55 x56 x57 x58 x59 x60 x61 x62 x63 x64 x65 x66 x67 x68 x69 x70 x71 x72 x73 x74 x75 x76 x77 x78 x79 x80 x81 x82 x83
    rw [loopK_eq evC_m, c4_1_eq]
    rw [List.take_of_length_le (by omega)] at cv cc
    rw [List.take_of_length_le (by simp; omega)] at cw
    simp -implicitDefEqProofs (disch := omega) only [dcT, dcF, sx.row.len_eq undJ, ↓c4_2_eq, bin_add, bin_sub, bin_mul, bin_lss, bin_leq, bin_gtr, bin_geq, bin_eql, bin_neq, un_not, un_neg, Option.bind_some, Option.bind_none, Option.map_some, cnd_true, cnd_false, pickV_true, pickV_false, gd_true, gd_false, gdV_true, gdV_false, gdH_true, gdH_false, gdS_true, gdS_false, wt_ff, wt_tt, wt_ft, wt_tf, wt_undef, obH_some', extractV_tuple, nilCheckV_ptr, againK_normal, againK_exit, againK_ret, blockK_normal, blockK_same, blockK_ret, seqK_normal, seqK_exit, seqK_ret, fin_done, if_true', if_false', Bool.not_true, Bool.not_false, idx0, idx1, idx2, idx3, idx4, chk_nil_l, chk_nil_r, done_nm]
    exact ups_loop2 p v w vs ws cs l l.reverse h sv sw sc hc cv cw cc (fun j => by rw [List.count_reverse]) 64 0 rfl _ _ _ _ _ _ _ _ _ _ _ _ _ _ _ _ _ _ _ _ _ _ _ _ _ _ _ _ _ _ _ _ _ _ _ _ _ _ _ _ _ _ _ _ _ _ _ _ _ _ _ _ _ _ _ _ _ _ _ _ _ _ _ _ _ _ _ _ _ _ _ _ _ _ _ _ _ _ _ _
  | succ m ih =>
    intro i h v w vs ws cs hi sx hx sv hv sw hw sc hc cv cw cc x1 x2 x7 x8 x9 x10 x11 x12 x13 x14 x15 x16 x17 x18 x19 x20 x21 x22 x23 x24 x25 x26 x27 x28 x29 x30 x31 x32 x33 x34 x35 x36 x37 x38 x39 x40 x41 x42 x43 x44 x45 x46 x47 x48 x49 x50 x51 x52 x53 x54 x55 x56 x57 x58 x59 x60 x61 x62 x63 x64 x65 x66 x67 x68 x69 x70 x71 x72 x73 x74 x75 x76 x77 x78 x79 x80 x81 x82 x83
    rw [loopK_eq evC_m, c4_1_eq]
    have hvl := cv.len
    have hwl := cw.len
    have hpl := sc.lt
    have hlt : (l.take i).length < 2 ^ 63 := by simp; omega
    have hlr : (l.reverse.take i).length < 2 ^ 63 := by simp; omega
    obtain ⟨xa, xi, xl⟩ := sj_at sx (i := i) (by omega)
    obtain ⟨a1, c1, h1, e1, x1, s1⟩ := spec_Up h v vs sv (by omega) (cv.lt hlt) (l.getD i 0)
    obtain ⟨nv, nok⟩ := cv.up hlt (l.getD i 0)
    rw [← take_snoc (by omega)] at nv
    rw [nok] at e1
    have sx1 := sx.ext x1
    have sw1 := sw.ext x1
    have sc1 := sc.ext x1
    obtain ⟨xa1, xi1, xl1⟩ := sj_at sx1 (i := i) (by omega)
    obtain rfl : xa = xa1 := by rw [xi] at xi1; simpa using xi1
    have hw1 : IntKind.wrap .i64 ((i : Int) + 1) = ((i + 1 : Nat) : Int) := by rw [wrap_i64] <;> omega
    have hw2 : IntKind.wrap .i64 ((l.length : Int) - 1) = ((l.length - 1 : Nat) : Int) := by rw [wrap_i64] <;> omega
    have hw3 : IntKind.wrap .i64 (((l.length - 1 : Nat) : Int) - (i : Int)) = ((l.length - 1 - i : Nat) : Int) := by rw [wrap_i64] <;> omega
    have nw := fun n => (cw.up hlr n).1
    have nvn := s1.ne (p := p) hpl
    by_cases hc0 : 0 ≤ l.getD i 0 ∧ l.getD i 0 < 64
    · obtain ⟨g1, g2⟩ := hc0
      rw [decide_eq_true ⟨g1, g2⟩] at e1
      obtain ⟨n, hn⟩ : ∃ n : Nat, l.getD i 0 = n := ⟨(l.getD i 0).toNat, by omega⟩
      obtain ⟨nc, _⟩ := cc.up hlt (l.getD i 0)
      rw [← take_snoc (by omega)] at nc
      have hcn := cc.getLt hlt n
      have eup : (upV cs (l.getD i 0)).1 = cs.set n (cs.getD n 0 + 1) := by
        unfold upV
        rw [hn, atI_nat, if_neg (by omega), Int.toNat_natCast]
        unfold longV
        rw [show n + 1 - cs.length = 0 by omega]
        simp
      rw [eup] at nc
      obtain ⟨st, sc2⟩ := sc1.setU (m := n) (by omega) (cs.getD n 0 + 1)
      have hg : (cs.map u64V)[n]? = some (.int .u64 (cs.getD n 0 : Nat)) := map_get cs (by omega)
      have ld : h1.load1 p n = some (.int .u64 (cs.getD n 0 : Nat)) := by rw [sc1.load, hg]
      have hwc : IntKind.wrap .u64 ((cs.getD n 0 : Nat) + 1 : Int) = ((cs.getD n 0 + 1 : Nat) : Int) := by rw [wrap_u64] <;> omega
      have ix := ix64 p n (by omega)
      have hxp : blockOf x ≠ some p := fun e => by have := hx p e; omega
      have sx2 := sx1.keepPut hxp (.cells ((cs.set n (cs.getD n 0 + 1)).map u64V))
      have sw2 := sw1.keepPut hw (.cells ((cs.set n (cs.getD n 0 + 1)).map u64V))
      have sv2 := s1.su.keepPut nvn (.cells ((cs.set n (cs.getD n 0 + 1)).map u64V))
      have l2 : h1.blks.length = (h1.put p (.cells ((cs.set n (cs.getD n 0 + 1)).map u64V))).blks.length := (Heap.put_len ..).symm
      have hpl1 := sc1.lt
      generalize (h1.put p (.cells ((cs.set n (cs.getD n 0 + 1)).map u64V))) = h2 at *
      obtain ⟨xa2, xi2, xl2⟩ := sj_at sx2 (i := l.length - 1 - i) (by omega)
      obtain ⟨a3, c3, h3, e3, x3, s3⟩ := spec_Up h2 w ws sw2 (by omega) (cw.lt hlr) (l.getD (l.length - 1 - i) 0)
      have nw' := nw (l.getD (l.length - 1 - i) 0)
      rw [← rev_getD (by omega), ← take_snoc (by simp; omega)] at nw'
      rw [rev_getD (by omega)] at nw'
      have nwn := s3.ne (p := p) (by omega)
      rw [hn] at e1 xl xl1 nv sv2 nvn
      have g3 : ((n : Int) ≥ 0) = True := by simp
      simp -implicitDefEqProofs (disch := omega) only [dcT, dcF, sx.row.len_eq undJ, xi, xl, hn, e1, xl1, xi1, vbneq, beq_self_eq_true, ix, vld64, ld, hwc, vst64, st, ↓c4_3_eq, ↓c4_4_eq, sx2.row.len_eq undJ, hw2, hw3, xi2, xl2, e3, hw1, bin_add, bin_sub, bin_mul, bin_lss, bin_leq, bin_gtr, bin_geq, bin_eql, bin_neq, un_not, un_neg, Option.bind_some, Option.bind_none, Option.map_some, cnd_true, cnd_false, pickV_true, pickV_false, gd_true, gd_false, gdV_true, gdV_false, gdH_true, gdH_false, gdS_true, gdS_false, wt_ff, wt_tt, wt_ft, wt_tf, wt_undef, obH_some', extractV_tuple, nilCheckV_ptr, againK_normal, againK_exit, againK_ret, blockK_normal, blockK_same, blockK_ret, seqK_normal, seqK_exit, seqK_ret, fin_done, if_true', if_false', Bool.not_true, Bool.not_false, idx0, idx1, idx2, idx3, idx4, chk_nil_l, chk_nil_r, done_nm]
      exact ih (i + 1) h3 _ _ _ _ _ (by omega) (sx2.ext x3) hx (sv2.ext x3) nvn s3.su nwn (sc2.ext x3) (by simpa using hc) nv nw' nc _ _ _ _ _ _ _ _ _ _ _ _ _ _ _ _ _ _ _ _ _ _ _ _ _ _ _ _ _ _ _ _ _ _ _ _ _ _ _ _ _ _ _ _ _ _ _ _ _ _ _ _ _ _ _ _ _ _ _ _ _ _ _ _ _ _ _ _ _ _ _ _ _ _ _ _ _ _ _
    · rw [decide_eq_false hc0] at e1
      obtain ⟨nc, _⟩ := cc.up hlt (l.getD i 0)
      rw [← take_snoc (by omega)] at nc
      have eup : (upV cs (l.getD i 0)).1 = cs := by
        unfold upV
        rw [if_pos (by omega)]
      rw [eup] at nc
      obtain ⟨xa2, xi2, xl2⟩ := sj_at sx1 (i := l.length - 1 - i) (by omega)
      obtain ⟨a3, c3, h3, e3, x3, s3⟩ := spec_Up h1 w ws sw1 (by omega) (cw.lt hlr) (l.getD (l.length - 1 - i) 0)
      have nw' := nw (l.getD (l.length - 1 - i) 0)
      rw [← rev_getD (by omega), ← take_snoc (by simp; omega)] at nw'
      rw [rev_getD (by omega)] at nw'
      have hpl1 := sc1.lt
      have nwn := s3.ne (p := p) (by omega)
      by_cases g1 : l.getD i 0 < 0
      · simp -implicitDefEqProofs (disch := omega) only [dcT, dcF, sx.row.len_eq undJ, xi, xl, e1, xl1, xi1, vbneq, beq_self_eq_true, ↓c4_3_eq, ↓c4_4_eq, sx1.row.len_eq undJ, hw2, hw3, xi2, xl2, e3, hw1, bin_add, bin_sub, bin_mul, bin_lss, bin_leq, bin_gtr, bin_geq, bin_eql, bin_neq, un_not, un_neg, Option.bind_some, Option.bind_none, Option.map_some, cnd_true, cnd_false, pickV_true, pickV_false, gd_true, gd_false, gdV_true, gdV_false, gdH_true, gdH_false, gdS_true, gdS_false, wt_ff, wt_tt, wt_ft, wt_tf, wt_undef, obH_some', extractV_tuple, nilCheckV_ptr, againK_normal, againK_exit, againK_ret, blockK_normal, blockK_same, blockK_ret, seqK_normal, seqK_exit, seqK_ret, fin_done, if_true', if_false', Bool.not_true, Bool.not_false, idx0, idx1, idx2, idx3, idx4, chk_nil_l, chk_nil_r, done_nm]
        exact ih (i + 1) h3 _ _ _ _ _ (by omega) (sx1.ext x3) hx (s1.su.ext x3) nvn s3.su nwn (sc1.ext x3) hc nv nw' nc _ _ _ _ _ _ _ _ _ _ _ _ _ _ _ _ _ _ _ _ _ _ _ _ _ _ _ _ _ _ _ _ _ _ _ _ _ _ _ _ _ _ _ _ _ _ _ _ _ _ _ _ _ _ _ _ _ _ _ _ _ _ _ _ _ _ _ _ _ _ _ _ _ _ _ _ _ _ _
      · have g2 : ¬ l.getD i 0 < 64 := by omega
        simp -implicitDefEqProofs (disch := omega) only [dcT, dcF, sx.row.len_eq undJ, xi, xl, e1, xl1, xi1, vbneq, beq_self_eq_true, ↓c4_3_eq, ↓c4_4_eq, sx1.row.len_eq undJ, hw2, hw3, xi2, xl2, e3, hw1, bin_add, bin_sub, bin_mul, bin_lss, bin_leq, bin_gtr, bin_geq, bin_eql, bin_neq, un_not, un_neg, Option.bind_some, Option.bind_none, Option.map_some, cnd_true, cnd_false, pickV_true, pickV_false, gd_true, gd_false, gdV_true, gdV_false, gdH_true, gdH_false, gdS_true, gdS_false, wt_ff, wt_tt, wt_ft, wt_tf, wt_undef, obH_some', extractV_tuple, nilCheckV_ptr, againK_normal, againK_exit, againK_ret, blockK_normal, blockK_same, blockK_ret, seqK_normal, seqK_exit, seqK_ret, fin_done, if_true', if_false', Bool.not_true, Bool.not_false, idx0, idx1, idx2, idx3, idx4, chk_nil_l, chk_nil_r, done_nm]
        exact ih (i + 1) h3 _ _ _ _ _ (by omega) (sx1.ext x3) hx (s1.su.ext x3) nvn s3.su nwn (sc1.ext x3) hc nv nw' nc _ _ _ _ _ _ _ _ _ _ _ _ _ _ _ _ _ _ _ _ _ _ _ _ _ _ _ _ _ _ _ _ _ _ _ _ _ _ _ _ _ _ _ _ _ _ _ _ _ _ _ _ _ _ _ _ _ _ _ _ _ _ _ _ _ _ _ _ _ _ _ _ _ _ _ _ _ _ _
theorem mlaw_VecUps (x : Value) (l : List Int) (h : Heap) (sx : SJ h x l) : ∃ h', evC Try.prog 4 #[x] h = some (.bool true, h') := by
  rw [call4, c4_0_eq]
  obtain ⟨h1, e1, x1⟩ := spec_awake15 (nm h)
  have sx1 := sx.nm.ext x1
  by_cases g1 : l.length > 60
  · simp -implicitDefEqProofs (disch := omega) only [dcT, dcF, e1, sx1.row.len_eq undJ, ↓ret4, bin_add, bin_sub, bin_mul, bin_lss, bin_leq, bin_gtr, bin_geq, bin_eql, bin_neq, un_not, un_neg, Option.bind_some, Option.bind_none, Option.map_some, cnd_true, cnd_false, pickV_true, pickV_false, gd_true, gd_false, gdV_true, gdV_false, gdH_true, gdH_false, gdS_true, gdS_false, wt_ff, wt_tt, wt_ft, wt_tf, wt_undef, obH_some', extractV_tuple, nilCheckV_ptr, againK_normal, againK_exit, againK_ret, blockK_normal, blockK_same, blockK_ret, seqK_normal, seqK_exit, seqK_ret, fin_done, if_true', if_false', Bool.not_true, Bool.not_false, idx0, idx1, idx2, idx3, idx4, chk_nil_l, chk_nil_r, done_nm]
    exact ⟨_, rfl⟩
  obtain ⟨a2, c2, h2, e2, x2, s2⟩ := spec_New 0 h1
  obtain ⟨a3, c3, h3, e3, x3, s3⟩ := spec_New 0 h2
  have en : List.replicate (min (max (0 : Int) 0) 64).toNat 0 = [] := by decide
  rw [en] at e2 s2 e3 s3
  have hle : h.blks.length ≤ h3.blks.length := Nat.le_trans x1.len (Nat.le_trans x2.len x3.len)
  simp -implicitDefEqProofs (disch := omega) only [dcT, dcF, e1, sx1.row.len_eq undJ, e2, e3, alloc64, bin_add, bin_sub, bin_mul, bin_lss, bin_leq, bin_gtr, bin_geq, bin_eql, bin_neq, un_not, un_neg, Option.bind_some, Option.bind_none, Option.map_some, cnd_true, cnd_false, pickV_true, pickV_false, gd_true, gd_false, gdV_true, gdV_false, gdH_true, gdH_false, gdS_true, gdS_false, wt_ff, wt_tt, wt_ft, wt_tf, wt_undef, obH_some', extractV_tuple, nilCheckV_ptr, againK_normal, againK_exit, againK_ret, blockK_normal, blockK_same, blockK_ret, seqK_normal, seqK_exit, seqK_ret, fin_done, if_true', if_false', Bool.not_true, Bool.not_false, idx0, idx1, idx2, idx3, idx4, chk_nil_l, chk_nil_r, done_nm]
  have sv := s2.su.ext x3
  have z : ∀ j, ([] : List Nat).getD j 0 = 0 := fun j => rfl
  have zc : ∀ j, (List.replicate 64 0).getD j 0 = 0 := fun j => by
    rw [List.getD_eq_getElem?_getD, List.getElem?_replicate]
    split <;> rfl
  exact ups_loop h3.blks.length hle x l (by omega) l.length 0 _ _ _ [] [] (List.replicate 64 0) (by omega) (((sx1.ext x2).ext x3).keepNew _ _) (fun b hb => sx.lt hb)
    (sv.keepNew _ _) (fun e => by have := sv.lt e; omega) (s3.su.keepNew _ _) (fun e => by have := s3.su.lt e; omega) (Cells.new _ _ _) (by simp)
    (Cv.zero _ z (by simp)) (Cv.zero _ z (by simp)) (Cv.zero _ zc (by simp)) _ _ _ _ _ _ _ _ _ _ _ _ _ _ _ _ _ _ _ _ _ _ _ _ _ _ _ _ _ _ _ _ _ _ _ _ _ _ _ _ _ _ _ _ _ _ _ _ _ _ _ _ _ _ _ _ _ _ _ _ _ _ _ _ _ _ _ _ _ _ _ _ _ _ _ _ _ _ _
theorem law_VecUps (h : Heap) (vs : List Value) (dd : List DT) (r : RdAll Try.prog h [26] vs dd) : ∃ h', evC Try.prog 4 vs.toArray h = some (.bool true, h') := by
  obtain ⟨v, d, vs', ds', rfl, rfl, r0, r1⟩ := r.cons_inv
  obtain ⟨rfl, rfl⟩ := r1.nil_inv
  obtain ⟨l, hl, _, _⟩ := r0.ints undJ (by kernel_rfl : Try.prog.underlying 3 = some (.int .i64)) (by kernel_rfl)
  exact mlaw_VecUps v l h hl
end Go.Am
