/- What the functions answer, in the machine. -/
import Derived.Test.YtojjjicjpimhoaaKF
set_option linter.all false
namespace Go.Am
open Go.Proofs
set_option maxRecDepth 100000
set_option linter.all false
attribute [local congr] obind_congr obH_congr cnd_congr chk_congr retK_congr codeK_congr
variable {L : Nat} {h h' : Heap} {p : Nat} {n me : Int} {rv gv : Value} {m : List (List Nat)} {g : List Nat}
def canCol (g col : List Nat) : Bool := (List.range col.length).all fun k => decide (col.getD k 0 ≤ g.getD k 0)
def canColF (g col : List Nat) (i : Nat) : Bool := (List.range' i (col.length - i)).all fun k => decide (col.getD k 0 ≤ g.getD k 0)
def canE (n me : Int) (g : List Nat) (from' : Int) (bs : List UInt8) : Bool := match readM n bs with
  | none => false
  | some r => decide (0 ≤ from' ∧ from' < n ∧ from' ≠ me) && canCol g (columnM n r me)
theorem canColF_zero (g col : List Nat) : canColF g col 0 = canCol g col := by unfold canColF canCol; rw [Nat.sub_zero, List.range_eq_range']
theorem canColF_end (g col : List Nat) : canColF g col col.length = true := by unfold canColF; rw [Nat.sub_self]; rfl
theorem canColF_step (g col : List Nat) {i : Nat} (hi : i < col.length) : canColF g col i = (decide (col.getD i 0 ≤ g.getD i 0) && canColF g col (i + 1)) := by
  unfold canColF
  rw [show col.length - i = (col.length - (i + 1)) + 1 by omega, List.range'_succ]; rfl
theorem can_loop {h0 h : Heap} {p : Nat} {cv : Value} {col : List Nat} (E : EnC L h p n me rv gv m g) (sc : SU h cv col) (hc : col.length ≤ g.length) (hl : g.length ≤ 16) : ∀ (mm i : Nat), col.length = i + mm → ∀ (x1 x2 x3 x4 x5 x6 x7 x8 x9 x10 x11 x12 x13 x14 x15 x16 x17 x18 x19 x20 x21 x22 x23 x24 x25 x26 x27 x28 x29 x30 x31 x32 x33 x34 x35 x36 x37 x38 x39 x40 x41 x42 x43 x44 x45 x46 x47 x48 x52 x53 x54 x55 x56 x57 x58 x59 x60 x61 x62 x63 x64 x65 : Value),
    loopK Try.prog (evC Try.prog) c31_1 ⟨#[.pointer (some ⟨p, 0, none⟩), x1, x2, x3, x4, x5, x6, x7, x8, x9, x10, x11, x12, x13, x14, x15, x16, x17, x18, x19, x20, x21, x22, x23, x24, x25, x26, x27, x28, x29, x30, x31, x32, x33, x34, x35, x36, x37, x38, x39, x40, x41, x42, x43, x44, x45, x46, x47, x48, cv, .int .i64 col.length, .int .i64 i, x52, x53, x54, x55, x56, x57, x58, x59, x60, x61, x62, x63, x64, x65], h⟩ (blockK 0 (seqK Try.prog (evC Try.prog) c31_2 (retK Try.f31 Try.prog h0))) =
      some (.bool (canColF g col i), done h0 h) := by
  intro mm
  induction mm with
  | zero =>
    intro i hi x1 x2 x3 x4 x5 x6 x7 x8 x9 x10 x11 x12 x13 x14 x15 x16 x17 x18 x19 x20 x21 x22 x23 x24 x25 x26 x27 x28 x29 x30 x31 x32 x33 x34 x35 x36 x37 x38 x39 x40 x41 x42 x43 x44 x45 x46 x47 x48 x52 x53 x54 x55 x56 x57 x58 x59 x60 x61 x62 x63 x64 x65
    rw [loopK_eq evC_m, c31_1_eq]
    rw [show i = col.length by omega, canColF_end]
    simp -implicitDefEqProofs (disch := omega) only [dcT, dcF, ↓c31_2_eq, ↓ret31, ↓cnd_true, ↓cnd_false, ↓Option.bind_some, ↓obH_some', bin_add, bin_sub, bin_mul, bin_lss, bin_leq, bin_gtr, bin_geq, bin_eql, bin_neq, un_not, un_neg, Option.bind_some, Option.bind_none, Option.map_some, cnd_true, cnd_false, pickV_true, pickV_false, gd_true, gd_false, gdV_true, gdV_false, gdH_true, gdH_false, gdS_true, gdS_false, wt_ff, wt_tt, wt_ft, wt_tf, wt_undef, obH_some', extractV_tuple, nilCheckV_ptr, againK_normal, againK_exit, againK_ret, blockK_normal, blockK_same, blockK_ret, seqK_normal, seqK_exit, seqK_ret, fin_done, if_true', if_false', Bool.not_true, Bool.not_false, idx0, idx1, idx2, idx3, idx4, chk_nil_l, chk_nil_r, done_nm]
  | succ mm ih =>
    intro i hi x1 x2 x3 x4 x5 x6 x7 x8 x9 x10 x11 x12 x13 x14 x15 x16 x17 x18 x19 x20 x21 x22 x23 x24 x25 x26 x27 x28 x29 x30 x31 x32 x33 x34 x35 x36 x37 x38 x39 x40 x41 x42 x43 x44 x45 x46 x47 x48 x52 x53 x54 x55 x56 x57 x58 x59 x60 x61 x62 x63 x64 x65
    rw [loopK_eq evC_m, c31_1_eq]
    obtain ⟨a1, e1, e2⟩ := su_at sc etV.under (i := i) (by omega)
    obtain ⟨a3, e3, e4⟩ := su_at E.au.su etV.under (i := i) (by omega)
    have hw : IntKind.wrap .i64 ((i : Int) + 1) = ((i + 1 : Nat) : Int) := by rw [wrap_i64] <;> omega
    rw [canColF_step g col (by omega)]
    by_cases hlt : g.getD i 0 < col.getD i 0
    · rw [decide_eq_false (by omega), Bool.false_and]
      simp -implicitDefEqProofs (disch := omega) only [dcT, dcF, e1, e2, faE3, ldVv, E.l4, e3, e4, ↓ret31, ↓cnd_true, ↓cnd_false, ↓Option.bind_some, ↓obH_some', bin_add, bin_sub, bin_mul, bin_lss, bin_leq, bin_gtr, bin_geq, bin_eql, bin_neq, un_not, un_neg, Option.bind_some, Option.bind_none, Option.map_some, cnd_true, cnd_false, pickV_true, pickV_false, gd_true, gd_false, gdV_true, gdV_false, gdH_true, gdH_false, gdS_true, gdS_false, wt_ff, wt_tt, wt_ft, wt_tf, wt_undef, obH_some', extractV_tuple, nilCheckV_ptr, againK_normal, againK_exit, againK_ret, blockK_normal, blockK_same, blockK_ret, seqK_normal, seqK_exit, seqK_ret, fin_done, if_true', if_false', Bool.not_true, Bool.not_false, idx0, idx1, idx2, idx3, idx4, chk_nil_l, chk_nil_r, done_nm]
    · rw [decide_eq_true (show col.getD i 0 ≤ g.getD i 0 by omega), Bool.true_and]
      simp -implicitDefEqProofs (disch := omega) only [dcT, dcF, e1, e2, faE3, ldVv, E.l4, e3, e4, hw, ↓cnd_true, ↓cnd_false, ↓Option.bind_some, ↓obH_some', bin_add, bin_sub, bin_mul, bin_lss, bin_leq, bin_gtr, bin_geq, bin_eql, bin_neq, un_not, un_neg, Option.bind_some, Option.bind_none, Option.map_some, cnd_true, cnd_false, pickV_true, pickV_false, gd_true, gd_false, gdV_true, gdV_false, gdH_true, gdH_false, gdS_true, gdS_false, wt_ff, wt_tt, wt_ft, wt_tf, wt_undef, obH_some', extractV_tuple, nilCheckV_ptr, againK_normal, againK_exit, againK_ret, blockK_normal, blockK_same, blockK_ret, seqK_normal, seqK_exit, seqK_ret, fin_done, if_true', if_false', Bool.not_true, Bool.not_false, idx0, idx1, idx2, idx3, idx4, chk_nil_l, chk_nil_r, done_nm]
      exact ih (i + 1) (by omega) _ _ _ _ _ _ _ _ _ _ _ _ _ _ _ _ _ _ _ _ _ _ _ _ _ _ _ _ _ _ _ _ _ _ _ _ _ _ _ _ _ _ _ _ _ _ _ _ _ _ _ _ _ _ _ _ _ _ _ _ _ _
theorem columnM_len {n me : Int} {r : List (List Nat)} (gd : goodM n r = true) : (columnM n r me).length ≤ r.length := by
  unfold columnM
  split
  · simp [colM]
  · simp
theorem spec_ECan (E : En L h p n me m g) (ok : EnOk n me m g) (from' : Int) (num : Nat) {b : Value} {bs : List UInt8} (sb : SB h b bs) (hb : bs.length < 2 ^ 38) :
    ∃ h', evC Try.prog 31 #[.pointer (some ⟨p, 0, none⟩), .int .i64 from', .int .u64 num, b] h = some (.bool (canE n me g from' bs), h') ∧ HExt h h' := by
  rw [call31, c31_0_eq]
  obtain ⟨rv, gv, E⟩ := E
  have E0 := E.same (h' := nm h) ⟨Nat.le_refl _, fun _ _ => rfl⟩
  obtain ⟨wv, h2, e2, x2, a2⟩ := spec_Read (n := n) (b := b) (bs := bs) sb.nm hb
  have i2 : In h.blks.length No (nm h) h2 := x2.inn (Nat.le_refl _)
  obtain ⟨wa, wc, rfl⟩ := a2.shape
  have k3 := alM h2
  have k3' := mvar (h := h2) (readV n (readM n bs)) wa ((readM n bs).getD []).length wc
  have c3 := mvar_cells h2 [.int .i64 0, .slice none 0 0] [.int .i64 (readV n (readM n bs)), .slice wa ((readM n bs).getD []).length wc] 29
  have s3 := mvar_same h2 (.cells [.int .i64 0, .slice none 0 0]) (.cells [.int .i64 (readV n (readM n bs)), .slice wa ((readM n bs).getD []).length wc]) 29
  have i3 := i2.trans (mvar_in (h := h2) i2.len (.cells [.int .i64 0, .slice none 0 0]) (.cells [.int .i64 (readV n (readM n bs)), .slice wa ((readM n bs).getD []).length wc]) 29)
  generalize (h2.new (.cells [.int .i64 0, .slice none 0 0]) 29).put h2.blks.length (.cells [.int .i64 (readV n (readM n bs)), .slice wa ((readM n bs).getD []).length wc]) = h3 at *
  have E3 := E.same i3.same0
  have m3 := a2.smV.same s3
  cases hr : readM n bs with
  | none =>
    rw [hr] at e2
    rw [hr] at k3'
    rw [show (none : Option (List (List Nat))).isSome = false from rfl] at e2
    have ec : canE n me g from' bs = false := by unfold canE; rw [hr]
    rw [ec]
    simp -implicitDefEqProofs (disch := omega) only [dcT, dcF, faE0, mldInt, E0.l0, e2, k3, k3', ↓ret31, ↓cnd_true, ↓cnd_false, ↓Option.bind_some, ↓obH_some', bin_add, bin_sub, bin_mul, bin_lss, bin_leq, bin_gtr, bin_geq, bin_eql, bin_neq, un_not, un_neg, Option.bind_some, Option.bind_none, Option.map_some, cnd_true, cnd_false, pickV_true, pickV_false, gd_true, gd_false, gdV_true, gdV_false, gdH_true, gdH_false, gdS_true, gdS_false, wt_ff, wt_tt, wt_ft, wt_tf, wt_undef, obH_some', extractV_tuple, nilCheckV_ptr, againK_normal, againK_exit, againK_ret, blockK_normal, blockK_same, blockK_ret, seqK_normal, seqK_exit, seqK_ret, fin_done, if_true', if_false', Bool.not_true, Bool.not_false, idx0, idx1, idx2, idx3, idx4, chk_nil_l, chk_nil_r, done_nm]
    exact ⟨_, rfl, done_ext' i3⟩
  | some r =>
    have hg := readM_good hr
    rw [hr] at e2 k3' m3 c3
    rw [show (some r : Option (List (List Nat))).isSome = true from rfl, show readV n (some r) = n from rfl] at e2
    rw [show readV n (some r) = n from rfl] at k3' c3
    rw [show (some r).getD [] = r from rfl] at e2 k3' m3 c3
    have ec : canE n me g from' bs = (decide (0 ≤ from' ∧ from' < n ∧ from' ≠ me) && canCol g (columnM n r me)) := by unfold canE; rw [hr]
    rw [ec]
    by_cases h1 : 0 ≤ from'
    · by_cases h2 : from' < n
      · by_cases h3' : from' = me
        · rw [decide_eq_false (fun x => x.2.2 h3'), Bool.false_and]
          simp -implicitDefEqProofs (disch := omega) only [dcT, dcF, faE0, faE1, mldInt, E0.l0, e2, k3, k3', E3.l0, E3.l1, ↓ret31, ↓cnd_true, ↓cnd_false, ↓Option.bind_some, ↓obH_some', bin_add, bin_sub, bin_mul, bin_lss, bin_leq, bin_gtr, bin_geq, bin_eql, bin_neq, un_not, un_neg, Option.bind_some, Option.bind_none, Option.map_some, cnd_true, cnd_false, pickV_true, pickV_false, gd_true, gd_false, gdV_true, gdV_false, gdH_true, gdH_false, gdS_true, gdS_false, wt_ff, wt_tt, wt_ft, wt_tf, wt_undef, obH_some', extractV_tuple, nilCheckV_ptr, againK_normal, againK_exit, againK_ret, blockK_normal, blockK_same, blockK_ret, seqK_normal, seqK_exit, seqK_ret, fin_done, if_true', if_false', Bool.not_true, Bool.not_false, idx0, idx1, idx2, idx3, idx4, chk_nil_l, chk_nil_r, done_nm]
          exact ⟨_, rfl, done_ext' i3⟩
        · rw [decide_eq_true (show 0 ≤ from' ∧ from' < n ∧ from' ≠ me from ⟨h1, h2, h3'⟩), Bool.true_and]
          have hgi := (goodM_iff n r).1 hg.1
          obtain ⟨ca, cc, h5, e5, x5, a5⟩ := spec_Column (n := n) m3 (by have := hgi.1; omega) me
          have hlc := columnM_len (me := me) hg.1
          have := can_loop (h0 := h) (E3.ext x5) a5.su (by have := ok.gl; omega) (by have := ok.gl; omega) (columnM n r me).length 0 (by omega)
          rw [canColF_zero, show ((0 : Nat) : Int) = 0 from rfl] at this
          have ln := a5.su.row.len_eq etV.under
          simp -implicitDefEqProofs (disch := omega) only [dcT, dcF, faE0, faE1, mldInt, E0.l0, e2, k3, k3', E3.l0, E3.l1, ldM' c3, e5, ln, ↓cnd_true, ↓cnd_false, ↓Option.bind_some, ↓obH_some', bin_add, bin_sub, bin_mul, bin_lss, bin_leq, bin_gtr, bin_geq, bin_eql, bin_neq, un_not, un_neg, Option.bind_some, Option.bind_none, Option.map_some, cnd_true, cnd_false, pickV_true, pickV_false, gd_true, gd_false, gdV_true, gdV_false, gdH_true, gdH_false, gdS_true, gdS_false, wt_ff, wt_tt, wt_ft, wt_tf, wt_undef, obH_some', extractV_tuple, nilCheckV_ptr, againK_normal, againK_exit, againK_ret, blockK_normal, blockK_same, blockK_ret, seqK_normal, seqK_exit, seqK_ret, fin_done, if_true', if_false', Bool.not_true, Bool.not_false, idx0, idx1, idx2, idx3, idx4, chk_nil_l, chk_nil_r, done_nm]
          exact ⟨_, this _ _ _ _ _ _ _ _ _ _ _ _ _ _ _ _ _ _ _ _ _ _ _ _ _ _ _ _ _ _ _ _ _ _ _ _ _ _ _ _ _ _ _ _ _ _ _ _ _ _ _ _ _ _ _ _ _ _ _ _ _ _, done_ext' (i3.trans (x5.inn i3.len))⟩
      · rw [decide_eq_false (fun x => h2 x.2.1), Bool.false_and]
        simp -implicitDefEqProofs (disch := omega) only [dcT, dcF, faE0, faE1, mldInt, E0.l0, e2, k3, k3', E3.l0, E3.l1, ↓ret31, ↓cnd_true, ↓cnd_false, ↓Option.bind_some, ↓obH_some', bin_add, bin_sub, bin_mul, bin_lss, bin_leq, bin_gtr, bin_geq, bin_eql, bin_neq, un_not, un_neg, Option.bind_some, Option.bind_none, Option.map_some, cnd_true, cnd_false, pickV_true, pickV_false, gd_true, gd_false, gdV_true, gdV_false, gdH_true, gdH_false, gdS_true, gdS_false, wt_ff, wt_tt, wt_ft, wt_tf, wt_undef, obH_some', extractV_tuple, nilCheckV_ptr, againK_normal, againK_exit, againK_ret, blockK_normal, blockK_same, blockK_ret, seqK_normal, seqK_exit, seqK_ret, fin_done, if_true', if_false', Bool.not_true, Bool.not_false, idx0, idx1, idx2, idx3, idx4, chk_nil_l, chk_nil_r, done_nm]
        exact ⟨_, rfl, done_ext' i3⟩
    · rw [decide_eq_false (fun x => h1 x.1), Bool.false_and]
      simp -implicitDefEqProofs (disch := omega) only [dcT, dcF, faE0, faE1, mldInt, E0.l0, e2, k3, k3', E3.l0, E3.l1, ↓ret31, ↓cnd_true, ↓cnd_false, ↓Option.bind_some, ↓obH_some', bin_add, bin_sub, bin_mul, bin_lss, bin_leq, bin_gtr, bin_geq, bin_eql, bin_neq, un_not, un_neg, Option.bind_some, Option.bind_none, Option.map_some, cnd_true, cnd_false, pickV_true, pickV_false, gd_true, gd_false, gdV_true, gdV_false, gdH_true, gdH_false, gdS_true, gdS_false, wt_ff, wt_tt, wt_ft, wt_tf, wt_undef, obH_some', extractV_tuple, nilCheckV_ptr, againK_normal, againK_exit, againK_ret, blockK_normal, blockK_same, blockK_ret, seqK_normal, seqK_exit, seqK_ret, fin_done, if_true', if_false', Bool.not_true, Bool.not_false, idx0, idx1, idx2, idx3, idx4, chk_nil_l, chk_nil_r, done_nm]
      exact ⟨_, rfl, done_ext' i3⟩
theorem goodM_up {n : Int} {m : List (List Nat)} (gd : goodM n m = true) (i : Int) (to : Nat) : goodM n (upM n m i to) = true := by
  unfold upM
  split
  · rename_i hc
    have hg := (goodM_iff n m).1 gd
    refine (goodM_iff n _).2 ⟨⟨hg.1.1, hg.1.2.1, by rw [List.length_set]; exact hg.1.2.2⟩, fun r hr => ?_⟩
    rcases List.mem_or_eq_of_mem_set hr with h | rfl
    · exact hg.2 r h
    · rw [up1_len]; exact goodM_rows gd (by omega)
  · exact gd
/-- what a Take makes of an engine -/
def takeG (n me : Int) (g : List Nat) (from' : Int) (bs : List UInt8) : List Nat := if canE n me g from' bs = true then (upV g from').1 else g
def takeM (n me : Int) (m : List (List Nat)) (g : List Nat) (from' : Int) (to : Nat) (bs : List UInt8) : List (List Nat) := if canE n me g from' bs = true then joinM m (upM n ((readM n bs).getD []) from' to) else m
theorem spec_ETake (E : En L h p n me m g) (hL : L ≤ h.blks.length) (ok : EnOk n me m g) (from' : Int) (num to : Nat) (hto : to < 2 ^ 64) {b : Value} {bs : List UInt8} (sb : SB h b bs) (hb : bs.length < 2 ^ 38) :
    ∃ h', evC Try.prog 30 #[.pointer (some ⟨p, 0, none⟩), .int .i64 from', .int .u64 num, .int .u64 to, b] h = some (.bool (canE n me g from' bs), h') ∧ HMod (Just p) h h' ∧ En L h' p n me (takeM n me m g from' to bs) (takeG n me g from' bs) := by
  rw [call30, c30_0_eq]
  have E0 := E.nm
  obtain ⟨h1, e1, x1⟩ := spec_ECan E0 ok from' num sb.nm hb
  have i1 : In h.blks.length (Just p) (nm h) h1 := x1.inn (Nat.le_refl _)
  unfold takeM takeG
  cases hcan : canE n me g from' bs with
  | false =>
    rw [hcan] at e1
    simp -implicitDefEqProofs (disch := omega) only [e1, ↓ret30, ↓cnd_true, ↓cnd_false, ↓Option.bind_some, ↓obH_some', bin_add, bin_sub, bin_mul, bin_lss, bin_leq, bin_gtr, bin_geq, bin_eql, bin_neq, un_not, un_neg, Option.bind_some, Option.bind_none, Option.map_some, cnd_true, cnd_false, pickV_true, pickV_false, gd_true, gd_false, gdV_true, gdV_false, gdH_true, gdH_false, gdS_true, gdS_false, wt_ff, wt_tt, wt_ft, wt_tf, wt_undef, obH_some', extractV_tuple, nilCheckV_ptr, againK_normal, againK_exit, againK_ret, blockK_normal, blockK_same, blockK_ret, seqK_normal, seqK_exit, seqK_ret, fin_done, if_true', if_false', Bool.not_true, Bool.not_false, idx0, idx1, idx2, idx3, idx4, chk_nil_l, chk_nil_r, done_nm]
    exact ⟨_, rfl, done_mod i1, (E0.ext x1).done⟩
  | true =>
    rw [hcan] at e1
    obtain ⟨r, hr, hfrom⟩ : ∃ r, readM n bs = some r ∧ 0 ≤ from' ∧ from' < n := by
      unfold canE at hcan
      cases hr : readM n bs with
      | none => rw [hr] at hcan; cases hcan
      | some r =>
        rw [hr] at hcan
        simp only [Bool.and_eq_true, decide_eq_true_eq] at hcan
        exact ⟨r, rfl, hcan.1.1, hcan.1.2.1⟩
    have hg := readM_good hr
    rw [hr]
    rw [show (some r).getD [] = r from rfl]
    obtain ⟨rv, gv, E⟩ := E
    have E1 := (E.same (h' := nm h) ⟨Nat.le_refl _, fun _ _ => rfl⟩).ext x1
    have sb1 : SB h1 b bs := sb.nm.same x1.same
    obtain ⟨wv, h2, e2, x2, a2⟩ := spec_Read (n := n) (b := b) (bs := bs) sb1 hb
    rw [hr] at e2 a2
    rw [show (some r : Option (List (List Nat))).isSome = true from rfl, show readV n (some r) = n from rfl] at e2
    rw [show (some r).getD [] = r from rfl] at a2
    have i2 := i1.trans (x2.inn i1.len)
    obtain ⟨wa, wc, rfl⟩ := a2.shape
    have k3 := alM h2
    have k3' := mvar (h := h2) n wa r.length wc
    have c3 := mvar_cells h2 [.int .i64 0, .slice none 0 0] [.int .i64 n, .slice wa r.length wc] 29
    have s3 := mvar_same h2 (.cells [.int .i64 0, .slice none 0 0]) (.cells [.int .i64 n, .slice wa r.length wc]) 29
    have i3 := i2.trans (show In h.blks.length (Just p) h2 _ from (In.new i2.len (.cells [.int .i64 0, .slice none 0 0]) 29).trans (In.put (Nat.le_trans i2.len (Same.new h2 (.cells [.int .i64 0, .slice none 0 0]) 29).1) (.inl i2.len) (.cells [.int .i64 n, .slice wa r.length wc])))
    have lm : p < h2.blks.length := Nat.lt_of_lt_of_le E1.lt x2.len
    have hne3 : h2.blks.length ≠ p := by omega
    have pL : h.blks.length ≤ h2.blks.length := i2.len
    generalize hq : h2.blks.length = q3 at *
    generalize (h2.new (.cells [.int .i64 0, .slice none 0 0]) 29).put q3 (.cells [.int .i64 n, .slice wa r.length wc]) = h3 at *
    have E3 := (E1.ext x2).same s3
    have a3 := a2.same s3
    obtain ⟨ua, uc, h4, e4, x4, a4⟩ := spec_Up h3 gv g E3.au.su (by have := ok.gl; have := (goodM_iff n m).1 ok.gd; omega) ok.g64 from'
    have i4 := i3.trans (x4.inn i3.len)
    have E4 := E3.ext x4
    have c4 := c3.ext x4
    have a34 := a3.same x4.same
    have st5 := storeN_blk E4.c (o := 4) (vs := [.slice ua (upV g from').1.length uc]) (by simp)
    rw [show List.take 4 [Value.int .i64 n, .int .i64 me, .int .i64 n, rv, gv] ++ [Value.slice ua (upV g from').1.length uc] ++ List.drop (4 + [Value.slice ua (upV g from').1.length uc].length) [Value.int .i64 n, .int .i64 me, .int .i64 n, rv, gv] = [.int .i64 n, .int .i64 me, .int .i64 n, rv, .slice ua (upV g from').1.length uc] from rfl] at st5
    have pu : ∀ {h : Heap} {v : Value} {l : List Nat} {n0 p : Nat} {cs : List Value} (body : Body), Cells h p 127 cs → AU n0 h v l → AU n0 (h.put p body) v l := fun {h v l n0 p cs} body c a => a.keep fun b _ hv => Heap.put_other (fun e => by
      subst e
      obtain ⟨all, h1⟩ := a.blk hv
      unfold Cells at c
      rw [c] at h1
      simp only [Option.some.injEq, Blk.mk.injEq] at h1
      exact absurd h1.2.1 (by decide)) _
    have l3L : L ≤ h3.blks.length := Nat.le_trans hL i3.len
    have am5 := E4.am.put E4.c (by decide) (by decide) (.cells [.int .i64 n, .int .i64 me, .int .i64 n, rv, .slice ua (upV g from').1.length uc])
    have au5 := pu (.cells [.int .i64 n, .int .i64 me, .int .i64 n, rv, .slice ua (upV g from').1.length uc]) E4.c (a4.up (n1 := L) l3L)
    have E5 : EnC L (h4.put p (.cells [.int .i64 n, .int .i64 me, .int .i64 n, rv, .slice ua (upV g from').1.length uc])) p n me rv (.slice ua (upV g from').1.length uc) m (upV g from').1 := ⟨E4.c.put _, am5, au5⟩
    have i5 : In h.blks.length (Just p) h4 _ := In.put i4.len (.inr (show Just p p from rfl)) (.cells [.int .i64 n, .int .i64 me, .int .i64 n, rv, .slice ua (upV g from').1.length uc])
    have i5 := i4.trans i5
    have c5 := c4.keepPut (q := p) (by omega) (.cells [.int .i64 n, .int .i64 me, .int .i64 n, rv, .slice ua (upV g from').1.length uc])
    have a5 := a34.put E4.c (by decide) (by decide) (.cells [.int .i64 n, .int .i64 me, .int .i64 n, rv, .slice ua (upV g from').1.length uc])
    generalize h4.put p (.cells [.int .i64 n, .int .i64 me, .int .i64 n, rv, .slice ua (upV g from').1.length uc]) = h5 at *
    obtain ⟨jv, h6, e6, x6, a6⟩ := spec_MUp (h := nm h5) (n := n) (a5.smV.nm) (goodM_small hg.1) hg.2 from' to hto
    obtain ⟨x6', m6⟩ := x6.amx
    have E6 := E5.ext x6'
    have a6' : AM 53 h5.blks.length (am h6 h5) jv (upM n r from' to) := a6.kp fun _ _ _ _ _ _ => rfl
    have gu := goodM_up (n := n) (m := r) hg.1 from' to
    obtain ⟨ov, h7, e7, x7, a7⟩ := spec_MJoin (n := n) (n2 := n) E6.am.smV a6'.smV (goodM_small ok.gd) (goodM_small gu)
    rw [if_pos (okJ_of ok.gd gu), if_pos (okJ_of ok.gd gu)] at e7
    rw [if_pos (okJ_of ok.gd gu)] at a7
    obtain ⟨oa, oc, rfl⟩ := a7.shape
    have E7 := E6.ext x7
    have i6 := i5.trans (x6'.inn i5.len)
    have i7 := i6.trans (x7.inn i6.len)
    have st8 := storeN_blk E7.c (o := 2) (vs := [.int .i64 n, .slice oa (joinM m (upM n r from' to)).length oc]) (by simp)
    rw [show List.take 2 [Value.int .i64 n, .int .i64 me, .int .i64 n, rv, .slice ua (upV g from').1.length uc] ++ [Value.int .i64 n, .slice oa (joinM m (upM n r from' to)).length oc] ++ List.drop (2 + [Value.int .i64 n, .slice oa (joinM m (upM n r from' to)).length oc].length) [Value.int .i64 n, .int .i64 me, .int .i64 n, rv, .slice ua (upV g from').1.length uc] = [.int .i64 n, .int .i64 me, .int .i64 n, .slice oa (joinM m (upM n r from' to)).length oc, .slice ua (upV g from').1.length uc] from rfl] at st8
    have am8 := (a7.up (n1 := L) (Nat.le_trans hL i6.len)).put E7.c (by decide) (by decide) (.cells [.int .i64 n, .int .i64 me, .int .i64 n, .slice oa (joinM m (upM n r from' to)).length oc, .slice ua (upV g from').1.length uc])
    have au8 := pu (.cells [.int .i64 n, .int .i64 me, .int .i64 n, .slice oa (joinM m (upM n r from' to)).length oc, .slice ua (upV g from').1.length uc]) E7.c E7.au
    simp -implicitDefEqProofs (disch := omega) only [dcT, dcF, e1, faE0, mldInt, E1.l0, e2, k3, k3', faE3, ldVv, E3.l4, e4, stVv, st5, faE2, E5.ldm, ldM' c5, e6, e7, stMo, st8, m6, List.append_nil, ↓ret30, ↓cnd_true, ↓cnd_false, ↓Option.bind_some, ↓obH_some', bin_add, bin_sub, bin_mul, bin_lss, bin_leq, bin_gtr, bin_geq, bin_eql, bin_neq, un_not, un_neg, Option.bind_some, Option.bind_none, Option.map_some, cnd_true, cnd_false, pickV_true, pickV_false, gd_true, gd_false, gdV_true, gdV_false, gdH_true, gdH_false, gdS_true, gdS_false, wt_ff, wt_tt, wt_ft, wt_tf, wt_undef, obH_some', extractV_tuple, nilCheckV_ptr, againK_normal, againK_exit, againK_ret, blockK_normal, blockK_same, blockK_ret, seqK_normal, seqK_exit, seqK_ret, fin_done, if_true', if_false', Bool.not_true, Bool.not_false, idx0, idx1, idx2, idx3, idx4, chk_nil_l, chk_nil_r, done_nm]
    exact ⟨_, rfl, done_mod (i7.trans (In.put i7.len (.inr (show Just p p from rfl)) _)), En.done ⟨_, _, ⟨E7.c.put _, am8, au8⟩⟩⟩
end Go.Am
namespace Go.Am
open Go.Proofs
set_option maxRecDepth 100000
set_option linter.all false
attribute [local congr] obind_congr obH_congr cnd_congr chk_congr retK_congr codeK_congr
theorem up1_lt {to k : Nat} {r : List Nat} (h : ∀ y ∈ r, y < 2 ^ 64) : ∀ y ∈ up1 to k r, y < 2 ^ 64 := by
  intro y hy
  obtain ⟨j, hj, rfl⟩ := List.getElem_of_mem hy
  rw [up1_len] at hj
  have hg := up1_get to k r j hj
  have := getD_lt r h j
  rw [List.getD_eq_getElem?_getD, List.getElem?_eq_getElem (by rw [up1_len]; exact hj)] at hg
  simp only [Option.getD_some] at hg
  rw [hg]
  split
  · rename_i hc; omega
  · exact this
theorem upM_lt {n : Int} {m : List (List Nat)} (h : ∀ r ∈ m, ∀ y ∈ r, y < 2 ^ 64) (i : Int) (to : Nat) : ∀ r ∈ upM n m i to, ∀ y ∈ r, y < 2 ^ 64 := by
  unfold upM
  split
  · intro r hr
    rcases List.mem_or_eq_of_mem_set hr with h' | rfl
    · exact h r h'
    · refine up1_lt fun y hy => ?_
      rw [List.getD_eq_getElem?_getD] at hy
      cases e : m[i.toNat]? with
      | none => rw [e] at hy; simp at hy
      | some x => rw [e] at hy; exact h x (List.mem_of_getElem? e) y hy
  · exact h
theorem joinV_lt {a b : List Nat} (ha : ∀ y ∈ a, y < 2 ^ 64) (hb : ∀ y ∈ b, y < 2 ^ 64) : ∀ y ∈ joinV a b, y < 2 ^ 64 := by
  intro y hy
  obtain ⟨j, hj, rfl⟩ := List.getElem_of_mem hy
  have hg := joinV_get a b j
  have h1 := getD_lt a ha j
  have h2 := getD_lt b hb j
  rw [List.getD_eq_getElem?_getD, List.getElem?_eq_getElem hj] at hg
  simp only [Option.getD_some] at hg
  omega
theorem getD_row {m : List (List Nat)} (h : ∀ r ∈ m, ∀ y ∈ r, y < 2 ^ 64) (k : Nat) : ∀ y ∈ m.getD k [], y < 2 ^ 64 := by
  intro y hy
  rw [List.getD_eq_getElem?_getD] at hy
  cases e : m[k]? with
  | none => rw [e] at hy; simp at hy
  | some x => rw [e] at hy; exact h x (List.mem_of_getElem? e) y hy
theorem joinM_lt {a b : List (List Nat)} (ha : ∀ r ∈ a, ∀ y ∈ r, y < 2 ^ 64) (hb : ∀ r ∈ b, ∀ y ∈ r, y < 2 ^ 64) : ∀ r ∈ joinM a b, ∀ y ∈ r, y < 2 ^ 64 := by
  intro r hr
  obtain ⟨k, hk, rfl⟩ := List.getElem_of_mem hr
  rw [joinM_len] at hk
  have := joinM_get a b k hk
  rw [List.getD_eq_getElem?_getD, List.getElem?_eq_getElem (by rw [joinM_len]; exact hk)] at this
  simp only [Option.getD_some] at this
  rw [this]
  exact joinV_lt (getD_row ha k) (getD_row hb k)
/-- one more of one: at most one place, at most one more -/
theorem upV_one {g : List Nat} (hg : ∀ y ∈ g, y < 2 ^ 64) {i : Int} (h0 : 0 ≤ i) (hi : i < g.length) (hl : g.length ≤ 16) :
    (upV g i).1.length = g.length ∧ (∀ y ∈ (upV g i).1, y < 2 ^ 64) ∧ ∃ d : Nat, d ≤ 1 ∧ ∀ j, (upV g i).1.getD j 0 = g.getD j 0 + (if j = i.toNat then d else 0) := by
  obtain ⟨i, rfl⟩ : ∃ k : Nat, i = k := ⟨i.toNat, by omega⟩
  unfold upV
  by_cases hc : (i : Int) < 0 ∨ 64 ≤ (i : Int) ∨ atI g i = 2 ^ 64 - 1
  · rw [if_pos hc]; exact ⟨rfl, hg, 0, by omega, fun j => by simp⟩
  · rw [if_neg hc]
    have hlong : longV g (i + 1) = g := by
      unfold longV
      rw [show i + 1 - g.length = 0 by omega]; simp
    have hat : atI g i = g.getD i 0 := by unfold atI; rw [if_neg (by omega), Int.toNat_natCast]
    have h64 := getD_lt g hg i
    simp only [Int.toNat_natCast, hlong]
    rw [hat] at hc ⊢
    refine ⟨by simp, fun y hy => ?_, 1, by omega, fun j => ?_⟩
    · rcases List.mem_or_eq_of_mem_set hy with h | rfl
      · exact hg y h
      · omega
    · rw [set_getD _ _ _ _ (by omega)]
      by_cases h : j = i
      · subst h; rw [if_pos rfl, if_pos rfl]
      · rw [if_neg h, if_neg h, Nat.add_zero]
variable {n me : Int} {m : List (List Nat)} {g : List Nat}
theorem EnOk.n16 (ok : EnOk n me m g) : 1 ≤ n ∧ n ≤ 16 := by have := (goodM_iff n m).1 ok.gd; exact ⟨this.1.1, this.1.2.1⟩
theorem EnOk.send (ok : EnOk n me m g) (to : Nat) : EnOk n me (upM n m me to) g := ⟨goodM_up ok.gd _ _, ok.me0, ok.men, ok.gl, upM_lt ok.m64 _ _, ok.g64⟩
theorem canE_some {from' : Int} {bs : List UInt8} (h : canE n me g from' bs = true) : ∃ r, readM n bs = some r ∧ 0 ≤ from' ∧ from' < n ∧ from' ≠ me ∧ canCol g (columnM n r me) = true := by
  unfold canE at h
  cases hr : readM n bs with
  | none => rw [hr] at h; cases h
  | some r =>
    rw [hr] at h
    simp only [Bool.and_eq_true, decide_eq_true_eq] at h
    exact ⟨r, rfl, h.1.1, h.1.2.1, h.1.2.2, h.2⟩
theorem EnOk.take (ok : EnOk n me m g) (from' : Int) (to : Nat) (bs : List UInt8) : EnOk n me (takeM n me m g from' to bs) (takeG n me g from' bs) := by
  unfold takeM takeG
  split
  · rename_i hc
    obtain ⟨r, hr, h0, h1, _⟩ := canE_some hc
    have hg := readM_good hr
    have hn := ok.n16
    have hu := upV_one ok.g64 h0 (by have := ok.gl; omega) (by have := ok.gl; omega)
    rw [hr]
    exact ⟨goodM_join ok.gd (goodM_up hg.1 _ _), ok.me0, ok.men, by rw [hu.1]; exact ok.gl, joinM_lt ok.m64 (upM_lt hg.2 _ _), hu.2.1⟩
  · exact ok
theorem EnOk.zero (hn : 1 ≤ n ∧ n ≤ 16 ∧ 0 ≤ me ∧ me < n) : EnOk n me (zerosM n.toNat) (List.replicate n.toNat 0) := by
  have e : zerosM n.toNat = List.replicate n.toNat (List.replicate n.toNat 0) := rfl
  refine ⟨(goodM_iff n _).2 ⟨⟨hn.1, hn.2.1, by rw [e, List.length_replicate]; omega⟩, fun r hr => ?_⟩, hn.2.2.1, hn.2.2.2, by simp; omega, fun r hr y hy => ?_, fun y hy => ?_⟩
  · rw [e] at hr; rw [(List.mem_replicate.1 hr).2, List.length_replicate]; omega
  · rw [e] at hr; rw [(List.mem_replicate.1 hr).2] at hy; rw [(List.mem_replicate.1 hy).2]; omega
  · rw [(List.mem_replicate.1 hy).2]; omega
theorem within_of {a b : List (List Nat)} (ga : goodM n a = true) (gb : goodM n b = true) (h : ∀ k j, (a.getD k []).getD j 0 ≤ (b.getD k []).getD j 0) : withinM n n a b = true := by
  unfold withinM okJ
  rw [ga, gb, decide_eq_true rfl, wiM_of]
  · rfl
  · intro k _ hk
    unfold wi1
    exact decide_eq_true (cmpV_le fun j => h k j)
theorem within_upM (gd : goodM n m = true) (i : Int) (to : Nat) : withinM n n m (upM n m i to) = true := by
  refine within_of gd (goodM_up gd i to) fun k j => ?_
  unfold upM
  split
  · rename_i hc
    have hg := (goodM_iff n m).1 gd
    by_cases hk : k = i.toNat
    · subst hk
      rw [lset_getD (by omega)]
      by_cases hj : j < (m.getD i.toNat []).length
      · rw [up1_get _ _ _ _ hj]; split <;> omega
      · have : (m.getD i.toNat []).getD j 0 = 0 := by rw [List.getD_eq_getElem?_getD, List.getElem?_eq_none (by omega)]; rfl
        omega
    · have : (m.set i.toNat (up1 to n.toNat (m.getD i.toNat []))).getD k [] = m.getD k [] := by
        rw [List.getD_eq_getElem?_getD, List.getElem?_set_ne (Ne.symm hk), List.getD_eq_getElem?_getD]
      rw [this]; exact Nat.le_refl _
  · exact Nat.le_refl _
theorem within_takeM (ok : EnOk n me m g) (from' : Int) (to : Nat) (bs : List UInt8) : withinM n n m (takeM n me m g from' to bs) = true := by
  unfold takeM
  split
  · rename_i hc
    obtain ⟨r, hr, _⟩ := canE_some hc
    rw [hr]
    exact within_join ok.gd (goodM_up (readM_good hr).1 _ _)
  · exact within_of ok.gd ok.gd fun k j => Nat.le_refl _
theorem takeG_one (ok : EnOk n me m g) (from' : Int) (bs : List UInt8) : (takeG n me g from' bs).length = g.length ∧ ∃ q d : Nat, d ≤ 1 ∧ ∀ j, (takeG n me g from' bs).getD j 0 = g.getD j 0 + (if j = q then d else 0) := by
  unfold takeG
  split
  · rename_i hc
    obtain ⟨r, hr, h0, h1, _⟩ := canE_some hc
    have hn := ok.n16
    have hu := upV_one ok.g64 h0 (by have := ok.gl; omega) (by have := ok.gl; omega)
    exact ⟨hu.1, from'.toNat, hu.2.2⟩
  · exact ⟨rfl, 0, 0, by omega, fun j => by simp⟩
end Go.Am
namespace Go.Am
open Go.Proofs
set_option maxRecDepth 100000
set_option linter.all false
attribute [local congr] obind_congr obH_congr cnd_congr chk_congr retK_congr codeK_congr
def mS (n f t i : Nat) : List (List Nat) := (zerosM n).set f ((List.replicate n 0).set t i)
def gS (n f i : Nat) : List Nat := (List.replicate n 0).set f i
theorem allR {n : Nat} {p : Nat → Bool} (h : (List.range n).all p = true) : ∀ i, i < n → p i = true := fun i hi => List.all_eq_true.1 h i (List.mem_range.2 hi)
def chkO (n f t i : Nat) : Bool := decide (f = t) ||
  (decide (upM n (mS n f t i) f (2 ^ t) = mS n f t (i + 1)) && (decide (toE n f (2 ^ t) = 2 ^ t) && (decide (pop (2 ^ t) = 1) && (goodM n (mS n f t i) && ((mS n f t i).all (fun r => r.all fun y => decide (y < 2 ^ 64)) &&
  (canCol (gS n f i) (columnM n (mS n f t i) t) && ((decide (i < 1) || !canCol (gS n f 0) (columnM n (mS n f t i) t)) && (decide ((upV (gS n f i) f).1 = gS n f (i + 1)) && (decide (gS n f 0 = List.replicate n 0) && (decide (mS n f t 0 = zerosM n) && (decide ((gS n f i).getD f 0 = i) && (decide ((gS n f i).length = n) && (gS n f i).all fun y => decide (y < 2 ^ 64)))))))))))))
theorem o_all : ((List.range 7).all fun n => (List.range n).all fun f => (List.range n).all fun t => (List.range 11).all fun i => chkO n f t i) = true := by decide +kernel
structure OrdF (n f t i : Nat) : Prop where
  up : upM n (mS n f t i) f (2 ^ t) = mS n f t (i + 1)
  to : toE n f (2 ^ t) = 2 ^ t
  pop : pop (2 ^ t) = 1
  gd : goodM n (mS n f t i) = true
  m64 : ∀ r ∈ mS n f t i, ∀ y ∈ r, y < 2 ^ 64
  can : canCol (gS n f i) (columnM n (mS n f t i) t) = true
  not : 1 ≤ i → canCol (gS n f 0) (columnM n (mS n f t i) t) = false
  upV : (upV (gS n f i) f).1 = gS n f (i + 1)
  g0 : gS n f 0 = List.replicate n 0
  m0 : mS n f t 0 = zerosM n
  get : (gS n f i).getD f 0 = i
  len : (gS n f i).length = n
  g64 : ∀ y ∈ gS n f i, y < 2 ^ 64
theorem ordF {n f t i : Nat} (hn : n < 7) (hf : f < n) (ht : t < n) (hi : i < 11) (hne : f ≠ t) : OrdF n f t i := by
  have h := allR (allR (allR (allR o_all n hn) f hf) t ht) i hi
  unfold chkO at h
  rw [decide_eq_false hne, Bool.false_or] at h
  simp only [Bool.and_eq_true, decide_eq_true_eq, List.all_eq_true, Bool.or_eq_true, Bool.not_eq_true'] at h
  obtain ⟨h1, h2, h3, h4, h5, h6, h7, h8, h9, h10, h11, h12, h13⟩ := h
  exact ⟨h1, h2, h3, h4, h5, h6, fun hi => h7.resolve_left (by omega), h8, h9, h10, h11, h12, h13⟩
end Go.Am
namespace Go.Am
open Go.Proofs
set_option maxRecDepth 100000
set_option linter.all false
attribute [local congr] obind_congr obH_congr cnd_congr chk_congr retK_congr codeK_congr
theorem ABs.atA {n0 : Nat} {h : Heap} {v : Value} {l : List (List UInt8)} (a : ABs n0 h v l) {i : Nat} (hi : i < l.length) :
    ∃ ad x c, indexAddrV Try.prog 44 v (.int .i64 i) = some (.pointer (some ad)) ∧ loadV Try.prog 23 (.pointer (some ad)) h = some (.slice x (l.getD i []).length c) ∧ AB n0 h (.slice x (l.getD i []).length c) (l.getD i []) := by
  obtain ⟨vs, x⟩ := a
  obtain ⟨ad, e1, e2, _⟩ := (x.out.sl etBs.size).row.at1 etBs.under etBs.size (by kernel_rfl) hi .i64
  obtain ⟨y, hy, ay⟩ := x.rows.get' (i := i) (b := l[i]) (List.getElem?_eq_getElem hi)
  rw [hy] at e2
  rw [List.getD_eq_getElem?_getD, List.getElem?_eq_getElem hi]
  obtain ⟨aa, cc, rfl⟩ := ay.shape
  exact ⟨ad, aa, cc, e1, e2, ay⟩
theorem ABs.modE {n0 : Nat} {h h' : Heap} {v : Value} {l : List (List UInt8)} (a : ABs n0 h v l) {p : Nat} {cs : List Value} (c : Cells h p 127 cs) (e : HMod (Just p) h h') : ABs n0 h' v l :=
  let ⟨vs, x⟩ := a
  ⟨vs, x.kp fun b all ty hb ht _ => e.old b (List.getElem?_eq_some_iff.1 hb).1 fun hp => by
    have hp : b = p := hp
    subst hp
    unfold Cells at c
    rw [hb] at c
    simp only [Option.some.injEq, Blk.mk.injEq] at c
    rcases ht with ht | ht
    · exact absurd (c.2.1.symm.trans ht) (by decide)
    · exact absurd (c.2.1.symm.trans ht) (by decide)⟩
theorem En.cl {L : Nat} {h : Heap} {p : Nat} {n me : Int} {m : List (List Nat)} {g : List Nat} (E : En L h p n me m g) : ∃ cs, Cells h p 127 cs := let ⟨_, _, x⟩ := E; ⟨_, x.c⟩
theorem En.modE {L L2 : Nat} {h h' : Heap} {p q : Nat} {n me n2 me2 : Int} {m m2 : List (List Nat)} {g g2 : List Nat} (E : En L h p n me m g) (F : En L2 h q n2 me2 m2 g2) (hpq : p ≠ q) (e : HMod (Just q) h h') : En L h' p n me m g :=
  E.mod e (fun x => hpq x) fun b hb => by have hb : b = q := hb; subst hb; obtain ⟨cs, c⟩ := F.cl; exact ⟨_, _, c, by decide, by decide⟩
theorem En.kpT {L : Nat} {h h' : Heap} {p : Nat} {n me : Int} {m : List (List Nat)} {g : List Nat} (E : En L h p n me m g) {T : TypeId} (h1 : 127 ≠ T) (h2 : 53 ≠ T) (h3 : 46 ≠ T) (k : ∀ q ty cs, Cells h q ty cs → ty ≠ T → Cells h' q ty cs) : En L h' p n me m g := let ⟨_, _, x⟩ := E; ⟨_, _, x.kpT h1 h2 h3 k⟩
def lS (n f t k : Nat) : List (List UInt8) := (List.range k).map fun i => stampM n (mS n f t i)
theorem lS_succ (n f t k : Nat) : lS n f t k ++ [stampM n (mS n f t k)] = lS n f t (k + 1) := by unfold lS; rw [List.range_succ, List.map_append]; rfl
theorem lS_len (n f t k : Nat) : (lS n f t k).length = k := by simp [lS]
theorem lS_get (n f t k i : Nat) (hi : i < k) : (lS n f t k).getD i [] = stampM n (mS n f t i) := by unfold lS; rw [List.getD_eq_getElem?_getD, List.getElem?_map, List.getElem?_range hi]; rfl
theorem ofL_one {t : Nat} (ht : t < 64) : ofL [(t : Int)] = 2 ^ t := by
  show or1 0 t = 2 ^ t
  unfold or1
  rw [if_pos (by omega), Int.toNat_natCast, Nat.zero_or]
theorem zlen (n : Nat) : (List.replicate n 0 : List Nat).length = n := List.length_replicate
theorem ord_ok {n f t i : Nat} (hn : n < 7) (hf : f < n) (ht : t < n) (hi : i < 11) (hne : f ≠ t) : EnOk n f (mS n f t i) (List.replicate n 0) :=
  ⟨(ordF hn hf ht hi hne).gd, by omega, by omega, by rw [zlen], (ordF hn hf ht hi hne).m64, fun y hy => by rw [(List.mem_replicate.1 hy).2]; omega⟩
theorem ord_send {Q : Option (Value × Heap) → Prop} {h0 : Heap} {L n f t many pa pb : Nat} {pk : Int} (hn : n < 7) (hf : f < n) (ht : t < n) (hne : f ≠ t) (hm : many ≤ 10) (hL : L ≤ h0.blks.length) (hpa : h0.blks.length ≤ pa) (hpb : h0.blks.length ≤ pb) (hab : pa ≠ pb) {mb : List (List Nat)} {gb : List Nat} (k : Ex → St → Option (Value × Heap)) :
    ∀ (mm i : Nat) (h : Heap) (v : Value), many = i + mm → En L h pa n f (mS n f t i) (List.replicate n 0) → En L h pb n t mb gb → ABs h0.blks.length h v (lS n f t i) → In h0.blks.length No (nm h0) h →
    (∀ h' v', En L h' pb n t mb gb → ABs h0.blks.length h' v' (lS n f t many) → In h0.blks.length No (nm h0) h' → ∀ (x5 x6 x7 x8 x9 x10 x11 x12 x14 x16 x17 x18 x19 x20 x21 x22 x23 x24 x25 x26 x27 x28 x29 x30 x31 x32 x33 x34 x35 x36 x37 x38 x39 x40 x41 x42 x43 x44 x45 x46 x47 x48 x49 x50 x51 x52 x53 x54 x55 x56 x57 x58 x59 x60 x61 x62 x63 x64 x65 x66 x67 x68 x69 x70 x71 x72 x73 x74 x75 x76 x77 x78 x79 x80 x81 x82 x83 x84 x85 x86 x87 x88 x89 x90 x91 x92 x93 x94 x95 x96 x97 x98 x99 x100 x101 x102 x103 x104 x105 x106 x107 x108 x109 x110 x111 x112 x113 x114 x115 x116 x117 x118 x119 x120 x121 x122 x123 x124 x125 x126 x127 x128 x129 x130 x131 x132 x133 x134 x135 x136 x137 x138 x139 x140 x141 x142 x143 x144 x145 x146 x147 x148 : Value), Q (k .normal ⟨#[.int .i64 n, .int .i64 f, .int .i64 t, .int .i64 many, .int .i64 pk, x5, x6, x7, x8, x9, x10, x11, x12, .pointer (some ⟨pb, 0, none⟩), x14, v', x16, x17, x18, x19, x20, x21, x22, x23, x24, x25, x26, x27, x28, x29, x30, x31, x32, x33, x34, x35, x36, x37, x38, x39, x40, x41, x42, x43, x44, x45, x46, x47, x48, x49, x50, x51, x52, x53, x54, x55, x56, x57, x58, x59, x60, x61, x62, x63, x64, x65, x66, x67, x68, x69, x70, x71, x72, x73, x74, x75, x76, x77, x78, x79, x80, x81, x82, x83, x84, x85, x86, x87, x88, x89, x90, x91, x92, x93, x94, x95, x96, x97, x98, x99, x100, x101, x102, x103, x104, x105, x106, x107, x108, x109, x110, x111, x112, x113, x114, x115, x116, x117, x118, x119, x120, x121, x122, x123, x124, x125, x126, x127, x128, x129, x130, x131, x132, x133, x134, x135, x136, x137, x138, x139, x140, x141, x142, x143, x144, x145, x146, x147, x148], h'⟩)) →
    ∀ (x5 x6 x7 x8 x9 x10 x12 x14 x17 x18 x19 x20 x21 x22 x23 x24 x25 x26 x27 x28 x29 x30 x31 x32 x33 x34 x35 x36 x37 x38 x39 x40 x41 x42 x43 x44 x45 x46 x47 x48 x49 x50 x51 x52 x53 x54 x55 x56 x57 x58 x59 x60 x61 x62 x63 x64 x65 x66 x67 x68 x69 x70 x71 x72 x73 x74 x75 x76 x77 x78 x79 x80 x81 x82 x83 x84 x85 x86 x87 x88 x89 x90 x91 x92 x93 x94 x95 x96 x97 x98 x99 x100 x101 x102 x103 x104 x105 x106 x107 x108 x109 x110 x111 x112 x113 x114 x115 x116 x117 x118 x119 x120 x121 x122 x123 x124 x125 x126 x127 x128 x129 x130 x131 x132 x133 x134 x135 x136 x137 x138 x139 x140 x141 x142 x143 x144 x145 x146 x147 x148 : Value), Q (loopK Try.prog (evC Try.prog) c6_1 ⟨#[.int .i64 n, .int .i64 f, .int .i64 t, .int .i64 many, .int .i64 pk, x5, x6, x7, x8, x9, x10, .pointer (some ⟨pa, 0, none⟩), x12, .pointer (some ⟨pb, 0, none⟩), x14, v, .int .i64 i, x17, x18, x19, x20, x21, x22, x23, x24, x25, x26, x27, x28, x29, x30, x31, x32, x33, x34, x35, x36, x37, x38, x39, x40, x41, x42, x43, x44, x45, x46, x47, x48, x49, x50, x51, x52, x53, x54, x55, x56, x57, x58, x59, x60, x61, x62, x63, x64, x65, x66, x67, x68, x69, x70, x71, x72, x73, x74, x75, x76, x77, x78, x79, x80, x81, x82, x83, x84, x85, x86, x87, x88, x89, x90, x91, x92, x93, x94, x95, x96, x97, x98, x99, x100, x101, x102, x103, x104, x105, x106, x107, x108, x109, x110, x111, x112, x113, x114, x115, x116, x117, x118, x119, x120, x121, x122, x123, x124, x125, x126, x127, x128, x129, x130, x131, x132, x133, x134, x135, x136, x137, x138, x139, x140, x141, x142, x143, x144, x145, x146, x147, x148], h⟩ (blockK 0 k)) := by
  intro mm
  induction mm with
  | zero =>
    intro i h v hi Ea Eb A hin hk x5 x6 x7 x8 x9 x10 x12 x14 x17 x18 x19 x20 x21 x22 x23 x24 x25 x26 x27 x28 x29 x30 x31 x32 x33 x34 x35 x36 x37 x38 x39 x40 x41 x42 x43 x44 x45 x46 x47 x48 x49 x50 x51 x52 x53 x54 x55 x56 x57 x58 x59 x60 x61 x62 x63 x64 x65 x66 x67 x68 x69 x70 x71 x72 x73 x74 x75 x76 x77 x78 x79 x80 x81 x82 x83 x84 x85 x86 x87 x88 x89 x90 x91 x92 x93 x94 x95 x96 x97 x98 x99 x100 x101 x102 x103 x104 x105 x106 x107 x108 x109 x110 x111 x112 x113 x114 x115 x116 x117 x118 x119 x120 x121 x122 x123 x124 x125 x126 x127 x128 x129 x130 x131 x132 x133 x134 x135 x136 x137 x138 x139 x140 x141 x142 x143 x144 x145 x146 x147 x148
    obtain rfl : many = i := by omega
    rw [loopK_eq evC_m, c6_1_eq]
    have := hk h v Eb A hin
    simp -implicitDefEqProofs (disch := omega) only [dcT, dcF, ↓cnd_true, ↓cnd_false, ↓Option.bind_some, ↓obH_some', bin_add, bin_sub, bin_mul, bin_lss, bin_leq, bin_gtr, bin_geq, bin_eql, bin_neq, un_not, un_neg, Option.bind_some, Option.bind_none, Option.map_some, cnd_true, cnd_false, pickV_true, pickV_false, gd_true, gd_false, gdV_true, gdV_false, gdH_true, gdH_false, gdS_true, gdS_false, wt_ff, wt_tt, wt_ft, wt_tf, wt_undef, obH_some', extractV_tuple, nilCheckV_ptr, againK_normal, againK_exit, againK_ret, blockK_normal, blockK_same, blockK_ret, seqK_normal, seqK_exit, seqK_ret, fin_done, if_true', if_false', Bool.not_true, Bool.not_false, idx0, idx1, idx2, idx3, idx4, chk_nil_l, chk_nil_r, done_nm]
    exact this _ _ _ _ _ _ _ _ _ _ _ _ _ _ _ _ _ _ _ _ _ _ _ _ _ _ _ _ _ _ _ _ _ _ _ _ _ _ _ _ _ _ _ _ _ _ _ _ _ _ _ _ _ _ _ _ _ _ _ _ _ _ _ _ _ _ _ _ _ _ _ _ _ _ _ _ _ _ _ _ _ _ _ _ _ _ _ _ _ _ _ _ _ _ _ _ _ _ _ _ _ _ _ _ _ _ _ _ _ _ _ _ _ _ _ _ _ _ _ _ _ _ _ _ _ _ _ _ _ _ _ _ _ _ _ _ _ _ _ _ _ _
  | succ mm ih =>
    intro i h v hi Ea Eb A hin hk x5 x6 x7 x8 x9 x10 x12 x14 x17 x18 x19 x20 x21 x22 x23 x24 x25 x26 x27 x28 x29 x30 x31 x32 x33 x34 x35 x36 x37 x38 x39 x40 x41 x42 x43 x44 x45 x46 x47 x48 x49 x50 x51 x52 x53 x54 x55 x56 x57 x58 x59 x60 x61 x62 x63 x64 x65 x66 x67 x68 x69 x70 x71 x72 x73 x74 x75 x76 x77 x78 x79 x80 x81 x82 x83 x84 x85 x86 x87 x88 x89 x90 x91 x92 x93 x94 x95 x96 x97 x98 x99 x100 x101 x102 x103 x104 x105 x106 x107 x108 x109 x110 x111 x112 x113 x114 x115 x116 x117 x118 x119 x120 x121 x122 x123 x124 x125 x126 x127 x128 x129 x130 x131 x132 x133 x134 x135 x136 x137 x138 x139 x140 x141 x142 x143 x144 x145 x146 x147 x148
    rw [loopK_eq evC_m, c6_1_eq]
    have F := ordF hn hf ht (i := i) (by omega) hne
    have hl : h0.blks.length ≤ h.blks.length := hin.len
    have k1 := mkI1 .i64 t h
    have si := litI1 h t
    have s1 := Same.new h (.cells [.int .i64 (t : Int)]) 3
    have i1 := hin.trans (In.new hl (.cells [.int .i64 (t : Int)]) 3)
    generalize h.new (.cells [.int .i64 (t : Int)]) 3 = h1 at *
    have e1 := spec_Of si (by simp)
    rw [ofL_one (by omega)] at e1
    have h2 : 2 ^ t < 2 ^ 64 := Nat.pow_lt_pow_right (by omega) (by omega)
    have l1 : h0.blks.length ≤ h1.blks.length := i1.len
    obtain ⟨sv, h2', e2, x2, Ea2, A2⟩ := spec_ESend (Ea.same s1) (by omega) (ord_ok hn hf ht (by omega) hne) (2 ^ t) h2
    rw [F.to, F.up] at Ea2
    rw [F.to, F.pop] at A2
    obtain ⟨csa, ca⟩ := (Ea.same s1).cl
    have Eb2 := (Eb.same s1).modE (Ea.same s1) (Ne.symm hab) x2
    have A3 := (A.same s1).modE ca x2
    have i2 := i1.trans (x2.inn l1 fun b hb e => by have : b = pa := e; omega)
    have ln := A2.len
    rw [show ((List.replicate 1 (stampM n (mS n f t i))).length : Int) = 1 by simp] at ln
    obtain ⟨ad, sx, sc, ea, ex, ab⟩ := A2.atA (i := 0) (by simp)
    rw [show (List.replicate 1 (stampM n (mS n f t i))).getD 0 [] = stampM n (mS n f t i) from rfl] at ex ab
    rw [show ((0 : Nat) : Int) = 0 from rfl] at ea
    obtain ⟨vs, A3⟩ := A3
    obtain ⟨a4, c4, h4, e4, A4, k4, o4⟩ := A3.app i2.len (ab.up l1) (by rw [lS_len]; omega)
    rw [lS_succ] at e4 A4
    have Ea4 := Ea2.kpT (by decide) (by decide) (by decide) o4
    have Eb4 := Eb2.kpT (by decide) (by decide) (by decide) o4
    have hw : IntKind.wrap .i64 ((i : Int) + 1) = ((i + 1 : Nat) : Int) := by rw [wrap_i64] <;> omega
    simp -implicitDefEqProofs (disch := omega) only [dcT, dcF, k1, e1, e2, ln, ea, ex, mkBs1, e4, hw, ne_eq, eq_self, not_true_eq_false, decide_false, ↓cnd_true, ↓cnd_false, ↓Option.bind_some, ↓obH_some', bin_add, bin_sub, bin_mul, bin_lss, bin_leq, bin_gtr, bin_geq, bin_eql, bin_neq, un_not, un_neg, Option.bind_some, Option.bind_none, Option.map_some, cnd_true, cnd_false, pickV_true, pickV_false, gd_true, gd_false, gdV_true, gdV_false, gdH_true, gdH_false, gdS_true, gdS_false, wt_ff, wt_tt, wt_ft, wt_tf, wt_undef, obH_some', extractV_tuple, nilCheckV_ptr, againK_normal, againK_exit, againK_ret, blockK_normal, blockK_same, blockK_ret, seqK_normal, seqK_exit, seqK_ret, fin_done, if_true', if_false', Bool.not_true, Bool.not_false, idx0, idx1, idx2, idx3, idx4, chk_nil_l, chk_nil_r, done_nm]
    exact ih (i + 1) h4 _ (by omega) Ea4 Eb4 A4 (i2.trans k4.inn) hk _ _ _ _ _ _ _ _ _ _ _ _ _ _ _ _ _ _ _ _ _ _ _ _ _ _ _ _ _ _ _ _ _ _ _ _ _ _ _ _ _ _ _ _ _ _ _ _ _ _ _ _ _ _ _ _ _ _ _ _ _ _ _ _ _ _ _ _ _ _ _ _ _ _ _ _ _ _ _ _ _ _ _ _ _ _ _ _ _ _ _ _ _ _ _ _ _ _ _ _ _ _ _ _ _ _ _ _ _ _ _ _ _ _ _ _ _ _ _ _ _ _ _ _ _ _ _ _ _ _ _ _ _ _ _ _ _ _ _ _
theorem canE_stamp {n f t i : Nat} (hn : n < 7) (hf : f < n) (ht : t < n) (hi : i < 11) (hne : f ≠ t) (g : List Nat) : canE n t g f (stampM n (mS n f t i)) = canCol g (columnM n (mS n f t i) t) := by
  unfold canE
  rw [readM_stamp (ordF hn hf ht hi hne).gd (ordF hn hf ht hi hne).m64]
  simp only []
  rw [decide_eq_true (by omega), Bool.true_and]
theorem cvIU (n : Int) (h : Heap) (h0 : 0 ≤ n) (h1 : n < 2 ^ 63) : convV Try.prog 3 46 (.int .i64 n) h = some (.int .u64 n, h) := conv_u64 (ks := .i64) (by kernel_rfl) (by kernel_rfl) _ _ _ h0 (by omega)
theorem ord_take {h0 : Heap} {L n f t many pb : Nat} {pk : Int} {v : Value} (hn : n < 7) (hf : f < n) (ht : t < n) (hne : f ≠ t) (hm : many ≤ 10) (hL : L ≤ h0.blks.length) (hpb : h0.blks.length ≤ pb) :
    ∀ (mm i : Nat) (h : Heap) (mb : List (List Nat)), many = i + mm → En L h pb n t mb (gS n f i) → EnOk n t mb (gS n f i) → ABs h0.blks.length h v (lS n f t many) → In h0.blks.length No (nm h0) h →
    ∀ (x5 x6 x7 x8 x9 x10 x11 x12 x14 x16 x17 x19 x20 x21 x22 x23 x24 x25 x26 x27 x28 x29 x30 x31 x32 x33 x34 x35 x36 x37 x38 x39 x40 x41 x42 x43 x44 x45 x46 x47 x48 x49 x50 x51 x52 x53 x54 x55 x56 x57 x58 x59 x60 x61 x62 x63 x64 x65 x66 x67 x68 x69 x70 x71 x72 x73 x74 x75 x76 x77 x78 x79 x80 x81 x82 x83 x84 x85 x86 x87 x88 x89 x90 x91 x92 x93 x94 x95 x96 x97 x98 x99 x100 x101 x102 x103 x104 x105 x106 x107 x108 x109 x110 x111 x112 x113 x114 x115 x116 x117 x118 x119 x120 x121 x122 x123 x124 x125 x126 x127 x128 x129 x130 x131 x132 x133 x134 x135 x136 x137 x138 x139 x140 x141 x142 x143 x144 x145 x146 x147 x148 : Value), ∃ h', loopK Try.prog (evC Try.prog) c6_3 ⟨#[.int .i64 n, .int .i64 f, .int .i64 t, .int .i64 many, .int .i64 pk, x5, x6, x7, x8, x9, x10, x11, x12, .pointer (some ⟨pb, 0, none⟩), x14, v, x16, x17, .int .i64 i, x19, x20, x21, x22, x23, x24, x25, x26, x27, x28, x29, x30, x31, x32, x33, x34, x35, x36, x37, x38, x39, x40, x41, x42, x43, x44, x45, x46, x47, x48, x49, x50, x51, x52, x53, x54, x55, x56, x57, x58, x59, x60, x61, x62, x63, x64, x65, x66, x67, x68, x69, x70, x71, x72, x73, x74, x75, x76, x77, x78, x79, x80, x81, x82, x83, x84, x85, x86, x87, x88, x89, x90, x91, x92, x93, x94, x95, x96, x97, x98, x99, x100, x101, x102, x103, x104, x105, x106, x107, x108, x109, x110, x111, x112, x113, x114, x115, x116, x117, x118, x119, x120, x121, x122, x123, x124, x125, x126, x127, x128, x129, x130, x131, x132, x133, x134, x135, x136, x137, x138, x139, x140, x141, x142, x143, x144, x145, x146, x147, x148], h⟩ (blockK 2 (seqK Try.prog (evC Try.prog) c6_4 (retK Try.f6 Try.prog h0))) = some (.bool true, h') := by
  intro mm
  induction mm with
  | zero =>
    intro i h mb hi Eb ok A hin x5 x6 x7 x8 x9 x10 x11 x12 x14 x16 x17 x19 x20 x21 x22 x23 x24 x25 x26 x27 x28 x29 x30 x31 x32 x33 x34 x35 x36 x37 x38 x39 x40 x41 x42 x43 x44 x45 x46 x47 x48 x49 x50 x51 x52 x53 x54 x55 x56 x57 x58 x59 x60 x61 x62 x63 x64 x65 x66 x67 x68 x69 x70 x71 x72 x73 x74 x75 x76 x77 x78 x79 x80 x81 x82 x83 x84 x85 x86 x87 x88 x89 x90 x91 x92 x93 x94 x95 x96 x97 x98 x99 x100 x101 x102 x103 x104 x105 x106 x107 x108 x109 x110 x111 x112 x113 x114 x115 x116 x117 x118 x119 x120 x121 x122 x123 x124 x125 x126 x127 x128 x129 x130 x131 x132 x133 x134 x135 x136 x137 x138 x139 x140 x141 x142 x143 x144 x145 x146 x147 x148
    obtain rfl : many = i := by omega
    rw [loopK_eq evC_m, c6_3_eq]
    have F := ordF hn hf ht (i := many) (by omega) hne
    obtain ⟨ga, gc, h2, e2, x2, a2⟩ := spec_EGot Eb (by rw [F.len]; omega)
    have ln := a2.su.row.len_eq etV.under
    have hlen : ((gS n f many).length : Int) = n := by rw [F.len]
    obtain ⟨a3, e3, e4⟩ := su_at a2.su etV.under (i := f) (by rw [F.len]; exact hf)
    rw [F.get] at e4
    have cv := fun h => cvIU many h (by omega) (by omega)
    simp -implicitDefEqProofs (disch := omega) only [dcT, dcF, ↓c6_4_eq, e2, ln, hlen, e3, e4, cv, eq_self, decide_true, ↓ret6, ↓cnd_true, ↓cnd_false, ↓Option.bind_some, ↓obH_some', bin_add, bin_sub, bin_mul, bin_lss, bin_leq, bin_gtr, bin_geq, bin_eql, bin_neq, un_not, un_neg, Option.bind_some, Option.bind_none, Option.map_some, cnd_true, cnd_false, pickV_true, pickV_false, gd_true, gd_false, gdV_true, gdV_false, gdH_true, gdH_false, gdS_true, gdS_false, wt_ff, wt_tt, wt_ft, wt_tf, wt_undef, obH_some', extractV_tuple, nilCheckV_ptr, againK_normal, againK_exit, againK_ret, blockK_normal, blockK_same, blockK_ret, seqK_normal, seqK_exit, seqK_ret, fin_done, if_true', if_false', Bool.not_true, Bool.not_false, idx0, idx1, idx2, idx3, idx4, chk_nil_l, chk_nil_r, done_nm]
    exact ⟨_, rfl⟩
  | succ mm ih =>
    intro i h mb hi Eb ok A hin x5 x6 x7 x8 x9 x10 x11 x12 x14 x16 x17 x19 x20 x21 x22 x23 x24 x25 x26 x27 x28 x29 x30 x31 x32 x33 x34 x35 x36 x37 x38 x39 x40 x41 x42 x43 x44 x45 x46 x47 x48 x49 x50 x51 x52 x53 x54 x55 x56 x57 x58 x59 x60 x61 x62 x63 x64 x65 x66 x67 x68 x69 x70 x71 x72 x73 x74 x75 x76 x77 x78 x79 x80 x81 x82 x83 x84 x85 x86 x87 x88 x89 x90 x91 x92 x93 x94 x95 x96 x97 x98 x99 x100 x101 x102 x103 x104 x105 x106 x107 x108 x109 x110 x111 x112 x113 x114 x115 x116 x117 x118 x119 x120 x121 x122 x123 x124 x125 x126 x127 x128 x129 x130 x131 x132 x133 x134 x135 x136 x137 x138 x139 x140 x141 x142 x143 x144 x145 x146 x147 x148
    rw [loopK_eq evC_m, c6_3_eq]
    have F := ordF hn hf ht (i := i) (by omega) hne
    have hl : h0.blks.length ≤ h.blks.length := hin.len
    have hw : IntKind.wrap .i64 ((i : Int) + 1) = ((i + 1 : Nat) : Int) := by rw [wrap_i64] <;> omega
    have cv := fun h => cvIU ((i + 1 : Nat) : Int) h (by omega) (by omega)
    have k1 := mkI1 .i64 t h
    have si := litI1 h t
    have s1 := Same.new h (.cells [.int .i64 (t : Int)]) 3
    have i1 := hin.trans (In.new hl (.cells [.int .i64 (t : Int)]) 3)
    generalize h.new (.cells [.int .i64 (t : Int)]) 3 = h1 at *
    have e1 := spec_Of si.nm (by simp)
    rw [ofL_one (by omega)] at e1
    have h2 : 2 ^ t < 2 ^ 64 := Nat.pow_lt_pow_right (by omega) (by omega)
    have l1 : h0.blks.length ≤ h1.blks.length := i1.len
    obtain ⟨ad, sx, sc, ea, ex, ab⟩ := (A.same s1).atA (i := i) (by rw [lS_len]; omega)
    rw [lS_get _ _ _ _ _ (by omega)] at ex ab
    have am1 : am (nm h1) h1 = h1 := by show Heap.mk _ _ = _; rfl
    obtain ⟨h3, e3, x3, Eb3⟩ := spec_ETake (Eb.same s1) (by omega) ok f (i + 1) (2 ^ t) h2 (ab.sl etB.size) (by have := stampM_len (n := n) F.m64; omega)
    have hc := canE_stamp hn hf ht (i := i) (by omega) hne (gS n f i)
    rw [F.can] at hc
    have ok3 := ok.take f (2 ^ t) (stampM n (mS n f t i))
    have hg : takeG n t (gS n f i) f (stampM n (mS n f t i)) = gS n f (i + 1) := by unfold takeG; rw [if_pos hc]; exact F.upV
    rw [hg] at Eb3 ok3
    rw [hc] at e3
    obtain ⟨csb, cb⟩ := (Eb.same s1).cl
    have A3 := (A.same s1).modE cb x3
    have i3 := i1.trans (x3.inn l1 fun b hb e => by have : b = pb := e; omega)
    simp -implicitDefEqProofs (disch := omega) only [dcT, dcF, hw, cv, k1, e1, ea, ex, am1, e3, nmm, List.append_nil, ↓cnd_true, ↓cnd_false, ↓Option.bind_some, ↓obH_some', bin_add, bin_sub, bin_mul, bin_lss, bin_leq, bin_gtr, bin_geq, bin_eql, bin_neq, un_not, un_neg, Option.bind_some, Option.bind_none, Option.map_some, cnd_true, cnd_false, pickV_true, pickV_false, gd_true, gd_false, gdV_true, gdV_false, gdH_true, gdH_false, gdS_true, gdS_false, wt_ff, wt_tt, wt_ft, wt_tf, wt_undef, obH_some', extractV_tuple, nilCheckV_ptr, againK_normal, againK_exit, againK_ret, blockK_normal, blockK_same, blockK_ret, seqK_normal, seqK_exit, seqK_ret, fin_done, if_true', if_false', Bool.not_true, Bool.not_false, idx0, idx1, idx2, idx3, idx4, chk_nil_l, chk_nil_r, done_nm]
    exact ih (i + 1) h3 _ (by omega) Eb3 ok3 A3 i3 _ _ _ _ _ _ _ _ _ _ _ _ _ _ _ _ _ _ _ _ _ _ _ _ _ _ _ _ _ _ _ _ _ _ _ _ _ _ _ _ _ _ _ _ _ _ _ _ _ _ _ _ _ _ _ _ _ _ _ _ _ _ _ _ _ _ _ _ _ _ _ _ _ _ _ _ _ _ _ _ _ _ _ _ _ _ _ _ _ _ _ _ _ _ _ _ _ _ _ _ _ _ _ _ _ _ _ _ _ _ _ _ _ _ _ _ _ _ _ _ _ _ _ _ _ _ _ _ _ _ _ _ _ _ _ _ _ _ _ _ _
end Go.Am
namespace Go.Am
open Go.Proofs
set_option maxRecDepth 100000
set_option linter.all false
attribute [local congr] obind_congr obH_congr cnd_congr chk_congr retK_congr codeK_congr
def Z3 : List (List Nat) := [[0, 0, 0], [0, 0, 0], [0, 0, 0]]
def M3 : List (List Nat) := [[0, 1, 1], [0, 0, 0], [0, 0, 0]]
def N3 : List (List Nat) := [[0, 1, 1], [0, 0, 1], [0, 0, 0]]
theorem kn_len : (stampM 3 Z3).length = 9 := by decide +kernel
theorem kn_cut : readM 3 ((stampM 3 Z3).take 8) = none := by decide +kernel
theorem kn_c1 : canE 3 1 [0, 0, 0] 0 (stampM 3 Z3) = true := by decide +kernel
theorem kn_m1 : takeM 3 1 Z3 [0, 0, 0] 0 6 (stampM 3 Z3) = M3 := by decide +kernel
theorem kn_g1 : takeG 3 1 [0, 0, 0] 0 (stampM 3 Z3) = [1, 0, 0] := by decide +kernel
theorem kn_c2 : canE 3 2 [0, 0, 0] 1 (stampM 3 M3) = false := by decide +kernel
theorem kn_m2 : takeM 3 2 Z3 [0, 0, 0] 1 4 (stampM 3 M3) = Z3 := by decide +kernel
theorem kn_g2 : takeG 3 2 [0, 0, 0] 1 (stampM 3 M3) = [0, 0, 0] := by decide +kernel
theorem kn_c3 : canE 3 2 [0, 0, 0] 0 (stampM 3 Z3) = true := by decide +kernel
theorem kn_m3 : takeM 3 2 Z3 [0, 0, 0] 0 6 (stampM 3 Z3) = M3 := by decide +kernel
theorem kn_g3 : takeG 3 2 [0, 0, 0] 0 (stampM 3 Z3) = [1, 0, 0] := by decide +kernel
theorem kn_c4 : canE 3 2 [1, 0, 0] 1 (stampM 3 M3) = true := by decide +kernel
theorem kn_c5 : canE 3 2 [1, 0, 0] 2 (stampM 3 M3) = false := by decide +kernel
theorem kn_c6 : canE 3 2 [1, 0, 0] 1 [] = false := by decide +kernel
theorem kn_t1 : toE 3 0 6 = 6 ∧ pop 6 = 2 ∧ upM 3 Z3 0 6 = M3 := by decide +kernel
theorem kn_t2 : toE 3 1 4 = 4 ∧ pop 4 = 1 ∧ upM 3 M3 1 4 = N3 := by decide +kernel
theorem kn_t3 : toE 3 0 0 = 0 ∧ pop 0 = 0 := by decide +kernel
theorem kn_okZ (me : Int) (h0 : 0 ≤ me) (h1 : me < 3) : EnOk 3 me Z3 [0, 0, 0] := ⟨by decide +kernel, h0, h1, by decide, by decide +kernel, by decide⟩
theorem kn_okM (me : Int) (h0 : 0 ≤ me) (h1 : me < 3) (g : List Nat) (hg : (g.length : Int) = 3) (hb : ∀ y ∈ g, y < 2 ^ 64) : EnOk 3 me M3 g := ⟨by decide +kernel, h0, h1, hg, by decide +kernel, hb⟩
theorem mkI2 (k k' : IntKind) (n m : Int) (h : Heap) : buildSliceV Try.prog 73 2 #[(0, .int k n), (1, .int k' m)] h = some (.slice (some ⟨h.blks.length, 0, none⟩) 2 2, h.new (.cells [.int k n, .int k' m]) 3) := by kernel_rfl
theorem litI2 (h : Heap) (n m : Int) : SI (h.new (.cells [.int .i64 n, .int .i64 m]) 3) (.slice (some ⟨h.blks.length, 0, none⟩) 2 2) [n, m] :=
  .mk (by simp [Heap.loadN, Heap.cells?, blk_new_self]; exact ⟨rfl, rfl⟩) (.inr ⟨Nat.le_refl _, by unfold UNK; decide⟩)
theorem mkU3 (k : IntKind) (n m o : Int) (h : Heap) : buildSliceV Try.prog 52 3 #[(0, .int k n), (1, .int k m), (2, .int k o)] h = some (.slice (some ⟨h.blks.length, 0, none⟩) 3 3, h.new (.cells [.int k n, .int k m, .int k o]) 46) := by kernel_rfl
theorem litU3 (h : Heap) : SU (h.new (.cells [.int .u64 1, .int .u64 0, .int .u64 0]) 46) (.slice (some ⟨h.blks.length, 0, none⟩) 3 3) [1, 0, 0] :=
  .mk (by simp [Heap.loadN, Heap.cells?, blk_new_self]; first | rfl | exact ⟨rfl, rfl, rfl⟩ | exact ⟨rfl, rfl⟩) (.inr ⟨Nat.le_refl _, by unfold UNK; decide⟩)
theorem AB.su_len {n0 : Nat} {h : Heap} {v : Value} {bs : List UInt8} (a : AB n0 h v bs) : lenV Try.prog 23 v h = some (.int .i64 bs.length) := (a.sl etB.size).row.len_eq etB.under
theorem ad_inj {x : Option Value} {a b : Addr} (h : x = some (.pointer (some a))) (k : x = some (.pointer (some b))) : a = b := by
  rw [h] at k; simpa using k
theorem En.upL {L L' : Nat} {h : Heap} {p : Nat} {n me : Int} {m : List (List Nat)} {g : List Nat} (E : En L h p n me m g) (hl : L' ≤ L) : En L' h p n me m g := let ⟨_, _, x⟩ := E; ⟨_, _, ⟨x.c, x.am.up hl, x.au.up hl⟩⟩
/-- three engines, and what was told -/
structure Tri (L : Nat) (h : Heap) (p q r : Nat) (v w : Value) (mp mq mr : List (List Nat)) (gp gq gr : List Nat) (a b : List (List UInt8)) : Prop where
  P' : En L h p 3 0 mp gp
  Q' : En L h q 3 1 mq gq
  R' : En L h r 3 2 mr gr
  A' : ABs L h v a
  B' : ABs L h w b
  pq : p ≠ q
  pr : p ≠ r
  qr : q ≠ r
  l : L ≤ h.blks.length
theorem Tri.same {L : Nat} {h h' : Heap} {p q r : Nat} {v w : Value} {mp mq mr : List (List Nat)} {gp gq gr : List Nat} {a b : List (List UInt8)} (T : Tri L h p q r v w mp mq mr gp gq gr a b) (s : Same h h') : Tri L h' p q r v w mp mq mr gp gq gr a b :=
  ⟨T.P'.same s, T.Q'.same s, T.R'.same s, T.A'.same s, T.B'.same s, T.pq, T.pr, T.qr, Nat.le_trans T.l s.1⟩
theorem Tri.modP {L : Nat} {h h' : Heap} {p q r : Nat} {v w : Value} {mp mq mr mp' : List (List Nat)} {gp gq gr gp' : List Nat} {a b : List (List UInt8)} (T : Tri L h p q r v w mp mq mr gp gq gr a b) (e : HMod (Just p) h h') (E : En L h' p 3 0 mp' gp') : Tri L h' p q r v w mp' mq mr gp' gq gr a b :=
  let ⟨_, c⟩ := T.P'.cl
  ⟨E, T.Q'.modE T.P' T.pq.symm e, T.R'.modE T.P' T.pr.symm e, T.A'.modE c e, T.B'.modE c e, T.pq, T.pr, T.qr, Nat.le_trans T.l e.len⟩
theorem Tri.modQ {L : Nat} {h h' : Heap} {p q r : Nat} {v w : Value} {mp mq mr mq' : List (List Nat)} {gp gq gr gq' : List Nat} {a b : List (List UInt8)} (T : Tri L h p q r v w mp mq mr gp gq gr a b) (e : HMod (Just q) h h') (E : En L h' q 3 1 mq' gq') : Tri L h' p q r v w mp mq' mr gp gq' gr a b :=
  let ⟨_, c⟩ := T.Q'.cl
  ⟨T.P'.modE T.Q' T.pq e, E, T.R'.modE T.Q' T.qr.symm e, T.A'.modE c e, T.B'.modE c e, T.pq, T.pr, T.qr, Nat.le_trans T.l e.len⟩
theorem Tri.modR {L : Nat} {h h' : Heap} {p q r : Nat} {v w : Value} {mp mq mr mr' : List (List Nat)} {gp gq gr gr' : List Nat} {a b : List (List UInt8)} (T : Tri L h p q r v w mp mq mr gp gq gr a b) (e : HMod (Just r) h h') (E : En L h' r 3 2 mr' gr') : Tri L h' p q r v w mp mq mr' gp gq gr' a b :=
  let ⟨_, c⟩ := T.R'.cl
  ⟨T.P'.modE T.R' T.pr e, T.Q'.modE T.R' T.qr e, E, T.A'.modE c e, T.B'.modE c e, T.pq, T.pr, T.qr, Nat.le_trans T.l e.len⟩
theorem law_FullKnown (h : Heap) (vs : List Value) (dd : List DT) (r : RdAll Try.prog h [] vs dd) : ∃ h', evC Try.prog 4 vs.toArray h = some (.bool true, h') := by
  obtain ⟨rfl, rfl⟩ := r.nil_inv
  rw [call4, c4_0_eq]
  obtain ⟨h1, e1, x1⟩ := spec_awake17 (nm h)
  obtain ⟨q1, h2, e2, x2, _⟩ := spec_ENew 0 0 h1
  simp only [if_neg (show ¬ (1 ≤ (0 : Int) ∧ (0 : Int) ≤ 16 ∧ 0 ≤ (0 : Int) ∧ (0 : Int) < 0) by decide)] at e2
  obtain ⟨q2, h3, e3, x3, _⟩ := spec_ENew 2 2 h2
  simp only [if_neg (show ¬ (1 ≤ (2 : Int) ∧ (2 : Int) ≤ 16 ∧ 0 ≤ (2 : Int) ∧ (2 : Int) < 2) by decide)] at e3
  obtain ⟨p, h4, e4, x4, r4⟩ := spec_ENew 3 0 h3
  simp only [if_pos (show 1 ≤ (3 : Int) ∧ (3 : Int) ≤ 16 ∧ 0 ≤ (0 : Int) ∧ (0 : Int) < 3 by decide)] at e4
  obtain ⟨lp, Ep⟩ := r4 (by decide)
  obtain ⟨q, h5, e5, x5, r5⟩ := spec_ENew 3 1 h4
  simp only [if_pos (show 1 ≤ (3 : Int) ∧ (3 : Int) ≤ 16 ∧ 0 ≤ (1 : Int) ∧ (1 : Int) < 3 by decide)] at e5
  obtain ⟨lq, Eq⟩ := r5 (by decide)
  obtain ⟨r, h6, e6, x6, r6⟩ := spec_ENew 3 2 h5
  simp only [if_pos (show 1 ≤ (3 : Int) ∧ (3 : Int) ≤ 16 ∧ 0 ≤ (2 : Int) ∧ (2 : Int) < 3 by decide)] at e6
  obtain ⟨lr, Er⟩ := r6 (by decide)
  rw [show zerosM (3 : Int).toNat = Z3 from rfl, show List.replicate (3 : Int).toNat 0 = [0, 0, 0] from rfl] at Ep Eq Er
  have bp : p < h4.blks.length := let ⟨_, c⟩ := Ep.cl; c.lt
  have bq : q < h5.blks.length := let ⟨_, c⟩ := Eq.cl; c.lt
  have l4 := x4.len
  have l5 := x5.len
  have l6 := x6.len
  have T6 : Tri h3.blks.length h6 p q r (.slice none 0 0) (.slice none 0 0) Z3 Z3 Z3 [0, 0, 0] [0, 0, 0] [0, 0, 0] [] [] :=
    ⟨(Ep.ext x5).ext x6, (Eq.ext x6).upL l4, Er.upL (by omega), ⟨[], .nil, .nil⟩, ⟨[], .nil, .nil⟩, by omega, by omega, by omega, by omega⟩
  have k7 := mkI2 .i64 .i64 1 2 h6
  have s7 := litI2 h6 1 2
  have T7 := T6.same (Same.new h6 (.cells [.int .i64 1, .int .i64 2]) 3)
  generalize h6.new (.cells [.int .i64 1, .int .i64 2]) 3 = h7 at *
  have o7 := spec_Of s7 (by simp)
  rw [show ofL [1, 2] = 6 by decide] at o7
  obtain ⟨v, h8, e8, x8, E8, A8⟩ := spec_ESend T7.P' T7.l (kn_okZ 0 (by decide) (by decide)) 6 (by decide)
  rw [kn_t1.1, kn_t1.2.2] at E8
  rw [kn_t1.1, kn_t1.2.1] at A8
  have T8' := T7.modP x8 E8
  have T8 : Tri h3.blks.length h8 p q r v (.slice none 0 0) M3 Z3 Z3 [0, 0, 0] [0, 0, 0] [0, 0, 0] [stampM 3 Z3, stampM 3 Z3] [] := ⟨T8'.P', T8'.Q', T8'.R', A8.up T7.l, ⟨[], .nil, .nil⟩, T8'.pq, T8'.pr, T8'.qr, T8'.l⟩
  have ln8 := T8.A'.len
  obtain ⟨ad8, y8, ea8, ey8, sy8⟩ := T8.A'.at (i := 0) (by decide)
  have ly8 := sy8.row.len_eq etB.under
  rw [show (([stampM 3 Z3, stampM 3 Z3].getD 0 []).length : Int) = 9 by rw [show [stampM 3 Z3, stampM 3 Z3].getD 0 [] = stampM 3 Z3 from rfl, kn_len]; rfl] at ly8
  rw [show (([stampM 3 Z3, stampM 3 Z3] : List (List UInt8)).length : Int) = 2 from rfl] at ln8
  have k9 := mkI2 .i64 .i64 1 2 h8
  have s9 := litI2 h8 1 2
  have T9 := T8.same (Same.new h8 (.cells [.int .i64 1, .int .i64 2]) 3)
  generalize h8.new (.cells [.int .i64 1, .int .i64 2]) 3 = h9 at *
  have o9 := spec_Of s9.nm (by simp)
  rw [show ofL [1, 2] = 6 by decide] at o9
  have m9 : am (nm h9) h9 = h9 := by show Heap.mk _ _ = _; rfl
  obtain ⟨ad9, y9, ea9, ey9, sy9⟩ := T9.A'.at (i := 0) (by decide)
  rw [ad_inj ea9 ea8] at ey9
  rw [show [stampM 3 Z3, stampM 3 Z3].getD 0 [] = stampM 3 Z3 from rfl] at sy9
  obtain ⟨h10, e10, x10, E10⟩ := spec_ETake T9.Q' T9.l (kn_okZ 1 (by decide) (by decide)) 0 1 6 (by decide) sy9 (by rw [kn_len]; decide)
  rw [kn_m1, kn_g1] at E10
  rw [kn_c1] at e10
  have T10 := T9.modQ x10 E10
  have k11 := mkI1 .i64 2 h10
  have s11 := litI1 h10 2
  have T11 := T10.same (Same.new h10 (.cells [.int .i64 2]) 3)
  generalize h10.new (.cells [.int .i64 2]) 3 = h11 at *
  have o11 := spec_Of s11 (by simp)
  rw [show ofL [2] = 4 by decide] at o11
  obtain ⟨w, h12, e12, x12, E12, A12⟩ := spec_ESend T11.Q' T11.l (kn_okM 1 (by decide) (by decide) [1, 0, 0] (by decide) (by decide)) 4 (by decide)
  rw [kn_t2.1, kn_t2.2.2] at E12
  rw [kn_t2.1, kn_t2.2.1] at A12
  have T12' := T11.modQ x12 E12
  have T12 : Tri h3.blks.length h12 p q r v w M3 N3 Z3 [0, 0, 0] [1, 0, 0] [0, 0, 0] [stampM 3 Z3, stampM 3 Z3] [stampM 3 M3] := ⟨T12'.P', T12'.Q', T12'.R', T12'.A', A12.up T11.l, T12'.pq, T12'.pr, T12'.qr, T12'.l⟩
  have ln12 := T12.B'.len
  rw [show (([stampM 3 M3] : List (List UInt8)).length : Int) = 1 from rfl] at ln12
  have lM : (stampM 3 M3).length < 2 ^ 38 := by have := stampM_len (n := 3) (m := M3) (by decide +kernel); omega
  have gB : ∀ {h : Heap}, Tri h3.blks.length h p q r v w M3 N3 Z3 [0, 0, 0] [1, 0, 0] [0, 0, 0] [stampM 3 Z3, stampM 3 Z3] [stampM 3 M3] → True := fun _ => trivial
  obtain ⟨ad12, y12, ea12, ey12, sy12⟩ := T12.B'.at (i := 0) (by decide)
  rw [show [stampM 3 M3].getD 0 [] = stampM 3 M3 from rfl] at sy12
  obtain ⟨h13, e13, x13⟩ := spec_ECan T12.R' (kn_okZ 2 (by decide) (by decide)) 1 1 sy12 lM
  rw [kn_c2] at e13
  have T13 := T12.same x13.same
  have k14 := mkI1 .i64 2 h13
  have s14 := litI1 h13 2
  have T14 := T13.same (Same.new h13 (.cells [.int .i64 2]) 3)
  generalize h13.new (.cells [.int .i64 2]) 3 = h14 at *
  have o14 := spec_Of s14.nm (by simp)
  rw [show ofL [2] = 4 by decide] at o14
  have m14 : am (nm h14) h14 = h14 := by show Heap.mk _ _ = _; rfl
  obtain ⟨ad14, y14, ea14, ey14, sy14⟩ := T14.B'.at (i := 0) (by decide)
  rw [ad_inj ea14 ea12] at ey14
  rw [show [stampM 3 M3].getD 0 [] = stampM 3 M3 from rfl] at sy14
  obtain ⟨h15, e15, x15, E15⟩ := spec_ETake T14.R' T14.l (kn_okZ 2 (by decide) (by decide)) 1 1 4 (by decide) sy14 lM
  rw [kn_m2, kn_g2] at E15
  rw [kn_c2] at e15
  have T15 := T14.modR x15 E15
  have k16 := mkI2 .i64 .i64 1 2 h15
  have s16 := litI2 h15 1 2
  have T16 := T15.same (Same.new h15 (.cells [.int .i64 1, .int .i64 2]) 3)
  generalize h15.new (.cells [.int .i64 1, .int .i64 2]) 3 = h16 at *
  have o16 := spec_Of s16.nm (by simp)
  rw [show ofL [1, 2] = 6 by decide] at o16
  have m16 : am (nm h16) h16 = h16 := by show Heap.mk _ _ = _; rfl
  obtain ⟨ad16, y16, ea16, ey16, sy16⟩ := T16.A'.at (i := 1) (by decide)
  rw [show [stampM 3 Z3, stampM 3 Z3].getD 1 [] = stampM 3 Z3 from rfl] at sy16
  obtain ⟨h17, e17, x17, E17⟩ := spec_ETake T16.R' T16.l (kn_okZ 2 (by decide) (by decide)) 0 1 6 (by decide) sy16 (by rw [kn_len]; decide)
  rw [kn_m3, kn_g3] at E17
  rw [kn_c3] at e17
  have T17 := T16.modR x17 E17
  have okr := kn_okM 2 (by decide) (by decide) [1, 0, 0] (by decide) (by decide)
  obtain ⟨ad17, y17, ea17, ey17, sy17⟩ := T17.B'.at (i := 0) (by decide)
  rw [ad_inj ea17 ea12] at ey17
  rw [show [stampM 3 M3].getD 0 [] = stampM 3 M3 from rfl] at sy17
  obtain ⟨h18, e18, x18⟩ := spec_ECan T17.R' okr 1 1 sy17 lM
  rw [kn_c4] at e18
  have T18 := T17.same x18.same
  obtain ⟨ad18, y18, ea18, ey18, sy18⟩ := T18.B'.at (i := 0) (by decide)
  rw [ad_inj ea18 ea12] at ey18
  rw [show [stampM 3 M3].getD 0 [] = stampM 3 M3 from rfl] at sy18
  obtain ⟨h19, e19, x19⟩ := spec_ECan T18.R' okr 2 1 sy18 lM
  rw [kn_c5] at e19
  have T19 := T18.same x19.same
  obtain ⟨h20, e20, x20⟩ := spec_ECan T19.R' okr 1 1 (b := .slice none 0 0) (bs := []) .nil (by decide)
  rw [kn_c6] at e20
  have T20 := T19.same x20.same
  obtain ⟨ad20, y20, ea20, ey20, sy20⟩ := T20.A'.at (i := 0) (by decide)
  rw [ad_inj ea20 ea8] at ey20
  rw [show [stampM 3 Z3, stampM 3 Z3].getD 0 [] = stampM 3 Z3 from rfl] at sy20
  obtain ⟨ta, tc, et, st, _⟩ := sl_take sy20 (i := 8) (by rw [kn_len]; decide) .i64
  rw [show ((8 : Nat) : Int) = 8 from rfl] at et
  obtain ⟨wv, h21, e21, x21, a21⟩ := spec_Read (n := 3) st (by rw [List.length_take, kn_len]; decide)
  rw [kn_cut] at e21 a21
  rw [show readV 3 none = 0 from rfl, show (none : Option (List (List Nat))).isSome = false from rfl] at e21
  obtain ⟨wa, wc, rfl⟩ := a21.shape
  have k22 := alM h21
  have k22' := mvar (h := h21) 0 wa ((none : Option (List (List Nat))).getD []).length wc
  have s22 := mvar_same h21 (.cells [.int .i64 0, .slice none 0 0]) (.cells [.int .i64 0, .slice wa ((none : Option (List (List Nat))).getD []).length wc]) 29
  generalize (h21.new (.cells [.int .i64 0, .slice none 0 0]) 29).put h21.blks.length (.cells [.int .i64 0, .slice wa ((none : Option (List (List Nat))).getD []).length wc]) = h22 at *
  have T22 := (T20.same x21.same).same s22
  obtain ⟨ga, gc, h23, e23, x23, a23⟩ := spec_EGot T22.R' (by decide)
  have T23 := T22.same x23.same
  have k24 := mkU3 .u64 1 0 0 h23
  have u24 := litU3 h23
  have S24 := Same.new h23 (.cells [.int .u64 1, .int .u64 0, .int .u64 0]) 46
  have T24 := T23.same S24
  have g24 := a23.su.same S24
  generalize h23.new (.cells [.int .u64 1, .int .u64 0, .int .u64 0]) 46 = h24 at *
  have e25 := spec_longs g24 u24 (by decide) (by decide)
  rw [decide_eq_true rfl] at e25
  obtain ⟨v26, h26, e26, x26, a26⟩ := spec_ESent T24.R' (goodM_small okr.gd)
  obtain ⟨h27, e27, x27⟩ := spec_MAt (n := 3) a26.smV 0 1 (by decide +kernel)
  rw [show atM M3 0 1 = 1 by decide +kernel, show ((1 : Nat) : Int) = 1 from rfl] at e27
  have T27 := (T24.same x26.same).same x27.same
  obtain ⟨v28, h28, e28, x28, a28⟩ := spec_ESent T27.R' (goodM_small okr.gd)
  obtain ⟨h29, e29, x29⟩ := spec_MAt (n := 3) a28.smV 0 2 (by decide +kernel)
  rw [show atM M3 0 2 = 1 by decide +kernel, show ((1 : Nat) : Int) = 1 from rfl] at e29
  have T29 := (T27.same x28.same).same x29.same
  obtain ⟨v30, h30, e30, x30, E30, A30⟩ := spec_ESend T29.P' T29.l (kn_okM 0 (by decide) (by decide) [0, 0, 0] (by decide) (by decide)) 0 (by decide)
  rw [kn_t3.1, kn_t3.2] at A30
  have ln30 := A30.len
  rw [show ((List.replicate 0 (stampM 3 M3)).length : Int) = 0 from rfl] at ln30
  obtain ⟨pa, pc, h31, e31, x31, a31⟩ := spec_Stamp (n := 0) (h := h30) (SM.nil h30) (by decide) (by simp)
  have l31 := AB.su_len a31
  rw [show stampM 0 [] = [] from rfl, show ((([] : List UInt8).length : Nat) : Int) = 0 from rfl] at l31
  rw [show ((0 : Nat) : Int) = 0 from rfl] at ea8 ea12
  rw [show ((1 : Nat) : Int) = 1 from rfl] at ea16 e10 e13 e15 e17 e18 e19 e20
  rw [show ((6 : Nat) : Int) = 6 from rfl] at o7 e8 o9 e10 o16 e17
  rw [show ((4 : Nat) : Int) = 4 from rfl] at o11 e12 o14 e15
  rw [show ((0 : Nat) : Int) = 0 from rfl] at e30
  simp -implicitDefEqProofs (maxSteps := 1000000) (disch := omega) only [dcT, dcF, e1, e2, e3, e4, e5, e6, k7, o7, e8, ln8, ea8, ey8, ly8, k9, o9, m9, ey9, e10, nmm, List.append_nil, k11, o11, e12, ln12, ea12, ey12, e13, k14, o14, m14, ey14, e15, k16, o16, m16, ea16, ey16, e17, ey17, e18, ey18, e19, e20, ey20, et, e21, k22, k22', e23, k24, e25, e26, e27, e28, e29, e30, ln30, bdM0, e31, l31, ne_eq, eq_self, not_true_eq_false, decide_true, decide_false, ↓ret4, ↓cnd_true, ↓cnd_false, ↓Option.bind_some, ↓obH_some', bin_add, bin_sub, bin_mul, bin_lss, bin_leq, bin_gtr, bin_geq, bin_eql, bin_neq, un_not, un_neg, Option.bind_some, Option.bind_none, Option.map_some, cnd_true, cnd_false, pickV_true, pickV_false, gd_true, gd_false, gdV_true, gdV_false, gdH_true, gdH_false, gdS_true, gdS_false, wt_ff, wt_tt, wt_ft, wt_tf, wt_undef, obH_some', extractV_tuple, nilCheckV_ptr, againK_normal, againK_exit, againK_ret, blockK_normal, blockK_same, blockK_ret, seqK_normal, seqK_exit, seqK_ret, fin_done, if_true', if_false', Bool.not_true, Bool.not_false, idx0, idx1, idx2, idx3, idx4, chk_nil_l, chk_nil_r, done_nm]
  exact ⟨_, rfl⟩
end Go.Am
