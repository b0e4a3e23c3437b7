/- What the functions answer, in the machine. -/
import Derived.Test.YtojjjicjpimhoaaKF
set_option linter.all false
namespace Go.Am
open Go.Proofs
set_option maxRecDepth 100000
set_option linter.all false
attribute [local congr] obind_congr obH_congr cnd_congr chk_congr retK_congr codeK_congr
variable {L : Nat} {h h' : Heap} {p : Nat} {n me : Int} {rv gv : Value} {m : List (List Nat)} {g : List Nat}
def canCol (g col : List Nat) : Bool := (List.range col.length).all fun k => decide (col.getD k 0 ≤ g.getD k 0)
def canColF (g col : List Nat) (i : Nat) : Bool := (List.range' i (col.length - i)).all fun k => decide (col.getD k 0 ≤ g.getD k 0)
def canE (n me : Int) (g : List Nat) (from' : Int) (bs : List UInt8) : Bool := match readM n bs with
  | none => false
  | some r => decide (0 ≤ from' ∧ from' < n ∧ from' ≠ me) && canCol g (columnM n r me)
theorem canColF_zero (g col : List Nat) : canColF g col 0 = canCol g col := by unfold canColF canCol; rw [Nat.sub_zero, List.range_eq_range']
theorem canColF_end (g col : List Nat) : canColF g col col.length = true := by unfold canColF; rw [Nat.sub_self]; rfl
theorem canColF_step (g col : List Nat) {i : Nat} (hi : i < col.length) : canColF g col i = (decide (col.getD i 0 ≤ g.getD i 0) && canColF g col (i + 1)) := by
  unfold canColF
  rw [show col.length - i = (col.length - (i + 1)) + 1 by omega, List.range'_succ]; rfl
theorem can_loop {h0 h : Heap} {p : Nat} {cv : Value} {col : List Nat} (E : EnC L h p n me rv gv m g) (sc : SU h cv col) (hc : col.length ≤ g.length) (hl : g.length ≤ 16) : ∀ (mm i : Nat), col.length = i + mm → ∀ (x1 x2 x3 x4 x5 x6 x7 x8 x9 x10 x11 x12 x13 x14 x15 x16 x17 x18 x19 x20 x21 x22 x23 x24 x25 x26 x27 x28 x29 x30 x31 x32 x33 x34 x35 x36 x37 x38 x39 x40 x41 x42 x43 x44 x45 x46 x47 x48 x52 x53 x54 x55 x56 x57 x58 x59 x60 x61 x62 x63 x64 x65 : Value),
    loopK Try.prog (evC Try.prog) c31_1 ⟨#[.pointer (some ⟨p, 0, none⟩), x1, x2, x3, x4, x5, x6, x7, x8, x9, x10, x11, x12, x13, x14, x15, x16, x17, x18, x19, x20, x21, x22, x23, x24, x25, x26, x27, x28, x29, x30, x31, x32, x33, x34, x35, x36, x37, x38, x39, x40, x41, x42, x43, x44, x45, x46, x47, x48, cv, .int .i64 col.length, .int .i64 i, x52, x53, x54, x55, x56, x57, x58, x59, x60, x61, x62, x63, x64, x65], h⟩ (blockK 0 (seqK Try.prog (evC Try.prog) c31_2 (retK Try.f31 Try.prog h0))) =
      some (.bool (canColF g col i), done h0 h) := by
  intro mm
  induction mm with
  | zero =>
    intro i hi x1 x2 x3 x4 x5 x6 x7 x8 x9 x10 x11 x12 x13 x14 x15 x16 x17 x18 x19 x20 x21 x22 x23 x24 x25 x26 x27 x28 x29 x30 x31 x32 x33 x34 x35 x36 x37 x38 x39 x40 x41 x42 x43 x44 x45 x46 x47 x48 x52 x53 x54 x55 x56 x57 x58 x59 x60 x61 x62 x63 x64 x65
    rw [loopK_eq evC_m, c31_1_eq]
    rw [show i = col.length by omega, canColF_end]
    simp -implicitDefEqProofs (disch := omega) only [dcT, dcF, ↓c31_2_eq, ↓ret31, ↓cnd_true, ↓cnd_false, ↓Option.bind_some, ↓obH_some', bin_add, bin_sub, bin_mul, bin_lss, bin_leq, bin_gtr, bin_geq, bin_eql, bin_neq, un_not, un_neg, Option.bind_some, Option.bind_none, Option.map_some, cnd_true, cnd_false, pickV_true, pickV_false, gd_true, gd_false, gdV_true, gdV_false, gdH_true, gdH_false, gdS_true, gdS_false, wt_ff, wt_tt, wt_ft, wt_tf, wt_undef, obH_some', extractV_tuple, nilCheckV_ptr, againK_normal, againK_exit, againK_ret, blockK_normal, blockK_same, blockK_ret, seqK_normal, seqK_exit, seqK_ret, fin_done, if_true', if_false', Bool.not_true, Bool.not_false, idx0, idx1, idx2, idx3, idx4, chk_nil_l, chk_nil_r, done_nm]
  | succ mm ih =>
    intro i hi x1 x2 x3 x4 x5 x6 x7 x8 x9 x10 x11 x12 x13 x14 x15 x16 x17 x18 x19 x20 x21 x22 x23 x24 x25 x26 x27 x28 x29 x30 x31 x32 x33 x34 x35 x36 x37 x38 x39 x40 x41 x42 x43 x44 x45 x46 x47 x48 x52 x53 x54 x55 x56 x57 x58 x59 x60 x61 x62 x63 x64 x65
    rw [loopK_eq evC_m, c31_1_eq]
    obtain ⟨a1, e1, e2⟩ := su_at sc etV.under (i := i) (by omega)
    obtain ⟨a3, e3, e4⟩ := su_at E.au.su etV.under (i := i) (by omega)
    have hw : IntKind.wrap .i64 ((i : Int) + 1) = ((i + 1 : Nat) : Int) := by rw [wrap_i64] <;> omega
    rw [canColF_step g col (by omega)]
    by_cases hlt : g.getD i 0 < col.getD i 0
    · rw [decide_eq_false (by omega), Bool.false_and]
      simp -implicitDefEqProofs (disch := omega) only [dcT, dcF, e1, e2, faE3, ldVv, E.l4, e3, e4, ↓ret31, ↓cnd_true, ↓cnd_false, ↓Option.bind_some, ↓obH_some', bin_add, bin_sub, bin_mul, bin_lss, bin_leq, bin_gtr, bin_geq, bin_eql, bin_neq, un_not, un_neg, Option.bind_some, Option.bind_none, Option.map_some, cnd_true, cnd_false, pickV_true, pickV_false, gd_true, gd_false, gdV_true, gdV_false, gdH_true, gdH_false, gdS_true, gdS_false, wt_ff, wt_tt, wt_ft, wt_tf, wt_undef, obH_some', extractV_tuple, nilCheckV_ptr, againK_normal, againK_exit, againK_ret, blockK_normal, blockK_same, blockK_ret, seqK_normal, seqK_exit, seqK_ret, fin_done, if_true', if_false', Bool.not_true, Bool.not_false, idx0, idx1, idx2, idx3, idx4, chk_nil_l, chk_nil_r, done_nm]
    · rw [decide_eq_true (show col.getD i 0 ≤ g.getD i 0 by omega), Bool.true_and]
      simp -implicitDefEqProofs (disch := omega) only [dcT, dcF, e1, e2, faE3, ldVv, E.l4, e3, e4, hw, ↓cnd_true, ↓cnd_false, ↓Option.bind_some, ↓obH_some', bin_add, bin_sub, bin_mul, bin_lss, bin_leq, bin_gtr, bin_geq, bin_eql, bin_neq, un_not, un_neg, Option.bind_some, Option.bind_none, Option.map_some, cnd_true, cnd_false, pickV_true, pickV_false, gd_true, gd_false, gdV_true, gdV_false, gdH_true, gdH_false, gdS_true, gdS_false, wt_ff, wt_tt, wt_ft, wt_tf, wt_undef, obH_some', extractV_tuple, nilCheckV_ptr, againK_normal, againK_exit, againK_ret, blockK_normal, blockK_same, blockK_ret, seqK_normal, seqK_exit, seqK_ret, fin_done, if_true', if_false', Bool.not_true, Bool.not_false, idx0, idx1, idx2, idx3, idx4, chk_nil_l, chk_nil_r, done_nm]
      exact ih (i + 1) (by omega) _ _ _ _ _ _ _ _ _ _ _ _ _ _ _ _ _ _ _ _ _ _ _ _ _ _ _ _ _ _ _ _ _ _ _ _ _ _ _ _ _ _ _ _ _ _ _ _ _ _ _ _ _ _ _ _ _ _ _ _ _ _
theorem columnM_len {n me : Int} {r : List (List Nat)} (gd : goodM n r = true) : (columnM n r me).length ≤ r.length := by
  unfold columnM
  split
  · simp [colM]
  · simp
theorem spec_ECan (E : En L h p n me m g) (ok : EnOk n me m g) (from' : Int) (num : Nat) {b : Value} {bs : List UInt8} (sb : SB h b bs) (hb : bs.length < 2 ^ 38) :
    ∃ h', evC Try.prog 31 #[.pointer (some ⟨p, 0, none⟩), .int .i64 from', .int .u64 num, b] h = some (.bool (canE n me g from' bs), h') ∧ HExt h h' := by
  rw [call31, c31_0_eq]
  obtain ⟨rv, gv, E⟩ := E
  have E0 := E.same (h' := nm h) ⟨Nat.le_refl _, fun _ _ => rfl⟩
  obtain ⟨wv, h2, e2, x2, a2⟩ := spec_Read (n := n) (b := b) (bs := bs) sb.nm hb
  have i2 : In h.blks.length No (nm h) h2 := x2.inn (Nat.le_refl _)
  obtain ⟨wa, wc, rfl⟩ := a2.shape
  have k3 := alM h2
  have k3' := mvar (h := h2) (readV n (readM n bs)) wa ((readM n bs).getD []).length wc
  have c3 := mvar_cells h2 [.int .i64 0, .slice none 0 0] [.int .i64 (readV n (readM n bs)), .slice wa ((readM n bs).getD []).length wc] 29
  have s3 := mvar_same h2 (.cells [.int .i64 0, .slice none 0 0]) (.cells [.int .i64 (readV n (readM n bs)), .slice wa ((readM n bs).getD []).length wc]) 29
  have i3 := i2.trans (mvar_in (h := h2) i2.len (.cells [.int .i64 0, .slice none 0 0]) (.cells [.int .i64 (readV n (readM n bs)), .slice wa ((readM n bs).getD []).length wc]) 29)
  generalize (h2.new (.cells [.int .i64 0, .slice none 0 0]) 29).put h2.blks.length (.cells [.int .i64 (readV n (readM n bs)), .slice wa ((readM n bs).getD []).length wc]) = h3 at *
  have E3 := E.same i3.same0
  have m3 := a2.smV.same s3
  cases hr : readM n bs with
  | none =>
    rw [hr] at e2
    rw [hr] at k3'
    rw [show (none : Option (List (List Nat))).isSome = false from rfl] at e2
    have ec : canE n me g from' bs = false := by unfold canE; rw [hr]
    rw [ec]
    simp -implicitDefEqProofs (disch := omega) only [dcT, dcF, faE0, mldInt, E0.l0, e2, k3, k3', ↓ret31, ↓cnd_true, ↓cnd_false, ↓Option.bind_some, ↓obH_some', bin_add, bin_sub, bin_mul, bin_lss, bin_leq, bin_gtr, bin_geq, bin_eql, bin_neq, un_not, un_neg, Option.bind_some, Option.bind_none, Option.map_some, cnd_true, cnd_false, pickV_true, pickV_false, gd_true, gd_false, gdV_true, gdV_false, gdH_true, gdH_false, gdS_true, gdS_false, wt_ff, wt_tt, wt_ft, wt_tf, wt_undef, obH_some', extractV_tuple, nilCheckV_ptr, againK_normal, againK_exit, againK_ret, blockK_normal, blockK_same, blockK_ret, seqK_normal, seqK_exit, seqK_ret, fin_done, if_true', if_false', Bool.not_true, Bool.not_false, idx0, idx1, idx2, idx3, idx4, chk_nil_l, chk_nil_r, done_nm]
    exact ⟨_, rfl, done_ext' i3⟩
  | some r =>
    have hg := readM_good hr
    rw [hr] at e2 k3' m3 c3
    rw [show (some r : Option (List (List Nat))).isSome = true from rfl, show readV n (some r) = n from rfl] at e2
    rw [show readV n (some r) = n from rfl] at k3' c3
    rw [show (some r).getD [] = r from rfl] at e2 k3' m3 c3
    have ec : canE n me g from' bs = (decide (0 ≤ from' ∧ from' < n ∧ from' ≠ me) && canCol g (columnM n r me)) := by unfold canE; rw [hr]
    rw [ec]
    by_cases h1 : 0 ≤ from'
    · by_cases h2 : from' < n
      · by_cases h3' : from' = me
        · rw [decide_eq_false (fun x => x.2.2 h3'), Bool.false_and]
          simp -implicitDefEqProofs (disch := omega) only [dcT, dcF, faE0, faE1, mldInt, E0.l0, e2, k3, k3', E3.l0, E3.l1, ↓ret31, ↓cnd_true, ↓cnd_false, ↓Option.bind_some, ↓obH_some', bin_add, bin_sub, bin_mul, bin_lss, bin_leq, bin_gtr, bin_geq, bin_eql, bin_neq, un_not, un_neg, Option.bind_some, Option.bind_none, Option.map_some, cnd_true, cnd_false, pickV_true, pickV_false, gd_true, gd_false, gdV_true, gdV_false, gdH_true, gdH_false, gdS_true, gdS_false, wt_ff, wt_tt, wt_ft, wt_tf, wt_undef, obH_some', extractV_tuple, nilCheckV_ptr, againK_normal, againK_exit, againK_ret, blockK_normal, blockK_same, blockK_ret, seqK_normal, seqK_exit, seqK_ret, fin_done, if_true', if_false', Bool.not_true, Bool.not_false, idx0, idx1, idx2, idx3, idx4, chk_nil_l, chk_nil_r, done_nm]
          exact ⟨_, rfl, done_ext' i3⟩
        · rw [decide_eq_true (show 0 ≤ from' ∧ from' < n ∧ from' ≠ me from ⟨h1, h2, h3'⟩), Bool.true_and]
          have hgi := (goodM_iff n r).1 hg.1
          obtain ⟨ca, cc, h5, e5, x5, a5⟩ := spec_Column (n := n) m3 (by have := hgi.1; omega) me
          have hlc := columnM_len (me := me) hg.1
          have := can_loop (h0 := h) (E3.ext x5) a5.su (by have := ok.gl; omega) (by have := ok.gl; omega) (columnM n r me).length 0 (by omega)
          rw [canColF_zero, show ((0 : Nat) : Int) = 0 from rfl] at this
          have ln := a5.su.row.len_eq etV.under
          simp -implicitDefEqProofs (disch := omega) only [dcT, dcF, faE0, faE1, mldInt, E0.l0, e2, k3, k3', E3.l0, E3.l1, ldM' c3, e5, ln, ↓cnd_true, ↓cnd_false, ↓Option.bind_some, ↓obH_some', bin_add, bin_sub, bin_mul, bin_lss, bin_leq, bin_gtr, bin_geq, bin_eql, bin_neq, un_not, un_neg, Option.bind_some, Option.bind_none, Option.map_some, cnd_true, cnd_false, pickV_true, pickV_false, gd_true, gd_false, gdV_true, gdV_false, gdH_true, gdH_false, gdS_true, gdS_false, wt_ff, wt_tt, wt_ft, wt_tf, wt_undef, obH_some', extractV_tuple, nilCheckV_ptr, againK_normal, againK_exit, againK_ret, blockK_normal, blockK_same, blockK_ret, seqK_normal, seqK_exit, seqK_ret, fin_done, if_true', if_false', Bool.not_true, Bool.not_false, idx0, idx1, idx2, idx3, idx4, chk_nil_l, chk_nil_r, done_nm]
          exact ⟨_, this _ _ _ _ _ _ _ _ _ _ _ _ _ _ _ _ _ _ _ _ _ _ _ _ _ _ _ _ _ _ _ _ _ _ _ _ _ _ _ _ _ _ _ _ _ _ _ _ _ _ _ _ _ _ _ _ _ _ _ _ _ _, done_ext' (i3.trans (x5.inn i3.len))⟩
      · rw [decide_eq_false (fun x => h2 x.2.1), Bool.false_and]
        simp -implicitDefEqProofs (disch := omega) only [dcT, dcF, faE0, faE1, mldInt, E0.l0, e2, k3, k3', E3.l0, E3.l1, ↓ret31, ↓cnd_true, ↓cnd_false, ↓Option.bind_some, ↓obH_some', bin_add, bin_sub, bin_mul, bin_lss, bin_leq, bin_gtr, bin_geq, bin_eql, bin_neq, un_not, un_neg, Option.bind_some, Option.bind_none, Option.map_some, cnd_true, cnd_false, pickV_true, pickV_false, gd_true, gd_false, gdV_true, gdV_false, gdH_true, gdH_false, gdS_true, gdS_false, wt_ff, wt_tt, wt_ft, wt_tf, wt_undef, obH_some', extractV_tuple, nilCheckV_ptr, againK_normal, againK_exit, againK_ret, blockK_normal, blockK_same, blockK_ret, seqK_normal, seqK_exit, seqK_ret, fin_done, if_true', if_false', Bool.not_true, Bool.not_false, idx0, idx1, idx2, idx3, idx4, chk_nil_l, chk_nil_r, done_nm]
        exact ⟨_, rfl, done_ext' i3⟩
    · rw [decide_eq_false (fun x => h1 x.1), Bool.false_and]
      simp -implicitDefEqProofs (disch := omega) only [dcT, dcF, faE0, faE1, mldInt, E0.l0, e2, k3, k3', E3.l0, E3.l1, ↓ret31, ↓cnd_true, ↓cnd_false, ↓Option.bind_some, ↓obH_some', bin_add, bin_sub, bin_mul, bin_lss, bin_leq, bin_gtr, bin_geq, bin_eql, bin_neq, un_not, un_neg, Option.bind_some, Option.bind_none, Option.map_some, cnd_true, cnd_false, pickV_true, pickV_false, gd_true, gd_false, gdV_true, gdV_false, gdH_true, gdH_false, gdS_true, gdS_false, wt_ff, wt_tt, wt_ft, wt_tf, wt_undef, obH_some', extractV_tuple, nilCheckV_ptr, againK_normal, againK_exit, againK_ret, blockK_normal, blockK_same, blockK_ret, seqK_normal, seqK_exit, seqK_ret, fin_done, if_true', if_false', Bool.not_true, Bool.not_false, idx0, idx1, idx2, idx3, idx4, chk_nil_l, chk_nil_r, done_nm]
      exact ⟨_, rfl, done_ext' i3⟩
theorem goodM_up {n : Int} {m : List (List Nat)} (gd : goodM n m = true) (i : Int) (to : Nat) : goodM n (upM n m i to) = true := by
  unfold upM
  split
  · rename_i hc
    have hg := (goodM_iff n m).1 gd
    refine (goodM_iff n _).2 ⟨⟨hg.1.1, hg.1.2.1, by rw [List.length_set]; exact hg.1.2.2⟩, fun r hr => ?_⟩
    rcases List.mem_or_eq_of_mem_set hr with h | rfl
    · exact hg.2 r h
    · rw [up1_len]; exact goodM_rows gd (by omega)
  · exact gd
/-- what a Take makes of an engine -/
def takeG (n me : Int) (g : List Nat) (from' : Int) (bs : List UInt8) : List Nat := if canE n me g from' bs = true then (upV g from').1 else g
def takeM (n me : Int) (m : List (List Nat)) (g : List Nat) (from' : Int) (to : Nat) (bs : List UInt8) : List (List Nat) := if canE n me g from' bs = true then joinM m (upM n ((readM n bs).getD []) from' to) else m
theorem spec_ETake (E : En L h p n me m g) (hL : L ≤ h.blks.length) (ok : EnOk n me m g) (from' : Int) (num to : Nat) (hto : to < 2 ^ 64) {b : Value} {bs : List UInt8} (sb : SB h b bs) (hb : bs.length < 2 ^ 38) :
    ∃ h', evC Try.prog 30 #[.pointer (some ⟨p, 0, none⟩), .int .i64 from', .int .u64 num, .int .u64 to, b] h = some (.bool (canE n me g from' bs), h') ∧ HMod (Just p) h h' ∧ En L h' p n me (takeM n me m g from' to bs) (takeG n me g from' bs) := by
  rw [call30, c30_0_eq]
  have E0 := E.nm
  obtain ⟨h1, e1, x1⟩ := spec_ECan E0 ok from' num sb.nm hb
  have i1 : In h.blks.length (Just p) (nm h) h1 := x1.inn (Nat.le_refl _)
  unfold takeM takeG
  cases hcan : canE n me g from' bs with
  | false =>
    rw [hcan] at e1
    simp -implicitDefEqProofs (disch := omega) only [e1, ↓ret30, ↓cnd_true, ↓cnd_false, ↓Option.bind_some, ↓obH_some', bin_add, bin_sub, bin_mul, bin_lss, bin_leq, bin_gtr, bin_geq, bin_eql, bin_neq, un_not, un_neg, Option.bind_some, Option.bind_none, Option.map_some, cnd_true, cnd_false, pickV_true, pickV_false, gd_true, gd_false, gdV_true, gdV_false, gdH_true, gdH_false, gdS_true, gdS_false, wt_ff, wt_tt, wt_ft, wt_tf, wt_undef, obH_some', extractV_tuple, nilCheckV_ptr, againK_normal, againK_exit, againK_ret, blockK_normal, blockK_same, blockK_ret, seqK_normal, seqK_exit, seqK_ret, fin_done, if_true', if_false', Bool.not_true, Bool.not_false, idx0, idx1, idx2, idx3, idx4, chk_nil_l, chk_nil_r, done_nm]
    exact ⟨_, rfl, done_mod i1, (E0.ext x1).done⟩
  | true =>
    rw [hcan] at e1
    obtain ⟨r, hr, hfrom⟩ : ∃ r, readM n bs = some r ∧ 0 ≤ from' ∧ from' < n := by
      unfold canE at hcan
      cases hr : readM n bs with
      | none => rw [hr] at hcan; cases hcan
      | some r =>
        rw [hr] at hcan
        simp only [Bool.and_eq_true, decide_eq_true_eq] at hcan
        exact ⟨r, rfl, hcan.1.1, hcan.1.2.1⟩
    have hg := readM_good hr
    rw [hr]
    rw [show (some r).getD [] = r from rfl]
    obtain ⟨rv, gv, E⟩ := E
    have E1 := (E.same (h' := nm h) ⟨Nat.le_refl _, fun _ _ => rfl⟩).ext x1
    have sb1 : SB h1 b bs := sb.nm.same x1.same
    obtain ⟨wv, h2, e2, x2, a2⟩ := spec_Read (n := n) (b := b) (bs := bs) sb1 hb
    rw [hr] at e2 a2
    rw [show (some r : Option (List (List Nat))).isSome = true from rfl, show readV n (some r) = n from rfl] at e2
    rw [show (some r).getD [] = r from rfl] at a2
    have i2 := i1.trans (x2.inn i1.len)
    obtain ⟨wa, wc, rfl⟩ := a2.shape
    have k3 := alM h2
    have k3' := mvar (h := h2) n wa r.length wc
    have c3 := mvar_cells h2 [.int .i64 0, .slice none 0 0] [.int .i64 n, .slice wa r.length wc] 29
    have s3 := mvar_same h2 (.cells [.int .i64 0, .slice none 0 0]) (.cells [.int .i64 n, .slice wa r.length wc]) 29
    have i3 := i2.trans (show In h.blks.length (Just p) h2 _ from (In.new i2.len (.cells [.int .i64 0, .slice none 0 0]) 29).trans (In.put (Nat.le_trans i2.len (Same.new h2 (.cells [.int .i64 0, .slice none 0 0]) 29).1) (.inl i2.len) (.cells [.int .i64 n, .slice wa r.length wc])))
    have lm : p < h2.blks.length := Nat.lt_of_lt_of_le E1.lt x2.len
    have hne3 : h2.blks.length ≠ p := by omega
    have pL : h.blks.length ≤ h2.blks.length := i2.len
    generalize hq : h2.blks.length = q3 at *
    generalize (h2.new (.cells [.int .i64 0, .slice none 0 0]) 29).put q3 (.cells [.int .i64 n, .slice wa r.length wc]) = h3 at *
    have E3 := (E1.ext x2).same s3
    have a3 := a2.same s3
    obtain ⟨ua, uc, h4, e4, x4, a4⟩ := spec_Up h3 gv g E3.au.su (by have := ok.gl; have := (goodM_iff n m).1 ok.gd; omega) ok.g64 from'
    have i4 := i3.trans (x4.inn i3.len)
    have E4 := E3.ext x4
    have c4 := c3.ext x4
    have a34 := a3.same x4.same
    have st5 := storeN_blk E4.c (o := 4) (vs := [.slice ua (upV g from').1.length uc]) (by simp)
    rw [show List.take 4 [Value.int .i64 n, .int .i64 me, .int .i64 n, rv, gv] ++ [Value.slice ua (upV g from').1.length uc] ++ List.drop (4 + [Value.slice ua (upV g from').1.length uc].length) [Value.int .i64 n, .int .i64 me, .int .i64 n, rv, gv] = [.int .i64 n, .int .i64 me, .int .i64 n, rv, .slice ua (upV g from').1.length uc] from rfl] at st5
    have pu : ∀ {h : Heap} {v : Value} {l : List Nat} {n0 p : Nat} {cs : List Value} (body : Body), Cells h p 127 cs → AU n0 h v l → AU n0 (h.put p body) v l := fun {h v l n0 p cs} body c a => a.keep fun b _ hv => Heap.put_other (fun e => by
      subst e
      obtain ⟨all, h1⟩ := a.blk hv
      unfold Cells at c
      rw [c] at h1
      simp only [Option.some.injEq, Blk.mk.injEq] at h1
      exact absurd h1.2.1 (by decide)) _
    have l3L : L ≤ h3.blks.length := Nat.le_trans hL i3.len
    have am5 := E4.am.put E4.c (by decide) (by decide) (.cells [.int .i64 n, .int .i64 me, .int .i64 n, rv, .slice ua (upV g from').1.length uc])
    have au5 := pu (.cells [.int .i64 n, .int .i64 me, .int .i64 n, rv, .slice ua (upV g from').1.length uc]) E4.c (a4.up (n1 := L) l3L)
    have E5 : EnC L (h4.put p (.cells [.int .i64 n, .int .i64 me, .int .i64 n, rv, .slice ua (upV g from').1.length uc])) p n me rv (.slice ua (upV g from').1.length uc) m (upV g from').1 := ⟨E4.c.put _, am5, au5⟩
    have i5 : In h.blks.length (Just p) h4 _ := In.put i4.len (.inr (show Just p p from rfl)) (.cells [.int .i64 n, .int .i64 me, .int .i64 n, rv, .slice ua (upV g from').1.length uc])
    have i5 := i4.trans i5
    have c5 := c4.keepPut (q := p) (by omega) (.cells [.int .i64 n, .int .i64 me, .int .i64 n, rv, .slice ua (upV g from').1.length uc])
    have a5 := a34.put E4.c (by decide) (by decide) (.cells [.int .i64 n, .int .i64 me, .int .i64 n, rv, .slice ua (upV g from').1.length uc])
    generalize h4.put p (.cells [.int .i64 n, .int .i64 me, .int .i64 n, rv, .slice ua (upV g from').1.length uc]) = h5 at *
    obtain ⟨jv, h6, e6, x6, a6⟩ := spec_MUp (h := nm h5) (n := n) (a5.smV.nm) (goodM_small hg.1) hg.2 from' to hto
    obtain ⟨x6', m6⟩ := x6.amx
    have E6 := E5.ext x6'
    have a6' : AM 53 h5.blks.length (am h6 h5) jv (upM n r from' to) := a6.kp fun _ _ _ _ _ _ => rfl
    have gu := goodM_up (n := n) (m := r) hg.1 from' to
    obtain ⟨ov, h7, e7, x7, a7⟩ := spec_MJoin (n := n) (n2 := n) E6.am.smV a6'.smV (goodM_small ok.gd) (goodM_small gu)
    rw [if_pos (okJ_of ok.gd gu), if_pos (okJ_of ok.gd gu)] at e7
    rw [if_pos (okJ_of ok.gd gu)] at a7
    obtain ⟨oa, oc, rfl⟩ := a7.shape
    have E7 := E6.ext x7
    have i6 := i5.trans (x6'.inn i5.len)
    have i7 := i6.trans (x7.inn i6.len)
    have st8 := storeN_blk E7.c (o := 2) (vs := [.int .i64 n, .slice oa (joinM m (upM n r from' to)).length oc]) (by simp)
    rw [show List.take 2 [Value.int .i64 n, .int .i64 me, .int .i64 n, rv, .slice ua (upV g from').1.length uc] ++ [Value.int .i64 n, .slice oa (joinM m (upM n r from' to)).length oc] ++ List.drop (2 + [Value.int .i64 n, .slice oa (joinM m (upM n r from' to)).length oc].length) [Value.int .i64 n, .int .i64 me, .int .i64 n, rv, .slice ua (upV g from').1.length uc] = [.int .i64 n, .int .i64 me, .int .i64 n, .slice oa (joinM m (upM n r from' to)).length oc, .slice ua (upV g from').1.length uc] from rfl] at st8
    have am8 := (a7.up (n1 := L) (Nat.le_trans hL i6.len)).put E7.c (by decide) (by decide) (.cells [.int .i64 n, .int .i64 me, .int .i64 n, .slice oa (joinM m (upM n r from' to)).length oc, .slice ua (upV g from').1.length uc])
    have au8 := pu (.cells [.int .i64 n, .int .i64 me, .int .i64 n, .slice oa (joinM m (upM n r from' to)).length oc, .slice ua (upV g from').1.length uc]) E7.c E7.au
    simp -implicitDefEqProofs (disch := omega) only [dcT, dcF, e1, faE0, mldInt, E1.l0, e2, k3, k3', faE3, ldVv, E3.l4, e4, stVv, st5, faE2, E5.ldm, ldM' c5, e6, e7, stMo, st8, m6, List.append_nil, ↓ret30, ↓cnd_true, ↓cnd_false, ↓Option.bind_some, ↓obH_some', bin_add, bin_sub, bin_mul, bin_lss, bin_leq, bin_gtr, bin_geq, bin_eql, bin_neq, un_not, un_neg, Option.bind_some, Option.bind_none, Option.map_some, cnd_true, cnd_false, pickV_true, pickV_false, gd_true, gd_false, gdV_true, gdV_false, gdH_true, gdH_false, gdS_true, gdS_false, wt_ff, wt_tt, wt_ft, wt_tf, wt_undef, obH_some', extractV_tuple, nilCheckV_ptr, againK_normal, againK_exit, againK_ret, blockK_normal, blockK_same, blockK_ret, seqK_normal, seqK_exit, seqK_ret, fin_done, if_true', if_false', Bool.not_true, Bool.not_false, idx0, idx1, idx2, idx3, idx4, chk_nil_l, chk_nil_r, done_nm]
    exact ⟨_, rfl, done_mod (i7.trans (In.put i7.len (.inr (show Just p p from rfl)) _)), En.done ⟨_, _, ⟨E7.c.put _, am8, au8⟩⟩⟩
end Go.Am
namespace Go.Am
open Go.Proofs
set_option maxRecDepth 100000
set_option linter.all false
attribute [local congr] obind_congr obH_congr cnd_congr chk_congr retK_congr codeK_congr
theorem up1_lt {to k : Nat} {r : List Nat} (h : ∀ y ∈ r, y < 2 ^ 64) : ∀ y ∈ up1 to k r, y < 2 ^ 64 := by
  intro y hy
  obtain ⟨j, hj, rfl⟩ := List.getElem_of_mem hy
  rw [up1_len] at hj
  have hg := up1_get to k r j hj
  have := getD_lt r h j
  rw [List.getD_eq_getElem?_getD, List.getElem?_eq_getElem (by rw [up1_len]; exact hj)] at hg
  simp only [Option.getD_some] at hg
  rw [hg]
  split
  · rename_i hc; omega
  · exact this
theorem upM_lt {n : Int} {m : List (List Nat)} (h : ∀ r ∈ m, ∀ y ∈ r, y < 2 ^ 64) (i : Int) (to : Nat) : ∀ r ∈ upM n m i to, ∀ y ∈ r, y < 2 ^ 64 := by
  unfold upM
  split
  · intro r hr
    rcases List.mem_or_eq_of_mem_set hr with h' | rfl
    · exact h r h'
    · refine up1_lt fun y hy => ?_
      rw [List.getD_eq_getElem?_getD] at hy
      cases e : m[i.toNat]? with
      | none => rw [e] at hy; simp at hy
      | some x => rw [e] at hy; exact h x (List.mem_of_getElem? e) y hy
  · exact h
theorem joinV_lt {a b : List Nat} (ha : ∀ y ∈ a, y < 2 ^ 64) (hb : ∀ y ∈ b, y < 2 ^ 64) : ∀ y ∈ joinV a b, y < 2 ^ 64 := by
  intro y hy
  obtain ⟨j, hj, rfl⟩ := List.getElem_of_mem hy
  have hg := joinV_get a b j
  have h1 := getD_lt a ha j
  have h2 := getD_lt b hb j
  rw [List.getD_eq_getElem?_getD, List.getElem?_eq_getElem hj] at hg
  simp only [Option.getD_some] at hg
  omega
theorem getD_row {m : List (List Nat)} (h : ∀ r ∈ m, ∀ y ∈ r, y < 2 ^ 64) (k : Nat) : ∀ y ∈ m.getD k [], y < 2 ^ 64 := by
  intro y hy
  rw [List.getD_eq_getElem?_getD] at hy
  cases e : m[k]? with
  | none => rw [e] at hy; simp at hy
  | some x => rw [e] at hy; exact h x (List.mem_of_getElem? e) y hy
theorem joinM_lt {a b : List (List Nat)} (ha : ∀ r ∈ a, ∀ y ∈ r, y < 2 ^ 64) (hb : ∀ r ∈ b, ∀ y ∈ r, y < 2 ^ 64) : ∀ r ∈ joinM a b, ∀ y ∈ r, y < 2 ^ 64 := by
  intro r hr
  obtain ⟨k, hk, rfl⟩ := List.getElem_of_mem hr
  rw [joinM_len] at hk
  have := joinM_get a b k hk
  rw [List.getD_eq_getElem?_getD, List.getElem?_eq_getElem (by rw [joinM_len]; exact hk)] at this
  simp only [Option.getD_some] at this
  rw [this]
  exact joinV_lt (getD_row ha k) (getD_row hb k)
/-- one more of one: at most one place, at most one more -/
theorem upV_one {g : List Nat} (hg : ∀ y ∈ g, y < 2 ^ 64) {i : Int} (h0 : 0 ≤ i) (hi : i < g.length) (hl : g.length ≤ 16) :
    (upV g i).1.length = g.length ∧ (∀ y ∈ (upV g i).1, y < 2 ^ 64) ∧ ∃ d : Nat, d ≤ 1 ∧ ∀ j, (upV g i).1.getD j 0 = g.getD j 0 + (if j = i.toNat then d else 0) := by
  obtain ⟨i, rfl⟩ : ∃ k : Nat, i = k := ⟨i.toNat, by omega⟩
  unfold upV
  by_cases hc : (i : Int) < 0 ∨ 64 ≤ (i : Int) ∨ atI g i = 2 ^ 64 - 1
  · rw [if_pos hc]; exact ⟨rfl, hg, 0, by omega, fun j => by simp⟩
  · rw [if_neg hc]
    have hlong : longV g (i + 1) = g := by
      unfold longV
      rw [show i + 1 - g.length = 0 by omega]; simp
    have hat : atI g i = g.getD i 0 := by unfold atI; rw [if_neg (by omega), Int.toNat_natCast]
    have h64 := getD_lt g hg i
    simp only [Int.toNat_natCast, hlong]
    rw [hat] at hc ⊢
    refine ⟨by simp, fun y hy => ?_, 1, by omega, fun j => ?_⟩
    · rcases List.mem_or_eq_of_mem_set hy with h | rfl
      · exact hg y h
      · omega
    · rw [set_getD _ _ _ _ (by omega)]
      by_cases h : j = i
      · subst h; rw [if_pos rfl, if_pos rfl]
      · rw [if_neg h, if_neg h, Nat.add_zero]
variable {n me : Int} {m : List (List Nat)} {g : List Nat}
theorem EnOk.n16 (ok : EnOk n me m g) : 1 ≤ n ∧ n ≤ 16 := by have := (goodM_iff n m).1 ok.gd; exact ⟨this.1.1, this.1.2.1⟩
theorem EnOk.send (ok : EnOk n me m g) (to : Nat) : EnOk n me (upM n m me to) g := ⟨goodM_up ok.gd _ _, ok.me0, ok.men, ok.gl, upM_lt ok.m64 _ _, ok.g64⟩
theorem canE_some {from' : Int} {bs : List UInt8} (h : canE n me g from' bs = true) : ∃ r, readM n bs = some r ∧ 0 ≤ from' ∧ from' < n ∧ from' ≠ me ∧ canCol g (columnM n r me) = true := by
  unfold canE at h
  cases hr : readM n bs with
  | none => rw [hr] at h; cases h
  | some r =>
    rw [hr] at h
    simp only [Bool.and_eq_true, decide_eq_true_eq] at h
    exact ⟨r, rfl, h.1.1, h.1.2.1, h.1.2.2, h.2⟩
theorem EnOk.take (ok : EnOk n me m g) (from' : Int) (to : Nat) (bs : List UInt8) : EnOk n me (takeM n me m g from' to bs) (takeG n me g from' bs) := by
  unfold takeM takeG
  split
  · rename_i hc
    obtain ⟨r, hr, h0, h1, _⟩ := canE_some hc
    have hg := readM_good hr
    have hn := ok.n16
    have hu := upV_one ok.g64 h0 (by have := ok.gl; omega) (by have := ok.gl; omega)
    rw [hr]
    exact ⟨goodM_join ok.gd (goodM_up hg.1 _ _), ok.me0, ok.men, by rw [hu.1]; exact ok.gl, joinM_lt ok.m64 (upM_lt hg.2 _ _), hu.2.1⟩
  · exact ok
theorem EnOk.zero (hn : 1 ≤ n ∧ n ≤ 16 ∧ 0 ≤ me ∧ me < n) : EnOk n me (zerosM n.toNat) (List.replicate n.toNat 0) := by
  have e : zerosM n.toNat = List.replicate n.toNat (List.replicate n.toNat 0) := rfl
  refine ⟨(goodM_iff n _).2 ⟨⟨hn.1, hn.2.1, by rw [e, List.length_replicate]; omega⟩, fun r hr => ?_⟩, hn.2.2.1, hn.2.2.2, by simp; omega, fun r hr y hy => ?_, fun y hy => ?_⟩
  · rw [e] at hr; rw [(List.mem_replicate.1 hr).2, List.length_replicate]; omega
  · rw [e] at hr; rw [(List.mem_replicate.1 hr).2] at hy; rw [(List.mem_replicate.1 hy).2]; omega
  · rw [(List.mem_replicate.1 hy).2]; omega
theorem within_of {a b : List (List Nat)} (ga : goodM n a = true) (gb : goodM n b = true) (h : ∀ k j, (a.getD k []).getD j 0 ≤ (b.getD k []).getD j 0) : withinM n n a b = true := by
  unfold withinM okJ
  rw [ga, gb, decide_eq_true rfl, wiM_of]
  · rfl
  · intro k _ hk
    unfold wi1
    exact decide_eq_true (cmpV_le fun j => h k j)
theorem within_upM (gd : goodM n m = true) (i : Int) (to : Nat) : withinM n n m (upM n m i to) = true := by
  refine within_of gd (goodM_up gd i to) fun k j => ?_
  unfold upM
  split
  · rename_i hc
    have hg := (goodM_iff n m).1 gd
    by_cases hk : k = i.toNat
    · subst hk
      rw [lset_getD (by omega)]
      by_cases hj : j < (m.getD i.toNat []).length
      · rw [up1_get _ _ _ _ hj]; split <;> omega
      · have : (m.getD i.toNat []).getD j 0 = 0 := by rw [List.getD_eq_getElem?_getD, List.getElem?_eq_none (by omega)]; rfl
        omega
    · have : (m.set i.toNat (up1 to n.toNat (m.getD i.toNat []))).getD k [] = m.getD k [] := by
        rw [List.getD_eq_getElem?_getD, List.getElem?_set_ne (Ne.symm hk), List.getD_eq_getElem?_getD]
      rw [this]; exact Nat.le_refl _
  · exact Nat.le_refl _
theorem within_takeM (ok : EnOk n me m g) (from' : Int) (to : Nat) (bs : List UInt8) : withinM n n m (takeM n me m g from' to bs) = true := by
  unfold takeM
  split
  · rename_i hc
    obtain ⟨r, hr, _⟩ := canE_some hc
    rw [hr]
    exact within_join ok.gd (goodM_up (readM_good hr).1 _ _)
  · exact within_of ok.gd ok.gd fun k j => Nat.le_refl _
theorem takeG_one (ok : EnOk n me m g) (from' : Int) (bs : List UInt8) : (takeG n me g from' bs).length = g.length ∧ ∃ q d : Nat, d ≤ 1 ∧ ∀ j, (takeG n me g from' bs).getD j 0 = g.getD j 0 + (if j = q then d else 0) := by
  unfold takeG
  split
  · rename_i hc
    obtain ⟨r, hr, h0, h1, _⟩ := canE_some hc
    have hn := ok.n16
    have hu := upV_one ok.g64 h0 (by have := ok.gl; omega) (by have := ok.gl; omega)
    exact ⟨hu.1, from'.toNat, hu.2.2⟩
  · exact ⟨rfl, 0, 0, by omega, fun j => by simp⟩
end Go.Am
namespace Go.Am
open Go.Proofs
set_option maxRecDepth 100000
set_option linter.all false
attribute [local congr] obind_congr obH_congr cnd_congr chk_congr retK_congr codeK_congr
def mS (n f t i : Nat) : List (List Nat) := (zerosM n).set f ((List.replicate n 0).set t i)
def gS (n f i : Nat) : List Nat := (List.replicate n 0).set f i
theorem allR {n : Nat} {p : Nat → Bool} (h : (List.range n).all p = true) : ∀ i, i < n → p i = true := fun i hi => List.all_eq_true.1 h i (List.mem_range.2 hi)
def chkO (n f t i : Nat) : Bool := decide (f = t) ||
  (decide (upM n (mS n f t i) f (2 ^ t) = mS n f t (i + 1)) && (decide (toE n f (2 ^ t) = 2 ^ t) && (decide (pop (2 ^ t) = 1) && (goodM n (mS n f t i) && ((mS n f t i).all (fun r => r.all fun y => decide (y < 2 ^ 64)) &&
  (canCol (gS n f i) (columnM n (mS n f t i) t) && ((decide (i < 1) || !canCol (gS n f 0) (columnM n (mS n f t i) t)) && (decide ((upV (gS n f i) f).1 = gS n f (i + 1)) && (decide (gS n f 0 = List.replicate n 0) && (decide (mS n f t 0 = zerosM n) && (decide ((gS n f i).getD f 0 = i) && (decide ((gS n f i).length = n) && (gS n f i).all fun y => decide (y < 2 ^ 64)))))))))))))
theorem o_all : ((List.range 7).all fun n => (List.range n).all fun f => (List.range n).all fun t => (List.range 11).all fun i => chkO n f t i) = true := by decide +kernel
structure OrdF (n f t i : Nat) : Prop where
  up : upM n (mS n f t i) f (2 ^ t) = mS n f t (i + 1)
  to : toE n f (2 ^ t) = 2 ^ t
  pop : pop (2 ^ t) = 1
  gd : goodM n (mS n f t i) = true
  m64 : ∀ r ∈ mS n f t i, ∀ y ∈ r, y < 2 ^ 64
  can : canCol (gS n f i) (columnM n (mS n f t i) t) = true
  not : 1 ≤ i → canCol (gS n f 0) (columnM n (mS n f t i) t) = false
  upV : (upV (gS n f i) f).1 = gS n f (i + 1)
  g0 : gS n f 0 = List.replicate n 0
  m0 : mS n f t 0 = zerosM n
  get : (gS n f i).getD f 0 = i
  len : (gS n f i).length = n
  g64 : ∀ y ∈ gS n f i, y < 2 ^ 64
theorem ordF {n f t i : Nat} (hn : n < 7) (hf : f < n) (ht : t < n) (hi : i < 11) (hne : f ≠ t) : OrdF n f t i := by
  have h := allR (allR (allR (allR o_all n hn) f hf) t ht) i hi
  unfold chkO at h
  rw [decide_eq_false hne, Bool.false_or] at h
  simp only [Bool.and_eq_true, decide_eq_true_eq, List.all_eq_true, Bool.or_eq_true, Bool.not_eq_true'] at h
  obtain ⟨h1, h2, h3, h4, h5, h6, h7, h8, h9, h10, h11, h12, h13⟩ := h
  exact ⟨h1, h2, h3, h4, h5, h6, fun hi => h7.resolve_left (by omega), h8, h9, h10, h11, h12, h13⟩
end Go.Am
namespace Go.Am
open Go.Proofs
set_option maxRecDepth 100000
set_option linter.all false
attribute [local congr] obind_congr obH_congr cnd_congr chk_congr retK_congr codeK_congr
theorem ABs.atA {n0 : Nat} {h : Heap} {v : Value} {l : List (List UInt8)} (a : ABs n0 h v l) {i : Nat} (hi : i < l.length) :
    ∃ ad x c, indexAddrV Try.prog 44 v (.int .i64 i) = some (.pointer (some ad)) ∧ loadV Try.prog 23 (.pointer (some ad)) h = some (.slice x (l.getD i []).length c) ∧ AB n0 h (.slice x (l.getD i []).length c) (l.getD i []) := by
  obtain ⟨vs, x⟩ := a
  obtain ⟨ad, e1, e2, _⟩ := (x.out.sl etBs.size).row.at1 etBs.under etBs.size (by kernel_rfl) hi .i64
  obtain ⟨y, hy, ay⟩ := x.rows.get' (i := i) (b := l[i]) (List.getElem?_eq_getElem hi)
  rw [hy] at e2
  rw [List.getD_eq_getElem?_getD, List.getElem?_eq_getElem hi]
  obtain ⟨aa, cc, rfl⟩ := ay.shape
  exact ⟨ad, aa, cc, e1, e2, ay⟩
theorem ABs.modE {n0 : Nat} {h h' : Heap} {v : Value} {l : List (List UInt8)} (a : ABs n0 h v l) {p : Nat} {cs : List Value} (c : Cells h p 127 cs) (e : HMod (Just p) h h') : ABs n0 h' v l :=
  let ⟨vs, x⟩ := a
  ⟨vs, x.kp fun b all ty hb ht _ => e.old b (List.getElem?_eq_some_iff.1 hb).1 fun hp => by
    have hp : b = p := hp
    subst hp
    unfold Cells at c
    rw [hb] at c
    simp only [Option.some.injEq, Blk.mk.injEq] at c
    rcases ht with ht | ht
    · exact absurd (c.2.1.symm.trans ht) (by decide)
    · exact absurd (c.2.1.symm.trans ht) (by decide)⟩
theorem En.cl {L : Nat} {h : Heap} {p : Nat} {n me : Int} {m : List (List Nat)} {g : List Nat} (E : En L h p n me m g) : ∃ cs, Cells h p 127 cs := let ⟨_, _, x⟩ := E; ⟨_, x.c⟩
theorem En.modE {L L2 : Nat} {h h' : Heap} {p q : Nat} {n me n2 me2 : Int} {m m2 : List (List Nat)} {g g2 : List Nat} (E : En L h p n me m g) (F : En L2 h q n2 me2 m2 g2) (hpq : p ≠ q) (e : HMod (Just q) h h') : En L h' p n me m g :=
  E.mod e (fun x => hpq x) fun b hb => by have hb : b = q := hb; subst hb; obtain ⟨cs, c⟩ := F.cl; exact ⟨_, _, c, by decide, by decide⟩
theorem En.kpT {L : Nat} {h h' : Heap} {p : Nat} {n me : Int} {m : List (List Nat)} {g : List Nat} (E : En L h p n me m g) {T : TypeId} (h1 : 127 ≠ T) (h2 : 53 ≠ T) (h3 : 46 ≠ T) (k : ∀ q ty cs, Cells h q ty cs → ty ≠ T → Cells h' q ty cs) : En L h' p n me m g := let ⟨_, _, x⟩ := E; ⟨_, _, x.kpT h1 h2 h3 k⟩
def lS (n f t k : Nat) : List (List UInt8) := (List.range k).map fun i => stampM n (mS n f t i)
theorem lS_succ (n f t k : Nat) : lS n f t k ++ [stampM n (mS n f t k)] = lS n f t (k + 1) := by unfold lS; rw [List.range_succ, List.map_append]; rfl
theorem lS_len (n f t k : Nat) : (lS n f t k).length = k := by simp [lS]
theorem lS_get (n f t k i : Nat) (hi : i < k) : (lS n f t k).getD i [] = stampM n (mS n f t i) := by unfold lS; rw [List.getD_eq_getElem?_getD, List.getElem?_map, List.getElem?_range hi]; rfl
theorem ofL_one {t : Nat} (ht : t < 64) : ofL [(t : Int)] = 2 ^ t := by
  show or1 0 t = 2 ^ t
  unfold or1
  rw [if_pos (by omega), Int.toNat_natCast, Nat.zero_or]
theorem zlen (n : Nat) : (List.replicate n 0 : List Nat).length = n := List.length_replicate
theorem ord_ok {n f t i : Nat} (hn : n < 7) (hf : f < n) (ht : t < n) (hi : i < 11) (hne : f ≠ t) : EnOk n f (mS n f t i) (List.replicate n 0) :=
  ⟨(ordF hn hf ht hi hne).gd, by omega, by omega, by rw [zlen], (ordF hn hf ht hi hne).m64, fun y hy => by rw [(List.mem_replicate.1 hy).2]; omega⟩
theorem ord_send {Q : Option (Value × Heap) → Prop} {h0 : Heap} {L n f t many pa pb : Nat} {pk : Int} (hn : n < 7) (hf : f < n) (ht : t < n) (hne : f ≠ t) (hm : many ≤ 10) (hL : L ≤ h0.blks.length) (hpa : h0.blks.length ≤ pa) (hpb : h0.blks.length ≤ pb) (hab : pa ≠ pb) {mb : List (List Nat)} {gb : List Nat} (k : Ex → St → Option (Value × Heap)) :
    ∀ (mm i : Nat) (h : Heap) (v : Value), many = i + mm → En L h pa n f (mS n f t i) (List.replicate n 0) → En L h pb n t mb gb → ABs h0.blks.length h v (lS n f t i) → In h0.blks.length No (nm h0) h →
    (∀ h' v', En L h' pb n t mb gb → ABs h0.blks.length h' v' (lS n f t many) → In h0.blks.length No (nm h0) h' → ∀ (x5 x6 x7 x8 x9 x10 x11 x12 x14 x16 x17 x18 x19 x20 x21 x22 x23 x24 x25 x26 x27 x28 x29 x30 x31 x32 x33 x34 x35 x36 x37 x38 x39 x40 x41 x42 x43 x44 x45 x46 x47 x48 x49 x50 x51 x52 x53 x54 x55 x56 x57 x58 x59 x60 x61 x62 x63 x64 x65 x66 x67 x68 x69 x70 x71 x72 x73 x74 x75 x76 x77 x78 x79 x80 x81 x82 x83 x84 x85 x86 x87 x88 x89 x90 x91 x92 x93 x94 x95 x96 x97 x98 x99 x100 x101 x102 x103 x104 x105 x106 x107 x108 x109 x110 x111 x112 x113 x114 x115 x116 x117 x118 x119 x120 x121 x122 x123 x124 x125 x126 x127 x128 x129 x130 x131 x132 x133 x134 x135 x136 x137 x138 x139 x140 x141 x142 x143 x144 x145 x146 x147 x148 : Value), Q (k .normal ⟨#[.int .i64 n, .int .i64 f, .int .i64 t, .int .i64 many, .int .i64 pk, x5, x6, x7, x8, x9, x10, x11, x12, .pointer (some ⟨pb, 0, none⟩), x14, v', x16, x17, x18, x19, x20, x21, x22, x23, x24, x25, x26, x27, x28, x29, x30, x31, x32, x33, x34, x35, x36, x37, x38, x39, x40, x41, x42, x43, x44, x45, x46, x47, x48, x49, x50, x51, x52, x53, x54, x55, x56, x57, x58, x59, x60, x61, x62, x63, x64, x65, x66, x67, x68, x69, x70, x71, x72, x73, x74, x75, x76, x77, x78, x79, x80, x81, x82, x83, x84, x85, x86, x87, x88, x89, x90, x91, x92, x93, x94, x95, x96, x97, x98, x99, x100, x101, x102, x103, x104, x105, x106, x107, x108, x109, x110, x111, x112, x113, x114, x115, x116, x117, x118, x119, x120, x121, x122, x123, x124, x125, x126, x127, x128, x129, x130, x131, x132, x133, x134, x135, x136, x137, x138, x139, x140, x141, x142, x143, x144, x145, x146, x147, x148], h'⟩)) →
    ∀ (x5 x6 x7 x8 x9 x10 x12 x14 x17 x18 x19 x20 x21 x22 x23 x24 x25 x26 x27 x28 x29 x30 x31 x32 x33 x34 x35 x36 x37 x38 x39 x40 x41 x42 x43 x44 x45 x46 x47 x48 x49 x50 x51 x52 x53 x54 x55 x56 x57 x58 x59 x60 x61 x62 x63 x64 x65 x66 x67 x68 x69 x70 x71 x72 x73 x74 x75 x76 x77 x78 x79 x80 x81 x82 x83 x84 x85 x86 x87 x88 x89 x90 x91 x92 x93 x94 x95 x96 x97 x98 x99 x100 x101 x102 x103 x104 x105 x106 x107 x108 x109 x110 x111 x112 x113 x114 x115 x116 x117 x118 x119 x120 x121 x122 x123 x124 x125 x126 x127 x128 x129 x130 x131 x132 x133 x134 x135 x136 x137 x138 x139 x140 x141 x142 x143 x144 x145 x146 x147 x148 : Value), Q (loopK Try.prog (evC Try.prog) c6_1 ⟨#[.int .i64 n, .int .i64 f, .int .i64 t, .int .i64 many, .int .i64 pk, x5, x6, x7, x8, x9, x10, .pointer (some ⟨pa, 0, none⟩), x12, .pointer (some ⟨pb, 0, none⟩), x14, v, .int .i64 i, x17, x18, x19, x20, x21, x22, x23, x24, x25, x26, x27, x28, x29, x30, x31, x32, x33, x34, x35, x36, x37, x38, x39, x40, x41, x42, x43, x44, x45, x46, x47, x48, x49, x50, x51, x52, x53, x54, x55, x56, x57, x58, x59, x60, x61, x62, x63, x64, x65, x66, x67, x68, x69, x70, x71, x72, x73, x74, x75, x76, x77, x78, x79, x80, x81, x82, x83, x84, x85, x86, x87, x88, x89, x90, x91, x92, x93, x94, x95, x96, x97, x98, x99, x100, x101, x102, x103, x104, x105, x106, x107, x108, x109, x110, x111, x112, x113, x114, x115, x116, x117, x118, x119, x120, x121, x122, x123, x124, x125, x126, x127, x128, x129, x130, x131, x132, x133, x134, x135, x136, x137, x138, x139, x140, x141, x142, x143, x144, x145, x146, x147, x148], h⟩ (blockK 0 k)) := by
  intro mm
  induction mm with
  | zero =>
    intro i h v hi Ea Eb A hin hk x5 x6 x7 x8 x9 x10 x12 x14 x17 x18 x19 x20 x21 x22 x23 x24 x25 x26 x27 x28 x29 x30 x31 x32 x33 x34 x35 x36 x37 x38 x39 x40 x41 x42 x43 x44 x45 x46 x47 x48 x49 x50 x51 x52 x53 x54 x55 x56 x57 x58 x59 x60 x61 x62 x63 x64 x65 x66 x67 x68 x69 x70 x71 x72 x73 x74 x75 x76 x77 x78 x79 x80 x81 x82 x83 x84 x85 x86 x87 x88 x89 x90 x91 x92 x93 x94 x95 x96 x97 x98 x99 x100 x101 x102 x103 x104 x105 x106 x107 x108 x109 x110 x111 x112 x113 x114 x115 x116 x117 x118 x119 x120 x121 x122 x123 x124 x125 x126 x127 x128 x129 x130 x131 x132 x133 x134 x135 x136 x137 x138 x139 x140 x141 x142 x143 x144 x145 x146 x147 x148
    obtain rfl : many = i := by omega
    rw [loopK_eq evC_m, c6_1_eq]
    have := hk h v Eb A hin
    simp -implicitDefEqProofs (disch := omega) only [dcT, dcF, ↓cnd_true, ↓cnd_false, ↓Option.bind_some, ↓obH_some', bin_add, bin_sub, bin_mul, bin_lss, bin_leq, bin_gtr, bin_geq, bin_eql, bin_neq, un_not, un_neg, Option.bind_some, Option.bind_none, Option.map_some, cnd_true, cnd_false, pickV_true, pickV_false, gd_true, gd_false, gdV_true, gdV_false, gdH_true, gdH_false, gdS_true, gdS_false, wt_ff, wt_tt, wt_ft, wt_tf, wt_undef, obH_some', extractV_tuple, nilCheckV_ptr, againK_normal, againK_exit, againK_ret, blockK_normal, blockK_same, blockK_ret, seqK_normal, seqK_exit, seqK_ret, fin_done, if_true', if_false', Bool.not_true, Bool.not_false, idx0, idx1, idx2, idx3, idx4, chk_nil_l, chk_nil_r, done_nm]
    exact this _ _ _ _ _ _ _ _ _ _ _ _ _ _ _ _ _ _ _ _ _ _ _ _ _ _ _ _ _ _ _ _ _ _ _ _ _ _ _ _ _ _ _ _ _ _ _ _ _ _ _ _ _ _ _ _ _ _ _ _ _ _ _ _ _ _ _ _ _ _ _ _ _ _ _ _ _ _ _ _ _ _ _ _ _ _ _ _ _ _ _ _ _ _ _ _ _ _ _ _ _ _ _ _ _ _ _ _ _ _ _ _ _ _ _ _ _ _ _ _ _ _ _ _ _ _ _ _ _ _ _ _ _ _ _ _ _ _ _ _ _ _
  | succ mm ih =>
    intro i h v hi Ea Eb A hin hk x5 x6 x7 x8 x9 x10 x12 x14 x17 x18 x19 x20 x21 x22 x23 x24 x25 x26 x27 x28 x29 x30 x31 x32 x33 x34 x35 x36 x37 x38 x39 x40 x41 x42 x43 x44 x45 x46 x47 x48 x49 x50 x51 x52 x53 x54 x55 x56 x57 x58 x59 x60 x61 x62 x63 x64 x65 x66 x67 x68 x69 x70 x71 x72 x73 x74 x75 x76 x77 x78 x79 x80 x81 x82 x83 x84 x85 x86 x87 x88 x89 x90 x91 x92 x93 x94 x95 x96 x97 x98 x99 x100 x101 x102 x103 x104 x105 x106 x107 x108 x109 x110 x111 x112 x113 x114 x115 x116 x117 x118 x119 x120 x121 x122 x123 x124 x125 x126 x127 x128 x129 x130 x131 x132 x133 x134 x135 x136 x137 x138 x139 x140 x141 x142 x143 x144 x145 x146 x147 x148
    rw [loopK_eq evC_m, c6_1_eq]
    have F := ordF hn hf ht (i := i) (by omega) hne
    have hl : h0.blks.length ≤ h.blks.length := hin.len
    have k1 := mkI1 .i64 t h
    have si := litI1 h t
    have s1 := Same.new h (.cells [.int .i64 (t : Int)]) 3
    have i1 := hin.trans (In.new hl (.cells [.int .i64 (t : Int)]) 3)
    generalize h.new (.cells [.int .i64 (t : Int)]) 3 = h1 at *
    have e1 := spec_Of si (by simp)
    rw [ofL_one (by omega)] at e1
    have h2 : 2 ^ t < 2 ^ 64 := Nat.pow_lt_pow_right (by omega) (by omega)
    have l1 : h0.blks.length ≤ h1.blks.length := i1.len
    obtain ⟨sv, h2', e2, x2, Ea2, A2⟩ := spec_ESend (Ea.same s1) (by omega) (ord_ok hn hf ht (by omega) hne) (2 ^ t) h2
    rw [F.to, F.up] at Ea2
    rw [F.to, F.pop] at A2
    obtain ⟨csa, ca⟩ := (Ea.same s1).cl
    have Eb2 := (Eb.same s1).modE (Ea.same s1) (Ne.symm hab) x2
    have A3 := (A.same s1).modE ca x2
    have i2 := i1.trans (x2.inn l1 fun b hb e => by have : b = pa := e; omega)
    have ln := A2.len
    rw [show ((List.replicate 1 (stampM n (mS n f t i))).length : Int) = 1 by simp] at ln
    obtain ⟨ad, sx, sc, ea, ex, ab⟩ := A2.atA (i := 0) (by simp)
    rw [show (List.replicate 1 (stampM n (mS n f t i))).getD 0 [] = stampM n (mS n f t i) from rfl] at ex ab
    rw [show ((0 : Nat) : Int) = 0 from rfl] at ea
    obtain ⟨vs, A3⟩ := A3
    obtain ⟨a4, c4, h4, e4, A4, k4, o4⟩ := A3.app i2.len (ab.up l1) (by rw [lS_len]; omega)
    rw [lS_succ] at e4 A4
    have Ea4 := Ea2.kpT (by decide) (by decide) (by decide) o4
    have Eb4 := Eb2.kpT (by decide) (by decide) (by decide) o4
    have hw : IntKind.wrap .i64 ((i : Int) + 1) = ((i + 1 : Nat) : Int) := by rw [wrap_i64] <;> omega
    simp -implicitDefEqProofs (disch := omega) only [dcT, dcF, k1, e1, e2, ln, ea, ex, mkBs1, e4, hw, ne_eq, eq_self, not_true_eq_false, decide_false, ↓cnd_true, ↓cnd_false, ↓Option.bind_some, ↓obH_some', bin_add, bin_sub, bin_mul, bin_lss, bin_leq, bin_gtr, bin_geq, bin_eql, bin_neq, un_not, un_neg, Option.bind_some, Option.bind_none, Option.map_some, cnd_true, cnd_false, pickV_true, pickV_false, gd_true, gd_false, gdV_true, gdV_false, gdH_true, gdH_false, gdS_true, gdS_false, wt_ff, wt_tt, wt_ft, wt_tf, wt_undef, obH_some', extractV_tuple, nilCheckV_ptr, againK_normal, againK_exit, againK_ret, blockK_normal, blockK_same, blockK_ret, seqK_normal, seqK_exit, seqK_ret, fin_done, if_true', if_false', Bool.not_true, Bool.not_false, idx0, idx1, idx2, idx3, idx4, chk_nil_l, chk_nil_r, done_nm]
    exact ih (i + 1) h4 _ (by omega) Ea4 Eb4 A4 (i2.trans k4.inn) hk _ _ _ _ _ _ _ _ _ _ _ _ _ _ _ _ _ _ _ _ _ _ _ _ _ _ _ _ _ _ _ _ _ _ _ _ _ _ _ _ _ _ _ _ _ _ _ _ _ _ _ _ _ _ _ _ _ _ _ _ _ _ _ _ _ _ _ _ _ _ _ _ _ _ _ _ _ _ _ _ _ _ _ _ _ _ _ _ _ _ _ _ _ _ _ _ _ _ _ _ _ _ _ _ _ _ _ _ _ _ _ _ _ _ _ _ _ _ _ _ _ _ _ _ _ _ _ _ _ _ _ _ _ _ _ _ _ _ _ _
theorem canE_stamp {n f t i : Nat} (hn : n < 7) (hf : f < n) (ht : t < n) (hi : i < 11) (hne : f ≠ t) (g : List Nat) : canE n t g f (stampM n (mS n f t i)) = canCol g (columnM n (mS n f t i) t) := by
  unfold canE
  rw [readM_stamp (ordF hn hf ht hi hne).gd (ordF hn hf ht hi hne).m64]
  simp only []
  rw [decide_eq_true (by omega), Bool.true_and]
theorem cvIU (n : Int) (h : Heap) (h0 : 0 ≤ n) (h1 : n < 2 ^ 63) : convV Try.prog 3 46 (.int .i64 n) h = some (.int .u64 n, h) := conv_u64 (ks := .i64) (by kernel_rfl) (by kernel_rfl) _ _ _ h0 (by omega)
theorem ord_take {h0 : Heap} {L n f t many pb : Nat} {pk : Int} {v : Value} (hn : n < 7) (hf : f < n) (ht : t < n) (hne : f ≠ t) (hm : many ≤ 10) (hL : L ≤ h0.blks.length) (hpb : h0.blks.length ≤ pb) :
    ∀ (mm i : Nat) (h : Heap) (mb : List (List Nat)), many = i + mm → En L h pb n t mb (gS n f i) → EnOk n t mb (gS n f i) → ABs h0.blks.length h v (lS n f t many) → In h0.blks.length No (nm h0) h →
    ∀ (x5 x6 x7 x8 x9 x10 x11 x12 x14 x16 x17 x19 x20 x21 x22 x23 x24 x25 x26 x27 x28 x29 x30 x31 x32 x33 x34 x35 x36 x37 x38 x39 x40 x41 x42 x43 x44 x45 x46 x47 x48 x49 x50 x51 x52 x53 x54 x55 x56 x57 x58 x59 x60 x61 x62 x63 x64 x65 x66 x67 x68 x69 x70 x71 x72 x73 x74 x75 x76 x77 x78 x79 x80 x81 x82 x83 x84 x85 x86 x87 x88 x89 x90 x91 x92 x93 x94 x95 x96 x97 x98 x99 x100 x101 x102 x103 x104 x105 x106 x107 x108 x109 x110 x111 x112 x113 x114 x115 x116 x117 x118 x119 x120 x121 x122 x123 x124 x125 x126 x127 x128 x129 x130 x131 x132 x133 x134 x135 x136 x137 x138 x139 x140 x141 x142 x143 x144 x145 x146 x147 x148 : Value), ∃ h', loopK Try.prog (evC Try.prog) c6_3 ⟨#[.int .i64 n, .int .i64 f, .int .i64 t, .int .i64 many, .int .i64 pk, x5, x6, x7, x8, x9, x10, x11, x12, .pointer (some ⟨pb, 0, none⟩), x14, v, x16, x17, .int .i64 i, x19, x20, x21, x22, x23, x24, x25, x26, x27, x28, x29, x30, x31, x32, x33, x34, x35, x36, x37, x38, x39, x40, x41, x42, x43, x44, x45, x46, x47, x48, x49, x50, x51, x52, x53, x54, x55, x56, x57, x58, x59, x60, x61, x62, x63, x64, x65, x66, x67, x68, x69, x70, x71, x72, x73, x74, x75, x76, x77, x78, x79, x80, x81, x82, x83, x84, x85, x86, x87, x88, x89, x90, x91, x92, x93, x94, x95, x96, x97, x98, x99, x100, x101, x102, x103, x104, x105, x106, x107, x108, x109, x110, x111, x112, x113, x114, x115, x116, x117, x118, x119, x120, x121, x122, x123, x124, x125, x126, x127, x128, x129, x130, x131, x132, x133, x134, x135, x136, x137, x138, x139, x140, x141, x142, x143, x144, x145, x146, x147, x148], h⟩ (blockK 2 (seqK Try.prog (evC Try.prog) c6_4 (retK Try.f6 Try.prog h0))) = some (.bool true, h') := by
  intro mm
  induction mm with
  | zero =>
    intro i h mb hi Eb ok A hin x5 x6 x7 x8 x9 x10 x11 x12 x14 x16 x17 x19 x20 x21 x22 x23 x24 x25 x26 x27 x28 x29 x30 x31 x32 x33 x34 x35 x36 x37 x38 x39 x40 x41 x42 x43 x44 x45 x46 x47 x48 x49 x50 x51 x52 x53 x54 x55 x56 x57 x58 x59 x60 x61 x62 x63 x64 x65 x66 x67 x68 x69 x70 x71 x72 x73 x74 x75 x76 x77 x78 x79 x80 x81 x82 x83 x84 x85 x86 x87 x88 x89 x90 x91 x92 x93 x94 x95 x96 x97 x98 x99 x100 x101 x102 x103 x104 x105 x106 x107 x108 x109 x110 x111 x112 x113 x114 x115 x116 x117 x118 x119 x120 x121 x122 x123 x124 x125 x126 x127 x128 x129 x130 x131 x132 x133 x134 x135 x136 x137 x138 x139 x140 x141 x142 x143 x144 x145 x146 x147 x148
    obtain rfl : many = i := by omega
    rw [loopK_eq evC_m, c6_3_eq]
    have F := ordF hn hf ht (i := many) (by omega) hne
    obtain ⟨ga, gc, h2, e2, x2, a2⟩ := spec_EGot Eb (by rw [F.len]; omega)
    have ln := a2.su.row.len_eq etV.under
    have hlen : ((gS n f many).length : Int) = n := by rw [F.len]
    obtain ⟨a3, e3, e4⟩ := su_at a2.su etV.under (i := f) (by rw [F.len]; exact hf)
    rw [F.get] at e4
    have cv := fun h => cvIU many h (by omega) (by omega)
    simp -implicitDefEqProofs (disch := omega) only [dcT, dcF, ↓c6_4_eq, e2, ln, hlen, e3, e4, cv, eq_self, decide_true, ↓ret6, ↓cnd_true, ↓cnd_false, ↓Option.bind_some, ↓obH_some', bin_add, bin_sub, bin_mul, bin_lss, bin_leq, bin_gtr, bin_geq, bin_eql, bin_neq, un_not, un_neg, Option.bind_some, Option.bind_none, Option.map_some, cnd_true, cnd_false, pickV_true, pickV_false, gd_true, gd_false, gdV_true, gdV_false, gdH_true, gdH_false, gdS_true, gdS_false, wt_ff, wt_tt, wt_ft, wt_tf, wt_undef, obH_some', extractV_tuple, nilCheckV_ptr, againK_normal, againK_exit, againK_ret, blockK_normal, blockK_same, blockK_ret, seqK_normal, seqK_exit, seqK_ret, fin_done, if_true', if_false', Bool.not_true, Bool.not_false, idx0, idx1, idx2, idx3, idx4, chk_nil_l, chk_nil_r, done_nm]
    exact ⟨_, rfl⟩
  | succ mm ih =>
    intro i h mb hi Eb ok A hin x5 x6 x7 x8 x9 x10 x11 x12 x14 x16 x17 x19 x20 x21 x22 x23 x24 x25 x26 x27 x28 x29 x30 x31 x32 x33 x34 x35 x36 x37 x38 x39 x40 x41 x42 x43 x44 x45 x46 x47 x48 x49 x50 x51 x52 x53 x54 x55 x56 x57 x58 x59 x60 x61 x62 x63 x64 x65 x66 x67 x68 x69 x70 x71 x72 x73 x74 x75 x76 x77 x78 x79 x80 x81 x82 x83 x84 x85 x86 x87 x88 x89 x90 x91 x92 x93 x94 x95 x96 x97 x98 x99 x100 x101 x102 x103 x104 x105 x106 x107 x108 x109 x110 x111 x112 x113 x114 x115 x116 x117 x118 x119 x120 x121 x122 x123 x124 x125 x126 x127 x128 x129 x130 x131 x132 x133 x134 x135 x136 x137 x138 x139 x140 x141 x142 x143 x144 x145 x146 x147 x148
    rw [loopK_eq evC_m, c6_3_eq]
    have F := ordF hn hf ht (i := i) (by omega) hne
    have hl : h0.blks.length ≤ h.blks.length := hin.len
    have hw : IntKind.wrap .i64 ((i : Int) + 1) = ((i + 1 : Nat) : Int) := by rw [wrap_i64] <;> omega
    have cv := fun h => cvIU ((i + 1 : Nat) : Int) h (by omega) (by omega)
    have k1 := mkI1 .i64 t h
    have si := litI1 h t
    have s1 := Same.new h (.cells [.int .i64 (t : Int)]) 3
    have i1 := hin.trans (In.new hl (.cells [.int .i64 (t : Int)]) 3)
    generalize h.new (.cells [.int .i64 (t : Int)]) 3 = h1 at *
    have e1 := spec_Of si.nm (by simp)
    rw [ofL_one (by omega)] at e1
    have h2 : 2 ^ t < 2 ^ 64 := Nat.pow_lt_pow_right (by omega) (by omega)
    have l1 : h0.blks.length ≤ h1.blks.length := i1.len
    obtain ⟨ad, sx, sc, ea, ex, ab⟩ := (A.same s1).atA (i := i) (by rw [lS_len]; omega)
    rw [lS_get _ _ _ _ _ (by omega)] at ex ab
    have am1 : am (nm h1) h1 = h1 := by show Heap.mk _ _ = _; rfl
    obtain ⟨h3, e3, x3, Eb3⟩ := spec_ETake (Eb.same s1) (by omega) ok f (i + 1) (2 ^ t) h2 (ab.sl etB.size) (by have := stampM_len (n := n) F.m64; omega)
    have hc := canE_stamp hn hf ht (i := i) (by omega) hne (gS n f i)
    rw [F.can] at hc
    have ok3 := ok.take f (2 ^ t) (stampM n (mS n f t i))
    have hg : takeG n t (gS n f i) f (stampM n (mS n f t i)) = gS n f (i + 1) := by unfold takeG; rw [if_pos hc]; exact F.upV
    rw [hg] at Eb3 ok3
    rw [hc] at e3
    obtain ⟨csb, cb⟩ := (Eb.same s1).cl
    have A3 := (A.same s1).modE cb x3
    have i3 := i1.trans (x3.inn l1 fun b hb e => by have : b = pb := e; omega)
    simp -implicitDefEqProofs (disch := omega) only [dcT, dcF, hw, cv, k1, e1, ea, ex, am1, e3, nmm, List.append_nil, ↓cnd_true, ↓cnd_false, ↓Option.bind_some, ↓obH_some', bin_add, bin_sub, bin_mul, bin_lss, bin_leq, bin_gtr, bin_geq, bin_eql, bin_neq, un_not, un_neg, Option.bind_some, Option.bind_none, Option.map_some, cnd_true, cnd_false, pickV_true, pickV_false, gd_true, gd_false, gdV_true, gdV_false, gdH_true, gdH_false, gdS_true, gdS_false, wt_ff, wt_tt, wt_ft, wt_tf, wt_undef, obH_some', extractV_tuple, nilCheckV_ptr, againK_normal, againK_exit, againK_ret, blockK_normal, blockK_same, blockK_ret, seqK_normal, seqK_exit, seqK_ret, fin_done, if_true', if_false', Bool.not_true, Bool.not_false, idx0, idx1, idx2, idx3, idx4, chk_nil_l, chk_nil_r, done_nm]
    exact ih (i + 1) h3 _ (by omega) Eb3 ok3 A3 i3 _ _ _ _ _ _ _ _ _ _ _ _ _ _ _ _ _ _ _ _ _ _ _ _ _ _ _ _ _ _ _ _ _ _ _ _ _ _ _ _ _ _ _ _ _ _ _ _ _ _ _ _ _ _ _ _ _ _ _ _ _ _ _ _ _ _ _ _ _ _ _ _ _ _ _ _ _ _ _ _ _ _ _ _ _ _ _ _ _ _ _ _ _ _ _ _ _ _ _ _ _ _ _ _ _ _ _ _ _ _ _ _ _ _ _ _ _ _ _ _ _ _ _ _ _ _ _ _ _ _ _ _ _ _ _ _ _ _ _ _ _
end Go.Am
namespace Go.Am
open Go.Proofs
set_option maxRecDepth 100000
set_option linter.all false
attribute [local congr] obind_congr obH_congr cnd_congr chk_congr retK_congr codeK_congr
theorem mlaw_FullOrder (n f t many pick : Int) (h : Heap) : ∃ h', evC Try.prog 6 #[.int .i64 n, .int .i64 f, .int .i64 t, .int .i64 many, .int .i64 pick] h = some (.bool true, h') := by
  rw [call6, c6_0_eq]
  obtain ⟨h1, e1, x1⟩ := spec_awake17 (nm h)
  by_cases c0 : n < 2
  · simp -implicitDefEqProofs (disch := omega) only [dcT, dcF, e1, ↓ret6, ↓cnd_true, ↓cnd_false, ↓Option.bind_some, ↓obH_some', bin_add, bin_sub, bin_mul, bin_lss, bin_leq, bin_gtr, bin_geq, bin_eql, bin_neq, un_not, un_neg, Option.bind_some, Option.bind_none, Option.map_some, cnd_true, cnd_false, pickV_true, pickV_false, gd_true, gd_false, gdV_true, gdV_false, gdH_true, gdH_false, gdS_true, gdS_false, wt_ff, wt_tt, wt_ft, wt_tf, wt_undef, obH_some', extractV_tuple, nilCheckV_ptr, againK_normal, againK_exit, againK_ret, blockK_normal, blockK_same, blockK_ret, seqK_normal, seqK_exit, seqK_ret, fin_done, if_true', if_false', Bool.not_true, Bool.not_false, idx0, idx1, idx2, idx3, idx4, chk_nil_l, chk_nil_r, done_nm]
    exact ⟨_, rfl⟩
  by_cases c1 : 6 < n
  · simp -implicitDefEqProofs (disch := omega) only [dcT, dcF, e1, ↓ret6, ↓cnd_true, ↓cnd_false, ↓Option.bind_some, ↓obH_some', bin_add, bin_sub, bin_mul, bin_lss, bin_leq, bin_gtr, bin_geq, bin_eql, bin_neq, un_not, un_neg, Option.bind_some, Option.bind_none, Option.map_some, cnd_true, cnd_false, pickV_true, pickV_false, gd_true, gd_false, gdV_true, gdV_false, gdH_true, gdH_false, gdS_true, gdS_false, wt_ff, wt_tt, wt_ft, wt_tf, wt_undef, obH_some', extractV_tuple, nilCheckV_ptr, againK_normal, againK_exit, againK_ret, blockK_normal, blockK_same, blockK_ret, seqK_normal, seqK_exit, seqK_ret, fin_done, if_true', if_false', Bool.not_true, Bool.not_false, idx0, idx1, idx2, idx3, idx4, chk_nil_l, chk_nil_r, done_nm]
    exact ⟨_, rfl⟩
  by_cases c2 : f < 0
  · simp -implicitDefEqProofs (disch := omega) only [dcT, dcF, e1, ↓ret6, ↓cnd_true, ↓cnd_false, ↓Option.bind_some, ↓obH_some', bin_add, bin_sub, bin_mul, bin_lss, bin_leq, bin_gtr, bin_geq, bin_eql, bin_neq, un_not, un_neg, Option.bind_some, Option.bind_none, Option.map_some, cnd_true, cnd_false, pickV_true, pickV_false, gd_true, gd_false, gdV_true, gdV_false, gdH_true, gdH_false, gdS_true, gdS_false, wt_ff, wt_tt, wt_ft, wt_tf, wt_undef, obH_some', extractV_tuple, nilCheckV_ptr, againK_normal, againK_exit, againK_ret, blockK_normal, blockK_same, blockK_ret, seqK_normal, seqK_exit, seqK_ret, fin_done, if_true', if_false', Bool.not_true, Bool.not_false, idx0, idx1, idx2, idx3, idx4, chk_nil_l, chk_nil_r, done_nm]
    exact ⟨_, rfl⟩
  by_cases c3 : n ≤ f
  · simp -implicitDefEqProofs (disch := omega) only [dcT, dcF, e1, ↓ret6, ↓cnd_true, ↓cnd_false, ↓Option.bind_some, ↓obH_some', bin_add, bin_sub, bin_mul, bin_lss, bin_leq, bin_gtr, bin_geq, bin_eql, bin_neq, un_not, un_neg, Option.bind_some, Option.bind_none, Option.map_some, cnd_true, cnd_false, pickV_true, pickV_false, gd_true, gd_false, gdV_true, gdV_false, gdH_true, gdH_false, gdS_true, gdS_false, wt_ff, wt_tt, wt_ft, wt_tf, wt_undef, obH_some', extractV_tuple, nilCheckV_ptr, againK_normal, againK_exit, againK_ret, blockK_normal, blockK_same, blockK_ret, seqK_normal, seqK_exit, seqK_ret, fin_done, if_true', if_false', Bool.not_true, Bool.not_false, idx0, idx1, idx2, idx3, idx4, chk_nil_l, chk_nil_r, done_nm]
    exact ⟨_, rfl⟩
  by_cases c4 : t < 0
  · simp -implicitDefEqProofs (disch := omega) only [dcT, dcF, e1, ↓ret6, ↓cnd_true, ↓cnd_false, ↓Option.bind_some, ↓obH_some', bin_add, bin_sub, bin_mul, bin_lss, bin_leq, bin_gtr, bin_geq, bin_eql, bin_neq, un_not, un_neg, Option.bind_some, Option.bind_none, Option.map_some, cnd_true, cnd_false, pickV_true, pickV_false, gd_true, gd_false, gdV_true, gdV_false, gdH_true, gdH_false, gdS_true, gdS_false, wt_ff, wt_tt, wt_ft, wt_tf, wt_undef, obH_some', extractV_tuple, nilCheckV_ptr, againK_normal, againK_exit, againK_ret, blockK_normal, blockK_same, blockK_ret, seqK_normal, seqK_exit, seqK_ret, fin_done, if_true', if_false', Bool.not_true, Bool.not_false, idx0, idx1, idx2, idx3, idx4, chk_nil_l, chk_nil_r, done_nm]
    exact ⟨_, rfl⟩
  by_cases c5 : n ≤ t
  · simp -implicitDefEqProofs (disch := omega) only [dcT, dcF, e1, ↓ret6, ↓cnd_true, ↓cnd_false, ↓Option.bind_some, ↓obH_some', bin_add, bin_sub, bin_mul, bin_lss, bin_leq, bin_gtr, bin_geq, bin_eql, bin_neq, un_not, un_neg, Option.bind_some, Option.bind_none, Option.map_some, cnd_true, cnd_false, pickV_true, pickV_false, gd_true, gd_false, gdV_true, gdV_false, gdH_true, gdH_false, gdS_true, gdS_false, wt_ff, wt_tt, wt_ft, wt_tf, wt_undef, obH_some', extractV_tuple, nilCheckV_ptr, againK_normal, againK_exit, againK_ret, blockK_normal, blockK_same, blockK_ret, seqK_normal, seqK_exit, seqK_ret, fin_done, if_true', if_false', Bool.not_true, Bool.not_false, idx0, idx1, idx2, idx3, idx4, chk_nil_l, chk_nil_r, done_nm]
    exact ⟨_, rfl⟩
  by_cases c6 : f = t
  · simp -implicitDefEqProofs (disch := omega) only [dcT, dcF, e1, ↓ret6, ↓cnd_true, ↓cnd_false, ↓Option.bind_some, ↓obH_some', bin_add, bin_sub, bin_mul, bin_lss, bin_leq, bin_gtr, bin_geq, bin_eql, bin_neq, un_not, un_neg, Option.bind_some, Option.bind_none, Option.map_some, cnd_true, cnd_false, pickV_true, pickV_false, gd_true, gd_false, gdV_true, gdV_false, gdH_true, gdH_false, gdS_true, gdS_false, wt_ff, wt_tt, wt_ft, wt_tf, wt_undef, obH_some', extractV_tuple, nilCheckV_ptr, againK_normal, againK_exit, againK_ret, blockK_normal, blockK_same, blockK_ret, seqK_normal, seqK_exit, seqK_ret, fin_done, if_true', if_false', Bool.not_true, Bool.not_false, idx0, idx1, idx2, idx3, idx4, chk_nil_l, chk_nil_r, done_nm]
    exact ⟨_, rfl⟩
  by_cases c7 : many < 2
  · simp -implicitDefEqProofs (disch := omega) only [dcT, dcF, e1, ↓ret6, ↓cnd_true, ↓cnd_false, ↓Option.bind_some, ↓obH_some', bin_add, bin_sub, bin_mul, bin_lss, bin_leq, bin_gtr, bin_geq, bin_eql, bin_neq, un_not, un_neg, Option.bind_some, Option.bind_none, Option.map_some, cnd_true, cnd_false, pickV_true, pickV_false, gd_true, gd_false, gdV_true, gdV_false, gdH_true, gdH_false, gdS_true, gdS_false, wt_ff, wt_tt, wt_ft, wt_tf, wt_undef, obH_some', extractV_tuple, nilCheckV_ptr, againK_normal, againK_exit, againK_ret, blockK_normal, blockK_same, blockK_ret, seqK_normal, seqK_exit, seqK_ret, fin_done, if_true', if_false', Bool.not_true, Bool.not_false, idx0, idx1, idx2, idx3, idx4, chk_nil_l, chk_nil_r, done_nm]
    exact ⟨_, rfl⟩
  by_cases c8 : 10 < many
  · simp -implicitDefEqProofs (disch := omega) only [dcT, dcF, e1, ↓ret6, ↓cnd_true, ↓cnd_false, ↓Option.bind_some, ↓obH_some', bin_add, bin_sub, bin_mul, bin_lss, bin_leq, bin_gtr, bin_geq, bin_eql, bin_neq, un_not, un_neg, Option.bind_some, Option.bind_none, Option.map_some, cnd_true, cnd_false, pickV_true, pickV_false, gd_true, gd_false, gdV_true, gdV_false, gdH_true, gdH_false, gdS_true, gdS_false, wt_ff, wt_tt, wt_ft, wt_tf, wt_undef, obH_some', extractV_tuple, nilCheckV_ptr, againK_normal, againK_exit, againK_ret, blockK_normal, blockK_same, blockK_ret, seqK_normal, seqK_exit, seqK_ret, fin_done, if_true', if_false', Bool.not_true, Bool.not_false, idx0, idx1, idx2, idx3, idx4, chk_nil_l, chk_nil_r, done_nm]
    exact ⟨_, rfl⟩
  by_cases c9 : pick < 1
  · simp -implicitDefEqProofs (disch := omega) only [dcT, dcF, e1, ↓ret6, ↓cnd_true, ↓cnd_false, ↓Option.bind_some, ↓obH_some', bin_add, bin_sub, bin_mul, bin_lss, bin_leq, bin_gtr, bin_geq, bin_eql, bin_neq, un_not, un_neg, Option.bind_some, Option.bind_none, Option.map_some, cnd_true, cnd_false, pickV_true, pickV_false, gd_true, gd_false, gdV_true, gdV_false, gdH_true, gdH_false, gdS_true, gdS_false, wt_ff, wt_tt, wt_ft, wt_tf, wt_undef, obH_some', extractV_tuple, nilCheckV_ptr, againK_normal, againK_exit, againK_ret, blockK_normal, blockK_same, blockK_ret, seqK_normal, seqK_exit, seqK_ret, fin_done, if_true', if_false', Bool.not_true, Bool.not_false, idx0, idx1, idx2, idx3, idx4, chk_nil_l, chk_nil_r, done_nm]
    exact ⟨_, rfl⟩
  by_cases c10 : many ≤ pick
  · simp -implicitDefEqProofs (disch := omega) only [dcT, dcF, e1, ↓ret6, ↓cnd_true, ↓cnd_false, ↓Option.bind_some, ↓obH_some', bin_add, bin_sub, bin_mul, bin_lss, bin_leq, bin_gtr, bin_geq, bin_eql, bin_neq, un_not, un_neg, Option.bind_some, Option.bind_none, Option.map_some, cnd_true, cnd_false, pickV_true, pickV_false, gd_true, gd_false, gdV_true, gdV_false, gdH_true, gdH_false, gdS_true, gdS_false, wt_ff, wt_tt, wt_ft, wt_tf, wt_undef, obH_some', extractV_tuple, nilCheckV_ptr, againK_normal, againK_exit, againK_ret, blockK_normal, blockK_same, blockK_ret, seqK_normal, seqK_exit, seqK_ret, fin_done, if_true', if_false', Bool.not_true, Bool.not_false, idx0, idx1, idx2, idx3, idx4, chk_nil_l, chk_nil_r, done_nm]
    exact ⟨_, rfl⟩
  obtain ⟨n, rfl⟩ : ∃ k : Nat, n = k := ⟨n.toNat, by omega⟩
  obtain ⟨f, rfl⟩ : ∃ k : Nat, f = k := ⟨f.toNat, by omega⟩
  obtain ⟨t, rfl⟩ : ∃ k : Nat, t = k := ⟨t.toNat, by omega⟩
  obtain ⟨many, rfl⟩ : ∃ k : Nat, many = k := ⟨many.toNat, by omega⟩
  obtain ⟨pick, rfl⟩ : ∃ k : Nat, pick = k := ⟨pick.toNat, by omega⟩
  have hne : f ≠ t := by omega
  have i1 : In h.blks.length No (nm h) h1 := x1.inn (Nat.le_refl _)
  have l1 : h.blks.length ≤ h1.blks.length := i1.len
  obtain ⟨pa, h2, e2, x2, r2⟩ := spec_ENew n f h1
  have cf : 1 ≤ (n : Int) ∧ (n : Int) ≤ 16 ∧ 0 ≤ (f : Int) ∧ (f : Int) < n := by omega
  have ct : 1 ≤ (n : Int) ∧ (n : Int) ≤ 16 ∧ 0 ≤ (t : Int) ∧ (t : Int) < n := by omega
  simp only [if_pos cf] at e2
  obtain ⟨la, Ea⟩ := r2 cf
  rw [Int.toNat_natCast] at Ea
  have i2 := i1.trans (x2.inn l1)
  have l2 : h.blks.length ≤ h2.blks.length := i2.len
  obtain ⟨pb, h3, e3, x3, r3⟩ := spec_ENew n t h2
  simp only [if_pos ct] at e3
  obtain ⟨lb, Eb⟩ := r3 ct
  rw [Int.toNat_natCast] at Eb
  have i3 := i2.trans (x3.inn l2)
  have Ea3 := Ea.ext x3
  obtain ⟨csa, ca⟩ := Ea.cl
  have lta := ca.lt
  have F0 := ordF (n := n) (f := f) (t := t) (i := 0) (by omega) (by omega) (by omega) (by omega) hne
  have Fp := ordF (n := n) (f := f) (t := t) (i := pick) (by omega) (by omega) (by omega) (by omega) hne
  have up : ∀ {L L' : Nat} {h : Heap} {p : Nat} {n me : Int} {m : List (List Nat)} {g : List Nat}, En L h p n me m g → L' ≤ L → En L' h p n me m g := fun E hl => let ⟨_, _, x⟩ := E; ⟨_, _, ⟨x.c, x.am.up hl, x.au.up hl⟩⟩
  rw [← F0.m0] at Ea3
  have okb : EnOk n t (zerosM (n : Int).toNat) (List.replicate (n : Int).toNat 0) := EnOk.zero ct
  rw [Int.toNat_natCast] at okb
  rw [← F0.g0] at Eb okb
  have cv := fun h => cvIU ((pick + 1 : Nat) : Int) h (by omega) (by omega)
  have hw : IntKind.wrap .i64 ((pick : Int) + 1) = ((pick + 1 : Nat) : Int) := by rw [wrap_i64] <;> omega
  have main := ord_send (Q := fun r => ∃ h', r = some (.bool true, h')) (h0 := h) (L := h.blks.length) (n := n) (f := f) (t := t) (many := many) (pa := pa) (pb := pb) (pk := pick) (by omega) (by omega) (by omega) hne (by omega) (Nat.le_refl _) (by omega) (by omega) (by omega)
    (seqK Try.prog (evC Try.prog) c6_2 (retK Try.f6 Try.prog h))
    many 0 h3 (.slice none 0 0) (by omega) (up Ea3 l1) (up Eb l2) ⟨[], .nil, .nil⟩ i3 (by
      intro h' v' Eb' A' i' x5 x6 x7 x8 x9 x10 x11 x12 x14 x16 x17 x18 x19 x20 x21 x22 x23 x24 x25 x26 x27 x28 x29 x30 x31 x32 x33 x34 x35 x36 x37 x38 x39 x40 x41 x42 x43 x44 x45 x46 x47 x48 x49 x50 x51 x52 x53 x54 x55 x56 x57 x58 x59 x60 x61 x62 x63 x64 x65 x66 x67 x68 x69 x70 x71 x72 x73 x74 x75 x76 x77 x78 x79 x80 x81 x82 x83 x84 x85 x86 x87 x88 x89 x90 x91 x92 x93 x94 x95 x96 x97 x98 x99 x100 x101 x102 x103 x104 x105 x106 x107 x108 x109 x110 x111 x112 x113 x114 x115 x116 x117 x118 x119 x120 x121 x122 x123 x124 x125 x126 x127 x128 x129 x130 x131 x132 x133 x134 x135 x136 x137 x138 x139 x140 x141 x142 x143 x144 x145 x146 x147 x148
      obtain ⟨ad, sx, sc, ea, ex, ab⟩ := A'.atA (i := pick) (by rw [lS_len]; omega)
      rw [lS_get _ _ _ _ _ (by omega)] at ex ab
      obtain ⟨h5, e5, x5⟩ := spec_ECan Eb' okb f (pick + 1) (ab.sl etB.size) (by have := stampM_len (n := n) Fp.m64; omega)
      rw [canE_stamp (by omega) (by omega) (by omega) (by omega) hne, Fp.not (by omega)] at e5
      obtain ⟨h9, e9⟩ := ord_take (h0 := h) (L := h.blks.length) (n := n) (f := f) (t := t) (many := many) (pb := pb) (pk := pick) (by omega) (by omega) (by omega) hne (by omega) (Nat.le_refl _) (by omega) many 0 h5 _ (by omega) (Eb'.ext x5) okb (A'.same x5.same) (i'.trans (x5.inn i'.len)) _ _ _ _ _ _ _ _ _ _ _ _ _ _ _ _ _ _ _ _ _ _ _ _ _ _ _ _ _ _ _ _ _ _ _ _ _ _ _ _ _ _ _ _ _ _ _ _ _ _ _ _ _ _ _ _ _ _ _ _ _ _ _ _ _ _ _ _ _ _ _ _ _ _ _ _ _ _ _ _ _ _ _ _ _ _ _ _ _ _ _ _ _ _ _ _ _ _ _ _ _ _ _ _ _ _ _ _ _ _ _ _ _ _ _ _ _ _ _ _ _ _ _ _ _ _ _ _ _ _ _ _ _ _ _ _ _ _ _ _ _
      rw [show ((0 : Nat) : Int) = 0 from rfl] at e9
      simp -implicitDefEqProofs (disch := omega) only [dcT, dcF, ↓c6_2_eq, hw, cv, ea, ex, e5, ↓cnd_true, ↓cnd_false, ↓Option.bind_some, ↓obH_some', bin_add, bin_sub, bin_mul, bin_lss, bin_leq, bin_gtr, bin_geq, bin_eql, bin_neq, un_not, un_neg, Option.bind_some, Option.bind_none, Option.map_some, cnd_true, cnd_false, pickV_true, pickV_false, gd_true, gd_false, gdV_true, gdV_false, gdH_true, gdH_false, gdS_true, gdS_false, wt_ff, wt_tt, wt_ft, wt_tf, wt_undef, obH_some', extractV_tuple, nilCheckV_ptr, againK_normal, againK_exit, againK_ret, blockK_normal, blockK_same, blockK_ret, seqK_normal, seqK_exit, seqK_ret, fin_done, if_true', if_false', Bool.not_true, Bool.not_false, idx0, idx1, idx2, idx3, idx4, chk_nil_l, chk_nil_r, done_nm]
      exact ⟨h9, e9⟩)
  rw [show ((0 : Nat) : Int) = 0 from rfl] at main
  simp -implicitDefEqProofs (disch := omega) only [dcT, dcF, e1, e2, e3, eqE, ne_eq, eq_self, not_true_eq_false, decide_false, ↓cnd_true, ↓cnd_false, ↓Option.bind_some, ↓obH_some', bin_add, bin_sub, bin_mul, bin_lss, bin_leq, bin_gtr, bin_geq, bin_eql, bin_neq, un_not, un_neg, Option.bind_some, Option.bind_none, Option.map_some, cnd_true, cnd_false, pickV_true, pickV_false, gd_true, gd_false, gdV_true, gdV_false, gdH_true, gdH_false, gdS_true, gdS_false, wt_ff, wt_tt, wt_ft, wt_tf, wt_undef, obH_some', extractV_tuple, nilCheckV_ptr, againK_normal, againK_exit, againK_ret, blockK_normal, blockK_same, blockK_ret, seqK_normal, seqK_exit, seqK_ret, fin_done, if_true', if_false', Bool.not_true, Bool.not_false, idx0, idx1, idx2, idx3, idx4, chk_nil_l, chk_nil_r, done_nm]
  exact main _ _ _ _ _ _ _ _ _ _ _ _ _ _ _ _ _ _ _ _ _ _ _ _ _ _ _ _ _ _ _ _ _ _ _ _ _ _ _ _ _ _ _ _ _ _ _ _ _ _ _ _ _ _ _ _ _ _ _ _ _ _ _ _ _ _ _ _ _ _ _ _ _ _ _ _ _ _ _ _ _ _ _ _ _ _ _ _ _ _ _ _ _ _ _ _ _ _ _ _ _ _ _ _ _ _ _ _ _ _ _ _ _ _ _ _ _ _ _ _ _ _ _ _ _ _ _ _ _ _ _ _ _ _ _ _ _ _ _ _
theorem law_FullOrder (h : Heap) (vs : List Value) (dd : List DT) (r : RdAll Try.prog h [3, 3, 3, 3, 3] vs dd) : ∃ h', evC Try.prog 6 vs.toArray h = some (.bool true, h') := by
  obtain ⟨v, d, vs', ds', rfl, rfl, r0, r⟩ := r.cons_inv
  obtain ⟨v1, d1, vs', ds', rfl, rfl, r1, r⟩ := r.cons_inv
  obtain ⟨v2, d2, vs', ds', rfl, rfl, r2, r⟩ := r.cons_inv
  obtain ⟨v3, d3, vs', ds', rfl, rfl, r3, r⟩ := r.cons_inv
  obtain ⟨v4, d4, vs', ds', rfl, rfl, r4, r⟩ := r.cons_inv
  obtain ⟨rfl, rfl⟩ := r.nil_inv
  obtain ⟨n, rfl, _⟩ := r0.i64 (by kernel_rfl)
  obtain ⟨f, rfl, _⟩ := r1.i64 (by kernel_rfl)
  obtain ⟨t, rfl, _⟩ := r2.i64 (by kernel_rfl)
  obtain ⟨many, rfl, _⟩ := r3.i64 (by kernel_rfl)
  obtain ⟨pick, rfl, _⟩ := r4.i64 (by kernel_rfl)
  exact mlaw_FullOrder n f t many pick h
end Go.Am
namespace Go.Am
open Go.Proofs
set_option maxRecDepth 100000
set_option linter.all false
attribute [local congr] obind_congr obH_congr cnd_congr chk_congr retK_congr codeK_congr
theorem All2.length_eqA {α β : Type} {R : α → β → Prop} {l : List α} {m : List β} (h : All2 R l m) : l.length = m.length := by
  induction h with
  | nil => rfl
  | cons _ _ ih => simp [ih]
structure AT where
  op : Int
  frm : Int
  at' : Int
  to : Nat
  b : List UInt8
def actC (p : AT) (bv : Value) : List Value := [.int .i64 p.op, .int .i64 p.frm, .int .i64 p.at', .int .u64 p.to, bv]
def SA (h : Heap) (v : Value) (l : List AT) : Prop := ∃ bvs, Row h 5 v l.length (List.zipWith actC l bvs).flatten ∧ All2 (fun bv p => SB h bv p.b) bvs l
theorem SA.same {h h' : Heap} {v : Value} {l : List AT} (s : SA h v l) (e : Same h h') : SA h' v l := let ⟨bvs, r, b⟩ := s; ⟨bvs, r.keep fun b hb _ => e.2 b hb, b.mono fun _ _ x => x.same e⟩
theorem SA.len {h : Heap} {v : Value} {l : List AT} (s : SA h v l) : lenV Try.prog 57 v h = some (.int .i64 l.length) := by
  obtain ⟨bvs, r, b⟩ := s
  have hu : Try.prog.underlying 57 = some (.slice 61) := by kernel_rfl
  exact r.len_eq hu
theorem flat5 : ∀ (l : List AT) (bvs : List Value) (i k : Nat), k < 5 → l.length = bvs.length → (hi : i < l.length) → (hb : i < bvs.length) → (List.zipWith actC l bvs).flatten[i * 5 + k]? = (actC l[i] bvs[i])[k]?
  | [], _, i, k, _, _, hi, _ => by simp at hi
  | _ :: _, [], i, k, _, hl, _, _ => by simp at hl
  | p :: l, v :: bvs, 0, k, hk, hl, hi, hb => by
    simp only [List.zipWith_cons_cons, List.flatten_cons, Nat.zero_mul, Nat.zero_add, List.getElem_cons_zero]
    rw [List.getElem?_append_left (by simpa [actC] using hk)]
  | p :: l, v :: bvs, i + 1, k, hk, hl, hi, hb => by
    simp only [List.zipWith_cons_cons, List.flatten_cons, List.getElem_cons_succ]
    rw [List.getElem?_append_right (by simp [actC]; omega)]
    have : (i + 1) * 5 + k - (actC p v).length = i * 5 + k := by simp [actC]; omega
    rw [this]
    exact flat5 l bvs i k hk (by simpa using hl) (by simpa using hi) (by simpa using hb)
theorem faA0 (b o : Nat) : fieldAddrV Try.prog 61 (.pointer (some ⟨b, o, none⟩)) 0 = some (.pointer (some ⟨b, o, none⟩)) := by kernel_rfl
theorem faA1 (b o : Nat) : fieldAddrV Try.prog 61 (.pointer (some ⟨b, o, none⟩)) 1 = some (.pointer (some ⟨b, o + 1, none⟩)) := by kernel_rfl
theorem faA2 (b o : Nat) : fieldAddrV Try.prog 61 (.pointer (some ⟨b, o, none⟩)) 2 = some (.pointer (some ⟨b, o + 2, none⟩)) := by kernel_rfl
theorem faA3 (b o : Nat) : fieldAddrV Try.prog 61 (.pointer (some ⟨b, o, none⟩)) 3 = some (.pointer (some ⟨b, o + 3, none⟩)) := by kernel_rfl
theorem faA4 (b o : Nat) : fieldAddrV Try.prog 61 (.pointer (some ⟨b, o, none⟩)) 4 = some (.pointer (some ⟨b, o + 4, none⟩)) := by kernel_rfl
/-- an act's place -/
structure AAt (h : Heap) (v : Value) (i : Nat) (p : AT) (b o : Nat) (bv : Value) : Prop where
  at_ : indexAddrV Try.prog 57 v (.int .i64 i) = some (.pointer (some ⟨b, o, none⟩))
  l0 : h.load1 b o = some (.int .i64 p.op)
  l1 : h.load1 b (o + 1) = some (.int .i64 p.frm)
  l2 : h.load1 b (o + 2) = some (.int .i64 p.at')
  l3 : h.load1 b (o + 3) = some (.int .u64 p.to)
  l4 : h.load1 b (o + 4) = some bv
  sb : SB h bv p.b
theorem SA.at {v : Value} {h : Heap} {l : List AT} (s : SA h v l) {i : Nat} (hi : i < l.length) : ∃ b o bv, ∀ h', Same h h' → AAt h' v i l[i] b o bv := by
  obtain ⟨bvs, r, hb⟩ := s
  have hl : bvs.length = l.length := hb.length_eqA
  have hu : Try.prog.underlying 57 = some (.slice 61) := by kernel_rfl
  have hs : sizeT Try.prog 61 = some 5 := by kernel_rfl
  cases r0 : v with
  | slice ad n c =>
    subst r0
    have r' := r
    generalize hn : l.length = n at r'
    generalize hcs : (List.zipWith actC l bvs).flatten = cs at r'
    cases r' with
    | nil => omega
    | mk hld =>
      rename_i b o
      rw [← hn, ← hcs] at hld
      refine ⟨b, o + i * 5, bvs[i], fun h' e => ?_⟩
      have hld' : h'.loadN b o (l.length * 5) = some (List.zipWith actC l bvs).flatten := by rw [loadN_of (e.2 b (loadN_lt hld))]; exact hld
      have get : ∀ k, k < 5 → h'.load1 b (o + i * 5 + k) = (actC l[i] bvs[i])[k]? := fun k hk => by
        rw [Nat.add_assoc, loadN_get hld' (by omega), flat5 l bvs i k hk hl.symm hi (by omega)]
      obtain ⟨p, hp, hsb⟩ := hb.get (i := i) (a := bvs[i]) (List.getElem?_eq_getElem (by omega))
      obtain rfl : l[i] = p := by rw [List.getElem?_eq_getElem hi] at hp; exact Option.some.inj hp
      refine ⟨?_, get 0 (by omega), get 1 (by omega), get 2 (by omega), get 3 (by omega), get 4 (by omega), hsb.same e⟩
      unfold indexAddrV
      simp only [hu, natOf_int, hs]
      rw [if_pos (by omega)]
  | _ => subst r0; cases r
theorem reads_act {h : Heap} {f : Nat} {cs : List Value} {d : DT} (x : Reads Try.prog h f 61 cs d) : ∃ p bv, cs = actC p bv ∧ SB h bv p.b ∧ p.to < 2 ^ 64 := by
  obtain ⟨g, l, rfl, hlen, ha⟩ := reads_struct Try.underlying61 x
  rw [show Try.prog.cellsOf 61 = 5 by kernel_rfl] at hlen
  obtain ⟨c0, c1, c2, c3, c4, rfl⟩ : ∃ c0 c1 c2 c3 c4, cs = [c0, c1, c2, c3, c4] := by
    match cs, hlen with
    | [a, b, c, d, e], _ => exact ⟨a, b, c, d, e, rfl⟩
  have h0 : Try.prog.cellsOf 3 = 1 := by kernel_rfl
  have h1 : Try.prog.cellsOf 46 = 1 := by kernel_rfl
  have h3 : Try.prog.cellsOf 23 = 1 := by kernel_rfl
  cases ha with
  | cons a0 ha => cases ha with
    | cons a1 ha => cases ha with
      | cons a2 ha => cases ha with
        | cons a3 ha => cases ha with
          | cons a4 ha =>
          cases ha
          simp only [h0, h1, h3] at a0 a1 a2 a3 a4
          obtain ⟨z, _, z2, z3⟩ := reads_int (k := .i64) (by kernel_rfl) a0
          obtain ⟨u, _, u2, u3⟩ := reads_int (k := .i64) (by kernel_rfl) a1
          obtain ⟨w, _, w2, w3⟩ := reads_int (k := .i64) (by kernel_rfl) a2
          obtain ⟨y, _, y2, y3⟩ := reads_int (k := .u64) (by kernel_rfl) a3
          obtain ⟨q, l', v, css, _, e2, e3, e4, e5⟩ := reads_slice (e := 5) (by kernel_rfl) a4
          obtain ⟨zs, g1, g2, g3⟩ := reads_ints (k := .u8) (by kernel_rfl) e4
          obtain ⟨bs, b1, b2⟩ := ints_bytes zs g3
          rw [show Try.prog.cellsOf 5 = 1 by kernel_rfl, g2, b2, ← g1, ← b1] at e3
          simp only [List.drop_zero, List.drop_succ_cons, List.take_succ_cons, List.take_zero, List.cons.injEq, and_true] at z2 u2 y2 w2 e2
          subst z2 u2 y2 w2 e2
          have hy := wf_nat rfl y3
          simp only [IntKind.bits] at hy
          refine ⟨⟨z, u, w, y.toNat, bs⟩, c4, ?_, e3, by show y.toNat < 2 ^ 64; omega⟩
          unfold actC
          simp only
          rw [Int.toNat_of_nonneg hy.1]
theorem reads_acts {h : Heap} {f : Nat} : ∀ {css : List (List Value)} {l : List DT}, All2 (fun c d => c.length = Try.prog.cellsOf 61 ∧ Reads Try.prog h f 61 c d) css l → ∃ (ps : List AT) (bvs : List Value), css.flatten = (List.zipWith actC ps bvs).flatten ∧ ps.length = l.length ∧ All2 (fun bv p => SB h bv p.b) bvs ps ∧ ∀ p ∈ ps, p.to < 2 ^ 64
  | _, _, .nil => ⟨[], [], rfl, rfl, .nil, by simp⟩
  | _, _, .cons x q => by
    obtain ⟨ps, bvs, e, hl, a, b⟩ := reads_acts q
    obtain ⟨p, bv, rfl, s, h1⟩ := reads_act x.2
    refine ⟨p :: ps, bv :: bvs, by simp [e], by simp [hl], .cons s a, fun y hy => ?_⟩
    rcases List.mem_cons.1 hy with rfl | hy
    · exact h1
    · exact b y hy
theorem Rd.acts {h : Heap} {v : Value} {d : DT} (r : Rd Try.prog h 57 v d) : ∃ ps : List AT, SA h v ps ∧ ∀ p ∈ ps, p.to < 2 ^ 64 := by
  obtain ⟨f, l, css, rfl, h1, h2, h3⟩ := r.slice (e := 61) (by kernel_rfl)
  obtain ⟨ps, bvs, e, hl, a, b⟩ := reads_acts h2
  rw [show Try.prog.cellsOf 61 = 5 by kernel_rfl, e, ← hl] at h1
  exact ⟨ps, ⟨bvs, h1.row, a⟩, b⟩
end Go.Am
namespace Go.Am
open Go.Proofs
set_option maxRecDepth 100000
set_option linter.all false
attribute [local congr] obind_congr obH_congr cnd_congr chk_congr retK_congr codeK_congr
theorem subU (t : TypeId) (xo yo : Operand) (a b : Nat) (h : b ≤ a) (ha : a < 2 ^ 64) : binV Try.prog .sub t xo yo (.int .u64 a) (.int .u64 b) = some (.int .u64 ((a - b : Nat) : Int)) := by
  rw [bin_sub, ← Int.ofNat_sub h, wrap_u64_nat, Nat.mod_eq_of_lt (by omega)]
theorem cvUI (n : Int) (h : Heap) (h0 : 0 ≤ n) (h1 : n < 2 ^ 63) : convV Try.prog 46 3 (.int .u64 n) h = some (.int .i64 n, h) := conv_i64 (ks := .u64) (by kernel_rfl) (by kernel_rfl) _ _ _ (by omega) h1
theorem knows_inner {Q : Option (Value × Heap) → Prop} {h : Heap} {n p q8 ii : Nat} {av x9 x10 : Value} {g now : List Nat} (hg : g.length = n) (hnow : now.length = n) (hn : n ≤ 16) {q d : Nat} (hd : d ≤ 1) (hj : ∀ j, now.getD j 0 = g.getD j 0 + (if j = q then d else 0)) (h64 : ∀ y ∈ now, y < 2 ^ 64) (s9 : SU h x9 g) (s10 : SU h x10 now) (k : Ex → St → Option (Value × Heap))
    (hk : ∀ (mo : Int), 0 ≤ mo → mo ≤ 1 → ∀ (x2 x3 x4 x6 x12 x13 x14 x15 x16 x17 x18 x19 x20 x21 x22 x23 x24 x25 x26 x27 x28 x29 x30 x31 x32 x33 x34 x35 x36 x37 x38 x39 x40 x41 x42 x43 x44 x45 x46 x47 x48 x49 x50 x51 x52 x53 x54 x55 x56 x57 x58 x59 x60 x61 x62 x63 x64 x65 x66 x67 x68 x69 x70 x71 x72 x73 x74 x75 x76 x77 x78 x79 x80 x81 x82 x83 x84 x85 x86 x87 x88 x89 x90 x91 x92 x93 x94 x95 x96 x97 x98 x99 x100 x101 x102 x103 x104 x105 x106 x107 x108 x109 x110 x111 x112 x113 x114 x115 x116 x117 x118 x119 x120 x121 x122 x123 x124 x125 x126 x127 x128 x129 x130 x131 x132 x133 x134 x135 x136 x137 x138 x139 x140 x141 x142 x143 x144 : Value), Q (k .normal ⟨#[.int .i64 n, av, x2, x3, x4, .pointer (some ⟨p, 0, none⟩), x6, .int .i64 ii, .pointer (some ⟨q8, 0, none⟩), x9, x10, .int .i64 mo, x12, x13, x14, x15, x16, x17, x18, x19, x20, x21, x22, x23, x24, x25, x26, x27, x28, x29, x30, x31, x32, x33, x34, x35, x36, x37, x38, x39, x40, x41, x42, x43, x44, x45, x46, x47, x48, x49, x50, x51, x52, x53, x54, x55, x56, x57, x58, x59, x60, x61, x62, x63, x64, x65, x66, x67, x68, x69, x70, x71, x72, x73, x74, x75, x76, x77, x78, x79, x80, x81, x82, x83, x84, x85, x86, x87, x88, x89, x90, x91, x92, x93, x94, x95, x96, x97, x98, x99, x100, x101, x102, x103, x104, x105, x106, x107, x108, x109, x110, x111, x112, x113, x114, x115, x116, x117, x118, x119, x120, x121, x122, x123, x124, x125, x126, x127, x128, x129, x130, x131, x132, x133, x134, x135, x136, x137, x138, x139, x140, x141, x142, x143, x144], h⟩)) :
    ∀ (mm i : Nat), n = i + mm → ∀ (x2 x3 x4 x6 x13 x14 x15 x16 x17 x18 x19 x20 x21 x22 x23 x24 x25 x26 x27 x28 x29 x30 x31 x32 x33 x34 x35 x36 x37 x38 x39 x40 x41 x42 x43 x44 x45 x46 x47 x48 x49 x50 x51 x52 x53 x54 x55 x56 x57 x58 x59 x60 x61 x62 x63 x64 x65 x66 x67 x68 x69 x70 x71 x72 x73 x74 x75 x76 x77 x78 x79 x80 x81 x82 x83 x84 x85 x86 x87 x88 x89 x90 x91 x92 x93 x94 x95 x96 x97 x98 x99 x100 x101 x102 x103 x104 x105 x106 x107 x108 x109 x110 x111 x112 x113 x114 x115 x116 x117 x118 x119 x120 x121 x122 x123 x124 x125 x126 x127 x128 x129 x130 x131 x132 x133 x134 x135 x136 x137 x138 x139 x140 x141 x142 x143 x144 : Value),
    Q (loopK Try.prog (evC Try.prog) c7_5 ⟨#[.int .i64 n, av, x2, x3, x4, .pointer (some ⟨p, 0, none⟩), x6, .int .i64 ii, .pointer (some ⟨q8, 0, none⟩), x9, x10, .int .i64 (if q < i then d else 0 : Nat), .int .i64 i, x13, x14, x15, x16, x17, x18, x19, x20, x21, x22, x23, x24, x25, x26, x27, x28, x29, x30, x31, x32, x33, x34, x35, x36, x37, x38, x39, x40, x41, x42, x43, x44, x45, x46, x47, x48, x49, x50, x51, x52, x53, x54, x55, x56, x57, x58, x59, x60, x61, x62, x63, x64, x65, x66, x67, x68, x69, x70, x71, x72, x73, x74, x75, x76, x77, x78, x79, x80, x81, x82, x83, x84, x85, x86, x87, x88, x89, x90, x91, x92, x93, x94, x95, x96, x97, x98, x99, x100, x101, x102, x103, x104, x105, x106, x107, x108, x109, x110, x111, x112, x113, x114, x115, x116, x117, x118, x119, x120, x121, x122, x123, x124, x125, x126, x127, x128, x129, x130, x131, x132, x133, x134, x135, x136, x137, x138, x139, x140, x141, x142, x143, x144], h⟩ (blockK 2 k)) := by
  intro mm
  induction mm with
  | zero =>
    intro i hi x2 x3 x4 x6 x13 x14 x15 x16 x17 x18 x19 x20 x21 x22 x23 x24 x25 x26 x27 x28 x29 x30 x31 x32 x33 x34 x35 x36 x37 x38 x39 x40 x41 x42 x43 x44 x45 x46 x47 x48 x49 x50 x51 x52 x53 x54 x55 x56 x57 x58 x59 x60 x61 x62 x63 x64 x65 x66 x67 x68 x69 x70 x71 x72 x73 x74 x75 x76 x77 x78 x79 x80 x81 x82 x83 x84 x85 x86 x87 x88 x89 x90 x91 x92 x93 x94 x95 x96 x97 x98 x99 x100 x101 x102 x103 x104 x105 x106 x107 x108 x109 x110 x111 x112 x113 x114 x115 x116 x117 x118 x119 x120 x121 x122 x123 x124 x125 x126 x127 x128 x129 x130 x131 x132 x133 x134 x135 x136 x137 x138 x139 x140 x141 x142 x143 x144
    rw [loopK_eq evC_m, c7_5_eq]
    have := hk (if q < i then d else 0 : Nat) (by omega) (by split <;> omega)
    simp -implicitDefEqProofs (disch := omega) only [dcT, dcF, ↓cnd_true, ↓cnd_false, ↓Option.bind_some, ↓obH_some', bin_add, bin_sub, bin_mul, bin_lss, bin_leq, bin_gtr, bin_geq, bin_eql, bin_neq, un_not, un_neg, Option.bind_some, Option.bind_none, Option.map_some, cnd_true, cnd_false, pickV_true, pickV_false, gd_true, gd_false, gdV_true, gdV_false, gdH_true, gdH_false, gdS_true, gdS_false, wt_ff, wt_tt, wt_ft, wt_tf, wt_undef, obH_some', extractV_tuple, nilCheckV_ptr, againK_normal, againK_exit, againK_ret, blockK_normal, blockK_same, blockK_ret, seqK_normal, seqK_exit, seqK_ret, fin_done, if_true', if_false', Bool.not_true, Bool.not_false, idx0, idx1, idx2, idx3, idx4, chk_nil_l, chk_nil_r, done_nm]
    exact this _ _ _ _ _ _ _ _ _ _ _ _ _ _ _ _ _ _ _ _ _ _ _ _ _ _ _ _ _ _ _ _ _ _ _ _ _ _ _ _ _ _ _ _ _ _ _ _ _ _ _ _ _ _ _ _ _ _ _ _ _ _ _ _ _ _ _ _ _ _ _ _ _ _ _ _ _ _ _ _ _ _ _ _ _ _ _ _ _ _ _ _ _ _ _ _ _ _ _ _ _ _ _ _ _ _ _ _ _ _ _ _ _ _ _ _ _ _ _ _ _ _ _ _ _ _ _ _ _ _ _ _ _ _ _ _ _
  | succ mm ih =>
    intro i hi x2 x3 x4 x6 x13 x14 x15 x16 x17 x18 x19 x20 x21 x22 x23 x24 x25 x26 x27 x28 x29 x30 x31 x32 x33 x34 x35 x36 x37 x38 x39 x40 x41 x42 x43 x44 x45 x46 x47 x48 x49 x50 x51 x52 x53 x54 x55 x56 x57 x58 x59 x60 x61 x62 x63 x64 x65 x66 x67 x68 x69 x70 x71 x72 x73 x74 x75 x76 x77 x78 x79 x80 x81 x82 x83 x84 x85 x86 x87 x88 x89 x90 x91 x92 x93 x94 x95 x96 x97 x98 x99 x100 x101 x102 x103 x104 x105 x106 x107 x108 x109 x110 x111 x112 x113 x114 x115 x116 x117 x118 x119 x120 x121 x122 x123 x124 x125 x126 x127 x128 x129 x130 x131 x132 x133 x134 x135 x136 x137 x138 x139 x140 x141 x142 x143 x144
    rw [loopK_eq evC_m, c7_5_eq]
    have l9 := s9.row.len_eq etV.under
    have l10 := s10.row.len_eq etV.under
    obtain ⟨a9, e1, e2⟩ := su_at s9 etV.under (i := i) (by omega)
    obtain ⟨a10, e3, e4⟩ := su_at s10 etV.under (i := i) (by omega)
    have hji := hj i
    have hlt := getD_lt now h64 i
    have e5 := fun t xo yo => subU t xo yo (now.getD i 0) (g.getD i 0) (by omega) hlt
    have e6 := fun h => cvUI ((now.getD i 0 - g.getD i 0 : Nat) : Int) h (by omega) (by split at hji <;> omega)
    have hw : IntKind.wrap .i64 ((i : Int) + 1) = ((i + 1 : Nat) : Int) := by rw [wrap_i64] <;> omega
    have hs : IntKind.wrap .i64 (((if q < i then d else 0 : Nat) : Int) + ((now.getD i 0 - g.getD i 0 : Nat) : Int)) = ((if q < i + 1 then d else 0 : Nat) : Int) := by
      have : (if q < i then d else 0) + (now.getD i 0 - g.getD i 0) = if q < i + 1 then d else 0 := by
        split at hji <;> split <;> split <;> omega
      rw [← Int.natCast_add, this, wrap_i64 (by omega) (by split <;> omega)]
    have hnl : ¬ ((now.getD i 0 : Nat) : Int) < ((g.getD i 0 : Nat) : Int) := by omega
    have ih' := ih (i + 1) (by omega)
    simp -implicitDefEqProofs (disch := omega) only [dcT, dcF, l9, l10, e1, e2, e3, e4, e5, e6, hs, hw, ↓cnd_true, ↓cnd_false, ↓Option.bind_some, ↓obH_some', bin_add, bin_sub, bin_mul, bin_lss, bin_leq, bin_gtr, bin_geq, bin_eql, bin_neq, un_not, un_neg, Option.bind_some, Option.bind_none, Option.map_some, cnd_true, cnd_false, pickV_true, pickV_false, gd_true, gd_false, gdV_true, gdV_false, gdH_true, gdH_false, gdS_true, gdS_false, wt_ff, wt_tt, wt_ft, wt_tf, wt_undef, obH_some', extractV_tuple, nilCheckV_ptr, againK_normal, againK_exit, againK_ret, blockK_normal, blockK_same, blockK_ret, seqK_normal, seqK_exit, seqK_ret, fin_done, if_true', if_false', Bool.not_true, Bool.not_false, idx0, idx1, idx2, idx3, idx4, chk_nil_l, chk_nil_r, done_nm]
    exact ih' _ _ _ _ _ _ _ _ _ _ _ _ _ _ _ _ _ _ _ _ _ _ _ _ _ _ _ _ _ _ _ _ _ _ _ _ _ _ _ _ _ _ _ _ _ _ _ _ _ _ _ _ _ _ _ _ _ _ _ _ _ _ _ _ _ _ _ _ _ _ _ _ _ _ _ _ _ _ _ _ _ _ _ _ _ _ _ _ _ _ _ _ _ _ _ _ _ _ _ _ _ _ _ _ _ _ _ _ _ _ _ _ _ _ _ _ _ _ _ _ _ _ _ _ _ _ _ _ _ _ _ _ _ _ _ _
/-- what follows a Send or a Take -/
theorem knows_tail {Q : Option (Value × Heap) → Prop} {h0 h : Heap} {L n p q8 ii : Nat} {av x9 wv : Value} {m m' : List (List Nat)} {g g' : List Nat} (E : En L h p n 0 m' g') (ok : EnOk n 0 m g) (ok' : EnOk n 0 m' g') (hw : withinM n n m m' = true) (hlen : g'.length = g.length) {q d : Nat} (hd : d ≤ 1) (hj : ∀ j, g'.getD j 0 = g.getD j 0 + (if j = q then d else 0))
    (c8 : Cells h q8 29 [.int .i64 n, wv]) (sw : SM h wv m) (s9 : SU h x9 g) (hin : In h0.blks.length No (nm h0) h) (k : Ex → St → Option (Value × Heap))
    (hk : ∀ h', En L h' p n 0 m' g' → In h0.blks.length No (nm h0) h' → ∀ (x2 x3 x4 x6 x8 x9 x10 x11 x12 x13 x14 x15 x16 x17 x18 x19 x20 x21 x22 x23 x24 x25 x26 x27 x28 x29 x30 x31 x32 x33 x34 x35 x36 x37 x38 x39 x40 x41 x42 x43 x44 x45 x46 x47 x48 x49 x50 x51 x52 x53 x54 x55 x56 x57 x58 x59 x60 x61 x62 x63 x64 x65 x66 x67 x68 x69 x70 x71 x72 x73 x74 x75 x76 x77 x78 x79 x80 x81 x82 x83 x84 x85 x86 x87 x88 x89 x90 x91 x92 x93 x94 x95 x96 x97 x98 x99 x100 x101 x102 x103 x104 x105 x106 x107 x108 x109 x110 x111 x112 x113 x114 x115 x116 x117 x118 x119 x120 x121 x122 x123 x124 x125 x126 x127 x128 x129 x130 x131 x132 x133 x134 x135 x136 x137 x138 x139 x140 x141 x142 x143 x144 : Value), Q (k .normal ⟨#[.int .i64 n, av, x2, x3, x4, .pointer (some ⟨p, 0, none⟩), x6, .int .i64 ii, x8, x9, x10, x11, x12, x13, x14, x15, x16, x17, x18, x19, x20, x21, x22, x23, x24, x25, x26, x27, x28, x29, x30, x31, x32, x33, x34, x35, x36, x37, x38, x39, x40, x41, x42, x43, x44, x45, x46, x47, x48, x49, x50, x51, x52, x53, x54, x55, x56, x57, x58, x59, x60, x61, x62, x63, x64, x65, x66, x67, x68, x69, x70, x71, x72, x73, x74, x75, x76, x77, x78, x79, x80, x81, x82, x83, x84, x85, x86, x87, x88, x89, x90, x91, x92, x93, x94, x95, x96, x97, x98, x99, x100, x101, x102, x103, x104, x105, x106, x107, x108, x109, x110, x111, x112, x113, x114, x115, x116, x117, x118, x119, x120, x121, x122, x123, x124, x125, x126, x127, x128, x129, x130, x131, x132, x133, x134, x135, x136, x137, x138, x139, x140, x141, x142, x143, x144], h'⟩)) :
    ∀ (x2 x3 x4 x6 x10 x11 x12 x13 x14 x15 x16 x17 x18 x19 x20 x21 x22 x23 x24 x25 x26 x27 x28 x29 x30 x31 x32 x33 x34 x35 x36 x37 x38 x39 x40 x41 x42 x43 x44 x45 x46 x47 x48 x49 x50 x51 x52 x53 x54 x55 x56 x57 x58 x59 x60 x61 x62 x63 x64 x65 x66 x67 x68 x69 x70 x71 x72 x73 x74 x75 x76 x77 x78 x79 x80 x81 x82 x83 x84 x85 x86 x87 x88 x89 x90 x91 x92 x93 x94 x95 x96 x97 x98 x99 x100 x101 x102 x103 x104 x105 x106 x107 x108 x109 x110 x111 x112 x113 x114 x115 x116 x117 x118 x119 x120 x121 x122 x123 x124 x125 x126 x127 x128 x129 x130 x131 x132 x133 x134 x135 x136 x137 x138 x139 x140 x141 x142 x143 x144 : Value), Q (codeK Try.prog (evC Try.prog) loopL c7_3 ⟨#[.int .i64 n, av, x2, x3, x4, .pointer (some ⟨p, 0, none⟩), x6, .int .i64 ii, .pointer (some ⟨q8, 0, none⟩), x9, x10, x11, x12, x13, x14, x15, x16, x17, x18, x19, x20, x21, x22, x23, x24, x25, x26, x27, x28, x29, x30, x31, x32, x33, x34, x35, x36, x37, x38, x39, x40, x41, x42, x43, x44, x45, x46, x47, x48, x49, x50, x51, x52, x53, x54, x55, x56, x57, x58, x59, x60, x61, x62, x63, x64, x65, x66, x67, x68, x69, x70, x71, x72, x73, x74, x75, x76, x77, x78, x79, x80, x81, x82, x83, x84, x85, x86, x87, x88, x89, x90, x91, x92, x93, x94, x95, x96, x97, x98, x99, x100, x101, x102, x103, x104, x105, x106, x107, x108, x109, x110, x111, x112, x113, x114, x115, x116, x117, x118, x119, x120, x121, x122, x123, x124, x125, x126, x127, x128, x129, x130, x131, x132, x133, x134, x135, x136, x137, x138, x139, x140, x141, x142, x143, x144], h⟩ k) := by
  intro x2 x3 x4 x6 x10 x11 x12 x13 x14 x15 x16 x17 x18 x19 x20 x21 x22 x23 x24 x25 x26 x27 x28 x29 x30 x31 x32 x33 x34 x35 x36 x37 x38 x39 x40 x41 x42 x43 x44 x45 x46 x47 x48 x49 x50 x51 x52 x53 x54 x55 x56 x57 x58 x59 x60 x61 x62 x63 x64 x65 x66 x67 x68 x69 x70 x71 x72 x73 x74 x75 x76 x77 x78 x79 x80 x81 x82 x83 x84 x85 x86 x87 x88 x89 x90 x91 x92 x93 x94 x95 x96 x97 x98 x99 x100 x101 x102 x103 x104 x105 x106 x107 x108 x109 x110 x111 x112 x113 x114 x115 x116 x117 x118 x119 x120 x121 x122 x123 x124 x125 x126 x127 x128 x129 x130 x131 x132 x133 x134 x135 x136 x137 x138 x139 x140 x141 x142 x143 x144
  rw [c7_3_eq]
  have hn := ok.n16
  have gl := ok.gl
  obtain ⟨ga, gc, h2, e2, y2, a2⟩ := spec_EGot E (by omega)
  have i2 := hin.trans (y2.inn hin.len)
  have E2 := E.ext y2
  have inner := knows_inner (Q := Q) (h := h2) (n := n) (p := p) (q8 := q8) (ii := ii) (av := av) (x9 := x9) (x10 := .slice ga g'.length gc) (g := g) (now := g') (by omega) (by omega) (by omega) hd hj ok'.g64 (s9.same y2.same) a2.su
    (seqK Try.prog (evC Try.prog) c7_6 k) (by
      intro mo hm0 hm1 x2 x3 x4 x6 x12 x13 x14 x15 x16 x17 x18 x19 x20 x21 x22 x23 x24 x25 x26 x27 x28 x29 x30 x31 x32 x33 x34 x35 x36 x37 x38 x39 x40 x41 x42 x43 x44 x45 x46 x47 x48 x49 x50 x51 x52 x53 x54 x55 x56 x57 x58 x59 x60 x61 x62 x63 x64 x65 x66 x67 x68 x69 x70 x71 x72 x73 x74 x75 x76 x77 x78 x79 x80 x81 x82 x83 x84 x85 x86 x87 x88 x89 x90 x91 x92 x93 x94 x95 x96 x97 x98 x99 x100 x101 x102 x103 x104 x105 x106 x107 x108 x109 x110 x111 x112 x113 x114 x115 x116 x117 x118 x119 x120 x121 x122 x123 x124 x125 x126 x127 x128 x129 x130 x131 x132 x133 x134 x135 x136 x137 x138 x139 x140 x141 x142 x143 x144
      obtain ⟨sv, h3, e3, y3, a3⟩ := spec_ESent E2.nm (goodM_small ok'.gd)
      obtain ⟨y3', m3⟩ := y3.amx
      have a3' : AM 53 h2.blks.length (am h3 h2) sv m' := a3.kp fun _ _ _ _ _ _ => rfl
      obtain ⟨h4, e4, y4⟩ := spec_MWithin (n := n) (n2 := n) ((sw.ext y2).ext y3') a3'.smV (goodM_small ok.gd) (goodM_small ok'.gd)
      rw [hw] at e4
      have l10 := ((a2.su.same y3'.same).same y4.same).row.len_eq etV.under
      have l9 := (((s9.same y2.same).same y3'.same).same y4.same).row.len_eq etV.under
      have c82 := c8.ext y2
      have i3 := i2.trans (y3'.inn i2.len)
      have i4 := i3.trans (y4.inn i3.len)
      have hg1 : ((g'.length : Nat) : Int) = n := by omega
      have hg2 : ((g.length : Nat) : Int) = n := by omega
      have := hk h4 ((E2.ext y3').ext y4) i4
      simp -implicitDefEqProofs (disch := omega) only [dcT, dcF, ↓c7_6_eq, ldM' c82, e3, e4, l10, l9, hg1, hg2, ne_eq, eq_self, not_true_eq_false, decide_false, m3, List.append_nil, ↓cnd_true, ↓cnd_false, ↓Option.bind_some, ↓obH_some', bin_add, bin_sub, bin_mul, bin_lss, bin_leq, bin_gtr, bin_geq, bin_eql, bin_neq, un_not, un_neg, Option.bind_some, Option.bind_none, Option.map_some, cnd_true, cnd_false, pickV_true, pickV_false, gd_true, gd_false, gdV_true, gdV_false, gdH_true, gdH_false, gdS_true, gdS_false, wt_ff, wt_tt, wt_ft, wt_tf, wt_undef, obH_some', extractV_tuple, nilCheckV_ptr, againK_normal, againK_exit, againK_ret, blockK_normal, blockK_same, blockK_ret, seqK_normal, seqK_exit, seqK_ret, fin_done, if_true', if_false', Bool.not_true, Bool.not_false, idx0, idx1, idx2, idx3, idx4, chk_nil_l, chk_nil_r, done_nm]
      exact this _ _ _ _ _ _ _ _ _ _ _ _ _ _ _ _ _ _ _ _ _ _ _ _ _ _ _ _ _ _ _ _ _ _ _ _ _ _ _ _ _ _ _ _ _ _ _ _ _ _ _ _ _ _ _ _ _ _ _ _ _ _ _ _ _ _ _ _ _ _ _ _ _ _ _ _ _ _ _ _ _ _ _ _ _ _ _ _ _ _ _ _ _ _ _ _ _ _ _ _ _ _ _ _ _ _ _ _ _ _ _ _ _ _ _ _ _ _ _ _ _ _ _ _ _ _ _ _ _ _ _ _ _ _ _ _ _ _ _ _ _) n 0 (by omega)
  rw [show ((0 : Nat) : Int) = 0 from rfl] at inner
  simp only [Nat.not_lt_zero, if_false] at inner
  rw [show ((0 : Nat) : Int) = 0 from rfl] at inner
  simp -implicitDefEqProofs (disch := omega) only [dcT, dcF, e2, ↓cnd_true, ↓cnd_false, ↓Option.bind_some, ↓obH_some', bin_add, bin_sub, bin_mul, bin_lss, bin_leq, bin_gtr, bin_geq, bin_eql, bin_neq, un_not, un_neg, Option.bind_some, Option.bind_none, Option.map_some, cnd_true, cnd_false, pickV_true, pickV_false, gd_true, gd_false, gdV_true, gdV_false, gdH_true, gdH_false, gdS_true, gdS_false, wt_ff, wt_tt, wt_ft, wt_tf, wt_undef, obH_some', extractV_tuple, nilCheckV_ptr, againK_normal, againK_exit, againK_ret, blockK_normal, blockK_same, blockK_ret, seqK_normal, seqK_exit, seqK_ret, fin_done, if_true', if_false', Bool.not_true, Bool.not_false, idx0, idx1, idx2, idx3, idx4, chk_nil_l, chk_nil_r, done_nm]
  exact inner _ _ _ _ _ _ _ _ _ _ _ _ _ _ _ _ _ _ _ _ _ _ _ _ _ _ _ _ _ _ _ _ _ _ _ _ _ _ _ _ _ _ _ _ _ _ _ _ _ _ _ _ _ _ _ _ _ _ _ _ _ _ _ _ _ _ _ _ _ _ _ _ _ _ _ _ _ _ _ _ _ _ _ _ _ _ _ _ _ _ _ _ _ _ _ _ _ _ _ _ _ _ _ _ _ _ _ _ _ _ _ _ _ _ _ _ _ _ _ _ _ _ _ _ _ _ _ _ _ _ _ _ _ _ _ _
theorem knows_loop {h0 : Heap} {n p : Nat} {av : Value} {l : List AT} (sa : SA h0 av l) (hto : ∀ a ∈ l, a.to < 2 ^ 64) (hll : l.length ≤ 30) (hp : h0.blks.length ≤ p) :
    ∀ (mm i : Nat) (h : Heap) (m : List (List Nat)) (g : List Nat), l.length = i + mm → En h0.blks.length h p n 0 m g → EnOk n 0 m g → In h0.blks.length No (nm h0) h →
    ∀ (x2 x3 x4 x6 x8 x9 x10 x11 x12 x13 x14 x15 x16 x17 x18 x19 x20 x21 x22 x23 x24 x25 x26 x27 x28 x29 x30 x31 x32 x33 x34 x35 x36 x37 x38 x39 x40 x41 x42 x43 x44 x45 x46 x47 x48 x49 x50 x51 x52 x53 x54 x55 x56 x57 x58 x59 x60 x61 x62 x63 x64 x65 x66 x67 x68 x69 x70 x71 x72 x73 x74 x75 x76 x77 x78 x79 x80 x81 x82 x83 x84 x85 x86 x87 x88 x89 x90 x91 x92 x93 x94 x95 x96 x97 x98 x99 x100 x101 x102 x103 x104 x105 x106 x107 x108 x109 x110 x111 x112 x113 x114 x115 x116 x117 x118 x119 x120 x121 x122 x123 x124 x125 x126 x127 x128 x129 x130 x131 x132 x133 x134 x135 x136 x137 x138 x139 x140 x141 x142 x143 x144 : Value), ∃ h', loopK Try.prog (evC Try.prog) c7_1 ⟨#[.int .i64 n, av, x2, x3, x4, .pointer (some ⟨p, 0, none⟩), x6, .int .i64 i, x8, x9, x10, x11, x12, x13, x14, x15, x16, x17, x18, x19, x20, x21, x22, x23, x24, x25, x26, x27, x28, x29, x30, x31, x32, x33, x34, x35, x36, x37, x38, x39, x40, x41, x42, x43, x44, x45, x46, x47, x48, x49, x50, x51, x52, x53, x54, x55, x56, x57, x58, x59, x60, x61, x62, x63, x64, x65, x66, x67, x68, x69, x70, x71, x72, x73, x74, x75, x76, x77, x78, x79, x80, x81, x82, x83, x84, x85, x86, x87, x88, x89, x90, x91, x92, x93, x94, x95, x96, x97, x98, x99, x100, x101, x102, x103, x104, x105, x106, x107, x108, x109, x110, x111, x112, x113, x114, x115, x116, x117, x118, x119, x120, x121, x122, x123, x124, x125, x126, x127, x128, x129, x130, x131, x132, x133, x134, x135, x136, x137, x138, x139, x140, x141, x142, x143, x144], h⟩ (blockK 0 (seqK Try.prog (evC Try.prog) c7_2 (retK Try.f7 Try.prog h0))) = some (.bool true, h') := by
  intro mm
  induction mm with
  | zero =>
    intro i h m g hi E ok hin x2 x3 x4 x6 x8 x9 x10 x11 x12 x13 x14 x15 x16 x17 x18 x19 x20 x21 x22 x23 x24 x25 x26 x27 x28 x29 x30 x31 x32 x33 x34 x35 x36 x37 x38 x39 x40 x41 x42 x43 x44 x45 x46 x47 x48 x49 x50 x51 x52 x53 x54 x55 x56 x57 x58 x59 x60 x61 x62 x63 x64 x65 x66 x67 x68 x69 x70 x71 x72 x73 x74 x75 x76 x77 x78 x79 x80 x81 x82 x83 x84 x85 x86 x87 x88 x89 x90 x91 x92 x93 x94 x95 x96 x97 x98 x99 x100 x101 x102 x103 x104 x105 x106 x107 x108 x109 x110 x111 x112 x113 x114 x115 x116 x117 x118 x119 x120 x121 x122 x123 x124 x125 x126 x127 x128 x129 x130 x131 x132 x133 x134 x135 x136 x137 x138 x139 x140 x141 x142 x143 x144
    rw [loopK_eq evC_m, c7_1_eq]
    have ln := (sa.same hin.same0).len
    simp -implicitDefEqProofs (disch := omega) only [dcT, dcF, ln, ↓c7_2_eq, ↓ret7, ↓cnd_true, ↓cnd_false, ↓Option.bind_some, ↓obH_some', bin_add, bin_sub, bin_mul, bin_lss, bin_leq, bin_gtr, bin_geq, bin_eql, bin_neq, un_not, un_neg, Option.bind_some, Option.bind_none, Option.map_some, cnd_true, cnd_false, pickV_true, pickV_false, gd_true, gd_false, gdV_true, gdV_false, gdH_true, gdH_false, gdS_true, gdS_false, wt_ff, wt_tt, wt_ft, wt_tf, wt_undef, obH_some', extractV_tuple, nilCheckV_ptr, againK_normal, againK_exit, againK_ret, blockK_normal, blockK_same, blockK_ret, seqK_normal, seqK_exit, seqK_ret, fin_done, if_true', if_false', Bool.not_true, Bool.not_false, idx0, idx1, idx2, idx3, idx4, chk_nil_l, chk_nil_r, done_nm]
    exact ⟨_, rfl⟩
  | succ mm ih =>
    intro i h m g hi E ok hin x2 x3 x4 x6 x8 x9 x10 x11 x12 x13 x14 x15 x16 x17 x18 x19 x20 x21 x22 x23 x24 x25 x26 x27 x28 x29 x30 x31 x32 x33 x34 x35 x36 x37 x38 x39 x40 x41 x42 x43 x44 x45 x46 x47 x48 x49 x50 x51 x52 x53 x54 x55 x56 x57 x58 x59 x60 x61 x62 x63 x64 x65 x66 x67 x68 x69 x70 x71 x72 x73 x74 x75 x76 x77 x78 x79 x80 x81 x82 x83 x84 x85 x86 x87 x88 x89 x90 x91 x92 x93 x94 x95 x96 x97 x98 x99 x100 x101 x102 x103 x104 x105 x106 x107 x108 x109 x110 x111 x112 x113 x114 x115 x116 x117 x118 x119 x120 x121 x122 x123 x124 x125 x126 x127 x128 x129 x130 x131 x132 x133 x134 x135 x136 x137 x138 x139 x140 x141 x142 x143 x144
    rw [loopK_eq evC_m, c7_1_eq]
    have ln := (sa.same hin.same0).len
    have hil : i < l.length := by omega
    obtain ⟨b, o, bv, hA⟩ := sa.at hil
    have hti := hto l[i] (List.getElem_mem hil)
    have A1 := hA h hin.same0
    have lb := A1.sb.row.len_eq etB.under
    by_cases hb : 300 < l[i].b.length
    · simp -implicitDefEqProofs (disch := omega) only [dcT, dcF, ln, A1.at_, faA4, ldB, A1.l4, lb, ↓ret7, ↓cnd_true, ↓cnd_false, ↓Option.bind_some, ↓obH_some', bin_add, bin_sub, bin_mul, bin_lss, bin_leq, bin_gtr, bin_geq, bin_eql, bin_neq, un_not, un_neg, Option.bind_some, Option.bind_none, Option.map_some, cnd_true, cnd_false, pickV_true, pickV_false, gd_true, gd_false, gdV_true, gdV_false, gdH_true, gdH_false, gdS_true, gdS_false, wt_ff, wt_tt, wt_ft, wt_tf, wt_undef, obH_some', extractV_tuple, nilCheckV_ptr, againK_normal, againK_exit, againK_ret, blockK_normal, blockK_same, blockK_ret, seqK_normal, seqK_exit, seqK_ret, fin_done, if_true', if_false', Bool.not_true, Bool.not_false, idx0, idx1, idx2, idx3, idx4, chk_nil_l, chk_nil_r, done_nm]
      exact ⟨_, rfl⟩
    have hnn := ok.n16
    have gl := ok.gl
    obtain ⟨wv, h2, e2, x2, a2⟩ := spec_ESent E (goodM_small ok.gd)
    have i2 := hin.trans (x2.inn hin.len)
    obtain ⟨ga, gc, h3, e3, x3, a3⟩ := spec_EGot (E.ext x2) (by omega)
    have i3 := i2.trans (x3.inn i2.len)
    obtain ⟨wa, wc, rfl⟩ := a2.shape
    have k4 := alM h3
    have k4' := mvar (h := h3) n wa m.length wc
    have c4 := mvar_cells h3 [.int .i64 0, .slice none 0 0] [.int .i64 n, .slice wa m.length wc] 29
    have s4 := mvar_same h3 (.cells [.int .i64 0, .slice none 0 0]) (.cells [.int .i64 n, .slice wa m.length wc]) 29
    have i4 := i3.trans (mvar_in (h := h3) i3.len (.cells [.int .i64 0, .slice none 0 0]) (.cells [.int .i64 n, .slice wa m.length wc]) 29)
    obtain ⟨csp, cp⟩ : ∃ cs, Cells h p 127 cs := let ⟨_, _, x⟩ := E; ⟨_, x.c⟩
    have hp3 : p < h3.blks.length := Nat.lt_of_lt_of_le cp.lt (Nat.le_trans x2.len x3.len)
    generalize hq : h3.blks.length = q8 at *
    generalize (h3.new (.cells [.int .i64 0, .slice none 0 0]) 29).put q8 (.cells [.int .i64 n, .slice wa m.length wc]) = h4 at *
    have S24 := x3.same.trans s4
    have E4 := ((E.ext x2).ext x3).same s4
    obtain ⟨cs4, cp4⟩ : ∃ cs, Cells h4 p 127 cs := let ⟨_, _, x⟩ := E4; ⟨_, x.c⟩
    have w4 := a2.same S24
    have g4 := a3.same s4
    have A4 := hA h4 i4.same0
    have hl4 : h0.blks.length ≤ h4.blks.length := i4.len
    have hw : IntKind.wrap .i64 ((i : Int) + 1) = ((i + 1 : Nat) : Int) := by rw [wrap_i64] <;> omega
    have nxt : ∀ m' g', EnOk n 0 m' g' → ∀ h', En h0.blks.length h' p n 0 m' g' → In h0.blks.length No (nm h0) h' → ∀ (x2 x3 x4 x6 x8 x9 x10 x11 x12 x13 x14 x15 x16 x17 x18 x19 x20 x21 x22 x23 x24 x25 x26 x27 x28 x29 x30 x31 x32 x33 x34 x35 x36 x37 x38 x39 x40 x41 x42 x43 x44 x45 x46 x47 x48 x49 x50 x51 x52 x53 x54 x55 x56 x57 x58 x59 x60 x61 x62 x63 x64 x65 x66 x67 x68 x69 x70 x71 x72 x73 x74 x75 x76 x77 x78 x79 x80 x81 x82 x83 x84 x85 x86 x87 x88 x89 x90 x91 x92 x93 x94 x95 x96 x97 x98 x99 x100 x101 x102 x103 x104 x105 x106 x107 x108 x109 x110 x111 x112 x113 x114 x115 x116 x117 x118 x119 x120 x121 x122 x123 x124 x125 x126 x127 x128 x129 x130 x131 x132 x133 x134 x135 x136 x137 x138 x139 x140 x141 x142 x143 x144 : Value), ∃ h2, blockK 1 (seqK Try.prog (evC Try.prog) c7_4 (againK Try.prog (evC Try.prog) c7_1 (blockK 0 (seqK Try.prog (evC Try.prog) c7_2 (retK Try.f7 Try.prog h0))))) .normal ⟨#[.int .i64 n, av, x2, x3, x4, .pointer (some ⟨p, 0, none⟩), x6, .int .i64 i, x8, x9, x10, x11, x12, x13, x14, x15, x16, x17, x18, x19, x20, x21, x22, x23, x24, x25, x26, x27, x28, x29, x30, x31, x32, x33, x34, x35, x36, x37, x38, x39, x40, x41, x42, x43, x44, x45, x46, x47, x48, x49, x50, x51, x52, x53, x54, x55, x56, x57, x58, x59, x60, x61, x62, x63, x64, x65, x66, x67, x68, x69, x70, x71, x72, x73, x74, x75, x76, x77, x78, x79, x80, x81, x82, x83, x84, x85, x86, x87, x88, x89, x90, x91, x92, x93, x94, x95, x96, x97, x98, x99, x100, x101, x102, x103, x104, x105, x106, x107, x108, x109, x110, x111, x112, x113, x114, x115, x116, x117, x118, x119, x120, x121, x122, x123, x124, x125, x126, x127, x128, x129, x130, x131, x132, x133, x134, x135, x136, x137, x138, x139, x140, x141, x142, x143, x144], h'⟩ = some (.bool true, h2) := by
      intro m' g' ok' h' E' i' x2 x3 x4 x6 x8 x9 x10 x11 x12 x13 x14 x15 x16 x17 x18 x19 x20 x21 x22 x23 x24 x25 x26 x27 x28 x29 x30 x31 x32 x33 x34 x35 x36 x37 x38 x39 x40 x41 x42 x43 x44 x45 x46 x47 x48 x49 x50 x51 x52 x53 x54 x55 x56 x57 x58 x59 x60 x61 x62 x63 x64 x65 x66 x67 x68 x69 x70 x71 x72 x73 x74 x75 x76 x77 x78 x79 x80 x81 x82 x83 x84 x85 x86 x87 x88 x89 x90 x91 x92 x93 x94 x95 x96 x97 x98 x99 x100 x101 x102 x103 x104 x105 x106 x107 x108 x109 x110 x111 x112 x113 x114 x115 x116 x117 x118 x119 x120 x121 x122 x123 x124 x125 x126 x127 x128 x129 x130 x131 x132 x133 x134 x135 x136 x137 x138 x139 x140 x141 x142 x143 x144
      have ih' := ih (i + 1) h' m' g' (by omega) E' ok' i'
      simp -implicitDefEqProofs (disch := omega) only [dcT, dcF, ↓c7_4_eq, hw, ↓cnd_true, ↓cnd_false, ↓Option.bind_some, ↓obH_some', bin_add, bin_sub, bin_mul, bin_lss, bin_leq, bin_gtr, bin_geq, bin_eql, bin_neq, un_not, un_neg, Option.bind_some, Option.bind_none, Option.map_some, cnd_true, cnd_false, pickV_true, pickV_false, gd_true, gd_false, gdV_true, gdV_false, gdH_true, gdH_false, gdS_true, gdS_false, wt_ff, wt_tt, wt_ft, wt_tf, wt_undef, obH_some', extractV_tuple, nilCheckV_ptr, againK_normal, againK_exit, againK_ret, blockK_normal, blockK_same, blockK_ret, seqK_normal, seqK_exit, seqK_ret, fin_done, if_true', if_false', Bool.not_true, Bool.not_false, idx0, idx1, idx2, idx3, idx4, chk_nil_l, chk_nil_r, done_nm]
      exact ih' _ _ _ _ _ _ _ _ _ _ _ _ _ _ _ _ _ _ _ _ _ _ _ _ _ _ _ _ _ _ _ _ _ _ _ _ _ _ _ _ _ _ _ _ _ _ _ _ _ _ _ _ _ _ _ _ _ _ _ _ _ _ _ _ _ _ _ _ _ _ _ _ _ _ _ _ _ _ _ _ _ _ _ _ _ _ _ _ _ _ _ _ _ _ _ _ _ _ _ _ _ _ _ _ _ _ _ _ _ _ _ _ _ _ _ _ _ _ _ _ _ _ _ _ _ _ _ _ _ _ _ _ _ _ _ _ _ _ _ _ _
    by_cases hop : l[i].op = 0
    · obtain ⟨sv, h5, e5, x5, E5, _⟩ := spec_ESend E4 hl4 ok l[i].to hti
      have ok5 := ok.send (toE n 0 l[i].to)
      have w5 := w4.kp (h' := h5) fun b all ty hb ht _ => x5.old b (List.getElem?_eq_some_iff.1 hb).1 fun hp' => by
        have hp' : b = p := hp'
        subst hp'
        unfold Cells at cp4
        rw [hb] at cp4
        simp only [Option.some.injEq, Blk.mk.injEq] at cp4
        rcases ht with ht | ht <;> exact absurd (cp4.2.1.symm.trans ht) (by decide)
      have g5 := g4.mod x5 fun b hb hp' => by have := g4.ge hb; have := x2.len; have : b = p := hp'; have := cp.lt; omega
      have c5 := c4.mod x5 fun hp' => by have : q8 = p := hp'; omega
      have i5 := i4.trans (x5.inn i4.len fun b hb hp' => by have : b = p := hp'; omega)
      have tail := knows_tail (Q := fun r => ∃ h', r = some (.bool true, h')) (ii := i) (av := av) E5 ok ok5 (within_upM ok.gd _ _) rfl (q := 0) (d := 0) (by omega) (fun j => by simp) c5 w5.smV (g5.sl etU.size) i5 _ (nxt _ _ ok5)
      simp -implicitDefEqProofs (disch := omega) only [dcT, dcF, ln, A1.at_, faA4, ldB, A1.l4, lb, e2, e3, k4, k4', A4.at_, faA0, faA3, mldInt, vld64, A4.l0, A4.l3, hop, eq_self, decide_true, e5, ↓cnd_true, ↓cnd_false, ↓Option.bind_some, ↓obH_some', bin_add, bin_sub, bin_mul, bin_lss, bin_leq, bin_gtr, bin_geq, bin_eql, bin_neq, un_not, un_neg, Option.bind_some, Option.bind_none, Option.map_some, cnd_true, cnd_false, pickV_true, pickV_false, gd_true, gd_false, gdV_true, gdV_false, gdH_true, gdH_false, gdS_true, gdS_false, wt_ff, wt_tt, wt_ft, wt_tf, wt_undef, obH_some', extractV_tuple, nilCheckV_ptr, againK_normal, againK_exit, againK_ret, blockK_normal, blockK_same, blockK_ret, seqK_normal, seqK_exit, seqK_ret, fin_done, if_true', if_false', Bool.not_true, Bool.not_false, idx0, idx1, idx2, idx3, idx4, chk_nil_l, chk_nil_r, done_nm]
      exact tail _ _ _ _ _ _ _ _ _ _ _ _ _ _ _ _ _ _ _ _ _ _ _ _ _ _ _ _ _ _ _ _ _ _ _ _ _ _ _ _ _ _ _ _ _ _ _ _ _ _ _ _ _ _ _ _ _ _ _ _ _ _ _ _ _ _ _ _ _ _ _ _ _ _ _ _ _ _ _ _ _ _ _ _ _ _ _ _ _ _ _ _ _ _ _ _ _ _ _ _ _ _ _ _ _ _ _ _ _ _ _ _ _ _ _ _ _ _ _ _ _ _ _ _ _ _ _ _ _ _ _ _ _ _ _ _ _ _ _
    · obtain ⟨h5, e5, x5, E5⟩ := spec_ETake E4 hl4 ok l[i].frm 1 l[i].to hti A4.sb (by omega)
      have ok5 := ok.take l[i].frm l[i].to l[i].b
      have one := takeG_one ok l[i].frm l[i].b
      obtain ⟨hlen, q, d, hd, hj⟩ := one
      have w5 := w4.kp (h' := h5) fun b all ty hb ht _ => x5.old b (List.getElem?_eq_some_iff.1 hb).1 fun hp' => by
        have hp' : b = p := hp'
        subst hp'
        unfold Cells at cp4
        rw [hb] at cp4
        simp only [Option.some.injEq, Blk.mk.injEq] at cp4
        rcases ht with ht | ht <;> exact absurd (cp4.2.1.symm.trans ht) (by decide)
      have g5 := g4.mod x5 fun b hb hp' => by have := g4.ge hb; have := x2.len; have : b = p := hp'; have := cp.lt; omega
      have c5 := c4.mod x5 fun hp' => by have : q8 = p := hp'; omega
      have i5 := i4.trans (x5.inn i4.len fun b hb hp' => by have : b = p := hp'; omega)
      have tail := knows_tail (Q := fun r => ∃ h', r = some (.bool true, h')) (ii := i) (av := av) E5 ok ok5 (within_takeM ok _ _ _) hlen hd hj c5 w5.smV (g5.sl etU.size) i5 _ (nxt _ _ ok5)
      rw [show ((1 : Nat) : Int) = 1 from rfl] at e5
      have hop' : decide (l[i].op = 0) = false := decide_eq_false hop
      simp -implicitDefEqProofs (disch := omega) only [dcT, dcF, ln, A1.at_, faA4, ldB, A1.l4, lb, e2, e3, k4, k4', A4.at_, faA0, faA1, faA3, mldInt, vld64, A4.l0, A4.l1, A4.l3, A4.l4, hop', e5, ↓cnd_true, ↓cnd_false, ↓Option.bind_some, ↓obH_some', bin_add, bin_sub, bin_mul, bin_lss, bin_leq, bin_gtr, bin_geq, bin_eql, bin_neq, un_not, un_neg, Option.bind_some, Option.bind_none, Option.map_some, cnd_true, cnd_false, pickV_true, pickV_false, gd_true, gd_false, gdV_true, gdV_false, gdH_true, gdH_false, gdS_true, gdS_false, wt_ff, wt_tt, wt_ft, wt_tf, wt_undef, obH_some', extractV_tuple, nilCheckV_ptr, againK_normal, againK_exit, againK_ret, blockK_normal, blockK_same, blockK_ret, seqK_normal, seqK_exit, seqK_ret, fin_done, if_true', if_false', Bool.not_true, Bool.not_false, idx0, idx1, idx2, idx3, idx4, chk_nil_l, chk_nil_r, done_nm]
      exact tail _ _ _ _ _ _ _ _ _ _ _ _ _ _ _ _ _ _ _ _ _ _ _ _ _ _ _ _ _ _ _ _ _ _ _ _ _ _ _ _ _ _ _ _ _ _ _ _ _ _ _ _ _ _ _ _ _ _ _ _ _ _ _ _ _ _ _ _ _ _ _ _ _ _ _ _ _ _ _ _ _ _ _ _ _ _ _ _ _ _ _ _ _ _ _ _ _ _ _ _ _ _ _ _ _ _ _ _ _ _ _ _ _ _ _ _ _ _ _ _ _ _ _ _ _ _ _ _ _ _ _ _ _ _ _ _ _ _ _
theorem mlaw_FullKnows (n : Int) (av : Value) (l : List AT) (h : Heap) (sa : SA h av l) (hto : ∀ a ∈ l, a.to < 2 ^ 64) : ∃ h', evC Try.prog 7 #[.int .i64 n, av] h = some (.bool true, h') := by
  rw [call7, c7_0_eq]
  obtain ⟨h1, e1, x1⟩ := spec_awake17 (nm h)
  have i1 : In h.blks.length No (nm h) h1 := x1.inn (Nat.le_refl _)
  have ln := (sa.same i1.same0).len
  by_cases c0 : n < 1
  · simp -implicitDefEqProofs (disch := omega) only [dcT, dcF, e1, ↓ret7, ↓cnd_true, ↓cnd_false, ↓Option.bind_some, ↓obH_some', bin_add, bin_sub, bin_mul, bin_lss, bin_leq, bin_gtr, bin_geq, bin_eql, bin_neq, un_not, un_neg, Option.bind_some, Option.bind_none, Option.map_some, cnd_true, cnd_false, pickV_true, pickV_false, gd_true, gd_false, gdV_true, gdV_false, gdH_true, gdH_false, gdS_true, gdS_false, wt_ff, wt_tt, wt_ft, wt_tf, wt_undef, obH_some', extractV_tuple, nilCheckV_ptr, againK_normal, againK_exit, againK_ret, blockK_normal, blockK_same, blockK_ret, seqK_normal, seqK_exit, seqK_ret, fin_done, if_true', if_false', Bool.not_true, Bool.not_false, idx0, idx1, idx2, idx3, idx4, chk_nil_l, chk_nil_r, done_nm]
    exact ⟨_, rfl⟩
  by_cases c1 : 8 < n
  · simp -implicitDefEqProofs (disch := omega) only [dcT, dcF, e1, ↓ret7, ↓cnd_true, ↓cnd_false, ↓Option.bind_some, ↓obH_some', bin_add, bin_sub, bin_mul, bin_lss, bin_leq, bin_gtr, bin_geq, bin_eql, bin_neq, un_not, un_neg, Option.bind_some, Option.bind_none, Option.map_some, cnd_true, cnd_false, pickV_true, pickV_false, gd_true, gd_false, gdV_true, gdV_false, gdH_true, gdH_false, gdS_true, gdS_false, wt_ff, wt_tt, wt_ft, wt_tf, wt_undef, obH_some', extractV_tuple, nilCheckV_ptr, againK_normal, againK_exit, againK_ret, blockK_normal, blockK_same, blockK_ret, seqK_normal, seqK_exit, seqK_ret, fin_done, if_true', if_false', Bool.not_true, Bool.not_false, idx0, idx1, idx2, idx3, idx4, chk_nil_l, chk_nil_r, done_nm]
    exact ⟨_, rfl⟩
  by_cases c2 : 30 < l.length
  · simp -implicitDefEqProofs (disch := omega) only [dcT, dcF, e1, ln, ↓ret7, ↓cnd_true, ↓cnd_false, ↓Option.bind_some, ↓obH_some', bin_add, bin_sub, bin_mul, bin_lss, bin_leq, bin_gtr, bin_geq, bin_eql, bin_neq, un_not, un_neg, Option.bind_some, Option.bind_none, Option.map_some, cnd_true, cnd_false, pickV_true, pickV_false, gd_true, gd_false, gdV_true, gdV_false, gdH_true, gdH_false, gdS_true, gdS_false, wt_ff, wt_tt, wt_ft, wt_tf, wt_undef, obH_some', extractV_tuple, nilCheckV_ptr, againK_normal, againK_exit, againK_ret, blockK_normal, blockK_same, blockK_ret, seqK_normal, seqK_exit, seqK_ret, fin_done, if_true', if_false', Bool.not_true, Bool.not_false, idx0, idx1, idx2, idx3, idx4, chk_nil_l, chk_nil_r, done_nm]
    exact ⟨_, rfl⟩
  obtain ⟨n, rfl⟩ : ∃ k : Nat, n = k := ⟨n.toNat, by omega⟩
  obtain ⟨p, h2, e2, x2, r2⟩ := spec_ENew n 0 h1
  have cf : 1 ≤ (n : Int) ∧ (n : Int) ≤ 16 ∧ 0 ≤ (0 : Int) ∧ (0 : Int) < n := by omega
  simp only [if_pos cf] at e2
  obtain ⟨lp, E⟩ := r2 cf
  have l1 : h.blks.length ≤ h1.blks.length := i1.len
  have E' : En h.blks.length h2 p n 0 (zerosM (n : Int).toNat) (List.replicate (n : Int).toNat 0) := let ⟨_, _, x⟩ := E; ⟨_, _, ⟨x.c, x.am.up l1, x.au.up l1⟩⟩
  have main := knows_loop sa hto (by omega) (by omega) l.length 0 h2 _ _ (by omega) E' (EnOk.zero cf) (i1.trans (x2.inn l1))
  rw [show ((0 : Nat) : Int) = 0 from rfl] at main
  simp -implicitDefEqProofs (disch := omega) only [dcT, dcF, e1, ln, e2, eqE, ne_eq, eq_self, not_true_eq_false, decide_false, ↓cnd_true, ↓cnd_false, ↓Option.bind_some, ↓obH_some', bin_add, bin_sub, bin_mul, bin_lss, bin_leq, bin_gtr, bin_geq, bin_eql, bin_neq, un_not, un_neg, Option.bind_some, Option.bind_none, Option.map_some, cnd_true, cnd_false, pickV_true, pickV_false, gd_true, gd_false, gdV_true, gdV_false, gdH_true, gdH_false, gdS_true, gdS_false, wt_ff, wt_tt, wt_ft, wt_tf, wt_undef, obH_some', extractV_tuple, nilCheckV_ptr, againK_normal, againK_exit, againK_ret, blockK_normal, blockK_same, blockK_ret, seqK_normal, seqK_exit, seqK_ret, fin_done, if_true', if_false', Bool.not_true, Bool.not_false, idx0, idx1, idx2, idx3, idx4, chk_nil_l, chk_nil_r, done_nm]
  exact main _ _ _ _ _ _ _ _ _ _ _ _ _ _ _ _ _ _ _ _ _ _ _ _ _ _ _ _ _ _ _ _ _ _ _ _ _ _ _ _ _ _ _ _ _ _ _ _ _ _ _ _ _ _ _ _ _ _ _ _ _ _ _ _ _ _ _ _ _ _ _ _ _ _ _ _ _ _ _ _ _ _ _ _ _ _ _ _ _ _ _ _ _ _ _ _ _ _ _ _ _ _ _ _ _ _ _ _ _ _ _ _ _ _ _ _ _ _ _ _ _ _ _ _ _ _ _ _ _ _ _ _ _ _ _ _ _ _ _ _ _
theorem law_FullKnows (h : Heap) (vs : List Value) (dd : List DT) (r : RdAll Try.prog h [3, 57] vs dd) : ∃ h', evC Try.prog 7 vs.toArray h = some (.bool true, h') := by
  obtain ⟨v, d, vs', ds', rfl, rfl, r0, r⟩ := r.cons_inv
  obtain ⟨v1, d1, vs', ds', rfl, rfl, r1, r⟩ := r.cons_inv
  obtain ⟨rfl, rfl⟩ := r.nil_inv
  obtain ⟨n, rfl, _⟩ := r0.i64 (by kernel_rfl)
  obtain ⟨l, sa, hto⟩ := r1.acts
  exact mlaw_FullKnows n _ l h sa hto
end Go.Am
