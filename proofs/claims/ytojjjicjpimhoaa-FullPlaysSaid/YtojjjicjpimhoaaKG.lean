/- What the functions answer, in the machine. -/
import Derived.Test.YtojjjicjpimhoaaKF
set_option linter.all false
namespace Go.Am
open Go.Proofs
set_option maxRecDepth 100000
set_option linter.all false
attribute [local congr] obind_congr obH_congr cnd_congr chk_congr retK_congr codeK_congr
variable {L : Nat} {h h' : Heap} {p : Nat} {n me : Int} {rv gv : Value} {m : List (List Nat)} {g : List Nat}
def canCol (g col : List Nat) : Bool := (List.range col.length).all fun k => decide (col.getD k 0 ≤ g.getD k 0)
def canColF (g col : List Nat) (i : Nat) : Bool := (List.range' i (col.length - i)).all fun k => decide (col.getD k 0 ≤ g.getD k 0)
def canE (n me : Int) (g : List Nat) (from' : Int) (bs : List UInt8) : Bool := match readM n bs with
  | none => false
  | some r => decide (0 ≤ from' ∧ from' < n ∧ from' ≠ me) && canCol g (columnM n r me)
theorem canColF_zero (g col : List Nat) : canColF g col 0 = canCol g col := by unfold canColF canCol; rw [Nat.sub_zero, List.range_eq_range']
theorem canColF_end (g col : List Nat) : canColF g col col.length = true := by unfold canColF; rw [Nat.sub_self]; rfl
theorem canColF_step (g col : List Nat) {i : Nat} (hi : i < col.length) : canColF g col i = (decide (col.getD i 0 ≤ g.getD i 0) && canColF g col (i + 1)) := by
  unfold canColF
  rw [show col.length - i = (col.length - (i + 1)) + 1 by omega, List.range'_succ]; rfl
theorem can_loop {h0 h : Heap} {p : Nat} {cv : Value} {col : List Nat} (E : EnC L h p n me rv gv m g) (sc : SU h cv col) (hc : col.length ≤ g.length) (hl : g.length ≤ 16) : ∀ (mm i : Nat), col.length = i + mm → ∀ (Ab Ac Ad Ae Af Ag Ah Ai Aj Ak Al An Ao Ap Aq Ar Au Av Aw Ax Ay Az Ba Bb Bc Bd Be Bf Bg Bh Bi Bj Bk Bl Bm Bn Bo Bp Bq Br Bs Bt Bu Bv Bw Bx By Bz Cd Ce Cf Cg Ch Ci Cj Ck Cl Cm Cn Co Cp Cq : Value),
    loopK Try.prog (evC Try.prog) c31_1 ⟨#[.pointer (some ⟨p, 0, none⟩),Ab,Ac,Ad,Ae,Af,Ag,Ah,Ai,Aj,Ak,Al,An,Ao,Ap,Aq,Ar,Au,Av,Aw,Ax,Ay,Az,Ba,Bb,Bc,Bd,Be,Bf,Bg,Bh,Bi,Bj,Bk,Bl,Bm,Bn,Bo,Bp,Bq,Br,Bs,Bt,Bu,Bv,Bw,Bx,By,Bz, cv, .int .i64 col.length, .int .i64 i,Cd,Ce,Cf,Cg,Ch,Ci,Cj,Ck,Cl,Cm,Cn,Co,Cp,Cq], h⟩ (blockK 0 (seqK Try.prog (evC Try.prog) c31_2 (retK Try.f31 Try.prog h0))) =
      some (.bool (canColF g col i), done h0 h) := by
  intro mm
  induction mm with
  | zero =>
    intro i hi Ab Ac Ad Ae Af Ag Ah Ai Aj Ak Al An Ao Ap Aq Ar Au Av Aw Ax Ay Az Ba Bb Bc Bd Be Bf Bg Bh Bi Bj Bk Bl Bm Bn Bo Bp Bq Br Bs Bt Bu Bv Bw Bx By Bz Cd Ce Cf Cg Ch Ci Cj Ck Cl Cm Cn Co Cp Cq
    rw [loopK_eq evC_m, c31_1_eq]
    rw [show i = col.length by omega, canColF_end]
    simp -implicitDefEqProofs (disch := omega) only [dcT, dcF, ↓c31_2_eq, ↓ret31, ↓cnd_true, ↓cnd_false, ↓Option.bind_some, ↓obH_some', bin_add, bin_sub, bin_mul, bin_lss, bin_leq, bin_gtr, bin_geq, bin_eql, bin_neq, un_not, un_neg, Option.bind_some, Option.bind_none, Option.map_some, cnd_true, cnd_false, pickV_true, pickV_false, gd_true, gd_false, gdV_true, gdV_false, gdH_true, gdH_false, gdS_true, gdS_false, wt_ff, wt_tt, wt_ft, wt_tf, wt_undef, obH_some', extractV_tuple, nilCheckV_ptr, againK_normal, againK_exit, againK_ret, blockK_normal, blockK_same, blockK_ret, seqK_normal, seqK_exit, seqK_ret, fin_done, if_true', if_false', Bool.not_true, Bool.not_false, idx0, idx1, idx2, idx3, idx4, chk_nil_l, chk_nil_r, done_nm]
  | succ mm ih =>
    intro i hi Ab Ac Ad Ae Af Ag Ah Ai Aj Ak Al An Ao Ap Aq Ar Au Av Aw Ax Ay Az Ba Bb Bc Bd Be Bf Bg Bh Bi Bj Bk Bl Bm Bn Bo Bp Bq Br Bs Bt Bu Bv Bw Bx By Bz Cd Ce Cf Cg Ch Ci Cj Ck Cl Cm Cn Co Cp Cq
    rw [loopK_eq evC_m, c31_1_eq]
    obtain ⟨a1, e1, e2⟩ := su_at sc etV.under (i := i) (by omega)
    obtain ⟨a3, e3, e4⟩ := su_at E.au.su etV.under (i := i) (by omega)
    have hw : IntKind.wrap .i64 ((i : Int) + 1) = ((i + 1 : Nat) : Int) := by rw [wrap_i64] <;> omega
    rw [canColF_step g col (by omega)]
    by_cases hlt : g.getD i 0 < col.getD i 0
    · rw [decide_eq_false (by omega), Bool.false_and]
      simp -implicitDefEqProofs (disch := omega) only [dcT, dcF, e1, e2, faE3, ldVv, E.l4, e3, e4, ↓ret31, ↓cnd_true, ↓cnd_false, ↓Option.bind_some, ↓obH_some', bin_add, bin_sub, bin_mul, bin_lss, bin_leq, bin_gtr, bin_geq, bin_eql, bin_neq, un_not, un_neg, Option.bind_some, Option.bind_none, Option.map_some, cnd_true, cnd_false, pickV_true, pickV_false, gd_true, gd_false, gdV_true, gdV_false, gdH_true, gdH_false, gdS_true, gdS_false, wt_ff, wt_tt, wt_ft, wt_tf, wt_undef, obH_some', extractV_tuple, nilCheckV_ptr, againK_normal, againK_exit, againK_ret, blockK_normal, blockK_same, blockK_ret, seqK_normal, seqK_exit, seqK_ret, fin_done, if_true', if_false', Bool.not_true, Bool.not_false, idx0, idx1, idx2, idx3, idx4, chk_nil_l, chk_nil_r, done_nm]
    · rw [decide_eq_true (show col.getD i 0 ≤ g.getD i 0 by omega), Bool.true_and]
      simp -implicitDefEqProofs (disch := omega) only [dcT, dcF, e1, e2, faE3, ldVv, E.l4, e3, e4, hw, ↓cnd_true, ↓cnd_false, ↓Option.bind_some, ↓obH_some', bin_add, bin_sub, bin_mul, bin_lss, bin_leq, bin_gtr, bin_geq, bin_eql, bin_neq, un_not, un_neg, Option.bind_some, Option.bind_none, Option.map_some, cnd_true, cnd_false, pickV_true, pickV_false, gd_true, gd_false, gdV_true, gdV_false, gdH_true, gdH_false, gdS_true, gdS_false, wt_ff, wt_tt, wt_ft, wt_tf, wt_undef, obH_some', extractV_tuple, nilCheckV_ptr, againK_normal, againK_exit, againK_ret, blockK_normal, blockK_same, blockK_ret, seqK_normal, seqK_exit, seqK_ret, fin_done, if_true', if_false', Bool.not_true, Bool.not_false, idx0, idx1, idx2, idx3, idx4, chk_nil_l, chk_nil_r, done_nm]
      exact ih (i + 1) (by omega) _ _ _ _ _ _ _ _ _ _ _ _ _ _ _ _ _ _ _ _ _ _ _ _ _ _ _ _ _ _ _ _ _ _ _ _ _ _ _ _ _ _ _ _ _ _ _ _ _ _ _ _ _ _ _ _ _ _ _ _ _ _
theorem columnM_len {n me : Int} {r : List (List Nat)} (gd : goodM n r = true) : (columnM n r me).length ≤ r.length := by
  unfold columnM
  split
  · simp [colM]
  · simp
theorem spec_ECan (E : En L h p n me m g) (ok : EnOk n me m g) (from' : Int) (num : Nat) {b : Value} {bs : List UInt8} (sb : SB h b bs) (hb : bs.length < 2 ^ 38) :
    ∃ h', evC Try.prog 31 #[.pointer (some ⟨p, 0, none⟩), .int .i64 from', .int .u64 num, b] h = some (.bool (canE n me g from' bs), h') ∧ HExt h h' := by
  rw [call31, c31_0_eq]
  obtain ⟨rv, gv, E⟩ := E
  have E0 := E.same (h' := nm h) ⟨Nat.le_refl _, fun _ _ => rfl⟩
  obtain ⟨wv, h2, e2,Ac, a2⟩ := spec_Read (n := n) (b := b) (bs := bs) sb.nm hb
  have i2 : In h.blks.length No (nm h) h2 := Ac.inn (Nat.le_refl _)
  obtain ⟨wa, wc, rfl⟩ := a2.shape
  have k3 := alM h2
  have k3' := mvar (h := h2) (readV n (readM n bs)) wa ((readM n bs).getD []).length wc
  have c3 := mvar_cells h2 [.int .i64 0, .slice none 0 0] [.int .i64 (readV n (readM n bs)), .slice wa ((readM n bs).getD []).length wc] 29
  have s3 := mvar_same h2 (.cells [.int .i64 0, .slice none 0 0]) (.cells [.int .i64 (readV n (readM n bs)), .slice wa ((readM n bs).getD []).length wc]) 29
  have i3 := i2.trans (mvar_in (h := h2) i2.len (.cells [.int .i64 0, .slice none 0 0]) (.cells [.int .i64 (readV n (readM n bs)), .slice wa ((readM n bs).getD []).length wc]) 29)
  generalize (h2.new (.cells [.int .i64 0, .slice none 0 0]) 29).put h2.blks.length (.cells [.int .i64 (readV n (readM n bs)), .slice wa ((readM n bs).getD []).length wc]) = h3 at *
  have E3 := E.same i3.same0
  have m3 := a2.smV.same s3
  cases hr : readM n bs with
  | none =>
    rw [hr] at e2
    rw [hr] at k3'
    rw [show (none : Option (List (List Nat))).isSome = false from rfl] at e2
    have ec : canE n me g from' bs = false := by unfold canE; rw [hr]
    rw [ec]
    simp -implicitDefEqProofs (disch := omega) only [dcT, dcF, faE0, mldInt, E0.l0, e2, k3, k3', ↓ret31, ↓cnd_true, ↓cnd_false, ↓Option.bind_some, ↓obH_some', bin_add, bin_sub, bin_mul, bin_lss, bin_leq, bin_gtr, bin_geq, bin_eql, bin_neq, un_not, un_neg, Option.bind_some, Option.bind_none, Option.map_some, cnd_true, cnd_false, pickV_true, pickV_false, gd_true, gd_false, gdV_true, gdV_false, gdH_true, gdH_false, gdS_true, gdS_false, wt_ff, wt_tt, wt_ft, wt_tf, wt_undef, obH_some', extractV_tuple, nilCheckV_ptr, againK_normal, againK_exit, againK_ret, blockK_normal, blockK_same, blockK_ret, seqK_normal, seqK_exit, seqK_ret, fin_done, if_true', if_false', Bool.not_true, Bool.not_false, idx0, idx1, idx2, idx3, idx4, chk_nil_l, chk_nil_r, done_nm]
    exact ⟨_, rfl, done_ext' i3⟩
  | some r =>
    have hg := readM_good hr
    rw [hr] at e2 k3' m3 c3
    rw [show (some r : Option (List (List Nat))).isSome = true from rfl, show readV n (some r) = n from rfl] at e2
    rw [show readV n (some r) = n from rfl] at k3' c3
    rw [show (some r).getD [] = r from rfl] at e2 k3' m3 c3
    have ec : canE n me g from' bs = (decide (0 ≤ from' ∧ from' < n ∧ from' ≠ me) && canCol g (columnM n r me)) := by unfold canE; rw [hr]
    rw [ec]
    by_cases h1 : 0 ≤ from'
    · by_cases h2 : from' < n
      · by_cases h3' : from' = me
        · rw [decide_eq_false (fun x => x.2.2 h3'), Bool.false_and]
          simp -implicitDefEqProofs (disch := omega) only [dcT, dcF, faE0, faE1, mldInt, E0.l0, e2, k3, k3', E3.l0, E3.l1, ↓ret31, ↓cnd_true, ↓cnd_false, ↓Option.bind_some, ↓obH_some', bin_add, bin_sub, bin_mul, bin_lss, bin_leq, bin_gtr, bin_geq, bin_eql, bin_neq, un_not, un_neg, Option.bind_some, Option.bind_none, Option.map_some, cnd_true, cnd_false, pickV_true, pickV_false, gd_true, gd_false, gdV_true, gdV_false, gdH_true, gdH_false, gdS_true, gdS_false, wt_ff, wt_tt, wt_ft, wt_tf, wt_undef, obH_some', extractV_tuple, nilCheckV_ptr, againK_normal, againK_exit, againK_ret, blockK_normal, blockK_same, blockK_ret, seqK_normal, seqK_exit, seqK_ret, fin_done, if_true', if_false', Bool.not_true, Bool.not_false, idx0, idx1, idx2, idx3, idx4, chk_nil_l, chk_nil_r, done_nm]
          exact ⟨_, rfl, done_ext' i3⟩
        · rw [decide_eq_true (show 0 ≤ from' ∧ from' < n ∧ from' ≠ me from ⟨h1, h2, h3'⟩), Bool.true_and]
          have hgi := (goodM_iff n r).1 hg.1
          obtain ⟨ca, cc, h5, e5,Af, a5⟩ := spec_Column (n := n) m3 (by have := hgi.1; omega) me
          have hlc := columnM_len (me := me) hg.1
          have := can_loop (h0 := h) (E3.ext Af) a5.su (by have := ok.gl; omega) (by have := ok.gl; omega) (columnM n r me).length 0 (by omega)
          rw [canColF_zero, show ((0 : Nat) : Int) = 0 from rfl] at this
          have ln := a5.su.row.len_eq etV.under
          simp -implicitDefEqProofs (disch := omega) only [dcT, dcF, faE0, faE1, mldInt, E0.l0, e2, k3, k3', E3.l0, E3.l1, ldM' c3, e5, ln, ↓cnd_true, ↓cnd_false, ↓Option.bind_some, ↓obH_some', bin_add, bin_sub, bin_mul, bin_lss, bin_leq, bin_gtr, bin_geq, bin_eql, bin_neq, un_not, un_neg, Option.bind_some, Option.bind_none, Option.map_some, cnd_true, cnd_false, pickV_true, pickV_false, gd_true, gd_false, gdV_true, gdV_false, gdH_true, gdH_false, gdS_true, gdS_false, wt_ff, wt_tt, wt_ft, wt_tf, wt_undef, obH_some', extractV_tuple, nilCheckV_ptr, againK_normal, againK_exit, againK_ret, blockK_normal, blockK_same, blockK_ret, seqK_normal, seqK_exit, seqK_ret, fin_done, if_true', if_false', Bool.not_true, Bool.not_false, idx0, idx1, idx2, idx3, idx4, chk_nil_l, chk_nil_r, done_nm]
          exact ⟨_, this _ _ _ _ _ _ _ _ _ _ _ _ _ _ _ _ _ _ _ _ _ _ _ _ _ _ _ _ _ _ _ _ _ _ _ _ _ _ _ _ _ _ _ _ _ _ _ _ _ _ _ _ _ _ _ _ _ _ _ _ _ _, done_ext' (i3.trans (Af.inn i3.len))⟩
      · rw [decide_eq_false (fun x => h2 x.2.1), Bool.false_and]
        simp -implicitDefEqProofs (disch := omega) only [dcT, dcF, faE0, faE1, mldInt, E0.l0, e2, k3, k3', E3.l0, E3.l1, ↓ret31, ↓cnd_true, ↓cnd_false, ↓Option.bind_some, ↓obH_some', bin_add, bin_sub, bin_mul, bin_lss, bin_leq, bin_gtr, bin_geq, bin_eql, bin_neq, un_not, un_neg, Option.bind_some, Option.bind_none, Option.map_some, cnd_true, cnd_false, pickV_true, pickV_false, gd_true, gd_false, gdV_true, gdV_false, gdH_true, gdH_false, gdS_true, gdS_false, wt_ff, wt_tt, wt_ft, wt_tf, wt_undef, obH_some', extractV_tuple, nilCheckV_ptr, againK_normal, againK_exit, againK_ret, blockK_normal, blockK_same, blockK_ret, seqK_normal, seqK_exit, seqK_ret, fin_done, if_true', if_false', Bool.not_true, Bool.not_false, idx0, idx1, idx2, idx3, idx4, chk_nil_l, chk_nil_r, done_nm]
        exact ⟨_, rfl, done_ext' i3⟩
    · rw [decide_eq_false (fun x => h1 x.1), Bool.false_and]
      simp -implicitDefEqProofs (disch := omega) only [dcT, dcF, faE0, faE1, mldInt, E0.l0, e2, k3, k3', E3.l0, E3.l1, ↓ret31, ↓cnd_true, ↓cnd_false, ↓Option.bind_some, ↓obH_some', bin_add, bin_sub, bin_mul, bin_lss, bin_leq, bin_gtr, bin_geq, bin_eql, bin_neq, un_not, un_neg, Option.bind_some, Option.bind_none, Option.map_some, cnd_true, cnd_false, pickV_true, pickV_false, gd_true, gd_false, gdV_true, gdV_false, gdH_true, gdH_false, gdS_true, gdS_false, wt_ff, wt_tt, wt_ft, wt_tf, wt_undef, obH_some', extractV_tuple, nilCheckV_ptr, againK_normal, againK_exit, againK_ret, blockK_normal, blockK_same, blockK_ret, seqK_normal, seqK_exit, seqK_ret, fin_done, if_true', if_false', Bool.not_true, Bool.not_false, idx0, idx1, idx2, idx3, idx4, chk_nil_l, chk_nil_r, done_nm]
      exact ⟨_, rfl, done_ext' i3⟩
theorem goodM_up {n : Int} {m : List (List Nat)} (gd : goodM n m = true) (i : Int) (to : Nat) : goodM n (upM n m i to) = true := by
  unfold upM
  split
  · rename_i hc
    have hg := (goodM_iff n m).1 gd
    refine (goodM_iff n _).2 ⟨⟨hg.1.1, hg.1.2.1, by rw [List.length_set]; exact hg.1.2.2⟩, fun r hr => ?_⟩
    rcases List.mem_or_eq_of_mem_set hr with h | rfl
    · exact hg.2 r h
    · rw [up1_len]; exact goodM_rows gd (by omega)
  · exact gd
def takeG (n me : Int) (g : List Nat) (from' : Int) (bs : List UInt8) : List Nat := if canE n me g from' bs = true then (upV g from').1 else g
def takeM (n me : Int) (m : List (List Nat)) (g : List Nat) (from' : Int) (to : Nat) (bs : List UInt8) : List (List Nat) := if canE n me g from' bs = true then joinM m (upM n ((readM n bs).getD []) from' to) else m
theorem spec_ETake (E : En L h p n me m g) (hL : L ≤ h.blks.length) (ok : EnOk n me m g) (from' : Int) (num to : Nat) (hto : to < 2 ^ 64) {b : Value} {bs : List UInt8} (sb : SB h b bs) (hb : bs.length < 2 ^ 38) :
    ∃ h', evC Try.prog 30 #[.pointer (some ⟨p, 0, none⟩), .int .i64 from', .int .u64 num, .int .u64 to, b] h = some (.bool (canE n me g from' bs), h') ∧ HMod (Just p) h h' ∧ En L h' p n me (takeM n me m g from' to bs) (takeG n me g from' bs) := by
  rw [call30, c30_0_eq]
  have E0 := E.nm
  obtain ⟨h1, e1,Ab⟩ := spec_ECan E0 ok from' num sb.nm hb
  have i1 : In h.blks.length (Just p) (nm h) h1 := Ab.inn (Nat.le_refl _)
  unfold takeM takeG
  cases hcan : canE n me g from' bs with
  | false =>
    rw [hcan] at e1
    simp -implicitDefEqProofs (disch := omega) only [e1, ↓ret30, ↓cnd_true, ↓cnd_false, ↓Option.bind_some, ↓obH_some', bin_add, bin_sub, bin_mul, bin_lss, bin_leq, bin_gtr, bin_geq, bin_eql, bin_neq, un_not, un_neg, Option.bind_some, Option.bind_none, Option.map_some, cnd_true, cnd_false, pickV_true, pickV_false, gd_true, gd_false, gdV_true, gdV_false, gdH_true, gdH_false, gdS_true, gdS_false, wt_ff, wt_tt, wt_ft, wt_tf, wt_undef, obH_some', extractV_tuple, nilCheckV_ptr, againK_normal, againK_exit, againK_ret, blockK_normal, blockK_same, blockK_ret, seqK_normal, seqK_exit, seqK_ret, fin_done, if_true', if_false', Bool.not_true, Bool.not_false, idx0, idx1, idx2, idx3, idx4, chk_nil_l, chk_nil_r, done_nm]
    exact ⟨_, rfl, done_mod i1, (E0.ext Ab).done⟩
  | true =>
    rw [hcan] at e1
    obtain ⟨r, hr, hfrom⟩ : ∃ r, readM n bs = some r ∧ 0 ≤ from' ∧ from' < n := by
      unfold canE at hcan
      cases hr : readM n bs with
      | none => rw [hr] at hcan; cases hcan
      | some r =>
        rw [hr] at hcan
        simp only [Bool.and_eq_true, decide_eq_true_eq] at hcan
        exact ⟨r, rfl, hcan.1.1, hcan.1.2.1⟩
    have hg := readM_good hr
    rw [hr]
    rw [show (some r).getD [] = r from rfl]
    obtain ⟨rv, gv, E⟩ := E
    have E1 := (E.same (h' := nm h) ⟨Nat.le_refl _, fun _ _ => rfl⟩).ext Ab
    have sb1 : SB h1 b bs := sb.nm.same Ab.same
    obtain ⟨wv, h2, e2,Ac, a2⟩ := spec_Read (n := n) (b := b) (bs := bs) sb1 hb
    rw [hr] at e2 a2
    rw [show (some r : Option (List (List Nat))).isSome = true from rfl, show readV n (some r) = n from rfl] at e2
    rw [show (some r).getD [] = r from rfl] at a2
    have i2 := i1.trans (Ac.inn i1.len)
    obtain ⟨wa, wc, rfl⟩ := a2.shape
    have k3 := alM h2
    have k3' := mvar (h := h2) n wa r.length wc
    have c3 := mvar_cells h2 [.int .i64 0, .slice none 0 0] [.int .i64 n, .slice wa r.length wc] 29
    have s3 := mvar_same h2 (.cells [.int .i64 0, .slice none 0 0]) (.cells [.int .i64 n, .slice wa r.length wc]) 29
    have i3 := i2.trans (show In h.blks.length (Just p) h2 _ from (In.new i2.len (.cells [.int .i64 0, .slice none 0 0]) 29).trans (In.put (Nat.le_trans i2.len (Same.new h2 (.cells [.int .i64 0, .slice none 0 0]) 29).1) (.inl i2.len) (.cells [.int .i64 n, .slice wa r.length wc])))
    have lm : p < h2.blks.length := Nat.lt_of_lt_of_le E1.lt Ac.len
    have hne3 : h2.blks.length ≠ p := by omega
    have pL : h.blks.length ≤ h2.blks.length := i2.len
    generalize hq : h2.blks.length = q3 at *
    generalize (h2.new (.cells [.int .i64 0, .slice none 0 0]) 29).put q3 (.cells [.int .i64 n, .slice wa r.length wc]) = h3 at *
    have E3 := (E1.ext Ac).same s3
    have a3 := a2.same s3
    obtain ⟨ua, uc, h4, e4,Ae, a4⟩ := spec_Up h3 gv g E3.au.su (by have := ok.gl; have := (goodM_iff n m).1 ok.gd; omega) ok.g64 from'
    have i4 := i3.trans (Ae.inn i3.len)
    have E4 := E3.ext Ae
    have c4 := c3.ext Ae
    have a34 := a3.same Ae.same
    have st5 := storeN_blk E4.c (o := 4) (vs := [.slice ua (upV g from').1.length uc]) (by simp)
    rw [show List.take 4 [Value.int .i64 n, .int .i64 me, .int .i64 n, rv, gv] ++ [Value.slice ua (upV g from').1.length uc] ++ List.drop (4 + [Value.slice ua (upV g from').1.length uc].length) [Value.int .i64 n, .int .i64 me, .int .i64 n, rv, gv] = [.int .i64 n, .int .i64 me, .int .i64 n, rv, .slice ua (upV g from').1.length uc] from rfl] at st5
    have pu : ∀ {h : Heap} {v : Value} {l : List Nat} {n0 p : Nat} {cs : List Value} (body : Body), Cells h p 127 cs → AU n0 h v l → AU n0 (h.put p body) v l := fun {h v l n0 p cs} body c a => a.keep fun b _ hv => Heap.put_other (fun e => by
      subst e
      obtain ⟨all, h1⟩ := a.blk hv
      unfold Cells at c
      rw [c] at h1
      simp only [Option.some.injEq, Blk.mk.injEq] at h1
      exact absurd h1.2.1 (by decide)) _
    have l3L : L ≤ h3.blks.length := Nat.le_trans hL i3.len
    have am5 := E4.am.put E4.c (by decide) (by decide) (.cells [.int .i64 n, .int .i64 me, .int .i64 n, rv, .slice ua (upV g from').1.length uc])
    have au5 := pu (.cells [.int .i64 n, .int .i64 me, .int .i64 n, rv, .slice ua (upV g from').1.length uc]) E4.c (a4.up (n1 := L) l3L)
    have E5 : EnC L (h4.put p (.cells [.int .i64 n, .int .i64 me, .int .i64 n, rv, .slice ua (upV g from').1.length uc])) p n me rv (.slice ua (upV g from').1.length uc) m (upV g from').1 := ⟨E4.c.put _, am5, au5⟩
    have i5 : In h.blks.length (Just p) h4 _ := In.put i4.len (.inr (show Just p p from rfl)) (.cells [.int .i64 n, .int .i64 me, .int .i64 n, rv, .slice ua (upV g from').1.length uc])
    have i5 := i4.trans i5
    have c5 := c4.keepPut (q := p) (by omega) (.cells [.int .i64 n, .int .i64 me, .int .i64 n, rv, .slice ua (upV g from').1.length uc])
    have a5 := a34.put E4.c (by decide) (by decide) (.cells [.int .i64 n, .int .i64 me, .int .i64 n, rv, .slice ua (upV g from').1.length uc])
    generalize h4.put p (.cells [.int .i64 n, .int .i64 me, .int .i64 n, rv, .slice ua (upV g from').1.length uc]) = h5 at *
    obtain ⟨jv, h6, e6,Ag, a6⟩ := spec_MUp (h := nm h5) (n := n) (a5.smV.nm) (goodM_small hg.1) hg.2 from' to hto
    obtain ⟨Ag', m6⟩ := Ag.amx
    have E6 := E5.ext Ag'
    have a6' : AM 53 h5.blks.length (am h6 h5) jv (upM n r from' to) := a6.kp fun _ _ _ _ _ _ => rfl
    have gu := goodM_up (n := n) (m := r) hg.1 from' to
    obtain ⟨ov, h7, e7,Ah, a7⟩ := spec_MJoin (n := n) (n2 := n) E6.am.smV a6'.smV (goodM_small ok.gd) (goodM_small gu)
    rw [if_pos (okJ_of ok.gd gu), if_pos (okJ_of ok.gd gu)] at e7
    rw [if_pos (okJ_of ok.gd gu)] at a7
    obtain ⟨oa, oc, rfl⟩ := a7.shape
    have E7 := E6.ext Ah
    have i6 := i5.trans (Ag'.inn i5.len)
    have i7 := i6.trans (Ah.inn i6.len)
    have st8 := storeN_blk E7.c (o := 2) (vs := [.int .i64 n, .slice oa (joinM m (upM n r from' to)).length oc]) (by simp)
    rw [show List.take 2 [Value.int .i64 n, .int .i64 me, .int .i64 n, rv, .slice ua (upV g from').1.length uc] ++ [Value.int .i64 n, .slice oa (joinM m (upM n r from' to)).length oc] ++ List.drop (2 + [Value.int .i64 n, .slice oa (joinM m (upM n r from' to)).length oc].length) [Value.int .i64 n, .int .i64 me, .int .i64 n, rv, .slice ua (upV g from').1.length uc] = [.int .i64 n, .int .i64 me, .int .i64 n, .slice oa (joinM m (upM n r from' to)).length oc, .slice ua (upV g from').1.length uc] from rfl] at st8
    have am8 := (a7.up (n1 := L) (Nat.le_trans hL i6.len)).put E7.c (by decide) (by decide) (.cells [.int .i64 n, .int .i64 me, .int .i64 n, .slice oa (joinM m (upM n r from' to)).length oc, .slice ua (upV g from').1.length uc])
    have au8 := pu (.cells [.int .i64 n, .int .i64 me, .int .i64 n, .slice oa (joinM m (upM n r from' to)).length oc, .slice ua (upV g from').1.length uc]) E7.c E7.au
    simp -implicitDefEqProofs (disch := omega) only [dcT, dcF, e1, faE0, mldInt, E1.l0, e2, k3, k3', faE3, ldVv, E3.l4, e4, stVv, st5, faE2, E5.ldm, ldM' c5, e6, e7, stMo, st8, m6, List.append_nil, ↓ret30, ↓cnd_true, ↓cnd_false, ↓Option.bind_some, ↓obH_some', bin_add, bin_sub, bin_mul, bin_lss, bin_leq, bin_gtr, bin_geq, bin_eql, bin_neq, un_not, un_neg, Option.bind_some, Option.bind_none, Option.map_some, cnd_true, cnd_false, pickV_true, pickV_false, gd_true, gd_false, gdV_true, gdV_false, gdH_true, gdH_false, gdS_true, gdS_false, wt_ff, wt_tt, wt_ft, wt_tf, wt_undef, obH_some', extractV_tuple, nilCheckV_ptr, againK_normal, againK_exit, againK_ret, blockK_normal, blockK_same, blockK_ret, seqK_normal, seqK_exit, seqK_ret, fin_done, if_true', if_false', Bool.not_true, Bool.not_false, idx0, idx1, idx2, idx3, idx4, chk_nil_l, chk_nil_r, done_nm]
    exact ⟨_, rfl, done_mod (i7.trans (In.put i7.len (.inr (show Just p p from rfl)) _)),En.done ⟨_, _, ⟨E7.c.put _, am8, au8⟩⟩⟩
end Go.Am
namespace Go.Am
open Go.Proofs
set_option maxRecDepth 100000
set_option linter.all false
attribute [local congr] obind_congr obH_congr cnd_congr chk_congr retK_congr codeK_congr
theorem up1_lt {to k : Nat} {r : List Nat} (h : ∀ y ∈ r, y < 2 ^ 64) : ∀ y ∈ up1 to k r, y < 2 ^ 64 := by
  intro y hy
  obtain ⟨j, hj, rfl⟩ := List.getElem_of_mem hy
  rw [up1_len] at hj
  have hg := up1_get to k r j hj
  have := getD_lt r h j
  rw [List.getD_eq_getElem?_getD, List.getElem?_eq_getElem (by rw [up1_len]; exact hj)] at hg
  simp only [Option.getD_some] at hg
  rw [hg]
  split
  · rename_i hc; omega
  · exact this
theorem upM_lt {n : Int} {m : List (List Nat)} (h : ∀ r ∈ m, ∀ y ∈ r, y < 2 ^ 64) (i : Int) (to : Nat) : ∀ r ∈ upM n m i to, ∀ y ∈ r, y < 2 ^ 64 := by
  unfold upM
  split
  · intro r hr
    rcases List.mem_or_eq_of_mem_set hr with h' | rfl
    · exact h r h'
    · refine up1_lt fun y hy => ?_
      rw [List.getD_eq_getElem?_getD] at hy
      cases e : m[i.toNat]? with
      | none => rw [e] at hy; simp at hy
      | some x => rw [e] at hy; exact h x (List.mem_of_getElem? e) y hy
  · exact h
theorem joinV_lt {a b : List Nat} (ha : ∀ y ∈ a, y < 2 ^ 64) (hb : ∀ y ∈ b, y < 2 ^ 64) : ∀ y ∈ joinV a b, y < 2 ^ 64 := by
  intro y hy
  obtain ⟨j, hj, rfl⟩ := List.getElem_of_mem hy
  have hg := joinV_get a b j
  have h1 := getD_lt a ha j
  have h2 := getD_lt b hb j
  rw [List.getD_eq_getElem?_getD, List.getElem?_eq_getElem hj] at hg
  simp only [Option.getD_some] at hg
  omega
theorem getD_row {m : List (List Nat)} (h : ∀ r ∈ m, ∀ y ∈ r, y < 2 ^ 64) (k : Nat) : ∀ y ∈ m.getD k [], y < 2 ^ 64 := by
  intro y hy
  rw [List.getD_eq_getElem?_getD] at hy
  cases e : m[k]? with
  | none => rw [e] at hy; simp at hy
  | some x => rw [e] at hy; exact h x (List.mem_of_getElem? e) y hy
theorem joinM_lt {a b : List (List Nat)} (ha : ∀ r ∈ a, ∀ y ∈ r, y < 2 ^ 64) (hb : ∀ r ∈ b, ∀ y ∈ r, y < 2 ^ 64) : ∀ r ∈ joinM a b, ∀ y ∈ r, y < 2 ^ 64 := by
  intro r hr
  obtain ⟨k, hk, rfl⟩ := List.getElem_of_mem hr
  rw [joinM_len] at hk
  have := joinM_get a b k hk
  rw [List.getD_eq_getElem?_getD, List.getElem?_eq_getElem (by rw [joinM_len]; exact hk)] at this
  simp only [Option.getD_some] at this
  rw [this]
  exact joinV_lt (getD_row ha k) (getD_row hb k)
theorem upV_one {g : List Nat} (hg : ∀ y ∈ g, y < 2 ^ 64) {i : Int} (h0 : 0 ≤ i) (hi : i < g.length) (hl : g.length ≤ 16) :
    (upV g i).1.length = g.length ∧ (∀ y ∈ (upV g i).1, y < 2 ^ 64) ∧ ∃ d : Nat, d ≤ 1 ∧ ∀ j, (upV g i).1.getD j 0 = g.getD j 0 + (if j = i.toNat then d else 0) := by
  obtain ⟨i, rfl⟩ : ∃ k : Nat, i = k := ⟨i.toNat, by omega⟩
  unfold upV
  by_cases hc : (i : Int) < 0 ∨ 64 ≤ (i : Int) ∨ atI g i = 2 ^ 64 - 1
  · rw [if_pos hc]; exact ⟨rfl, hg, 0, by omega, fun j => by simp⟩
  · rw [if_neg hc]
    have hlong : longV g (i + 1) = g := by
      unfold longV
      rw [show i + 1 - g.length = 0 by omega]; simp
    have hat : atI g i = g.getD i 0 := by unfold atI; rw [if_neg (by omega), Int.toNat_natCast]
    have h64 := getD_lt g hg i
    simp only [Int.toNat_natCast, hlong]
    rw [hat] at hc ⊢
    refine ⟨by simp, fun y hy => ?_, 1, by omega, fun j => ?_⟩
    · rcases List.mem_or_eq_of_mem_set hy with h | rfl
      · exact hg y h
      · omega
    · rw [set_getD _ _ _ _ (by omega)]
      by_cases h : j = i
      · subst h; rw [if_pos rfl, if_pos rfl]
      · rw [if_neg h, if_neg h, Nat.add_zero]
variable {n me : Int} {m : List (List Nat)} {g : List Nat}
theorem EnOk.n16 (ok : EnOk n me m g) : 1 ≤ n ∧ n ≤ 16 := by have := (goodM_iff n m).1 ok.gd; exact ⟨this.1.1, this.1.2.1⟩
theorem EnOk.send (ok : EnOk n me m g) (to : Nat) : EnOk n me (upM n m me to) g := ⟨goodM_up ok.gd _ _, ok.me0, ok.men, ok.gl, upM_lt ok.m64 _ _, ok.g64⟩
theorem canE_some {from' : Int} {bs : List UInt8} (h : canE n me g from' bs = true) : ∃ r, readM n bs = some r ∧ 0 ≤ from' ∧ from' < n ∧ from' ≠ me ∧ canCol g (columnM n r me) = true := by
  unfold canE at h
  cases hr : readM n bs with
  | none => rw [hr] at h; cases h
  | some r =>
    rw [hr] at h
    simp only [Bool.and_eq_true, decide_eq_true_eq] at h
    exact ⟨r, rfl, h.1.1, h.1.2.1, h.1.2.2, h.2⟩
theorem EnOk.take (ok : EnOk n me m g) (from' : Int) (to : Nat) (bs : List UInt8) : EnOk n me (takeM n me m g from' to bs) (takeG n me g from' bs) := by
  unfold takeM takeG
  split
  · rename_i hc
    obtain ⟨r, hr, h0, h1, _⟩ := canE_some hc
    have hg := readM_good hr
    have hn := ok.n16
    have hu := upV_one ok.g64 h0 (by have := ok.gl; omega) (by have := ok.gl; omega)
    rw [hr]
    exact ⟨goodM_join ok.gd (goodM_up hg.1 _ _), ok.me0, ok.men, by rw [hu.1]; exact ok.gl, joinM_lt ok.m64 (upM_lt hg.2 _ _), hu.2.1⟩
  · exact ok
theorem EnOk.zero (hn : 1 ≤ n ∧ n ≤ 16 ∧ 0 ≤ me ∧ me < n) : EnOk n me (zerosM n.toNat) (List.replicate n.toNat 0) := by
  have e : zerosM n.toNat = List.replicate n.toNat (List.replicate n.toNat 0) := rfl
  refine ⟨(goodM_iff n _).2 ⟨⟨hn.1, hn.2.1, by rw [e, List.length_replicate]; omega⟩, fun r hr => ?_⟩, hn.2.2.1, hn.2.2.2, by simp; omega, fun r hr y hy => ?_, fun y hy => ?_⟩
  · rw [e] at hr; rw [(List.mem_replicate.1 hr).2, List.length_replicate]; omega
  · rw [e] at hr; rw [(List.mem_replicate.1 hr).2] at hy; rw [(List.mem_replicate.1 hy).2]; omega
  · rw [(List.mem_replicate.1 hy).2]; omega
theorem within_of {a b : List (List Nat)} (ga : goodM n a = true) (gb : goodM n b = true) (h : ∀ k j, (a.getD k []).getD j 0 ≤ (b.getD k []).getD j 0) : withinM n n a b = true := by
  unfold withinM okJ
  rw [ga, gb, decide_eq_true rfl, wiM_of]
  · rfl
  · intro k _ hk
    unfold wi1
    exact decide_eq_true (cmpV_le fun j => h k j)
theorem within_upM (gd : goodM n m = true) (i : Int) (to : Nat) : withinM n n m (upM n m i to) = true := by
  refine within_of gd (goodM_up gd i to) fun k j => ?_
  unfold upM
  split
  · rename_i hc
    have hg := (goodM_iff n m).1 gd
    by_cases hk : k = i.toNat
    · subst hk
      rw [lset_getD (by omega)]
      by_cases hj : j < (m.getD i.toNat []).length
      · rw [up1_get _ _ _ _ hj]; split <;> omega
      · have : (m.getD i.toNat []).getD j 0 = 0 := by rw [List.getD_eq_getElem?_getD, List.getElem?_eq_none (by omega)]; rfl
        omega
    · have : (m.set i.toNat (up1 to n.toNat (m.getD i.toNat []))).getD k [] = m.getD k [] := by
        rw [List.getD_eq_getElem?_getD, List.getElem?_set_ne (Ne.symm hk), List.getD_eq_getElem?_getD]
      rw [this]; exact Nat.le_refl _
  · exact Nat.le_refl _
theorem within_takeM (ok : EnOk n me m g) (from' : Int) (to : Nat) (bs : List UInt8) : withinM n n m (takeM n me m g from' to bs) = true := by
  unfold takeM
  split
  · rename_i hc
    obtain ⟨r, hr, _⟩ := canE_some hc
    rw [hr]
    exact within_join ok.gd (goodM_up (readM_good hr).1 _ _)
  · exact within_of ok.gd ok.gd fun k j => Nat.le_refl _
theorem takeG_one (ok : EnOk n me m g) (from' : Int) (bs : List UInt8) : (takeG n me g from' bs).length = g.length ∧ ∃ q d : Nat, d ≤ 1 ∧ ∀ j, (takeG n me g from' bs).getD j 0 = g.getD j 0 + (if j = q then d else 0) := by
  unfold takeG
  split
  · rename_i hc
    obtain ⟨r, hr, h0, h1, _⟩ := canE_some hc
    have hn := ok.n16
    have hu := upV_one ok.g64 h0 (by have := ok.gl; omega) (by have := ok.gl; omega)
    exact ⟨hu.1, from'.toNat, hu.2.2⟩
  · exact ⟨rfl, 0, 0, by omega, fun j => by simp⟩
end Go.Am
namespace Go.Am
open Go.Proofs
set_option maxRecDepth 100000
set_option linter.all false
attribute [local congr] obind_congr obH_congr cnd_congr chk_congr retK_congr codeK_congr
theorem allN_succ (i : Nat) : allN i ||| 2 ^ i = allN (i + 1) := by
  unfold allN
  refine Nat.eq_of_testBit_eq fun j => ?_
  rw [Nat.testBit_or, Nat.testBit_two_pow_sub_one, Nat.testBit_two_pow_sub_one, Nat.testBit_two_pow]
  by_cases h : j < i
  · simp [h]; omega
  · by_cases e : i = j
    · simp [e]
    · have : ¬ j < i + 1 := by omega
      simp [h, e, this]
theorem allN_lt {i : Nat} (h : i ≤ 63) : allN i < 2 ^ 64 := by unfold allN; have : 2 ^ i < 2 ^ 64 := Nat.pow_lt_pow_right (by omega) (by omega); omega
theorem allof_loop {h0 h : Heap} {n : Nat} (hn : n ≤ 16) : ∀ (mm i : Nat), n = i + mm → ∀ (Ab Ac Af Ag Ah Ai Aj Ak Al An Ao Ap Aq Ar Au Av Aw : Value),
    loopK Try.prog (evC Try.prog) c88_1 ⟨#[.int .i64 n,Ab,Ac, .int .u64 (allN i : Nat), .int .i64 i,Af,Ag,Ah,Ai,Aj,Ak,Al,An,Ao,Ap,Aq,Ar,Au,Av,Aw], h⟩ (blockK 0 (seqK Try.prog (evC Try.prog) c88_2 (retK Try.f88 Try.prog h0))) = some (.int .u64 (allN n : Nat), done h0 h) := by
  intro mm
  induction mm with
  | zero =>
    intro i hi Ab Ac Af Ag Ah Ai Aj Ak Al An Ao Ap Aq Ar Au Av Aw
    obtain rfl : n = i := by omega
    rw [loopK_eq evC_m, c88_1_eq]
    simp -implicitDefEqProofs (disch := omega) only [dcT, dcF, ↓c88_2_eq, ↓ret88, ↓cnd_true, ↓cnd_false, ↓Option.bind_some, ↓obH_some', bin_add, bin_sub, bin_mul, bin_lss, bin_leq, bin_gtr, bin_geq, bin_eql, bin_neq, un_not, un_neg, Option.bind_some, Option.bind_none, Option.map_some, cnd_true, cnd_false, pickV_true, pickV_false, gd_true, gd_false, gdV_true, gdV_false, gdH_true, gdH_false, gdS_true, gdS_false, wt_ff, wt_tt, wt_ft, wt_tf, wt_undef, obH_some', extractV_tuple, nilCheckV_ptr, againK_normal, againK_exit, againK_ret, blockK_normal, blockK_same, blockK_ret, seqK_normal, seqK_exit, seqK_ret, fin_done, if_true', if_false', Bool.not_true, Bool.not_false, idx0, idx1, idx2, idx3, idx4, chk_nil_l, chk_nil_r, done_nm]
  | succ mm ih =>
    intro i hi Ab Ac Af Ag Ah Ai Aj Ak Al An Ao Ap Aq Ar Au Av Aw
    rw [loopK_eq evC_m, c88_1_eq]
    have hw : IntKind.wrap .i64 ((i : Int) + 1) = ((i + 1 : Nat) : Int) := by rw [wrap_i64] <;> omega
    have cv := fun h => cvUint (i : Int) h (by omega) (by omega)
    have e1 : ∀ t xo yo, binV Try.prog .shl t xo yo (.int .u64 1) (.int .u64 i) = some (.int .u64 ((2 ^ i : Nat) : Int)) := fun t xo yo => by
      have h2 : 2 ^ i < 2 ^ 64 := Nat.pow_lt_pow_right (by omega) (by omega)
      rw [bin_shl64 _ _ _ _ _ _ (by omega) (by omega) (by omega), Int.toNat_natCast, show (1 : Int).toNat = 1 from rfl, Nat.one_mul, Nat.mod_eq_of_lt h2]
    have e2 := fun t xo yo => orN t xo yo (allN i) (2 ^ i) (allN_lt (by omega)) (Nat.pow_lt_pow_right (by omega) (by omega))
    rw [allN_succ] at e2
    have := ih (i + 1) (by omega)
    simp -implicitDefEqProofs (disch := omega) only [dcT, dcF, cv, e1, e2, hw, ↓cnd_true, ↓cnd_false, ↓Option.bind_some, ↓obH_some', bin_add, bin_sub, bin_mul, bin_lss, bin_leq, bin_gtr, bin_geq, bin_eql, bin_neq, un_not, un_neg, Option.bind_some, Option.bind_none, Option.map_some, cnd_true, cnd_false, pickV_true, pickV_false, gd_true, gd_false, gdV_true, gdV_false, gdH_true, gdH_false, gdS_true, gdS_false, wt_ff, wt_tt, wt_ft, wt_tf, wt_undef, obH_some', extractV_tuple, nilCheckV_ptr, againK_normal, againK_exit, againK_ret, blockK_normal, blockK_same, blockK_ret, seqK_normal, seqK_exit, seqK_ret, fin_done, if_true', if_false', Bool.not_true, Bool.not_false, idx0, idx1, idx2, idx3, idx4, chk_nil_l, chk_nil_r, done_nm]
    exact this _ _ _ _ _ _ _ _ _ _ _ _ _ _ _ _ _
theorem spec_AllOf (n : Nat) (hn : n ≤ 16) (h : Heap) : evC Try.prog 88 #[.int .i64 n] h = some (.int .u64 (allN n : Nat), h) := by
  rw [call88, c88_0_eq]
  have := allof_loop (h0 := h) (h := nm h) hn n 0 (by omega)
  rw [show ((0 : Nat) : Int) = 0 from rfl, show ((allN 0 : Nat) : Int) = 0 from rfl] at this
  exact this _ _ _ _ _ _ _ _ _ _ _ _ _ _ _ _ _
def bitsN (s : Nat) (k : Nat) : Nat := ((List.range k).filter fun (i : Nat) => hasB s (i : Int)).length
theorem bitsN_succ (s k : Nat) : bitsN s (k + 1) = bitsN s k + (if hasB s k = true then 1 else 0) := by
  unfold bitsN
  rw [List.range_succ, List.filter_append, List.length_append]
  congr 1
  by_cases h : hasB s k = true
  · rw [if_pos h]; simp [h]
  · rw [if_neg h]; simp [h]
theorem bitsN_le (s k : Nat) : bitsN s k ≤ k := by
  unfold bitsN
  exact Nat.le_trans (List.length_filter_le ..) (by simp)
abbrev AIn (n0 : Nat) (h : Heap) (v : Value) (ns : List Int) : Prop := Acc n0 h 3 1 v ns.length (ns.map intV)
theorem app_int {n0 : Nat} {h : Heap} (hn0 : n0 ≤ h.blks.length) {v : Value} {bs : List Int} (ha : AIn n0 h v bs) (b : Int) (hl : bs.length < 2 ^ 39) :
    ∃ a c h', appendV Try.prog 73 (some 73) v (.slice (some ⟨h.blks.length, 0, none⟩) 1 1) (h.new (.cells [.int .i64 b]) 3) = some (.slice a (bs ++ [b]).length c, h') ∧ AIn n0 h' (.slice a (bs ++ [b]).length c) (bs ++ [b]) ∧ Keeps n0 h h' := by
  have ha' : AIn n0 (h.new (.cells [.int .i64 b]) 3) v bs := ha.keep fun _ hb _ => Heap.new_old hb
  have hlit := litI1 h b
  obtain ⟨v', h', e1, e2, e3, e4, e5⟩ := append_acc etI (t1 := some 73) (n0 := n0) (by simp [Heap.new]; omega) ha' (newsV_row etI.under hlit.row) (by simp) (by simp; omega) (by simp; omega) (by simp [intV, Value.oneCell'])
  obtain ⟨a, c, rfl⟩ := e2.shape
  rw [← List.length_append] at e1 e2
  rw [← List.map_append] at e2
  exact ⟨a, c, h', e1, e2, (Keeps.new hn0 _ _).trans e3⟩
theorem list_loop {h0 : Heap} {s : Nat} (hs : s < 2 ^ 64) : ∀ (mm i : Nat) (h : Heap) (v : Value) (l : List Int), 64 = i + mm → l.length = bitsN s i → AIn h0.blks.length h v l → In h0.blks.length No (nm h0) h → ∀ (Ab Ac Af Ag Ah Ai Aj Ak Al An Ao Ap Aq Ar : Value),
    ∃ v' l' h', loopK Try.prog (evC Try.prog) c90_1 ⟨#[.int .u64 s,Ab,Ac, v, .int .i64 i,Af,Ag,Ah,Ai,Aj,Ak,Al,An,Ao,Ap,Aq,Ar], h⟩ (blockK 0 (seqK Try.prog (evC Try.prog) c90_2 (retK Try.f90 Try.prog h0))) = some (v', h') ∧ HExt h0 h' ∧ AIn h0.blks.length h' v' l' ∧ l'.length = bitsN s 64 := by
  intro mm
  induction mm with
  | zero =>
    intro i h v l hi hl A hin Ab Ac Af Ag Ah Ai Aj Ak Al An Ao Ap Aq Ar
    obtain rfl : i = 64 := by omega
    rw [loopK_eq evC_m, c90_1_eq]
    simp -implicitDefEqProofs (disch := omega) only [dcT, dcF, ↓c90_2_eq, ↓ret90, ↓cnd_true, ↓cnd_false, ↓Option.bind_some, ↓obH_some', bin_add, bin_sub, bin_mul, bin_lss, bin_leq, bin_gtr, bin_geq, bin_eql, bin_neq, un_not, un_neg, Option.bind_some, Option.bind_none, Option.map_some, cnd_true, cnd_false, pickV_true, pickV_false, gd_true, gd_false, gdV_true, gdV_false, gdH_true, gdH_false, gdS_true, gdS_false, wt_ff, wt_tt, wt_ft, wt_tf, wt_undef, obH_some', extractV_tuple, nilCheckV_ptr, againK_normal, againK_exit, againK_ret, blockK_normal, blockK_same, blockK_ret, seqK_normal, seqK_exit, seqK_ret, fin_done, if_true', if_false', Bool.not_true, Bool.not_false, idx0, idx1, idx2, idx3, idx4, chk_nil_l, chk_nil_r, done_nm]
    exact ⟨_, _, _, rfl, done_ext' hin, A.done, hl⟩
  | succ mm ih =>
    intro i h v l hi hl A hin Ab Ac Af Ag Ah Ai Aj Ak Al An Ao Ap Aq Ar
    rw [loopK_eq evC_m, c90_1_eq]
    have hw : IntKind.wrap .i64 ((i : Int) + 1) = ((i + 1 : Nat) : Int) := by rw [wrap_i64] <;> omega
    have hh := fun h => spec_In s hs (i : Int) h
    have hb := bitsN_succ s i
    have hbl := bitsN_le s i
    cases hv : hasB s i with
    | true =>
      rw [hv] at hh
      rw [hv, if_pos rfl] at hb
      obtain ⟨a, c, h2, e2, A2, k2⟩ := app_int hin.len A (i : Int) (by omega)
      have k1 := mkI1 .i64 i h
      have := ih (i + 1) h2 _ (l ++ [(i : Int)]) (by omega) (by rw [List.length_append, hl, hb]; rfl) A2 (hin.trans k2.inn)
      simp -implicitDefEqProofs (disch := omega) only [dcT, dcF, hh, k1, e2, hw, ↓cnd_true, ↓cnd_false, ↓Option.bind_some, ↓obH_some', bin_add, bin_sub, bin_mul, bin_lss, bin_leq, bin_gtr, bin_geq, bin_eql, bin_neq, un_not, un_neg, Option.bind_some, Option.bind_none, Option.map_some, cnd_true, cnd_false, pickV_true, pickV_false, gd_true, gd_false, gdV_true, gdV_false, gdH_true, gdH_false, gdS_true, gdS_false, wt_ff, wt_tt, wt_ft, wt_tf, wt_undef, obH_some', extractV_tuple, nilCheckV_ptr, againK_normal, againK_exit, againK_ret, blockK_normal, blockK_same, blockK_ret, seqK_normal, seqK_exit, seqK_ret, fin_done, if_true', if_false', Bool.not_true, Bool.not_false, idx0, idx1, idx2, idx3, idx4, chk_nil_l, chk_nil_r, done_nm]
      exact this _ _ _ _ _ _ _ _ _ _ _ _ _ _
    | false =>
      rw [hv] at hh
      rw [hv, if_neg (by simp)] at hb
      have := ih (i + 1) h v l (by omega) (by omega) A hin
      simp -implicitDefEqProofs (disch := omega) only [dcT, dcF, hh, hw, ↓cnd_true, ↓cnd_false, ↓Option.bind_some, ↓obH_some', bin_add, bin_sub, bin_mul, bin_lss, bin_leq, bin_gtr, bin_geq, bin_eql, bin_neq, un_not, un_neg, Option.bind_some, Option.bind_none, Option.map_some, cnd_true, cnd_false, pickV_true, pickV_false, gd_true, gd_false, gdV_true, gdV_false, gdH_true, gdH_false, gdS_true, gdS_false, wt_ff, wt_tt, wt_ft, wt_tf, wt_undef, obH_some', extractV_tuple, nilCheckV_ptr, againK_normal, againK_exit, againK_ret, blockK_normal, blockK_same, blockK_ret, seqK_normal, seqK_exit, seqK_ret, fin_done, if_true', if_false', Bool.not_true, Bool.not_false, idx0, idx1, idx2, idx3, idx4, chk_nil_l, chk_nil_r, done_nm]
      exact this _ _ _ _ _ _ _ _ _ _ _ _ _ _
theorem spec_List (s : Nat) (hs : s < 2 ^ 64) (h : Heap) : ∃ v l h', evC Try.prog 90 #[.int .u64 s] h = some (v, h') ∧ HExt h h' ∧ AIn h.blks.length h' v l ∧ l.length = bitsN s 64 := by
  rw [call90, c90_0_eq]
  exact list_loop (h0 := h) hs 64 0 (nm h) (.slice none 0 0) [] (by omega) rfl .nil (In.refl (Nat.le_refl _)) _ _ _ _ _ _ _ _ _ _ _ _ _ _
end Go.Am
namespace Go.Am
open Go.Proofs
set_option maxRecDepth 100000
theorem hasB_div (x i : Nat) (hi : i < 64) : (if hasB x (i : Int) = true then 1 else 0) = x / 2 ^ i % 2 := by
  have e := hasB_nat x i hi
  have hlt : x / 2 ^ i % 2 < 2 := Nat.mod_lt _ (by decide)
  rw [← e]
  generalize x / 2 ^ i % 2 = y at *
  by_cases c : y = 1
  · rw [if_pos (decide_eq_true (by omega)), c]
  · rw [if_neg (by simp; omega)]; omega
theorem bits_high (x : Nat) (h : x < 65536) : ∀ k, 16 ≤ k → k ≤ 64 → bitsN x k = bitsN x 16 := by
  intro k
  induction k with
  | zero => intro h1; omega
  | succ k ih =>
    intro h1 h2
    by_cases c : k + 1 = 16
    · rw [c]
    · rw [bitsN_succ, hasB_div x k (by omega), ih (by omega) (by omega)]
      have : x / 2 ^ k = 0 := Nat.div_eq_of_lt (Nat.lt_of_lt_of_le h (by
        have : 2 ^ 16 ≤ 2 ^ k := Nat.pow_le_pow_right (by omega) (by omega)
        omega))
      rw [this, Nat.zero_mod, Nat.add_zero]
theorem bits_cnt (x : Nat) : bitsN x 16 = cnt16 x := by
  have b0 : bitsN x 0 = 0 := rfl
  have s := fun k (hk : k < 64) => (bitsN_succ x k).trans (congrArg (bitsN x k + ·) (hasB_div x k hk))
  rw [s 15 (by omega), s 14 (by omega), s 13 (by omega), s 12 (by omega), s 11 (by omega), s 10 (by omega), s 9 (by omega), s 8 (by omega), s 7 (by omega), s 6 (by omega), s 5 (by omega), s 4 (by omega), s 3 (by omega), s 2 (by omega), s 1 (by omega), s 0 (by omega), b0]
  unfold cnt16
  simp only [Nat.reducePow, Nat.zero_add, Nat.div_one]
theorem pop_bits (x : Nat) (h : x < 65536) : pop x = bitsN x 64 := by
  rw [pop_cnt x h, bits_high x h 64 (by omega) (by omega), bits_cnt]
end Go.Am
namespace Go.Am
open Go.Proofs
set_option maxRecDepth 100000
set_option linter.all false
attribute [local congr] obind_congr obH_congr cnd_congr chk_congr retK_congr codeK_congr
theorem bdRE (n me : Int) (b : Option Addr) (l c : Nat) : buildV Try.prog 66 #[(0, .int .i64 n), (1, .int .i64 me), (3, .slice b l c)] = some (.agg #[.int .i64 n, .int .i64 me, .slice none 0 0, .slice b l c]) := by kernel_rfl
theorem bxRE (n me : Int) (v w : Value) (h : Heap) : boxV Try.prog 66 (.agg #[.int .i64 n, .int .i64 me, v, w]) h = some (.pointer (some ⟨h.blks.length, 0, none⟩), h.new (.cells [.int .i64 n, .int .i64 me, v, w]) 66) := by kernel_rfl
theorem faQ0 (p : Nat) : fieldAddrV Try.prog 66 (.pointer (some ⟨p, 0, none⟩)) 0 = some (.pointer (some ⟨p, 0, none⟩)) := by kernel_rfl
theorem faQ1 (p : Nat) : fieldAddrV Try.prog 66 (.pointer (some ⟨p, 0, none⟩)) 1 = some (.pointer (some ⟨p, 1, none⟩)) := by kernel_rfl
theorem faQ2 (p : Nat) : fieldAddrV Try.prog 66 (.pointer (some ⟨p, 0, none⟩)) 2 = some (.pointer (some ⟨p, 2, none⟩)) := by kernel_rfl
theorem faQ3 (p : Nat) : fieldAddrV Try.prog 66 (.pointer (some ⟨p, 0, none⟩)) 3 = some (.pointer (some ⟨p, 3, none⟩)) := by kernel_rfl
theorem ldWs (p o : Nat) (h : Heap) : loadV Try.prog 22 (.pointer (some ⟨p, o, none⟩)) h = h.load1 p o := by kernel_rfl
theorem stWs (p o : Nat) (a : Option Addr) (n c : Nat) (h : Heap) : storeV Try.prog 22 (.pointer (some ⟨p, o, none⟩)) (.slice a n c) h = h.storeN p o [.slice a n c] := by kernel_rfl
theorem ldUs (p o : Nat) (h : Heap) : loadV Try.prog 52 (.pointer (some ⟨p, o, none⟩)) h = h.load1 p o := by kernel_rfl
theorem stUs (p o : Nat) (a : Option Addr) (n c : Nat) (h : Heap) : storeV Try.prog 52 (.pointer (some ⟨p, o, none⟩)) (.slice a n c) h = h.storeN p o [.slice a n c] := by kernel_rfl
structure QC (L : Nat) (h : Heap) (p : Nat) (n me : Int) (rv gv : Value) (m : List (List Nat)) (g : List Nat) : Prop where
  c : Cells h p 66 [.int .i64 n, .int .i64 me, rv, gv]
  am : AM 52 L h rv m
  au : AU L h gv g
def Qn (L : Nat) (h : Heap) (p : Nat) (n me : Int) (m : List (List Nat)) (g : List Nat) : Prop := ∃ rv gv, QC L h p n me rv gv m g
variable {L : Nat} {h h' : Heap} {p : Nat} {n me : Int} {rv gv : Value} {m : List (List Nat)} {g : List Nat}
theorem QC.kp (E : QC L h p n me rv gv m g) (k : ∀ b all ty, h.blks[b]? = some ⟨.cells all, ty, true⟩ → ty = 66 ∧ b = p ∨ ty = 52 ∨ ty = 46 → h'.blks[b]? = h.blks[b]?) : QC L h' p n me rv gv m g :=
  ⟨(k _ _ _ E.c (.inl ⟨rfl, rfl⟩)).trans E.c, E.am.kp fun b all ty hb ht _ => k b all ty hb (.inr ht), E.au.keep fun b _ hv => by obtain ⟨all, h1⟩ := E.au.blk hv; exact k b all _ h1 (.inr (.inr rfl))⟩
theorem QC.same (E : QC L h p n me rv gv m g) (s : Same h h') : QC L h' p n me rv gv m g := E.kp fun b _ _ hb _ => s.2 b (List.getElem?_eq_some_iff.1 hb).1
theorem QC.ext (E : QC L h p n me rv gv m g) (e : HExt h h') : QC L h' p n me rv gv m g := E.same e.same
theorem Qn.same (E : Qn L h p n me m g) (s : Same h h') : Qn L h' p n me m g := let ⟨_, _, x⟩ := E; ⟨_, _, x.same s⟩
theorem Qn.cl (E : Qn L h p n me m g) : ∃ cs, Cells h p 66 cs := let ⟨_, _, x⟩ := E; ⟨_, x.c⟩
theorem Qn.nm (E : Qn L h p n me m g) : Qn L (Am.nm h) p n me m g := E.same ⟨Nat.le_refl _, fun _ _ => rfl⟩
theorem Qn.done {h0 : Heap} (E : Qn L h p n me m g) : Qn L (Am.done h0 h) p n me m g := E.same ⟨Nat.le_refl _, fun _ _ => rfl⟩
theorem Qn.up {L' : Nat} (E : Qn L h p n me m g) (hl : L' ≤ L) : Qn L' h p n me m g := let ⟨_, _, x⟩ := E; ⟨_, _, ⟨x.c, x.am.up hl, x.au.up hl⟩⟩
theorem Qn.kpT (E : Qn L h p n me m g) {T : TypeId} (h1 : 66 ≠ T) (h2 : 52 ≠ T) (h3 : 46 ≠ T) (k : ∀ q ty cs, Cells h q ty cs → ty ≠ T → Cells h' q ty cs) : Qn L h' p n me m g :=
  let ⟨_, _, x⟩ := E
  ⟨_, _, x.kp fun b all ty hb ht => (k b ty all hb (by rcases ht with ⟨rfl, _⟩ | rfl | rfl <;> assumption)).trans hb.symm⟩
theorem Qn.modT (E : Qn L h p n me m g) {q : Nat} {T : TypeId} {cs : List Value} (c : Cells h q T cs) (h1 : T ≠ 66) (h2 : T ≠ 52) (h3 : T ≠ 46) (e : HMod (Just q) h h') : Qn L h' p n me m g :=
  let ⟨_, _, x⟩ := E
  ⟨_, _, x.kp fun b all ty hb ht => e.old b (List.getElem?_eq_some_iff.1 hb).1 fun hq => by
    have hq : b = q := hq
    subst hq
    unfold Cells at c
    rw [c] at hb
    simp only [Option.some.injEq, Blk.mk.injEq] at hb
    rcases ht with ⟨ht, _⟩ | ht | ht
    · exact h1 (hb.2.1.trans ht)
    · exact h2 (hb.2.1.trans ht)
    · exact h3 (hb.2.1.trans ht)⟩
theorem QC.l0 (E : QC L h p n me rv gv m g) : h.load1 p 0 = some (.int .i64 n) := by rw [E.c.load]; rfl
theorem QC.l1 (E : QC L h p n me rv gv m g) : h.load1 p 1 = some (.int .i64 me) := by rw [E.c.load]; rfl
theorem QC.l2 (E : QC L h p n me rv gv m g) : h.load1 p 2 = some rv := by rw [E.c.load]; rfl
theorem QC.l3 (E : QC L h p n me rv gv m g) : h.load1 p 3 = some gv := by rw [E.c.load]; rfl
theorem AU.pQ {h : Heap} {v : Value} {l : List Nat} {n0 p : Nat} {cs : List Value} (a : AU n0 h v l) (body : Body) (c : Cells h p 66 cs) : AU n0 (h.put p body) v l := a.keep fun b _ hv => Heap.put_other (fun e => by
  subst e
  obtain ⟨all, h1⟩ := a.blk hv
  unfold Cells at c
  rw [c] at h1
  simp only [Option.some.injEq, Blk.mk.injEq] at h1
  exact absurd h1.2.1 (by decide)) _
theorem spec_Rsend (E : Qn L h p n me m g) (hL : L ≤ h.blks.length) (ok : EnOk n me m g) (to : Nat) (hto : to < 2 ^ 64) :
    ∃ w h', evC Try.prog 37 #[.pointer (some ⟨p, 0, none⟩), .int .u64 to] h = some (.tuple #[w, .int .i64 (pop (toE n me to))], h') ∧ HMod (Just p) h h' ∧ Qn L h' p n me (upM n m me (toE n me to)) g ∧ AB 0 h' w (stampM n m) := by
  rw [call37, c37_0_eq]
  obtain ⟨rv, gv, E⟩ := E
  have E0 := E.same (h' := nm h) ⟨Nat.le_refl _, fun _ _ => rfl⟩
  have hg := (goodM_iff n m).1 ok.gd
  have h0 := ok.me0
  have h1 := ok.men
  obtain ⟨nn, rfl⟩ : ∃ k : Nat, n = k := ⟨n.toNat, by omega⟩
  obtain ⟨mk, rfl⟩ : ∃ k : Nat, me = k := ⟨me.toNat, by omega⟩
  have e1 := fun h => spec_AllOf nn (by omega) h
  have am1 : am (nm (nm h)) (nm h) = nm h := rfl
  have h2 : 2 ^ mk < 2 ^ 64 := Nat.pow_lt_pow_right (by omega) (by omega)
  have ha : allN nn < 2 ^ 64 := allN_lt (by omega)
  have cv := fun h => cvUint (mk : Int) h (by omega) (by omega)
  have es : ∀ t xo yo, binV Try.prog .shl t xo yo (.int .u64 1) (.int .u64 mk) = some (.int .u64 ((2 ^ mk : Nat) : Int)) := fun t xo yo => by
    rw [bin_shl64 _ _ _ _ _ _ (by omega) (by omega) (by omega), Int.toNat_natCast, show (1 : Int).toNat = 1 from rfl, Nat.one_mul, Nat.mod_eq_of_lt h2]
  have e5 := fun t xo yo => andNu t xo yo to (allN nn) hto ha
  have e6 := fun t xo yo => andNotN t xo yo (to &&& allN nn) (2 ^ mk) (andLtU hto) h2
  rw [show to &&& allN nn &&& (2 ^ 64 - 1 - 2 ^ mk) = toE nn mk to by unfold toE; rw [Nat.and_assoc]; simp] at e6
  have ht := toE_lt nn mk to hto
  have htn : toE nn mk to < 65536 := by
    have : toE nn mk to ≤ allN nn := by
      unfold toE
      rw [Int.toNat_natCast, ← Nat.and_assoc]
      exact Nat.le_trans Nat.and_le_left Nat.and_le_right
    have h16 : 2 ^ nn ≤ 2 ^ 16 := Nat.pow_le_pow_right (by omega) (by omega)
    have hp : 1 ≤ 2 ^ nn := Nat.one_le_two_pow
    unfold allN at this
    omega
  obtain ⟨w3, h3, e3,Ad, a3⟩ := spec_refStampA (n := nn) E0.am.smW ok.m64
  have i3 : In h.blks.length (Just p) (nm h) h3 := Ad.inn (Nat.le_refl _)
  have E3 := E0.ext Ad
  obtain ⟨uv, h4, e4,Ae, a4⟩ := spec_UpMat (n := nn) E3.am.smW (goodM_small ok.gd) ok.m64 mk (toE nn mk to) ht
  obtain ⟨ua, uc, rfl⟩ := a4.shape
  have i4 := i3.trans (Ae.inn i3.len)
  have E4 := E3.ext Ae
  have st := storeN_blk E4.c (o := 2) (vs := [.slice ua (upM nn m mk (toE nn mk to)).length uc]) (by simp)
  rw [show List.take 2 [Value.int .i64 nn, .int .i64 mk, rv, gv] ++ [Value.slice ua (upM nn m mk (toE nn mk to)).length uc] ++ List.drop (2 + [Value.slice ua (upM nn m mk (toE nn mk to)).length uc].length) [Value.int .i64 nn, .int .i64 mk, rv, gv] = [.int .i64 nn, .int .i64 mk, .slice ua (upM nn m mk (toE nn mk to)).length uc, gv] from rfl] at st
  have am5 := (a4.up (n1 := L) (Nat.le_trans hL i3.len)).put E4.c (by decide) (by decide) (.cells [.int .i64 nn, .int .i64 mk, .slice ua (upM nn m mk (toE nn mk to)).length uc, gv])
  have au5 := E4.au.pQ (.cells [.int .i64 nn, .int .i64 mk, .slice ua (upM nn m mk (toE nn mk to)).length uc, gv]) E4.c
  have c5 := E4.c.put [.int .i64 nn, .int .i64 mk, .slice ua (upM nn m mk (toE nn mk to)).length uc, gv]
  have i5 := i4.trans (In.put i4.len (.inr (show Just p p from rfl)) (.cells [.int .i64 nn, .int .i64 mk, .slice ua (upM nn m mk (toE nn mk to)).length uc, gv]))
  have s5 : AB 0 (h4.put p (.cells [.int .i64 nn, .int .i64 mk, .slice ua (upM nn m mk (toE nn mk to)).length uc, gv])) w3 (stampM nn m) := (a3.same Ae.same).keep fun b _ hv => Heap.put_other (fun e => by
    subst e
    obtain ⟨all, hb⟩ := (a3.same Ae.same).blk hv
    have c := E4.c
    unfold Cells at c
    rw [c] at hb
    simp only [Option.some.injEq, Blk.mk.injEq] at hb
    exact absurd hb.2.1 (by decide)) _
  generalize h4.put p (.cells [.int .i64 nn, .int .i64 mk, .slice ua (upM nn m mk (toE nn mk to)).length uc, gv]) = h5 at *
  obtain ⟨lv, l, h6, e7,Ag, a6, hl6⟩ := spec_List (toE nn mk to) ht h5
  have ln := (a6.sl etI.size).row.len_eq etI.under
  rw [hl6, ← pop_bits _ htn] at ln
  have i6 := i5.trans (Ag.inn i5.len)
  have E6 : QC L h5 p nn mk (.slice ua (upM nn m mk (toE nn mk to)).length uc) gv (upM nn m mk (toE nn mk to)) g := ⟨c5, am5, au5⟩
  simp -implicitDefEqProofs (disch := omega) only [dcT, dcF, faQ0, faQ1, faQ2, mldInt, E0.l0, e1, am1, e5, E0.l1, cv, es, e6, nmm, List.append_nil, ldWs, E0.l2, e3, E3.l0, E3.l1, E3.l2, e4, stWs, st, e7, ln, ↓ret37, ↓cnd_true, ↓cnd_false, ↓Option.bind_some, ↓obH_some', bin_add, bin_sub, bin_mul, bin_lss, bin_leq, bin_gtr, bin_geq, bin_eql, bin_neq, un_not, un_neg, Option.bind_some, Option.bind_none, Option.map_some, cnd_true, cnd_false, pickV_true, pickV_false, gd_true, gd_false, gdV_true, gdV_false, gdH_true, gdH_false, gdS_true, gdS_false, wt_ff, wt_tt, wt_ft, wt_tf, wt_undef, obH_some', extractV_tuple, nilCheckV_ptr, againK_normal, againK_exit, againK_ret, blockK_normal, blockK_same, blockK_ret, seqK_normal, seqK_exit, seqK_ret, fin_done, if_true', if_false', Bool.not_true, Bool.not_false, idx0, idx1, idx2, idx3, idx4, chk_nil_l, chk_nil_r, done_nm]
  exact ⟨_, _, rfl, done_mod i6,Qn.done ⟨_, _, E6.ext Ag⟩, (Acc.same s5 Ag.same).done⟩
end Go.Am
namespace Go.Am
open Go.Proofs
set_option maxRecDepth 100000
set_option linter.all false
attribute [local congr] obind_congr obH_congr cnd_congr chk_congr retK_congr codeK_congr
abbrev nilSl' : Value := .slice none 0 0
theorem zlenR (n : Nat) : (List.replicate n 0 : List Nat).length = n := List.length_replicate
variable {L : Nat} {h h' : Heap} {p : Nat} {n me : Int} {rv gv : Value} {m : List (List Nat)} {g : List Nat}
theorem colM_len (r : List (List Nat)) (k : Nat) : (colM r k).length = r.length := by simp [colM]
theorem colM_get (r : List (List Nat)) (k i : Nat) (hi : i < r.length) : (colM r k).getD i 0 = (r.getD i []).getD k 0 := by
  rw [List.getD_eq_getElem?_getD, List.getElem?_eq_getElem (by rw [colM_len]; exact hi)]
  simp [colM, hi]
theorem rcan_loop {h0 h : Heap} {nn mk : Nat} {mv : Value} {r : List (List Nat)} (E : QC L h p nn mk rv gv m g) (sr : SM h mv r) (gr : goodM nn r = true) (hgl : g.length = nn) (hmk : mk < nn) (hn : nn ≤ 16) : ∀ (mm i : Nat), nn = i + mm → ∀ (Ab Ac Ad Ae Af Ag Ai Ak Al An Ao Ap Aq Ar Au Av Aw Ax Ay Az Ba Bb Bc Bd Be Bf Bg Bh Bi Bj Bk Bl Bm Bn Bo Bp Bq Br Bs Bt Bu Bv Bw Bx By Bz Ca Cb Cc Cd Ce Cf Cg Ch Ci Cj Ck Cl Cm Cn Co Cp Cq Cr : Value),
    loopK Try.prog (evC Try.prog) c39_1 ⟨#[.pointer (some ⟨p, 0, none⟩),Ab,Ac,Ad,Ae,Af,Ag, mv,Ai, .int .i64 i,Ak,Al,An,Ao,Ap,Aq,Ar,Au,Av,Aw,Ax,Ay,Az,Ba,Bb,Bc,Bd,Be,Bf,Bg,Bh,Bi,Bj,Bk,Bl,Bm,Bn,Bo,Bp,Bq,Br,Bs,Bt,Bu,Bv,Bw,Bx,By,Bz,Ca,Cb,Cc,Cd,Ce,Cf,Cg,Ch,Ci,Cj,Ck,Cl,Cm,Cn,Co,Cp,Cq,Cr], h⟩ (blockK 0 (seqK Try.prog (evC Try.prog) c39_2 (retK Try.f39 Try.prog h0))) =
      some (.bool (canColF g (colM r mk) i), done h0 h) := by
  have hgi := (goodM_iff nn r).1 gr
  have hrl : r.length = nn := by omega
  intro mm
  induction mm with
  | zero =>
    intro i hi Ab Ac Ad Ae Af Ag Ai Ak Al An Ao Ap Aq Ar Au Av Aw Ax Ay Az Ba Bb Bc Bd Be Bf Bg Bh Bi Bj Bk Bl Bm Bn Bo Bp Bq Br Bs Bt Bu Bv Bw Bx By Bz Ca Cb Cc Cd Ce Cf Cg Ch Ci Cj Ck Cl Cm Cn Co Cp Cq Cr
    rw [loopK_eq evC_m, c39_1_eq]
    rw [show i = (colM r mk).length by rw [colM_len]; omega, canColF_end, colM_len]
    simp -implicitDefEqProofs (disch := omega) only [dcT, dcF, faQ0, mldInt, E.l0, ↓c39_2_eq, ↓ret39, ↓cnd_true, ↓cnd_false, ↓Option.bind_some, ↓obH_some', bin_add, bin_sub, bin_mul, bin_lss, bin_leq, bin_gtr, bin_geq, bin_eql, bin_neq, un_not, un_neg, Option.bind_some, Option.bind_none, Option.map_some, cnd_true, cnd_false, pickV_true, pickV_false, gd_true, gd_false, gdV_true, gdV_false, gdH_true, gdH_false, gdS_true, gdS_false, wt_ff, wt_tt, wt_ft, wt_tf, wt_undef, obH_some', extractV_tuple, nilCheckV_ptr, againK_normal, againK_exit, againK_ret, blockK_normal, blockK_same, blockK_ret, seqK_normal, seqK_exit, seqK_ret, fin_done, if_true', if_false', Bool.not_true, Bool.not_false, idx0, idx1, idx2, idx3, idx4, chk_nil_l, chk_nil_r, done_nm]
  | succ mm ih =>
    intro i hi Ab Ac Ad Ae Af Ag Ai Ak Al An Ao Ap Aq Ar Au Av Aw Ax Ay Az Ba Bb Bc Bd Be Bf Bg Bh Bi Bj Bk Bl Bm Bn Bo Bp Bq Br Bs Bt Bu Bv Bw Bx By Bz Ca Cb Cc Cd Ce Cf Cg Ch Ci Cj Ck Cl Cm Cn Co Cp Cq Cr
    rw [loopK_eq evC_m, c39_1_eq]
    obtain ⟨a3, e3, e4⟩ := su_at E.au.su etU.under (i := i) (by omega)
    obtain ⟨ad, x, ea, ex, sx⟩ := sr.atW (i := i) (by omega)
    have hrow := goodM_rows gr (i := i) (by omega)
    obtain ⟨a5, e5, e6⟩ := su_at sx etU.under (i := mk) (by omega)
    have hw : IntKind.wrap .i64 ((i : Int) + 1) = ((i + 1 : Nat) : Int) := by rw [wrap_i64] <;> omega
    rw [canColF_step g _ (by rw [colM_len]; omega), colM_get r mk i (by omega)]
    by_cases hlt : g.getD i 0 < (r.getD i []).getD mk 0
    · rw [decide_eq_false (by omega), Bool.false_and]
      simp -implicitDefEqProofs (disch := omega) only [dcT, dcF, faQ0, faQ1, faQ3, mldInt, ldUs, E.l0, E.l1, E.l3, e3, e4, ea, ex, e5, e6, vld64, ↓ret39, ↓cnd_true, ↓cnd_false, ↓Option.bind_some, ↓obH_some', bin_add, bin_sub, bin_mul, bin_lss, bin_leq, bin_gtr, bin_geq, bin_eql, bin_neq, un_not, un_neg, Option.bind_some, Option.bind_none, Option.map_some, cnd_true, cnd_false, pickV_true, pickV_false, gd_true, gd_false, gdV_true, gdV_false, gdH_true, gdH_false, gdS_true, gdS_false, wt_ff, wt_tt, wt_ft, wt_tf, wt_undef, obH_some', extractV_tuple, nilCheckV_ptr, againK_normal, againK_exit, againK_ret, blockK_normal, blockK_same, blockK_ret, seqK_normal, seqK_exit, seqK_ret, fin_done, if_true', if_false', Bool.not_true, Bool.not_false, idx0, idx1, idx2, idx3, idx4, chk_nil_l, chk_nil_r, done_nm]
    · rw [decide_eq_true (show (r.getD i []).getD mk 0 ≤ g.getD i 0 by omega), Bool.true_and]
      simp -implicitDefEqProofs (disch := omega) only [dcT, dcF, faQ0, faQ1, faQ3, mldInt, ldUs, E.l0, E.l1, E.l3, e3, e4, ea, ex, e5, e6, vld64, hw, ↓cnd_true, ↓cnd_false, ↓Option.bind_some, ↓obH_some', bin_add, bin_sub, bin_mul, bin_lss, bin_leq, bin_gtr, bin_geq, bin_eql, bin_neq, un_not, un_neg, Option.bind_some, Option.bind_none, Option.map_some, cnd_true, cnd_false, pickV_true, pickV_false, gd_true, gd_false, gdV_true, gdV_false, gdH_true, gdH_false, gdS_true, gdS_false, wt_ff, wt_tt, wt_ft, wt_tf, wt_undef, obH_some', extractV_tuple, nilCheckV_ptr, againK_normal, againK_exit, againK_ret, blockK_normal, blockK_same, blockK_ret, seqK_normal, seqK_exit, seqK_ret, fin_done, if_true', if_false', Bool.not_true, Bool.not_false, idx0, idx1, idx2, idx3, idx4, chk_nil_l, chk_nil_r, done_nm]
      exact ih (i + 1) (by omega) _ _ _ _ _ _ _ _ _ _ _ _ _ _ _ _ _ _ _ _ _ _ _ _ _ _ _ _ _ _ _ _ _ _ _ _ _ _ _ _ _ _ _ _ _ _ _ _ _ _ _ _ _ _ _ _ _ _ _ _ _ _ _ _
theorem columnM_good {r : List (List Nat)} (gr : goodM n r = true) (h0 : 0 ≤ me) (h1 : me < n) : columnM n r me = colM r me.toNat := by
  unfold columnM
  rw [if_pos (show okC n r me from ⟨gr, h0, h1⟩)]
theorem spec_Rcan (E : Qn L h p n me m g) (ok : EnOk n me m g) (from' : Int) {b : Value} {bs : List UInt8} (sb : SB h b bs) (hb : bs.length < 2 ^ 38) :
    ∃ h', evC Try.prog 39 #[.pointer (some ⟨p, 0, none⟩), .int .i64 from', b] h = some (.bool (canE n me g from' bs), h') ∧ HExt h h' := by
  rw [call39, c39_0_eq]
  obtain ⟨rv, gv, E⟩ := E
  have E0 := E.same (h' := nm h) ⟨Nat.le_refl _, fun _ _ => rfl⟩
  obtain ⟨wv, h2, e2,Ac, a2⟩ := spec_ReadMat (n := n) (b := b) (bs := bs) sb.nm hb
  have i2 : In h.blks.length No (nm h) h2 := Ac.inn (Nat.le_refl _)
  have E2 := E0.ext Ac
  cases hr : readM n bs with
  | none =>
    rw [hr] at e2
    rw [show (none : Option (List (List Nat))).isSome = false from rfl] at e2
    have ec : canE n me g from' bs = false := by unfold canE; rw [hr]
    rw [ec]
    simp -implicitDefEqProofs (disch := omega) only [dcT, dcF, faQ0, mldInt, E0.l0, e2, ↓ret39, ↓cnd_true, ↓cnd_false, ↓Option.bind_some, ↓obH_some', bin_add, bin_sub, bin_mul, bin_lss, bin_leq, bin_gtr, bin_geq, bin_eql, bin_neq, un_not, un_neg, Option.bind_some, Option.bind_none, Option.map_some, cnd_true, cnd_false, pickV_true, pickV_false, gd_true, gd_false, gdV_true, gdV_false, gdH_true, gdH_false, gdS_true, gdS_false, wt_ff, wt_tt, wt_ft, wt_tf, wt_undef, obH_some', extractV_tuple, nilCheckV_ptr, againK_normal, againK_exit, againK_ret, blockK_normal, blockK_same, blockK_ret, seqK_normal, seqK_exit, seqK_ret, fin_done, if_true', if_false', Bool.not_true, Bool.not_false, idx0, idx1, idx2, idx3, idx4, chk_nil_l, chk_nil_r, done_nm]
    exact ⟨_, rfl, done_ext' i2⟩
  | some r =>
    have hg := readM_good hr
    rw [hr] at e2 a2
    rw [show (some r : Option (List (List Nat))).isSome = true from rfl] at e2
    rw [show (some r).getD [] = r from rfl] at a2
    have ec : canE n me g from' bs = (decide (0 ≤ from' ∧ from' < n ∧ from' ≠ me) && canCol g (columnM n r me)) := by unfold canE; rw [hr]
    rw [ec]
    by_cases h1 : 0 ≤ from'
    · by_cases h2' : from' < n
      · by_cases h3' : from' = me
        · rw [decide_eq_false (fun x => x.2.2 h3'), Bool.false_and]
          simp -implicitDefEqProofs (disch := omega) only [dcT, dcF, faQ0, faQ1, mldInt, E0.l0, e2, E2.l0, E2.l1, ↓ret39, ↓cnd_true, ↓cnd_false, ↓Option.bind_some, ↓obH_some', bin_add, bin_sub, bin_mul, bin_lss, bin_leq, bin_gtr, bin_geq, bin_eql, bin_neq, un_not, un_neg, Option.bind_some, Option.bind_none, Option.map_some, cnd_true, cnd_false, pickV_true, pickV_false, gd_true, gd_false, gdV_true, gdV_false, gdH_true, gdH_false, gdS_true, gdS_false, wt_ff, wt_tt, wt_ft, wt_tf, wt_undef, obH_some', extractV_tuple, nilCheckV_ptr, againK_normal, againK_exit, againK_ret, blockK_normal, blockK_same, blockK_ret, seqK_normal, seqK_exit, seqK_ret, fin_done, if_true', if_false', Bool.not_true, Bool.not_false, idx0, idx1, idx2, idx3, idx4, chk_nil_l, chk_nil_r, done_nm]
          exact ⟨_, rfl, done_ext' i2⟩
        · rw [decide_eq_true (show 0 ≤ from' ∧ from' < n ∧ from' ≠ me from ⟨h1, h2', h3'⟩), Bool.true_and]
          have hn := ok.n16
          have m0 := ok.me0
          have m1 := ok.men
          have gl := ok.gl
          obtain ⟨nn, rfl⟩ : ∃ k : Nat, n = k := ⟨n.toNat, by omega⟩
          obtain ⟨mk, rfl⟩ : ∃ k : Nat, me = k := ⟨me.toNat, by omega⟩
          rw [columnM_good hg.1 m0 m1, Int.toNat_natCast]
          have := rcan_loop (h0 := h) E2 a2.smW hg.1 (by omega) (by omega) (by omega) nn 0 (by omega)
          rw [canColF_zero, show ((0 : Nat) : Int) = 0 from rfl] at this
          simp -implicitDefEqProofs (disch := omega) only [dcT, dcF, faQ0, faQ1, mldInt, E0.l0, e2, E2.l0, E2.l1, ↓cnd_true, ↓cnd_false, ↓Option.bind_some, ↓obH_some', bin_add, bin_sub, bin_mul, bin_lss, bin_leq, bin_gtr, bin_geq, bin_eql, bin_neq, un_not, un_neg, Option.bind_some, Option.bind_none, Option.map_some, cnd_true, cnd_false, pickV_true, pickV_false, gd_true, gd_false, gdV_true, gdV_false, gdH_true, gdH_false, gdS_true, gdS_false, wt_ff, wt_tt, wt_ft, wt_tf, wt_undef, obH_some', extractV_tuple, nilCheckV_ptr, againK_normal, againK_exit, againK_ret, blockK_normal, blockK_same, blockK_ret, seqK_normal, seqK_exit, seqK_ret, fin_done, if_true', if_false', Bool.not_true, Bool.not_false, idx0, idx1, idx2, idx3, idx4, chk_nil_l, chk_nil_r, done_nm]
          exact ⟨_, this _ _ _ _ _ _ _ _ _ _ _ _ _ _ _ _ _ _ _ _ _ _ _ _ _ _ _ _ _ _ _ _ _ _ _ _ _ _ _ _ _ _ _ _ _ _ _ _ _ _ _ _ _ _ _ _ _ _ _ _ _ _ _ _, done_ext' i2⟩
      · rw [decide_eq_false (fun x => h2' x.2.1), Bool.false_and]
        simp -implicitDefEqProofs (disch := omega) only [dcT, dcF, faQ0, faQ1, mldInt, E0.l0, e2, E2.l0, E2.l1, ↓ret39, ↓cnd_true, ↓cnd_false, ↓Option.bind_some, ↓obH_some', bin_add, bin_sub, bin_mul, bin_lss, bin_leq, bin_gtr, bin_geq, bin_eql, bin_neq, un_not, un_neg, Option.bind_some, Option.bind_none, Option.map_some, cnd_true, cnd_false, pickV_true, pickV_false, gd_true, gd_false, gdV_true, gdV_false, gdH_true, gdH_false, gdS_true, gdS_false, wt_ff, wt_tt, wt_ft, wt_tf, wt_undef, obH_some', extractV_tuple, nilCheckV_ptr, againK_normal, againK_exit, againK_ret, blockK_normal, blockK_same, blockK_ret, seqK_normal, seqK_exit, seqK_ret, fin_done, if_true', if_false', Bool.not_true, Bool.not_false, idx0, idx1, idx2, idx3, idx4, chk_nil_l, chk_nil_r, done_nm]
        exact ⟨_, rfl, done_ext' i2⟩
    · rw [decide_eq_false (fun x => h1 x.1), Bool.false_and]
      simp -implicitDefEqProofs (disch := omega) only [dcT, dcF, faQ0, faQ1, mldInt, E0.l0, e2, E2.l0, E2.l1, ↓ret39, ↓cnd_true, ↓cnd_false, ↓Option.bind_some, ↓obH_some', bin_add, bin_sub, bin_mul, bin_lss, bin_leq, bin_gtr, bin_geq, bin_eql, bin_neq, un_not, un_neg, Option.bind_some, Option.bind_none, Option.map_some, cnd_true, cnd_false, pickV_true, pickV_false, gd_true, gd_false, gdV_true, gdV_false, gdH_true, gdH_false, gdS_true, gdS_false, wt_ff, wt_tt, wt_ft, wt_tf, wt_undef, obH_some', extractV_tuple, nilCheckV_ptr, againK_normal, againK_exit, againK_ret, blockK_normal, blockK_same, blockK_ret, seqK_normal, seqK_exit, seqK_ret, fin_done, if_true', if_false', Bool.not_true, Bool.not_false, idx0, idx1, idx2, idx3, idx4, chk_nil_l, chk_nil_r, done_nm]
      exact ⟨_, rfl, done_ext' i2⟩
theorem spec_Rtake (E : Qn L h p n me m g) (hL : L ≤ h.blks.length) (ok : EnOk n me m g) (from' : Int) (to : Nat) (hto : to < 2 ^ 64) {b : Value} {bs : List UInt8} (sb : SB h b bs) (hb : bs.length < 2 ^ 38) :
    ∃ h', evC Try.prog 38 #[.pointer (some ⟨p, 0, none⟩), .int .i64 from', .int .u64 to, b] h = some (.bool (canE n me g from' bs), h') ∧ HMod (Just p) h h' ∧ Qn L h' p n me (takeM n me m g from' to bs) (takeG n me g from' bs) := by
  rw [call38, c38_0_eq]
  have E0 := E.nm
  obtain ⟨h1, e1,Ab⟩ := spec_Rcan E0 ok from' sb.nm hb
  have i1 : In h.blks.length (Just p) (nm h) h1 := Ab.inn (Nat.le_refl _)
  unfold takeM takeG
  cases hcan : canE n me g from' bs with
  | false =>
    rw [hcan] at e1
    simp -implicitDefEqProofs (disch := omega) only [e1, ↓ret38, ↓cnd_true, ↓cnd_false, ↓Option.bind_some, ↓obH_some', bin_add, bin_sub, bin_mul, bin_lss, bin_leq, bin_gtr, bin_geq, bin_eql, bin_neq, un_not, un_neg, Option.bind_some, Option.bind_none, Option.map_some, cnd_true, cnd_false, pickV_true, pickV_false, gd_true, gd_false, gdV_true, gdV_false, gdH_true, gdH_false, gdS_true, gdS_false, wt_ff, wt_tt, wt_ft, wt_tf, wt_undef, obH_some', extractV_tuple, nilCheckV_ptr, againK_normal, againK_exit, againK_ret, blockK_normal, blockK_same, blockK_ret, seqK_normal, seqK_exit, seqK_ret, fin_done, if_true', if_false', Bool.not_true, Bool.not_false, idx0, idx1, idx2, idx3, idx4, chk_nil_l, chk_nil_r, done_nm]
    exact ⟨_, rfl, done_mod i1, (E0.same Ab.same).done⟩
  | true =>
    rw [hcan] at e1
    obtain ⟨r, hr, hf0, hf1, _⟩ := canE_some hcan
    have hg := readM_good hr
    rw [hr]
    rw [show (some r).getD [] = r from rfl]
    obtain ⟨rv, gv, E⟩ := E
    have E1 := (E.same (h' := nm h) ⟨Nat.le_refl _, fun _ _ => rfl⟩).ext Ab
    have sb1 : SB h1 b bs := sb.nm.same Ab.same
    obtain ⟨wv, h2, e2,Ac, a2⟩ := spec_ReadMat (n := n) (b := b) (bs := bs) sb1 hb
    rw [hr] at e2 a2
    rw [show (some r : Option (List (List Nat))).isSome = true from rfl] at e2
    rw [show (some r).getD [] = r from rfl] at a2
    have i2 := i1.trans (Ac.inn i1.len)
    have E2 := E1.ext Ac
    obtain ⟨ua, uc, h4, e4,Ae, a4⟩ := spec_refUp h2 gv g E2.au.su (by have := ok.gl; have := ok.n16; omega) ok.g64 from'
    have i4 := i2.trans (Ae.inn i2.len)
    have E4 := E2.ext Ae
    have a24 := a2.same Ae.same
    have st5 := storeN_blk E4.c (o := 3) (vs := [.slice ua (upV g from').1.length uc]) (by simp)
    rw [show List.take 3 [Value.int .i64 n, .int .i64 me, rv, gv] ++ [Value.slice ua (upV g from').1.length uc] ++ List.drop (3 + [Value.slice ua (upV g from').1.length uc].length) [Value.int .i64 n, .int .i64 me, rv, gv] = [.int .i64 n, .int .i64 me, rv, .slice ua (upV g from').1.length uc] from rfl] at st5
    have am5 := E4.am.put E4.c (by decide) (by decide) (.cells [.int .i64 n, .int .i64 me, rv, .slice ua (upV g from').1.length uc])
    have au5 := AU.pQ (a4.up (n1 := L) (Nat.le_trans hL i2.len)) (.cells [.int .i64 n, .int .i64 me, rv, .slice ua (upV g from').1.length uc]) E4.c
    have E5 : QC L (h4.put p (.cells [.int .i64 n, .int .i64 me, rv, .slice ua (upV g from').1.length uc])) p n me rv (.slice ua (upV g from').1.length uc) m (upV g from').1 := ⟨E4.c.put _, am5, au5⟩
    have i5 := i4.trans (show In h.blks.length (Just p) h4 _ from In.put i4.len (.inr (show Just p p from rfl)) (.cells [.int .i64 n, .int .i64 me, rv, .slice ua (upV g from').1.length uc]))
    have a5 := a24.put E4.c (by decide) (by decide) (.cells [.int .i64 n, .int .i64 me, rv, .slice ua (upV g from').1.length uc])
    generalize h4.put p (.cells [.int .i64 n, .int .i64 me, rv, .slice ua (upV g from').1.length uc]) = h5 at *
    obtain ⟨jv, h6, e6,Ag, a6⟩ := spec_UpMat (h := nm h5) (n := n) (a5.smW.nm) (goodM_small hg.1) hg.2 from' to hto
    obtain ⟨Ag', m6⟩ := Ag.amx
    have E6 := E5.ext Ag'
    have a6' : AM 52 h5.blks.length (am h6 h5) jv (upM n r from' to) := a6.kp fun _ _ _ _ _ _ => rfl
    have gu := goodM_up (n := n) (m := r) hg.1 from' to
    have hlen : m.length ≤ (upM n r from' to).length := by
      have h1 := ((goodM_iff n m).1 ok.gd).1
      have h2 := ((goodM_iff n _).1 gu).1
      omega
    obtain ⟨ov, h7, e7,Ah, a7⟩ := spec_JoinMat E6.am.smW a6'.smW (goodM_small ok.gd) (goodM_small gu) hlen
    obtain ⟨oa, oc, rfl⟩ := a7.shape
    have E7 := E6.ext Ah
    have i6 := i5.trans (Ag'.inn i5.len)
    have i7 := i6.trans (Ah.inn i6.len)
    have st8 := storeN_blk E7.c (o := 2) (vs := [.slice oa (joinM m (upM n r from' to)).length oc]) (by simp)
    rw [show List.take 2 [Value.int .i64 n, .int .i64 me, rv, .slice ua (upV g from').1.length uc] ++ [Value.slice oa (joinM m (upM n r from' to)).length oc] ++ List.drop (2 + [Value.slice oa (joinM m (upM n r from' to)).length oc].length) [Value.int .i64 n, .int .i64 me, rv, .slice ua (upV g from').1.length uc] = [.int .i64 n, .int .i64 me, .slice oa (joinM m (upM n r from' to)).length oc, .slice ua (upV g from').1.length uc] from rfl] at st8
    have am8 := (a7.up (n1 := L) (Nat.le_trans hL i6.len)).put E7.c (by decide) (by decide) (.cells [.int .i64 n, .int .i64 me, .slice oa (joinM m (upM n r from' to)).length oc, .slice ua (upV g from').1.length uc])
    have au8 := E7.au.pQ (.cells [.int .i64 n, .int .i64 me, .slice oa (joinM m (upM n r from' to)).length oc, .slice ua (upV g from').1.length uc]) E7.c
    simp -implicitDefEqProofs (disch := omega) only [dcT, dcF, e1, faQ0, faQ2, faQ3, mldInt, ldUs, ldWs, E1.l0, e2, E2.l3, e4, stUs, st5, E5.l2, E5.l0, e6, e7, stWs, st8, m6, List.append_nil, ↓ret38, ↓cnd_true, ↓cnd_false, ↓Option.bind_some, ↓obH_some', bin_add, bin_sub, bin_mul, bin_lss, bin_leq, bin_gtr, bin_geq, bin_eql, bin_neq, un_not, un_neg, Option.bind_some, Option.bind_none, Option.map_some, cnd_true, cnd_false, pickV_true, pickV_false, gd_true, gd_false, gdV_true, gdV_false, gdH_true, gdH_false, gdS_true, gdS_false, wt_ff, wt_tt, wt_ft, wt_tf, wt_undef, obH_some', extractV_tuple, nilCheckV_ptr, againK_normal, againK_exit, againK_ret, blockK_normal, blockK_same, blockK_ret, seqK_normal, seqK_exit, seqK_ret, fin_done, if_true', if_false', Bool.not_true, Bool.not_false, idx0, idx1, idx2, idx3, idx4, chk_nil_l, chk_nil_r, done_nm]
    exact ⟨_, rfl, done_mod (i7.trans (In.put i7.len (.inr (show Just p p from rfl)) _)),Qn.done ⟨_, _, ⟨E7.c.put _, am8, au8⟩⟩⟩
theorem mkUn (n : Nat) (hn : n ≤ 16) (h : Heap) : makeSliceV Try.prog 52 (.int .i64 n) (.int .i64 n) h = some (.slice (some ⟨h.blks.length, 0, none⟩) n n, h.new (.cells ((List.replicate n 0).map u64V)) 46) := by
  unfold makeSliceV
  simp only [etU.under, natOf_int, etU.size, etU.bytes, etU.zero]
  rw [if_pos ⟨Nat.le_refl _, by omega, by omega, by omega, etU.zs, etU.zg⟩]
  have := zeros_list (.int .u64 0) n
  rw [show ((Array.range (n * 1)).map fun x => (Value.int .u64 0).cells[x % (Value.int .u64 0).cells.size]!).toList = List.replicate n (.int .u64 0) from this, List.map_replicate]
  rfl
theorem begun_loop {h0 : Heap} {n p : Nat} {me : Int} {g : List Nat} (hn : n ≤ 16) (hp : h0.blks.length ≤ p) : ∀ (mm i : Nat) (h : Heap) (rv gv : Value) (vs : List Value), n = i + mm → Cells h p 66 [.int .i64 n, .int .i64 me, rv, gv] → AMv 52 h0.blks.length h rv vs (List.replicate i (List.replicate n 0)) → AU h0.blks.length h gv g → In h0.blks.length No (nm h0) h →
    ∀ (Ab Ac Ad Ae Ah Ai Aj Ak Al An Ao Ap Aq Ar Au Av Aw Ax Ay Az Ba Bb Bc Bd Be Bf Bg : Value), ∃ h', loopK Try.prog (evC Try.prog) c36_1 ⟨#[.int .i64 n,Ab,Ac,Ad,Ae, .pointer (some ⟨p, 0, none⟩), .int .i64 i,Ah,Ai,Aj,Ak,Al,An,Ao,Ap,Aq,Ar,Au,Av,Aw,Ax,Ay,Az,Ba,Bb,Bc,Bd,Be,Bf,Bg], h⟩ (blockK 0 (seqK Try.prog (evC Try.prog) c36_2 (retK Try.f36 Try.prog h0))) =
      some (.pointer (some ⟨p, 0, none⟩), h') ∧ HExt h0 h' ∧ Qn h0.blks.length h' p n me (zerosM n) g := by
  intro mm
  induction mm with
  | zero =>
    intro i h rv gv vs hi c A au hin Ab Ac Ad Ae Ah Ai Aj Ak Al An Ao Ap Aq Ar Au Av Aw Ax Ay Az Ba Bb Bc Bd Be Bf Bg
    obtain rfl : n = i := by omega
    rw [loopK_eq evC_m, c36_1_eq]
    simp -implicitDefEqProofs (disch := omega) only [dcT, dcF, ↓c36_2_eq, ↓ret36, ↓cnd_true, ↓cnd_false, ↓Option.bind_some, ↓obH_some', bin_add, bin_sub, bin_mul, bin_lss, bin_leq, bin_gtr, bin_geq, bin_eql, bin_neq, un_not, un_neg, Option.bind_some, Option.bind_none, Option.map_some, cnd_true, cnd_false, pickV_true, pickV_false, gd_true, gd_false, gdV_true, gdV_false, gdH_true, gdH_false, gdS_true, gdS_false, wt_ff, wt_tt, wt_ft, wt_tf, wt_undef, obH_some', extractV_tuple, nilCheckV_ptr, againK_normal, againK_exit, againK_ret, blockK_normal, blockK_same, blockK_ret, seqK_normal, seqK_exit, seqK_ret, fin_done, if_true', if_false', Bool.not_true, Bool.not_false, idx0, idx1, idx2, idx3, idx4, chk_nil_l, chk_nil_r, done_nm]
    exact ⟨_, rfl, done_ext' hin,Qn.done ⟨rv, gv, ⟨c, ⟨vs, A⟩, au⟩⟩⟩
  | succ mm ih =>
    intro i h rv gv vs hi c A au hin Ab Ac Ad Ae Ah Ai Aj Ak Al An Ao Ap Aq Ar Au Av Aw Ax Ay Az Ba Bb Bc Bd Be Bf Bg
    rw [loopK_eq evC_m, c36_1_eq]
    have hl : h0.blks.length ≤ h.blks.length := hin.len
    have l2 : h.load1 p 2 = some rv := by rw [c.load]; rfl
    have k1 := mkUn n hn h
    have ax := AU.lit (h := h) (n0 := h.blks.length) (Nat.le_refl _) (List.replicate n 0) (by simp; omega)
    have s1 := Same.new h (.cells ((List.replicate n 0).map u64V)) 46
    have i1 := hin.trans (In.new hl (.cells ((List.replicate n 0).map u64V)) 46)
    have A1 := A.kp (h' := h.new (.cells ((List.replicate n 0).map u64V)) 46) fun b _ _ hb _ _ => Heap.new_old (List.getElem?_eq_some_iff.1 hb).1
    have c1 := c.same s1
    have au1 := au.same s1
    have hvs : ∀ x ∈ vs,Lo x h.blks.length := fun x hx => by
      obtain ⟨k, hk, rfl⟩ := List.getElem_of_mem hx
      obtain ⟨r', _, hr'⟩ := A.rows.get (i := k) (a := vs[k]) (List.getElem?_eq_getElem hk)
      exact hr'.su.lo
    generalize h.new (.cells ((List.replicate n 0).map u64V)) 46 = h1 at *
    obtain ⟨a2, c2', h2, e2, A2, k2, o2⟩ := A1.app etW (by decide) (n1 := h.blks.length) i1.len hl hvs ax (by simp; omega)
    rw [show List.replicate i (List.replicate n 0) ++ [List.replicate n 0] = List.replicate (i + 1) (List.replicate n 0) from List.replicate_succ'.symm] at e2 A2
    rw [zlenR] at e2
    have c3 := o2 _ _ _ c1 (by decide)
    have au3 : AU h0.blks.length h2 gv g := au1.keep fun b _ hv => by
      obtain ⟨all, hb⟩ := au1.blk hv
      exact (o2 b _ all hb (by decide)).trans hb.symm
    have st := storeN_blk c3 (o := 2) (vs := [.slice a2 (List.replicate (i + 1) (List.replicate n 0)).length c2']) (by simp)
    rw [show List.take 2 [Value.int .i64 n, .int .i64 me, rv, gv] ++ [Value.slice a2 (List.replicate (i + 1) (List.replicate n 0)).length c2'] ++ List.drop (2 + [Value.slice a2 (List.replicate (i + 1) (List.replicate n 0)).length c2'].length) [Value.int .i64 n, .int .i64 me, rv, gv] = [.int .i64 n, .int .i64 me, .slice a2 (List.replicate (i + 1) (List.replicate n 0)).length c2', gv] from rfl] at st
    have hw : IntKind.wrap .i64 ((i : Int) + 1) = ((i + 1 : Nat) : Int) := by rw [wrap_i64] <;> omega
    have i3 := i1.trans k2.inn
    have ih' := ih (i + 1) _ _ gv _ (by omega) (c3.put [.int .i64 n, .int .i64 me, .slice a2 (List.replicate (i + 1) (List.replicate n 0)).length c2', gv]) (A2.put c3 (by decide) (by decide) _) (au3.pQ _ c3) (i3.trans (In.put i3.len (.inl hp) _))
    simp -implicitDefEqProofs (disch := omega) only [dcT, dcF, faQ2, ldWs, l2, k1, mkW1, e2, stWs, st, hw, ↓cnd_true, ↓cnd_false, ↓Option.bind_some, ↓obH_some', bin_add, bin_sub, bin_mul, bin_lss, bin_leq, bin_gtr, bin_geq, bin_eql, bin_neq, un_not, un_neg, Option.bind_some, Option.bind_none, Option.map_some, cnd_true, cnd_false, pickV_true, pickV_false, gd_true, gd_false, gdV_true, gdV_false, gdH_true, gdH_false, gdS_true, gdS_false, wt_ff, wt_tt, wt_ft, wt_tf, wt_undef, obH_some', extractV_tuple, nilCheckV_ptr, againK_normal, againK_exit, againK_ret, blockK_normal, blockK_same, blockK_ret, seqK_normal, seqK_exit, seqK_ret, fin_done, if_true', if_false', Bool.not_true, Bool.not_false, idx0, idx1, idx2, idx3, idx4, chk_nil_l, chk_nil_r, done_nm]
    exact ih' _ _ _ _ _ _ _ _ _ _ _ _ _ _ _ _ _ _ _ _ _ _ _ _ _ _ _
theorem spec_begun (n : Nat) (hn : n ≤ 16) (me : Int) (h : Heap) : ∃ p h', evC Try.prog 36 #[.int .i64 n, .int .i64 me] h = some (.pointer (some ⟨p, 0, none⟩), h') ∧ HExt h h' ∧ Qn h.blks.length h' p n me (zerosM n) (List.replicate n 0) ∧ h.blks.length ≤ p := by
  rw [call36, c36_0_eq]
  have k1 := mkUn n hn (nm h)
  have ax := AU.lit (h := nm h) (n0 := h.blks.length) (Nat.le_refl _) (List.replicate n 0) (by simp; omega)
  have i1 : In h.blks.length No (nm h) _ := In.new (by simp) (.cells ((List.replicate n 0).map u64V)) 46
  rw [zlenR] at ax
  generalize (nm h).new (.cells ((List.replicate n 0).map u64V)) 46 = h1 at *
  have k2 := bxRE n me nilSl' (.slice (some ⟨(nm h).blks.length, 0, none⟩) n n) h1
  have c2 := Cells.new h1 66 [.int .i64 n, .int .i64 me, nilSl', .slice (some ⟨(nm h).blks.length, 0, none⟩) n n]
  have i2 := i1.trans (In.new i1.len (.cells [.int .i64 n, .int .i64 me, nilSl', .slice (some ⟨(nm h).blks.length, 0, none⟩) n n]) 66)
  have au2 : AU h.blks.length _ _ _ := Acc.same ax (Same.new h1 (.cells [.int .i64 n, .int .i64 me, nilSl', .slice (some ⟨(nm h).blks.length, 0, none⟩) n n]) 66)
  have main := begun_loop (h0 := h) (n := n) (p := h1.blks.length) (me := me) (g := List.replicate n 0) hn i1.len n 0 _ nilSl' _ [] (by omega) c2 ⟨.nil, .nil, .nil⟩ au2 i2
  rw [show ((0 : Nat) : Int) = 0 from rfl] at main
  simp -implicitDefEqProofs (disch := omega) only [k1, bdRE, k2, ↓cnd_true, ↓cnd_false, ↓Option.bind_some, ↓obH_some', bin_add, bin_sub, bin_mul, bin_lss, bin_leq, bin_gtr, bin_geq, bin_eql, bin_neq, un_not, un_neg, Option.bind_some, Option.bind_none, Option.map_some, cnd_true, cnd_false, pickV_true, pickV_false, gd_true, gd_false, gdV_true, gdV_false, gdH_true, gdH_false, gdS_true, gdS_false, wt_ff, wt_tt, wt_ft, wt_tf, wt_undef, obH_some', extractV_tuple, nilCheckV_ptr, againK_normal, againK_exit, againK_ret, blockK_normal, blockK_same, blockK_ret, seqK_normal, seqK_exit, seqK_ret, fin_done, if_true', if_false', Bool.not_true, Bool.not_false, idx0, idx1, idx2, idx3, idx4, chk_nil_l, chk_nil_r, done_nm]
  obtain ⟨h', e, x, q⟩ := main _ _ _ _ _ _ _ _ _ _ _ _ _ _ _ _ _ _ _ _ _ _ _ _ _ _ _
  exact ⟨_, _, e, x, q, i1.len⟩
end Go.Am
namespace Go.Am
open Go.Proofs
set_option maxRecDepth 100000
set_option linter.all false
theorem chk_ne {β : Type} {r m : List Nat} (h : ∀ b ∈ r, ∀ x ∈ m, b ≠ x) (x : Option β) : chk r m x = x := by
  have : (r.all fun b => !m.contains b) = true := by
    rw [List.all_eq_true]
    intro b hb
    rw [Bool.not_eq_true', ← Bool.not_eq_true, List.contains_iff_mem]
    exact fun hm => h b hb b hm rfl
  unfold chk; rw [this]
theorem HMod.mods_nm {S : Nat → Prop} {h h' : Heap} (e : HMod S (Am.nm h) h') : ∀ m ∈ h'.mods, S m := by
  obtain ⟨d, e1, e2⟩ := e.mods
  intro m hm
  rw [e1] at hm
  rcases List.mem_append.1 hm with hm | hm
  · exact (e2 m hm).1
  · cases hm
theorem HMod.amx {S : Nat → Prop} {h h' : Heap} (e : HMod S (Am.nm h) h') : HMod S h (Am.am h' h) := by
  obtain ⟨d, e1, e2⟩ := e.mods
  refine ⟨e.len, e.old, d, ?_, e2⟩
  show h'.mods ++ h.mods = d ++ h.mods
  rw [e1]; simp
theorem rb_ptr (b o : Nat) : rb (.pointer (some ⟨b, o, Option.none⟩)) = [b] := rfl
theorem ABs.atA {n0 : Nat} {h : Heap} {v : Value} {l : List (List UInt8)} (a : ABs n0 h v l) {i : Nat} (hi : i < l.length) :
    ∃ ad x c, indexAddrV Try.prog 44 v (.int .i64 i) = some (.pointer (some ad)) ∧ loadV Try.prog 23 (.pointer (some ad)) h = some (.slice x (l.getD i []).length c) ∧ AB n0 h (.slice x (l.getD i []).length c) (l.getD i []) := by
  obtain ⟨vs, x⟩ := a
  obtain ⟨ad, e1, e2, _⟩ := (x.out.sl etBs.size).row.at1 etBs.under etBs.size (by kernel_rfl) hi .i64
  obtain ⟨y, hy, ay⟩ := x.rows.get' (i := i) (b := l[i]) (List.getElem?_eq_getElem hi)
  rw [hy] at e2
  rw [List.getD_eq_getElem?_getD, List.getElem?_eq_getElem hi]
  obtain ⟨aa, cc, rfl⟩ := ay.shape
  exact ⟨ad, aa, cc, e1, e2, ay⟩
theorem ABs.modE {n0 : Nat} {h h' : Heap} {v : Value} {l : List (List UInt8)} (a : ABs n0 h v l) {p : Nat} {cs : List Value} (c : Cells h p 127 cs) (e : HMod (Just p) h h') : ABs n0 h' v l :=
  let ⟨vs, x⟩ := a
  ⟨vs, x.kp fun b all ty hb ht _ => e.old b (List.getElem?_eq_some_iff.1 hb).1 fun hp => by
    have hp : b = p := hp
    subst hp
    unfold Cells at c
    rw [hb] at c
    simp only [Option.some.injEq, Blk.mk.injEq] at c
    rcases ht with ht | ht
    · exact absurd (c.2.1.symm.trans ht) (by decide)
    · exact absurd (c.2.1.symm.trans ht) (by decide)⟩
theorem En.cl {L : Nat} {h : Heap} {p : Nat} {n me : Int} {m : List (List Nat)} {g : List Nat} (E : En L h p n me m g) : ∃ cs, Cells h p 127 cs := let ⟨_, _, x⟩ := E; ⟨_, x.c⟩
theorem En.modE {L L2 : Nat} {h h' : Heap} {p q : Nat} {n me n2 me2 : Int} {m m2 : List (List Nat)} {g g2 : List Nat} (E : En L h p n me m g) (F : En L2 h q n2 me2 m2 g2) (hpq : p ≠ q) (e : HMod (Just q) h h') : En L h' p n me m g :=
  E.mod e (fun x => hpq x) fun b hb => by have hb : b = q := hb; subst hb; obtain ⟨cs, c⟩ := F.cl; exact ⟨_, _, c, by decide, by decide⟩
theorem En.kpT {L : Nat} {h h' : Heap} {p : Nat} {n me : Int} {m : List (List Nat)} {g : List Nat} (E : En L h p n me m g) {T : TypeId} (h1 : 127 ≠ T) (h2 : 53 ≠ T) (h3 : 46 ≠ T) (k : ∀ q ty cs, Cells h q ty cs → ty ≠ T → Cells h' q ty cs) : En L h' p n me m g := let ⟨_, _, x⟩ := E; ⟨_, _, x.kpT h1 h2 h3 k⟩
end Go.Am
namespace Go.Am
open Go.Proofs
set_option maxRecDepth 100000
set_option linter.all false
attribute [local congr] obind_congr obH_congr cnd_congr chk_congr retK_congr codeK_congr
theorem All2.length_eqA {α β : Type} {R : α → β → Prop} {l : List α} {m : List β} (h : All2 R l m) : l.length = m.length := by
  induction h with
  | nil => rfl
  | cons _ _ ih => simp [ih]
structure AT where
  op : Int
  frm : Int
  at' : Int
  to : Nat
  b : List UInt8
def actC (p : AT) (bv : Value) : List Value := [.int .i64 p.op, .int .i64 p.frm, .int .i64 p.at', .int .u64 p.to, bv]
def SA (h : Heap) (v : Value) (l : List AT) : Prop := ∃ bvs, Row h 5 v l.length (List.zipWith actC l bvs).flatten ∧ All2 (fun bv p => SB h bv p.b) bvs l
theorem SA.same {h h' : Heap} {v : Value} {l : List AT} (s : SA h v l) (e : Same h h') : SA h' v l := let ⟨bvs, r, b⟩ := s; ⟨bvs, r.keep fun b hb _ => e.2 b hb, b.mono fun _ _ x => x.same e⟩
theorem SA.len {h : Heap} {v : Value} {l : List AT} (s : SA h v l) : lenV Try.prog 57 v h = some (.int .i64 l.length) := by
  obtain ⟨bvs, r, b⟩ := s
  have hu : Try.prog.underlying 57 = some (.slice 61) := by kernel_rfl
  exact r.len_eq hu
theorem flat5 : ∀ (l : List AT) (bvs : List Value) (i k : Nat), k < 5 → l.length = bvs.length → (hi : i < l.length) → (hb : i < bvs.length) → (List.zipWith actC l bvs).flatten[i * 5 + k]? = (actC l[i] bvs[i])[k]?
  | [], _, i, k, _, _, hi, _ => by simp at hi
  | _ :: _, [], i, k, _, hl, _, _ => by simp at hl
  | p :: l, v :: bvs, 0, k, hk, hl, hi, hb => by
    simp only [List.zipWith_cons_cons, List.flatten_cons, Nat.zero_mul, Nat.zero_add, List.getElem_cons_zero]
    rw [List.getElem?_append_left (by simpa [actC] using hk)]
  | p :: l, v :: bvs, i + 1, k, hk, hl, hi, hb => by
    simp only [List.zipWith_cons_cons, List.flatten_cons, List.getElem_cons_succ]
    rw [List.getElem?_append_right (by simp [actC]; omega)]
    have : (i + 1) * 5 + k - (actC p v).length = i * 5 + k := by simp [actC]; omega
    rw [this]
    exact flat5 l bvs i k hk (by simpa using hl) (by simpa using hi) (by simpa using hb)
theorem faA0 (b o : Nat) : fieldAddrV Try.prog 61 (.pointer (some ⟨b, o, none⟩)) 0 = some (.pointer (some ⟨b, o, none⟩)) := by kernel_rfl
theorem faA1 (b o : Nat) : fieldAddrV Try.prog 61 (.pointer (some ⟨b, o, none⟩)) 1 = some (.pointer (some ⟨b, o + 1, none⟩)) := by kernel_rfl
theorem faA2 (b o : Nat) : fieldAddrV Try.prog 61 (.pointer (some ⟨b, o, none⟩)) 2 = some (.pointer (some ⟨b, o + 2, none⟩)) := by kernel_rfl
theorem faA3 (b o : Nat) : fieldAddrV Try.prog 61 (.pointer (some ⟨b, o, none⟩)) 3 = some (.pointer (some ⟨b, o + 3, none⟩)) := by kernel_rfl
theorem faA4 (b o : Nat) : fieldAddrV Try.prog 61 (.pointer (some ⟨b, o, none⟩)) 4 = some (.pointer (some ⟨b, o + 4, none⟩)) := by kernel_rfl
structure AAt (h : Heap) (v : Value) (i : Nat) (p : AT) (b o : Nat) (bv : Value) : Prop where
  at_ : indexAddrV Try.prog 57 v (.int .i64 i) = some (.pointer (some ⟨b, o, none⟩))
  l0 : h.load1 b o = some (.int .i64 p.op)
  l1 : h.load1 b (o + 1) = some (.int .i64 p.frm)
  l2 : h.load1 b (o + 2) = some (.int .i64 p.at')
  l3 : h.load1 b (o + 3) = some (.int .u64 p.to)
  l4 : h.load1 b (o + 4) = some bv
  sb : SB h bv p.b
theorem SA.at {v : Value} {h : Heap} {l : List AT} (s : SA h v l) {i : Nat} (hi : i < l.length) : ∃ b o bv, ∀ h', Same h h' → AAt h' v i l[i] b o bv := by
  obtain ⟨bvs, r, hb⟩ := s
  have hl : bvs.length = l.length := hb.length_eqA
  have hu : Try.prog.underlying 57 = some (.slice 61) := by kernel_rfl
  have hs : sizeT Try.prog 61 = some 5 := by kernel_rfl
  cases r0 : v with
  | slice ad n c =>
    subst r0
    have r' := r
    generalize hn : l.length = n at r'
    generalize hcs : (List.zipWith actC l bvs).flatten = cs at r'
    cases r' with
    | nil => omega
    | mk hld =>
      rename_i b o
      rw [← hn, ← hcs] at hld
      refine ⟨b, o + i * 5, bvs[i], fun h' e => ?_⟩
      have hld' : h'.loadN b o (l.length * 5) = some (List.zipWith actC l bvs).flatten := by rw [loadN_of (e.2 b (loadN_lt hld))]; exact hld
      have get : ∀ k, k < 5 → h'.load1 b (o + i * 5 + k) = (actC l[i] bvs[i])[k]? := fun k hk => by
        rw [Nat.add_assoc, loadN_get hld' (by omega), flat5 l bvs i k hk hl.symm hi (by omega)]
      obtain ⟨p, hp, hsb⟩ := hb.get (i := i) (a := bvs[i]) (List.getElem?_eq_getElem (by omega))
      obtain rfl : l[i] = p := by rw [List.getElem?_eq_getElem hi] at hp; exact Option.some.inj hp
      refine ⟨?_, get 0 (by omega), get 1 (by omega), get 2 (by omega), get 3 (by omega), get 4 (by omega), hsb.same e⟩
      unfold indexAddrV
      simp only [hu, natOf_int, hs]
      rw [if_pos (by omega)]
  | _ => subst r0; cases r
theorem reads_act {h : Heap} {f : Nat} {cs : List Value} {d : DT} (x : Reads Try.prog h f 61 cs d) : ∃ p bv, cs = actC p bv ∧ SB h bv p.b ∧ p.to < 2 ^ 64 := by
  obtain ⟨g, l, rfl, hlen, ha⟩ := reads_struct Try.underlying61 x
  rw [show Try.prog.cellsOf 61 = 5 by kernel_rfl] at hlen
  obtain ⟨c0, c1, c2, c3, c4, rfl⟩ : ∃ c0 c1 c2 c3 c4, cs = [c0, c1, c2, c3, c4] := by
    match cs, hlen with
    | [a, b, c, d, e], _ => exact ⟨a, b, c, d, e, rfl⟩
  have h0 : Try.prog.cellsOf 3 = 1 := by kernel_rfl
  have h1 : Try.prog.cellsOf 46 = 1 := by kernel_rfl
  have h3 : Try.prog.cellsOf 23 = 1 := by kernel_rfl
  cases ha with
  | cons a0 ha => cases ha with
    | cons a1 ha => cases ha with
      | cons a2 ha => cases ha with
        | cons a3 ha => cases ha with
          | cons a4 ha =>
          cases ha
          simp only [h0, h1, h3] at a0 a1 a2 a3 a4
          obtain ⟨z, _, z2, z3⟩ := reads_int (k := .i64) (by kernel_rfl) a0
          obtain ⟨u, _, u2, u3⟩ := reads_int (k := .i64) (by kernel_rfl) a1
          obtain ⟨w, _, w2, w3⟩ := reads_int (k := .i64) (by kernel_rfl) a2
          obtain ⟨y, _, y2, y3⟩ := reads_int (k := .u64) (by kernel_rfl) a3
          obtain ⟨q, l', v, css, _, e2, e3, e4, e5⟩ := reads_slice (e := 5) (by kernel_rfl) a4
          obtain ⟨zs, g1, g2, g3⟩ := reads_ints (k := .u8) (by kernel_rfl) e4
          obtain ⟨bs, b1, b2⟩ := ints_bytes zs g3
          rw [show Try.prog.cellsOf 5 = 1 by kernel_rfl, g2, b2, ← g1, ← b1] at e3
          simp only [List.drop_zero, List.drop_succ_cons, List.take_succ_cons, List.take_zero, List.cons.injEq, and_true] at z2 u2 y2 w2 e2
          subst z2 u2 y2 w2 e2
          have hy := wf_nat rfl y3
          simp only [IntKind.bits] at hy
          refine ⟨⟨z, u, w, y.toNat, bs⟩, c4, ?_, e3, by show y.toNat < 2 ^ 64; omega⟩
          unfold actC
          simp only
          rw [Int.toNat_of_nonneg hy.1]
theorem reads_acts {h : Heap} {f : Nat} : ∀ {css : List (List Value)} {l : List DT}, All2 (fun c d => c.length = Try.prog.cellsOf 61 ∧ Reads Try.prog h f 61 c d) css l → ∃ (ps : List AT) (bvs : List Value), css.flatten = (List.zipWith actC ps bvs).flatten ∧ ps.length = l.length ∧ All2 (fun bv p => SB h bv p.b) bvs ps ∧ ∀ p ∈ ps, p.to < 2 ^ 64
  | _, _, .nil => ⟨[], [], rfl, rfl, .nil, by simp⟩
  | _, _, .cons x q => by
    obtain ⟨ps, bvs, e, hl, a, b⟩ := reads_acts q
    obtain ⟨p, bv, rfl, s, h1⟩ := reads_act x.2
    refine ⟨p :: ps, bv :: bvs, by simp [e], by simp [hl], .cons s a, fun y hy => ?_⟩
    rcases List.mem_cons.1 hy with rfl | hy
    · exact h1
    · exact b y hy
theorem Rd.acts {h : Heap} {v : Value} {d : DT} (r : Rd Try.prog h 57 v d) : ∃ ps : List AT, SA h v ps ∧ ∀ p ∈ ps, p.to < 2 ^ 64 := by
  obtain ⟨f, l, css, rfl, h1, h2, h3⟩ := r.slice (e := 61) (by kernel_rfl)
  obtain ⟨ps, bvs, e, hl, a, b⟩ := reads_acts h2
  rw [show Try.prog.cellsOf 61 = 5 by kernel_rfl, e, ← hl] at h1
  exact ⟨ps, ⟨bvs, h1.row, a⟩, b⟩
end Go.Am
namespace Go.Am
open Go.Proofs
set_option maxRecDepth 100000
set_option linter.all false
attribute [local congr] obind_congr obH_congr cnd_congr chk_congr retK_congr codeK_congr
theorem ABv.appX {n0 : Nat} {h : Heap} (hn : n0 ≤ h.blks.length) {v : Value} {vs : List Value} {l : List (List UInt8)} (A : ABv n0 h v vs l) {a : Option Addr} {c : Nat} {r : List UInt8} (ax : AB n0 h (.slice a r.length c) r) (hl : l.length < 2 ^ 38) :
    ∃ a' c' h', appendV Try.prog 44 (some 44) v (.slice (some ⟨h.blks.length, 0, none⟩) 1 1) (h.new (.cells [.slice a r.length c]) 23) = some (.slice a' (l ++ [r]).length c', h') ∧ ABs n0 h' (.slice a' (l ++ [r]).length c') (l ++ [r]) ∧ Keeps n0 h h' ∧ (∀ b, b < h.blks.length → blockOf v ≠ some b → h'.blks[b]? = h.blks[b]?) ∧ (∀ b, blockOf (.slice a' (l ++ [r]).length c') = some b → h.blks.length ≤ b) := by
  have hlen : vs.length = l.length := A.rows.length_eq
  have A2 : Acc n0 (h.new (.cells [.slice a r.length c]) 23) 23 1 v l.length vs := A.out.keep fun b hb _ => Heap.new_old hb
  have hrow : Row (h.new (.cells [.slice a r.length c]) 23) 1 (.slice (some ⟨h.blks.length, 0, none⟩) 1 1) 1 [.slice a r.length c] := .mk (loadN_blk (blk_new_self _ _ _) rfl)
  obtain ⟨v', h', e1, e2, e3, e4, e5⟩ := append_acc etBs (t1 := some 44) (n0 := n0) (by simp [Heap.new]; omega) A2 (newsV_row etBs.under hrow) (by simp) (by omega) (by omega) (by simp [Value.oneCell'])
  obtain ⟨a', c', rfl⟩ := e2.shape
  have el : l.length + 1 = (l ++ [r]).length := by simp
  rw [el] at e1 e2 e5
  have kk : ∀ b, b < h.blks.length → blockOf v ≠ some b → h'.blks[b]? = h.blks[b]? := fun b hb hv => (e4 b (by simp [Heap.new]; omega) hv).trans (Heap.new_old hb)
  have tne : ∀ {y : Value} {s : List UInt8} {k0 : Nat}, AB k0 h y s → ∀ b, blockOf y = some b → blockOf v ≠ some b := fun {y s k0} s b hv hb => by
    obtain ⟨_,Ab⟩ := s.blk hv
    obtain ⟨_,Ac⟩ := A.out.blk hb
    rw [Ab] at Ac
    simp only [Option.some.injEq, Blk.mk.injEq] at Ac
    exact absurd Ac.2.1 (by decide)
  refine ⟨a', c', h', e1, ⟨_, e2, (A.rows.mono fun x y s => s.keep fun b hb hv => kk b hb (tne s b hv)).append (.cons (ax.keep fun b hb hv => kk b hb (tne ax b hv)) .nil)⟩, (Keeps.new hn _ _).trans e3, kk, fun b hb => ?_⟩
  rcases e5 with ⟨e5, e6⟩ | ⟨e5, _⟩
  · exfalso
    obtain ⟨x, y⟩ := A2.shape
    obtain ⟨y, hy⟩ := y
    rw [hy] at e5
    simp only [Value.slice.injEq] at e5
    have := e5.2.1
    simp at this
  · rw [e5] at hb
    have := Option.some.inj hb
    simp [Heap.new] at this
    omega
theorem plays_told {Q : Option (Value × Heap) → Prop} {h0 : Heap} {L n me pe pq i k : Nat} {av xa sv wv : Value} {s : List UInt8} {T : List (List UInt8)} {m1 m2 : List (List Nat)} {g1 g2 : List Nat} {An : Value} (hsl : s.length < 2 ^ 38) (kc : Ex → St → Option (Value × Heap))
    (hk128 : k < 128) : ∀ (mm q : Nat) (h : Heap) (tv : Value), k = q + mm → (T.length + k < 2 ^ 37) → ABs h0.blks.length h tv (T ++ List.replicate q s) → ABs h0.blks.length h sv (List.replicate k s) → (∀ b, blockOf tv = some b → blockOf sv ≠ some b) → AB 0 h wv s → En L h pe n me m1 g1 → Qn L h pq n me m2 g2 → In h0.blks.length No (nm h0) h →
    (∀ h' tv', ABs h0.blks.length h' tv' (T ++ List.replicate k s) → En L h' pe n me m1 g1 → Qn L h' pq n me m2 g2 → In h0.blks.length No (nm h0) h' → ∀ (Ad Ae Af Ag Ai An Ao Ap Aq Ar Au Av Aw Ax Ay Az Ba Bb Bc Bd Be Bf Bg Bh Bi Bj Bk Bl Bm Bn Bo Bp Bq Br Bs Bt Bu Bv Bw Bx By Bz Ca Cb Cc Cd Ce Cf Cg Ch Ci Cj Ck Cl Cm Cn Co Cp Cq Cr Cs Ct Cu Cv Cw Cx Cy Cz Da Db Dc Dd De Df Dg Dh Di Dj Dk Dl Dm Dn Do Dp Dq Dr Ds Dt Du Dv Dw Dx Dy Dz Ea Eb Ec Ed Ee Ef Eg Eh Ei Ej Ek El Em Eo Ep Eq Er Es Et Eu Ew Ey Ez Fa Fb Fc Fd Fe Ff Fg Fh Fi Fj Fk Fl Fm Fo Fp Fq Fs Ft Fu Fv Fw Fx Fy Fz Ga Gb Gc Gd Ge Gf Gg Gh Gi Gj Gk Gl Gm Gn Gp Gq Gr Gs Gt Gu Gv Gw Gx Gy Gz Ha Hb Hc Hd He Hf Hg Hi Hj Hk Hl : Value), Q (kc .normal ⟨#[.int .i64 n, .int .i64 me, av,Ad,Ae,Af,Ag, .pointer (some ⟨pe, 0, none⟩),Ai, .pointer (some ⟨pq, 0, none⟩), tv', .int .i64 i,An,Ao,Ap,Aq,Ar,Au,Av,Aw,Ax,Ay,Az,Ba,Bb,Bc,Bd,Be,Bf,Bg,Bh,Bi,Bj,Bk,Bl,Bm,Bn,Bo,Bp,Bq,Br,Bs,Bt,Bu,Bv,Bw,Bx,By,Bz,Ca,Cb,Cc,Cd,Ce,Cf,Cg,Ch,Ci,Cj,Ck,Cl,Cm,Cn,Co,Cp,Cq,Cr,Cs,Ct,Cu,Cv,Cw,Cx,Cy,Cz,Da,Db,Dc,Dd,De,Df,Dg,Dh,Di,Dj,Dk,Dl,Dm,Dn,Do,Dp,Dq,Dr,Ds,Dt,Du,Dv,Dw,Dx,Dy,Dz,Ea,Eb,Ec,Ed,Ee,Ef,Eg,Eh,Ei,Ej,Ek,El,Em,Eo,Ep,Eq,Er,Es,Et,Eu,Ew,Ey,Ez,Fa,Fb,Fc,Fd,Fe,Ff,Fg,Fh,Fi,Fj,Fk,Fl,Fm,Fo,Fp,Fq,Fs,Ft,Fu,Fv,Fw,Fx,Fy,Fz,Ga,Gb,Gc,Gd,Ge,Gf,Gg,Gh,Gi,Gj,Gk,Gl,Gm,Gn,Gp,Gq,Gr,Gs,Gt,Gu,Gv,Gw,Gx,Gy,Gz,Ha,Hb,Hc,Hd,He,Hf,Hg,Hi,Hj,Hk,Hl], h'⟩)) →
    ∀ (Ad Ae Af Ag Ai An Ao Av Aw Ax Ay Az Ba Bb Bc Bd Be Bf Bg Bh Bi Bj Bk Bl Bm Bn Bo Bp Bq Br Bs Bt Bu Bv Bw Bx By Bz Ca Cb Cc Cd Ce Cf Cg Ch Ci Cj Ck Cl Cm Cn Co Cp Cq Cr Cs Ct Cu Cv Cw Cx Cy Cz Da Db Dc Dd De Df Dg Dh Di Dj Dk Dl Dm Dn Do Dp Dq Dr Ds Dt Du Dv Dw Dx Dy Dz Ea Eb Ec Ed Ee Ef Eg Eh Ei Ej Ek El Em Eo Ep Eq Er Es Et Eu Ew Ey Ez Fa Fb Fc Fd Fe Ff Fg Fh Fi Fj Fk Fl Fm Fo Fp Fq Fs Ft Fu Fv Fw Fx Fy Fz Ga Gb Gc Gd Ge Gf Gg Gh Gi Gj Gk Gl Gm Gn Gp Gq Gr Gs Gt Gu Gv Gw Gx Gy Gz Ha Hb Hc Hd He Hf Hg Hi Hj Hk Hl : Value), Q (loopK Try.prog (evC Try.prog) c5_18 ⟨#[.int .i64 n, .int .i64 me, av,Ad,Ae,Af,Ag, .pointer (some ⟨pe, 0, none⟩),Ai, .pointer (some ⟨pq, 0, none⟩), tv, .int .i64 i,An,Ao, sv, wv, .int .i64 k, .int .i64 q,Av,Aw,Ax,Ay,Az,Ba,Bb,Bc,Bd,Be,Bf,Bg,Bh,Bi,Bj,Bk,Bl,Bm,Bn,Bo,Bp,Bq,Br,Bs,Bt,Bu,Bv,Bw,Bx,By,Bz,Ca,Cb,Cc,Cd,Ce,Cf,Cg,Ch,Ci,Cj,Ck,Cl,Cm,Cn,Co,Cp,Cq,Cr,Cs,Ct,Cu,Cv,Cw,Cx,Cy,Cz,Da,Db,Dc,Dd,De,Df,Dg,Dh,Di,Dj,Dk,Dl,Dm,Dn,Do,Dp,Dq,Dr,Ds,Dt,Du,Dv,Dw,Dx,Dy,Dz,Ea,Eb,Ec,Ed,Ee,Ef,Eg,Eh,Ei,Ej,Ek,El,Em,Eo,Ep,Eq,Er,Es,Et,Eu,Ew,Ey,Ez,Fa,Fb,Fc,Fd,Fe,Ff,Fg,Fh,Fi,Fj,Fk,Fl,Fm,Fo,Fp,Fq,Fs,Ft,Fu,Fv,Fw,Fx,Fy,Fz,Ga,Gb,Gc,Gd,Ge,Gf,Gg,Gh,Gi,Gj,Gk,Gl,Gm,Gn,Gp,Gq,Gr,Gs,Gt,Gu,Gv,Gw,Gx,Gy,Gz,Ha,Hb,Hc,Hd,He,Hf,Hg,Hi,Hj,Hk,Hl], h⟩ (blockK 3 kc)) := by
  intro mm
  induction mm with
  | zero =>
    intro q h tv hq _ A S dj W E R hin hk Ad Ae Af Ag Ai An Ao Av Aw Ax Ay Az Ba Bb Bc Bd Be Bf Bg Bh Bi Bj Bk Bl Bm Bn Bo Bp Bq Br Bs Bt Bu Bv Bw Bx By Bz Ca Cb Cc Cd Ce Cf Cg Ch Ci Cj Ck Cl Cm Cn Co Cp Cq Cr Cs Ct Cu Cv Cw Cx Cy Cz Da Db Dc Dd De Df Dg Dh Di Dj Dk Dl Dm Dn Do Dp Dq Dr Ds Dt Du Dv Dw Dx Dy Dz Ea Eb Ec Ed Ee Ef Eg Eh Ei Ej Ek El Em Eo Ep Eq Er Es Et Eu Ew Ey Ez Fa Fb Fc Fd Fe Ff Fg Fh Fi Fj Fk Fl Fm Fo Fp Fq Fs Ft Fu Fv Fw Fx Fy Fz Ga Gb Gc Gd Ge Gf Gg Gh Gi Gj Gk Gl Gm Gn Gp Gq Gr Gs Gt Gu Gv Gw Gx Gy Gz Ha Hb Hc Hd He Hf Hg Hi Hj Hk Hl
    obtain rfl : k = q := by omega
    rw [loopK_eq evC_m, c5_18_eq]
    have := hk h tv A E R hin
    simp -implicitDefEqProofs (disch := omega) only [dcT, dcF, ↓cnd_true, ↓cnd_false, ↓Option.bind_some, ↓obH_some', bin_add, bin_sub, bin_mul, bin_lss, bin_leq, bin_gtr, bin_geq, bin_eql, bin_neq, un_not, un_neg, Option.bind_some, Option.bind_none, Option.map_some, cnd_true, cnd_false, pickV_true, pickV_false, gd_true, gd_false, gdV_true, gdV_false, gdH_true, gdH_false, gdS_true, gdS_false, wt_ff, wt_tt, wt_ft, wt_tf, wt_undef, obH_some', extractV_tuple, nilCheckV_ptr, againK_normal, againK_exit, againK_ret, blockK_normal, blockK_same, blockK_ret, seqK_normal, seqK_exit, seqK_ret, fin_done, if_true', if_false', Bool.not_true, Bool.not_false, idx0, idx1, idx2, idx3, idx4, chk_nil_l, chk_nil_r, done_nm]
    exact this _ _ _ _ _ _ _ _ _ _ _ _ _ _ _ _ _ _ _ _ _ _ _ _ _ _ _ _ _ _ _ _ _ _ _ _ _ _ _ _ _ _ _ _ _ _ _ _ _ _ _ _ _ _ _ _ _ _ _ _ _ _ _ _ _ _ _ _ _ _ _ _ _ _ _ _ _ _ _ _ _ _ _ _ _ _ _ _ _ _ _ _ _ _ _ _ _ _ _ _ _ _ _ _ _ _ _ _ _ _ _ _ _ _ _ _ _ _ _ _ _ _ _ _ _ _ _ _ _ _ _ _ _ _ _ _ _ _ _ _ _ _ _ _ _ _ _ _ _ _ _ _ _ _ _ _ _ _ _ _ _ _ _ _ _ _ _ _ _ _ _ _ _ _ _ _ _
  | succ mm ih =>
    intro q h tv hq hT A S dj W E R hin hk Ad Ae Af Ag Ai An Ao Av Aw Ax Ay Az Ba Bb Bc Bd Be Bf Bg Bh Bi Bj Bk Bl Bm Bn Bo Bp Bq Br Bs Bt Bu Bv Bw Bx By Bz Ca Cb Cc Cd Ce Cf Cg Ch Ci Cj Ck Cl Cm Cn Co Cp Cq Cr Cs Ct Cu Cv Cw Cx Cy Cz Da Db Dc Dd De Df Dg Dh Di Dj Dk Dl Dm Dn Do Dp Dq Dr Ds Dt Du Dv Dw Dx Dy Dz Ea Eb Ec Ed Ee Ef Eg Eh Ei Ej Ek El Em Eo Ep Eq Er Es Et Eu Ew Ey Ez Fa Fb Fc Fd Fe Ff Fg Fh Fi Fj Fk Fl Fm Fo Fp Fq Fs Ft Fu Fv Fw Fx Fy Fz Ga Gb Gc Gd Ge Gf Gg Gh Gi Gj Gk Gl Gm Gn Gp Gq Gr Gs Gt Gu Gv Gw Gx Gy Gz Ha Hb Hc Hd He Hf Hg Hi Hj Hk Hl
    rw [loopK_eq evC_m, c5_18_eq]
    obtain ⟨ad, sx, sc, ea, ex, ab⟩ := S.atA (i := q) (by simp; omega)
    rw [show (List.replicate k s).getD q [] = s by rw [List.getD_eq_getElem?_getD, List.getElem?_replicate, if_pos (by omega)]; rfl] at ex ab
    have f1 := strB (ab.sl etB.size)
    have f2 := strB (W.sl etB.size)
    have hse : ∀ xo yo (x : List UInt8), binV Try.prog .neq 9 xo yo (strV x) (strV x) = some (.bool false) := fun xo yo x => by rw [bin_strneq, decide_eq_false (fun h => h rfl)]
    have hw : IntKind.wrap .i64 ((q : Int) + 1) = ((q + 1 : Nat) : Int) := by rw [wrap_i64] <;> omega
    obtain ⟨vs, A⟩ := A
    obtain ⟨a3, c3, h3, e3, A3, k3, o3, n3⟩ := A.appX hin.len ab (by simp; omega)
    rw [show T ++ List.replicate q s ++ [s] = T ++ List.replicate (q + 1) s by rw [List.append_assoc, ← List.replicate_succ']] at e3 A3 n3
    have tne : ∀ (b : Nat) (all : List Value) (ty : TypeId), h.blks[b]? = some ⟨.cells all, ty, true⟩ → ty ≠ 23 → h3.blks[b]? = h.blks[b]? := fun b all ty hb ht => o3 b (List.getElem?_eq_some_iff.1 hb).1 fun e => by
      obtain ⟨_,Ac⟩ := A.out.blk e
      rw [hb] at Ac
      simp only [Option.some.injEq, Blk.mk.injEq] at Ac
      exact ht Ac.2.1
    have S3 : ABs h0.blks.length h3 sv (List.replicate k s) := by
      obtain ⟨ws, x⟩ := S
      exact ⟨ws, x.out.keep fun b hb hv => o3 b hb fun e => dj b e hv, x.rows.mono fun _ _ y => y.keep fun b _ hv => by obtain ⟨all, h1⟩ := y.blk hv; exact tne b all _ h1 (by decide)⟩
    have W3 : AB 0 h3 wv s := W.keep fun b _ hv => by obtain ⟨all, h1⟩ := W.blk hv; exact tne b all _ h1 (by decide)
    have E3 : En L h3 pe n me m1 g1 := by
      obtain ⟨_, _, x⟩ := E
      exact ⟨_, _, x.kp fun b all ty hb ht => tne b all ty hb (by rcases ht with ⟨rfl, _⟩ | rfl | rfl <;> decide)⟩
    have R3 : Qn L h3 pq n me m2 g2 := by
      obtain ⟨_, _, x⟩ := R
      exact ⟨_, _, x.kp fun b all ty hb ht => tne b all ty hb (by rcases ht with ⟨rfl, _⟩ | rfl | rfl <;> decide)⟩
    have dj3 : ∀ b, blockOf (.slice a3 (T ++ List.replicate (q + 1) s).length c3) = some b → blockOf sv ≠ some b := fun b hb hs => by
      have h1 := n3 b hb
      obtain ⟨ws, x⟩ := S
      have := (x.out.sl etBs.size).lt hs
      omega
    have := ih (q + 1) h3 _ (by omega) hT A3 S3 dj3 W3 E3 R3 (hin.trans k3.inn) hk
    simp -implicitDefEqProofs (disch := omega) only [dcT, dcF, ea, ex, f1, f2, hse, mkBs1, e3, hw, ↓cnd_true, ↓cnd_false, ↓Option.bind_some, ↓obH_some', bin_add, bin_sub, bin_mul, bin_lss, bin_leq, bin_gtr, bin_geq, bin_eql, bin_neq, un_not, un_neg, Option.bind_some, Option.bind_none, Option.map_some, cnd_true, cnd_false, pickV_true, pickV_false, gd_true, gd_false, gdV_true, gdV_false, gdH_true, gdH_false, gdS_true, gdS_false, wt_ff, wt_tt, wt_ft, wt_tf, wt_undef, obH_some', extractV_tuple, nilCheckV_ptr, againK_normal, againK_exit, againK_ret, blockK_normal, blockK_same, blockK_ret, seqK_normal, seqK_exit, seqK_ret, fin_done, if_true', if_false', Bool.not_true, Bool.not_false, idx0, idx1, idx2, idx3, idx4, chk_nil_l, chk_nil_r, done_nm]
    exact this _ _ _ _ _ _ _ _ _ _ _ _ _ _ _ _ _ _ _ _ _ _ _ _ _ _ _ _ _ _ _ _ _ _ _ _ _ _ _ _ _ _ _ _ _ _ _ _ _ _ _ _ _ _ _ _ _ _ _ _ _ _ _ _ _ _ _ _ _ _ _ _ _ _ _ _ _ _ _ _ _ _ _ _ _ _ _ _ _ _ _ _ _ _ _ _ _ _ _ _ _ _ _ _ _ _ _ _ _ _ _ _ _ _ _ _ _ _ _ _ _ _ _ _ _ _ _ _ _ _ _ _ _ _ _ _ _ _ _ _ _ _ _ _ _ _ _ _ _ _ _ _ _ _ _ _ _ _ _ _ _ _ _ _ _ _ _ _ _ _ _ _ _
theorem plays_tail {Q : Option (Value × Heap) → Prop} {h0 h : Heap} {L n me pe pq i : Nat} {av tv : Value} {T : List (List UInt8)} {m : List (List Nat)} {g : List Nat} (ok : EnOk n me m g) (E : En L h pe n me m g) (R : Qn L h pq n me m g) (A : ABs h0.blks.length h tv T) (hin : In h0.blks.length No (nm h0) h) (kc : Ex → St → Option (Value × Heap))
    (hk : ∀ h', En L h' pe n me m g → Qn L h' pq n me m g → ABs h0.blks.length h' tv T → In h0.blks.length No (nm h0) h' → ∀ (Ad Ae Af Ag Ai An Ao Ap Aq Ar Au Av Aw Ax Ay Az Ba Bb Bc Bd Be Bf Bg Bh Bi Bj Bk Bl Bm Bn Bo Bp Bq Br Bs Bt Bu Bv Bw Bx By Bz Ca Cb Cc Cd Ce Cf Cg Ch Ci Cj Ck Cl Cm Cn Co Cp Cq Cr Cs Ct Cu Cv Cw Cx Cy Cz Da Db Dc Dd De Df Dg Dh Di Dj Dk Dl Dm Dn Do Dp Dq Dr Ds Dt Du Dv Dw Dx Dy Dz Ea Eb Ec Ed Ee Ef Eg Eh Ei Ej Ek El Em Eo Ep Eq Er Es Et Eu Ew Ey Ez Fa Fb Fc Fd Fe Ff Fg Fh Fi Fj Fk Fl Fm Fo Fp Fq Fs Ft Fu Fv Fw Fx Fy Fz Ga Gb Gc Gd Ge Gf Gg Gh Gi Gj Gk Gl Gm Gn Gp Gq Gr Gs Gt Gu Gv Gw Gx Gy Gz Ha Hb Hc Hd He Hf Hg Hi Hj Hk Hl : Value), Q (kc .normal ⟨#[.int .i64 n, .int .i64 me, av,Ad,Ae,Af,Ag, .pointer (some ⟨pe, 0, none⟩),Ai, .pointer (some ⟨pq, 0, none⟩), tv, .int .i64 i,An,Ao,Ap,Aq,Ar,Au,Av,Aw,Ax,Ay,Az,Ba,Bb,Bc,Bd,Be,Bf,Bg,Bh,Bi,Bj,Bk,Bl,Bm,Bn,Bo,Bp,Bq,Br,Bs,Bt,Bu,Bv,Bw,Bx,By,Bz,Ca,Cb,Cc,Cd,Ce,Cf,Cg,Ch,Ci,Cj,Ck,Cl,Cm,Cn,Co,Cp,Cq,Cr,Cs,Ct,Cu,Cv,Cw,Cx,Cy,Cz,Da,Db,Dc,Dd,De,Df,Dg,Dh,Di,Dj,Dk,Dl,Dm,Dn,Do,Dp,Dq,Dr,Ds,Dt,Du,Dv,Dw,Dx,Dy,Dz,Ea,Eb,Ec,Ed,Ee,Ef,Eg,Eh,Ei,Ej,Ek,El,Em,Eo,Ep,Eq,Er,Es,Et,Eu,Ew,Ey,Ez,Fa,Fb,Fc,Fd,Fe,Ff,Fg,Fh,Fi,Fj,Fk,Fl,Fm,Fo,Fp,Fq,Fs,Ft,Fu,Fv,Fw,Fx,Fy,Fz,Ga,Gb,Gc,Gd,Ge,Gf,Gg,Gh,Gi,Gj,Gk,Gl,Gm,Gn,Gp,Gq,Gr,Gs,Gt,Gu,Gv,Gw,Gx,Gy,Gz,Ha,Hb,Hc,Hd,He,Hf,Hg,Hi,Hj,Hk,Hl], h'⟩)) :
    ∀ (Ad Ae Af Ag Ai An Ao Ap Aq Ar Au Av Aw Ax Ay Az Ba Bb Bc Bd Be Bf Bg Bh Bi Bj Bk Bl Bm Bn Bo Bp Bq Br Bs Bt Bu Bv Bw Bx By Bz Ca Cb Cc Cd Ce Cf Cg Ch Ci Cj Ck Cl Cm Cn Co Cp Cq Cr Cs Ct Cu Cv Cw Cx Cy Cz Da Db Dc Dd De Df Dg Dh Di Dj Dk Dl Dm Dn Do Dp Dq Dr Ds Dt Du Dv Dw Dx Dy Dz Ea Eb Ec Ed Ee Ef Eg Eh Ei Ej Ek El Em Eo Ep Eq Er Es Et Eu Ew Ey Ez Fa Fb Fc Fd Fe Ff Fg Fh Fi Fj Fk Fl Fm Fo Fp Fq Fs Ft Fu Fv Fw Fx Fy Fz Ga Gb Gc Gd Ge Gf Gg Gh Gi Gj Gk Gl Gm Gn Gp Gq Gr Gs Gt Gu Gv Gw Gx Gy Gz Ha Hb Hc Hd He Hf Hg Hi Hj Hk Hl : Value), Q (codeK Try.prog (evC Try.prog) loopL c5_17 ⟨#[.int .i64 n, .int .i64 me, av,Ad,Ae,Af,Ag, .pointer (some ⟨pe, 0, none⟩),Ai, .pointer (some ⟨pq, 0, none⟩), tv, .int .i64 i,An,Ao,Ap,Aq,Ar,Au,Av,Aw,Ax,Ay,Az,Ba,Bb,Bc,Bd,Be,Bf,Bg,Bh,Bi,Bj,Bk,Bl,Bm,Bn,Bo,Bp,Bq,Br,Bs,Bt,Bu,Bv,Bw,Bx,By,Bz,Ca,Cb,Cc,Cd,Ce,Cf,Cg,Ch,Ci,Cj,Ck,Cl,Cm,Cn,Co,Cp,Cq,Cr,Cs,Ct,Cu,Cv,Cw,Cx,Cy,Cz,Da,Db,Dc,Dd,De,Df,Dg,Dh,Di,Dj,Dk,Dl,Dm,Dn,Do,Dp,Dq,Dr,Ds,Dt,Du,Dv,Dw,Dx,Dy,Dz,Ea,Eb,Ec,Ed,Ee,Ef,Eg,Eh,Ei,Ej,Ek,El,Em,Eo,Ep,Eq,Er,Es,Et,Eu,Ew,Ey,Ez,Fa,Fb,Fc,Fd,Fe,Ff,Fg,Fh,Fi,Fj,Fk,Fl,Fm,Fo,Fp,Fq,Fs,Ft,Fu,Fv,Fw,Fx,Fy,Fz,Ga,Gb,Gc,Gd,Ge,Gf,Gg,Gh,Gi,Gj,Gk,Gl,Gm,Gn,Gp,Gq,Gr,Gs,Gt,Gu,Gv,Gw,Gx,Gy,Gz,Ha,Hb,Hc,Hd,He,Hf,Hg,Hi,Hj,Hk,Hl], h⟩ kc) := by
  intro Ad Ae Af Ag Ai An Ao Ap Aq Ar Au Av Aw Ax Ay Az Ba Bb Bc Bd Be Bf Bg Bh Bi Bj Bk Bl Bm Bn Bo Bp Bq Br Bs Bt Bu Bv Bw Bx By Bz Ca Cb Cc Cd Ce Cf Cg Ch Ci Cj Ck Cl Cm Cn Co Cp Cq Cr Cs Ct Cu Cv Cw Cx Cy Cz Da Db Dc Dd De Df Dg Dh Di Dj Dk Dl Dm Dn Do Dp Dq Dr Ds Dt Du Dv Dw Dx Dy Dz Ea Eb Ec Ed Ee Ef Eg Eh Ei Ej Ek El Em Eo Ep Eq Er Es Et Eu Ew Ey Ez Fa Fb Fc Fd Fe Ff Fg Fh Fi Fj Fk Fl Fm Fo Fp Fq Fs Ft Fu Fv Fw Fx Fy Fz Ga Gb Gc Gd Ge Gf Gg Gh Gi Gj Gk Gl Gm Gn Gp Gq Gr Gs Gt Gu Gv Gw Gx Gy Gz Ha Hb Hc Hd He Hf Hg Hi Hj Hk Hl
  rw [c5_17_eq]
  have hn := ok.n16
  have gl := ok.gl
  obtain ⟨ga, gc, h1, e1, y1, a1⟩ := spec_EGot E.nm (by omega)
  obtain ⟨y1', m1⟩ := y1.amx
  have a1' : SU (am h1 h) (.slice ga g.length gc) g := (a1.sl etU.size).keep fun _ _ _ => rfl
  obtain ⟨rv, gv, R0⟩ := R
  have R1 := R0.ext y1'
  have e2 := spec_longs a1' R1.au.su (by omega) (by omega)
  rw [decide_eq_true rfl] at e2
  have E1 := E.ext y1'
  obtain ⟨sv, h3, e3, y3, a3⟩ := spec_ESent E1.nm (goodM_small ok.gd)
  obtain ⟨y3', m3⟩ := y3.amx
  have a3' : SM (am h3 (am h1 h)) sv m := a3.smV.kp fun _ _ => rfl
  obtain ⟨w4, h4, e4, y4, s4⟩ := spec_rowsM (n := n) (h := nm (am h3 (am h1 h))) a3'.nm (goodM_small ok.gd).1
  obtain ⟨y4', m4⟩ := y4.amx
  have s4' : SM (am h4 (am h3 (am h1 h))) w4 m := s4.kp fun _ _ => rfl
  have R4 := (R1.ext y3').ext y4'
  have e5 := spec_squares s4' R4.am.smW (goodM_small ok.gd) (goodM_small ok.gd)
  rw [decide_eq_true rfl] at e5
  have i1 := hin.trans (y1'.inn hin.len)
  have i3 := i1.trans (y3'.inn i1.len)
  have i4 := i3.trans (y4'.inn i3.len)
  have := hk (am h4 (am h3 (am h1 h))) ((E1.ext y3').ext y4') ⟨_, _, R4⟩ (((A.same y1'.same).same y3'.same).same y4'.same) i4
  simp -implicitDefEqProofs (maxSteps := 2000000) (disch := omega) only [↓c5_19_eq, ↓c5_20_eq, ↓d5_0_0, ↓d5_0_1, ↓d5_0_2, ↓d5_0_3, ↓d5_0_4, ↓d5_0_5, ↓d5_0_6, ↓d5_0_7, ↓d5_0_8, ↓d5_0_9, ↓d5_0_10, ↓d5_0_11, ↓d5_0_12, ↓d5_0_13, ↓d5_0_14, ↓d5_0_15, ↓d5_0_16, ↓d5_0_17, ↓d5_0_18, ↓d5_0_19, dcT, dcF, e1, m1, faQ3, ldUs, R1.l3, e2, e3, m3, e4, m4, faQ2, ldWs, R4.l2, e5, List.append_nil, List.nil_append, ↓cnd_true, ↓cnd_false, ↓Option.bind_some, ↓obH_some', bin_add, bin_sub, bin_mul, bin_lss, bin_leq, bin_gtr, bin_geq, bin_eql, bin_neq, un_not, un_neg, Option.bind_some, Option.bind_none, Option.map_some, cnd_true, cnd_false, pickV_true, pickV_false, gd_true, gd_false, gdV_true, gdV_false, gdH_true, gdH_false, gdS_true, gdS_false, wt_ff, wt_tt, wt_ft, wt_tf, wt_undef, obH_some', extractV_tuple, nilCheckV_ptr, againK_normal, againK_exit, againK_ret, blockK_normal, blockK_same, blockK_ret, seqK_normal, seqK_exit, seqK_ret, fin_done, if_true', if_false', Bool.not_true, Bool.not_false, idx0, idx1, idx2, idx3, idx4, chk_nil_l, chk_nil_r, done_nm]
  exact this _ _ _ _ _ _ _ _ _ _ _ _ _ _ _ _ _ _ _ _ _ _ _ _ _ _ _ _ _ _ _ _ _ _ _ _ _ _ _ _ _ _ _ _ _ _ _ _ _ _ _ _ _ _ _ _ _ _ _ _ _ _ _ _ _ _ _ _ _ _ _ _ _ _ _ _ _ _ _ _ _ _ _ _ _ _ _ _ _ _ _ _ _ _ _ _ _ _ _ _ _ _ _ _ _ _ _ _ _ _ _ _ _ _ _ _ _ _ _ _ _ _ _ _ _ _ _ _ _ _ _ _ _ _ _ _ _ _ _ _ _ _ _ _ _ _ _ _ _ _ _ _ _ _ _ _ _ _ _ _ _ _ _ _ _ _ _ _ _ _ _ _ _ _ _ _ _
end Go.Am
namespace Go.Am
open Go.Proofs
set_option maxRecDepth 100000
set_option linter.all false
attribute [local congr] obind_congr obH_congr cnd_congr chk_congr retK_congr codeK_congr
theorem ldAct (p o : Nat) (h : Heap) : loadV Try.prog 61 (.pointer (some ⟨p, o, none⟩)) h = (h.loadN p o 5).map fun vs => .agg vs.toArray := by kernel_rfl
theorem alAct (h : Heap) : allocV Try.prog 61 h = some (.pointer (some ⟨h.blks.length, 0, none⟩), h.new (.cells [.int .i64 0, .int .i64 0, .int .i64 0, .int .u64 0, .slice none 0 0]) 61) := by kernel_rfl
theorem stAct (p : Nat) (a b c d : Int) (x : Option Addr) (l k : Nat) (h : Heap) : storeV Try.prog 61 (.pointer (some ⟨p, 0, none⟩)) (.agg #[.int .i64 a, .int .i64 b, .int .i64 c, .int .u64 d, .slice x l k]) h = h.storeN p 0 [.int .i64 a, .int .i64 b, .int .i64 c, .int .u64 d, .slice x l k] := by kernel_rfl
theorem flat5_part (l : List AT) (bvs : List Value) (hl : l.length = bvs.length) (i : Nat) (hi : i < l.length) (hb : i < bvs.length) : ((List.zipWith actC l bvs).flatten.drop (i * 5)).take 5 = actC l[i] bvs[i] := by
  refine List.ext_getElem? fun k => ?_
  by_cases hk : k < 5
  · rw [List.getElem?_take_of_lt hk, List.getElem?_drop, flat5 l bvs i k hk hl hi hb]
  · rw [List.getElem?_eq_none (by rw [List.length_take]; omega), List.getElem?_eq_none (by simp [actC]; omega)]
theorem SA.atN {v : Value} {h : Heap} {l : List AT} (s : SA h v l) {i : Nat} (hi : i < l.length) : ∃ b o bv, ∀ h', Same h h' → indexAddrV Try.prog 57 v (.int .i64 i) = some (.pointer (some ⟨b, o, none⟩)) ∧ loadV Try.prog 61 (.pointer (some ⟨b, o, none⟩)) h' = some (.agg (actC l[i] bv).toArray) ∧ SB h' bv l[i].b := by
  obtain ⟨bvs, r, hb⟩ := s
  have hl : bvs.length = l.length := hb.length_eqA
  have hu : Try.prog.underlying 57 = some (.slice 61) := by kernel_rfl
  have hs : sizeT Try.prog 61 = some 5 := by kernel_rfl
  cases r0 : v with
  | slice ad n c =>
    subst r0
    have r' := r
    generalize hn : l.length = n at r'
    generalize hcs : (List.zipWith actC l bvs).flatten = cs at r'
    cases r' with
    | nil => omega
    | mk hld =>
      rename_i b o
      rw [← hn, ← hcs] at hld
      refine ⟨b, o + i * 5, bvs[i], fun h' e => ?_⟩
      have hld' : h'.loadN b o (l.length * 5) = some (List.zipWith actC l bvs).flatten := by rw [loadN_of (e.2 b (loadN_lt hld))]; exact hld
      obtain ⟨p, hp, hsb⟩ := hb.get (i := i) (a := bvs[i]) (List.getElem?_eq_getElem (by omega))
      obtain rfl : l[i] = p := by rw [List.getElem?_eq_getElem hi] at hp; exact Option.some.inj hp
      refine ⟨?_, ?_, hsb.same e⟩
      · unfold indexAddrV
        simp only [hu, natOf_int, hs]
        rw [if_pos (by omega)]
      · rw [ldAct, loadN_sub hld' (by omega), flat5_part l bvs hl.symm i hi (by omega)]; rfl
  | _ => subst r0; cases r
end Go.Am
namespace Go.Am
open Go.Proofs
set_option maxRecDepth 100000
set_option linter.all false
attribute [local congr] obind_congr obH_congr cnd_congr chk_congr retK_congr codeK_congr
structure XC (h : Heap) (p : Nat) (a : AT) (bv : Value) : Prop where
  c : Cells h p 61 (actC a bv)
theorem XC.l0 {h : Heap} {p : Nat} {a : AT} {bv : Value} (x : XC h p a bv) : h.load1 p 0 = some (.int .i64 a.op) := by rw [x.c.load]; rfl
theorem XC.l1 {h : Heap} {p : Nat} {a : AT} {bv : Value} (x : XC h p a bv) : h.load1 p 1 = some (.int .i64 a.frm) := by rw [x.c.load]; rfl
theorem XC.l2 {h : Heap} {p : Nat} {a : AT} {bv : Value} (x : XC h p a bv) : h.load1 p 2 = some (.int .i64 a.at') := by rw [x.c.load]; rfl
theorem XC.l3 {h : Heap} {p : Nat} {a : AT} {bv : Value} (x : XC h p a bv) : h.load1 p 3 = some (.int .u64 a.to) := by rw [x.c.load]; rfl
theorem XC.l4 {h : Heap} {p : Nat} {a : AT} {bv : Value} (x : XC h p a bv) : h.load1 p 4 = some bv := by rw [x.c.load]; rfl
theorem gA0 (p : Nat) : fieldAddrV Try.prog 61 (.pointer (some ⟨p, 0, none⟩)) 0 = some (.pointer (some ⟨p, 0, none⟩)) := by kernel_rfl
theorem gA1 (p : Nat) : fieldAddrV Try.prog 61 (.pointer (some ⟨p, 0, none⟩)) 1 = some (.pointer (some ⟨p, 1, none⟩)) := by kernel_rfl
theorem gA2 (p : Nat) : fieldAddrV Try.prog 61 (.pointer (some ⟨p, 0, none⟩)) 2 = some (.pointer (some ⟨p, 2, none⟩)) := by kernel_rfl
theorem gA3 (p : Nat) : fieldAddrV Try.prog 61 (.pointer (some ⟨p, 0, none⟩)) 3 = some (.pointer (some ⟨p, 3, none⟩)) := by kernel_rfl
theorem gA4 (p : Nat) : fieldAddrV Try.prog 61 (.pointer (some ⟨p, 0, none⟩)) 4 = some (.pointer (some ⟨p, 4, none⟩)) := by kernel_rfl
theorem bneqP (xo yo : Operand) (a b : Bool) : binV Try.prog .neq 4 xo yo (.bool a) (.bool b) = some (.bool (!(a == b))) := bin_bneq _ _ _ _ (by cases a <;> cases b <;> kernel_rfl)
theorem plays_take {Q : Option (Value × Heap) → Prop} {h0 h : Heap} {n me pe pq p12 i : Nat} {av tv Ao bv : Value} {T : List (List UInt8)} {m : List (List Nat)} {g : List Nat} {a : AT} {bs : List UInt8} (hop : a.op = 1) (hto : a.to < 2 ^ 64) (X : XC h p12 a bv) (hX : p12 ≠ pe) (sb : SB h Ao bs) (hbl : bs.length < 2 ^ 38) (hbp : blockOf Ao ≠ some pe) (ok : EnOk n me m g) (E : En h0.blks.length h pe n me m g) (R : Qn h0.blks.length h pq n me m g) (hpe : h0.blks.length ≤ pe) (hpq : h0.blks.length ≤ pq) (hne : pe ≠ pq) (A : ABs h0.blks.length h tv T) (hin : In h0.blks.length No (nm h0) h) (kc : Ex → St → Option (Value × Heap))
    (hk : ∀ h', En h0.blks.length h' pe n me (takeM n me m g a.frm a.to bs) (takeG n me g a.frm bs) → Qn h0.blks.length h' pq n me (takeM n me m g a.frm a.to bs) (takeG n me g a.frm bs) → ABs h0.blks.length h' tv T → In h0.blks.length No (nm h0) h' → ∀ (Ad Ae Af Ag Ai An Ao Ap Aq Ar Au Av Aw Ax Ay Az Ba Bb Bc Bd Be Bf Bg Bh Bi Bj Bk Bl Bm Bn Bo Bp Bq Br Bs Bt Bu Bv Bw Bx By Bz Ca Cb Cc Cd Ce Cf Cg Ch Ci Cj Ck Cl Cm Cn Co Cp Cq Cr Cs Ct Cu Cv Cw Cx Cy Cz Da Db Dc Dd De Df Dg Dh Di Dj Dk Dl Dm Dn Do Dp Dq Dr Ds Dt Du Dv Dw Dx Dy Dz Ea Eb Ec Ed Ee Ef Eg Eh Ei Ej Ek El Em Eo Ep Eq Er Es Et Eu Ew Ey Ez Fa Fb Fc Fd Fe Ff Fg Fh Fi Fj Fk Fl Fm Fo Fp Fq Fs Ft Fu Fv Fw Fx Fy Fz Ga Gb Gc Gd Ge Gf Gg Gh Gi Gj Gk Gl Gm Gn Gp Gq Gr Gs Gt Gu Gv Gw Gx Gy Gz Ha Hb Hc Hd He Hf Hg Hi Hj Hk Hl : Value), Q (kc .normal ⟨#[.int .i64 n, .int .i64 me, av,Ad,Ae,Af,Ag, .pointer (some ⟨pe, 0, none⟩),Ai, .pointer (some ⟨pq, 0, none⟩), tv, .int .i64 i,An,Ao,Ap,Aq,Ar,Au,Av,Aw,Ax,Ay,Az,Ba,Bb,Bc,Bd,Be,Bf,Bg,Bh,Bi,Bj,Bk,Bl,Bm,Bn,Bo,Bp,Bq,Br,Bs,Bt,Bu,Bv,Bw,Bx,By,Bz,Ca,Cb,Cc,Cd,Ce,Cf,Cg,Ch,Ci,Cj,Ck,Cl,Cm,Cn,Co,Cp,Cq,Cr,Cs,Ct,Cu,Cv,Cw,Cx,Cy,Cz,Da,Db,Dc,Dd,De,Df,Dg,Dh,Di,Dj,Dk,Dl,Dm,Dn,Do,Dp,Dq,Dr,Ds,Dt,Du,Dv,Dw,Dx,Dy,Dz,Ea,Eb,Ec,Ed,Ee,Ef,Eg,Eh,Ei,Ej,Ek,El,Em,Eo,Ep,Eq,Er,Es,Et,Eu,Ew,Ey,Ez,Fa,Fb,Fc,Fd,Fe,Ff,Fg,Fh,Fi,Fj,Fk,Fl,Fm,Fo,Fp,Fq,Fs,Ft,Fu,Fv,Fw,Fx,Fy,Fz,Ga,Gb,Gc,Gd,Ge,Gf,Gg,Gh,Gi,Gj,Gk,Gl,Gm,Gn,Gp,Gq,Gr,Gs,Gt,Gu,Gv,Gw,Gx,Gy,Gz,Ha,Hb,Hc,Hd,He,Hf,Hg,Hi,Hj,Hk,Hl], h'⟩)) :
    ∀ (Ad Ae Af Ag Ai Ap Aq Ar Au Av Aw Ax Ay Az Ba Bb Bc Bd Be Bf Bg Bh Bi Bj Bk Bl Bm Bn Bo Bp Bq Br Bs Bt Bu Bv Bw Bx By Bz Ca Cb Cc Cd Ce Cf Cg Ch Ci Cj Ck Cl Cm Cn Co Cp Cq Cr Cs Ct Cu Cv Cw Cx Cy Cz Da Db Dc Dd De Df Dg Dh Di Dj Dk Dl Dm Dn Do Dp Dq Dr Ds Dt Du Dv Dw Dx Dy Dz Ea Eb Ec Ed Ee Ef Eg Eh Ei Ej Ek El Em Eo Ep Eq Er Es Et Eu Ew Ey Ez Fa Fb Fc Fd Fe Ff Fg Fh Fi Fj Fk Fl Fm Fo Fp Fq Fs Ft Fu Fv Fw Fx Fy Fz Ga Gb Gc Gd Ge Gf Gg Gh Gi Gj Gk Gl Gm Gn Gp Gq Gr Gs Gt Gu Gv Gw Gx Gy Gz Ha Hb Hc Hd He Hf Hg Hi Hj Hk Hl : Value), Q (codeK Try.prog (evC Try.prog) loopL c5_16 ⟨#[.int .i64 n, .int .i64 me, av,Ad,Ae,Af,Ag, .pointer (some ⟨pe, 0, none⟩),Ai, .pointer (some ⟨pq, 0, none⟩), tv, .int .i64 i, .pointer (some ⟨p12, 0, none⟩),Ao,Ap,Aq,Ar,Au,Av,Aw,Ax,Ay,Az,Ba,Bb,Bc,Bd,Be,Bf,Bg,Bh,Bi,Bj,Bk,Bl,Bm,Bn,Bo,Bp,Bq,Br,Bs,Bt,Bu,Bv,Bw,Bx,By,Bz,Ca,Cb,Cc,Cd,Ce,Cf,Cg,Ch,Ci,Cj,Ck,Cl,Cm,Cn,Co,Cp,Cq,Cr,Cs,Ct,Cu,Cv,Cw,Cx,Cy,Cz,Da,Db,Dc,Dd,De,Df,Dg,Dh,Di,Dj,Dk,Dl,Dm,Dn,Do,Dp,Dq,Dr,Ds,Dt,Du,Dv,Dw,Dx,Dy,Dz,Ea,Eb,Ec,Ed,Ee,Ef,Eg,Eh,Ei,Ej,Ek,El,Em,Eo,Ep,Eq,Er,Es,Et,Eu,Ew,Ey,Ez,Fa,Fb,Fc,Fd,Fe,Ff,Fg,Fh,Fi,Fj,Fk,Fl,Fm,Fo,Fp,Fq,Fs,Ft,Fu,Fv,Fw,Fx,Fy,Fz,Ga,Gb,Gc,Gd,Ge,Gf,Gg,Gh,Gi,Gj,Gk,Gl,Gm,Gn,Gp,Gq,Gr,Gs,Gt,Gu,Gv,Gw,Gx,Gy,Gz,Ha,Hb,Hc,Hd,He,Hf,Hg,Hi,Hj,Hk,Hl], h⟩ kc) := by
  intro Ad Ae Af Ag Ai Ap Aq Ar Au Av Aw Ax Ay Az Ba Bb Bc Bd Be Bf Bg Bh Bi Bj Bk Bl Bm Bn Bo Bp Bq Br Bs Bt Bu Bv Bw Bx By Bz Ca Cb Cc Cd Ce Cf Cg Ch Ci Cj Ck Cl Cm Cn Co Cp Cq Cr Cs Ct Cu Cv Cw Cx Cy Cz Da Db Dc Dd De Df Dg Dh Di Dj Dk Dl Dm Dn Do Dp Dq Dr Ds Dt Du Dv Dw Dx Dy Dz Ea Eb Ec Ed Ee Ef Eg Eh Ei Ej Ek El Em Eo Ep Eq Er Es Et Eu Ew Ey Ez Fa Fb Fc Fd Fe Ff Fg Fh Fi Fj Fk Fl Fm Fo Fp Fq Fs Ft Fu Fv Fw Fx Fy Fz Ga Gb Gc Gd Ge Gf Gg Gh Gi Gj Gk Gl Gm Gn Gp Gq Gr Gs Gt Gu Gv Gw Gx Gy Gz Ha Hb Hc Hd He Hf Hg Hi Hj Hk Hl
  rw [c5_16_eq]
  obtain ⟨h1, e1, y1, E1⟩ := spec_ETake E.nm hin.len ok a.frm 1 a.to hto sb.nm hbl
  have y1' := y1.amx
  have md : ∀ b ∈ [p12], ∀ x ∈ h1.mods, b ≠ x := fun b hb x hx e => by
    have := y1.mods_nm x hx
    rw [List.mem_singleton] at hb
    have : x = pe := this
    omega
  obtain ⟨cse, ce⟩ := E.cl
  have E1' : En h0.blks.length (am h1 h) pe n me (takeM n me m g a.frm a.to bs) (takeG n me g a.frm bs) := E1.same ⟨Nat.le_refl _, fun _ _ => rfl⟩
  have R1 := R.modT ce (by decide) (by decide) (by decide) y1'
  have A1 := A.modE ce y1'
  have X1 : XC (am h1 h) p12 a bv := ⟨X.c.mod y1' fun e => hX e⟩
  have sb1 : SB (am h1 h) Ao bs := sb.mod y1' fun b hb e => hbp (by have : b = pe := e; rw [hb, this])
  have i1 := hin.trans (y1'.inn hin.len fun b hb e => by have : b = pe := e; omega)
  obtain ⟨h2, e2, y2, R2⟩ := spec_Rtake R1 i1.len ok a.frm a.to hto sb1 hbl
  obtain ⟨csq, cq⟩ := R1.cl
  have E2 := E1'.mod y2 (fun e => hne e) fun b hb => by have hb : b = pq := hb; subst hb; exact ⟨_, _, cq, by decide, by decide⟩
  have A2 : ABs h0.blks.length h2 tv T := by
    obtain ⟨vs, x⟩ := A1
    refine ⟨vs, x.kp fun b all ty hb ht _ => y2.old b (List.getElem?_eq_some_iff.1 hb).1 fun hp => ?_⟩
    have hp : b = pq := hp
    subst hp
    unfold Cells at cq
    rw [hb] at cq
    simp only [Option.some.injEq, Blk.mk.injEq] at cq
    rcases ht with ht | ht <;> exact absurd (cq.2.1.symm.trans ht) (by decide)
  have i2 := i1.trans (y2.inn i1.len fun b hb e => by have : b = pq := e; omega)
  have d0 : decide (a.op = 0) = false := decide_eq_false (by omega)
  have d1 : decide (a.op = 1) = true := decide_eq_true hop
  have bb : ∀ b : Bool, (!(b == b)) = false := fun b => by cases b <;> rfl
  have := hk h2 E2 R2 A2 i2
  rw [show ((1 : Nat) : Int) = 1 from rfl] at e1
  simp -implicitDefEqProofs (disch := omega) only [dcT, dcF, gA0, gA1, gA3, mldInt, vld64, X.l0, d0, d1, X.l1, X.l3, e1, X1.l1, X1.l3, e2, bneqP, bb, rb_ptr, List.append_nil, ↓cnd_true, ↓cnd_false, ↓Option.bind_some, ↓obH_some', bin_add, bin_sub, bin_mul, bin_lss, bin_leq, bin_gtr, bin_geq, bin_eql, bin_neq, un_not, un_neg, Option.bind_some, Option.bind_none, Option.map_some, cnd_true, cnd_false, pickV_true, pickV_false, gd_true, gd_false, gdV_true, gdV_false, gdH_true, gdH_false, gdS_true, gdS_false, wt_ff, wt_tt, wt_ft, wt_tf, wt_undef, obH_some', extractV_tuple, nilCheckV_ptr, againK_normal, againK_exit, againK_ret, blockK_normal, blockK_same, blockK_ret, seqK_normal, seqK_exit, seqK_ret, fin_done, if_true', if_false', Bool.not_true, Bool.not_false, idx0, idx1, idx2, idx3, idx4, chk_nil_l, chk_nil_r, done_nm]
  rw [chk_ne (by intro b hb; exact md b (by simpa using hb))]
  exact this _ _ _ _ _ _ _ _ _ _ _ _ _ _ _ _ _ _ _ _ _ _ _ _ _ _ _ _ _ _ _ _ _ _ _ _ _ _ _ _ _ _ _ _ _ _ _ _ _ _ _ _ _ _ _ _ _ _ _ _ _ _ _ _ _ _ _ _ _ _ _ _ _ _ _ _ _ _ _ _ _ _ _ _ _ _ _ _ _ _ _ _ _ _ _ _ _ _ _ _ _ _ _ _ _ _ _ _ _ _ _ _ _ _ _ _ _ _ _ _ _ _ _ _ _ _ _ _ _ _ _ _ _ _ _ _ _ _ _ _ _ _ _ _ _ _ _ _ _ _ _ _ _ _ _ _ _ _ _ _ _ _ _ _ _ _ _ _ _ _ _ _ _ _ _ _ _
theorem plays_can {Q : Option (Value × Heap) → Prop} {h0 h : Heap} {n me pe pq p12 i : Nat} {av tv Ao bv : Value} {T : List (List UInt8)} {m : List (List Nat)} {g : List Nat} {a : AT} {bs : List UInt8} (hop : a.op ≠ 0) (hop1 : a.op ≠ 1) (X : XC h p12 a bv) (hX : p12 ≠ pe) (sb : SB h Ao bs) (hbl : bs.length < 2 ^ 38) (hbp : blockOf Ao ≠ some pe) (ok : EnOk n me m g) (E : En h0.blks.length h pe n me m g) (R : Qn h0.blks.length h pq n me m g) (hpe : h0.blks.length ≤ pe) (hpq : h0.blks.length ≤ pq) (hne : pe ≠ pq) (A : ABs h0.blks.length h tv T) (hin : In h0.blks.length No (nm h0) h) (kc : Ex → St → Option (Value × Heap))
    (hk : ∀ h', En h0.blks.length h' pe n me m g → Qn h0.blks.length h' pq n me m g → ABs h0.blks.length h' tv T → In h0.blks.length No (nm h0) h' → ∀ (Ad Ae Af Ag Ai An Ao Ap Aq Ar Au Av Aw Ax Ay Az Ba Bb Bc Bd Be Bf Bg Bh Bi Bj Bk Bl Bm Bn Bo Bp Bq Br Bs Bt Bu Bv Bw Bx By Bz Ca Cb Cc Cd Ce Cf Cg Ch Ci Cj Ck Cl Cm Cn Co Cp Cq Cr Cs Ct Cu Cv Cw Cx Cy Cz Da Db Dc Dd De Df Dg Dh Di Dj Dk Dl Dm Dn Do Dp Dq Dr Ds Dt Du Dv Dw Dx Dy Dz Ea Eb Ec Ed Ee Ef Eg Eh Ei Ej Ek El Em Eo Ep Eq Er Es Et Eu Ew Ey Ez Fa Fb Fc Fd Fe Ff Fg Fh Fi Fj Fk Fl Fm Fo Fp Fq Fs Ft Fu Fv Fw Fx Fy Fz Ga Gb Gc Gd Ge Gf Gg Gh Gi Gj Gk Gl Gm Gn Gp Gq Gr Gs Gt Gu Gv Gw Gx Gy Gz Ha Hb Hc Hd He Hf Hg Hi Hj Hk Hl : Value), Q (kc .normal ⟨#[.int .i64 n, .int .i64 me, av,Ad,Ae,Af,Ag, .pointer (some ⟨pe, 0, none⟩),Ai, .pointer (some ⟨pq, 0, none⟩), tv, .int .i64 i,An,Ao,Ap,Aq,Ar,Au,Av,Aw,Ax,Ay,Az,Ba,Bb,Bc,Bd,Be,Bf,Bg,Bh,Bi,Bj,Bk,Bl,Bm,Bn,Bo,Bp,Bq,Br,Bs,Bt,Bu,Bv,Bw,Bx,By,Bz,Ca,Cb,Cc,Cd,Ce,Cf,Cg,Ch,Ci,Cj,Ck,Cl,Cm,Cn,Co,Cp,Cq,Cr,Cs,Ct,Cu,Cv,Cw,Cx,Cy,Cz,Da,Db,Dc,Dd,De,Df,Dg,Dh,Di,Dj,Dk,Dl,Dm,Dn,Do,Dp,Dq,Dr,Ds,Dt,Du,Dv,Dw,Dx,Dy,Dz,Ea,Eb,Ec,Ed,Ee,Ef,Eg,Eh,Ei,Ej,Ek,El,Em,Eo,Ep,Eq,Er,Es,Et,Eu,Ew,Ey,Ez,Fa,Fb,Fc,Fd,Fe,Ff,Fg,Fh,Fi,Fj,Fk,Fl,Fm,Fo,Fp,Fq,Fs,Ft,Fu,Fv,Fw,Fx,Fy,Fz,Ga,Gb,Gc,Gd,Ge,Gf,Gg,Gh,Gi,Gj,Gk,Gl,Gm,Gn,Gp,Gq,Gr,Gs,Gt,Gu,Gv,Gw,Gx,Gy,Gz,Ha,Hb,Hc,Hd,He,Hf,Hg,Hi,Hj,Hk,Hl], h'⟩)) :
    ∀ (Ad Ae Af Ag Ai Ap Aq Ar Au Av Aw Ax Ay Az Ba Bb Bc Bd Be Bf Bg Bh Bi Bj Bk Bl Bm Bn Bo Bp Bq Br Bs Bt Bu Bv Bw Bx By Bz Ca Cb Cc Cd Ce Cf Cg Ch Ci Cj Ck Cl Cm Cn Co Cp Cq Cr Cs Ct Cu Cv Cw Cx Cy Cz Da Db Dc Dd De Df Dg Dh Di Dj Dk Dl Dm Dn Do Dp Dq Dr Ds Dt Du Dv Dw Dx Dy Dz Ea Eb Ec Ed Ee Ef Eg Eh Ei Ej Ek El Em Eo Ep Eq Er Es Et Eu Ew Ey Ez Fa Fb Fc Fd Fe Ff Fg Fh Fi Fj Fk Fl Fm Fo Fp Fq Fs Ft Fu Fv Fw Fx Fy Fz Ga Gb Gc Gd Ge Gf Gg Gh Gi Gj Gk Gl Gm Gn Gp Gq Gr Gs Gt Gu Gv Gw Gx Gy Gz Ha Hb Hc Hd He Hf Hg Hi Hj Hk Hl : Value), Q (codeK Try.prog (evC Try.prog) loopL c5_16 ⟨#[.int .i64 n, .int .i64 me, av,Ad,Ae,Af,Ag, .pointer (some ⟨pe, 0, none⟩),Ai, .pointer (some ⟨pq, 0, none⟩), tv, .int .i64 i, .pointer (some ⟨p12, 0, none⟩),Ao,Ap,Aq,Ar,Au,Av,Aw,Ax,Ay,Az,Ba,Bb,Bc,Bd,Be,Bf,Bg,Bh,Bi,Bj,Bk,Bl,Bm,Bn,Bo,Bp,Bq,Br,Bs,Bt,Bu,Bv,Bw,Bx,By,Bz,Ca,Cb,Cc,Cd,Ce,Cf,Cg,Ch,Ci,Cj,Ck,Cl,Cm,Cn,Co,Cp,Cq,Cr,Cs,Ct,Cu,Cv,Cw,Cx,Cy,Cz,Da,Db,Dc,Dd,De,Df,Dg,Dh,Di,Dj,Dk,Dl,Dm,Dn,Do,Dp,Dq,Dr,Ds,Dt,Du,Dv,Dw,Dx,Dy,Dz,Ea,Eb,Ec,Ed,Ee,Ef,Eg,Eh,Ei,Ej,Ek,El,Em,Eo,Ep,Eq,Er,Es,Et,Eu,Ew,Ey,Ez,Fa,Fb,Fc,Fd,Fe,Ff,Fg,Fh,Fi,Fj,Fk,Fl,Fm,Fo,Fp,Fq,Fs,Ft,Fu,Fv,Fw,Fx,Fy,Fz,Ga,Gb,Gc,Gd,Ge,Gf,Gg,Gh,Gi,Gj,Gk,Gl,Gm,Gn,Gp,Gq,Gr,Gs,Gt,Gu,Gv,Gw,Gx,Gy,Gz,Ha,Hb,Hc,Hd,He,Hf,Hg,Hi,Hj,Hk,Hl], h⟩ kc) := by
  intro Ad Ae Af Ag Ai Ap Aq Ar Au Av Aw Ax Ay Az Ba Bb Bc Bd Be Bf Bg Bh Bi Bj Bk Bl Bm Bn Bo Bp Bq Br Bs Bt Bu Bv Bw Bx By Bz Ca Cb Cc Cd Ce Cf Cg Ch Ci Cj Ck Cl Cm Cn Co Cp Cq Cr Cs Ct Cu Cv Cw Cx Cy Cz Da Db Dc Dd De Df Dg Dh Di Dj Dk Dl Dm Dn Do Dp Dq Dr Ds Dt Du Dv Dw Dx Dy Dz Ea Eb Ec Ed Ee Ef Eg Eh Ei Ej Ek El Em Eo Ep Eq Er Es Et Eu Ew Ey Ez Fa Fb Fc Fd Fe Ff Fg Fh Fi Fj Fk Fl Fm Fo Fp Fq Fs Ft Fu Fv Fw Fx Fy Fz Ga Gb Gc Gd Ge Gf Gg Gh Gi Gj Gk Gl Gm Gn Gp Gq Gr Gs Gt Gu Gv Gw Gx Gy Gz Ha Hb Hc Hd He Hf Hg Hi Hj Hk Hl
  rw [c5_16_eq]
  obtain ⟨h1, e1, y1⟩ := spec_ECan E.nm ok a.frm 1 sb.nm hbl
  obtain ⟨y1', m1⟩ := y1.amx
  have E1 := E.ext y1'
  have R1 := R.same y1'.same
  have A1 := A.same y1'.same
  have X1 : XC (am h1 h) p12 a bv := ⟨X.c.ext y1'⟩
  have sb1 : SB (am h1 h) Ao bs := sb.same y1'.same
  have i1 := hin.trans (y1'.inn hin.len)
  obtain ⟨h2, e2, y2⟩ := spec_Rcan R1 ok a.frm sb1 hbl
  have i2 := i1.trans (y2.inn i1.len)
  have d0 : decide (a.op = 0) = false := decide_eq_false hop
  have d1 : decide (a.op = 1) = false := decide_eq_false hop1
  have bb : ∀ b : Bool, (!(b == b)) = false := fun b => by cases b <;> rfl
  have := hk h2 (E1.ext y2) (R1.same y2.same) (A1.same y2.same) i2
  rw [show ((1 : Nat) : Int) = 1 from rfl] at e1
  simp -implicitDefEqProofs (disch := omega) only [dcT, dcF, gA0, gA1, mldInt, X.l0, d0, d1, X.l1, e1, m1, X1.l1, e2, bneqP, bb, List.append_nil, ↓cnd_true, ↓cnd_false, ↓Option.bind_some, ↓obH_some', bin_add, bin_sub, bin_mul, bin_lss, bin_leq, bin_gtr, bin_geq, bin_eql, bin_neq, un_not, un_neg, Option.bind_some, Option.bind_none, Option.map_some, cnd_true, cnd_false, pickV_true, pickV_false, gd_true, gd_false, gdV_true, gdV_false, gdH_true, gdH_false, gdS_true, gdS_false, wt_ff, wt_tt, wt_ft, wt_tf, wt_undef, obH_some', extractV_tuple, nilCheckV_ptr, againK_normal, againK_exit, againK_ret, blockK_normal, blockK_same, blockK_ret, seqK_normal, seqK_exit, seqK_ret, fin_done, if_true', if_false', Bool.not_true, Bool.not_false, idx0, idx1, idx2, idx3, idx4, chk_nil_l, chk_nil_r, done_nm]
  exact this _ _ _ _ _ _ _ _ _ _ _ _ _ _ _ _ _ _ _ _ _ _ _ _ _ _ _ _ _ _ _ _ _ _ _ _ _ _ _ _ _ _ _ _ _ _ _ _ _ _ _ _ _ _ _ _ _ _ _ _ _ _ _ _ _ _ _ _ _ _ _ _ _ _ _ _ _ _ _ _ _ _ _ _ _ _ _ _ _ _ _ _ _ _ _ _ _ _ _ _ _ _ _ _ _ _ _ _ _ _ _ _ _ _ _ _ _ _ _ _ _ _ _ _ _ _ _ _ _ _ _ _ _ _ _ _ _ _ _ _ _ _ _ _ _ _ _ _ _ _ _ _ _ _ _ _ _ _ _ _ _ _ _ _ _ _ _ _ _ _ _ _ _ _ _ _ _
theorem plays_send {Q : Option (Value × Heap) → Prop} {h0 h : Heap} {n me pe pq p12 i : Nat} {av tv Ao bv : Value} {T : List (List UInt8)} {m : List (List Nat)} {g : List Nat} {a : AT} (hop : a.op = 0) (hto : a.to < 2 ^ 64) (X : XC h p12 a bv) (hX : p12 ≠ pe) (ok : EnOk n me m g) (E : En h0.blks.length h pe n me m g) (R : Qn h0.blks.length h pq n me m g) (hpe : h0.blks.length ≤ pe) (hpq : h0.blks.length ≤ pq) (hne : pe ≠ pq) (A : ABs h0.blks.length h tv T) (hT : T.length < 2 ^ 36) (hin : In h0.blks.length No (nm h0) h) (kc : Ex → St → Option (Value × Heap))
    (hk : ∀ h' tv', En h0.blks.length h' pe n me (upM n m me (toE n me a.to)) g → Qn h0.blks.length h' pq n me (upM n m me (toE n me a.to)) g → ABs h0.blks.length h' tv' (T ++ List.replicate (pop (toE n me a.to)) (stampM n m)) → In h0.blks.length No (nm h0) h' → ∀ (Ad Ae Af Ag Ai An Ao Ap Aq Ar Au Av Aw Ax Ay Az Ba Bb Bc Bd Be Bf Bg Bh Bi Bj Bk Bl Bm Bn Bo Bp Bq Br Bs Bt Bu Bv Bw Bx By Bz Ca Cb Cc Cd Ce Cf Cg Ch Ci Cj Ck Cl Cm Cn Co Cp Cq Cr Cs Ct Cu Cv Cw Cx Cy Cz Da Db Dc Dd De Df Dg Dh Di Dj Dk Dl Dm Dn Do Dp Dq Dr Ds Dt Du Dv Dw Dx Dy Dz Ea Eb Ec Ed Ee Ef Eg Eh Ei Ej Ek El Em Eo Ep Eq Er Es Et Eu Ew Ey Ez Fa Fb Fc Fd Fe Ff Fg Fh Fi Fj Fk Fl Fm Fo Fp Fq Fs Ft Fu Fv Fw Fx Fy Fz Ga Gb Gc Gd Ge Gf Gg Gh Gi Gj Gk Gl Gm Gn Gp Gq Gr Gs Gt Gu Gv Gw Gx Gy Gz Ha Hb Hc Hd He Hf Hg Hi Hj Hk Hl : Value), Q (kc .normal ⟨#[.int .i64 n, .int .i64 me, av,Ad,Ae,Af,Ag, .pointer (some ⟨pe, 0, none⟩),Ai, .pointer (some ⟨pq, 0, none⟩), tv', .int .i64 i,An,Ao,Ap,Aq,Ar,Au,Av,Aw,Ax,Ay,Az,Ba,Bb,Bc,Bd,Be,Bf,Bg,Bh,Bi,Bj,Bk,Bl,Bm,Bn,Bo,Bp,Bq,Br,Bs,Bt,Bu,Bv,Bw,Bx,By,Bz,Ca,Cb,Cc,Cd,Ce,Cf,Cg,Ch,Ci,Cj,Ck,Cl,Cm,Cn,Co,Cp,Cq,Cr,Cs,Ct,Cu,Cv,Cw,Cx,Cy,Cz,Da,Db,Dc,Dd,De,Df,Dg,Dh,Di,Dj,Dk,Dl,Dm,Dn,Do,Dp,Dq,Dr,Ds,Dt,Du,Dv,Dw,Dx,Dy,Dz,Ea,Eb,Ec,Ed,Ee,Ef,Eg,Eh,Ei,Ej,Ek,El,Em,Eo,Ep,Eq,Er,Es,Et,Eu,Ew,Ey,Ez,Fa,Fb,Fc,Fd,Fe,Ff,Fg,Fh,Fi,Fj,Fk,Fl,Fm,Fo,Fp,Fq,Fs,Ft,Fu,Fv,Fw,Fx,Fy,Fz,Ga,Gb,Gc,Gd,Ge,Gf,Gg,Gh,Gi,Gj,Gk,Gl,Gm,Gn,Gp,Gq,Gr,Gs,Gt,Gu,Gv,Gw,Gx,Gy,Gz,Ha,Hb,Hc,Hd,He,Hf,Hg,Hi,Hj,Hk,Hl], h'⟩)) :
    ∀ (Ad Ae Af Ag Ai Ap Aq Ar Au Av Aw Ax Ay Az Ba Bb Bc Bd Be Bf Bg Bh Bi Bj Bk Bl Bm Bn Bo Bp Bq Br Bs Bt Bu Bv Bw Bx By Bz Ca Cb Cc Cd Ce Cf Cg Ch Ci Cj Ck Cl Cm Cn Co Cp Cq Cr Cs Ct Cu Cv Cw Cx Cy Cz Da Db Dc Dd De Df Dg Dh Di Dj Dk Dl Dm Dn Do Dp Dq Dr Ds Dt Du Dv Dw Dx Dy Dz Ea Eb Ec Ed Ee Ef Eg Eh Ei Ej Ek El Em Eo Ep Eq Er Es Et Eu Ew Ey Ez Fa Fb Fc Fd Fe Ff Fg Fh Fi Fj Fk Fl Fm Fo Fp Fq Fs Ft Fu Fv Fw Fx Fy Fz Ga Gb Gc Gd Ge Gf Gg Gh Gi Gj Gk Gl Gm Gn Gp Gq Gr Gs Gt Gu Gv Gw Gx Gy Gz Ha Hb Hc Hd He Hf Hg Hi Hj Hk Hl : Value), Q (codeK Try.prog (evC Try.prog) loopL c5_16 ⟨#[.int .i64 n, .int .i64 me, av,Ad,Ae,Af,Ag, .pointer (some ⟨pe, 0, none⟩),Ai, .pointer (some ⟨pq, 0, none⟩), tv, .int .i64 i, .pointer (some ⟨p12, 0, none⟩),Ao,Ap,Aq,Ar,Au,Av,Aw,Ax,Ay,Az,Ba,Bb,Bc,Bd,Be,Bf,Bg,Bh,Bi,Bj,Bk,Bl,Bm,Bn,Bo,Bp,Bq,Br,Bs,Bt,Bu,Bv,Bw,Bx,By,Bz,Ca,Cb,Cc,Cd,Ce,Cf,Cg,Ch,Ci,Cj,Ck,Cl,Cm,Cn,Co,Cp,Cq,Cr,Cs,Ct,Cu,Cv,Cw,Cx,Cy,Cz,Da,Db,Dc,Dd,De,Df,Dg,Dh,Di,Dj,Dk,Dl,Dm,Dn,Do,Dp,Dq,Dr,Ds,Dt,Du,Dv,Dw,Dx,Dy,Dz,Ea,Eb,Ec,Ed,Ee,Ef,Eg,Eh,Ei,Ej,Ek,El,Em,Eo,Ep,Eq,Er,Es,Et,Eu,Ew,Ey,Ez,Fa,Fb,Fc,Fd,Fe,Ff,Fg,Fh,Fi,Fj,Fk,Fl,Fm,Fo,Fp,Fq,Fs,Ft,Fu,Fv,Fw,Fx,Fy,Fz,Ga,Gb,Gc,Gd,Ge,Gf,Gg,Gh,Gi,Gj,Gk,Gl,Gm,Gn,Gp,Gq,Gr,Gs,Gt,Gu,Gv,Gw,Gx,Gy,Gz,Ha,Hb,Hc,Hd,He,Hf,Hg,Hi,Hj,Hk,Hl], h⟩ kc) := by
  intro Ad Ae Af Ag Ai Ap Aq Ar Au Av Aw Ax Ay Az Ba Bb Bc Bd Be Bf Bg Bh Bi Bj Bk Bl Bm Bn Bo Bp Bq Br Bs Bt Bu Bv Bw Bx By Bz Ca Cb Cc Cd Ce Cf Cg Ch Ci Cj Ck Cl Cm Cn Co Cp Cq Cr Cs Ct Cu Cv Cw Cx Cy Cz Da Db Dc Dd De Df Dg Dh Di Dj Dk Dl Dm Dn Do Dp Dq Dr Ds Dt Du Dv Dw Dx Dy Dz Ea Eb Ec Ed Ee Ef Eg Eh Ei Ej Ek El Em Eo Ep Eq Er Es Et Eu Ew Ey Ez Fa Fb Fc Fd Fe Ff Fg Fh Fi Fj Fk Fl Fm Fo Fp Fq Fs Ft Fu Fv Fw Fx Fy Fz Ga Gb Gc Gd Ge Gf Gg Gh Gi Gj Gk Gl Gm Gn Gp Gq Gr Gs Gt Gu Gv Gw Gx Gy Gz Ha Hb Hc Hd He Hf Hg Hi Hj Hk Hl
  rw [c5_16_eq]
  obtain ⟨sv, h1, e1, y1, E1, S1⟩ := spec_ESend E hin.len ok a.to hto
  obtain ⟨cse, ce⟩ := E.cl
  have R1 := R.modT ce (by decide) (by decide) (by decide) y1
  have A1 := A.modE ce y1
  have X1 : XC h1 p12 a bv := ⟨X.c.mod y1 fun e => hX e⟩
  have i1 := hin.trans (y1.inn hin.len fun b hb e => by have : b = pe := e; omega)
  obtain ⟨wv, h2, e2, y2, R2, W2⟩ := spec_Rsend R1 i1.len ok a.to hto
  obtain ⟨csq, cq⟩ := R1.cl
  have E2 := E1.mod y2 (fun e => hne e) fun b hb => by have hb : b = pq := hb; subst hb; exact ⟨_, _, cq, by decide, by decide⟩
  have kq : ∀ {n0 : Nat} {v : Value} {l : List (List UInt8)}, ABs n0 h1 v l → ABs n0 h2 v l := fun {n0 v l} A => by
    obtain ⟨vs, x⟩ := A
    refine ⟨vs, x.kp fun b all ty hb ht _ => y2.old b (List.getElem?_eq_some_iff.1 hb).1 fun hp => ?_⟩
    have hp : b = pq := hp
    subst hp
    unfold Cells at cq
    rw [hb] at cq
    simp only [Option.some.injEq, Blk.mk.injEq] at cq
    rcases ht with ht | ht <;> exact absurd (cq.2.1.symm.trans ht) (by decide)
  have A2 := kq A1
  have S2 := kq S1
  have i2 := i1.trans (y2.inn i1.len fun b hb e => by have : b = pq := e; omega)
  have d0 : decide (a.op = 0) = true := decide_eq_true hop
  have ln := S2.len
  rw [List.length_replicate] at ln
  have dj : ∀ b, blockOf tv = some b → blockOf sv ≠ some b := fun b hb hs => by
    obtain ⟨vs, x⟩ := A
    obtain ⟨ws, z⟩ := S2
    have q1 := (x.out.sl etBs.size).lt hb
    have q2 := z.out.ge hs
    omega
  have hL := hin.len
  have main := plays_told (xa := av) (An := av) (Q := Q) (h0 := h0) (L := h0.blks.length) (n := n) (me := me) (pe := pe) (pq := pq) (i := i) (k := pop (toE n me a.to)) (av := av) (s := stampM n m) (T := T) (by have := stampM_len (n := n) ok.m64; omega) (blockK 2 kc) (pop_lt _) (pop (toE n me a.to)) 0 h2 tv (by omega) (by have := pop_lt (toE n me a.to); omega) (by simpa using A2) (S2.up hL) dj W2 E2 R2 i2 (by
    intro h' tv' A' E' R' i' Ad Ae Af Ag Ai An Ao Ap Aq Ar Au Av Aw Ax Ay Az Ba Bb Bc Bd Be Bf Bg Bh Bi Bj Bk Bl Bm Bn Bo Bp Bq Br Bs Bt Bu Bv Bw Bx By Bz Ca Cb Cc Cd Ce Cf Cg Ch Ci Cj Ck Cl Cm Cn Co Cp Cq Cr Cs Ct Cu Cv Cw Cx Cy Cz Da Db Dc Dd De Df Dg Dh Di Dj Dk Dl Dm Dn Do Dp Dq Dr Ds Dt Du Dv Dw Dx Dy Dz Ea Eb Ec Ed Ee Ef Eg Eh Ei Ej Ek El Em Eo Ep Eq Er Es Et Eu Ew Ey Ez Fa Fb Fc Fd Fe Ff Fg Fh Fi Fj Fk Fl Fm Fo Fp Fq Fs Ft Fu Fv Fw Fx Fy Fz Ga Gb Gc Gd Ge Gf Gg Gh Gi Gj Gk Gl Gm Gn Gp Gq Gr Gs Gt Gu Gv Gw Gx Gy Gz Ha Hb Hc Hd He Hf Hg Hi Hj Hk Hl
    have := hk h' tv' E' R' A' i'
    simp -implicitDefEqProofs only [↓cnd_true, ↓cnd_false, ↓Option.bind_some, ↓obH_some', bin_add, bin_sub, bin_mul, bin_lss, bin_leq, bin_gtr, bin_geq, bin_eql, bin_neq, un_not, un_neg, Option.bind_some, Option.bind_none, Option.map_some, cnd_true, cnd_false, pickV_true, pickV_false, gd_true, gd_false, gdV_true, gdV_false, gdH_true, gdH_false, gdS_true, gdS_false, wt_ff, wt_tt, wt_ft, wt_tf, wt_undef, obH_some', extractV_tuple, nilCheckV_ptr, againK_normal, againK_exit, againK_ret, blockK_normal, blockK_same, blockK_ret, seqK_normal, seqK_exit, seqK_ret, fin_done, if_true', if_false', Bool.not_true, Bool.not_false, idx0, idx1, idx2, idx3, idx4, chk_nil_l, chk_nil_r, done_nm]
    exact this _ _ _ _ _ _ _ _ _ _ _ _ _ _ _ _ _ _ _ _ _ _ _ _ _ _ _ _ _ _ _ _ _ _ _ _ _ _ _ _ _ _ _ _ _ _ _ _ _ _ _ _ _ _ _ _ _ _ _ _ _ _ _ _ _ _ _ _ _ _ _ _ _ _ _ _ _ _ _ _ _ _ _ _ _ _ _ _ _ _ _ _ _ _ _ _ _ _ _ _ _ _ _ _ _ _ _ _ _ _ _ _ _ _ _ _ _ _ _ _ _ _ _ _ _ _ _ _ _ _ _ _ _ _ _ _ _ _ _ _ _ _ _ _ _ _ _ _ _ _ _ _ _ _ _ _ _ _ _ _ _ _ _ _ _ _ _ _ _ _ _ _ _ _ _ _ _)
  rw [show ((0 : Nat) : Int) = 0 from rfl] at main
  simp -implicitDefEqProofs (disch := omega) only [dcT, dcF, gA0, gA3, mldInt, vld64, X.l0, d0, X.l3, e1, X1.l3, e2, ln, ne_eq, eq_self, not_true_eq_false, decide_false, ↓cnd_true, ↓cnd_false, ↓Option.bind_some, ↓obH_some', bin_add, bin_sub, bin_mul, bin_lss, bin_leq, bin_gtr, bin_geq, bin_eql, bin_neq, un_not, un_neg, Option.bind_some, Option.bind_none, Option.map_some, cnd_true, cnd_false, pickV_true, pickV_false, gd_true, gd_false, gdV_true, gdV_false, gdH_true, gdH_false, gdS_true, gdS_false, wt_ff, wt_tt, wt_ft, wt_tf, wt_undef, obH_some', extractV_tuple, nilCheckV_ptr, againK_normal, againK_exit, againK_ret, blockK_normal, blockK_same, blockK_ret, seqK_normal, seqK_exit, seqK_ret, fin_done, if_true', if_false', Bool.not_true, Bool.not_false, idx0, idx1, idx2, idx3, idx4, chk_nil_l, chk_nil_r, done_nm]
  exact main _ _ _ _ _ _ _ _ _ _ _ _ _ _ _ _ _ _ _ _ _ _ _ _ _ _ _ _ _ _ _ _ _ _ _ _ _ _ _ _ _ _ _ _ _ _ _ _ _ _ _ _ _ _ _ _ _ _ _ _ _ _ _ _ _ _ _ _ _ _ _ _ _ _ _ _ _ _ _ _ _ _ _ _ _ _ _ _ _ _ _ _ _ _ _ _ _ _ _ _ _ _ _ _ _ _ _ _ _ _ _ _ _ _ _ _ _ _ _ _ _ _ _ _ _ _ _ _ _ _ _ _ _ _ _ _ _ _ _ _ _ _ _ _ _ _ _ _ _ _ _ _ _ _ _ _ _ _ _ _ _ _ _ _ _ _ _ _ _ _ _ _ _
end Go.Am
namespace Go.Am
open Go.Proofs
set_option maxRecDepth 100000
set_option linter.all false
attribute [local congr] obind_congr obH_congr cnd_congr chk_congr retK_congr codeK_congr
theorem plays_act {Q : Option (Value × Heap) → Prop} {h0 h : Heap} {n me pe pq p12 i : Nat} {av tv Ao bv : Value} {T : List (List UInt8)} {m : List (List Nat)} {g : List Nat} {a : AT} {bs : List UInt8} (hto : a.to < 2 ^ 64) (X : XC h p12 a bv) (hX : p12 ≠ pe) (sb : SB h Ao bs) (hbl : bs.length < 2 ^ 38) (hbp : blockOf Ao ≠ some pe) (ok : EnOk n me m g) (E : En h0.blks.length h pe n me m g) (R : Qn h0.blks.length h pq n me m g) (hpe : h0.blks.length ≤ pe) (hpq : h0.blks.length ≤ pq) (hne : pe ≠ pq) (A : ABs h0.blks.length h tv T) (hT : T.length < 2 ^ 36) (hTl : ∀ s ∈ T, s.length ≤ 2560) (hin : In h0.blks.length No (nm h0) h) (kc : Ex → St → Option (Value × Heap))
    (hk : ∀ h' tv' T' m' g', EnOk n me m' g' → En h0.blks.length h' pe n me m' g' → Qn h0.blks.length h' pq n me m' g' → ABs h0.blks.length h' tv' T' → T'.length ≤ T.length + 127 → (∀ s ∈ T', s.length ≤ 2560) → In h0.blks.length No (nm h0) h' → ∀ (Ad Ae Af Ag Ai An Ao Ap Aq Ar Au Av Aw Ax Ay Az Ba Bb Bc Bd Be Bf Bg Bh Bi Bj Bk Bl Bm Bn Bo Bp Bq Br Bs Bt Bu Bv Bw Bx By Bz Ca Cb Cc Cd Ce Cf Cg Ch Ci Cj Ck Cl Cm Cn Co Cp Cq Cr Cs Ct Cu Cv Cw Cx Cy Cz Da Db Dc Dd De Df Dg Dh Di Dj Dk Dl Dm Dn Do Dp Dq Dr Ds Dt Du Dv Dw Dx Dy Dz Ea Eb Ec Ed Ee Ef Eg Eh Ei Ej Ek El Em Eo Ep Eq Er Es Et Eu Ew Ey Ez Fa Fb Fc Fd Fe Ff Fg Fh Fi Fj Fk Fl Fm Fo Fp Fq Fs Ft Fu Fv Fw Fx Fy Fz Ga Gb Gc Gd Ge Gf Gg Gh Gi Gj Gk Gl Gm Gn Gp Gq Gr Gs Gt Gu Gv Gw Gx Gy Gz Ha Hb Hc Hd He Hf Hg Hi Hj Hk Hl : Value), Q (kc .normal ⟨#[.int .i64 n, .int .i64 me, av,Ad,Ae,Af,Ag, .pointer (some ⟨pe, 0, none⟩),Ai, .pointer (some ⟨pq, 0, none⟩), tv', .int .i64 i,An,Ao,Ap,Aq,Ar,Au,Av,Aw,Ax,Ay,Az,Ba,Bb,Bc,Bd,Be,Bf,Bg,Bh,Bi,Bj,Bk,Bl,Bm,Bn,Bo,Bp,Bq,Br,Bs,Bt,Bu,Bv,Bw,Bx,By,Bz,Ca,Cb,Cc,Cd,Ce,Cf,Cg,Ch,Ci,Cj,Ck,Cl,Cm,Cn,Co,Cp,Cq,Cr,Cs,Ct,Cu,Cv,Cw,Cx,Cy,Cz,Da,Db,Dc,Dd,De,Df,Dg,Dh,Di,Dj,Dk,Dl,Dm,Dn,Do,Dp,Dq,Dr,Ds,Dt,Du,Dv,Dw,Dx,Dy,Dz,Ea,Eb,Ec,Ed,Ee,Ef,Eg,Eh,Ei,Ej,Ek,El,Em,Eo,Ep,Eq,Er,Es,Et,Eu,Ew,Ey,Ez,Fa,Fb,Fc,Fd,Fe,Ff,Fg,Fh,Fi,Fj,Fk,Fl,Fm,Fo,Fp,Fq,Fs,Ft,Fu,Fv,Fw,Fx,Fy,Fz,Ga,Gb,Gc,Gd,Ge,Gf,Gg,Gh,Gi,Gj,Gk,Gl,Gm,Gn,Gp,Gq,Gr,Gs,Gt,Gu,Gv,Gw,Gx,Gy,Gz,Ha,Hb,Hc,Hd,He,Hf,Hg,Hi,Hj,Hk,Hl], h'⟩)) :
    ∀ (Ad Ae Af Ag Ai Ap Aq Ar Au Av Aw Ax Ay Az Ba Bb Bc Bd Be Bf Bg Bh Bi Bj Bk Bl Bm Bn Bo Bp Bq Br Bs Bt Bu Bv Bw Bx By Bz Ca Cb Cc Cd Ce Cf Cg Ch Ci Cj Ck Cl Cm Cn Co Cp Cq Cr Cs Ct Cu Cv Cw Cx Cy Cz Da Db Dc Dd De Df Dg Dh Di Dj Dk Dl Dm Dn Do Dp Dq Dr Ds Dt Du Dv Dw Dx Dy Dz Ea Eb Ec Ed Ee Ef Eg Eh Ei Ej Ek El Em Eo Ep Eq Er Es Et Eu Ew Ey Ez Fa Fb Fc Fd Fe Ff Fg Fh Fi Fj Fk Fl Fm Fo Fp Fq Fs Ft Fu Fv Fw Fx Fy Fz Ga Gb Gc Gd Ge Gf Gg Gh Gi Gj Gk Gl Gm Gn Gp Gq Gr Gs Gt Gu Gv Gw Gx Gy Gz Ha Hb Hc Hd He Hf Hg Hi Hj Hk Hl : Value), Q (codeK Try.prog (evC Try.prog) loopL c5_15 ⟨#[.int .i64 n, .int .i64 me, av,Ad,Ae,Af,Ag, .pointer (some ⟨pe, 0, none⟩),Ai, .pointer (some ⟨pq, 0, none⟩), tv, .int .i64 i, .pointer (some ⟨p12, 0, none⟩),Ao,Ap,Aq,Ar,Au,Av,Aw,Ax,Ay,Az,Ba,Bb,Bc,Bd,Be,Bf,Bg,Bh,Bi,Bj,Bk,Bl,Bm,Bn,Bo,Bp,Bq,Br,Bs,Bt,Bu,Bv,Bw,Bx,By,Bz,Ca,Cb,Cc,Cd,Ce,Cf,Cg,Ch,Ci,Cj,Ck,Cl,Cm,Cn,Co,Cp,Cq,Cr,Cs,Ct,Cu,Cv,Cw,Cx,Cy,Cz,Da,Db,Dc,Dd,De,Df,Dg,Dh,Di,Dj,Dk,Dl,Dm,Dn,Do,Dp,Dq,Dr,Ds,Dt,Du,Dv,Dw,Dx,Dy,Dz,Ea,Eb,Ec,Ed,Ee,Ef,Eg,Eh,Ei,Ej,Ek,El,Em,Eo,Ep,Eq,Er,Es,Et,Eu,Ew,Ey,Ez,Fa,Fb,Fc,Fd,Fe,Ff,Fg,Fh,Fi,Fj,Fk,Fl,Fm,Fo,Fp,Fq,Fs,Ft,Fu,Fv,Fw,Fx,Fy,Fz,Ga,Gb,Gc,Gd,Ge,Gf,Gg,Gh,Gi,Gj,Gk,Gl,Gm,Gn,Gp,Gq,Gr,Gs,Gt,Gu,Gv,Gw,Gx,Gy,Gz,Ha,Hb,Hc,Hd,He,Hf,Hg,Hi,Hj,Hk,Hl], h⟩ kc) := by
  intro Ad Ae Af Ag Ai Ap Aq Ar Au Av Aw Ax Ay Az Ba Bb Bc Bd Be Bf Bg Bh Bi Bj Bk Bl Bm Bn Bo Bp Bq Br Bs Bt Bu Bv Bw Bx By Bz Ca Cb Cc Cd Ce Cf Cg Ch Ci Cj Ck Cl Cm Cn Co Cp Cq Cr Cs Ct Cu Cv Cw Cx Cy Cz Da Db Dc Dd De Df Dg Dh Di Dj Dk Dl Dm Dn Do Dp Dq Dr Ds Dt Du Dv Dw Dx Dy Dz Ea Eb Ec Ed Ee Ef Eg Eh Ei Ej Ek El Em Eo Ep Eq Er Es Et Eu Ew Ey Ez Fa Fb Fc Fd Fe Ff Fg Fh Fi Fj Fk Fl Fm Fo Fp Fq Fs Ft Fu Fv Fw Fx Fy Fz Ga Gb Gc Gd Ge Gf Gg Gh Gi Gj Gk Gl Gm Gn Gp Gq Gr Gs Gt Gu Gv Gw Gx Gy Gz Ha Hb Hc Hd He Hf Hg Hi Hj Hk Hl
  rw [c5_15_eq]
  by_cases hop : a.op = 0
  · have hp := pop_lt (toE n me a.to)
    refine plays_send (Q := Q) (h0 := h0) hop hto X hX ok E R hpe hpq hne A hT hin (seqK Try.prog (evC Try.prog) c5_17 kc) ?_ _ _ _ _ _ _ _ _ _ _ _ _ _ _ _ _ _ _ _ _ _ _ _ _ _ _ _ _ _ _ _ _ _ _ _ _ _ _ _ _ _ _ _ _ _ _ _ _ _ _ _ _ _ _ _ _ _ _ _ _ _ _ _ _ _ _ _ _ _ _ _ _ _ _ _ _ _ _ _ _ _ _ _ _ _ _ _ _ _ _ _ _ _ _ _ _ _ _ _ _ _ _ _ _ _ _ _ _ _ _ _ _ _ _ _ _ _ _ _ _ _ _ _ _ _ _ _ _ _ _ _ _ _ _ _ _ _ _ _ _ _ _ _ _ _ _ _ _ _ _ _ _ _ _ _ _ _ _ _ _ _ _ _ _ _ _ _ _ _ _ _ _ _ _ _
    intro h' tv' E' R' A' i' Ad Ae Af Ag Ai An Ao Ap Aq Ar Au Av Aw Ax Ay Az Ba Bb Bc Bd Be Bf Bg Bh Bi Bj Bk Bl Bm Bn Bo Bp Bq Br Bs Bt Bu Bv Bw Bx By Bz Ca Cb Cc Cd Ce Cf Cg Ch Ci Cj Ck Cl Cm Cn Co Cp Cq Cr Cs Ct Cu Cv Cw Cx Cy Cz Da Db Dc Dd De Df Dg Dh Di Dj Dk Dl Dm Dn Do Dp Dq Dr Ds Dt Du Dv Dw Dx Dy Dz Ea Eb Ec Ed Ee Ef Eg Eh Ei Ej Ek El Em Eo Ep Eq Er Es Et Eu Ew Ey Ez Fa Fb Fc Fd Fe Ff Fg Fh Fi Fj Fk Fl Fm Fo Fp Fq Fs Ft Fu Fv Fw Fx Fy Fz Ga Gb Gc Gd Ge Gf Gg Gh Gi Gj Gk Gl Gm Gn Gp Gq Gr Gs Gt Gu Gv Gw Gx Gy Gz Ha Hb Hc Hd He Hf Hg Hi Hj Hk Hl
    have := plays_tail (Q := Q) (h0 := h0) (av := av) (i := i) (ok.send (toE n me a.to)) E' R' A' i' kc (fun h2 E2 R2 A2 i2 => hk h2 tv' _ _ _ (ok.send _) E2 R2 A2 (by simp; omega) (fun s hs => by
      rcases List.mem_append.1 hs with hs | hs
      · exact hTl s hs
      · rw [(List.mem_replicate.1 hs).2]; exact stampM_len ok.m64) i2)
    simp -implicitDefEqProofs only [↓cnd_true, ↓cnd_false, ↓Option.bind_some, ↓obH_some', bin_add, bin_sub, bin_mul, bin_lss, bin_leq, bin_gtr, bin_geq, bin_eql, bin_neq, un_not, un_neg, Option.bind_some, Option.bind_none, Option.map_some, cnd_true, cnd_false, pickV_true, pickV_false, gd_true, gd_false, gdV_true, gdV_false, gdH_true, gdH_false, gdS_true, gdS_false, wt_ff, wt_tt, wt_ft, wt_tf, wt_undef, obH_some', extractV_tuple, nilCheckV_ptr, againK_normal, againK_exit, againK_ret, blockK_normal, blockK_same, blockK_ret, seqK_normal, seqK_exit, seqK_ret, fin_done, if_true', if_false', Bool.not_true, Bool.not_false, idx0, idx1, idx2, idx3, idx4, chk_nil_l, chk_nil_r, done_nm]
    exact this _ _ _ _ _ _ _ _ _ _ _ _ _ _ _ _ _ _ _ _ _ _ _ _ _ _ _ _ _ _ _ _ _ _ _ _ _ _ _ _ _ _ _ _ _ _ _ _ _ _ _ _ _ _ _ _ _ _ _ _ _ _ _ _ _ _ _ _ _ _ _ _ _ _ _ _ _ _ _ _ _ _ _ _ _ _ _ _ _ _ _ _ _ _ _ _ _ _ _ _ _ _ _ _ _ _ _ _ _ _ _ _ _ _ _ _ _ _ _ _ _ _ _ _ _ _ _ _ _ _ _ _ _ _ _ _ _ _ _ _ _ _ _ _ _ _ _ _ _ _ _ _ _ _ _ _ _ _ _ _ _ _ _ _ _ _ _ _ _ _ _ _ _ _ _ _ _
  · by_cases hop1 : a.op = 1
    · refine plays_take (Q := Q) (h0 := h0) hop1 hto X hX sb hbl hbp ok E R hpe hpq hne A hin (seqK Try.prog (evC Try.prog) c5_17 kc) ?_ _ _ _ _ _ _ _ _ _ _ _ _ _ _ _ _ _ _ _ _ _ _ _ _ _ _ _ _ _ _ _ _ _ _ _ _ _ _ _ _ _ _ _ _ _ _ _ _ _ _ _ _ _ _ _ _ _ _ _ _ _ _ _ _ _ _ _ _ _ _ _ _ _ _ _ _ _ _ _ _ _ _ _ _ _ _ _ _ _ _ _ _ _ _ _ _ _ _ _ _ _ _ _ _ _ _ _ _ _ _ _ _ _ _ _ _ _ _ _ _ _ _ _ _ _ _ _ _ _ _ _ _ _ _ _ _ _ _ _ _ _ _ _ _ _ _ _ _ _ _ _ _ _ _ _ _ _ _ _ _ _ _ _ _ _ _ _ _ _ _ _ _ _ _ _
      intro h' E' R' A' i' Ad Ae Af Ag Ai An Ao Ap Aq Ar Au Av Aw Ax Ay Az Ba Bb Bc Bd Be Bf Bg Bh Bi Bj Bk Bl Bm Bn Bo Bp Bq Br Bs Bt Bu Bv Bw Bx By Bz Ca Cb Cc Cd Ce Cf Cg Ch Ci Cj Ck Cl Cm Cn Co Cp Cq Cr Cs Ct Cu Cv Cw Cx Cy Cz Da Db Dc Dd De Df Dg Dh Di Dj Dk Dl Dm Dn Do Dp Dq Dr Ds Dt Du Dv Dw Dx Dy Dz Ea Eb Ec Ed Ee Ef Eg Eh Ei Ej Ek El Em Eo Ep Eq Er Es Et Eu Ew Ey Ez Fa Fb Fc Fd Fe Ff Fg Fh Fi Fj Fk Fl Fm Fo Fp Fq Fs Ft Fu Fv Fw Fx Fy Fz Ga Gb Gc Gd Ge Gf Gg Gh Gi Gj Gk Gl Gm Gn Gp Gq Gr Gs Gt Gu Gv Gw Gx Gy Gz Ha Hb Hc Hd He Hf Hg Hi Hj Hk Hl
      have := plays_tail (Q := Q) (h0 := h0) (av := av) (i := i) (ok.take a.frm a.to bs) E' R' A' i' kc (fun h2 E2 R2 A2 i2 => hk h2 tv _ _ _ (ok.take _ _ _) E2 R2 A2 (by omega) hTl i2)
      simp -implicitDefEqProofs only [↓cnd_true, ↓cnd_false, ↓Option.bind_some, ↓obH_some', bin_add, bin_sub, bin_mul, bin_lss, bin_leq, bin_gtr, bin_geq, bin_eql, bin_neq, un_not, un_neg, Option.bind_some, Option.bind_none, Option.map_some, cnd_true, cnd_false, pickV_true, pickV_false, gd_true, gd_false, gdV_true, gdV_false, gdH_true, gdH_false, gdS_true, gdS_false, wt_ff, wt_tt, wt_ft, wt_tf, wt_undef, obH_some', extractV_tuple, nilCheckV_ptr, againK_normal, againK_exit, againK_ret, blockK_normal, blockK_same, blockK_ret, seqK_normal, seqK_exit, seqK_ret, fin_done, if_true', if_false', Bool.not_true, Bool.not_false, idx0, idx1, idx2, idx3, idx4, chk_nil_l, chk_nil_r, done_nm]
      exact this _ _ _ _ _ _ _ _ _ _ _ _ _ _ _ _ _ _ _ _ _ _ _ _ _ _ _ _ _ _ _ _ _ _ _ _ _ _ _ _ _ _ _ _ _ _ _ _ _ _ _ _ _ _ _ _ _ _ _ _ _ _ _ _ _ _ _ _ _ _ _ _ _ _ _ _ _ _ _ _ _ _ _ _ _ _ _ _ _ _ _ _ _ _ _ _ _ _ _ _ _ _ _ _ _ _ _ _ _ _ _ _ _ _ _ _ _ _ _ _ _ _ _ _ _ _ _ _ _ _ _ _ _ _ _ _ _ _ _ _ _ _ _ _ _ _ _ _ _ _ _ _ _ _ _ _ _ _ _ _ _ _ _ _ _ _ _ _ _ _ _ _ _ _ _ _ _
    · refine plays_can (Q := Q) (h0 := h0) hop hop1 X hX sb hbl hbp ok E R hpe hpq hne A hin (seqK Try.prog (evC Try.prog) c5_17 kc) ?_ _ _ _ _ _ _ _ _ _ _ _ _ _ _ _ _ _ _ _ _ _ _ _ _ _ _ _ _ _ _ _ _ _ _ _ _ _ _ _ _ _ _ _ _ _ _ _ _ _ _ _ _ _ _ _ _ _ _ _ _ _ _ _ _ _ _ _ _ _ _ _ _ _ _ _ _ _ _ _ _ _ _ _ _ _ _ _ _ _ _ _ _ _ _ _ _ _ _ _ _ _ _ _ _ _ _ _ _ _ _ _ _ _ _ _ _ _ _ _ _ _ _ _ _ _ _ _ _ _ _ _ _ _ _ _ _ _ _ _ _ _ _ _ _ _ _ _ _ _ _ _ _ _ _ _ _ _ _ _ _ _ _ _ _ _ _ _ _ _ _ _ _ _ _ _
      intro h' E' R' A' i' Ad Ae Af Ag Ai An Ao Ap Aq Ar Au Av Aw Ax Ay Az Ba Bb Bc Bd Be Bf Bg Bh Bi Bj Bk Bl Bm Bn Bo Bp Bq Br Bs Bt Bu Bv Bw Bx By Bz Ca Cb Cc Cd Ce Cf Cg Ch Ci Cj Ck Cl Cm Cn Co Cp Cq Cr Cs Ct Cu Cv Cw Cx Cy Cz Da Db Dc Dd De Df Dg Dh Di Dj Dk Dl Dm Dn Do Dp Dq Dr Ds Dt Du Dv Dw Dx Dy Dz Ea Eb Ec Ed Ee Ef Eg Eh Ei Ej Ek El Em Eo Ep Eq Er Es Et Eu Ew Ey Ez Fa Fb Fc Fd Fe Ff Fg Fh Fi Fj Fk Fl Fm Fo Fp Fq Fs Ft Fu Fv Fw Fx Fy Fz Ga Gb Gc Gd Ge Gf Gg Gh Gi Gj Gk Gl Gm Gn Gp Gq Gr Gs Gt Gu Gv Gw Gx Gy Gz Ha Hb Hc Hd He Hf Hg Hi Hj Hk Hl
      have := plays_tail (Q := Q) (h0 := h0) (av := av) (i := i) ok E' R' A' i' kc (fun h2 E2 R2 A2 i2 => hk h2 tv _ _ _ ok E2 R2 A2 (by omega) hTl i2)
      simp -implicitDefEqProofs only [↓cnd_true, ↓cnd_false, ↓Option.bind_some, ↓obH_some', bin_add, bin_sub, bin_mul, bin_lss, bin_leq, bin_gtr, bin_geq, bin_eql, bin_neq, un_not, un_neg, Option.bind_some, Option.bind_none, Option.map_some, cnd_true, cnd_false, pickV_true, pickV_false, gd_true, gd_false, gdV_true, gdV_false, gdH_true, gdH_false, gdS_true, gdS_false, wt_ff, wt_tt, wt_ft, wt_tf, wt_undef, obH_some', extractV_tuple, nilCheckV_ptr, againK_normal, againK_exit, againK_ret, blockK_normal, blockK_same, blockK_ret, seqK_normal, seqK_exit, seqK_ret, fin_done, if_true', if_false', Bool.not_true, Bool.not_false, idx0, idx1, idx2, idx3, idx4, chk_nil_l, chk_nil_r, done_nm]
      exact this _ _ _ _ _ _ _ _ _ _ _ _ _ _ _ _ _ _ _ _ _ _ _ _ _ _ _ _ _ _ _ _ _ _ _ _ _ _ _ _ _ _ _ _ _ _ _ _ _ _ _ _ _ _ _ _ _ _ _ _ _ _ _ _ _ _ _ _ _ _ _ _ _ _ _ _ _ _ _ _ _ _ _ _ _ _ _ _ _ _ _ _ _ _ _ _ _ _ _ _ _ _ _ _ _ _ _ _ _ _ _ _ _ _ _ _ _ _ _ _ _ _ _ _ _ _ _ _ _ _ _ _ _ _ _ _ _ _ _ _ _ _ _ _ _ _ _ _ _ _ _ _ _ _ _ _ _ _ _ _ _ _ _ _ _ _ _ _ _ _ _ _ _ _ _ _ _
end Go.Am
namespace Go.Am
open Go.Proofs
set_option maxRecDepth 100000
set_option linter.all false
attribute [local congr] obind_congr obH_congr cnd_congr chk_congr retK_congr codeK_congr
theorem plays_loop {h0 : Heap} {n me pe pq : Nat} {av : Value} {l : List AT} (sa : SA h0 av l) (hto : ∀ a ∈ l, a.to < 2 ^ 64) (hll : l.length ≤ 40) (hpe : h0.blks.length ≤ pe) (hpq : h0.blks.length ≤ pq) (hne : pe ≠ pq) :
    ∀ (mm i : Nat) (h : Heap) (tv : Value) (T : List (List UInt8)) (m : List (List Nat)) (g : List Nat), l.length = i + mm → EnOk n me m g → En h0.blks.length h pe n me m g → Qn h0.blks.length h pq n me m g → ABs h0.blks.length h tv T → T.length ≤ 127 * i → (∀ s ∈ T, s.length ≤ 2560) → In h0.blks.length No (nm h0) h →
    ∀ (Ad Ae Af Ag Ai An Ao Ap Aq Ar Au Av Aw Ax Ay Az Ba Bb Bc Bd Be Bf Bg Bh Bi Bj Bk Bl Bm Bn Bo Bp Bq Br Bs Bt Bu Bv Bw Bx By Bz Ca Cb Cc Cd Ce Cf Cg Ch Ci Cj Ck Cl Cm Cn Co Cp Cq Cr Cs Ct Cu Cv Cw Cx Cy Cz Da Db Dc Dd De Df Dg Dh Di Dj Dk Dl Dm Dn Do Dp Dq Dr Ds Dt Du Dv Dw Dx Dy Dz Ea Eb Ec Ed Ee Ef Eg Eh Ei Ej Ek El Em Eo Ep Eq Er Es Et Eu Ew Ey Ez Fa Fb Fc Fd Fe Ff Fg Fh Fi Fj Fk Fl Fm Fo Fp Fq Fs Ft Fu Fv Fw Fx Fy Fz Ga Gb Gc Gd Ge Gf Gg Gh Gi Gj Gk Gl Gm Gn Gp Gq Gr Gs Gt Gu Gv Gw Gx Gy Gz Ha Hb Hc Hd He Hf Hg Hi Hj Hk Hl : Value), ∃ h', loopK Try.prog (evC Try.prog) c5_1 ⟨#[.int .i64 n, .int .i64 me, av,Ad,Ae,Af,Ag, .pointer (some ⟨pe, 0, none⟩),Ai, .pointer (some ⟨pq, 0, none⟩), tv, .int .i64 i,An,Ao,Ap,Aq,Ar,Au,Av,Aw,Ax,Ay,Az,Ba,Bb,Bc,Bd,Be,Bf,Bg,Bh,Bi,Bj,Bk,Bl,Bm,Bn,Bo,Bp,Bq,Br,Bs,Bt,Bu,Bv,Bw,Bx,By,Bz,Ca,Cb,Cc,Cd,Ce,Cf,Cg,Ch,Ci,Cj,Ck,Cl,Cm,Cn,Co,Cp,Cq,Cr,Cs,Ct,Cu,Cv,Cw,Cx,Cy,Cz,Da,Db,Dc,Dd,De,Df,Dg,Dh,Di,Dj,Dk,Dl,Dm,Dn,Do,Dp,Dq,Dr,Ds,Dt,Du,Dv,Dw,Dx,Dy,Dz,Ea,Eb,Ec,Ed,Ee,Ef,Eg,Eh,Ei,Ej,Ek,El,Em,Eo,Ep,Eq,Er,Es,Et,Eu,Ew,Ey,Ez,Fa,Fb,Fc,Fd,Fe,Ff,Fg,Fh,Fi,Fj,Fk,Fl,Fm,Fo,Fp,Fq,Fs,Ft,Fu,Fv,Fw,Fx,Fy,Fz,Ga,Gb,Gc,Gd,Ge,Gf,Gg,Gh,Gi,Gj,Gk,Gl,Gm,Gn,Gp,Gq,Gr,Gs,Gt,Gu,Gv,Gw,Gx,Gy,Gz,Ha,Hb,Hc,Hd,He,Hf,Hg,Hi,Hj,Hk,Hl], h⟩ (blockK 0 (seqK Try.prog (evC Try.prog) c5_2 (retK Try.f5 Try.prog h0))) = some (.bool true, h') := by
  intro mm
  induction mm with
  | zero =>
    intro i h tv T m g hi ok E R A hT hTl hin Ad Ae Af Ag Ai An Ao Ap Aq Ar Au Av Aw Ax Ay Az Ba Bb Bc Bd Be Bf Bg Bh Bi Bj Bk Bl Bm Bn Bo Bp Bq Br Bs Bt Bu Bv Bw Bx By Bz Ca Cb Cc Cd Ce Cf Cg Ch Ci Cj Ck Cl Cm Cn Co Cp Cq Cr Cs Ct Cu Cv Cw Cx Cy Cz Da Db Dc Dd De Df Dg Dh Di Dj Dk Dl Dm Dn Do Dp Dq Dr Ds Dt Du Dv Dw Dx Dy Dz Ea Eb Ec Ed Ee Ef Eg Eh Ei Ej Ek El Em Eo Ep Eq Er Es Et Eu Ew Ey Ez Fa Fb Fc Fd Fe Ff Fg Fh Fi Fj Fk Fl Fm Fo Fp Fq Fs Ft Fu Fv Fw Fx Fy Fz Ga Gb Gc Gd Ge Gf Gg Gh Gi Gj Gk Gl Gm Gn Gp Gq Gr Gs Gt Gu Gv Gw Gx Gy Gz Ha Hb Hc Hd He Hf Hg Hi Hj Hk Hl
    rw [loopK_eq evC_m, c5_1_eq]
    have ln := (sa.same hin.same0).len
    simp -implicitDefEqProofs (disch := omega) only [dcT, dcF, ↓c5_2_eq, ↓c5_3_eq, ln, ↓ret5, ↓cnd_true, ↓cnd_false, ↓Option.bind_some, ↓obH_some', bin_add, bin_sub, bin_mul, bin_lss, bin_leq, bin_gtr, bin_geq, bin_eql, bin_neq, un_not, un_neg, Option.bind_some, Option.bind_none, Option.map_some, cnd_true, cnd_false, pickV_true, pickV_false, gd_true, gd_false, gdV_true, gdV_false, gdH_true, gdH_false, gdS_true, gdS_false, wt_ff, wt_tt, wt_ft, wt_tf, wt_undef, obH_some', extractV_tuple, nilCheckV_ptr, againK_normal, againK_exit, againK_ret, blockK_normal, blockK_same, blockK_ret, seqK_normal, seqK_exit, seqK_ret, fin_done, if_true', if_false', Bool.not_true, Bool.not_false, idx0, idx1, idx2, idx3, idx4, chk_nil_l, chk_nil_r, done_nm]
    exact ⟨_, rfl⟩
  | succ mm ih =>
    intro i h tv T m g hi ok E R A hT hTl hin Ad Ae Af Ag Ai An Ao Ap Aq Ar Au Av Aw Ax Ay Az Ba Bb Bc Bd Be Bf Bg Bh Bi Bj Bk Bl Bm Bn Bo Bp Bq Br Bs Bt Bu Bv Bw Bx By Bz Ca Cb Cc Cd Ce Cf Cg Ch Ci Cj Ck Cl Cm Cn Co Cp Cq Cr Cs Ct Cu Cv Cw Cx Cy Cz Da Db Dc Dd De Df Dg Dh Di Dj Dk Dl Dm Dn Do Dp Dq Dr Ds Dt Du Dv Dw Dx Dy Dz Ea Eb Ec Ed Ee Ef Eg Eh Ei Ej Ek El Em Eo Ep Eq Er Es Et Eu Ew Ey Ez Fa Fb Fc Fd Fe Ff Fg Fh Fi Fj Fk Fl Fm Fo Fp Fq Fs Ft Fu Fv Fw Fx Fy Fz Ga Gb Gc Gd Ge Gf Gg Gh Gi Gj Gk Gl Gm Gn Gp Gq Gr Gs Gt Gu Gv Gw Gx Gy Gz Ha Hb Hc Hd He Hf Hg Hi Hj Hk Hl
    rw [loopK_eq evC_m, c5_1_eq]
    have ln := (sa.same hin.same0).len
    have hil : i < l.length := by omega
    obtain ⟨b, o, bv, hA⟩ := sa.atN hil
    have hti := hto l[i] (List.getElem_mem hil)
    obtain ⟨ea, el, _⟩ := hA h hin.same0
    have lo0 := (hA h0 (Same.refl _)).2.2.lo
    obtain ⟨ba, bc, rfl⟩ := (hA h0 (Same.refl _)).2.2.shape
    have hl : h0.blks.length ≤ h.blks.length := hin.len
    have k1 := alAct h
    have c1 := Cells.new h 61 [.int .i64 0, .int .i64 0, .int .i64 0, .int .u64 0, .slice none 0 0]
    have st := storeN_blk c1 (o := 0) (vs := [.int .i64 l[i].op, .int .i64 l[i].frm, .int .i64 l[i].at', .int .u64 l[i].to, .slice ba l[i].b.length bc]) (by simp)
    rw [show List.take 0 [Value.int .i64 0, .int .i64 0, .int .i64 0, .int .u64 0, .slice none 0 0] ++ [Value.int .i64 l[i].op, .int .i64 l[i].frm, .int .i64 l[i].at', .int .u64 l[i].to, .slice ba l[i].b.length bc] ++ List.drop (0 + [Value.int .i64 l[i].op, .int .i64 l[i].frm, .int .i64 l[i].at', .int .u64 l[i].to, .slice ba l[i].b.length bc].length) [Value.int .i64 0, .int .i64 0, .int .i64 0, .int .u64 0, .slice none 0 0] = [.int .i64 l[i].op, .int .i64 l[i].frm, .int .i64 l[i].at', .int .u64 l[i].to, .slice ba l[i].b.length bc] from rfl] at st
    have c2 := c1.put [.int .i64 l[i].op, .int .i64 l[i].frm, .int .i64 l[i].at', .int .u64 l[i].to, .slice ba l[i].b.length bc]
    have s2 := (Same.new h (.cells [.int .i64 0, .int .i64 0, .int .i64 0, .int .u64 0, .slice none 0 0]) 61).put (Nat.le_refl _) (.cells [.int .i64 l[i].op, .int .i64 l[i].frm, .int .i64 l[i].at', .int .u64 l[i].to, .slice ba l[i].b.length bc])
    have i2 := (hin.trans (In.new hl (.cells [.int .i64 0, .int .i64 0, .int .i64 0, .int .u64 0, .slice none 0 0]) 61)).trans (In.put (p := h.blks.length) (Nat.le_trans hl (Same.new h (.cells [.int .i64 0, .int .i64 0, .int .i64 0, .int .u64 0, .slice none 0 0]) 61).1) (.inl hl) (.cells [.int .i64 l[i].op, .int .i64 l[i].frm, .int .i64 l[i].at', .int .u64 l[i].to, .slice ba l[i].b.length bc]))
    obtain ⟨cse, ce⟩ := E.cl
    have lte := ce.lt
    generalize hq : h.blks.length = p12 at *
    generalize (h.new (.cells [.int .i64 0, .int .i64 0, .int .i64 0, .int .u64 0, .slice none 0 0]) 61).put p12 (.cells [.int .i64 l[i].op, .int .i64 l[i].frm, .int .i64 l[i].at', .int .u64 l[i].to, .slice ba l[i].b.length bc]) = h2 at *
    have X : XC h2 p12 l[i] (.slice ba l[i].b.length bc) := ⟨c2⟩
    have sb2 := (hA h2 i2.same0).2.2
    have lb := sb2.row.len_eq etB.under
    have el' : loadV Try.prog 61 (.pointer (some ⟨b, o, none⟩)) h = some (.agg #[.int .i64 l[i].op, .int .i64 l[i].frm, .int .i64 l[i].at', .int .u64 l[i].to, .slice ba l[i].b.length bc]) := el
    by_cases hbig : 600 < l[i].b.length
    · simp -implicitDefEqProofs (disch := omega) only [dcT, dcF, ↓c5_3_eq, ↓c5_4_eq, ↓c5_5_eq, ↓c5_7_eq, ↓c5_8_eq, ↓c5_9_eq, ↓c5_10_eq, ln, ea, el', k1, stAct, st, gA4, ldB, X.l4, lb, ↓ret5, ↓cnd_true, ↓cnd_false, ↓Option.bind_some, ↓obH_some', bin_add, bin_sub, bin_mul, bin_lss, bin_leq, bin_gtr, bin_geq, bin_eql, bin_neq, un_not, un_neg, Option.bind_some, Option.bind_none, Option.map_some, cnd_true, cnd_false, pickV_true, pickV_false, gd_true, gd_false, gdV_true, gdV_false, gdH_true, gdH_false, gdS_true, gdS_false, wt_ff, wt_tt, wt_ft, wt_tf, wt_undef, obH_some', extractV_tuple, nilCheckV_ptr, againK_normal, againK_exit, againK_ret, blockK_normal, blockK_same, blockK_ret, seqK_normal, seqK_exit, seqK_ret, fin_done, if_true', if_false', Bool.not_true, Bool.not_false, idx0, idx1, idx2, idx3, idx4, chk_nil_l, chk_nil_r, done_nm]
      exact ⟨_, rfl⟩
    have A2 := A.same s2
    have E2 := E.same s2
    have R2 := R.same s2
    have lt := A2.len
    have hw : IntKind.wrap .i64 ((i : Int) + 1) = ((i + 1 : Nat) : Int) := by rw [wrap_i64] <;> omega
    have nxt : ∀ h' tv' T' m' g', EnOk n me m' g' → En h0.blks.length h' pe n me m' g' → Qn h0.blks.length h' pq n me m' g' → ABs h0.blks.length h' tv' T' → T'.length ≤ T.length + 127 → (∀ s ∈ T', s.length ≤ 2560) → In h0.blks.length No (nm h0) h' → ∀ (Ad Ae Af Ag Ai An Ao Ap Aq Ar Au Av Aw Ax Ay Az Ba Bb Bc Bd Be Bf Bg Bh Bi Bj Bk Bl Bm Bn Bo Bp Bq Br Bs Bt Bu Bv Bw Bx By Bz Ca Cb Cc Cd Ce Cf Cg Ch Ci Cj Ck Cl Cm Cn Co Cp Cq Cr Cs Ct Cu Cv Cw Cx Cy Cz Da Db Dc Dd De Df Dg Dh Di Dj Dk Dl Dm Dn Do Dp Dq Dr Ds Dt Du Dv Dw Dx Dy Dz Ea Eb Ec Ed Ee Ef Eg Eh Ei Ej Ek El Em Eo Ep Eq Er Es Et Eu Ew Ey Ez Fa Fb Fc Fd Fe Ff Fg Fh Fi Fj Fk Fl Fm Fo Fp Fq Fs Ft Fu Fv Fw Fx Fy Fz Ga Gb Gc Gd Ge Gf Gg Gh Gi Gj Gk Gl Gm Gn Gp Gq Gr Gs Gt Gu Gv Gw Gx Gy Gz Ha Hb Hc Hd He Hf Hg Hi Hj Hk Hl : Value), ∃ h3, blockK 1 (seqK Try.prog (evC Try.prog) c5_6 (againK Try.prog (evC Try.prog) c5_1 (blockK 0 (seqK Try.prog (evC Try.prog) c5_2 (retK Try.f5 Try.prog h0))))) .normal ⟨#[.int .i64 n, .int .i64 me, av,Ad,Ae,Af,Ag, .pointer (some ⟨pe, 0, none⟩),Ai, .pointer (some ⟨pq, 0, none⟩), tv', .int .i64 i,An,Ao,Ap,Aq,Ar,Au,Av,Aw,Ax,Ay,Az,Ba,Bb,Bc,Bd,Be,Bf,Bg,Bh,Bi,Bj,Bk,Bl,Bm,Bn,Bo,Bp,Bq,Br,Bs,Bt,Bu,Bv,Bw,Bx,By,Bz,Ca,Cb,Cc,Cd,Ce,Cf,Cg,Ch,Ci,Cj,Ck,Cl,Cm,Cn,Co,Cp,Cq,Cr,Cs,Ct,Cu,Cv,Cw,Cx,Cy,Cz,Da,Db,Dc,Dd,De,Df,Dg,Dh,Di,Dj,Dk,Dl,Dm,Dn,Do,Dp,Dq,Dr,Ds,Dt,Du,Dv,Dw,Dx,Dy,Dz,Ea,Eb,Ec,Ed,Ee,Ef,Eg,Eh,Ei,Ej,Ek,El,Em,Eo,Ep,Eq,Er,Es,Et,Eu,Ew,Ey,Ez,Fa,Fb,Fc,Fd,Fe,Ff,Fg,Fh,Fi,Fj,Fk,Fl,Fm,Fo,Fp,Fq,Fs,Ft,Fu,Fv,Fw,Fx,Fy,Fz,Ga,Gb,Gc,Gd,Ge,Gf,Gg,Gh,Gi,Gj,Gk,Gl,Gm,Gn,Gp,Gq,Gr,Gs,Gt,Gu,Gv,Gw,Gx,Gy,Gz,Ha,Hb,Hc,Hd,He,Hf,Hg,Hi,Hj,Hk,Hl], h'⟩ = some (.bool true, h3) := by
      intro h' tv' T' m' g' ok' E' R' A' hT' hTl' i' Ad Ae Af Ag Ai An Ao Ap Aq Ar Au Av Aw Ax Ay Az Ba Bb Bc Bd Be Bf Bg Bh Bi Bj Bk Bl Bm Bn Bo Bp Bq Br Bs Bt Bu Bv Bw Bx By Bz Ca Cb Cc Cd Ce Cf Cg Ch Ci Cj Ck Cl Cm Cn Co Cp Cq Cr Cs Ct Cu Cv Cw Cx Cy Cz Da Db Dc Dd De Df Dg Dh Di Dj Dk Dl Dm Dn Do Dp Dq Dr Ds Dt Du Dv Dw Dx Dy Dz Ea Eb Ec Ed Ee Ef Eg Eh Ei Ej Ek El Em Eo Ep Eq Er Es Et Eu Ew Ey Ez Fa Fb Fc Fd Fe Ff Fg Fh Fi Fj Fk Fl Fm Fo Fp Fq Fs Ft Fu Fv Fw Fx Fy Fz Ga Gb Gc Gd Ge Gf Gg Gh Gi Gj Gk Gl Gm Gn Gp Gq Gr Gs Gt Gu Gv Gw Gx Gy Gz Ha Hb Hc Hd He Hf Hg Hi Hj Hk Hl
      have := ih (i + 1) h' tv' T' m' g' (by omega) ok' E' R' A' (by omega) hTl' i'
      simp -implicitDefEqProofs (disch := omega) only [↓c5_6_eq, hw, ↓cnd_true, ↓cnd_false, ↓Option.bind_some, ↓obH_some', bin_add, bin_sub, bin_mul, bin_lss, bin_leq, bin_gtr, bin_geq, bin_eql, bin_neq, un_not, un_neg, Option.bind_some, Option.bind_none, Option.map_some, cnd_true, cnd_false, pickV_true, pickV_false, gd_true, gd_false, gdV_true, gdV_false, gdH_true, gdH_false, gdS_true, gdS_false, wt_ff, wt_tt, wt_ft, wt_tf, wt_undef, obH_some', extractV_tuple, nilCheckV_ptr, againK_normal, againK_exit, againK_ret, blockK_normal, blockK_same, blockK_ret, seqK_normal, seqK_exit, seqK_ret, fin_done, if_true', if_false', Bool.not_true, Bool.not_false, idx0, idx1, idx2, idx3, idx4, chk_nil_l, chk_nil_r, done_nm]
      exact this _ _ _ _ _ _ _ _ _ _ _ _ _ _ _ _ _ _ _ _ _ _ _ _ _ _ _ _ _ _ _ _ _ _ _ _ _ _ _ _ _ _ _ _ _ _ _ _ _ _ _ _ _ _ _ _ _ _ _ _ _ _ _ _ _ _ _ _ _ _ _ _ _ _ _ _ _ _ _ _ _ _ _ _ _ _ _ _ _ _ _ _ _ _ _ _ _ _ _ _ _ _ _ _ _ _ _ _ _ _ _ _ _ _ _ _ _ _ _ _ _ _ _ _ _ _ _ _ _ _ _ _ _ _ _ _ _ _ _ _ _ _ _ _ _ _ _ _ _ _ _ _ _ _ _ _ _ _ _ _ _ _ _ _ _ _ _ _ _ _ _ _ _ _ _ _ _
    by_cases ha0 : 0 ≤ l[i].at'
    · by_cases ha1 : l[i].at' < T.length
      · obtain ⟨k, hk⟩ : ∃ k : Nat, l[i].at' = k := ⟨l[i].at'.toNat, by omega⟩
        obtain ⟨ad, ya, yc, et, ey, ay⟩ := A2.atA (i := k) (by omega)
        rw [← hk] at et
        have hyl : (T.getD k []).length ≤ 2560 := by
          rw [List.getD_eq_getElem?_getD, List.getElem?_eq_getElem (by omega)]
          exact hTl _ (List.getElem_mem _)
        have main := plays_act (Q := fun r => ∃ h', r = some (.bool true, h')) (h0 := h0) (i := i) (av := av) hti X (by omega) (ay.sl etB.size) (by omega) (fun e => by
          obtain ⟨all, hb⟩ := ay.blk e
          obtain ⟨cs3, c3⟩ := E2.cl
          unfold Cells at c3
          rw [c3] at hb
          simp only [Option.some.injEq, Blk.mk.injEq] at hb
          exact absurd hb.2.1 (by decide)) ok E2 R2 hpe hpq hne A2 (by omega) hTl i2 _ nxt
        simp -implicitDefEqProofs (disch := omega) only [dcT, dcF, ↓c5_3_eq, ↓c5_4_eq, ↓c5_5_eq, ↓c5_7_eq, ↓c5_8_eq, ↓c5_9_eq, ↓c5_10_eq, ↓c5_11_eq, ↓c5_12_eq, ↓c5_13_eq, ↓c5_14_eq, ln, ea, el', k1, stAct, st, gA2, gA4, ldB, mldInt, X.l2, X.l4, lb, lt, et, ey, ↓cnd_true, ↓cnd_false, ↓Option.bind_some, ↓obH_some', bin_add, bin_sub, bin_mul, bin_lss, bin_leq, bin_gtr, bin_geq, bin_eql, bin_neq, un_not, un_neg, Option.bind_some, Option.bind_none, Option.map_some, cnd_true, cnd_false, pickV_true, pickV_false, gd_true, gd_false, gdV_true, gdV_false, gdH_true, gdH_false, gdS_true, gdS_false, wt_ff, wt_tt, wt_ft, wt_tf, wt_undef, obH_some', extractV_tuple, nilCheckV_ptr, againK_normal, againK_exit, againK_ret, blockK_normal, blockK_same, blockK_ret, seqK_normal, seqK_exit, seqK_ret, fin_done, if_true', if_false', Bool.not_true, Bool.not_false, idx0, idx1, idx2, idx3, idx4, chk_nil_l, chk_nil_r, done_nm]
        exact main _ _ _ _ _ _ _ _ _ _ _ _ _ _ _ _ _ _ _ _ _ _ _ _ _ _ _ _ _ _ _ _ _ _ _ _ _ _ _ _ _ _ _ _ _ _ _ _ _ _ _ _ _ _ _ _ _ _ _ _ _ _ _ _ _ _ _ _ _ _ _ _ _ _ _ _ _ _ _ _ _ _ _ _ _ _ _ _ _ _ _ _ _ _ _ _ _ _ _ _ _ _ _ _ _ _ _ _ _ _ _ _ _ _ _ _ _ _ _ _ _ _ _ _ _ _ _ _ _ _ _ _ _ _ _ _ _ _ _ _ _ _ _ _ _ _ _ _ _ _ _ _ _ _ _ _ _ _ _ _ _ _ _ _ _ _ _ _ _ _ _ _ _ _ _
      · have main := plays_act (Q := fun r => ∃ h', r = some (.bool true, h')) (h0 := h0) (i := i) (av := av) hti X (by omega) sb2 (by omega) (fun e => by have := lo0 _ e; omega) ok E2 R2 hpe hpq hne A2 (by omega) hTl i2 _ nxt
        simp -implicitDefEqProofs (disch := omega) only [dcT, dcF, ↓c5_3_eq, ↓c5_4_eq, ↓c5_5_eq, ↓c5_7_eq, ↓c5_8_eq, ↓c5_9_eq, ↓c5_10_eq, ↓c5_11_eq, ↓c5_12_eq, ↓c5_13_eq, ↓c5_14_eq, ln, ea, el', k1, stAct, st, gA2, gA4, ldB, mldInt, X.l2, X.l4, lb, lt, ↓cnd_true, ↓cnd_false, ↓Option.bind_some, ↓obH_some', bin_add, bin_sub, bin_mul, bin_lss, bin_leq, bin_gtr, bin_geq, bin_eql, bin_neq, un_not, un_neg, Option.bind_some, Option.bind_none, Option.map_some, cnd_true, cnd_false, pickV_true, pickV_false, gd_true, gd_false, gdV_true, gdV_false, gdH_true, gdH_false, gdS_true, gdS_false, wt_ff, wt_tt, wt_ft, wt_tf, wt_undef, obH_some', extractV_tuple, nilCheckV_ptr, againK_normal, againK_exit, againK_ret, blockK_normal, blockK_same, blockK_ret, seqK_normal, seqK_exit, seqK_ret, fin_done, if_true', if_false', Bool.not_true, Bool.not_false, idx0, idx1, idx2, idx3, idx4, chk_nil_l, chk_nil_r, done_nm]
        exact main _ _ _ _ _ _ _ _ _ _ _ _ _ _ _ _ _ _ _ _ _ _ _ _ _ _ _ _ _ _ _ _ _ _ _ _ _ _ _ _ _ _ _ _ _ _ _ _ _ _ _ _ _ _ _ _ _ _ _ _ _ _ _ _ _ _ _ _ _ _ _ _ _ _ _ _ _ _ _ _ _ _ _ _ _ _ _ _ _ _ _ _ _ _ _ _ _ _ _ _ _ _ _ _ _ _ _ _ _ _ _ _ _ _ _ _ _ _ _ _ _ _ _ _ _ _ _ _ _ _ _ _ _ _ _ _ _ _ _ _ _ _ _ _ _ _ _ _ _ _ _ _ _ _ _ _ _ _ _ _ _ _ _ _ _ _ _ _ _ _ _ _ _ _ _
    · have main := plays_act (Q := fun r => ∃ h', r = some (.bool true, h')) (h0 := h0) (i := i) (av := av) hti X (by omega) sb2 (by omega) (fun e => by have := lo0 _ e; omega) ok E2 R2 hpe hpq hne A2 (by omega) hTl i2 _ nxt
      simp -implicitDefEqProofs (disch := omega) only [dcT, dcF, ↓c5_3_eq, ↓c5_4_eq, ↓c5_5_eq, ↓c5_7_eq, ↓c5_8_eq, ↓c5_9_eq, ↓c5_10_eq, ↓c5_11_eq, ↓c5_12_eq, ↓c5_13_eq, ↓c5_14_eq, ln, ea, el', k1, stAct, st, gA2, gA4, ldB, mldInt, X.l2, X.l4, lb, ↓cnd_true, ↓cnd_false, ↓Option.bind_some, ↓obH_some', bin_add, bin_sub, bin_mul, bin_lss, bin_leq, bin_gtr, bin_geq, bin_eql, bin_neq, un_not, un_neg, Option.bind_some, Option.bind_none, Option.map_some, cnd_true, cnd_false, pickV_true, pickV_false, gd_true, gd_false, gdV_true, gdV_false, gdH_true, gdH_false, gdS_true, gdS_false, wt_ff, wt_tt, wt_ft, wt_tf, wt_undef, obH_some', extractV_tuple, nilCheckV_ptr, againK_normal, againK_exit, againK_ret, blockK_normal, blockK_same, blockK_ret, seqK_normal, seqK_exit, seqK_ret, fin_done, if_true', if_false', Bool.not_true, Bool.not_false, idx0, idx1, idx2, idx3, idx4, chk_nil_l, chk_nil_r, done_nm]
      exact main _ _ _ _ _ _ _ _ _ _ _ _ _ _ _ _ _ _ _ _ _ _ _ _ _ _ _ _ _ _ _ _ _ _ _ _ _ _ _ _ _ _ _ _ _ _ _ _ _ _ _ _ _ _ _ _ _ _ _ _ _ _ _ _ _ _ _ _ _ _ _ _ _ _ _ _ _ _ _ _ _ _ _ _ _ _ _ _ _ _ _ _ _ _ _ _ _ _ _ _ _ _ _ _ _ _ _ _ _ _ _ _ _ _ _ _ _ _ _ _ _ _ _ _ _ _ _ _ _ _ _ _ _ _ _ _ _ _ _ _ _ _ _ _ _ _ _ _ _ _ _ _ _ _ _ _ _ _ _ _ _ _ _ _ _ _ _ _ _ _ _ _ _ _ _
end Go.Am
namespace Go.Am
open Go.Proofs
set_option maxRecDepth 100000
set_option linter.all false
attribute [local congr] obind_congr obH_congr cnd_congr chk_congr retK_congr codeK_congr
theorem nqE (xo yo : Operand) (p : Nat) : binV Try.prog .neq 40 xo yo (.pointer (some ⟨p, 0, none⟩)) (.pointer none) = some (.bool true) := by kernel_rfl
theorem mlaw_FullPlays (n me : Int) (av : Value) (l : List AT) (h : Heap) (sa : SA h av l) (hto : ∀ a ∈ l, a.to < 2 ^ 64) : ∃ h', evC Try.prog 5 #[.int .i64 n, .int .i64 me, av] h = some (.bool true, h') := by
  rw [call5, c5_0_eq]
  obtain ⟨h1, e1,Ab⟩ := spec_awake17 (nm h)
  have i1 : In h.blks.length No (nm h) h1 := Ab.inn (Nat.le_refl _)
  have l1 : h.blks.length ≤ h1.blks.length := i1.len
  obtain ⟨pe, h2, e2,Ac, r2⟩ := spec_ENew n me h1
  have i2 := i1.trans (Ac.inn l1)
  by_cases cf : 1 ≤ n ∧ n ≤ 16 ∧ 0 ≤ me ∧ me < n
  · simp only [if_pos cf] at e2
    obtain ⟨lp, E⟩ := r2 cf
    have ln := (sa.same i2.same0).len
    by_cases c2 : 40 < l.length
    · simp -implicitDefEqProofs (disch := omega) only [dcT, dcF, e1, e2, eqE, nqE, ln, ne_eq, eq_self, not_true_eq_false, decide_true, decide_false, ↓ret5, ↓cnd_true, ↓cnd_false, ↓Option.bind_some, ↓obH_some', bin_add, bin_sub, bin_mul, bin_lss, bin_leq, bin_gtr, bin_geq, bin_eql, bin_neq, un_not, un_neg, Option.bind_some, Option.bind_none, Option.map_some, cnd_true, cnd_false, pickV_true, pickV_false, gd_true, gd_false, gdV_true, gdV_false, gdH_true, gdH_false, gdS_true, gdS_false, wt_ff, wt_tt, wt_ft, wt_tf, wt_undef, obH_some', extractV_tuple, nilCheckV_ptr, againK_normal, againK_exit, againK_ret, blockK_normal, blockK_same, blockK_ret, seqK_normal, seqK_exit, seqK_ret, fin_done, if_true', if_false', Bool.not_true, Bool.not_false, idx0, idx1, idx2, idx3, idx4, chk_nil_l, chk_nil_r, done_nm]
      exact ⟨_, rfl⟩
    obtain ⟨n, rfl⟩ : ∃ k : Nat, n = k := ⟨n.toNat, by omega⟩
    obtain ⟨me, rfl⟩ : ∃ k : Nat, me = k := ⟨me.toNat, by omega⟩
    obtain ⟨pq, h3, e3,Ad, R, lq⟩ := spec_begun n (by omega) me h2
    have i3 := i2.trans (Ad.inn i2.len)
    have l2 : h.blks.length ≤ h2.blks.length := i2.len
    rw [Int.toNat_natCast] at E
    obtain ⟨cse, ce⟩ := E.cl
    have lte := ce.lt
    have ok : EnOk n me (zerosM (n : Int).toNat) (List.replicate (n : Int).toNat 0) := EnOk.zero cf
    rw [Int.toNat_natCast] at ok
    have E3 : En h.blks.length h3 pe n me (zerosM n) (List.replicate n 0) := let ⟨_, _, x⟩ := E.ext Ad; ⟨_, _, ⟨x.c, x.am.up l1, x.au.up l1⟩⟩
    have main := plays_loop sa hto (by omega) (by omega) (by omega) (by omega) l.length 0 h3 (.slice none 0 0) [] _ _ (by omega) ok E3 (R.up l2) ⟨[], .nil, .nil⟩ (by simp) (by simp) i3
    rw [show ((0 : Nat) : Int) = 0 from rfl] at main
    simp -implicitDefEqProofs (disch := omega) only [dcT, dcF, e1, e2, eqE, ln, e3, ne_eq, eq_self, not_true_eq_false, decide_true, decide_false, ↓cnd_true, ↓cnd_false, ↓Option.bind_some, ↓obH_some', bin_add, bin_sub, bin_mul, bin_lss, bin_leq, bin_gtr, bin_geq, bin_eql, bin_neq, un_not, un_neg, Option.bind_some, Option.bind_none, Option.map_some, cnd_true, cnd_false, pickV_true, pickV_false, gd_true, gd_false, gdV_true, gdV_false, gdH_true, gdH_false, gdS_true, gdS_false, wt_ff, wt_tt, wt_ft, wt_tf, wt_undef, obH_some', extractV_tuple, nilCheckV_ptr, againK_normal, againK_exit, againK_ret, blockK_normal, blockK_same, blockK_ret, seqK_normal, seqK_exit, seqK_ret, fin_done, if_true', if_false', Bool.not_true, Bool.not_false, idx0, idx1, idx2, idx3, idx4, chk_nil_l, chk_nil_r, done_nm]
    exact main _ _ _ _ _ _ _ _ _ _ _ _ _ _ _ _ _ _ _ _ _ _ _ _ _ _ _ _ _ _ _ _ _ _ _ _ _ _ _ _ _ _ _ _ _ _ _ _ _ _ _ _ _ _ _ _ _ _ _ _ _ _ _ _ _ _ _ _ _ _ _ _ _ _ _ _ _ _ _ _ _ _ _ _ _ _ _ _ _ _ _ _ _ _ _ _ _ _ _ _ _ _ _ _ _ _ _ _ _ _ _ _ _ _ _ _ _ _ _ _ _ _ _ _ _ _ _ _ _ _ _ _ _ _ _ _ _ _ _ _ _ _ _ _ _ _ _ _ _ _ _ _ _ _ _ _ _ _ _ _ _ _ _ _ _ _ _ _ _ _ _ _ _ _ _ _ _
  · simp only [if_neg cf] at e2
    by_cases c1 : n < 1
    · simp -implicitDefEqProofs (disch := omega) only [dcT, dcF, e1, e2, eqE0, eq_self, decide_true, ↓ret5, ↓cnd_true, ↓cnd_false, ↓Option.bind_some, ↓obH_some', bin_add, bin_sub, bin_mul, bin_lss, bin_leq, bin_gtr, bin_geq, bin_eql, bin_neq, un_not, un_neg, Option.bind_some, Option.bind_none, Option.map_some, cnd_true, cnd_false, pickV_true, pickV_false, gd_true, gd_false, gdV_true, gdV_false, gdH_true, gdH_false, gdS_true, gdS_false, wt_ff, wt_tt, wt_ft, wt_tf, wt_undef, obH_some', extractV_tuple, nilCheckV_ptr, againK_normal, againK_exit, againK_ret, blockK_normal, blockK_same, blockK_ret, seqK_normal, seqK_exit, seqK_ret, fin_done, if_true', if_false', Bool.not_true, Bool.not_false, idx0, idx1, idx2, idx3, idx4, chk_nil_l, chk_nil_r, done_nm]
      exact ⟨_, rfl⟩
    by_cases c2 : 16 < n
    · simp -implicitDefEqProofs (disch := omega) only [dcT, dcF, e1, e2, eqE0, eq_self, decide_true, ↓ret5, ↓cnd_true, ↓cnd_false, ↓Option.bind_some, ↓obH_some', bin_add, bin_sub, bin_mul, bin_lss, bin_leq, bin_gtr, bin_geq, bin_eql, bin_neq, un_not, un_neg, Option.bind_some, Option.bind_none, Option.map_some, cnd_true, cnd_false, pickV_true, pickV_false, gd_true, gd_false, gdV_true, gdV_false, gdH_true, gdH_false, gdS_true, gdS_false, wt_ff, wt_tt, wt_ft, wt_tf, wt_undef, obH_some', extractV_tuple, nilCheckV_ptr, againK_normal, againK_exit, againK_ret, blockK_normal, blockK_same, blockK_ret, seqK_normal, seqK_exit, seqK_ret, fin_done, if_true', if_false', Bool.not_true, Bool.not_false, idx0, idx1, idx2, idx3, idx4, chk_nil_l, chk_nil_r, done_nm]
      exact ⟨_, rfl⟩
    by_cases c3 : me < 0
    · simp -implicitDefEqProofs (disch := omega) only [dcT, dcF, e1, e2, eqE0, eq_self, decide_true, ↓ret5, ↓cnd_true, ↓cnd_false, ↓Option.bind_some, ↓obH_some', bin_add, bin_sub, bin_mul, bin_lss, bin_leq, bin_gtr, bin_geq, bin_eql, bin_neq, un_not, un_neg, Option.bind_some, Option.bind_none, Option.map_some, cnd_true, cnd_false, pickV_true, pickV_false, gd_true, gd_false, gdV_true, gdV_false, gdH_true, gdH_false, gdS_true, gdS_false, wt_ff, wt_tt, wt_ft, wt_tf, wt_undef, obH_some', extractV_tuple, nilCheckV_ptr, againK_normal, againK_exit, againK_ret, blockK_normal, blockK_same, blockK_ret, seqK_normal, seqK_exit, seqK_ret, fin_done, if_true', if_false', Bool.not_true, Bool.not_false, idx0, idx1, idx2, idx3, idx4, chk_nil_l, chk_nil_r, done_nm]
      exact ⟨_, rfl⟩
    have c4 : n ≤ me := by omega
    simp -implicitDefEqProofs (disch := omega) only [dcT, dcF, e1, e2, eqE0, eq_self, decide_true, ↓ret5, ↓cnd_true, ↓cnd_false, ↓Option.bind_some, ↓obH_some', bin_add, bin_sub, bin_mul, bin_lss, bin_leq, bin_gtr, bin_geq, bin_eql, bin_neq, un_not, un_neg, Option.bind_some, Option.bind_none, Option.map_some, cnd_true, cnd_false, pickV_true, pickV_false, gd_true, gd_false, gdV_true, gdV_false, gdH_true, gdH_false, gdS_true, gdS_false, wt_ff, wt_tt, wt_ft, wt_tf, wt_undef, obH_some', extractV_tuple, nilCheckV_ptr, againK_normal, againK_exit, againK_ret, blockK_normal, blockK_same, blockK_ret, seqK_normal, seqK_exit, seqK_ret, fin_done, if_true', if_false', Bool.not_true, Bool.not_false, idx0, idx1, idx2, idx3, idx4, chk_nil_l, chk_nil_r, done_nm]
    exact ⟨_, rfl⟩
theorem law_FullPlays (h : Heap) (vs : List Value) (dd : List DT) (r : RdAll Try.prog h [3, 3, 57] vs dd) : ∃ h', evC Try.prog 5 vs.toArray h = some (.bool true, h') := by
  obtain ⟨v, d, vs', ds', rfl, rfl, r0, r⟩ := r.cons_inv
  obtain ⟨v1, d1, vs', ds', rfl, rfl, ra, r⟩ := r.cons_inv
  obtain ⟨v2, d2, vs', ds', rfl, rfl, rb, r⟩ := r.cons_inv
  obtain ⟨rfl, rfl⟩ := r.nil_inv
  obtain ⟨n, rfl, _⟩ := r0.i64 (by kernel_rfl)
  obtain ⟨me, rfl, _⟩ := ra.i64 (by kernel_rfl)
  obtain ⟨l, sa, hto⟩ := rb.acts
  exact mlaw_FullPlays n me _ l h sa hto
end Go.Am
