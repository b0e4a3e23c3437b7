/- What the functions answer, in the machine. -/
import Derived.Test.YtjabdgplgjhieaaKD
set_option linter.all false
namespace Go.Am
open Go.Proofs
set_option maxRecDepth 100000
set_option linter.all false
attribute [local congr] obind_congr obH_congr cnd_congr chk_congr retK_congr codeK_congr
theorem joinM_len (a b : List (List Nat)) : (joinM a b).length = a.length := by simp [joinM]
theorem joinM_get (a b : List (List Nat)) (k : Nat) (hk : k < a.length) : (joinM a b).getD k [] = joinV (a.getD k []) (b.getD k []) := by
  rw [List.getD_eq_getElem?_getD, List.getElem?_eq_getElem (by rw [joinM_len]; exact hk)]; simp [joinM]
theorem goodM_getD {n : Int} {m : List (List Nat)} (hl : 1 ≤ n ∧ n ≤ 16 ∧ (m.length : Int) = n) (h : ∀ k, k < m.length → ((m.getD k []).length : Int) = n) : goodM n m = true := by
  rw [goodM_iff]
  refine ⟨hl, fun r hr => ?_⟩
  obtain ⟨k, hk, rfl⟩ := List.getElem_of_mem hr
  have := h k hk
  rwa [List.getD_eq_getElem?_getD, List.getElem?_eq_getElem hk] at this
theorem goodM_join {n : Int} {a b : List (List Nat)} (ga : goodM n a = true) (gb : goodM n b = true) : goodM n (joinM a b) = true := by
  have ha := ((goodM_iff n a).1 ga).1
  have hb := ((goodM_iff n b).1 gb).1
  refine goodM_getD ⟨ha.1, ha.2.1, by rw [joinM_len]; exact ha.2.2⟩ fun k hk => ?_
  rw [joinM_len] at hk
  rw [joinM_get a b k hk, joinV_len]
  have h1 := goodM_rows ga hk
  have h2 := goodM_rows gb (i := k) (by omega)
  omega
theorem joinM_comm {n : Int} {a b : List (List Nat)} (ga : goodM n a = true) (gb : goodM n b = true) : joinM a b = joinM b a := by
  have ha := ((goodM_iff n a).1 ga).1
  have hb := ((goodM_iff n b).1 gb).1
  refine llist_ext _ _ (by rw [joinM_len, joinM_len]; omega) fun j hj => ?_
  rw [joinM_len] at hj
  rw [joinM_get a b j hj, joinM_get b a j (by omega), joinV_comm]
theorem joinM_again {n : Int} {a b : List (List Nat)} (ga : goodM n a = true) (gb : goodM n b = true) : joinM (joinM a b) a = joinM a b := by
  refine llist_ext _ _ (by rw [joinM_len]) fun j hj => ?_
  rw [joinM_len] at hj
  rw [joinM_get _ _ j hj]
  rw [joinM_len] at hj
  rw [joinM_get a b j hj, joinV_again]
theorem joinV_ge (a b : List Nat) (j : Nat) : a.getD j 0 ≤ (joinV a b).getD j 0 := by
  by_cases h : j < max a.length b.length
  · have : (joinV a b).getD j 0 = max (a.getD j 0) (b.getD j 0) := by
      rw [List.getD_eq_getElem?_getD, List.getElem?_eq_getElem (by rw [joinV_len]; exact h)]; simp [joinV]
    omega
  · have : a.getD j 0 = 0 := by rw [List.getD_eq_getElem?_getD, List.getElem?_eq_none (by omega)]; rfl
    omega
theorem wiM_of {a b : List (List Nat)} : ∀ (m i : Nat), (∀ k, i ≤ k → k < i + m → wi1 a b k = true) → wiM a b i m = true
  | 0, i, h => rfl
  | m + 1, i, h => by rw [wiM_succ, h i (by omega) (by omega), wiM_of m (i + 1) fun k h1 h2 => h k (by omega) (by omega)]; rfl
theorem within_join {n : Int} {a b : List (List Nat)} (ga : goodM n a = true) (gb : goodM n b = true) : withinM n n a (joinM a b) = true := by
  unfold withinM okJ
  rw [ga, goodM_join ga gb, decide_eq_true rfl, wiM_of]
  · rfl
  · intro k _ hk
    unfold wi1
    rw [joinM_get a b k (by omega)]
    exact decide_eq_true (cmpV_le fun j => joinV_ge _ _ j)
theorem okJ_of {n : Int} {a b : List (List Nat)} (ga : goodM n a = true) (gb : goodM n b = true) : okJ n n a b = true := by unfold okJ; rw [ga, gb, decide_eq_true rfl]; rfl
theorem Small.good {n : Int} {m : List (List Nat)} (g : goodM n m = true) : Small m := by
  have h := (goodM_iff n m).1 g
  exact Small.of (by omega) fun r hr => by have := h.2 r hr; omega
theorem mlaw_MatJoins (n : Int) (va vb : Value) (a b : List (List Nat)) (h : Heap) (sa : SM h va a) (sb : SM h vb b) : ∃ h', evC Try.prog 9 #[.int .i64 n, va, vb] h = some (.bool true, h') := by
  rw [call9]
  obtain ⟨h1, e1, x1⟩ := spec_awake16 (nm h)
  have sa1 := sa.nm.ext x1
  have sb1 := sb.nm.ext x1
  have ha := spec_heavy sa1
  have hb := spec_heavy sb1
  have g1 := spec_GoodMat (n := n) sa1
  have g2 := spec_GoodMat (n := n) sb1
  by_cases c1 : heavyB a = true
  · rw [c1] at ha
    simp -implicitDefEqProofs (disch := omega) only [↓c9_0_eq, ↓c9_1_eq, ↓c9_2_eq, ↓c9_3_eq, ↓c9_4_eq, ↓c9_5_eq, e1, ha, ↓ret9, bin_add, bin_sub, bin_mul, bin_lss, bin_leq, bin_gtr, bin_geq, bin_eql, bin_neq, un_not, un_neg, Option.bind_some, Option.bind_none, Option.map_some, cnd_true, cnd_false, pickV_true, pickV_false, gd_true, gd_false, gdV_true, gdV_false, gdH_true, gdH_false, gdS_true, gdS_false, wt_ff, wt_tt, wt_ft, wt_tf, wt_undef, obH_some', extractV_tuple, nilCheckV_ptr, againK_normal, againK_exit, againK_ret, blockK_normal, blockK_same, blockK_ret, seqK_normal, seqK_exit, seqK_ret, fin_done, if_true', if_false', Bool.not_true, Bool.not_false, idx0, idx1, idx2, idx3, idx4, chk_nil_l, chk_nil_r, done_nm]
    exact ⟨_, rfl⟩
  have c1' : heavyB a = false := by simpa using c1
  rw [c1'] at ha
  by_cases c2 : heavyB b = true
  · rw [c2] at hb
    simp -implicitDefEqProofs (disch := omega) only [↓c9_0_eq, ↓c9_1_eq, ↓c9_2_eq, ↓c9_3_eq, ↓c9_4_eq, ↓c9_5_eq, e1, ha, hb, ↓ret9, bin_add, bin_sub, bin_mul, bin_lss, bin_leq, bin_gtr, bin_geq, bin_eql, bin_neq, un_not, un_neg, Option.bind_some, Option.bind_none, Option.map_some, cnd_true, cnd_false, pickV_true, pickV_false, gd_true, gd_false, gdV_true, gdV_false, gdH_true, gdH_false, gdS_true, gdS_false, wt_ff, wt_tt, wt_ft, wt_tf, wt_undef, obH_some', extractV_tuple, nilCheckV_ptr, againK_normal, againK_exit, againK_ret, blockK_normal, blockK_same, blockK_ret, seqK_normal, seqK_exit, seqK_ret, fin_done, if_true', if_false', Bool.not_true, Bool.not_false, idx0, idx1, idx2, idx3, idx4, chk_nil_l, chk_nil_r, done_nm]
    exact ⟨_, rfl⟩
  have c2' : heavyB b = false := by simpa using c2
  rw [c2'] at hb
  by_cases c3 : goodM n a = true
  rotate_left
  · have c3' : goodM n a = false := by simpa using c3
    rw [c3'] at g1
    simp -implicitDefEqProofs (disch := omega) only [↓c9_0_eq, ↓c9_1_eq, ↓c9_2_eq, ↓c9_3_eq, ↓c9_4_eq, ↓c9_5_eq, e1, ha, hb, g1, ↓ret9, bin_add, bin_sub, bin_mul, bin_lss, bin_leq, bin_gtr, bin_geq, bin_eql, bin_neq, un_not, un_neg, Option.bind_some, Option.bind_none, Option.map_some, cnd_true, cnd_false, pickV_true, pickV_false, gd_true, gd_false, gdV_true, gdV_false, gdH_true, gdH_false, gdS_true, gdS_false, wt_ff, wt_tt, wt_ft, wt_tf, wt_undef, obH_some', extractV_tuple, nilCheckV_ptr, againK_normal, againK_exit, againK_ret, blockK_normal, blockK_same, blockK_ret, seqK_normal, seqK_exit, seqK_ret, fin_done, if_true', if_false', Bool.not_true, Bool.not_false, idx0, idx1, idx2, idx3, idx4, chk_nil_l, chk_nil_r, done_nm]
    exact ⟨_, rfl⟩
  rw [c3] at g1
  by_cases c4 : goodM n b = true
  rotate_left
  · have c4' : goodM n b = false := by simpa using c4
    rw [c4'] at g2
    simp -implicitDefEqProofs (disch := omega) only [↓c9_0_eq, ↓c9_1_eq, ↓c9_2_eq, ↓c9_3_eq, ↓c9_4_eq, ↓c9_5_eq, e1, ha, hb, g1, g2, ↓ret9, bin_add, bin_sub, bin_mul, bin_lss, bin_leq, bin_gtr, bin_geq, bin_eql, bin_neq, un_not, un_neg, Option.bind_some, Option.bind_none, Option.map_some, cnd_true, cnd_false, pickV_true, pickV_false, gd_true, gd_false, gdV_true, gdV_false, gdH_true, gdH_false, gdS_true, gdS_false, wt_ff, wt_tt, wt_ft, wt_tf, wt_undef, obH_some', extractV_tuple, nilCheckV_ptr, againK_normal, againK_exit, againK_ret, blockK_normal, blockK_same, blockK_ret, seqK_normal, seqK_exit, seqK_ret, fin_done, if_true', if_false', Bool.not_true, Bool.not_false, idx0, idx1, idx2, idx3, idx4, chk_nil_l, chk_nil_r, done_nm]
    exact ⟨_, rfl⟩
  rw [c4] at g2
  have sma := Small.good c3
  have smb := Small.good c4
  have smc := Small.good (goodM_join c3 c4)
  obtain ⟨x, h2, e2, x2, sx2⟩ := spec_mat1 n sa1 sma.1
  obtain ⟨y, h3, e3, x3, sy3⟩ := spec_mat1 n (sb1.ext x2) smb.1
  obtain ⟨xa, xc, rfl⟩ := sx2.shape
  obtain ⟨ya, yc, rfl⟩ := sy3.shape
  have sx3 := sx2.ext x3
  -- the two variables
  have k4 := alM h3
  have c4x := Cells.new h3 45 [.int .i64 0, .slice none 0 0]
  have t4 := Same.new h3 (.cells [.int .i64 0, .slice none 0 0]) 45
  have l4 : (h3.new (.cells [.int .i64 0, .slice none 0 0]) 45).blks.length = h3.blks.length + 1 := by simp [Heap.new]
  generalize h3.new (.cells [.int .i64 0, .slice none 0 0]) 45 = h4 at *
  have k5 := alM h4
  have c5y := Cells.new h4 45 [.int .i64 0, .slice none 0 0]
  have c5x := c4x.keepNew (.cells [.int .i64 0, .slice none 0 0]) 45
  have t5 := t4.trans (Same.new h4 (.cells [.int .i64 0, .slice none 0 0]) 45)
  generalize h4.new (.cells [.int .i64 0, .slice none 0 0]) 45 = h5 at *
  have st6 := storeN_blk c5x (o := 0) (vs := [.int .i64 n, .slice xa a.length xc]) (by simp)
  rw [w2_put] at st6
  have c6x := c5x.put [.int .i64 n, .slice xa a.length xc]
  have c6y := c5y.keepPut (q := h3.blks.length) (by omega) (.cells [.int .i64 n, .slice xa a.length xc])
  have t6 := t5.put (p := h3.blks.length) (Nat.le_refl _) (.cells [.int .i64 n, .slice xa a.length xc])
  generalize h5.put h3.blks.length (.cells [.int .i64 n, .slice xa a.length xc]) = h6 at *
  have st7 := storeN_blk c6y (o := 0) (vs := [.int .i64 n, .slice ya b.length yc]) (by simp)
  rw [w2_put] at st7
  have c7x := c6x.keepPut (q := h4.blks.length) (by omega) (.cells [.int .i64 n, .slice ya b.length yc])
  have c7y := c6y.put [.int .i64 n, .slice ya b.length yc]
  have t7 := t6.put (p := h4.blks.length) (by omega) (.cells [.int .i64 n, .slice ya b.length yc])
  generalize h6.put h4.blks.length (.cells [.int .i64 n, .slice ya b.length yc]) = h7 at *
  have sx := sx3.same t7
  have sy := sy3.same t7
  -- both ways
  obtain ⟨vc, h8, e8, x8, a8⟩ := spec_MJoin (n := n) (n2 := n) sx sy sma smb
  rw [if_pos (okJ_of c3 c4), if_pos (okJ_of c3 c4)] at e8
  rw [if_pos (okJ_of c3 c4)] at a8
  obtain ⟨ca, cc, rfl⟩ := a8.shape
  have k9 := alM h8
  have k9' := mvar (h := h8) n ca (joinM a b).length cc
  have c9 := mvar_cells h8 [.int .i64 0, .slice none 0 0] [.int .i64 n, .slice ca (joinM a b).length cc] 45
  have t9 := mvar_same h8 (.cells [.int .i64 0, .slice none 0 0]) (.cells [.int .i64 n, .slice ca (joinM a b).length cc]) 45
  generalize (h8.new (.cells [.int .i64 0, .slice none 0 0]) 45).put h8.blks.length (.cells [.int .i64 n, .slice ca (joinM a b).length cc]) = h9 at *
  have T9 := x8.same.trans t9
  have sc := a8.smV.same t9
  obtain ⟨vd, h10, e10, x10, a10⟩ := spec_MJoin (n := n) (n2 := n) (sy.same T9) (sx.same T9) smb sma
  rw [if_pos (okJ_of c4 c3), if_pos (okJ_of c4 c3)] at e10
  rw [if_pos (okJ_of c4 c3), ← joinM_comm c3 c4] at a10
  obtain ⟨da, dc, rfl⟩ := a10.shape
  have k11 := alM h10
  have k11' := mvar (h := h10) n da (joinM a b).length dc
  have c11 := mvar_cells h10 [.int .i64 0, .slice none 0 0] [.int .i64 n, .slice da (joinM a b).length dc] 45
  have t11 := mvar_same h10 (.cells [.int .i64 0, .slice none 0 0]) (.cells [.int .i64 n, .slice da (joinM a b).length dc]) 45
  generalize (h10.new (.cells [.int .i64 0, .slice none 0 0]) 45).put h10.blks.length (.cells [.int .i64 n, .slice da (joinM a b).length dc]) = h11 at *
  have T11 := x10.same.trans t11
  have sd := a10.smV.same t11
  obtain ⟨vg, h12, e12, x12, a12⟩ := spec_MJoin (n := n) (n2 := n) (sc.same T11) ((sx.same T9).same T11) smc sma
  rw [if_pos (okJ_of (goodM_join c3 c4) c3), if_pos (okJ_of (goodM_join c3 c4) c3)] at e12
  rw [if_pos (okJ_of (goodM_join c3 c4) c3), joinM_again c3 c4] at a12
  obtain ⟨ga, gc, rfl⟩ := a12.shape
  have k13 := alM h12
  have k13' := mvar (h := h12) n ga (joinM a b).length gc
  have c13 := mvar_cells h12 [.int .i64 0, .slice none 0 0] [.int .i64 n, .slice ga (joinM a b).length gc] 45
  have t13 := mvar_same h12 (.cells [.int .i64 0, .slice none 0 0]) (.cells [.int .i64 n, .slice ga (joinM a b).length gc]) 45
  generalize (h12.new (.cells [.int .i64 0, .slice none 0 0]) 45).put h12.blks.length (.cells [.int .i64 n, .slice ga (joinM a b).length gc]) = h13 at *
  have T13 := x12.same.trans t13
  have sg := a12.smV.same t13
  have X := ((sx.same T9).same T11).same T13
  have Y := ((sy.same T9).same T11).same T13
  have C := (sc.same T11).same T13
  have D := sd.same T13
  have CX := ((c7x.same T9).same T11).same T13
  have CY := ((c7y.same T9).same T11).same T13
  have CC := (c9.same T11).same T13
  have CD := c11.same T13
  obtain ⟨h14, e14, x14⟩ := spec_MWithin (n := n) (n2 := n) X C sma smc
  rw [within_join c3 c4] at e14
  obtain ⟨h15, e15, x15⟩ := spec_MWithin (n := n) (n2 := n) (Y.ext x14) (C.ext x14) smb smc
  rw [joinM_comm c3 c4, within_join c4 c3, ← joinM_comm c3 c4] at e15
  obtain ⟨r1, h16, e16, x16, s16⟩ := spec_rowsM (n := n) ((C.ext x14).ext x15).nm smc.1
  obtain ⟨x16', m16⟩ := x16.amx
  have s16' : SM (Am.am h16 h15) r1 (joinM a b) := s16.kp fun _ _ => rfl
  obtain ⟨r2, h17, e17, x17, s17⟩ := spec_rowsM (n := n) (((D.ext x14).ext x15).ext x16') smc.1
  have e18 := spec_squares (s16'.ext x17) s17 smc smc
  rw [decide_eq_true rfl] at e18
  obtain ⟨r3, h19, e19, x19, s19⟩ := spec_rowsM (n := n) (((((sg.ext x14).ext x15).ext x16').ext x17)).nm smc.1
  obtain ⟨x19', m19⟩ := x19.amx
  have s19' : SM (Am.am h19 h17) r3 (joinM a b) := s19.kp fun _ _ => rfl
  obtain ⟨r4, h20, e20, x20, s20⟩ := spec_rowsM (n := n) (((((C.ext x14).ext x15).ext x16').ext x17).ext x19') smc.1
  have e21 := spec_squares (s19'.ext x20) s20 smc smc
  rw [decide_eq_true rfl] at e21
  simp -implicitDefEqProofs (disch := omega) only [↓c9_0_eq, ↓c9_1_eq, ↓c9_2_eq, ↓c9_3_eq, ↓c9_4_eq, ↓c9_5_eq, ↓c9_6_eq, ↓c9_7_eq, ↓c9_8_eq, ↓c9_9_eq, ↓c9_10_eq, ↓c9_11_eq, ↓c9_12_eq, ↓c9_13_eq, ↓c9_14_eq, ↓c9_15_eq, ↓c9_16_eq, ↓d9_0_0, ↓d9_0_1, ↓d9_0_2, ↓d9_0_3, ↓d9_0_4, ↓d9_0_5, ↓d9_0_6, ↓d9_0_7, ↓d9_0_8, ↓d9_0_9, ↓d9_0_10, ↓d9_0_11, ↓d9_0_12, ↓d9_0_13, ↓d9_0_14, ↓d9_0_15, ↓d9_0_16, ↓d9_0_17, ↓d9_0_18, ↓d9_0_19, ↓d9_0_20, ↓d9_0_21, ↓d9_0_22, ↓d9_0_23, ↓d9_0_24, ↓d9_0_25, ↓d9_0_26, ↓d9_0_27, ↓d9_0_28, ↓d9_0_29, ↓d9_0_30, ↓d9_0_31, ↓d9_0_32, ↓d9_0_33, ↓d9_0_34, ↓d9_0_35, e1, ha, hb, g1, g2, e2, e3, k4, k5, stM, st6, st7, ldM' c7x, ldM' c7y, e8, k9, k9', ldM' (c7x.same T9), ldM' (c7y.same T9), e10, k11, k11', ldM' (c9.same T11), ldM' ((c7x.same T9).same T11), e12, k13, k13', ldM' CX, ldM' CY, ldM' CC, ldM' CD, ldM' c13, e14, ldM' (CY.ext x14), ldM' (CC.ext x14), e15,
    ldM' ((CC.ext x14).ext x15), ldM' (((CD.ext x14).ext x15).ext x16'), e16, m16, e17, e18, ldM' ((((c13.ext x14).ext x15).ext x16').ext x17), e19, m19, ldM' (((((CC.ext x14).ext x15).ext x16').ext x17).ext x19'), ldM' ((CC.ext x14).ext x15), e20, e21, eq_self, decide_true, List.nil_append, List.append_nil, ↓ret9, bin_add, bin_sub, bin_mul, bin_lss, bin_leq, bin_gtr, bin_geq, bin_eql, bin_neq, un_not, un_neg, Option.bind_some, Option.bind_none, Option.map_some, cnd_true, cnd_false, pickV_true, pickV_false, gd_true, gd_false, gdV_true, gdV_false, gdH_true, gdH_false, gdS_true, gdS_false, wt_ff, wt_tt, wt_ft, wt_tf, wt_undef, obH_some', extractV_tuple, nilCheckV_ptr, againK_normal, againK_exit, againK_ret, blockK_normal, blockK_same, blockK_ret, seqK_normal, seqK_exit, seqK_ret, fin_done, if_true', if_false', Bool.not_true, Bool.not_false, idx0, idx1, idx2, idx3, idx4, chk_nil_l, chk_nil_r, done_nm]
  exact ⟨_, rfl⟩
theorem reads_u64s {h : Heap} {e : TypeId} (hu : Try.prog.underlying e = some (.slice 29)) {f : Nat} {cs : List Value} {d : DT} (x : Reads Try.prog h f e cs d) : ∃ v bs, cs = [v] ∧ SU h v bs ∧ (∀ b ∈ bs, b < 2 ^ 64) := by
  obtain ⟨g, l, v, css, rfl, rfl, h1, h2, h3⟩ := reads_slice hu x
  obtain ⟨zs, a, b, c⟩ := reads_ints (k := .u64) (by kernel_rfl) h2
  obtain ⟨bs, a', b', c'⟩ := ints_u64 zs c
  rw [show Try.prog.cellsOf 29 = 1 by kernel_rfl, b, ← a, b', ← a'] at h1
  exact ⟨v, bs, rfl, h1, c'⟩
theorem rows_of {h : Heap} {f : Nat} : ∀ {css : List (List Value)} {l : List DT}, All2 (fun c d => c.length = Try.prog.cellsOf 22 ∧ Reads Try.prog h f 22 c d) css l → ∃ (vs : List Value) (m : List (List Nat)), css.flatten = vs ∧ m.length = l.length ∧ All2 (SU h) vs m ∧ ∀ r ∈ m, ∀ y ∈ r, y < 2 ^ 64
  | _, _, .nil => ⟨[], [], rfl, rfl, .nil, by simp⟩
  | _, _, .cons x q => by
    obtain ⟨vs, m, e, hl, a, b⟩ := rows_of q
    obtain ⟨v, bs, rfl, s, hb⟩ := reads_u64s (by kernel_rfl) x.2
    refine ⟨v :: vs, bs :: m, by simp [e], by simp [hl], .cons s a, fun r hr => ?_⟩
    rcases List.mem_cons.1 hr with rfl | hr
    · exact hb
    · exact b r hr
theorem Rd.rowsU {h : Heap} {v : Value} {d : DT} (r : Rd Try.prog h 56 v d) : ∃ m : List (List Nat), SM h v m ∧ ∀ r ∈ m, ∀ y ∈ r, y < 2 ^ 64 := by
  obtain ⟨f, l, css, rfl, h1, h2, h3⟩ := r.slice (e := 22) (by kernel_rfl)
  obtain ⟨vs, m, e, hl, a, b⟩ := rows_of h2
  rw [show Try.prog.cellsOf 22 = 1 by kernel_rfl, e, ← hl] at h1
  exact ⟨m, ⟨vs, h1, a⟩, b⟩
theorem law_MatJoins (h : Heap) (vs : List Value) (dd : List DT) (r : RdAll Try.prog h [3, 56, 56] vs dd) : ∃ h', evC Try.prog 9 vs.toArray h = some (.bool true, h') := by
  obtain ⟨v, d, vs', ds', rfl, rfl, r0, r1⟩ := r.cons_inv
  obtain ⟨v1, d1, vs', ds', rfl, rfl, ra, r2⟩ := r1.cons_inv
  obtain ⟨v2, d2, vs', ds', rfl, rfl, rb, r3⟩ := r2.cons_inv
  obtain ⟨rfl, rfl⟩ := r3.nil_inv
  obtain ⟨n, rfl, _⟩ := r0.i64 (by kernel_rfl)
  obtain ⟨a, sa, _⟩ := ra.rowsU
  obtain ⟨b, sb, _⟩ := rb.rowsU
  exact mlaw_MatJoins n _ _ a b h sa sb
end Go.Am
