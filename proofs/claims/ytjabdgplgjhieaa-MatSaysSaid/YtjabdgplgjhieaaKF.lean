/- What the functions answer, in the machine. -/
import Derived.Test.YtjabdgplgjhieaaKE
set_option linter.all false
namespace Go.Am
open Go.Proofs
set_option maxRecDepth 100000
set_option linter.all false
attribute [local congr] obind_congr obH_congr cnd_congr chk_congr retK_congr codeK_congr
theorem joinM_len (a b : List (List Nat)) : (joinM a b).length = a.length := by simp [joinM]
theorem joinM_get (a b : List (List Nat)) (k : Nat) (hk : k < a.length) : (joinM a b).getD k [] = joinV (a.getD k []) (b.getD k []) := by
  rw [List.getD_eq_getElem?_getD, List.getElem?_eq_getElem (by rw [joinM_len]; exact hk)]; simp [joinM]
theorem goodM_getD {n : Int} {m : List (List Nat)} (hl : 1 ≤ n ∧ n ≤ 16 ∧ (m.length : Int) = n) (h : ∀ k, k < m.length → ((m.getD k []).length : Int) = n) : goodM n m = true := by
  rw [goodM_iff]
  refine ⟨hl, fun r hr => ?_⟩
  obtain ⟨k, hk, rfl⟩ := List.getElem_of_mem hr
  have := h k hk
  rwa [List.getD_eq_getElem?_getD, List.getElem?_eq_getElem hk] at this
theorem goodM_join {n : Int} {a b : List (List Nat)} (ga : goodM n a = true) (gb : goodM n b = true) : goodM n (joinM a b) = true := by
  have ha := ((goodM_iff n a).1 ga).1
  have hb := ((goodM_iff n b).1 gb).1
  refine goodM_getD ⟨ha.1, ha.2.1, by rw [joinM_len]; exact ha.2.2⟩ fun k hk => ?_
  rw [joinM_len] at hk
  rw [joinM_get a b k hk, joinV_len]
  have h1 := goodM_rows ga hk
  have h2 := goodM_rows gb (i := k) (by omega)
  omega
theorem joinM_comm {n : Int} {a b : List (List Nat)} (ga : goodM n a = true) (gb : goodM n b = true) : joinM a b = joinM b a := by
  have ha := ((goodM_iff n a).1 ga).1
  have hb := ((goodM_iff n b).1 gb).1
  refine llist_ext _ _ (by rw [joinM_len, joinM_len]; omega) fun j hj => ?_
  rw [joinM_len] at hj
  rw [joinM_get a b j hj, joinM_get b a j (by omega), joinV_comm]
theorem joinM_again {n : Int} {a b : List (List Nat)} (ga : goodM n a = true) (gb : goodM n b = true) : joinM (joinM a b) a = joinM a b := by
  refine llist_ext _ _ (by rw [joinM_len]) fun j hj => ?_
  rw [joinM_len] at hj
  rw [joinM_get _ _ j hj]
  rw [joinM_len] at hj
  rw [joinM_get a b j hj, joinV_again]
theorem joinV_ge (a b : List Nat) (j : Nat) : a.getD j 0 ≤ (joinV a b).getD j 0 := by
  by_cases h : j < max a.length b.length
  · have : (joinV a b).getD j 0 = max (a.getD j 0) (b.getD j 0) := by
      rw [List.getD_eq_getElem?_getD, List.getElem?_eq_getElem (by rw [joinV_len]; exact h)]; simp [joinV]
    omega
  · have : a.getD j 0 = 0 := by rw [List.getD_eq_getElem?_getD, List.getElem?_eq_none (by omega)]; rfl
    omega
theorem wiM_of {a b : List (List Nat)} : ∀ (m i : Nat), (∀ k, i ≤ k → k < i + m → wi1 a b k = true) → wiM a b i m = true
  | 0, i, h => rfl
  | m + 1, i, h => by rw [wiM_succ, h i (by omega) (by omega), wiM_of m (i + 1) fun k h1 h2 => h k (by omega) (by omega)]; rfl
theorem within_join {n : Int} {a b : List (List Nat)} (ga : goodM n a = true) (gb : goodM n b = true) : withinM n n a (joinM a b) = true := by
  unfold withinM okJ
  rw [ga, goodM_join ga gb, decide_eq_true rfl, wiM_of]
  · rfl
  · intro k _ hk
    unfold wi1
    rw [joinM_get a b k (by omega)]
    exact decide_eq_true (cmpV_le fun j => joinV_ge _ _ j)
theorem okJ_of {n : Int} {a b : List (List Nat)} (ga : goodM n a = true) (gb : goodM n b = true) : okJ n n a b = true := by unfold okJ; rw [ga, gb, decide_eq_true rfl]; rfl
theorem Small.good {n : Int} {m : List (List Nat)} (g : goodM n m = true) : Small m := by
  have h := (goodM_iff n m).1 g
  exact Small.of (by omega) fun r hr => by have := h.2 r hr; omega
theorem mlaw_MatJoins (n : Int) (va vb : Value) (a b : List (List Nat)) (h : Heap) (sa : SM h va a) (sb : SM h vb b) : ∃ h', evC Try.prog 9 #[.int .i64 n, va, vb] h = some (.bool true, h') := by
  rw [call9]
  obtain ⟨h1, e1, x1⟩ := spec_awake16 (nm h)
  have sa1 := sa.nm.ext x1
  have sb1 := sb.nm.ext x1
  have ha := spec_heavy sa1
  have hb := spec_heavy sb1
  have g1 := spec_GoodMat (n := n) sa1
  have g2 := spec_GoodMat (n := n) sb1
  by_cases c1 : heavyB a = true
  · rw [c1] at ha
    simp -implicitDefEqProofs (disch := omega) only [↓c9_0_eq, ↓c9_1_eq, ↓c9_2_eq, ↓c9_3_eq, ↓c9_4_eq, ↓c9_5_eq, e1, ha, ↓ret9, bin_add, bin_sub, bin_mul, bin_lss, bin_leq, bin_gtr, bin_geq, bin_eql, bin_neq, un_not, un_neg, Option.bind_some, Option.bind_none, Option.map_some, cnd_true, cnd_false, pickV_true, pickV_false, gd_true, gd_false, gdV_true, gdV_false, gdH_true, gdH_false, gdS_true, gdS_false, wt_ff, wt_tt, wt_ft, wt_tf, wt_undef, obH_some', extractV_tuple, nilCheckV_ptr, againK_normal, againK_exit, againK_ret, blockK_normal, blockK_same, blockK_ret, seqK_normal, seqK_exit, seqK_ret, fin_done, if_true', if_false', Bool.not_true, Bool.not_false, idx0, idx1, idx2, idx3, idx4, chk_nil_l, chk_nil_r, done_nm]
    exact ⟨_, rfl⟩
  have c1' : heavyB a = false := by simpa using c1
  rw [c1'] at ha
  by_cases c2 : heavyB b = true
  · rw [c2] at hb
    simp -implicitDefEqProofs (disch := omega) only [↓c9_0_eq, ↓c9_1_eq, ↓c9_2_eq, ↓c9_3_eq, ↓c9_4_eq, ↓c9_5_eq, e1, ha, hb, ↓ret9, bin_add, bin_sub, bin_mul, bin_lss, bin_leq, bin_gtr, bin_geq, bin_eql, bin_neq, un_not, un_neg, Option.bind_some, Option.bind_none, Option.map_some, cnd_true, cnd_false, pickV_true, pickV_false, gd_true, gd_false, gdV_true, gdV_false, gdH_true, gdH_false, gdS_true, gdS_false, wt_ff, wt_tt, wt_ft, wt_tf, wt_undef, obH_some', extractV_tuple, nilCheckV_ptr, againK_normal, againK_exit, againK_ret, blockK_normal, blockK_same, blockK_ret, seqK_normal, seqK_exit, seqK_ret, fin_done, if_true', if_false', Bool.not_true, Bool.not_false, idx0, idx1, idx2, idx3, idx4, chk_nil_l, chk_nil_r, done_nm]
    exact ⟨_, rfl⟩
  have c2' : heavyB b = false := by simpa using c2
  rw [c2'] at hb
  by_cases c3 : goodM n a = true
  rotate_left
  · have c3' : goodM n a = false := by simpa using c3
    rw [c3'] at g1
    simp -implicitDefEqProofs (disch := omega) only [↓c9_0_eq, ↓c9_1_eq, ↓c9_2_eq, ↓c9_3_eq, ↓c9_4_eq, ↓c9_5_eq, e1, ha, hb, g1, ↓ret9, bin_add, bin_sub, bin_mul, bin_lss, bin_leq, bin_gtr, bin_geq, bin_eql, bin_neq, un_not, un_neg, Option.bind_some, Option.bind_none, Option.map_some, cnd_true, cnd_false, pickV_true, pickV_false, gd_true, gd_false, gdV_true, gdV_false, gdH_true, gdH_false, gdS_true, gdS_false, wt_ff, wt_tt, wt_ft, wt_tf, wt_undef, obH_some', extractV_tuple, nilCheckV_ptr, againK_normal, againK_exit, againK_ret, blockK_normal, blockK_same, blockK_ret, seqK_normal, seqK_exit, seqK_ret, fin_done, if_true', if_false', Bool.not_true, Bool.not_false, idx0, idx1, idx2, idx3, idx4, chk_nil_l, chk_nil_r, done_nm]
    exact ⟨_, rfl⟩
  rw [c3] at g1
  by_cases c4 : goodM n b = true
  rotate_left
  · have c4' : goodM n b = false := by simpa using c4
    rw [c4'] at g2
    simp -implicitDefEqProofs (disch := omega) only [↓c9_0_eq, ↓c9_1_eq, ↓c9_2_eq, ↓c9_3_eq, ↓c9_4_eq, ↓c9_5_eq, e1, ha, hb, g1, g2, ↓ret9, bin_add, bin_sub, bin_mul, bin_lss, bin_leq, bin_gtr, bin_geq, bin_eql, bin_neq, un_not, un_neg, Option.bind_some, Option.bind_none, Option.map_some, cnd_true, cnd_false, pickV_true, pickV_false, gd_true, gd_false, gdV_true, gdV_false, gdH_true, gdH_false, gdS_true, gdS_false, wt_ff, wt_tt, wt_ft, wt_tf, wt_undef, obH_some', extractV_tuple, nilCheckV_ptr, againK_normal, againK_exit, againK_ret, blockK_normal, blockK_same, blockK_ret, seqK_normal, seqK_exit, seqK_ret, fin_done, if_true', if_false', Bool.not_true, Bool.not_false, idx0, idx1, idx2, idx3, idx4, chk_nil_l, chk_nil_r, done_nm]
    exact ⟨_, rfl⟩
  rw [c4] at g2
  have sma := Small.good c3
  have smb := Small.good c4
  have smc := Small.good (goodM_join c3 c4)
  obtain ⟨x, h2, e2, x2, sx2⟩ := spec_mat1 n sa1 sma.1
  obtain ⟨y, h3, e3, x3, sy3⟩ := spec_mat1 n (sb1.ext x2) smb.1
  obtain ⟨xa, xc, rfl⟩ := sx2.shape
  obtain ⟨ya, yc, rfl⟩ := sy3.shape
  have sx3 := sx2.ext x3
  -- the two variables
  have k4 := alM h3
  have c4x := Cells.new h3 45 [.int .i64 0, .slice none 0 0]
  have t4 := Same.new h3 (.cells [.int .i64 0, .slice none 0 0]) 45
  have l4 : (h3.new (.cells [.int .i64 0, .slice none 0 0]) 45).blks.length = h3.blks.length + 1 := by simp [Heap.new]
  generalize h3.new (.cells [.int .i64 0, .slice none 0 0]) 45 = h4 at *
  have k5 := alM h4
  have c5y := Cells.new h4 45 [.int .i64 0, .slice none 0 0]
  have c5x := c4x.keepNew (.cells [.int .i64 0, .slice none 0 0]) 45
  have t5 := t4.trans (Same.new h4 (.cells [.int .i64 0, .slice none 0 0]) 45)
  generalize h4.new (.cells [.int .i64 0, .slice none 0 0]) 45 = h5 at *
  have st6 := storeN_blk c5x (o := 0) (vs := [.int .i64 n, .slice xa a.length xc]) (by simp)
  rw [w2_put] at st6
  have c6x := c5x.put [.int .i64 n, .slice xa a.length xc]
  have c6y := c5y.keepPut (q := h3.blks.length) (by omega) (.cells [.int .i64 n, .slice xa a.length xc])
  have t6 := t5.put (p := h3.blks.length) (Nat.le_refl _) (.cells [.int .i64 n, .slice xa a.length xc])
  generalize h5.put h3.blks.length (.cells [.int .i64 n, .slice xa a.length xc]) = h6 at *
  have st7 := storeN_blk c6y (o := 0) (vs := [.int .i64 n, .slice ya b.length yc]) (by simp)
  rw [w2_put] at st7
  have c7x := c6x.keepPut (q := h4.blks.length) (by omega) (.cells [.int .i64 n, .slice ya b.length yc])
  have c7y := c6y.put [.int .i64 n, .slice ya b.length yc]
  have t7 := t6.put (p := h4.blks.length) (by omega) (.cells [.int .i64 n, .slice ya b.length yc])
  generalize h6.put h4.blks.length (.cells [.int .i64 n, .slice ya b.length yc]) = h7 at *
  have sx := sx3.same t7
  have sy := sy3.same t7
  -- both ways
  obtain ⟨vc, h8, e8, x8, a8⟩ := spec_MJoin (n := n) (n2 := n) sx sy sma smb
  rw [if_pos (okJ_of c3 c4), if_pos (okJ_of c3 c4)] at e8
  rw [if_pos (okJ_of c3 c4)] at a8
  obtain ⟨ca, cc, rfl⟩ := a8.shape
  have k9 := alM h8
  have k9' := mvar (h := h8) n ca (joinM a b).length cc
  have c9 := mvar_cells h8 [.int .i64 0, .slice none 0 0] [.int .i64 n, .slice ca (joinM a b).length cc] 45
  have t9 := mvar_same h8 (.cells [.int .i64 0, .slice none 0 0]) (.cells [.int .i64 n, .slice ca (joinM a b).length cc]) 45
  generalize (h8.new (.cells [.int .i64 0, .slice none 0 0]) 45).put h8.blks.length (.cells [.int .i64 n, .slice ca (joinM a b).length cc]) = h9 at *
  have T9 := x8.same.trans t9
  have sc := a8.smV.same t9
  obtain ⟨vd, h10, e10, x10, a10⟩ := spec_MJoin (n := n) (n2 := n) (sy.same T9) (sx.same T9) smb sma
  rw [if_pos (okJ_of c4 c3), if_pos (okJ_of c4 c3)] at e10
  rw [if_pos (okJ_of c4 c3), ← joinM_comm c3 c4] at a10
  obtain ⟨da, dc, rfl⟩ := a10.shape
  have k11 := alM h10
  have k11' := mvar (h := h10) n da (joinM a b).length dc
  have c11 := mvar_cells h10 [.int .i64 0, .slice none 0 0] [.int .i64 n, .slice da (joinM a b).length dc] 45
  have t11 := mvar_same h10 (.cells [.int .i64 0, .slice none 0 0]) (.cells [.int .i64 n, .slice da (joinM a b).length dc]) 45
  generalize (h10.new (.cells [.int .i64 0, .slice none 0 0]) 45).put h10.blks.length (.cells [.int .i64 n, .slice da (joinM a b).length dc]) = h11 at *
  have T11 := x10.same.trans t11
  have sd := a10.smV.same t11
  obtain ⟨vg, h12, e12, x12, a12⟩ := spec_MJoin (n := n) (n2 := n) (sc.same T11) ((sx.same T9).same T11) smc sma
  rw [if_pos (okJ_of (goodM_join c3 c4) c3), if_pos (okJ_of (goodM_join c3 c4) c3)] at e12
  rw [if_pos (okJ_of (goodM_join c3 c4) c3), joinM_again c3 c4] at a12
  obtain ⟨ga, gc, rfl⟩ := a12.shape
  have k13 := alM h12
  have k13' := mvar (h := h12) n ga (joinM a b).length gc
  have c13 := mvar_cells h12 [.int .i64 0, .slice none 0 0] [.int .i64 n, .slice ga (joinM a b).length gc] 45
  have t13 := mvar_same h12 (.cells [.int .i64 0, .slice none 0 0]) (.cells [.int .i64 n, .slice ga (joinM a b).length gc]) 45
  generalize (h12.new (.cells [.int .i64 0, .slice none 0 0]) 45).put h12.blks.length (.cells [.int .i64 n, .slice ga (joinM a b).length gc]) = h13 at *
  have T13 := x12.same.trans t13
  have sg := a12.smV.same t13
  have X := ((sx.same T9).same T11).same T13
  have Y := ((sy.same T9).same T11).same T13
  have C := (sc.same T11).same T13
  have D := sd.same T13
  have CX := ((c7x.same T9).same T11).same T13
  have CY := ((c7y.same T9).same T11).same T13
  have CC := (c9.same T11).same T13
  have CD := c11.same T13
  obtain ⟨h14, e14, x14⟩ := spec_MWithin (n := n) (n2 := n) X C sma smc
  rw [within_join c3 c4] at e14
  obtain ⟨h15, e15, x15⟩ := spec_MWithin (n := n) (n2 := n) (Y.ext x14) (C.ext x14) smb smc
  rw [joinM_comm c3 c4, within_join c4 c3, ← joinM_comm c3 c4] at e15
  obtain ⟨r1, h16, e16, x16, s16⟩ := spec_rowsM (n := n) ((C.ext x14).ext x15).nm smc.1
  obtain ⟨x16', m16⟩ := x16.amx
  have s16' : SM (Am.am h16 h15) r1 (joinM a b) := s16.kp fun _ _ => rfl
  obtain ⟨r2, h17, e17, x17, s17⟩ := spec_rowsM (n := n) (((D.ext x14).ext x15).ext x16') smc.1
  have e18 := spec_squares (s16'.ext x17) s17 smc smc
  rw [decide_eq_true rfl] at e18
  obtain ⟨r3, h19, e19, x19, s19⟩ := spec_rowsM (n := n) (((((sg.ext x14).ext x15).ext x16').ext x17)).nm smc.1
  obtain ⟨x19', m19⟩ := x19.amx
  have s19' : SM (Am.am h19 h17) r3 (joinM a b) := s19.kp fun _ _ => rfl
  obtain ⟨r4, h20, e20, x20, s20⟩ := spec_rowsM (n := n) (((((C.ext x14).ext x15).ext x16').ext x17).ext x19') smc.1
  have e21 := spec_squares (s19'.ext x20) s20 smc smc
  rw [decide_eq_true rfl] at e21
  simp -implicitDefEqProofs (disch := omega) only [↓c9_0_eq, ↓c9_1_eq, ↓c9_2_eq, ↓c9_3_eq, ↓c9_4_eq, ↓c9_5_eq, ↓c9_6_eq, ↓c9_7_eq, ↓c9_8_eq, ↓c9_9_eq, ↓c9_10_eq, ↓c9_11_eq, ↓c9_12_eq, ↓c9_13_eq, ↓c9_14_eq, ↓c9_15_eq, ↓c9_16_eq, ↓d9_0_0, ↓d9_0_1, ↓d9_0_2, ↓d9_0_3, ↓d9_0_4, ↓d9_0_5, ↓d9_0_6, ↓d9_0_7, ↓d9_0_8, ↓d9_0_9, ↓d9_0_10, ↓d9_0_11, ↓d9_0_12, ↓d9_0_13, ↓d9_0_14, ↓d9_0_15, ↓d9_0_16, ↓d9_0_17, ↓d9_0_18, ↓d9_0_19, ↓d9_0_20, ↓d9_0_21, ↓d9_0_22, ↓d9_0_23, ↓d9_0_24, ↓d9_0_25, ↓d9_0_26, ↓d9_0_27, ↓d9_0_28, ↓d9_0_29, ↓d9_0_30, ↓d9_0_31, ↓d9_0_32, ↓d9_0_33, ↓d9_0_34, ↓d9_0_35, e1, ha, hb, g1, g2, e2, e3, k4, k5, stM, st6, st7, ldM' c7x, ldM' c7y, e8, k9, k9', ldM' (c7x.same T9), ldM' (c7y.same T9), e10, k11, k11', ldM' (c9.same T11), ldM' ((c7x.same T9).same T11), e12, k13, k13', ldM' CX, ldM' CY, ldM' CC, ldM' CD, ldM' c13, e14, ldM' (CY.ext x14), ldM' (CC.ext x14), e15,
    ldM' ((CC.ext x14).ext x15), ldM' (((CD.ext x14).ext x15).ext x16'), e16, m16, e17, e18, ldM' ((((c13.ext x14).ext x15).ext x16').ext x17), e19, m19, ldM' (((((CC.ext x14).ext x15).ext x16').ext x17).ext x19'), ldM' ((CC.ext x14).ext x15), e20, e21, eq_self, decide_true, List.nil_append, List.append_nil, ↓ret9, bin_add, bin_sub, bin_mul, bin_lss, bin_leq, bin_gtr, bin_geq, bin_eql, bin_neq, un_not, un_neg, Option.bind_some, Option.bind_none, Option.map_some, cnd_true, cnd_false, pickV_true, pickV_false, gd_true, gd_false, gdV_true, gdV_false, gdH_true, gdH_false, gdS_true, gdS_false, wt_ff, wt_tt, wt_ft, wt_tf, wt_undef, obH_some', extractV_tuple, nilCheckV_ptr, againK_normal, againK_exit, againK_ret, blockK_normal, blockK_same, blockK_ret, seqK_normal, seqK_exit, seqK_ret, fin_done, if_true', if_false', Bool.not_true, Bool.not_false, idx0, idx1, idx2, idx3, idx4, chk_nil_l, chk_nil_r, done_nm]
  exact ⟨_, rfl⟩
theorem reads_u64s {h : Heap} {e : TypeId} (hu : Try.prog.underlying e = some (.slice 29)) {f : Nat} {cs : List Value} {d : DT} (x : Reads Try.prog h f e cs d) : ∃ v bs, cs = [v] ∧ SU h v bs ∧ (∀ b ∈ bs, b < 2 ^ 64) := by
  obtain ⟨g, l, v, css, rfl, rfl, h1, h2, h3⟩ := reads_slice hu x
  obtain ⟨zs, a, b, c⟩ := reads_ints (k := .u64) (by kernel_rfl) h2
  obtain ⟨bs, a', b', c'⟩ := ints_u64 zs c
  rw [show Try.prog.cellsOf 29 = 1 by kernel_rfl, b, ← a, b', ← a'] at h1
  exact ⟨v, bs, rfl, h1, c'⟩
theorem rows_of {h : Heap} {f : Nat} : ∀ {css : List (List Value)} {l : List DT}, All2 (fun c d => c.length = Try.prog.cellsOf 22 ∧ Reads Try.prog h f 22 c d) css l → ∃ (vs : List Value) (m : List (List Nat)), css.flatten = vs ∧ m.length = l.length ∧ All2 (SU h) vs m ∧ ∀ r ∈ m, ∀ y ∈ r, y < 2 ^ 64
  | _, _, .nil => ⟨[], [], rfl, rfl, .nil, by simp⟩
  | _, _, .cons x q => by
    obtain ⟨vs, m, e, hl, a, b⟩ := rows_of q
    obtain ⟨v, bs, rfl, s, hb⟩ := reads_u64s (by kernel_rfl) x.2
    refine ⟨v :: vs, bs :: m, by simp [e], by simp [hl], .cons s a, fun r hr => ?_⟩
    rcases List.mem_cons.1 hr with rfl | hr
    · exact hb
    · exact b r hr
theorem Rd.rowsU {h : Heap} {v : Value} {d : DT} (r : Rd Try.prog h 56 v d) : ∃ m : List (List Nat), SM h v m ∧ ∀ r ∈ m, ∀ y ∈ r, y < 2 ^ 64 := by
  obtain ⟨f, l, css, rfl, h1, h2, h3⟩ := r.slice (e := 22) (by kernel_rfl)
  obtain ⟨vs, m, e, hl, a, b⟩ := rows_of h2
  rw [show Try.prog.cellsOf 22 = 1 by kernel_rfl, e, ← hl] at h1
  exact ⟨m, ⟨vs, h1, a⟩, b⟩
theorem law_MatJoins (h : Heap) (vs : List Value) (dd : List DT) (r : RdAll Try.prog h [3, 56, 56] vs dd) : ∃ h', evC Try.prog 9 vs.toArray h = some (.bool true, h') := by
  obtain ⟨v, d, vs', ds', rfl, rfl, r0, r1⟩ := r.cons_inv
  obtain ⟨v1, d1, vs', ds', rfl, rfl, ra, r2⟩ := r1.cons_inv
  obtain ⟨v2, d2, vs', ds', rfl, rfl, rb, r3⟩ := r2.cons_inv
  obtain ⟨rfl, rfl⟩ := r3.nil_inv
  obtain ⟨n, rfl, _⟩ := r0.i64 (by kernel_rfl)
  obtain ⟨a, sa, _⟩ := ra.rowsU
  obtain ⟨b, sb, _⟩ := rb.rowsU
  exact mlaw_MatJoins n _ _ a b h sa sb
end Go.Am
namespace Go.Am
open Go.Proofs
set_option maxRecDepth 100000
attribute [local congr] obind_congr obH_congr cnd_congr chk_congr retK_congr codeK_congr
def rcmpF (l m : Bool) : Int := if l then (if m then 0 else -1) else if m then 1 else 2
theorem rcmp_loop {h0 h : Heap} {v w : Value} {a b : List Nat} (sv : SU h v a) (sw : SU h w b) (ha : a.length < 2 ^ 39) (hb : b.length < 2 ^ 39) : ∀ (m i : Nat) (bl bm : Bool), max a.length b.length = i + m → ∀ (x2 x3 x4 x8 x9 x10 x11 x12 x13 x14 x15 x16 x17 x18 x19 x20 x21 x22 x23 x24 x25 x26 x27 x28 x29 x30 x31 x32 x33 x34 x35 x36 x37 x38 x39 x40 x41 x42 x43 x44 x45 x46 x47 x48 : Value),
    loopK Try.prog (evC Try.prog) c21_1 ⟨#[v, w, x2, x3, x4, .bool bl, .bool bm, .int .i64 i, x8, x9, x10, x11, x12, x13, x14, x15, x16, x17, x18, x19, x20, x21, x22, x23, x24, x25, x26, x27, x28, x29, x30, x31, x32, x33, x34, x35, x36, x37, x38, x39, x40, x41, x42, x43, x44, x45, x46, x47, x48], h⟩ (blockK 0 (seqK Try.prog (evC Try.prog) c21_2 (retK Try.f21 Try.prog h0))) =
      some (.int .i64 (rcmpF (bl && leqV a b i m) (bm && leqV b a i m)), done h0 h) := by
  intro m
  induction m with
  | zero =>
    intro i bl bm hm x2 x3 x4 x8 x9 x10 x11 x12 x13 x14 x15 x16 x17 x18 x19 x20 x21 x22 x23 x24 x25 x26 x27 x28 x29 x30 x31 x32 x33 x34 x35 x36 x37 x38 x39 x40 x41 x42 x43 x44 x45 x46 x47 x48
    rw [loopK_eq evC_m, c21_1_eq]
    cases bl <;> cases bm <;>
    · simp -implicitDefEqProofs (disch := omega) only [dcT, dcF, sv.row.len_eq etU.under, sw.row.len_eq etU.under, ↓c21_2_eq, ↓ret21, bin_add, bin_sub, bin_mul, bin_lss, bin_leq, bin_gtr, bin_geq, bin_eql, bin_neq, un_not, un_neg, Option.bind_some, Option.bind_none, Option.map_some, cnd_true, cnd_false, pickV_true, pickV_false, gd_true, gd_false, gdV_true, gdV_false, gdH_true, gdH_false, gdS_true, gdS_false, wt_ff, wt_tt, wt_ft, wt_tf, wt_undef, obH_some', extractV_tuple, nilCheckV_ptr, againK_normal, againK_exit, againK_ret, blockK_normal, blockK_same, blockK_ret, seqK_normal, seqK_exit, seqK_ret, fin_done, if_true', if_false', Bool.not_true, Bool.not_false, idx0, idx1, idx2, idx3, idx4, chk_nil_l, chk_nil_r, done_nm]
      rfl
  | succ m ih =>
    intro i bl bm hm x2 x3 x4 x8 x9 x10 x11 x12 x13 x14 x15 x16 x17 x18 x19 x20 x21 x22 x23 x24 x25 x26 x27 x28 x29 x30 x31 x32 x33 x34 x35 x36 x37 x38 x39 x40 x41 x42 x43 x44 x45 x46 x47 x48
    rw [loopK_eq evC_m, c21_1_eq, leqV_succ, leqV_succ]
    have e1 := spec_refAt sv (i : Int) (by omega)
    have e2 := spec_refAt sw (i : Int) (by omega)
    rw [atI_nat] at e1 e2
    have hw : IntKind.wrap .i64 ((i : Int) + 1) = ((i + 1 : Nat) : Int) := by rw [wrap_i64] <;> omega
    have d1 : decide ((a.getD i 0 : Int) ≤ (b.getD i 0 : Nat)) = decide (a.getD i 0 ≤ b.getD i 0) := by congr 1; apply propext; omega
    have d2 : decide ((a.getD i 0 : Int) ≥ (b.getD i 0 : Nat)) = decide (b.getD i 0 ≤ a.getD i 0) := by congr 1; apply propext; omega
    have ih' := fun bl bm => ih (i + 1) bl bm (by omega)
    generalize decide (a.getD i 0 ≤ b.getD i 0) = p1 at *
    generalize decide (b.getD i 0 ≤ a.getD i 0) = p2 at *
    by_cases hi : i < a.length
    all_goals
      cases bl <;> cases bm <;>
      · simp -implicitDefEqProofs (disch := omega) only [dcT, dcF, sv.row.len_eq etU.under, sw.row.len_eq etU.under, e1, e2, d1, d2, hw, bin_add, bin_sub, bin_mul, bin_lss, bin_leq, bin_gtr, bin_geq, bin_eql, bin_neq, un_not, un_neg, Option.bind_some, Option.bind_none, Option.map_some, cnd_true, cnd_false, pickV_true, pickV_false, gd_true, gd_false, gdV_true, gdV_false, gdH_true, gdH_false, gdS_true, gdS_false, wt_ff, wt_tt, wt_ft, wt_tf, wt_undef, obH_some', extractV_tuple, nilCheckV_ptr, againK_normal, againK_exit, againK_ret, blockK_normal, blockK_same, blockK_ret, seqK_normal, seqK_exit, seqK_ret, fin_done, if_true', if_false', Bool.not_true, Bool.not_false, idx0, idx1, idx2, idx3, idx4, chk_nil_l, chk_nil_r, done_nm]
        rw [ih' _ _ _ _ _ _ _ _ _ _ _ _ _ _ _ _ _ _ _ _ _ _ _ _ _ _ _ _ _ _ _ _ _ _ _ _ _ _ _ _ _ _ _ _ _ _]
        simp
theorem spec_refCmp {h : Heap} {v w : Value} {a b : List Nat} (sv : SU h v a) (sw : SU h w b) (ha : a.length < 2 ^ 39) (hb : b.length < 2 ^ 39) : evC Try.prog 21 #[v, w] h = some (.int .i64 (cmpV a b), h) := by
  rw [call21, c21_0_eq]
  refine (rcmp_loop (h0 := h) sv.nm sw.nm ha hb (max a.length b.length) 0 true true (by omega) _ _ _ _ _ _ _ _ _ _ _ _ _ _ _ _ _ _ _ _ _ _ _ _ _ _ _ _ _ _ _ _ _ _ _ _ _ _ _ _ _ _ _ _).trans ?_
  simp only [Bool.true_and, leqV_not, done_nm]
  unfold cmpV
  cases lessV a b 0 (max a.length b.length) <;> cases lessV b a 0 (max a.length b.length) <;> rfl
end Go.Am
namespace Go.Am
open Go.Proofs
set_option maxRecDepth 100000
set_option linter.all false
attribute [local congr] obind_congr obH_congr cnd_congr chk_congr retK_congr codeK_congr
theorem vbneq (xo yo : Operand) (a b : Bool) : binV Try.prog .neq 4 xo yo (.bool a) (.bool b) = some (.bool (!(a == b))) := bin_bneq _ _ _ _ (by cases a <;> cases b <;> kernel_rfl)
theorem Same.keeps {h0 h h' : Heap} (s : Same h0 h) (k : Keeps h0.blks.length h h') : Same h0 h' := ⟨Nat.le_trans s.1 k.len, fun b hb => (k.old b hb).trans (s.2 b hb)⟩
def wS (a b : List (List Nat)) (k : Nat) : Bool := (List.range k).all (wi1 a b)
theorem wS_succ (a b : List (List Nat)) (k : Nat) : wS a b (k + 1) = (wS a b k && wi1 a b k) := by unfold wS; rw [List.range_succ, List.all_append]; simp
theorem wiM_wS (a b : List (List Nat)) (k : Nat) : wiM a b 0 k = wS a b k := by unfold wiM wS; rw [List.range_eq_range']
def colT (n : Int) (a : List (List Nat)) (j : Int) (k : Nat) : List Nat := if 0 ≤ j ∧ j < n then colM (a.take k) j.toNat else []
theorem columnM_col {n : Int} {a : List (List Nat)} (g : goodM n a = true) (j : Int) : columnM n a j = colT n a j a.length := by
  unfold columnM colT
  rw [List.take_length]
  by_cases h : 0 ≤ j ∧ j < n
  · rw [if_pos (show okC n a j from ⟨g, h⟩), if_pos h]
  · rw [if_neg (show ¬ okC n a j from fun x => h x.2), if_neg h]
/-- what is behind the loop -/
theorem says16_end {h0 h : Heap} {n : Int} {xv yv cv : Value} {a b : List (List Nat)} {p q : Nat} {i j : Int} {col : List Nat} {good win : Bool} {want : Nat} (cx : Cells h p 45 [.int .i64 n, xv]) (cy : Cells h q 45 [.int .i64 n, yv]) (sx : SM h xv a) (sy : SM h yv b) (sc : SU h cv col)
    (sma : Small a) (smb : Small b) (hg : goodM n a = good) (hw : good = true → atM a i j = want) (hc : columnM n a j = col) (hin : withinM n n a b = win) (x0 x1 x2 x5 x6 x7 x8 x9 x10 x11 x12 x16 x17 x18 x19 x23 x24 x25 x26 x27 x28 x29 x30 x31 x32 x33 x34 x35 x36 x37 x38 x39 x40 x41 x42 x43 x44 x45 x46 x47 x48 x49 x50 x51 x52 x53 x54 x55 x56 x57 x58 x59 x60 x61 x62 x63 x64 x65 x66 x67 x68 x69 x70 x71 x72 x73 x74 x75 x76 x77 x78 x79 x80 x81 x82 x83 x84 x85 x86 x87 x88 x89 x90 x91 x92 x93 x94 x95 x96 x97 x98 x99 x100 x101 x102 x103 x104 x105 x106 x107 x108 x109 x110 x111 x112 x113 x114 x115 x116 x117 x118 x119 x120 x121 x122 x123 x124 x125 x126 x127 x128 x129 x130 x131 x132 x133 x134 x135 x136 x137 x138 x139 x140 x141 x142 x143 x144 x145 x146 x147 x148 x149 x150 x151 x152 x153 x154 x155 x156 x157 x158 x159 x160 x161 x162 x163 x164 x165 x166 x167 x168 x169 x170 x171 x172 x173 x174 x175 x176 x177 x178 x179 x180 x181 x182 x183 x184 x185 x186 x187 x188 x189 x190 x191 x192 x193 x194 x195 x196 x197 x198 x199 x200 x201 x202 x203 x204 x205 x206 x207 x208 x209 x210 x211 x212 x213 x214 x215 x216 x217 x218 x219 x220 x221 : Value) :
    ∃ h', codeK Try.prog (evC Try.prog) loopL c11_2 ⟨#[x0, x1, x2, .int .i64 i, .int .i64 j, x5, x6, x7, x8, x9, x10, x11, x12, .pointer (some ⟨p, 0, none⟩), .pointer (some ⟨q, 0, none⟩), .bool good, x16, x17, x18, x19, .int .u64 want, cv, .bool win, x23, x24, x25, x26, x27, x28, x29, x30, x31, x32, x33, x34, x35, x36, x37, x38, x39, x40, x41, x42, x43, x44, x45, x46, x47, x48, x49, x50, x51, x52, x53, x54, x55, x56, x57, x58, x59, x60, x61, x62, x63, x64, x65, x66, x67, x68, x69, x70, x71, x72, x73, x74, x75, x76, x77, x78, x79, x80, x81, x82, x83, x84, x85, x86, x87, x88, x89, x90, x91, x92, x93, x94, x95, x96, x97, x98, x99, x100, x101, x102, x103, x104, x105, x106, x107, x108, x109, x110, x111, x112, x113, x114, x115, x116, x117, x118, x119, x120, x121, x122, x123, x124, x125, x126, x127, x128, x129, x130, x131, x132, x133, x134, x135, x136, x137, x138, x139, x140, x141, x142, x143, x144, x145, x146, x147, x148, x149, x150, x151, x152, x153, x154, x155, x156, x157, x158, x159, x160, x161, x162, x163, x164, x165, x166, x167, x168, x169, x170, x171, x172, x173, x174, x175, x176, x177, x178, x179, x180, x181, x182, x183, x184, x185, x186, x187, x188, x189, x190, x191, x192, x193, x194, x195, x196, x197, x198, x199, x200, x201, x202, x203, x204, x205, x206, x207, x208, x209, x210, x211, x212, x213, x214, x215, x216, x217, x218, x219, x220, x221], h⟩ (retK Try.f11 Try.prog h0) = some (.bool true, h') := by
  rw [c11_2_eq]
  have hl64 : ∀ r ∈ a, r.length < 2 ^ 62 := fun r hr => by
    obtain ⟨k, hk, rfl⟩ := List.getElem_of_mem hr
    have := sma.2 k
    rw [List.getD_eq_getElem?_getD, List.getElem?_eq_getElem hk] at this
    simp only [Option.getD_some] at this; omega
  have hcl : (columnM n a j).length < 2 ^ 39 := by
    unfold columnM; split
    · have := sma.1; simp [colM]; omega
    · simp
  cases good with
  | true =>
    obtain ⟨h1, e1, x1⟩ := spec_MAt (n := n) sx i j hl64
    rw [hw rfl] at e1
    obtain ⟨ad, cc, h2, e2, x2, s2⟩ := spec_Column (n := n) (sx.ext x1) sma.1 j
    have e3 := spec_longs s2.su ((sc.ext x1).ext x2) hcl (by rw [← hc]; exact hcl)
    rw [decide_eq_true hc] at e3
    obtain ⟨h3, e4, x3⟩ := spec_MWithin (n := n) (n2 := n) ((sx.ext x1).ext x2) ((sy.ext x1).ext x2) sma smb
    rw [hin] at e4
    have tt : (win == win) = true := by cases win <;> rfl
    simp -implicitDefEqProofs (disch := omega) only [ldM' cx, e1, eq_self, decide_true, ldM' (cx.ext x1), e2, e3, ldM' ((cx.ext x1).ext x2), ldM' ((cy.ext x1).ext x2), e4, vbeql, tt, ↓ret11, ↓cnd_true, ↓cnd_false, ↓Option.bind_some, ↓obH_some', bin_add, bin_sub, bin_mul, bin_lss, bin_leq, bin_gtr, bin_geq, bin_eql, bin_neq, un_not, un_neg, Option.bind_some, Option.bind_none, Option.map_some, cnd_true, cnd_false, pickV_true, pickV_false, gd_true, gd_false, gdV_true, gdV_false, gdH_true, gdH_false, gdS_true, gdS_false, wt_ff, wt_tt, wt_ft, wt_tf, wt_undef, obH_some', extractV_tuple, nilCheckV_ptr, againK_normal, againK_exit, againK_ret, blockK_normal, blockK_same, blockK_ret, seqK_normal, seqK_exit, seqK_ret, fin_done, if_true', if_false', Bool.not_true, Bool.not_false, idx0, idx1, idx2, idx3, idx4, chk_nil_l, chk_nil_r, done_nm]
    exact ⟨_, rfl⟩
  | false =>
    obtain ⟨ad, cc, h2, e2, x2, s2⟩ := spec_Column (n := n) sx sma.1 j
    have e3 := spec_longs s2.su (sc.ext x2) hcl (by rw [← hc]; exact hcl)
    rw [decide_eq_true hc] at e3
    obtain ⟨h3, e4, x3⟩ := spec_MWithin (n := n) (n2 := n) (sx.ext x2) (sy.ext x2) sma smb
    rw [hin] at e4
    have tt : (win == win) = true := by cases win <;> rfl
    simp -implicitDefEqProofs (disch := omega) only [ldM' cx, e2, e3, ldM' (cx.ext x2), ldM' (cy.ext x2), e4, vbeql, tt, ↓ret11, ↓cnd_true, ↓cnd_false, ↓Option.bind_some, ↓obH_some', bin_add, bin_sub, bin_mul, bin_lss, bin_leq, bin_gtr, bin_geq, bin_eql, bin_neq, un_not, un_neg, Option.bind_some, Option.bind_none, Option.map_some, cnd_true, cnd_false, pickV_true, pickV_false, gd_true, gd_false, gdV_true, gdV_false, gdH_true, gdH_false, gdS_true, gdS_false, wt_ff, wt_tt, wt_ft, wt_tf, wt_undef, obH_some', extractV_tuple, nilCheckV_ptr, againK_normal, againK_exit, againK_ret, blockK_normal, blockK_same, blockK_ret, seqK_normal, seqK_exit, seqK_ret, fin_done, if_true', if_false', Bool.not_true, Bool.not_false, idx0, idx1, idx2, idx3, idx4, chk_nil_l, chk_nil_r, done_nm]
    exact ⟨_, rfl⟩
theorem says16_loop {h0 hs : Heap} {n : Nat} {va vb xv yv : Value} {a b : List (List Nat)} {p q : Nat} {i j : Int} {fine : Bool} {want : Nat} (cx : Cells hs p 45 [.int .i64 n, xv]) (cy : Cells hs q 45 [.int .i64 n, yv]) (sx : SM hs xv a) (sy : SM hs yv b) (sa : SM hs va a) (sb : SM hs vb b)
    (hg : goodM n a = true) (hf : goodM n b = fine) (smb : Small b) (hw : atM a i j = want) : ∀ (mm k : Nat) (h : Heap) (cv : Value), n = k + mm → Same hs h → AU hs.blks.length h cv (colT n a j k) → ∀ (x5 x6 x7 x8 x9 x10 x11 x12 x17 x18 x19 x24 x25 x26 x27 x28 x29 x30 x31 x32 x33 x34 x35 x36 x37 x38 x39 x40 x41 x42 x43 x44 x45 x46 x47 x48 x49 x50 x51 x52 x53 x54 x55 x56 x57 x58 x59 x60 x61 x62 x63 x64 x65 x66 x67 x68 x69 x70 x71 x72 x73 x74 x75 x76 x77 x78 x79 x80 x81 x82 x83 x84 x85 x86 x87 x88 x89 x90 x91 x92 x93 x94 x95 x96 x97 x98 x99 x100 x101 x102 x103 x104 x105 x106 x107 x108 x109 x110 x111 x112 x113 x114 x115 x116 x117 x118 x119 x120 x121 x122 x123 x124 x125 x126 x127 x128 x129 x130 x131 x132 x133 x134 x135 x136 x137 x138 x139 x140 x141 x142 x143 x144 x145 x146 x147 x148 x149 x150 x151 x152 x153 x154 x155 x156 x157 x158 x159 x160 x161 x162 x163 x164 x165 x166 x167 x168 x169 x170 x171 x172 x173 x174 x175 x176 x177 x178 x179 x180 x181 x182 x183 x184 x185 x186 x187 x188 x189 x190 x191 x192 x193 x194 x195 x196 x197 x198 x199 x200 x201 x202 x203 x204 x205 x206 x207 x208 x209 x210 x211 x212 x213 x214 x215 x216 x217 x218 x219 x220 x221 : Value),
    ∃ h', loopK Try.prog (evC Try.prog) c11_1 ⟨#[.int .i64 n, va, vb, .int .i64 i, .int .i64 j, x5, x6, x7, x8, x9, x10, x11, x12, .pointer (some ⟨p, 0, none⟩), .pointer (some ⟨q, 0, none⟩), .bool true, .bool fine, x17, x18, x19, .int .u64 want, cv, .bool (fine && wS a b k), .int .i64 k, x24, x25, x26, x27, x28, x29, x30, x31, x32, x33, x34, x35, x36, x37, x38, x39, x40, x41, x42, x43, x44, x45, x46, x47, x48, x49, x50, x51, x52, x53, x54, x55, x56, x57, x58, x59, x60, x61, x62, x63, x64, x65, x66, x67, x68, x69, x70, x71, x72, x73, x74, x75, x76, x77, x78, x79, x80, x81, x82, x83, x84, x85, x86, x87, x88, x89, x90, x91, x92, x93, x94, x95, x96, x97, x98, x99, x100, x101, x102, x103, x104, x105, x106, x107, x108, x109, x110, x111, x112, x113, x114, x115, x116, x117, x118, x119, x120, x121, x122, x123, x124, x125, x126, x127, x128, x129, x130, x131, x132, x133, x134, x135, x136, x137, x138, x139, x140, x141, x142, x143, x144, x145, x146, x147, x148, x149, x150, x151, x152, x153, x154, x155, x156, x157, x158, x159, x160, x161, x162, x163, x164, x165, x166, x167, x168, x169, x170, x171, x172, x173, x174, x175, x176, x177, x178, x179, x180, x181, x182, x183, x184, x185, x186, x187, x188, x189, x190, x191, x192, x193, x194, x195, x196, x197, x198, x199, x200, x201, x202, x203, x204, x205, x206, x207, x208, x209, x210, x211, x212, x213, x214, x215, x216, x217, x218, x219, x220, x221], h⟩ (blockK 0 (seqK Try.prog (evC Try.prog) c11_2 (retK Try.f11 Try.prog h0))) = some (.bool true, h') := by
  have sma := Small.good hg
  have hga := (goodM_iff _ a).1 hg
  have hal : a.length = n := by omega
  intro mm
  induction mm with
  | zero =>
    intro k h cv hk sm ac x5 x6 x7 x8 x9 x10 x11 x12 x17 x18 x19 x24 x25 x26 x27 x28 x29 x30 x31 x32 x33 x34 x35 x36 x37 x38 x39 x40 x41 x42 x43 x44 x45 x46 x47 x48 x49 x50 x51 x52 x53 x54 x55 x56 x57 x58 x59 x60 x61 x62 x63 x64 x65 x66 x67 x68 x69 x70 x71 x72 x73 x74 x75 x76 x77 x78 x79 x80 x81 x82 x83 x84 x85 x86 x87 x88 x89 x90 x91 x92 x93 x94 x95 x96 x97 x98 x99 x100 x101 x102 x103 x104 x105 x106 x107 x108 x109 x110 x111 x112 x113 x114 x115 x116 x117 x118 x119 x120 x121 x122 x123 x124 x125 x126 x127 x128 x129 x130 x131 x132 x133 x134 x135 x136 x137 x138 x139 x140 x141 x142 x143 x144 x145 x146 x147 x148 x149 x150 x151 x152 x153 x154 x155 x156 x157 x158 x159 x160 x161 x162 x163 x164 x165 x166 x167 x168 x169 x170 x171 x172 x173 x174 x175 x176 x177 x178 x179 x180 x181 x182 x183 x184 x185 x186 x187 x188 x189 x190 x191 x192 x193 x194 x195 x196 x197 x198 x199 x200 x201 x202 x203 x204 x205 x206 x207 x208 x209 x210 x211 x212 x213 x214 x215 x216 x217 x218 x219 x220 x221
    rw [loopK_eq evC_m, c11_1_eq]
    obtain rfl : n = k := by omega
    have hc : columnM n a j = colT n a j n := by rw [columnM_col hg, hal]
    have hin : withinM n n a b = (fine && wS a b n) := by
      unfold withinM okJ
      rw [hg, hf, decide_eq_true rfl, hal, wiM_wS, Bool.true_and, Bool.and_true]
    have := fun x0 x1 x2 x5 x6 x7 x8 x9 x10 x11 x12 x16 x17 x18 x19 x23 x24 x25 x26 x27 x28 x29 x30 x31 x32 x33 x34 x35 x36 x37 x38 x39 x40 x41 x42 x43 x44 x45 x46 x47 x48 x49 x50 x51 x52 x53 x54 x55 x56 x57 x58 x59 x60 x61 x62 x63 x64 x65 x66 x67 x68 x69 x70 x71 x72 x73 x74 x75 x76 x77 x78 x79 x80 x81 x82 x83 x84 x85 x86 x87 x88 x89 x90 x91 x92 x93 x94 x95 x96 x97 x98 x99 x100 x101 x102 x103 x104 x105 x106 x107 x108 x109 x110 x111 x112 x113 x114 x115 x116 x117 x118 x119 x120 x121 x122 x123 x124 x125 x126 x127 x128 x129 x130 x131 x132 x133 x134 x135 x136 x137 x138 x139 x140 x141 x142 x143 x144 x145 x146 x147 x148 x149 x150 x151 x152 x153 x154 x155 x156 x157 x158 x159 x160 x161 x162 x163 x164 x165 x166 x167 x168 x169 x170 x171 x172 x173 x174 x175 x176 x177 x178 x179 x180 x181 x182 x183 x184 x185 x186 x187 x188 x189 x190 x191 x192 x193 x194 x195 x196 x197 x198 x199 x200 x201 x202 x203 x204 x205 x206 x207 x208 x209 x210 x211 x212 x213 x214 x215 x216 x217 x218 x219 x220 x221 => says16_end (h0 := h0) (cx.same sm) (cy.same sm) (sx.same sm) (sy.same sm) ac.su sma smb hg (fun _ => hw) hc hin x0 x1 x2 x5 x6 x7 x8 x9 x10 x11 x12 x16 x17 x18 x19 x23 x24 x25 x26 x27 x28 x29 x30 x31 x32 x33 x34 x35 x36 x37 x38 x39 x40 x41 x42 x43 x44 x45 x46 x47 x48 x49 x50 x51 x52 x53 x54 x55 x56 x57 x58 x59 x60 x61 x62 x63 x64 x65 x66 x67 x68 x69 x70 x71 x72 x73 x74 x75 x76 x77 x78 x79 x80 x81 x82 x83 x84 x85 x86 x87 x88 x89 x90 x91 x92 x93 x94 x95 x96 x97 x98 x99 x100 x101 x102 x103 x104 x105 x106 x107 x108 x109 x110 x111 x112 x113 x114 x115 x116 x117 x118 x119 x120 x121 x122 x123 x124 x125 x126 x127 x128 x129 x130 x131 x132 x133 x134 x135 x136 x137 x138 x139 x140 x141 x142 x143 x144 x145 x146 x147 x148 x149 x150 x151 x152 x153 x154 x155 x156 x157 x158 x159 x160 x161 x162 x163 x164 x165 x166 x167 x168 x169 x170 x171 x172 x173 x174 x175 x176 x177 x178 x179 x180 x181 x182 x183 x184 x185 x186 x187 x188 x189 x190 x191 x192 x193 x194 x195 x196 x197 x198 x199 x200 x201 x202 x203 x204 x205 x206 x207 x208 x209 x210 x211 x212 x213 x214 x215 x216 x217 x218 x219 x220 x221
    simp -implicitDefEqProofs (disch := omega) only [dcT, dcF, ↓cnd_true, ↓cnd_false, ↓Option.bind_some, ↓obH_some', bin_add, bin_sub, bin_mul, bin_lss, bin_leq, bin_gtr, bin_geq, bin_eql, bin_neq, un_not, un_neg, Option.bind_some, Option.bind_none, Option.map_some, cnd_true, cnd_false, pickV_true, pickV_false, gd_true, gd_false, gdV_true, gdV_false, gdH_true, gdH_false, gdS_true, gdS_false, wt_ff, wt_tt, wt_ft, wt_tf, wt_undef, obH_some', extractV_tuple, nilCheckV_ptr, againK_normal, againK_exit, againK_ret, blockK_normal, blockK_same, blockK_ret, seqK_normal, seqK_exit, seqK_ret, fin_done, if_true', if_false', Bool.not_true, Bool.not_false, idx0, idx1, idx2, idx3, idx4, chk_nil_l, chk_nil_r, done_nm]
    exact this _ _ _ _ _ _ _ _ _ _ _ _ _ _ _ _ _ _ _ _ _ _ _ _ _ _ _ _ _ _ _ _ _ _ _ _ _ _ _ _ _ _ _ _ _ _ _ _ _ _ _ _ _ _ _ _ _ _ _ _ _ _ _ _ _ _ _ _ _ _ _ _ _ _ _ _ _ _ _ _ _ _ _ _ _ _ _ _ _ _ _ _ _ _ _ _ _ _ _ _ _ _ _ _ _ _ _ _ _ _ _ _ _ _ _ _ _ _ _ _ _ _ _ _ _ _ _ _ _ _ _ _ _ _ _ _ _ _ _ _ _ _ _ _ _ _ _ _ _ _ _ _ _ _ _ _ _ _ _ _ _ _ _ _ _ _ _ _ _ _ _ _ _ _ _ _ _ _ _ _ _ _ _ _ _ _ _ _ _ _ _ _ _ _ _ _ _ _ _ _ _ _ _ _ _ _ _ _ _ _ _ _ _ _
  | succ mm ih =>
    intro k h cv hk sm ac x5 x6 x7 x8 x9 x10 x11 x12 x17 x18 x19 x24 x25 x26 x27 x28 x29 x30 x31 x32 x33 x34 x35 x36 x37 x38 x39 x40 x41 x42 x43 x44 x45 x46 x47 x48 x49 x50 x51 x52 x53 x54 x55 x56 x57 x58 x59 x60 x61 x62 x63 x64 x65 x66 x67 x68 x69 x70 x71 x72 x73 x74 x75 x76 x77 x78 x79 x80 x81 x82 x83 x84 x85 x86 x87 x88 x89 x90 x91 x92 x93 x94 x95 x96 x97 x98 x99 x100 x101 x102 x103 x104 x105 x106 x107 x108 x109 x110 x111 x112 x113 x114 x115 x116 x117 x118 x119 x120 x121 x122 x123 x124 x125 x126 x127 x128 x129 x130 x131 x132 x133 x134 x135 x136 x137 x138 x139 x140 x141 x142 x143 x144 x145 x146 x147 x148 x149 x150 x151 x152 x153 x154 x155 x156 x157 x158 x159 x160 x161 x162 x163 x164 x165 x166 x167 x168 x169 x170 x171 x172 x173 x174 x175 x176 x177 x178 x179 x180 x181 x182 x183 x184 x185 x186 x187 x188 x189 x190 x191 x192 x193 x194 x195 x196 x197 x198 x199 x200 x201 x202 x203 x204 x205 x206 x207 x208 x209 x210 x211 x212 x213 x214 x215 x216 x217 x218 x219 x220 x221
    rw [loopK_eq evC_m, c11_1_eq]
    have hw1 : IntKind.wrap .i64 ((k : Int) + 1) = ((k + 1 : Nat) : Int) := by rw [wrap_i64] <;> omega
    -- what is within so far
    have cmp : ∀ (h1 : Heap), Same hs h1 → fine = true → ∃ aa x bb y, indexAddrV Try.prog 56 va (.int .i64 k) = some (.pointer (some aa)) ∧ loadV Try.prog 22 (.pointer (some aa)) h1 = some x ∧
        indexAddrV Try.prog 56 vb (.int .i64 k) = some (.pointer (some bb)) ∧ loadV Try.prog 22 (.pointer (some bb)) h1 = some y ∧ evC Try.prog 21 #[x, y] h1 = some (.int .i64 (cmpV (a.getD k []) (b.getD k [])), h1) := by
      intro h1 s1 hfi
      rw [hfi] at hf
      have hgb := (goodM_iff _ b).1 hf
      obtain ⟨aa, x, e1, e2, s2⟩ := (sa.same s1).atW (i := k) (by omega)
      obtain ⟨bb, y, e3, e4, s4⟩ := (sb.same s1).atW (i := k) (by omega)
      exact ⟨aa, x, bb, y, e1, e2, e3, e4, spec_refCmp s2 s4 (by have := sma.2 k; omega) (by have := smb.2 k; omega)⟩
    by_cases hj : 0 ≤ j ∧ j < n
    · obtain ⟨j, rfl⟩ : ∃ m : Nat, j = m := ⟨j.toNat, by omega⟩
      obtain ⟨aa, x, e1, e2, s2⟩ := (sa.same sm).atW (i := k) (by omega)
      have hrl := goodM_rows hg (i := k) (by omega)
      obtain ⟨ab, e3, e4⟩ := su_at s2 etU.under (i := j) (by omega)
      have ct : colT n a j k ++ [(a.getD k []).getD j 0] = colT n a j (k + 1) := by
        unfold colT; rw [if_pos hj, if_pos hj, Int.toNat_natCast]; exact colM_succ a j (by omega)
      obtain ⟨a5, c5, h5, e5, s5, k5, _⟩ := app_num sm.1 ac ((a.getD k []).getD j 0) (by unfold colT; rw [if_pos hj]; simp [colM]; omega)
      rw [ct] at e5 s5
      have sm5 := sm.keeps k5
      have ih' := ih (k + 1) h5 (.slice a5 (colT n a j (k + 1)).length c5) (by omega) sm5 s5
      rw [wS_succ] at ih'
      cases hw0 : (fine && wS a b k) with
      | false =>
        have : (fine && (wS a b k && wi1 a b k)) = false := by rw [← Bool.and_assoc, hw0]; rfl
        rw [this] at ih'
        simp -implicitDefEqProofs (disch := omega) only [dcT, dcF, e1, e2, e3, e4, mkU1, e5, hw1, ↓cnd_true, ↓cnd_false, ↓Option.bind_some, ↓obH_some', bin_add, bin_sub, bin_mul, bin_lss, bin_leq, bin_gtr, bin_geq, bin_eql, bin_neq, un_not, un_neg, Option.bind_some, Option.bind_none, Option.map_some, cnd_true, cnd_false, pickV_true, pickV_false, gd_true, gd_false, gdV_true, gdV_false, gdH_true, gdH_false, gdS_true, gdS_false, wt_ff, wt_tt, wt_ft, wt_tf, wt_undef, obH_some', extractV_tuple, nilCheckV_ptr, againK_normal, againK_exit, againK_ret, blockK_normal, blockK_same, blockK_ret, seqK_normal, seqK_exit, seqK_ret, fin_done, if_true', if_false', Bool.not_true, Bool.not_false, idx0, idx1, idx2, idx3, idx4, chk_nil_l, chk_nil_r, done_nm]
        exact ih' _ _ _ _ _ _ _ _ _ _ _ _ _ _ _ _ _ _ _ _ _ _ _ _ _ _ _ _ _ _ _ _ _ _ _ _ _ _ _ _ _ _ _ _ _ _ _ _ _ _ _ _ _ _ _ _ _ _ _ _ _ _ _ _ _ _ _ _ _ _ _ _ _ _ _ _ _ _ _ _ _ _ _ _ _ _ _ _ _ _ _ _ _ _ _ _ _ _ _ _ _ _ _ _ _ _ _ _ _ _ _ _ _ _ _ _ _ _ _ _ _ _ _ _ _ _ _ _ _ _ _ _ _ _ _ _ _ _ _ _ _ _ _ _ _ _ _ _ _ _ _ _ _ _ _ _ _ _ _ _ _ _ _ _ _ _ _ _ _ _ _ _ _ _ _ _ _ _ _ _ _ _ _ _ _ _ _ _ _ _ _ _ _ _ _ _ _ _ _ _ _ _ _ _ _ _ _ _ _
      | true =>
        obtain ⟨hfi, hws⟩ : fine = true ∧ wS a b k = true := by simpa using hw0
        have this : (fine && (wS a b k && wi1 a b k)) = wi1 a b k := by rw [hfi, hws]; rfl
        rw [this] at ih'
        obtain ⟨aa', x', bb, y, f1, f2, f3, f4, f5⟩ := cmp h5 sm5 hfi
        have hq := f1.symm.trans e1
        simp only [Option.some.injEq, Value.pointer.injEq] at hq
        subst hq
        unfold wi1 at ih'
        subst hfi
        generalize cmpV (a.getD k []) (b.getD k []) = cc at *
        by_cases g0 : cc = 0
        · rw [decide_eq_true (by omega)] at ih'
          simp -implicitDefEqProofs (disch := omega) only [dcT, dcF, e1, e2, e3, e4, mkU1, e5, f1, f2, f3, f4, f5, hw1, ↓cnd_true, ↓cnd_false, ↓Option.bind_some, ↓obH_some', bin_add, bin_sub, bin_mul, bin_lss, bin_leq, bin_gtr, bin_geq, bin_eql, bin_neq, un_not, un_neg, Option.bind_some, Option.bind_none, Option.map_some, cnd_true, cnd_false, pickV_true, pickV_false, gd_true, gd_false, gdV_true, gdV_false, gdH_true, gdH_false, gdS_true, gdS_false, wt_ff, wt_tt, wt_ft, wt_tf, wt_undef, obH_some', extractV_tuple, nilCheckV_ptr, againK_normal, againK_exit, againK_ret, blockK_normal, blockK_same, blockK_ret, seqK_normal, seqK_exit, seqK_ret, fin_done, if_true', if_false', Bool.not_true, Bool.not_false, idx0, idx1, idx2, idx3, idx4, chk_nil_l, chk_nil_r, done_nm]
          exact ih' _ _ _ _ _ _ _ _ _ _ _ _ _ _ _ _ _ _ _ _ _ _ _ _ _ _ _ _ _ _ _ _ _ _ _ _ _ _ _ _ _ _ _ _ _ _ _ _ _ _ _ _ _ _ _ _ _ _ _ _ _ _ _ _ _ _ _ _ _ _ _ _ _ _ _ _ _ _ _ _ _ _ _ _ _ _ _ _ _ _ _ _ _ _ _ _ _ _ _ _ _ _ _ _ _ _ _ _ _ _ _ _ _ _ _ _ _ _ _ _ _ _ _ _ _ _ _ _ _ _ _ _ _ _ _ _ _ _ _ _ _ _ _ _ _ _ _ _ _ _ _ _ _ _ _ _ _ _ _ _ _ _ _ _ _ _ _ _ _ _ _ _ _ _ _ _ _ _ _ _ _ _ _ _ _ _ _ _ _ _ _ _ _ _ _ _ _ _ _ _ _ _ _ _ _ _ _ _ _
        · by_cases g1 : cc = -1
          · rw [decide_eq_true (by omega)] at ih'
            simp -implicitDefEqProofs (disch := omega) only [dcT, dcF, e1, e2, e3, e4, mkU1, e5, f1, f2, f3, f4, f5, hw1, ↓cnd_true, ↓cnd_false, ↓Option.bind_some, ↓obH_some', bin_add, bin_sub, bin_mul, bin_lss, bin_leq, bin_gtr, bin_geq, bin_eql, bin_neq, un_not, un_neg, Option.bind_some, Option.bind_none, Option.map_some, cnd_true, cnd_false, pickV_true, pickV_false, gd_true, gd_false, gdV_true, gdV_false, gdH_true, gdH_false, gdS_true, gdS_false, wt_ff, wt_tt, wt_ft, wt_tf, wt_undef, obH_some', extractV_tuple, nilCheckV_ptr, againK_normal, againK_exit, againK_ret, blockK_normal, blockK_same, blockK_ret, seqK_normal, seqK_exit, seqK_ret, fin_done, if_true', if_false', Bool.not_true, Bool.not_false, idx0, idx1, idx2, idx3, idx4, chk_nil_l, chk_nil_r, done_nm]
            exact ih' _ _ _ _ _ _ _ _ _ _ _ _ _ _ _ _ _ _ _ _ _ _ _ _ _ _ _ _ _ _ _ _ _ _ _ _ _ _ _ _ _ _ _ _ _ _ _ _ _ _ _ _ _ _ _ _ _ _ _ _ _ _ _ _ _ _ _ _ _ _ _ _ _ _ _ _ _ _ _ _ _ _ _ _ _ _ _ _ _ _ _ _ _ _ _ _ _ _ _ _ _ _ _ _ _ _ _ _ _ _ _ _ _ _ _ _ _ _ _ _ _ _ _ _ _ _ _ _ _ _ _ _ _ _ _ _ _ _ _ _ _ _ _ _ _ _ _ _ _ _ _ _ _ _ _ _ _ _ _ _ _ _ _ _ _ _ _ _ _ _ _ _ _ _ _ _ _ _ _ _ _ _ _ _ _ _ _ _ _ _ _ _ _ _ _ _ _ _ _ _ _ _ _ _ _ _ _ _ _
          · rw [decide_eq_false (by omega)] at ih'
            simp -implicitDefEqProofs (disch := omega) only [dcT, dcF, e1, e2, e3, e4, mkU1, e5, f1, f2, f3, f4, f5, hw1, ↓cnd_true, ↓cnd_false, ↓Option.bind_some, ↓obH_some', bin_add, bin_sub, bin_mul, bin_lss, bin_leq, bin_gtr, bin_geq, bin_eql, bin_neq, un_not, un_neg, Option.bind_some, Option.bind_none, Option.map_some, cnd_true, cnd_false, pickV_true, pickV_false, gd_true, gd_false, gdV_true, gdV_false, gdH_true, gdH_false, gdS_true, gdS_false, wt_ff, wt_tt, wt_ft, wt_tf, wt_undef, obH_some', extractV_tuple, nilCheckV_ptr, againK_normal, againK_exit, againK_ret, blockK_normal, blockK_same, blockK_ret, seqK_normal, seqK_exit, seqK_ret, fin_done, if_true', if_false', Bool.not_true, Bool.not_false, idx0, idx1, idx2, idx3, idx4, chk_nil_l, chk_nil_r, done_nm]
            exact ih' _ _ _ _ _ _ _ _ _ _ _ _ _ _ _ _ _ _ _ _ _ _ _ _ _ _ _ _ _ _ _ _ _ _ _ _ _ _ _ _ _ _ _ _ _ _ _ _ _ _ _ _ _ _ _ _ _ _ _ _ _ _ _ _ _ _ _ _ _ _ _ _ _ _ _ _ _ _ _ _ _ _ _ _ _ _ _ _ _ _ _ _ _ _ _ _ _ _ _ _ _ _ _ _ _ _ _ _ _ _ _ _ _ _ _ _ _ _ _ _ _ _ _ _ _ _ _ _ _ _ _ _ _ _ _ _ _ _ _ _ _ _ _ _ _ _ _ _ _ _ _ _ _ _ _ _ _ _ _ _ _ _ _ _ _ _ _ _ _ _ _ _ _ _ _ _ _ _ _ _ _ _ _ _ _ _ _ _ _ _ _ _ _ _ _ _ _ _ _ _ _ _ _ _ _ _ _ _ _
    · have ct : colT n a j k = colT n a j (k + 1) := by unfold colT; rw [if_neg hj, if_neg hj]
      rw [ct] at ac
      have ih' := ih (k + 1) h cv (by omega) sm ac
      rw [wS_succ] at ih'
      rcases (by omega : j < 0 ∨ (0 ≤ j ∧ (n : Int) ≤ j)) with hj0 | ⟨hj0, hj1⟩
      all_goals
        cases hw0 : (fine && wS a b k) with
        | false =>
          have : (fine && (wS a b k && wi1 a b k)) = false := by rw [← Bool.and_assoc, hw0]; rfl
          rw [this] at ih'
          simp -implicitDefEqProofs (disch := omega) only [dcT, dcF, hw1, ↓cnd_true, ↓cnd_false, ↓Option.bind_some, ↓obH_some', bin_add, bin_sub, bin_mul, bin_lss, bin_leq, bin_gtr, bin_geq, bin_eql, bin_neq, un_not, un_neg, Option.bind_some, Option.bind_none, Option.map_some, cnd_true, cnd_false, pickV_true, pickV_false, gd_true, gd_false, gdV_true, gdV_false, gdH_true, gdH_false, gdS_true, gdS_false, wt_ff, wt_tt, wt_ft, wt_tf, wt_undef, obH_some', extractV_tuple, nilCheckV_ptr, againK_normal, againK_exit, againK_ret, blockK_normal, blockK_same, blockK_ret, seqK_normal, seqK_exit, seqK_ret, fin_done, if_true', if_false', Bool.not_true, Bool.not_false, idx0, idx1, idx2, idx3, idx4, chk_nil_l, chk_nil_r, done_nm]
          exact ih' _ _ _ _ _ _ _ _ _ _ _ _ _ _ _ _ _ _ _ _ _ _ _ _ _ _ _ _ _ _ _ _ _ _ _ _ _ _ _ _ _ _ _ _ _ _ _ _ _ _ _ _ _ _ _ _ _ _ _ _ _ _ _ _ _ _ _ _ _ _ _ _ _ _ _ _ _ _ _ _ _ _ _ _ _ _ _ _ _ _ _ _ _ _ _ _ _ _ _ _ _ _ _ _ _ _ _ _ _ _ _ _ _ _ _ _ _ _ _ _ _ _ _ _ _ _ _ _ _ _ _ _ _ _ _ _ _ _ _ _ _ _ _ _ _ _ _ _ _ _ _ _ _ _ _ _ _ _ _ _ _ _ _ _ _ _ _ _ _ _ _ _ _ _ _ _ _ _ _ _ _ _ _ _ _ _ _ _ _ _ _ _ _ _ _ _ _ _ _ _ _ _ _ _ _ _ _ _ _
        | true =>
          obtain ⟨hfi, hws⟩ : fine = true ∧ wS a b k = true := by simpa using hw0
          have this : (fine && (wS a b k && wi1 a b k)) = wi1 a b k := by rw [hfi, hws]; rfl
          rw [this] at ih'
          obtain ⟨aa', x', bb, y, f1, f2, f3, f4, f5⟩ := cmp h sm hfi
          unfold wi1 at ih'
          subst hfi
          generalize cmpV (a.getD k []) (b.getD k []) = cc at *
          by_cases g0 : cc = 0
          · rw [decide_eq_true (by omega)] at ih'
            simp -implicitDefEqProofs (disch := omega) only [dcT, dcF, f1, f2, f3, f4, f5, hw1, ↓cnd_true, ↓cnd_false, ↓Option.bind_some, ↓obH_some', bin_add, bin_sub, bin_mul, bin_lss, bin_leq, bin_gtr, bin_geq, bin_eql, bin_neq, un_not, un_neg, Option.bind_some, Option.bind_none, Option.map_some, cnd_true, cnd_false, pickV_true, pickV_false, gd_true, gd_false, gdV_true, gdV_false, gdH_true, gdH_false, gdS_true, gdS_false, wt_ff, wt_tt, wt_ft, wt_tf, wt_undef, obH_some', extractV_tuple, nilCheckV_ptr, againK_normal, againK_exit, againK_ret, blockK_normal, blockK_same, blockK_ret, seqK_normal, seqK_exit, seqK_ret, fin_done, if_true', if_false', Bool.not_true, Bool.not_false, idx0, idx1, idx2, idx3, idx4, chk_nil_l, chk_nil_r, done_nm]
            exact ih' _ _ _ _ _ _ _ _ _ _ _ _ _ _ _ _ _ _ _ _ _ _ _ _ _ _ _ _ _ _ _ _ _ _ _ _ _ _ _ _ _ _ _ _ _ _ _ _ _ _ _ _ _ _ _ _ _ _ _ _ _ _ _ _ _ _ _ _ _ _ _ _ _ _ _ _ _ _ _ _ _ _ _ _ _ _ _ _ _ _ _ _ _ _ _ _ _ _ _ _ _ _ _ _ _ _ _ _ _ _ _ _ _ _ _ _ _ _ _ _ _ _ _ _ _ _ _ _ _ _ _ _ _ _ _ _ _ _ _ _ _ _ _ _ _ _ _ _ _ _ _ _ _ _ _ _ _ _ _ _ _ _ _ _ _ _ _ _ _ _ _ _ _ _ _ _ _ _ _ _ _ _ _ _ _ _ _ _ _ _ _ _ _ _ _ _ _ _ _ _ _ _ _ _ _ _ _ _ _
          · by_cases g1 : cc = -1
            · rw [decide_eq_true (by omega)] at ih'
              simp -implicitDefEqProofs (disch := omega) only [dcT, dcF, f1, f2, f3, f4, f5, hw1, ↓cnd_true, ↓cnd_false, ↓Option.bind_some, ↓obH_some', bin_add, bin_sub, bin_mul, bin_lss, bin_leq, bin_gtr, bin_geq, bin_eql, bin_neq, un_not, un_neg, Option.bind_some, Option.bind_none, Option.map_some, cnd_true, cnd_false, pickV_true, pickV_false, gd_true, gd_false, gdV_true, gdV_false, gdH_true, gdH_false, gdS_true, gdS_false, wt_ff, wt_tt, wt_ft, wt_tf, wt_undef, obH_some', extractV_tuple, nilCheckV_ptr, againK_normal, againK_exit, againK_ret, blockK_normal, blockK_same, blockK_ret, seqK_normal, seqK_exit, seqK_ret, fin_done, if_true', if_false', Bool.not_true, Bool.not_false, idx0, idx1, idx2, idx3, idx4, chk_nil_l, chk_nil_r, done_nm]
              exact ih' _ _ _ _ _ _ _ _ _ _ _ _ _ _ _ _ _ _ _ _ _ _ _ _ _ _ _ _ _ _ _ _ _ _ _ _ _ _ _ _ _ _ _ _ _ _ _ _ _ _ _ _ _ _ _ _ _ _ _ _ _ _ _ _ _ _ _ _ _ _ _ _ _ _ _ _ _ _ _ _ _ _ _ _ _ _ _ _ _ _ _ _ _ _ _ _ _ _ _ _ _ _ _ _ _ _ _ _ _ _ _ _ _ _ _ _ _ _ _ _ _ _ _ _ _ _ _ _ _ _ _ _ _ _ _ _ _ _ _ _ _ _ _ _ _ _ _ _ _ _ _ _ _ _ _ _ _ _ _ _ _ _ _ _ _ _ _ _ _ _ _ _ _ _ _ _ _ _ _ _ _ _ _ _ _ _ _ _ _ _ _ _ _ _ _ _ _ _ _ _ _ _ _ _ _ _ _ _ _
            · rw [decide_eq_false (by omega)] at ih'
              simp -implicitDefEqProofs (disch := omega) only [dcT, dcF, f1, f2, f3, f4, f5, hw1, ↓cnd_true, ↓cnd_false, ↓Option.bind_some, ↓obH_some', bin_add, bin_sub, bin_mul, bin_lss, bin_leq, bin_gtr, bin_geq, bin_eql, bin_neq, un_not, un_neg, Option.bind_some, Option.bind_none, Option.map_some, cnd_true, cnd_false, pickV_true, pickV_false, gd_true, gd_false, gdV_true, gdV_false, gdH_true, gdH_false, gdS_true, gdS_false, wt_ff, wt_tt, wt_ft, wt_tf, wt_undef, obH_some', extractV_tuple, nilCheckV_ptr, againK_normal, againK_exit, againK_ret, blockK_normal, blockK_same, blockK_ret, seqK_normal, seqK_exit, seqK_ret, fin_done, if_true', if_false', Bool.not_true, Bool.not_false, idx0, idx1, idx2, idx3, idx4, chk_nil_l, chk_nil_r, done_nm]
              exact ih' _ _ _ _ _ _ _ _ _ _ _ _ _ _ _ _ _ _ _ _ _ _ _ _ _ _ _ _ _ _ _ _ _ _ _ _ _ _ _ _ _ _ _ _ _ _ _ _ _ _ _ _ _ _ _ _ _ _ _ _ _ _ _ _ _ _ _ _ _ _ _ _ _ _ _ _ _ _ _ _ _ _ _ _ _ _ _ _ _ _ _ _ _ _ _ _ _ _ _ _ _ _ _ _ _ _ _ _ _ _ _ _ _ _ _ _ _ _ _ _ _ _ _ _ _ _ _ _ _ _ _ _ _ _ _ _ _ _ _ _ _ _ _ _ _ _ _ _ _ _ _ _ _ _ _ _ _ _ _ _ _ _ _ _ _ _ _ _ _ _ _ _ _ _ _ _ _ _ _ _ _ _ _ _ _ _ _ _ _ _ _ _ _ _ _ _ _ _ _ _ _ _ _ _ _ _ _ _ _
theorem intneqB (a b : Bool) : (!(a == b)) = (a != b) := rfl
theorem says16_mid {h0 h : Heap} {n : Int} {va vb xv yv : Value} {a b : List (List Nat)} {p q : Nat} {i j : Int} (cx : Cells h p 45 [.int .i64 n, xv]) (cy : Cells h q 45 [.int .i64 n, yv]) (sx : SM h xv a) (sy : SM h yv b) (sa : SM h va a) (sb : SM h vb b) (sma : Small a) (smb : Small b) (want : Nat) (hw : goodM n a = true → atM a i j = want)
    (x5 x6 x7 x8 x9 x10 x11 x12 x17 x18 x19 x24 x25 x26 x27 x28 x29 x30 x31 x32 x33 x34 x35 x36 x37 x38 x39 x40 x41 x42 x43 x44 x45 x46 x47 x48 x49 x50 x51 x52 x53 x54 x55 x56 x57 x58 x59 x60 x61 x62 x63 x64 x65 x66 x67 x68 x69 x70 x71 x72 x73 x74 x75 x76 x77 x78 x79 x80 x81 x82 x83 x84 x85 x86 x87 x88 x89 x90 x91 x92 x93 x94 x95 x96 x97 x98 x99 x100 x101 x102 x103 x104 x105 x106 x107 x108 x109 x110 x111 x112 x113 x114 x115 x116 x117 x118 x119 x120 x121 x122 x123 x124 x125 x126 x127 x128 x129 x130 x131 x132 x133 x134 x135 x136 x137 x138 x139 x140 x141 x142 x143 x144 x145 x146 x147 x148 x149 x150 x151 x152 x153 x154 x155 x156 x157 x158 x159 x160 x161 x162 x163 x164 x165 x166 x167 x168 x169 x170 x171 x172 x173 x174 x175 x176 x177 x178 x179 x180 x181 x182 x183 x184 x185 x186 x187 x188 x189 x190 x191 x192 x193 x194 x195 x196 x197 x198 x199 x200 x201 x202 x203 x204 x205 x206 x207 x208 x209 x210 x211 x212 x213 x214 x215 x216 x217 x218 x219 x220 x221 : Value) :
    ∃ h', loopK Try.prog (evC Try.prog) c11_1 ⟨#[.int .i64 n, va, vb, .int .i64 i, .int .i64 j, x5, x6, x7, x8, x9, x10, x11, x12, .pointer (some ⟨p, 0, none⟩), .pointer (some ⟨q, 0, none⟩), .bool (goodM n a), .bool (goodM n b), x17, x18, x19, .int .u64 want, .slice none 0 0, .bool (goodM n a && goodM n b), .int .i64 0, x24, x25, x26, x27, x28, x29, x30, x31, x32, x33, x34, x35, x36, x37, x38, x39, x40, x41, x42, x43, x44, x45, x46, x47, x48, x49, x50, x51, x52, x53, x54, x55, x56, x57, x58, x59, x60, x61, x62, x63, x64, x65, x66, x67, x68, x69, x70, x71, x72, x73, x74, x75, x76, x77, x78, x79, x80, x81, x82, x83, x84, x85, x86, x87, x88, x89, x90, x91, x92, x93, x94, x95, x96, x97, x98, x99, x100, x101, x102, x103, x104, x105, x106, x107, x108, x109, x110, x111, x112, x113, x114, x115, x116, x117, x118, x119, x120, x121, x122, x123, x124, x125, x126, x127, x128, x129, x130, x131, x132, x133, x134, x135, x136, x137, x138, x139, x140, x141, x142, x143, x144, x145, x146, x147, x148, x149, x150, x151, x152, x153, x154, x155, x156, x157, x158, x159, x160, x161, x162, x163, x164, x165, x166, x167, x168, x169, x170, x171, x172, x173, x174, x175, x176, x177, x178, x179, x180, x181, x182, x183, x184, x185, x186, x187, x188, x189, x190, x191, x192, x193, x194, x195, x196, x197, x198, x199, x200, x201, x202, x203, x204, x205, x206, x207, x208, x209, x210, x211, x212, x213, x214, x215, x216, x217, x218, x219, x220, x221], h⟩ (blockK 0 (seqK Try.prog (evC Try.prog) c11_2 (retK Try.f11 Try.prog h0))) = some (.bool true, h') := by
  by_cases g : goodM n a = true
  · have hga := (goodM_iff n a).1 g
    obtain ⟨n, rfl⟩ : ∃ k : Nat, n = k := ⟨n.toNat, by omega⟩
    have := says16_loop (h0 := h0) (i := i) cx cy sx sy sa sb g rfl smb (hw g) n 0 h (.slice none 0 0) (by omega) (Same.refl h) (by unfold colT; split <;> exact .nil)
    rw [g, Bool.true_and]
    rw [show wS a b 0 = true from rfl, Bool.and_true] at this
    exact this _ _ _ _ _ _ _ _ _ _ _ _ _ _ _ _ _ _ _ _ _ _ _ _ _ _ _ _ _ _ _ _ _ _ _ _ _ _ _ _ _ _ _ _ _ _ _ _ _ _ _ _ _ _ _ _ _ _ _ _ _ _ _ _ _ _ _ _ _ _ _ _ _ _ _ _ _ _ _ _ _ _ _ _ _ _ _ _ _ _ _ _ _ _ _ _ _ _ _ _ _ _ _ _ _ _ _ _ _ _ _ _ _ _ _ _ _ _ _ _ _ _ _ _ _ _ _ _ _ _ _ _ _ _ _ _ _ _ _ _ _ _ _ _ _ _ _ _ _ _ _ _ _ _ _ _ _ _ _ _ _ _ _ _ _ _ _ _ _ _ _ _ _ _ _ _ _ _ _ _ _ _ _ _ _ _ _ _ _ _ _ _ _ _ _ _ _ _ _ _ _ _ _ _ _ _ _ _ _
  · have g' : goodM n a = false := by simpa using g
    rw [loopK_eq evC_m, c11_1_eq, g', Bool.false_and]
    have hc : columnM n a j = [] := by unfold columnM; rw [if_neg (show ¬ okC n a j from fun x => g x.1)]
    have hin : withinM n n a b = false := by unfold withinM okJ; rw [g']; rfl
    have := fun x0 x1 x2 x5 x6 x7 x8 x9 x10 x11 x12 x16 x17 x18 x19 x23 x24 x25 x26 x27 x28 x29 x30 x31 x32 x33 x34 x35 x36 x37 x38 x39 x40 x41 x42 x43 x44 x45 x46 x47 x48 x49 x50 x51 x52 x53 x54 x55 x56 x57 x58 x59 x60 x61 x62 x63 x64 x65 x66 x67 x68 x69 x70 x71 x72 x73 x74 x75 x76 x77 x78 x79 x80 x81 x82 x83 x84 x85 x86 x87 x88 x89 x90 x91 x92 x93 x94 x95 x96 x97 x98 x99 x100 x101 x102 x103 x104 x105 x106 x107 x108 x109 x110 x111 x112 x113 x114 x115 x116 x117 x118 x119 x120 x121 x122 x123 x124 x125 x126 x127 x128 x129 x130 x131 x132 x133 x134 x135 x136 x137 x138 x139 x140 x141 x142 x143 x144 x145 x146 x147 x148 x149 x150 x151 x152 x153 x154 x155 x156 x157 x158 x159 x160 x161 x162 x163 x164 x165 x166 x167 x168 x169 x170 x171 x172 x173 x174 x175 x176 x177 x178 x179 x180 x181 x182 x183 x184 x185 x186 x187 x188 x189 x190 x191 x192 x193 x194 x195 x196 x197 x198 x199 x200 x201 x202 x203 x204 x205 x206 x207 x208 x209 x210 x211 x212 x213 x214 x215 x216 x217 x218 x219 x220 x221 => says16_end (h0 := h0) (i := i) (want := want) cx cy sx sy (Sl.nil (h := h) (es := 1) : SU h (.slice none 0 0) []) sma smb g' (fun e => by cases e) hc hin x0 x1 x2 x5 x6 x7 x8 x9 x10 x11 x12 x16 x17 x18 x19 x23 x24 x25 x26 x27 x28 x29 x30 x31 x32 x33 x34 x35 x36 x37 x38 x39 x40 x41 x42 x43 x44 x45 x46 x47 x48 x49 x50 x51 x52 x53 x54 x55 x56 x57 x58 x59 x60 x61 x62 x63 x64 x65 x66 x67 x68 x69 x70 x71 x72 x73 x74 x75 x76 x77 x78 x79 x80 x81 x82 x83 x84 x85 x86 x87 x88 x89 x90 x91 x92 x93 x94 x95 x96 x97 x98 x99 x100 x101 x102 x103 x104 x105 x106 x107 x108 x109 x110 x111 x112 x113 x114 x115 x116 x117 x118 x119 x120 x121 x122 x123 x124 x125 x126 x127 x128 x129 x130 x131 x132 x133 x134 x135 x136 x137 x138 x139 x140 x141 x142 x143 x144 x145 x146 x147 x148 x149 x150 x151 x152 x153 x154 x155 x156 x157 x158 x159 x160 x161 x162 x163 x164 x165 x166 x167 x168 x169 x170 x171 x172 x173 x174 x175 x176 x177 x178 x179 x180 x181 x182 x183 x184 x185 x186 x187 x188 x189 x190 x191 x192 x193 x194 x195 x196 x197 x198 x199 x200 x201 x202 x203 x204 x205 x206 x207 x208 x209 x210 x211 x212 x213 x214 x215 x216 x217 x218 x219 x220 x221
    by_cases hn : 0 < n
    · simp -implicitDefEqProofs (maxSteps := 1000000) (disch := omega) only [dcT, dcF, ↓cnd_true, ↓cnd_false, ↓Option.bind_some, ↓obH_some', bin_add, bin_sub, bin_mul, bin_lss, bin_leq, bin_gtr, bin_geq, bin_eql, bin_neq, un_not, un_neg, Option.bind_some, Option.bind_none, Option.map_some, cnd_true, cnd_false, pickV_true, pickV_false, gd_true, gd_false, gdV_true, gdV_false, gdH_true, gdH_false, gdS_true, gdS_false, wt_ff, wt_tt, wt_ft, wt_tf, wt_undef, obH_some', extractV_tuple, nilCheckV_ptr, againK_normal, againK_exit, againK_ret, blockK_normal, blockK_same, blockK_ret, seqK_normal, seqK_exit, seqK_ret, fin_done, if_true', if_false', Bool.not_true, Bool.not_false, idx0, idx1, idx2, idx3, idx4, chk_nil_l, chk_nil_r, done_nm]
      exact this _ _ _ _ _ _ _ _ _ _ _ _ _ _ _ _ _ _ _ _ _ _ _ _ _ _ _ _ _ _ _ _ _ _ _ _ _ _ _ _ _ _ _ _ _ _ _ _ _ _ _ _ _ _ _ _ _ _ _ _ _ _ _ _ _ _ _ _ _ _ _ _ _ _ _ _ _ _ _ _ _ _ _ _ _ _ _ _ _ _ _ _ _ _ _ _ _ _ _ _ _ _ _ _ _ _ _ _ _ _ _ _ _ _ _ _ _ _ _ _ _ _ _ _ _ _ _ _ _ _ _ _ _ _ _ _ _ _ _ _ _ _ _ _ _ _ _ _ _ _ _ _ _ _ _ _ _ _ _ _ _ _ _ _ _ _ _ _ _ _ _ _ _ _ _ _ _ _ _ _ _ _ _ _ _ _ _ _ _ _ _ _ _ _ _ _ _ _ _ _ _ _ _ _ _ _ _ _ _ _ _ _ _ _
    · simp -implicitDefEqProofs (maxSteps := 1000000) (disch := omega) only [dcT, dcF, ↓cnd_true, ↓cnd_false, ↓Option.bind_some, ↓obH_some', bin_add, bin_sub, bin_mul, bin_lss, bin_leq, bin_gtr, bin_geq, bin_eql, bin_neq, un_not, un_neg, Option.bind_some, Option.bind_none, Option.map_some, cnd_true, cnd_false, pickV_true, pickV_false, gd_true, gd_false, gdV_true, gdV_false, gdH_true, gdH_false, gdS_true, gdS_false, wt_ff, wt_tt, wt_ft, wt_tf, wt_undef, obH_some', extractV_tuple, nilCheckV_ptr, againK_normal, againK_exit, againK_ret, blockK_normal, blockK_same, blockK_ret, seqK_normal, seqK_exit, seqK_ret, fin_done, if_true', if_false', Bool.not_true, Bool.not_false, idx0, idx1, idx2, idx3, idx4, chk_nil_l, chk_nil_r, done_nm]
      exact this _ _ _ _ _ _ _ _ _ _ _ _ _ _ _ _ _ _ _ _ _ _ _ _ _ _ _ _ _ _ _ _ _ _ _ _ _ _ _ _ _ _ _ _ _ _ _ _ _ _ _ _ _ _ _ _ _ _ _ _ _ _ _ _ _ _ _ _ _ _ _ _ _ _ _ _ _ _ _ _ _ _ _ _ _ _ _ _ _ _ _ _ _ _ _ _ _ _ _ _ _ _ _ _ _ _ _ _ _ _ _ _ _ _ _ _ _ _ _ _ _ _ _ _ _ _ _ _ _ _ _ _ _ _ _ _ _ _ _ _ _ _ _ _ _ _ _ _ _ _ _ _ _ _ _ _ _ _ _ _ _ _ _ _ _ _ _ _ _ _ _ _ _ _ _ _ _ _ _ _ _ _ _ _ _ _ _ _ _ _ _ _ _ _ _ _ _ _ _ _ _ _ _ _ _ _ _ _ _ _ _ _ _ _
theorem upM_small {n : Int} {m : List (List Nat)} {i : Int} {to : Nat} (s : Small m) : Small (upM n m i to) := by
  unfold upM
  split
  · rename_i h
    obtain ⟨g, h0, h1⟩ := h
    have hg := (goodM_iff n m).1 g
    refine ⟨by rw [List.length_set]; exact s.1, fun k => ?_⟩
    rw [List.getD_eq_getElem?_getD, List.getElem?_set]
    by_cases e : i.toNat = k
    · subst e; rw [if_pos rfl, if_pos (by omega)]; simp only [Option.getD_some, up1_len]; exact s.2 _
    · rw [if_neg e, ← List.getD_eq_getElem?_getD]; exact s.2 k
  · exact s
theorem joinM_small {a b : List (List Nat)} (s : Small a) (t : Small b) : Small (joinM a b) := by
  refine ⟨by rw [joinM_len]; exact s.1, fun k => ?_⟩
  by_cases hk : k < a.length
  · rw [joinM_get a b k hk, joinV_len]; have := s.2 k; have := t.2 k; omega
  · rw [List.getD_eq_getElem?_getD, List.getElem?_eq_none (by rw [joinM_len]; omega)]; simp
theorem mlaw_MatSays (n : Int) (va vb : Value) (a b : List (List Nat)) (i j : Int) (to : Nat) (h : Heap) (sa : SM h va a) (sb : SM h vb b) (ha64 : ∀ r ∈ a, ∀ y ∈ r, y < 2 ^ 64) (hto : to < 2 ^ 64) : ∃ h', evC Try.prog 11 #[.int .i64 n, va, vb, .int .i64 i, .int .i64 j, .int .u64 to] h = some (.bool true, h') := by
  rw [call11, c11_0_eq]
  obtain ⟨h1, e1, x1⟩ := spec_awake16 (nm h)
  have sa1 := sa.nm.ext x1
  have sb1 := sb.nm.ext x1
  have ha := spec_heavy sa1
  have hb := spec_heavy sb1
  by_cases c1 : heavyB a = true
  · rw [c1] at ha
    simp -implicitDefEqProofs (disch := omega) only [e1, ha, ↓ret11, ↓cnd_true, ↓cnd_false, ↓Option.bind_some, ↓obH_some', bin_add, bin_sub, bin_mul, bin_lss, bin_leq, bin_gtr, bin_geq, bin_eql, bin_neq, un_not, un_neg, Option.bind_some, Option.bind_none, Option.map_some, cnd_true, cnd_false, pickV_true, pickV_false, gd_true, gd_false, gdV_true, gdV_false, gdH_true, gdH_false, gdS_true, gdS_false, wt_ff, wt_tt, wt_ft, wt_tf, wt_undef, obH_some', extractV_tuple, nilCheckV_ptr, againK_normal, againK_exit, againK_ret, blockK_normal, blockK_same, blockK_ret, seqK_normal, seqK_exit, seqK_ret, fin_done, if_true', if_false', Bool.not_true, Bool.not_false, idx0, idx1, idx2, idx3, idx4, chk_nil_l, chk_nil_r, done_nm]
    exact ⟨_, rfl⟩
  have c1' : heavyB a = false := by simpa using c1
  rw [c1'] at ha
  by_cases c2 : heavyB b = true
  · rw [c2] at hb
    simp -implicitDefEqProofs (disch := omega) only [e1, ha, hb, ↓ret11, ↓cnd_true, ↓cnd_false, ↓Option.bind_some, ↓obH_some', bin_add, bin_sub, bin_mul, bin_lss, bin_leq, bin_gtr, bin_geq, bin_eql, bin_neq, un_not, un_neg, Option.bind_some, Option.bind_none, Option.map_some, cnd_true, cnd_false, pickV_true, pickV_false, gd_true, gd_false, gdV_true, gdV_false, gdH_true, gdH_false, gdS_true, gdS_false, wt_ff, wt_tt, wt_ft, wt_tf, wt_undef, obH_some', extractV_tuple, nilCheckV_ptr, againK_normal, againK_exit, againK_ret, blockK_normal, blockK_same, blockK_ret, seqK_normal, seqK_exit, seqK_ret, fin_done, if_true', if_false', Bool.not_true, Bool.not_false, idx0, idx1, idx2, idx3, idx4, chk_nil_l, chk_nil_r, done_nm]
    exact ⟨_, rfl⟩
  have c2' : heavyB b = false := by simpa using c2
  rw [c2'] at hb
  have sma := heavy_Small c1'
  have smb := heavy_Small c2'
  have smu := upM_small (n := n) (i := i) (to := to) sma
  have smj := joinM_small sma smb
  obtain ⟨x, h2, e2, x2, sx2⟩ := spec_mat1 n sa1 sma.1
  obtain ⟨y, h3, e3, x3, sy3⟩ := spec_mat1 n (sb1.ext x2) smb.1
  obtain ⟨xa, xc, rfl⟩ := sx2.shape
  obtain ⟨ya, yc, rfl⟩ := sy3.shape
  have sx3 := sx2.ext x3
  have sa3 := (sa1.ext x2).ext x3
  have sb3 := (sb1.ext x2).ext x3
  have k4 := alM h3
  have c4x := Cells.new h3 45 [.int .i64 0, .slice none 0 0]
  have t4 := Same.new h3 (.cells [.int .i64 0, .slice none 0 0]) 45
  have l4 : (h3.new (.cells [.int .i64 0, .slice none 0 0]) 45).blks.length = h3.blks.length + 1 := by simp [Heap.new]
  generalize h3.new (.cells [.int .i64 0, .slice none 0 0]) 45 = h4 at *
  have k5 := alM h4
  have c5y := Cells.new h4 45 [.int .i64 0, .slice none 0 0]
  have c5x := c4x.keepNew (.cells [.int .i64 0, .slice none 0 0]) 45
  have t5 := t4.trans (Same.new h4 (.cells [.int .i64 0, .slice none 0 0]) 45)
  generalize h4.new (.cells [.int .i64 0, .slice none 0 0]) 45 = h5 at *
  have st6 := storeN_blk c5x (o := 0) (vs := [.int .i64 n, .slice xa a.length xc]) (by simp)
  rw [w2_put, ← stM h3.blks.length .i64] at st6
  have c6x := c5x.put [.int .i64 n, .slice xa a.length xc]
  have c6y := c5y.keepPut (q := h3.blks.length) (by omega) (.cells [.int .i64 n, .slice xa a.length xc])
  have t6 := t5.put (p := h3.blks.length) (Nat.le_refl _) (.cells [.int .i64 n, .slice xa a.length xc])
  generalize h5.put h3.blks.length (.cells [.int .i64 n, .slice xa a.length xc]) = h6 at *
  have st7 := storeN_blk c6y (o := 0) (vs := [.int .i64 n, .slice ya b.length yc]) (by simp)
  rw [w2_put, ← stM h4.blks.length .i64] at st7
  have c7x := c6x.keepPut (q := h4.blks.length) (by omega) (.cells [.int .i64 n, .slice ya b.length yc])
  have c7y := c6y.put [.int .i64 n, .slice ya b.length yc]
  have t7 := t6.put (p := h4.blks.length) (by omega) (.cells [.int .i64 n, .slice ya b.length yc])
  generalize h6.put h4.blks.length (.cells [.int .i64 n, .slice ya b.length yc]) = h7 at *
  have sx := sx3.same t7
  have sy := sy3.same t7
  have sa7 := sa3.same t7
  have sb7 := sb3.same t7
  have g1 := spec_GoodMat (n := n) sa7
  have g2 := spec_GoodMat (n := n) sb7
  obtain ⟨vu, h8, e8, x8, a8⟩ := spec_MUp (n := n) sx sma ha64 i to hto
  obtain ⟨ua, uc, rfl⟩ := a8.shape
  have k9 := alM h8
  have k9' := mvar (h := h8) n ua (upM n a i to).length uc
  have c9 := mvar_cells h8 [.int .i64 0, .slice none 0 0] [.int .i64 n, .slice ua (upM n a i to).length uc] 45
  have t9 := mvar_same h8 (.cells [.int .i64 0, .slice none 0 0]) (.cells [.int .i64 n, .slice ua (upM n a i to).length uc]) 45
  generalize (h8.new (.cells [.int .i64 0, .slice none 0 0]) 45).put h8.blks.length (.cells [.int .i64 n, .slice ua (upM n a i to).length uc]) = h9 at *
  have T9 := x8.same.trans t9
  have su := a8.smV.same t9
  have cx9 := c7x.same T9
  have cy9 := c7y.same T9
  obtain ⟨vc, h10, e10, x10, a10⟩ := spec_MJoin (n := n) (n2 := n) (sx.same T9) (sy.same T9) sma smb
  have eok : okJ n n a b = (goodM n a && goodM n b) := by unfold okJ; rw [decide_eq_true rfl, Bool.and_true]
  rw [eok] at e10 a10
  generalize hcn : (if (goodM n a && goodM n b) = true then n else 0) = cn at *
  generalize hcm : (if (goodM n a && goodM n b) = true then joinM a b else []) = cm at *
  obtain ⟨ca, cc, rfl⟩ := a10.shape
  have k11 := alM h10
  have k11' := mvar (h := h10) cn ca cm.length cc
  have c11 := mvar_cells h10 [.int .i64 0, .slice none 0 0] [.int .i64 cn, .slice ca cm.length cc] 45
  have t11 := mvar_same h10 (.cells [.int .i64 0, .slice none 0 0]) (.cells [.int .i64 cn, .slice ca cm.length cc]) 45
  generalize (h10.new (.cells [.int .i64 0, .slice none 0 0]) 45).put h10.blks.length (.cells [.int .i64 cn, .slice ca cm.length cc]) = h11 at *
  have T11 := x10.same.trans t11
  have sc := a10.smV.same t11
  have su11 := su.same T11
  have X := (sx.same T9).same T11
  have Y := (sy.same T9).same T11
  have A := (sa7.same T9).same T11
  have B := (sb7.same T9).same T11
  have CX := cx9.same T11
  have CY := cy9.same T11
  have CU := c9.same T11
  obtain ⟨h12, e12, x12⟩ := spec_Good (n := n) X (by have := sma.1; omega)
  obtain ⟨r1, h13, e13, x13, s13⟩ := spec_rowsM (n := n) (su11.ext x12) smu.1
  obtain ⟨r2, h14, e14, x14, s14⟩ := spec_UpMat (n := n) ((A.ext x12).ext x13) sma ha64 i to hto
  have e15 := spec_squares (s13.ext x14) s14.smW smu smu
  rw [decide_eq_true rfl] at e15
  have SC := ((sc.ext x12).ext x13).ext x14
  have CC := ((c11.ext x12).ext x13).ext x14
  have X' := ((X.ext x12).ext x13).ext x14
  have Y' := ((Y.ext x12).ext x13).ext x14
  have A' := ((A.ext x12).ext x13).ext x14
  have B' := ((B.ext x12).ext x13).ext x14
  have CX' := ((CX.ext x12).ext x13).ext x14
  have CY' := ((CY.ext x12).ext x13).ext x14
  have lc := SC.lenRV
  have want : ∀ {hh : Heap} (A2 : SM hh va a), goodM n a = true → 0 ≤ i → i < n → 0 ≤ j → j < n → ∃ aa xx bb, indexAddrV Try.prog 56 va (.int .i64 i) = some (.pointer (some aa)) ∧ loadV Try.prog 22 (.pointer (some aa)) hh = some xx ∧ indexAddrV Try.prog 22 xx (.int .i64 j) = some (.pointer (some bb)) ∧
      loadV Try.prog 29 (.pointer (some bb)) hh = some (.int .u64 (atM a i j : Nat)) := by
    intro hh A2 g i0 i1 j0 j1
    have hga := (goodM_iff n a).1 g
    obtain ⟨i, rfl⟩ : ∃ k : Nat, i = k := ⟨i.toNat, by omega⟩
    obtain ⟨j, rfl⟩ : ∃ k : Nat, j = k := ⟨j.toNat, by omega⟩
    obtain ⟨aa, xx, f1, f2, f3⟩ := A2.atW (i := i) (by omega)
    have hr := goodM_rows g (i := i) (by omega)
    obtain ⟨bb, f4, f5⟩ := su_at f3 etU.under (i := j) (by omega)
    refine ⟨aa, xx, bb, f1, f2, f4, ?_⟩
    rw [f5]
    unfold atM
    rw [if_neg (by omega), Int.toNat_natCast, atI_nat]
  have noat : goodM n a = true → ¬ (0 ≤ i ∧ i < n ∧ 0 ≤ j ∧ j < n) → atM a i j = 0 := by
    intro g hn
    have hga := (goodM_iff n a).1 g
    unfold atM
    by_cases i0 : i < 0
    · rw [if_pos i0]
    · rw [if_neg i0]
      unfold atI
      by_cases j0 : j < 0
      · rw [if_pos j0]
      · rw [if_neg j0]
        by_cases i1 : i < n
        · have hr := goodM_rows g (i := i.toNat) (by omega)
          rw [List.getD_eq_getElem?_getD, List.getElem?_eq_none (by omega)]; rfl
        · have : a.getD i.toNat [] = [] := by rw [List.getD_eq_getElem?_getD, List.getElem?_eq_none (by omega)]; rfl
          rw [this]; rfl
  have beqT : (true == true) = true := rfl
  have beqF : (false == false) = true := rfl
  have bneTF : (true == false) = false := rfl
  have bneFT : (false == true) = false := rfl
  by_cases g : goodM n a = true
  · by_cases f : goodM n b = true
    · have hga := (goodM_iff n a).1 g
      have hgb := (goodM_iff n b).1 f
      simp only [g, f, Bool.and_self, if_true] at hcn hcm e10 e12 g1 g2
      subst hcn
      subst hcm
      obtain ⟨r3, h16, e16, x16, s16⟩ := spec_rowsM (n := n) SC smj.1
      obtain ⟨r4, h17, e17, x17, s17⟩ := spec_JoinMat (A'.ext x16) (B'.ext x16) sma smb (by omega)
      have e18 := spec_squares (s16.ext x17) s17.smW smj smj
      rw [decide_eq_true rfl] at e18
      by_cases hij : 0 ≤ i ∧ i < n ∧ 0 ≤ j ∧ j < n
      · obtain ⟨i0, i1, j0, j1⟩ := hij
        obtain ⟨wa, wx, wb, w1, w2, w3, w4⟩ := want (hh := h17) ((A'.ext x16).ext x17) g i0 i1 j0 j1
        have md := says16_mid (h0 := h) (i := i) (j := j) ((CX'.ext x16).ext x17) ((CY'.ext x16).ext x17) ((X'.ext x16).ext x17) ((Y'.ext x16).ext x17) ((A'.ext x16).ext x17) ((B'.ext x16).ext x17) sma smb (atM a i j) (fun _ => rfl)
        rw [g, f] at md
        simp -implicitDefEqProofs (maxSteps := 1000000) (disch := omega) only [dcT, dcF, e1, ha, hb, e2, e3, k4, k5, st6, st7, g1, g2, ldM' c7x, e8, k9, k9', ldM' cx9, ldM' cy9, e10, k11, k11', ldM' CX, e12, vbneq, vbeql, beqT, beqF, bneTF, bneFT, faM0, faM1, mldInt, ldRs, (CU.ext x12).load, ldM' (CU.ext x12), e13, e14, e15, two1, two2, lc, CC.load, eq_self, decide_true, Bool.not_true, Bool.not_false, ne_eq, not_true_eq_false, decide_false, idx0, idx1, ldM' CC, e16, e17, e18, w1, w2, w3, w4, ↓ret11, ↓cnd_true, ↓cnd_false, ↓Option.bind_some, ↓obH_some', bin_add, bin_sub, bin_mul, bin_lss, bin_leq, bin_gtr, bin_geq, bin_eql, bin_neq, un_not, un_neg, Option.bind_some, Option.bind_none, Option.map_some, cnd_true, cnd_false, pickV_true, pickV_false, gd_true, gd_false, gdV_true, gdV_false, gdH_true, gdH_false, gdS_true, gdS_false, wt_ff, wt_tt, wt_ft, wt_tf, wt_undef, obH_some', extractV_tuple, nilCheckV_ptr, againK_normal, againK_exit, againK_ret, blockK_normal, blockK_same, blockK_ret, seqK_normal, seqK_exit, seqK_ret, fin_done, if_true', if_false', Bool.not_true, Bool.not_false, idx0, idx1, idx2, idx3, idx4, chk_nil_l, chk_nil_r, done_nm]
        exact md _ _ _ _ _ _ _ _ _ _ _ _ _ _ _ _ _ _ _ _ _ _ _ _ _ _ _ _ _ _ _ _ _ _ _ _ _ _ _ _ _ _ _ _ _ _ _ _ _ _ _ _ _ _ _ _ _ _ _ _ _ _ _ _ _ _ _ _ _ _ _ _ _ _ _ _ _ _ _ _ _ _ _ _ _ _ _ _ _ _ _ _ _ _ _ _ _ _ _ _ _ _ _ _ _ _ _ _ _ _ _ _ _ _ _ _ _ _ _ _ _ _ _ _ _ _ _ _ _ _ _ _ _ _ _ _ _ _ _ _ _ _ _ _ _ _ _ _ _ _ _ _ _ _ _ _ _ _ _ _ _ _ _ _ _ _ _ _ _ _ _ _ _ _ _ _ _ _ _ _ _ _ _ _ _ _ _ _ _ _ _ _ _ _ _ _ _ _ _ _ _ _ _ _ _ _ _ _ _
      · have md := says16_mid (h0 := h) (i := i) (j := j) ((CX'.ext x16).ext x17) ((CY'.ext x16).ext x17) ((X'.ext x16).ext x17) ((Y'.ext x16).ext x17) ((A'.ext x16).ext x17) ((B'.ext x16).ext x17) sma smb 0 (fun g => noat g hij)
        rw [g, f] at md
        rcases (by omega : i < 0 ∨ (0 ≤ i ∧ n ≤ i) ∨ (0 ≤ i ∧ i < n ∧ j < 0) ∨ (0 ≤ i ∧ i < n ∧ 0 ≤ j ∧ n ≤ j)) with z | ⟨z1, z2⟩ | ⟨z1, z2, z3⟩ | ⟨z1, z2, z3, z4⟩ <;>
        · simp -implicitDefEqProofs (maxSteps := 1000000) (disch := omega) only [dcT, dcF, e1, ha, hb, e2, e3, k4, k5, st6, st7, g1, g2, ldM' c7x, e8, k9, k9', ldM' cx9, ldM' cy9, e10, k11, k11', ldM' CX, e12, vbneq, vbeql, beqT, beqF, bneTF, bneFT, faM0, faM1, mldInt, ldRs, (CU.ext x12).load, ldM' (CU.ext x12), e13, e14, e15, two1, two2, lc, CC.load, eq_self, decide_true, Bool.not_true, Bool.not_false, ne_eq, not_true_eq_false, decide_false, idx0, idx1, ldM' CC, e16, e17, e18, ↓ret11, ↓cnd_true, ↓cnd_false, ↓Option.bind_some, ↓obH_some', bin_add, bin_sub, bin_mul, bin_lss, bin_leq, bin_gtr, bin_geq, bin_eql, bin_neq, un_not, un_neg, Option.bind_some, Option.bind_none, Option.map_some, cnd_true, cnd_false, pickV_true, pickV_false, gd_true, gd_false, gdV_true, gdV_false, gdH_true, gdH_false, gdS_true, gdS_false, wt_ff, wt_tt, wt_ft, wt_tf, wt_undef, obH_some', extractV_tuple, nilCheckV_ptr, againK_normal, againK_exit, againK_ret, blockK_normal, blockK_same, blockK_ret, seqK_normal, seqK_exit, seqK_ret, fin_done, if_true', if_false', Bool.not_true, Bool.not_false, idx0, idx1, idx2, idx3, idx4, chk_nil_l, chk_nil_r, done_nm]
          exact md _ _ _ _ _ _ _ _ _ _ _ _ _ _ _ _ _ _ _ _ _ _ _ _ _ _ _ _ _ _ _ _ _ _ _ _ _ _ _ _ _ _ _ _ _ _ _ _ _ _ _ _ _ _ _ _ _ _ _ _ _ _ _ _ _ _ _ _ _ _ _ _ _ _ _ _ _ _ _ _ _ _ _ _ _ _ _ _ _ _ _ _ _ _ _ _ _ _ _ _ _ _ _ _ _ _ _ _ _ _ _ _ _ _ _ _ _ _ _ _ _ _ _ _ _ _ _ _ _ _ _ _ _ _ _ _ _ _ _ _ _ _ _ _ _ _ _ _ _ _ _ _ _ _ _ _ _ _ _ _ _ _ _ _ _ _ _ _ _ _ _ _ _ _ _ _ _ _ _ _ _ _ _ _ _ _ _ _ _ _ _ _ _ _ _ _ _ _ _ _ _ _ _ _ _ _ _ _ _
    · have f' : goodM n b = false := by simpa using f
      simp only [g, f', Bool.and_false, Bool.false_eq_true, if_false] at hcn hcm e10 e12 g1 g2
      subst hcn
      subst hcm
      simp only [List.length_nil] at lc k11' e10 CC
      have f := f'
      by_cases hij : 0 ≤ i ∧ i < n ∧ 0 ≤ j ∧ j < n
      · obtain ⟨i0, i1, j0, j1⟩ := hij
        obtain ⟨wa, wx, wb, w1, w2, w3, w4⟩ := want (hh := h14) A' g i0 i1 j0 j1
        have md := says16_mid (h0 := h) (i := i) (j := j) CX' CY' X' Y' A' B' sma smb (atM a i j) (fun _ => rfl)
        rw [g, f] at md
        simp -implicitDefEqProofs (maxSteps := 1000000) (disch := omega) only [dcT, dcF, e1, ha, hb, e2, e3, k4, k5, st6, st7, g1, g2, ldM' c7x, e8, k9, k9', ldM' cx9, ldM' cy9, e10, k11, k11', ldM' CX, e12, vbneq, vbeql, beqT, beqF, bneTF, bneFT, faM0, faM1, mldInt, ldRs, (CU.ext x12).load, ldM' (CU.ext x12), e13, e14, e15, two1, two2, lc, CC.load, eq_self, decide_true, Bool.not_true, Bool.not_false, ne_eq, not_true_eq_false, decide_false, idx0, idx1, List.length_nil, w1, w2, w3, w4, ↓ret11, ↓cnd_true, ↓cnd_false, ↓Option.bind_some, ↓obH_some', bin_add, bin_sub, bin_mul, bin_lss, bin_leq, bin_gtr, bin_geq, bin_eql, bin_neq, un_not, un_neg, Option.bind_some, Option.bind_none, Option.map_some, cnd_true, cnd_false, pickV_true, pickV_false, gd_true, gd_false, gdV_true, gdV_false, gdH_true, gdH_false, gdS_true, gdS_false, wt_ff, wt_tt, wt_ft, wt_tf, wt_undef, obH_some', extractV_tuple, nilCheckV_ptr, againK_normal, againK_exit, againK_ret, blockK_normal, blockK_same, blockK_ret, seqK_normal, seqK_exit, seqK_ret, fin_done, if_true', if_false', Bool.not_true, Bool.not_false, idx0, idx1, idx2, idx3, idx4, chk_nil_l, chk_nil_r, done_nm]
        exact md _ _ _ _ _ _ _ _ _ _ _ _ _ _ _ _ _ _ _ _ _ _ _ _ _ _ _ _ _ _ _ _ _ _ _ _ _ _ _ _ _ _ _ _ _ _ _ _ _ _ _ _ _ _ _ _ _ _ _ _ _ _ _ _ _ _ _ _ _ _ _ _ _ _ _ _ _ _ _ _ _ _ _ _ _ _ _ _ _ _ _ _ _ _ _ _ _ _ _ _ _ _ _ _ _ _ _ _ _ _ _ _ _ _ _ _ _ _ _ _ _ _ _ _ _ _ _ _ _ _ _ _ _ _ _ _ _ _ _ _ _ _ _ _ _ _ _ _ _ _ _ _ _ _ _ _ _ _ _ _ _ _ _ _ _ _ _ _ _ _ _ _ _ _ _ _ _ _ _ _ _ _ _ _ _ _ _ _ _ _ _ _ _ _ _ _ _ _ _ _ _ _ _ _ _ _ _ _ _
      · have md := says16_mid (h0 := h) (i := i) (j := j) CX' CY' X' Y' A' B' sma smb 0 (fun g => noat g hij)
        rw [g, f] at md
        rcases (by omega : i < 0 ∨ (0 ≤ i ∧ n ≤ i) ∨ (0 ≤ i ∧ i < n ∧ j < 0) ∨ (0 ≤ i ∧ i < n ∧ 0 ≤ j ∧ n ≤ j)) with z | ⟨z1, z2⟩ | ⟨z1, z2, z3⟩ | ⟨z1, z2, z3, z4⟩ <;>
        · simp -implicitDefEqProofs (maxSteps := 1000000) (disch := omega) only [dcT, dcF, e1, ha, hb, e2, e3, k4, k5, st6, st7, g1, g2, ldM' c7x, e8, k9, k9', ldM' cx9, ldM' cy9, e10, k11, k11', ldM' CX, e12, vbneq, vbeql, beqT, beqF, bneTF, bneFT, faM0, faM1, mldInt, ldRs, (CU.ext x12).load, ldM' (CU.ext x12), e13, e14, e15, two1, two2, lc, CC.load, eq_self, decide_true, Bool.not_true, Bool.not_false, ne_eq, not_true_eq_false, decide_false, idx0, idx1, List.length_nil, ↓ret11, ↓cnd_true, ↓cnd_false, ↓Option.bind_some, ↓obH_some', bin_add, bin_sub, bin_mul, bin_lss, bin_leq, bin_gtr, bin_geq, bin_eql, bin_neq, un_not, un_neg, Option.bind_some, Option.bind_none, Option.map_some, cnd_true, cnd_false, pickV_true, pickV_false, gd_true, gd_false, gdV_true, gdV_false, gdH_true, gdH_false, gdS_true, gdS_false, wt_ff, wt_tt, wt_ft, wt_tf, wt_undef, obH_some', extractV_tuple, nilCheckV_ptr, againK_normal, againK_exit, againK_ret, blockK_normal, blockK_same, blockK_ret, seqK_normal, seqK_exit, seqK_ret, fin_done, if_true', if_false', Bool.not_true, Bool.not_false, idx0, idx1, idx2, idx3, idx4, chk_nil_l, chk_nil_r, done_nm]
          exact md _ _ _ _ _ _ _ _ _ _ _ _ _ _ _ _ _ _ _ _ _ _ _ _ _ _ _ _ _ _ _ _ _ _ _ _ _ _ _ _ _ _ _ _ _ _ _ _ _ _ _ _ _ _ _ _ _ _ _ _ _ _ _ _ _ _ _ _ _ _ _ _ _ _ _ _ _ _ _ _ _ _ _ _ _ _ _ _ _ _ _ _ _ _ _ _ _ _ _ _ _ _ _ _ _ _ _ _ _ _ _ _ _ _ _ _ _ _ _ _ _ _ _ _ _ _ _ _ _ _ _ _ _ _ _ _ _ _ _ _ _ _ _ _ _ _ _ _ _ _ _ _ _ _ _ _ _ _ _ _ _ _ _ _ _ _ _ _ _ _ _ _ _ _ _ _ _ _ _ _ _ _ _ _ _ _ _ _ _ _ _ _ _ _ _ _ _ _ _ _ _ _ _ _ _ _ _ _ _
  · have g' : goodM n a = false := by simpa using g
    simp only [g', Bool.false_and, Bool.false_eq_true, if_false] at hcn hcm e10 e12 g1 g2
    subst hcn
    subst hcm
    simp only [List.length_nil] at lc k11' e10 CC
    obtain ⟨f0, f⟩ : ∃ q, goodM n b = q := ⟨_, rfl⟩
    rw [f] at g2
    cases f0
    all_goals
        have md := says16_mid (h0 := h) (i := i) (j := j) CX' CY' X' Y' A' B' sma smb 0 (fun e => absurd e g)
        rw [g', f] at md
        simp -implicitDefEqProofs (maxSteps := 1000000) (disch := omega) only [dcT, dcF, e1, ha, hb, e2, e3, k4, k5, st6, st7, g1, g2, ldM' c7x, e8, k9, k9', ldM' cx9, ldM' cy9, e10, k11, k11', ldM' CX, e12, vbneq, vbeql, beqT, beqF, bneTF, bneFT, faM0, faM1, mldInt, ldRs, (CU.ext x12).load, ldM' (CU.ext x12), e13, e14, e15, two1, two2, lc, CC.load, eq_self, decide_true, Bool.not_true, Bool.not_false, ne_eq, not_true_eq_false, decide_false, idx0, idx1, List.length_nil, ↓ret11, ↓cnd_true, ↓cnd_false, ↓Option.bind_some, ↓obH_some', bin_add, bin_sub, bin_mul, bin_lss, bin_leq, bin_gtr, bin_geq, bin_eql, bin_neq, un_not, un_neg, Option.bind_some, Option.bind_none, Option.map_some, cnd_true, cnd_false, pickV_true, pickV_false, gd_true, gd_false, gdV_true, gdV_false, gdH_true, gdH_false, gdS_true, gdS_false, wt_ff, wt_tt, wt_ft, wt_tf, wt_undef, obH_some', extractV_tuple, nilCheckV_ptr, againK_normal, againK_exit, againK_ret, blockK_normal, blockK_same, blockK_ret, seqK_normal, seqK_exit, seqK_ret, fin_done, if_true', if_false', Bool.not_true, Bool.not_false, idx0, idx1, idx2, idx3, idx4, chk_nil_l, chk_nil_r, done_nm]
        exact md _ _ _ _ _ _ _ _ _ _ _ _ _ _ _ _ _ _ _ _ _ _ _ _ _ _ _ _ _ _ _ _ _ _ _ _ _ _ _ _ _ _ _ _ _ _ _ _ _ _ _ _ _ _ _ _ _ _ _ _ _ _ _ _ _ _ _ _ _ _ _ _ _ _ _ _ _ _ _ _ _ _ _ _ _ _ _ _ _ _ _ _ _ _ _ _ _ _ _ _ _ _ _ _ _ _ _ _ _ _ _ _ _ _ _ _ _ _ _ _ _ _ _ _ _ _ _ _ _ _ _ _ _ _ _ _ _ _ _ _ _ _ _ _ _ _ _ _ _ _ _ _ _ _ _ _ _ _ _ _ _ _ _ _ _ _ _ _ _ _ _ _ _ _ _ _ _ _ _ _ _ _ _ _ _ _ _ _ _ _ _ _ _ _ _ _ _ _ _ _ _ _ _ _ _ _ _ _ _
theorem law_MatSays (h : Heap) (vs : List Value) (dd : List DT) (r : RdAll Try.prog h [3, 56, 56, 3, 3, 29] vs dd) : ∃ h', evC Try.prog 11 vs.toArray h = some (.bool true, h') := by
  obtain ⟨v, d, vs', ds', rfl, rfl, r0, r1⟩ := r.cons_inv
  obtain ⟨v1, d1, vs', ds', rfl, rfl, ra, r2⟩ := r1.cons_inv
  obtain ⟨v2, d2, vs', ds', rfl, rfl, rb, r3⟩ := r2.cons_inv
  obtain ⟨v3, d3, vs', ds', rfl, rfl, rc, r4⟩ := r3.cons_inv
  obtain ⟨v4, d4, vs', ds', rfl, rfl, rd, r5⟩ := r4.cons_inv
  obtain ⟨v5, d5, vs', ds', rfl, rfl, re, r6⟩ := r5.cons_inv
  obtain ⟨rfl, rfl⟩ := r6.nil_inv
  obtain ⟨n, rfl, _⟩ := r0.i64 (by kernel_rfl)
  obtain ⟨a, sa, ha⟩ := ra.rowsU
  obtain ⟨b, sb, _⟩ := rb.rowsU
  obtain ⟨i, rfl, _⟩ := rc.i64 (by kernel_rfl)
  obtain ⟨j, rfl, _⟩ := rd.i64 (by kernel_rfl)
  obtain ⟨to, rfl, hto⟩ := re.u64 (by kernel_rfl)
  exact mlaw_MatSays n _ _ a b i j to h sa sb ha hto
end Go.Am
