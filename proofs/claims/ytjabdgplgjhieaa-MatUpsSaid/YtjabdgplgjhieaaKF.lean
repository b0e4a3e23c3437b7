/- What the functions answer, in the machine. -/
import Derived.Test.YtjabdgplgjhieaaKE
set_option linter.all false
namespace Go.Am
open Go.Proofs
set_option maxRecDepth 100000
set_option linter.all false
attribute [local congr] obind_congr obH_congr cnd_congr chk_congr retK_congr codeK_congr
theorem joinM_len (a b : List (List Nat)) : (joinM a b).length = a.length := by simp [joinM]
theorem joinM_get (a b : List (List Nat)) (k : Nat) (hk : k < a.length) : (joinM a b).getD k [] = joinV (a.getD k []) (b.getD k []) := by
  rw [List.getD_eq_getElem?_getD, List.getElem?_eq_getElem (by rw [joinM_len]; exact hk)]; simp [joinM]
theorem goodM_getD {n : Int} {m : List (List Nat)} (hl : 1 ≤ n ∧ n ≤ 16 ∧ (m.length : Int) = n) (h : ∀ k, k < m.length → ((m.getD k []).length : Int) = n) : goodM n m = true := by
  rw [goodM_iff]
  refine ⟨hl, fun r hr => ?_⟩
  obtain ⟨k, hk, rfl⟩ := List.getElem_of_mem hr
  have := h k hk
  rwa [List.getD_eq_getElem?_getD, List.getElem?_eq_getElem hk] at this
theorem goodM_join {n : Int} {a b : List (List Nat)} (ga : goodM n a = true) (gb : goodM n b = true) : goodM n (joinM a b) = true := by
  have ha := ((goodM_iff n a).1 ga).1
  have hb := ((goodM_iff n b).1 gb).1
  refine goodM_getD ⟨ha.1, ha.2.1, by rw [joinM_len]; exact ha.2.2⟩ fun k hk => ?_
  rw [joinM_len] at hk
  rw [joinM_get a b k hk, joinV_len]
  have h1 := goodM_rows ga hk
  have h2 := goodM_rows gb (i := k) (by omega)
  omega
theorem joinM_comm {n : Int} {a b : List (List Nat)} (ga : goodM n a = true) (gb : goodM n b = true) : joinM a b = joinM b a := by
  have ha := ((goodM_iff n a).1 ga).1
  have hb := ((goodM_iff n b).1 gb).1
  refine llist_ext _ _ (by rw [joinM_len, joinM_len]; omega) fun j hj => ?_
  rw [joinM_len] at hj
  rw [joinM_get a b j hj, joinM_get b a j (by omega), joinV_comm]
theorem joinM_again {n : Int} {a b : List (List Nat)} (ga : goodM n a = true) (gb : goodM n b = true) : joinM (joinM a b) a = joinM a b := by
  refine llist_ext _ _ (by rw [joinM_len]) fun j hj => ?_
  rw [joinM_len] at hj
  rw [joinM_get _ _ j hj]
  rw [joinM_len] at hj
  rw [joinM_get a b j hj, joinV_again]
theorem joinV_ge (a b : List Nat) (j : Nat) : a.getD j 0 ≤ (joinV a b).getD j 0 := by
  by_cases h : j < max a.length b.length
  · have : (joinV a b).getD j 0 = max (a.getD j 0) (b.getD j 0) := by
      rw [List.getD_eq_getElem?_getD, List.getElem?_eq_getElem (by rw [joinV_len]; exact h)]; simp [joinV]
    omega
  · have : a.getD j 0 = 0 := by rw [List.getD_eq_getElem?_getD, List.getElem?_eq_none (by omega)]; rfl
    omega
theorem wiM_of {a b : List (List Nat)} : ∀ (m i : Nat), (∀ k, i ≤ k → k < i + m → wi1 a b k = true) → wiM a b i m = true
  | 0, i, h => rfl
  | m + 1, i, h => by rw [wiM_succ, h i (by omega) (by omega), wiM_of m (i + 1) fun k h1 h2 => h k (by omega) (by omega)]; rfl
theorem within_join {n : Int} {a b : List (List Nat)} (ga : goodM n a = true) (gb : goodM n b = true) : withinM n n a (joinM a b) = true := by
  unfold withinM okJ
  rw [ga, goodM_join ga gb, decide_eq_true rfl, wiM_of]
  · rfl
  · intro k _ hk
    unfold wi1
    rw [joinM_get a b k (by omega)]
    exact decide_eq_true (cmpV_le fun j => joinV_ge _ _ j)
theorem okJ_of {n : Int} {a b : List (List Nat)} (ga : goodM n a = true) (gb : goodM n b = true) : okJ n n a b = true := by unfold okJ; rw [ga, gb, decide_eq_true rfl]; rfl
theorem Small.good {n : Int} {m : List (List Nat)} (g : goodM n m = true) : Small m := by
  have h := (goodM_iff n m).1 g
  exact Small.of (by omega) fun r hr => by have := h.2 r hr; omega
theorem mlaw_MatJoins (n : Int) (va vb : Value) (a b : List (List Nat)) (h : Heap) (sa : SM h va a) (sb : SM h vb b) : ∃ h', evC Try.prog 9 #[.int .i64 n, va, vb] h = some (.bool true, h') := by
  rw [call9]
  obtain ⟨h1, e1, x1⟩ := spec_awake16 (nm h)
  have sa1 := sa.nm.ext x1
  have sb1 := sb.nm.ext x1
  have ha := spec_heavy sa1
  have hb := spec_heavy sb1
  have g1 := spec_GoodMat (n := n) sa1
  have g2 := spec_GoodMat (n := n) sb1
  by_cases c1 : heavyB a = true
  · rw [c1] at ha
    simp -implicitDefEqProofs (disch := omega) only [↓c9_0_eq, ↓c9_1_eq, ↓c9_2_eq, ↓c9_3_eq, ↓c9_4_eq, ↓c9_5_eq, e1, ha, ↓ret9, bin_add, bin_sub, bin_mul, bin_lss, bin_leq, bin_gtr, bin_geq, bin_eql, bin_neq, un_not, un_neg, Option.bind_some, Option.bind_none, Option.map_some, cnd_true, cnd_false, pickV_true, pickV_false, gd_true, gd_false, gdV_true, gdV_false, gdH_true, gdH_false, gdS_true, gdS_false, wt_ff, wt_tt, wt_ft, wt_tf, wt_undef, obH_some', extractV_tuple, nilCheckV_ptr, againK_normal, againK_exit, againK_ret, blockK_normal, blockK_same, blockK_ret, seqK_normal, seqK_exit, seqK_ret, fin_done, if_true', if_false', Bool.not_true, Bool.not_false, idx0, idx1, idx2, idx3, idx4, chk_nil_l, chk_nil_r, done_nm]
    exact ⟨_, rfl⟩
  have c1' : heavyB a = false := by simpa using c1
  rw [c1'] at ha
  by_cases c2 : heavyB b = true
  · rw [c2] at hb
    simp -implicitDefEqProofs (disch := omega) only [↓c9_0_eq, ↓c9_1_eq, ↓c9_2_eq, ↓c9_3_eq, ↓c9_4_eq, ↓c9_5_eq, e1, ha, hb, ↓ret9, bin_add, bin_sub, bin_mul, bin_lss, bin_leq, bin_gtr, bin_geq, bin_eql, bin_neq, un_not, un_neg, Option.bind_some, Option.bind_none, Option.map_some, cnd_true, cnd_false, pickV_true, pickV_false, gd_true, gd_false, gdV_true, gdV_false, gdH_true, gdH_false, gdS_true, gdS_false, wt_ff, wt_tt, wt_ft, wt_tf, wt_undef, obH_some', extractV_tuple, nilCheckV_ptr, againK_normal, againK_exit, againK_ret, blockK_normal, blockK_same, blockK_ret, seqK_normal, seqK_exit, seqK_ret, fin_done, if_true', if_false', Bool.not_true, Bool.not_false, idx0, idx1, idx2, idx3, idx4, chk_nil_l, chk_nil_r, done_nm]
    exact ⟨_, rfl⟩
  have c2' : heavyB b = false := by simpa using c2
  rw [c2'] at hb
  by_cases c3 : goodM n a = true
  rotate_left
  · have c3' : goodM n a = false := by simpa using c3
    rw [c3'] at g1
    simp -implicitDefEqProofs (disch := omega) only [↓c9_0_eq, ↓c9_1_eq, ↓c9_2_eq, ↓c9_3_eq, ↓c9_4_eq, ↓c9_5_eq, e1, ha, hb, g1, ↓ret9, bin_add, bin_sub, bin_mul, bin_lss, bin_leq, bin_gtr, bin_geq, bin_eql, bin_neq, un_not, un_neg, Option.bind_some, Option.bind_none, Option.map_some, cnd_true, cnd_false, pickV_true, pickV_false, gd_true, gd_false, gdV_true, gdV_false, gdH_true, gdH_false, gdS_true, gdS_false, wt_ff, wt_tt, wt_ft, wt_tf, wt_undef, obH_some', extractV_tuple, nilCheckV_ptr, againK_normal, againK_exit, againK_ret, blockK_normal, blockK_same, blockK_ret, seqK_normal, seqK_exit, seqK_ret, fin_done, if_true', if_false', Bool.not_true, Bool.not_false, idx0, idx1, idx2, idx3, idx4, chk_nil_l, chk_nil_r, done_nm]
    exact ⟨_, rfl⟩
  rw [c3] at g1
  by_cases c4 : goodM n b = true
  rotate_left
  · have c4' : goodM n b = false := by simpa using c4
    rw [c4'] at g2
    simp -implicitDefEqProofs (disch := omega) only [↓c9_0_eq, ↓c9_1_eq, ↓c9_2_eq, ↓c9_3_eq, ↓c9_4_eq, ↓c9_5_eq, e1, ha, hb, g1, g2, ↓ret9, bin_add, bin_sub, bin_mul, bin_lss, bin_leq, bin_gtr, bin_geq, bin_eql, bin_neq, un_not, un_neg, Option.bind_some, Option.bind_none, Option.map_some, cnd_true, cnd_false, pickV_true, pickV_false, gd_true, gd_false, gdV_true, gdV_false, gdH_true, gdH_false, gdS_true, gdS_false, wt_ff, wt_tt, wt_ft, wt_tf, wt_undef, obH_some', extractV_tuple, nilCheckV_ptr, againK_normal, againK_exit, againK_ret, blockK_normal, blockK_same, blockK_ret, seqK_normal, seqK_exit, seqK_ret, fin_done, if_true', if_false', Bool.not_true, Bool.not_false, idx0, idx1, idx2, idx3, idx4, chk_nil_l, chk_nil_r, done_nm]
    exact ⟨_, rfl⟩
  rw [c4] at g2
  have sma := Small.good c3
  have smb := Small.good c4
  have smc := Small.good (goodM_join c3 c4)
  obtain ⟨x, h2, e2, x2, sx2⟩ := spec_mat1 n sa1 sma.1
  obtain ⟨y, h3, e3, x3, sy3⟩ := spec_mat1 n (sb1.ext x2) smb.1
  obtain ⟨xa, xc, rfl⟩ := sx2.shape
  obtain ⟨ya, yc, rfl⟩ := sy3.shape
  have sx3 := sx2.ext x3
  -- the two variables
  have k4 := alM h3
  have c4x := Cells.new h3 45 [.int .i64 0, .slice none 0 0]
  have t4 := Same.new h3 (.cells [.int .i64 0, .slice none 0 0]) 45
  have l4 : (h3.new (.cells [.int .i64 0, .slice none 0 0]) 45).blks.length = h3.blks.length + 1 := by simp [Heap.new]
  generalize h3.new (.cells [.int .i64 0, .slice none 0 0]) 45 = h4 at *
  have k5 := alM h4
  have c5y := Cells.new h4 45 [.int .i64 0, .slice none 0 0]
  have c5x := c4x.keepNew (.cells [.int .i64 0, .slice none 0 0]) 45
  have t5 := t4.trans (Same.new h4 (.cells [.int .i64 0, .slice none 0 0]) 45)
  generalize h4.new (.cells [.int .i64 0, .slice none 0 0]) 45 = h5 at *
  have st6 := storeN_blk c5x (o := 0) (vs := [.int .i64 n, .slice xa a.length xc]) (by simp)
  rw [w2_put] at st6
  have c6x := c5x.put [.int .i64 n, .slice xa a.length xc]
  have c6y := c5y.keepPut (q := h3.blks.length) (by omega) (.cells [.int .i64 n, .slice xa a.length xc])
  have t6 := t5.put (p := h3.blks.length) (Nat.le_refl _) (.cells [.int .i64 n, .slice xa a.length xc])
  generalize h5.put h3.blks.length (.cells [.int .i64 n, .slice xa a.length xc]) = h6 at *
  have st7 := storeN_blk c6y (o := 0) (vs := [.int .i64 n, .slice ya b.length yc]) (by simp)
  rw [w2_put] at st7
  have c7x := c6x.keepPut (q := h4.blks.length) (by omega) (.cells [.int .i64 n, .slice ya b.length yc])
  have c7y := c6y.put [.int .i64 n, .slice ya b.length yc]
  have t7 := t6.put (p := h4.blks.length) (by omega) (.cells [.int .i64 n, .slice ya b.length yc])
  generalize h6.put h4.blks.length (.cells [.int .i64 n, .slice ya b.length yc]) = h7 at *
  have sx := sx3.same t7
  have sy := sy3.same t7
  -- both ways
  obtain ⟨vc, h8, e8, x8, a8⟩ := spec_MJoin (n := n) (n2 := n) sx sy sma smb
  rw [if_pos (okJ_of c3 c4), if_pos (okJ_of c3 c4)] at e8
  rw [if_pos (okJ_of c3 c4)] at a8
  obtain ⟨ca, cc, rfl⟩ := a8.shape
  have k9 := alM h8
  have k9' := mvar (h := h8) n ca (joinM a b).length cc
  have c9 := mvar_cells h8 [.int .i64 0, .slice none 0 0] [.int .i64 n, .slice ca (joinM a b).length cc] 45
  have t9 := mvar_same h8 (.cells [.int .i64 0, .slice none 0 0]) (.cells [.int .i64 n, .slice ca (joinM a b).length cc]) 45
  generalize (h8.new (.cells [.int .i64 0, .slice none 0 0]) 45).put h8.blks.length (.cells [.int .i64 n, .slice ca (joinM a b).length cc]) = h9 at *
  have T9 := x8.same.trans t9
  have sc := a8.smV.same t9
  obtain ⟨vd, h10, e10, x10, a10⟩ := spec_MJoin (n := n) (n2 := n) (sy.same T9) (sx.same T9) smb sma
  rw [if_pos (okJ_of c4 c3), if_pos (okJ_of c4 c3)] at e10
  rw [if_pos (okJ_of c4 c3), ← joinM_comm c3 c4] at a10
  obtain ⟨da, dc, rfl⟩ := a10.shape
  have k11 := alM h10
  have k11' := mvar (h := h10) n da (joinM a b).length dc
  have c11 := mvar_cells h10 [.int .i64 0, .slice none 0 0] [.int .i64 n, .slice da (joinM a b).length dc] 45
  have t11 := mvar_same h10 (.cells [.int .i64 0, .slice none 0 0]) (.cells [.int .i64 n, .slice da (joinM a b).length dc]) 45
  generalize (h10.new (.cells [.int .i64 0, .slice none 0 0]) 45).put h10.blks.length (.cells [.int .i64 n, .slice da (joinM a b).length dc]) = h11 at *
  have T11 := x10.same.trans t11
  have sd := a10.smV.same t11
  obtain ⟨vg, h12, e12, x12, a12⟩ := spec_MJoin (n := n) (n2 := n) (sc.same T11) ((sx.same T9).same T11) smc sma
  rw [if_pos (okJ_of (goodM_join c3 c4) c3), if_pos (okJ_of (goodM_join c3 c4) c3)] at e12
  rw [if_pos (okJ_of (goodM_join c3 c4) c3), joinM_again c3 c4] at a12
  obtain ⟨ga, gc, rfl⟩ := a12.shape
  have k13 := alM h12
  have k13' := mvar (h := h12) n ga (joinM a b).length gc
  have c13 := mvar_cells h12 [.int .i64 0, .slice none 0 0] [.int .i64 n, .slice ga (joinM a b).length gc] 45
  have t13 := mvar_same h12 (.cells [.int .i64 0, .slice none 0 0]) (.cells [.int .i64 n, .slice ga (joinM a b).length gc]) 45
  generalize (h12.new (.cells [.int .i64 0, .slice none 0 0]) 45).put h12.blks.length (.cells [.int .i64 n, .slice ga (joinM a b).length gc]) = h13 at *
  have T13 := x12.same.trans t13
  have sg := a12.smV.same t13
  have X := ((sx.same T9).same T11).same T13
  have Y := ((sy.same T9).same T11).same T13
  have C := (sc.same T11).same T13
  have D := sd.same T13
  have CX := ((c7x.same T9).same T11).same T13
  have CY := ((c7y.same T9).same T11).same T13
  have CC := (c9.same T11).same T13
  have CD := c11.same T13
  obtain ⟨h14, e14, x14⟩ := spec_MWithin (n := n) (n2 := n) X C sma smc
  rw [within_join c3 c4] at e14
  obtain ⟨h15, e15, x15⟩ := spec_MWithin (n := n) (n2 := n) (Y.ext x14) (C.ext x14) smb smc
  rw [joinM_comm c3 c4, within_join c4 c3, ← joinM_comm c3 c4] at e15
  obtain ⟨r1, h16, e16, x16, s16⟩ := spec_rowsM (n := n) ((C.ext x14).ext x15).nm smc.1
  obtain ⟨x16', m16⟩ := x16.amx
  have s16' : SM (Am.am h16 h15) r1 (joinM a b) := s16.kp fun _ _ => rfl
  obtain ⟨r2, h17, e17, x17, s17⟩ := spec_rowsM (n := n) (((D.ext x14).ext x15).ext x16') smc.1
  have e18 := spec_squares (s16'.ext x17) s17 smc smc
  rw [decide_eq_true rfl] at e18
  obtain ⟨r3, h19, e19, x19, s19⟩ := spec_rowsM (n := n) (((((sg.ext x14).ext x15).ext x16').ext x17)).nm smc.1
  obtain ⟨x19', m19⟩ := x19.amx
  have s19' : SM (Am.am h19 h17) r3 (joinM a b) := s19.kp fun _ _ => rfl
  obtain ⟨r4, h20, e20, x20, s20⟩ := spec_rowsM (n := n) (((((C.ext x14).ext x15).ext x16').ext x17).ext x19') smc.1
  have e21 := spec_squares (s19'.ext x20) s20 smc smc
  rw [decide_eq_true rfl] at e21
  simp -implicitDefEqProofs (disch := omega) only [↓c9_0_eq, ↓c9_1_eq, ↓c9_2_eq, ↓c9_3_eq, ↓c9_4_eq, ↓c9_5_eq, ↓c9_6_eq, ↓c9_7_eq, ↓c9_8_eq, ↓c9_9_eq, ↓c9_10_eq, ↓c9_11_eq, ↓c9_12_eq, ↓c9_13_eq, ↓c9_14_eq, ↓c9_15_eq, ↓c9_16_eq, ↓d9_0_0, ↓d9_0_1, ↓d9_0_2, ↓d9_0_3, ↓d9_0_4, ↓d9_0_5, ↓d9_0_6, ↓d9_0_7, ↓d9_0_8, ↓d9_0_9, ↓d9_0_10, ↓d9_0_11, ↓d9_0_12, ↓d9_0_13, ↓d9_0_14, ↓d9_0_15, ↓d9_0_16, ↓d9_0_17, ↓d9_0_18, ↓d9_0_19, ↓d9_0_20, ↓d9_0_21, ↓d9_0_22, ↓d9_0_23, ↓d9_0_24, ↓d9_0_25, ↓d9_0_26, ↓d9_0_27, ↓d9_0_28, ↓d9_0_29, ↓d9_0_30, ↓d9_0_31, ↓d9_0_32, ↓d9_0_33, ↓d9_0_34, ↓d9_0_35, e1, ha, hb, g1, g2, e2, e3, k4, k5, stM, st6, st7, ldM' c7x, ldM' c7y, e8, k9, k9', ldM' (c7x.same T9), ldM' (c7y.same T9), e10, k11, k11', ldM' (c9.same T11), ldM' ((c7x.same T9).same T11), e12, k13, k13', ldM' CX, ldM' CY, ldM' CC, ldM' CD, ldM' c13, e14, ldM' (CY.ext x14), ldM' (CC.ext x14), e15,
    ldM' ((CC.ext x14).ext x15), ldM' (((CD.ext x14).ext x15).ext x16'), e16, m16, e17, e18, ldM' ((((c13.ext x14).ext x15).ext x16').ext x17), e19, m19, ldM' (((((CC.ext x14).ext x15).ext x16').ext x17).ext x19'), ldM' ((CC.ext x14).ext x15), e20, e21, eq_self, decide_true, List.nil_append, List.append_nil, ↓ret9, bin_add, bin_sub, bin_mul, bin_lss, bin_leq, bin_gtr, bin_geq, bin_eql, bin_neq, un_not, un_neg, Option.bind_some, Option.bind_none, Option.map_some, cnd_true, cnd_false, pickV_true, pickV_false, gd_true, gd_false, gdV_true, gdV_false, gdH_true, gdH_false, gdS_true, gdS_false, wt_ff, wt_tt, wt_ft, wt_tf, wt_undef, obH_some', extractV_tuple, nilCheckV_ptr, againK_normal, againK_exit, againK_ret, blockK_normal, blockK_same, blockK_ret, seqK_normal, seqK_exit, seqK_ret, fin_done, if_true', if_false', Bool.not_true, Bool.not_false, idx0, idx1, idx2, idx3, idx4, chk_nil_l, chk_nil_r, done_nm]
  exact ⟨_, rfl⟩
theorem reads_u64s {h : Heap} {e : TypeId} (hu : Try.prog.underlying e = some (.slice 29)) {f : Nat} {cs : List Value} {d : DT} (x : Reads Try.prog h f e cs d) : ∃ v bs, cs = [v] ∧ SU h v bs ∧ (∀ b ∈ bs, b < 2 ^ 64) := by
  obtain ⟨g, l, v, css, rfl, rfl, h1, h2, h3⟩ := reads_slice hu x
  obtain ⟨zs, a, b, c⟩ := reads_ints (k := .u64) (by kernel_rfl) h2
  obtain ⟨bs, a', b', c'⟩ := ints_u64 zs c
  rw [show Try.prog.cellsOf 29 = 1 by kernel_rfl, b, ← a, b', ← a'] at h1
  exact ⟨v, bs, rfl, h1, c'⟩
theorem rows_of {h : Heap} {f : Nat} : ∀ {css : List (List Value)} {l : List DT}, All2 (fun c d => c.length = Try.prog.cellsOf 22 ∧ Reads Try.prog h f 22 c d) css l → ∃ (vs : List Value) (m : List (List Nat)), css.flatten = vs ∧ m.length = l.length ∧ All2 (SU h) vs m ∧ ∀ r ∈ m, ∀ y ∈ r, y < 2 ^ 64
  | _, _, .nil => ⟨[], [], rfl, rfl, .nil, by simp⟩
  | _, _, .cons x q => by
    obtain ⟨vs, m, e, hl, a, b⟩ := rows_of q
    obtain ⟨v, bs, rfl, s, hb⟩ := reads_u64s (by kernel_rfl) x.2
    refine ⟨v :: vs, bs :: m, by simp [e], by simp [hl], .cons s a, fun r hr => ?_⟩
    rcases List.mem_cons.1 hr with rfl | hr
    · exact hb
    · exact b r hr
theorem Rd.rowsU {h : Heap} {v : Value} {d : DT} (r : Rd Try.prog h 56 v d) : ∃ m : List (List Nat), SM h v m ∧ ∀ r ∈ m, ∀ y ∈ r, y < 2 ^ 64 := by
  obtain ⟨f, l, css, rfl, h1, h2, h3⟩ := r.slice (e := 22) (by kernel_rfl)
  obtain ⟨vs, m, e, hl, a, b⟩ := rows_of h2
  rw [show Try.prog.cellsOf 22 = 1 by kernel_rfl, e, ← hl] at h1
  exact ⟨m, ⟨vs, h1, a⟩, b⟩
theorem law_MatJoins (h : Heap) (vs : List Value) (dd : List DT) (r : RdAll Try.prog h [3, 56, 56] vs dd) : ∃ h', evC Try.prog 9 vs.toArray h = some (.bool true, h') := by
  obtain ⟨v, d, vs', ds', rfl, rfl, r0, r1⟩ := r.cons_inv
  obtain ⟨v1, d1, vs', ds', rfl, rfl, ra, r2⟩ := r1.cons_inv
  obtain ⟨v2, d2, vs', ds', rfl, rfl, rb, r3⟩ := r2.cons_inv
  obtain ⟨rfl, rfl⟩ := r3.nil_inv
  obtain ⟨n, rfl, _⟩ := r0.i64 (by kernel_rfl)
  obtain ⟨a, sa, _⟩ := ra.rowsU
  obtain ⟨b, sb, _⟩ := rb.rowsU
  exact mlaw_MatJoins n _ _ a b h sa sb
end Go.Am
namespace Go.Am
open Go.Proofs
set_option maxRecDepth 100000
set_option linter.all false
def cnt (ps : List (Int × Nat)) (r j : Nat) : Nat := ps.countP fun p => decide (p.1 = (r : Int)) && hasB p.2 j
def cntM (n : Nat) (ps : List (Int × Nat)) : List (List Nat) := (List.range n).map fun r => (List.range n).map fun j => cnt ps r j
theorem cntM_len (n : Nat) (ps : List (Int × Nat)) : (cntM n ps).length = n := by simp [cntM]
theorem cntM_row (n : Nat) (ps : List (Int × Nat)) (r : Nat) (hr : r < n) : (cntM n ps).getD r [] = (List.range n).map fun j => cnt ps r j := by
  rw [List.getD_eq_getElem?_getD, List.getElem?_eq_getElem (by rw [cntM_len]; exact hr)]; simp [cntM]
theorem cntM_row_len (n : Nat) (ps : List (Int × Nat)) (r : Nat) (hr : r < n) : ((cntM n ps).getD r []).length = n := by rw [cntM_row n ps r hr]; simp
theorem cntM_get (n : Nat) (ps : List (Int × Nat)) (r j : Nat) (hr : r < n) (hj : j < n) : ((cntM n ps).getD r []).getD j 0 = cnt ps r j := by
  rw [cntM_row n ps r hr, List.getD_eq_getElem?_getD, List.getElem?_eq_getElem (by simpa using hj)]; simp
theorem cntM_good (n : Nat) (ps : List (Int × Nat)) (h1 : 1 ≤ n) (h2 : n ≤ 16) : goodM n (cntM n ps) = true :=
  goodM_getD ⟨by omega, by omega, by rw [cntM_len]⟩ fun k hk => by rw [cntM_len] at hk; rw [cntM_row_len n ps k hk]
theorem cnt_le (ps : List (Int × Nat)) (r j : Nat) : cnt ps r j ≤ ps.length := List.countP_le_length
theorem cnt_snoc (ps : List (Int × Nat)) (p : Int × Nat) (r j : Nat) : cnt (ps ++ [p]) r j = cnt ps r j + (if p.1 = (r : Int) ∧ hasB p.2 j = true then 1 else 0) := by
  unfold cnt
  rw [List.countP_append, List.countP_singleton]
  simp only [Bool.and_eq_true, decide_eq_true_eq]
theorem cntM_nil (n : Nat) : cntM n [] = zerosM n := by
  unfold cntM zerosM
  have : (fun r : Nat => (List.range n).map fun j => cnt [] r j) = fun _ => List.replicate n 0 := by
    funext r
    rw [show (fun j : Nat => cnt [] r j) = fun _ => 0 from rfl, List.map_const', List.length_range]
  rw [this, List.map_const', List.length_range]
theorem cntM_ext (n : Nat) (a : List (List Nat)) (ps : List (Int × Nat)) (hl : a.length = n) (hr : ∀ r, r < n → (a.getD r []).length = n) (hg : ∀ r j, r < n → j < n → (a.getD r []).getD j 0 = cnt ps r j) : a = cntM n ps := by
  refine llist_ext _ _ (by rw [hl, cntM_len]) fun r h => ?_
  rw [hl] at h
  refine list_ext _ _ (by rw [hr r h, cntM_row_len n ps r h]) fun j hj => ?_
  rw [hr r h] at hj
  rw [hg r j h hj, cntM_get n ps r j h hj]
theorem cntM_up (n : Nat) (ps : List (Int × Nat)) (h1 : 1 ≤ n) (h2 : n ≤ 16) (hp : ps.length < 2 ^ 64 - 1) (r : Int) (to : Nat) : upM n (cntM n ps) r to = cntM n (ps ++ [(r, to)]) := by
  have hg := cntM_good n ps h1 h2
  unfold upM
  by_cases c : 0 ≤ r ∧ r < n
  · obtain ⟨q, rfl⟩ : ∃ q : Nat, r = q := ⟨r.toNat, by omega⟩
    rw [if_pos ⟨hg, c⟩, Int.toNat_natCast, Int.toNat_natCast]
    have hq : q < n := by omega
    have hset : ∀ k, ((cntM n ps).set q (up1 to n ((cntM n ps).getD q []))).getD k [] = if k = q then up1 to n ((cntM n ps).getD q []) else (cntM n ps).getD k [] := by
      intro k
      rw [List.getD_eq_getElem?_getD, List.getElem?_set]
      by_cases e : q = k
      · subst e; rw [if_pos rfl, if_pos (by rw [cntM_len]; exact hq), if_pos rfl]; rfl
      · rw [if_neg e, if_neg (fun x => e x.symm), List.getD_eq_getElem?_getD]
    refine cntM_ext n _ _ (by rw [List.length_set, cntM_len]) (fun k hk => ?_) fun k j hk hj => ?_
    · rw [hset]; split
      · rw [up1_len, cntM_row_len n ps q hq]
      · exact cntM_row_len n ps k hk
    · rw [hset, cnt_snoc]
      have hle := cnt_le ps k j
      by_cases e : k = q
      · subst e
        rw [if_pos rfl, up1_get _ _ _ _ (by rw [cntM_row_len n ps k hk]; exact hj), cntM_get n ps k j hk hj]
        by_cases f : hasB to j = true
        · rw [if_pos ⟨hj, f, by omega⟩, if_pos ⟨rfl, f⟩]
        · rw [if_neg (fun x => f x.2.1), if_neg (fun x => f x.2)]; rfl
      · rw [if_neg e, cntM_get n ps k j hk hj, if_neg (fun x => e (by have := x.1; omega))]; rfl
  · rw [if_neg (fun x => c x.2)]
    refine cntM_ext n _ _ (cntM_len n ps) (fun k hk => cntM_row_len n ps k hk) fun k j hk hj => ?_
    rw [cntM_get n ps k j hk hj, cnt_snoc, if_neg (fun x => c (by have := x.1; omega))]; rfl
theorem cntM_rev (n : Nat) (ps : List (Int × Nat)) : cntM n ps.reverse = cntM n ps := by
  unfold cntM cnt
  simp only [List.countP_reverse]
theorem cntM_small (n : Nat) (ps : List (Int × Nat)) (h1 : 1 ≤ n) (h2 : n ≤ 16) : Small (cntM n ps) := Small.good (cntM_good n ps h1 h2)
theorem cntM_lt (n : Nat) (ps : List (Int × Nat)) (hp : ps.length < 2 ^ 64) : ∀ r ∈ cntM n ps, ∀ y ∈ r, y < 2 ^ 64 := by
  intro r hr y hy
  simp only [cntM, List.mem_map] at hr
  obtain ⟨k, _, rfl⟩ := hr
  simp only [List.mem_map] at hy
  obtain ⟨j, _, rfl⟩ := hy
  have := cnt_le ps k j
  omega
/-- what an entry is, one up later -/
theorem atM_up (n : Nat) (ps : List (Int × Nat)) (r : Int) (to j : Nat) (hj : j < n) : atM (cntM n (ps ++ [(r, to)])) r j = atM (cntM n ps) r j + (if hasB to j = true ∧ 0 ≤ r ∧ r < n then 1 else 0) := by
  unfold atM
  by_cases h0 : r < 0
  · rw [if_pos h0, if_pos h0, if_neg (by omega)]
  · rw [if_neg h0, if_neg h0]
    obtain ⟨q, rfl⟩ : ∃ q : Nat, r = q := ⟨r.toNat, by omega⟩
    rw [Int.toNat_natCast, atI_nat, atI_nat]
    by_cases h1 : q < n
    · rw [cntM_get n _ q j h1 hj, cntM_get n _ q j h1 hj, cnt_snoc]
      by_cases f : hasB to j = true
      · rw [if_pos ⟨rfl, f⟩, if_pos ⟨f, by omega, by omega⟩]
      · rw [if_neg (fun x => f x.2), if_neg (fun x => f x.1)]
    · have e : ∀ ps, (cntM n ps).getD q [] = [] := fun ps => by rw [List.getD_eq_getElem?_getD, List.getElem?_eq_none (by rw [cntM_len]; omega)]; rfl
      rw [e, e, if_neg (by omega)]; rfl
theorem atM_cnt_le (n : Nat) (ps : List (Int × Nat)) (r : Int) (j : Nat) : atM (cntM n ps) r j ≤ ps.length := by
  unfold atM
  split
  · omega
  · rw [atI_nat]
    by_cases h1 : r.toNat < n
    · by_cases hj : j < n
      · rw [cntM_get n ps _ j h1 hj]; exact cnt_le ..
      · rw [List.getD_eq_getElem?_getD, List.getElem?_eq_none (by rw [cntM_row_len n ps _ h1]; omega)]; simp
    · rw [List.getD_eq_getElem?_getD (l := cntM n ps), List.getElem?_eq_none (by rw [cntM_len]; omega)]; simp
theorem colM_len (m : List (List Nat)) (j : Nat) : (colM m j).length = m.length := by simp [colM]
theorem colM_get (m : List (List Nat)) (j k : Nat) (hk : k < m.length) : (colM m j).getD k 0 = (m.getD k []).getD j 0 := by
  rw [List.getD_eq_getElem?_getD, List.getElem?_eq_getElem (by rw [colM_len]; exact hk), List.getD_eq_getElem?_getD (l := m), List.getElem?_eq_getElem hk]; simp [colM]
/-- a column grows where it is told -/
theorem col_up (n : Nat) (ps : List (Int × Nat)) (r : Int) (to j : Nat) (hj : j < n) : decide (cmpV (colM (cntM n ps) j) (colM (cntM n (ps ++ [(r, to)])) j) = -1) = (hasB to j && decide (0 ≤ r) && decide (r < n)) := by
  have key : ∀ k, (colM (cntM n (ps ++ [(r, to)])) j).getD k 0 = (colM (cntM n ps) j).getD k 0 + (if k < n ∧ r = (k : Int) ∧ hasB to j = true then 1 else 0) := by
    intro k
    by_cases hk : k < n
    · rw [colM_get _ j k (by rw [cntM_len]; exact hk), colM_get _ j k (by rw [cntM_len]; exact hk), cntM_get n _ k j hk hj, cntM_get n _ k j hk hj, cnt_snoc]
      simp only [hk, true_and]
    · rw [List.getD_eq_getElem?_getD, List.getElem?_eq_none (by rw [colM_len, cntM_len]; omega), List.getD_eq_getElem?_getD, List.getElem?_eq_none (by rw [colM_len, cntM_len]; omega), if_neg (fun x => hk x.1)]; rfl
  by_cases c : hasB to j = true ∧ 0 ≤ r ∧ r < n
  · obtain ⟨f, r0, r1⟩ := c
    rw [f, decide_eq_true r0, decide_eq_true r1]
    have hlt : (colM (cntM n ps) j).getD r.toNat 0 < (colM (cntM n (ps ++ [(r, to)])) j).getD r.toNat 0 := by rw [key, if_pos ⟨by omega, by omega, f⟩]; omega
    refine decide_eq_true ?_
    rcases cmpV_cases (colM (cntM n ps) j) (colM (cntM n (ps ++ [(r, to)])) j) with ⟨_, h⟩ | ⟨h, _⟩ | h
    · have := h r.toNat; omega
    · exact h
    · exfalso
      have hle : ∀ k, (colM (cntM n ps) j).getD k 0 ≤ (colM (cntM n (ps ++ [(r, to)])) j).getD k 0 := fun k => by rw [key]; omega
      rcases cmpV_le hle with e | e <;> simp_all
  · have e : colM (cntM n (ps ++ [(r, to)])) j = colM (cntM n ps) j := by
      refine list_ext _ _ (by rw [colM_len, colM_len, cntM_len, cntM_len]) fun k hk => ?_
      rw [key, if_neg (fun x => c ⟨x.2.2, by omega, by omega⟩)]; rfl
    rw [e, cmpV_self, decide_eq_false (by omega)]
    have : ¬ (hasB to j && decide (0 ≤ r) && decide (r < n)) = true := fun x => by
      simp only [Bool.and_eq_true, decide_eq_true_eq] at x
      exact c ⟨x.1.1, x.1.2, x.2⟩
    cases hb : (hasB to j && decide (0 ≤ r) && decide (r < n)) with
    | false => rfl
    | true => exact absurd hb this
theorem within_self (n : Nat) (ps : List (Int × Nat)) (h1 : 1 ≤ n) (h2 : n ≤ 16) : withinM n n (cntM n ps) (cntM n ps) = true := by
  have g := cntM_good n ps h1 h2
  unfold withinM
  rw [okJ_of g g, wiM_of]
  · rfl
  · intro k _ _
    unfold wi1
    rw [cmpV_self]; rfl
end Go.Am
namespace Go.Am
open Go.Proofs
set_option maxRecDepth 100000
set_option linter.all false
attribute [local congr] obind_congr obH_congr cnd_congr chk_congr retK_congr codeK_congr
theorem mcvI64 (n : Int) (h : Heap) (h0 : 0 ≤ n) (h1 : n < 2 ^ 63) : convV Try.prog 3 29 (.int .i64 n) h = some (.int .u64 n, h) := conv_u64 (ks := .i64) (by kernel_rfl) (by kernel_rfl) _ _ _ h0 (by omega)
theorem ubneq (xo yo : Operand) (a b : Bool) : binV Try.prog .neq 4 xo yo (.bool a) (.bool b) = some (.bool (!(a == b))) := bin_bneq _ _ _ _ (by cases a <;> cases b <;> kernel_rfl)
/-- a square and its variable -/
structure MVar (h : Heap) (p : Nat) (n : Int) (v : Value) (m : List (List Nat)) : Prop where
  cells : Cells h p 45 [.int .i64 n, v]
  am : AM 27 0 h v m
theorem MVar.same {h h' : Heap} {p : Nat} {n : Int} {v : Value} {m : List (List Nat)} (a : MVar h p n v m) (e : Same h h') : MVar h' p n v m := ⟨a.cells.same e, a.am.same e⟩
theorem MVar.ext {h h' : Heap} {p : Nat} {n : Int} {v : Value} {m : List (List Nat)} (a : MVar h p n v m) (e : HExt h h') : MVar h' p n v m := a.same e.same
theorem MVar.ld {h : Heap} {p : Nat} {n : Int} {v : Value} {m : List (List Nat)} (a : MVar h p n v m) : loadV Try.prog 45 (.pointer (some ⟨p, 0, none⟩)) h = some (matV n v) := ldM' a.cells
theorem MVar.put {h : Heap} {p q : Nat} {n : Int} {v : Value} {m : List (List Nat)} (a : MVar h p n v m) (hpq : q ≠ p) {cs : List Value} (c : Cells h q 45 cs) (body : Body) : MVar (h.put q body) p n v m := ⟨a.cells.keepPut hpq body, a.am.put c (by decide) (by decide) body⟩
structure UpJ (h : Heap) (n : Nat) (pm pw po : Nat) (vm vw vo : Value) (M W O : List (List Nat)) (lv rv : Value) (l : List Nat) (rows : List Int) : Prop where
  m : MVar h pm n vm M
  w : MVar h pw n vw W
  o : MVar h po n vo O
  sl : SU h lv l
  sr : SI h rv rows
theorem UpJ.same {h h' : Heap} {n pm pw po : Nat} {vm vw vo : Value} {M W O : List (List Nat)} {lv rv : Value} {l : List Nat} {rows : List Int} (a : UpJ h n pm pw po vm vw vo M W O lv rv l rows) (e : Same h h') : UpJ h' n pm pw po vm vw vo M W O lv rv l rows :=
  ⟨a.m.same e, a.w.same e, a.o.same e, Sl.same a.sl e, Sl.same a.sr e⟩
theorem ups_inner {n pm pw po i N : Nat} {vm vw vo lv rv : Value} {O : List (List Nat)} {l : List Nat} {rows : List Int} {ps : List (Int × Nat)} (hn1 : 1 ≤ n) (hn : n ≤ 16) (hps : ps.length < 100) (hi : i < l.length) (hir : i < rows.length) (h64 : ∀ x ∈ l, x < 2 ^ 64)
    (k : Ex → St → Option (Value × Heap))
    (hk : ∀ h', UpJ h' n pm pw po vm vw vo (cntM n (ps ++ [(rows.getD i 0, l.getD i 0)])) (cntM n ps) O lv rv l rows → N ≤ h'.blks.length → ∀ (x3 x4 x5 x8 x11 x12 x13 x14 x15 x16 x17 x18 x19 x20 x21 x22 x23 x24 x25 x26 x27 x28 x29 x30 x31 x32 x33 x34 x35 x36 x37 x38 x39 x40 x41 x42 x43 x44 x45 x46 x47 x48 x49 x50 x51 x52 x53 x54 x55 x56 x57 x58 x59 x60 x61 x62 x63 x64 x65 x66 x67 x68 x69 x70 x71 x72 x73 x74 x75 x76 x77 x78 x79 x80 x81 x82 x83 x84 x85 x86 x87 x88 x89 x90 x91 x92 x93 x94 x95 x96 x97 x98 x99 x100 x101 x102 x103 x104 x105 x106 x107 x108 x109 x110 x111 x112 x113 x114 x115 x116 x117 x118 x119 x120 x121 x122 x123 x124 x125 x126 x127 x128 x129 x130 x131 x132 x133 x134 x135 x136 : Value), ∃ r, k .normal ⟨#[.int .i64 n, lv, rv, x3, x4, x5, .bool false, .pointer (some ⟨pm, 0, none⟩), x8, .pointer (some ⟨po, 0, none⟩), .int .i64 i, x11, x12, x13, x14, x15, x16, x17, x18, x19, x20, x21, x22, x23, x24, x25, x26, x27, x28, x29, x30, x31, x32, x33, x34, x35, x36, x37, x38, x39, x40, x41, x42, x43, x44, x45, x46, x47, x48, x49, x50, x51, x52, x53, x54, x55, x56, x57, x58, x59, x60, x61, x62, x63, x64, x65, x66, x67, x68, x69, x70, x71, x72, x73, x74, x75, x76, x77, x78, x79, x80, x81, x82, x83, x84, x85, x86, x87, x88, x89, x90, x91, x92, x93, x94, x95, x96, x97, x98, x99, x100, x101, x102, x103, x104, x105, x106, x107, x108, x109, x110, x111, x112, x113, x114, x115, x116, x117, x118, x119, x120, x121, x122, x123, x124, x125, x126, x127, x128, x129, x130, x131, x132, x133, x134, x135, x136], h'⟩ = some (.bool true, r)) :
    ∀ (mm j : Nat) (h : Heap), n = j + mm → UpJ h n pm pw po vm vw vo (cntM n (ps ++ [(rows.getD i 0, l.getD i 0)])) (cntM n ps) O lv rv l rows → N ≤ h.blks.length → ∀ (x3 x4 x5 x8 x13 x14 x15 x16 x17 x18 x19 x20 x21 x22 x23 x24 x25 x26 x27 x28 x29 x30 x31 x32 x33 x34 x35 x36 x37 x38 x39 x40 x41 x42 x43 x44 x45 x46 x47 x48 x49 x50 x51 x52 x53 x54 x55 x56 x57 x58 x59 x60 x61 x62 x63 x64 x65 x66 x67 x68 x69 x70 x71 x72 x73 x74 x75 x76 x77 x78 x79 x80 x81 x82 x83 x84 x85 x86 x87 x88 x89 x90 x91 x92 x93 x94 x95 x96 x97 x98 x99 x100 x101 x102 x103 x104 x105 x106 x107 x108 x109 x110 x111 x112 x113 x114 x115 x116 x117 x118 x119 x120 x121 x122 x123 x124 x125 x126 x127 x128 x129 x130 x131 x132 x133 x134 x135 x136 : Value),
    ∃ r, loopK Try.prog (evC Try.prog) c8_3 ⟨#[.int .i64 n, lv, rv, x3, x4, x5, .bool false, .pointer (some ⟨pm, 0, none⟩), x8, .pointer (some ⟨po, 0, none⟩), .int .i64 i, .pointer (some ⟨pw, 0, none⟩), .int .i64 j, x13, x14, x15, x16, x17, x18, x19, x20, x21, x22, x23, x24, x25, x26, x27, x28, x29, x30, x31, x32, x33, x34, x35, x36, x37, x38, x39, x40, x41, x42, x43, x44, x45, x46, x47, x48, x49, x50, x51, x52, x53, x54, x55, x56, x57, x58, x59, x60, x61, x62, x63, x64, x65, x66, x67, x68, x69, x70, x71, x72, x73, x74, x75, x76, x77, x78, x79, x80, x81, x82, x83, x84, x85, x86, x87, x88, x89, x90, x91, x92, x93, x94, x95, x96, x97, x98, x99, x100, x101, x102, x103, x104, x105, x106, x107, x108, x109, x110, x111, x112, x113, x114, x115, x116, x117, x118, x119, x120, x121, x122, x123, x124, x125, x126, x127, x128, x129, x130, x131, x132, x133, x134, x135, x136], h⟩ (blockK 2 k) = some (.bool true, r) := by
  intro mm
  induction mm with
  | zero =>
    intro j h hj J hN x3 x4 x5 x8 x13 x14 x15 x16 x17 x18 x19 x20 x21 x22 x23 x24 x25 x26 x27 x28 x29 x30 x31 x32 x33 x34 x35 x36 x37 x38 x39 x40 x41 x42 x43 x44 x45 x46 x47 x48 x49 x50 x51 x52 x53 x54 x55 x56 x57 x58 x59 x60 x61 x62 x63 x64 x65 x66 x67 x68 x69 x70 x71 x72 x73 x74 x75 x76 x77 x78 x79 x80 x81 x82 x83 x84 x85 x86 x87 x88 x89 x90 x91 x92 x93 x94 x95 x96 x97 x98 x99 x100 x101 x102 x103 x104 x105 x106 x107 x108 x109 x110 x111 x112 x113 x114 x115 x116 x117 x118 x119 x120 x121 x122 x123 x124 x125 x126 x127 x128 x129 x130 x131 x132 x133 x134 x135 x136
    rw [loopK_eq evC_m]
    have hk' := hk h J hN
    simp -implicitDefEqProofs (disch := omega) only [↓c8_3_eq, ↓c8_6_eq, dcT, dcF, ↓cnd_true, ↓cnd_false, ↓Option.bind_some, ↓obH_some', bin_add, bin_sub, bin_mul, bin_lss, bin_leq, bin_gtr, bin_geq, bin_eql, bin_neq, un_not, un_neg, Option.bind_some, Option.bind_none, Option.map_some, cnd_true, cnd_false, pickV_true, pickV_false, gd_true, gd_false, gdV_true, gdV_false, gdH_true, gdH_false, gdS_true, gdS_false, wt_ff, wt_tt, wt_ft, wt_tf, wt_undef, obH_some', extractV_tuple, nilCheckV_ptr, againK_normal, againK_exit, againK_ret, blockK_normal, blockK_same, blockK_ret, seqK_normal, seqK_exit, seqK_ret, fin_done, if_true', if_false', Bool.not_true, Bool.not_false, idx0, idx1, idx2, idx3, idx4, chk_nil_l, chk_nil_r, done_nm]
    exact hk' _ _ _ _ _ _ _ _ _ _ _ _ _ _ _ _ _ _ _ _ _ _ _ _ _ _ _ _ _ _ _ _ _ _ _ _ _ _ _ _ _ _ _ _ _ _ _ _ _ _ _ _ _ _ _ _ _ _ _ _ _ _ _ _ _ _ _ _ _ _ _ _ _ _ _ _ _ _ _ _ _ _ _ _ _ _ _ _ _ _ _ _ _ _ _ _ _ _ _ _ _ _ _ _ _ _ _ _ _ _ _ _ _ _ _ _ _ _ _ _ _ _ _ _ _ _ _ _ _ _
  | succ mm ih =>
    intro j h hj J hN x3 x4 x5 x8 x13 x14 x15 x16 x17 x18 x19 x20 x21 x22 x23 x24 x25 x26 x27 x28 x29 x30 x31 x32 x33 x34 x35 x36 x37 x38 x39 x40 x41 x42 x43 x44 x45 x46 x47 x48 x49 x50 x51 x52 x53 x54 x55 x56 x57 x58 x59 x60 x61 x62 x63 x64 x65 x66 x67 x68 x69 x70 x71 x72 x73 x74 x75 x76 x77 x78 x79 x80 x81 x82 x83 x84 x85 x86 x87 x88 x89 x90 x91 x92 x93 x94 x95 x96 x97 x98 x99 x100 x101 x102 x103 x104 x105 x106 x107 x108 x109 x110 x111 x112 x113 x114 x115 x116 x117 x118 x119 x120 x121 x122 x123 x124 x125 x126 x127 x128 x129 x130 x131 x132 x133 x134 x135 x136
    rw [loopK_eq evC_m]
    have hjn : j < n := by omega
    have hto := getD_lt l h64 i
    obtain ⟨al, el1, el2⟩ := su_at J.sl etU.under hi
    obtain ⟨ar, er1, er2⟩ := si_at J.sr hir
    have hh := fun h => spec_Has (l.getD i 0) hto (j : Int) h
    have hw : IntKind.wrap .i64 ((j : Int) + 1) = ((j + 1 : Nat) : Int) := by rw [wrap_i64] <;> omega
    have hup := atM_up n ps (rows.getD i 0) (l.getD i 0) j hjn
    have hle := atM_cnt_le n ps (rows.getD i 0) j
    have hcol := col_up n ps (rows.getD i 0) (l.getD i 0) j hjn
    have g1 := cntM_good n ps hn1 hn
    have g2 := cntM_good n (ps ++ [(rows.getD i 0, l.getD i 0)]) hn1 hn
    have okc : ∀ qs, okC n (cntM n qs) (j : Int) := fun qs => ⟨cntM_good n qs hn1 hn, by omega, by omega⟩
    have hcM : ∀ qs, columnM n (cntM n qs) (j : Int) = colM (cntM n qs) j := fun qs => by unfold columnM; rw [if_pos (okc qs), Int.toNat_natCast]
    have l62 : ∀ qs, ∀ r ∈ cntM n qs, r.length < 2 ^ 62 := fun qs r hr => by
      simp only [cntM, List.mem_map] at hr
      obtain ⟨k, _, rfl⟩ := hr
      simp; omega
    have l37 : ∀ qs, (cntM n qs).length < 2 ^ 37 := fun qs => by rw [cntM_len]; omega
    obtain ⟨h2, e2, x2⟩ := spec_MAt (n := n) J.m.am.smV.nm (rows.getD i 0) (j : Int) (l62 _)
    obtain ⟨x2', n2⟩ := x2.amx
    have J2 := J.same x2'.same
    obtain ⟨h3, e3, x3⟩ := spec_MAt (n := n) J2.w.am.smV (rows.getD i 0) (j : Int) (l62 _)
    have J3 := J2.same x3.same
    obtain ⟨a4, c4, h4, e4, x4, s4⟩ := spec_Column (n := n) J3.w.am.smV.nm (l37 _) (j : Int)
    rw [hcM] at e4 s4
    obtain ⟨x4', n4⟩ := x4.amx
    have J4 := J3.same x4'.same
    have s4' : AU h3.blks.length (Am.am h4 h3) (.slice a4 (colM (cntM n ps) j).length c4) (colM (cntM n ps) j) := s4.keep fun _ _ _ => rfl
    obtain ⟨a5, c5, h5, e5, x5, s5⟩ := spec_Column (n := n) J4.m.am.smV (l37 _) (j : Int)
    rw [hcM] at e5 s5
    have J5 := J4.same x5.same
    have e6 := spec_Cmp (s4'.su.ext x5) s5.su (by rw [colM_len, cntM_len]; omega) (by rw [colM_len, cntM_len]; omega)
    have ih' := ih (j + 1) h5 (by omega) J5 (by have := x2'.len; have := x3.len; have := x4'.len; have := x5.len; omega)
    obtain ⟨al2, el3, el4⟩ := su_at J2.sl etU.under hi
    obtain ⟨ar2, er3, er4⟩ := si_at J2.sr hir
    have ear : ar2 = ar := by rw [er1] at er3; simpa using er3.symm
    subst ear
    generalize hA : atM (cntM n (ps ++ [(rows.getD i 0, l.getD i 0)])) (rows.getD i 0) (j : Int) = A at *
    generalize hB : atM (cntM n ps) (rows.getD i 0) (j : Int) = B at *
    generalize hC : cmpV (colM (cntM n ps) j) (colM (cntM n (ps ++ [(rows.getD i 0, l.getD i 0)])) j) = C at *
    cases hb : hasB (l.getD i 0) j with
    | false =>
      rw [hb] at hup hcol
      rw [if_neg (by simp)] at hup
      obtain rfl : A = B := by omega
      rw [Bool.false_and, Bool.false_and] at hcol
      have hC1 : ¬ C = -1 := of_decide_eq_false hcol
      simp only [hb] at hh
      have hw2 : IntKind.wrap .u64 ((A : Int) + 0) = (A : Int) := by rw [wrap_u64] <;> omega
      have ff : (!(false == false)) = false := rfl
      simp -implicitDefEqProofs (maxSteps := 1000000) (disch := omega) only [↓c8_3_eq, ↓c8_6_eq, ↓c8_7_eq, ↓c8_8_eq, ↓c8_9_eq, ↓c8_10_eq, ↓c8_11_eq, ↓c8_12_eq, ↓c8_13_eq, ↓c8_14_eq, ↓c8_15_eq, ↓c8_16_eq, ↓c8_17_eq, ↓c8_18_eq, ↓d8_0_0, ↓d8_0_1, ↓d8_0_2, ↓d8_0_3, ↓d8_0_4, ↓d8_0_5, ↓d8_0_6, ↓d8_0_7, ↓d8_0_8, ↓d8_0_9, ↓d8_0_10, ↓d8_0_11, ↓d8_0_12, ↓d8_0_13, ↓d8_0_14, ↓d8_0_15, ↓d8_0_16, ↓d8_0_17, ↓d8_0_18, ↓d8_0_19, ↓d8_0_20, ↓d8_0_21, ↓d8_0_22, ↓d8_0_23, ↓d8_0_24, ↓d8_0_25, ↓d8_0_26, ↓d8_0_27, ↓d8_0_28, ↓d8_0_29, ↓d8_0_30, dcT, dcF, el1, el2, hh, er1, er2, er4, J.m.ld, J2.w.ld, e2, n2, e3, mcvI64, hw2, ne_eq, eq_self, not_true_eq_false, decide_false, J3.w.ld, J4.m.ld, e4, n4, e5, e6, ubneq, ff, List.append_nil, List.nil_append, hw, ↓cnd_true, ↓cnd_false, ↓Option.bind_some, ↓obH_some', bin_add, bin_sub, bin_mul, bin_lss, bin_leq, bin_gtr, bin_geq, bin_eql, bin_neq, un_not, un_neg, Option.bind_some, Option.bind_none, Option.map_some, cnd_true, cnd_false, pickV_true, pickV_false, gd_true, gd_false, gdV_true, gdV_false, gdH_true, gdH_false, gdS_true, gdS_false, wt_ff, wt_tt, wt_ft, wt_tf, wt_undef, obH_some', extractV_tuple, nilCheckV_ptr, againK_normal, againK_exit, againK_ret, blockK_normal, blockK_same, blockK_ret, seqK_normal, seqK_exit, seqK_ret, fin_done, if_true', if_false', Bool.not_true, Bool.not_false, idx0, idx1, idx2, idx3, idx4, chk_nil_l, chk_nil_r, done_nm]
      exact ih' _ _ _ _ _ _ _ _ _ _ _ _ _ _ _ _ _ _ _ _ _ _ _ _ _ _ _ _ _ _ _ _ _ _ _ _ _ _ _ _ _ _ _ _ _ _ _ _ _ _ _ _ _ _ _ _ _ _ _ _ _ _ _ _ _ _ _ _ _ _ _ _ _ _ _ _ _ _ _ _ _ _ _ _ _ _ _ _ _ _ _ _ _ _ _ _ _ _ _ _ _ _ _ _ _ _ _ _ _ _ _ _ _ _ _ _ _ _ _ _ _ _ _ _ _ _ _ _
    | true =>
      rw [hb] at hup hcol
      simp only [hb] at hh
      by_cases r0 : rows.getD i 0 ≥ 0
      · by_cases r1 : rows.getD i 0 < n
        · rw [if_pos ⟨rfl, r0, r1⟩] at hup
          rw [decide_eq_true r0, decide_eq_true r1] at hcol
          have hC1 : C = -1 := of_decide_eq_true hcol
          subst hC1
          have hw2 : IntKind.wrap .u64 ((B : Int) + 1) = (A : Int) := by rw [wrap_u64] <;> omega
          have tt : (!(true == true)) = false := rfl
          simp -implicitDefEqProofs (maxSteps := 1000000) (disch := omega) only [↓c8_3_eq, ↓c8_6_eq, ↓c8_7_eq, ↓c8_8_eq, ↓c8_9_eq, ↓c8_10_eq, ↓c8_11_eq, ↓c8_12_eq, ↓c8_13_eq, ↓c8_14_eq, ↓c8_15_eq, ↓c8_16_eq, ↓c8_17_eq, ↓c8_18_eq, ↓d8_0_0, ↓d8_0_1, ↓d8_0_2, ↓d8_0_3, ↓d8_0_4, ↓d8_0_5, ↓d8_0_6, ↓d8_0_7, ↓d8_0_8, ↓d8_0_9, ↓d8_0_10, ↓d8_0_11, ↓d8_0_12, ↓d8_0_13, ↓d8_0_14, ↓d8_0_15, ↓d8_0_16, ↓d8_0_17, ↓d8_0_18, ↓d8_0_19, ↓d8_0_20, ↓d8_0_21, ↓d8_0_22, ↓d8_0_23, ↓d8_0_24, ↓d8_0_25, ↓d8_0_26, ↓d8_0_27, ↓d8_0_28, ↓d8_0_29, ↓d8_0_30, dcT, dcF, el1, el2, hh, er1, er2, er4, J.m.ld, J2.w.ld, e2, n2, e3, mcvI64, hw2, ne_eq, eq_self, not_true_eq_false, decide_false, decide_true, J3.w.ld, J4.m.ld, e4, n4, e5, e6, ubneq, tt, List.append_nil, List.nil_append, hw, ↓cnd_true, ↓cnd_false, ↓Option.bind_some, ↓obH_some', bin_add, bin_sub, bin_mul, bin_lss, bin_leq, bin_gtr, bin_geq, bin_eql, bin_neq, un_not, un_neg, Option.bind_some, Option.bind_none, Option.map_some, cnd_true, cnd_false, pickV_true, pickV_false, gd_true, gd_false, gdV_true, gdV_false, gdH_true, gdH_false, gdS_true, gdS_false, wt_ff, wt_tt, wt_ft, wt_tf, wt_undef, obH_some', extractV_tuple, nilCheckV_ptr, againK_normal, againK_exit, againK_ret, blockK_normal, blockK_same, blockK_ret, seqK_normal, seqK_exit, seqK_ret, fin_done, if_true', if_false', Bool.not_true, Bool.not_false, idx0, idx1, idx2, idx3, idx4, chk_nil_l, chk_nil_r, done_nm]
          exact ih' _ _ _ _ _ _ _ _ _ _ _ _ _ _ _ _ _ _ _ _ _ _ _ _ _ _ _ _ _ _ _ _ _ _ _ _ _ _ _ _ _ _ _ _ _ _ _ _ _ _ _ _ _ _ _ _ _ _ _ _ _ _ _ _ _ _ _ _ _ _ _ _ _ _ _ _ _ _ _ _ _ _ _ _ _ _ _ _ _ _ _ _ _ _ _ _ _ _ _ _ _ _ _ _ _ _ _ _ _ _ _ _ _ _ _ _ _ _ _ _ _ _ _ _ _ _ _ _
        · rw [if_neg (fun x => r1 x.2.2)] at hup
          obtain rfl : A = B := by omega
          rw [decide_eq_false r1, Bool.and_false] at hcol
          have hC1 : ¬ C = -1 := of_decide_eq_false hcol
          have hw2 : IntKind.wrap .u64 ((A : Int) + 0) = (A : Int) := by rw [wrap_u64] <;> omega
          have ff : (!(false == false)) = false := rfl
          simp -implicitDefEqProofs (maxSteps := 1000000) (disch := omega) only [↓c8_3_eq, ↓c8_6_eq, ↓c8_7_eq, ↓c8_8_eq, ↓c8_9_eq, ↓c8_10_eq, ↓c8_11_eq, ↓c8_12_eq, ↓c8_13_eq, ↓c8_14_eq, ↓c8_15_eq, ↓c8_16_eq, ↓c8_17_eq, ↓c8_18_eq, ↓d8_0_0, ↓d8_0_1, ↓d8_0_2, ↓d8_0_3, ↓d8_0_4, ↓d8_0_5, ↓d8_0_6, ↓d8_0_7, ↓d8_0_8, ↓d8_0_9, ↓d8_0_10, ↓d8_0_11, ↓d8_0_12, ↓d8_0_13, ↓d8_0_14, ↓d8_0_15, ↓d8_0_16, ↓d8_0_17, ↓d8_0_18, ↓d8_0_19, ↓d8_0_20, ↓d8_0_21, ↓d8_0_22, ↓d8_0_23, ↓d8_0_24, ↓d8_0_25, ↓d8_0_26, ↓d8_0_27, ↓d8_0_28, ↓d8_0_29, ↓d8_0_30, dcT, dcF, el1, el2, hh, er1, er2, er4, J.m.ld, J2.w.ld, e2, n2, e3, mcvI64, hw2, ne_eq, eq_self, not_true_eq_false, decide_false, J3.w.ld, J4.m.ld, e4, n4, e5, e6, ubneq, ff, List.append_nil, List.nil_append, hw, ↓cnd_true, ↓cnd_false, ↓Option.bind_some, ↓obH_some', bin_add, bin_sub, bin_mul, bin_lss, bin_leq, bin_gtr, bin_geq, bin_eql, bin_neq, un_not, un_neg, Option.bind_some, Option.bind_none, Option.map_some, cnd_true, cnd_false, pickV_true, pickV_false, gd_true, gd_false, gdV_true, gdV_false, gdH_true, gdH_false, gdS_true, gdS_false, wt_ff, wt_tt, wt_ft, wt_tf, wt_undef, obH_some', extractV_tuple, nilCheckV_ptr, againK_normal, againK_exit, againK_ret, blockK_normal, blockK_same, blockK_ret, seqK_normal, seqK_exit, seqK_ret, fin_done, if_true', if_false', Bool.not_true, Bool.not_false, idx0, idx1, idx2, idx3, idx4, chk_nil_l, chk_nil_r, done_nm]
          exact ih' _ _ _ _ _ _ _ _ _ _ _ _ _ _ _ _ _ _ _ _ _ _ _ _ _ _ _ _ _ _ _ _ _ _ _ _ _ _ _ _ _ _ _ _ _ _ _ _ _ _ _ _ _ _ _ _ _ _ _ _ _ _ _ _ _ _ _ _ _ _ _ _ _ _ _ _ _ _ _ _ _ _ _ _ _ _ _ _ _ _ _ _ _ _ _ _ _ _ _ _ _ _ _ _ _ _ _ _ _ _ _ _ _ _ _ _ _ _ _ _ _ _ _ _ _ _ _ _
      · rw [if_neg (fun x => r0 x.2.1)] at hup
        obtain rfl : A = B := by omega
        rw [decide_eq_false r0, Bool.and_false, Bool.false_and] at hcol
        have hC1 : ¬ C = -1 := of_decide_eq_false hcol
        have hw2 : IntKind.wrap .u64 ((A : Int) + 0) = (A : Int) := by rw [wrap_u64] <;> omega
        have ff : (!(false == false)) = false := rfl
        simp -implicitDefEqProofs (maxSteps := 1000000) (disch := omega) only [↓c8_3_eq, ↓c8_6_eq, ↓c8_7_eq, ↓c8_8_eq, ↓c8_9_eq, ↓c8_10_eq, ↓c8_11_eq, ↓c8_12_eq, ↓c8_13_eq, ↓c8_14_eq, ↓c8_15_eq, ↓c8_16_eq, ↓c8_17_eq, ↓c8_18_eq, ↓d8_0_0, ↓d8_0_1, ↓d8_0_2, ↓d8_0_3, ↓d8_0_4, ↓d8_0_5, ↓d8_0_6, ↓d8_0_7, ↓d8_0_8, ↓d8_0_9, ↓d8_0_10, ↓d8_0_11, ↓d8_0_12, ↓d8_0_13, ↓d8_0_14, ↓d8_0_15, ↓d8_0_16, ↓d8_0_17, ↓d8_0_18, ↓d8_0_19, ↓d8_0_20, ↓d8_0_21, ↓d8_0_22, ↓d8_0_23, ↓d8_0_24, ↓d8_0_25, ↓d8_0_26, ↓d8_0_27, ↓d8_0_28, ↓d8_0_29, ↓d8_0_30, dcT, dcF, el1, el2, hh, er1, er2, er4, J.m.ld, J2.w.ld, e2, n2, e3, mcvI64, hw2, ne_eq, eq_self, not_true_eq_false, decide_false, J3.w.ld, J4.m.ld, e4, n4, e5, e6, ubneq, ff, List.append_nil, List.nil_append, hw, ↓cnd_true, ↓cnd_false, ↓Option.bind_some, ↓obH_some', bin_add, bin_sub, bin_mul, bin_lss, bin_leq, bin_gtr, bin_geq, bin_eql, bin_neq, un_not, un_neg, Option.bind_some, Option.bind_none, Option.map_some, cnd_true, cnd_false, pickV_true, pickV_false, gd_true, gd_false, gdV_true, gdV_false, gdH_true, gdH_false, gdS_true, gdS_false, wt_ff, wt_tt, wt_ft, wt_tf, wt_undef, obH_some', extractV_tuple, nilCheckV_ptr, againK_normal, againK_exit, againK_ret, blockK_normal, blockK_same, blockK_ret, seqK_normal, seqK_exit, seqK_ret, fin_done, if_true', if_false', Bool.not_true, Bool.not_false, idx0, idx1, idx2, idx3, idx4, chk_nil_l, chk_nil_r, done_nm]
        exact ih' _ _ _ _ _ _ _ _ _ _ _ _ _ _ _ _ _ _ _ _ _ _ _ _ _ _ _ _ _ _ _ _ _ _ _ _ _ _ _ _ _ _ _ _ _ _ _ _ _ _ _ _ _ _ _ _ _ _ _ _ _ _ _ _ _ _ _ _ _ _ _ _ _ _ _ _ _ _ _ _ _ _ _ _ _ _ _ _ _ _ _ _ _ _ _ _ _ _ _ _ _ _ _ _ _ _ _ _ _ _ _ _ _ _ _ _ _ _ _ _ _ _ _ _ _ _ _ _
def pairs (rows : List Int) (l : List Nat) : List (Int × Nat) := rows.zip l
theorem pairs_len (rows : List Int) (l : List Nat) (h : l.length ≤ rows.length) : (pairs rows l).length = l.length := by simp [pairs]; omega
theorem pairs_get (rows : List Int) (l : List Nat) (h : l.length ≤ rows.length) {i : Nat} (hi : i < l.length) : (pairs rows l)[i]? = some (rows.getD i 0, l.getD i 0) := by
  unfold pairs
  rw [List.getElem?_zip_eq_some.2]
  rw [List.getD_eq_getElem?_getD, List.getD_eq_getElem?_getD, List.getElem?_eq_getElem hi, List.getElem?_eq_getElem (by omega : i < rows.length)]
  exact ⟨rfl, rfl⟩
theorem take_pairs (ps : List (Int × Nat)) {i : Nat} {p : Int × Nat} (h : ps[i]? = some p) : ps.take i ++ [p] = ps.take (i + 1) := by rw [List.take_add_one, h]; rfl
theorem rev_get (ps : List (Int × Nat)) {i : Nat} (hi : i < ps.length) : ps.reverse[i]? = ps[ps.length - 1 - i]? := List.getElem?_reverse hi
theorem ups_outer {h0 : Heap} {n pm po N : Nat} {lv rv : Value} {l : List Nat} {rows : List Int} (hn1 : 1 ≤ n) (hn : n ≤ 16) (hl : l.length ≤ 20) (hlr : l.length ≤ rows.length) (h64 : ∀ x ∈ l, x < 2 ^ 64) (hpm : N ≤ pm) (hpo : N ≤ po) (hne : pm ≠ po) (hlv : Lo lv N) (hrv : Lo rv N) :
    ∀ (mm i : Nat) (h : Heap) (vm vo : Value), l.length = i + mm → N ≤ h.blks.length → MVar h pm n vm (cntM n ((pairs rows l).take i)) → MVar h po n vo (cntM n ((pairs rows l).reverse.take i)) → SU h lv l → SI h rv rows → ∀ (x3 x4 x5 x8 x11 x12 x13 x14 x15 x16 x17 x18 x19 x20 x21 x22 x23 x24 x25 x26 x27 x28 x29 x30 x31 x32 x33 x34 x35 x36 x37 x38 x39 x40 x41 x42 x43 x44 x45 x46 x47 x48 x49 x50 x51 x52 x53 x54 x55 x56 x57 x58 x59 x60 x61 x62 x63 x64 x65 x66 x67 x68 x69 x70 x71 x72 x73 x74 x75 x76 x77 x78 x79 x80 x81 x82 x83 x84 x85 x86 x87 x88 x89 x90 x91 x92 x93 x94 x95 x96 x97 x98 x99 x100 x101 x102 x103 x104 x105 x106 x107 x108 x109 x110 x111 x112 x113 x114 x115 x116 x117 x118 x119 x120 x121 x122 x123 x124 x125 x126 x127 x128 x129 x130 x131 x132 x133 x134 x135 x136 : Value),
    ∃ r, loopK Try.prog (evC Try.prog) c8_1 ⟨#[.int .i64 n, lv, rv, x3, x4, x5, .bool false, .pointer (some ⟨pm, 0, none⟩), x8, .pointer (some ⟨po, 0, none⟩), .int .i64 i, x11, x12, x13, x14, x15, x16, x17, x18, x19, x20, x21, x22, x23, x24, x25, x26, x27, x28, x29, x30, x31, x32, x33, x34, x35, x36, x37, x38, x39, x40, x41, x42, x43, x44, x45, x46, x47, x48, x49, x50, x51, x52, x53, x54, x55, x56, x57, x58, x59, x60, x61, x62, x63, x64, x65, x66, x67, x68, x69, x70, x71, x72, x73, x74, x75, x76, x77, x78, x79, x80, x81, x82, x83, x84, x85, x86, x87, x88, x89, x90, x91, x92, x93, x94, x95, x96, x97, x98, x99, x100, x101, x102, x103, x104, x105, x106, x107, x108, x109, x110, x111, x112, x113, x114, x115, x116, x117, x118, x119, x120, x121, x122, x123, x124, x125, x126, x127, x128, x129, x130, x131, x132, x133, x134, x135, x136], h⟩ (blockK 0 (seqK Try.prog (evC Try.prog) c8_2 (retK Try.f8 Try.prog h0))) = some (.bool true, r) := by
  have hpl := pairs_len rows l hlr
  intro mm
  induction mm with
  | zero =>
    intro i h vm vo hi hN mv ov sl sr x3 x4 x5 x8 x11 x12 x13 x14 x15 x16 x17 x18 x19 x20 x21 x22 x23 x24 x25 x26 x27 x28 x29 x30 x31 x32 x33 x34 x35 x36 x37 x38 x39 x40 x41 x42 x43 x44 x45 x46 x47 x48 x49 x50 x51 x52 x53 x54 x55 x56 x57 x58 x59 x60 x61 x62 x63 x64 x65 x66 x67 x68 x69 x70 x71 x72 x73 x74 x75 x76 x77 x78 x79 x80 x81 x82 x83 x84 x85 x86 x87 x88 x89 x90 x91 x92 x93 x94 x95 x96 x97 x98 x99 x100 x101 x102 x103 x104 x105 x106 x107 x108 x109 x110 x111 x112 x113 x114 x115 x116 x117 x118 x119 x120 x121 x122 x123 x124 x125 x126 x127 x128 x129 x130 x131 x132 x133 x134 x135 x136
    rw [loopK_eq evC_m]
    rw [List.take_of_length_le (by omega)] at mv
    rw [List.take_of_length_le (by rw [List.length_reverse]; omega), cntM_rev] at ov
    have sm := cntM_small n (pairs rows l) hn1 hn
    have ws := within_self n (pairs rows l) hn1 hn
    obtain ⟨h2, e2, x2⟩ := spec_MWithin (n := n) (n2 := n) ov.am.smV mv.am.smV sm sm
    obtain ⟨h3, e3, x3⟩ := spec_MWithin (n := n) (n2 := n) (mv.ext x2).am.smV (ov.ext x2).am.smV sm sm
    rw [ws] at e2 e3
    simp -implicitDefEqProofs (disch := omega) only [↓c8_1_eq, ↓c8_2_eq, dcT, dcF, sl.row.len_eq etU.under, ov.ld, mv.ld, e2, (ov.ext x2).ld, (mv.ext x2).ld, e3, ↓ret8, ↓cnd_true, ↓cnd_false, ↓Option.bind_some, ↓obH_some', bin_add, bin_sub, bin_mul, bin_lss, bin_leq, bin_gtr, bin_geq, bin_eql, bin_neq, un_not, un_neg, Option.bind_some, Option.bind_none, Option.map_some, cnd_true, cnd_false, pickV_true, pickV_false, gd_true, gd_false, gdV_true, gdV_false, gdH_true, gdH_false, gdS_true, gdS_false, wt_ff, wt_tt, wt_ft, wt_tf, wt_undef, obH_some', extractV_tuple, nilCheckV_ptr, againK_normal, againK_exit, againK_ret, blockK_normal, blockK_same, blockK_ret, seqK_normal, seqK_exit, seqK_ret, fin_done, if_true', if_false', Bool.not_true, Bool.not_false, idx0, idx1, idx2, idx3, idx4, chk_nil_l, chk_nil_r, done_nm]
    exact ⟨_, rfl⟩
  | succ mm ih =>
    intro i h vm vo hi hN mv ov sl sr x3 x4 x5 x8 x11 x12 x13 x14 x15 x16 x17 x18 x19 x20 x21 x22 x23 x24 x25 x26 x27 x28 x29 x30 x31 x32 x33 x34 x35 x36 x37 x38 x39 x40 x41 x42 x43 x44 x45 x46 x47 x48 x49 x50 x51 x52 x53 x54 x55 x56 x57 x58 x59 x60 x61 x62 x63 x64 x65 x66 x67 x68 x69 x70 x71 x72 x73 x74 x75 x76 x77 x78 x79 x80 x81 x82 x83 x84 x85 x86 x87 x88 x89 x90 x91 x92 x93 x94 x95 x96 x97 x98 x99 x100 x101 x102 x103 x104 x105 x106 x107 x108 x109 x110 x111 x112 x113 x114 x115 x116 x117 x118 x119 x120 x121 x122 x123 x124 x125 x126 x127 x128 x129 x130 x131 x132 x133 x134 x135 x136
    rw [loopK_eq evC_m]
    have hil : i < l.length := by omega
    have hto := getD_lt l h64 i
    have hpi := pairs_get rows l hlr hil
    have htl : ((pairs rows l).take i).length < 100 := by simp; omega
    have hol : ((pairs rows l).reverse.take i).length < 100 := by simp; omega
    -- what was
    have k1 := alM h
    obtain ⟨va, vc, rfl⟩ := mv.am.shape
    have k2 := mvar (h := h) n va (cntM n ((pairs rows l).take i)).length vc
    have cw := mvar_cells h [.int .i64 0, .slice none 0 0] [.int .i64 n, .slice va (cntM n ((pairs rows l).take i)).length vc] 45
    have s2 := mvar_same h (.cells [.int .i64 0, .slice none 0 0]) (.cells [.int .i64 n, .slice va (cntM n ((pairs rows l).take i)).length vc]) 45
    have hpw : h.blks.length ≠ pm := by have := mv.cells.lt; omega
    have hpw2 : h.blks.length ≠ po := by have := ov.cells.lt; omega
    have l2 : N ≤ ((h.new (.cells [.int .i64 0, .slice none 0 0]) 45).put h.blks.length (.cells [.int .i64 n, .slice va (cntM n ((pairs rows l).take i)).length vc])).blks.length := Nat.le_trans hN s2.1
    generalize (h.new (.cells [.int .i64 0, .slice none 0 0]) 45).put h.blks.length (.cells [.int .i64 n, .slice va (cntM n ((pairs rows l).take i)).length vc]) = h2 at *
    have mv2 := mv.same s2
    have ov2 := ov.same s2
    have wv2 : MVar h2 h.blks.length n (.slice va (cntM n ((pairs rows l).take i)).length vc) (cntM n ((pairs rows l).take i)) := ⟨cw, mv2.am⟩
    have sl2 : SU h2 lv l := Sl.same sl s2
    have sr2 : SI h2 rv rows := Sl.same sr s2
    obtain ⟨al, el1, el2⟩ := su_at sl2 etU.under hil
    obtain ⟨ar, er1, er2⟩ := si_at sr2 (i := i) (by omega)
    obtain ⟨v3, h3, e3, x3, a3⟩ := spec_MUp (n := n) mv2.am.smV (cntM_small n _ hn1 hn) (cntM_lt n _ (by omega)) (rows.getD i 0) (l.getD i 0) hto
    rw [cntM_up n _ hn1 hn (by omega)] at a3
    obtain ⟨a4, c4, rfl⟩ := a3.shape
    have mv3 := mv2.ext x3
    have ov3 := ov2.ext x3
    have wv3 := wv2.ext x3
    have st4 : storeV Try.prog 45 (.pointer (some ⟨pm, 0, none⟩)) (.agg #[.int .i64 n, .slice a4 (cntM n ((pairs rows l).take i ++ [(rows.getD i 0, l.getD i 0)])).length c4]) h3 = some (h3.put pm (.cells [.int .i64 n, .slice a4 (cntM n ((pairs rows l).take i ++ [(rows.getD i 0, l.getD i 0)])).length c4])) := by
      rw [stM, storeN_blk mv3.cells (o := 0) (vs := [.int .i64 n, .slice a4 (cntM n ((pairs rows l).take i ++ [(rows.getD i 0, l.getD i 0)])).length c4]) (by simp), w2_put]
    have mv4 : MVar (h3.put pm (.cells [.int .i64 n, .slice a4 (cntM n ((pairs rows l).take i ++ [(rows.getD i 0, l.getD i 0)])).length c4])) pm n (.slice a4 (cntM n ((pairs rows l).take i ++ [(rows.getD i 0, l.getD i 0)])).length c4) (cntM n ((pairs rows l).take i ++ [(rows.getD i 0, l.getD i 0)])) :=
      ⟨mv3.cells.put _, (a3.up (Nat.zero_le _)).put mv3.cells (by decide) (by decide) _⟩
    have ov4 := ov3.put (q := pm) hne mv3.cells (.cells [.int .i64 n, .slice a4 (cntM n ((pairs rows l).take i ++ [(rows.getD i 0, l.getD i 0)])).length c4])
    have wv4 := wv3.put (q := pm) (Ne.symm hpw) mv3.cells (.cells [.int .i64 n, .slice a4 (cntM n ((pairs rows l).take i ++ [(rows.getD i 0, l.getD i 0)])).length c4])
    have sl4 : SU _ lv l := (sl2.ext x3).keepPut (p := pm) (fun e => by have := hlv pm e; omega) (.cells [.int .i64 n, .slice a4 (cntM n ((pairs rows l).take i ++ [(rows.getD i 0, l.getD i 0)])).length c4])
    have sr4 : SI _ rv rows := (sr2.ext x3).keepPut (p := pm) (fun e => by have := hrv pm e; omega) (.cells [.int .i64 n, .slice a4 (cntM n ((pairs rows l).take i ++ [(rows.getD i 0, l.getD i 0)])).length c4])
    have l4 : N ≤ (h3.put pm (.cells [.int .i64 n, .slice a4 (cntM n ((pairs rows l).take i ++ [(rows.getD i 0, l.getD i 0)])).length c4])).blks.length := by rw [Heap.put_len]; have := x3.len; omega
    generalize h3.put pm (.cells [.int .i64 n, .slice a4 (cntM n ((pairs rows l).take i ++ [(rows.getD i 0, l.getD i 0)])).length c4]) = h4 at *
    have J : UpJ h4 n pm h.blks.length po _ _ vo (cntM n ((pairs rows l).take i ++ [(rows.getD i 0, l.getD i 0)])) (cntM n ((pairs rows l).take i)) (cntM n ((pairs rows l).reverse.take i)) lv rv l rows := ⟨mv4, wv4, ov4, sl4, sr4⟩
    have hpr : (pairs rows l).reverse[i]? = some (rows.getD (l.length - 1 - i) 0, l.getD (l.length - 1 - i) 0) := by
      rw [rev_get _ (by omega), hpl]; exact pairs_get rows l hlr (by omega)
    have hto2 := getD_lt l h64 (l.length - 1 - i)
    have inner := ups_inner (i := i) (ps := (pairs rows l).take i) (vm := .slice a4 (cntM n ((pairs rows l).take i ++ [(rows.getD i 0, l.getD i 0)])).length c4) (vw := .slice va (cntM n ((pairs rows l).take i)).length vc) hn1 hn htl hil (by omega) h64
      (seqK Try.prog (evC Try.prog) c8_4 (blockK 1 (seqK Try.prog (evC Try.prog) c8_5 (againK Try.prog (evC Try.prog) c8_1 (blockK 0 (seqK Try.prog (evC Try.prog) c8_2 (retK Try.f8 Try.prog h0))))))) (by
        intro h5 J5 hN5 x3 x4 x5 x8 x11 x12 x13 x14 x15 x16 x17 x18 x19 x20 x21 x22 x23 x24 x25 x26 x27 x28 x29 x30 x31 x32 x33 x34 x35 x36 x37 x38 x39 x40 x41 x42 x43 x44 x45 x46 x47 x48 x49 x50 x51 x52 x53 x54 x55 x56 x57 x58 x59 x60 x61 x62 x63 x64 x65 x66 x67 x68 x69 x70 x71 x72 x73 x74 x75 x76 x77 x78 x79 x80 x81 x82 x83 x84 x85 x86 x87 x88 x89 x90 x91 x92 x93 x94 x95 x96 x97 x98 x99 x100 x101 x102 x103 x104 x105 x106 x107 x108 x109 x110 x111 x112 x113 x114 x115 x116 x117 x118 x119 x120 x121 x122 x123 x124 x125 x126 x127 x128 x129 x130 x131 x132 x133 x134 x135 x136
        obtain ⟨al5, el5, el6⟩ := su_at J5.sl etU.under (i := l.length - 1 - i) (by omega)
        obtain ⟨ar5, er5, er6⟩ := si_at J5.sr (i := l.length - 1 - i) (by omega)
        obtain ⟨v6, h6, e6, y6, a6⟩ := spec_MUp (n := n) J5.o.am.smV (cntM_small n _ hn1 hn) (cntM_lt n _ (by omega)) (rows.getD (l.length - 1 - i) 0) (l.getD (l.length - 1 - i) 0) hto2
        rw [cntM_up n _ hn1 hn (by omega), take_pairs _ hpr] at a6
        obtain ⟨a7, c7, rfl⟩ := a6.shape
        have J6 := J5.same y6.same
        have st7 : storeV Try.prog 45 (.pointer (some ⟨po, 0, none⟩)) (.agg #[.int .i64 n, .slice a7 (cntM n ((pairs rows l).reverse.take (i + 1))).length c7]) h6 = some (h6.put po (.cells [.int .i64 n, .slice a7 (cntM n ((pairs rows l).reverse.take (i + 1))).length c7])) := by
          rw [stM, storeN_blk J6.o.cells (o := 0) (vs := [.int .i64 n, .slice a7 (cntM n ((pairs rows l).reverse.take (i + 1))).length c7]) (by simp), w2_put]
        have ov7 : MVar (h6.put po (.cells [.int .i64 n, .slice a7 (cntM n ((pairs rows l).reverse.take (i + 1))).length c7])) po n _ (cntM n ((pairs rows l).reverse.take (i + 1))) := ⟨J6.o.cells.put _, (a6.up (Nat.zero_le _)).put J6.o.cells (by decide) (by decide) _⟩
        have mv7 := J6.m.put (q := po) (Ne.symm hne) J6.o.cells (.cells [.int .i64 n, .slice a7 (cntM n ((pairs rows l).reverse.take (i + 1))).length c7])
        rw [take_pairs _ hpi] at mv7
        have sl7 : SU _ lv l := J6.sl.keepPut (p := po) (fun e => by have := hlv po e; omega) (.cells [.int .i64 n, .slice a7 (cntM n ((pairs rows l).reverse.take (i + 1))).length c7])
        have sr7 : SI _ rv rows := J6.sr.keepPut (p := po) (fun e => by have := hrv po e; omega) (.cells [.int .i64 n, .slice a7 (cntM n ((pairs rows l).reverse.take (i + 1))).length c7])
        have w1 : IntKind.wrap .i64 ((l.length : Int) - 1) = ((l.length - 1 : Nat) : Int) := by rw [wrap_i64] <;> omega
        have w2 : IntKind.wrap .i64 (((l.length - 1 : Nat) : Int) - (i : Int)) = ((l.length - 1 - i : Nat) : Int) := by rw [wrap_i64] <;> omega
        have w3 : IntKind.wrap .i64 ((i : Int) + 1) = ((i + 1 : Nat) : Int) := by rw [wrap_i64] <;> omega
        have hN7 : N ≤ (h6.put po (.cells [.int .i64 n, .slice a7 (cntM n ((pairs rows l).reverse.take (i + 1))).length c7])).blks.length := by rw [Heap.put_len]; have := y6.len; omega
        have ih' := ih (i + 1) _ _ _ (by omega) hN7 mv7 ov7 sl7 sr7
        simp -implicitDefEqProofs (maxSteps := 1000000) (disch := omega) only [↓c8_4_eq, ↓c8_5_eq, dcT, dcF, J5.o.ld, J5.sl.row.len_eq etU.under, w1, w2, el5, el6, er5, er6, e6, st7, w3, ↓cnd_true, ↓cnd_false, ↓Option.bind_some, ↓obH_some', bin_add, bin_sub, bin_mul, bin_lss, bin_leq, bin_gtr, bin_geq, bin_eql, bin_neq, un_not, un_neg, Option.bind_some, Option.bind_none, Option.map_some, cnd_true, cnd_false, pickV_true, pickV_false, gd_true, gd_false, gdV_true, gdV_false, gdH_true, gdH_false, gdS_true, gdS_false, wt_ff, wt_tt, wt_ft, wt_tf, wt_undef, obH_some', extractV_tuple, nilCheckV_ptr, againK_normal, againK_exit, againK_ret, blockK_normal, blockK_same, blockK_ret, seqK_normal, seqK_exit, seqK_ret, fin_done, if_true', if_false', Bool.not_true, Bool.not_false, idx0, idx1, idx2, idx3, idx4, chk_nil_l, chk_nil_r, done_nm]
        exact ih' _ _ _ _ _ _ _ _ _ _ _ _ _ _ _ _ _ _ _ _ _ _ _ _ _ _ _ _ _ _ _ _ _ _ _ _ _ _ _ _ _ _ _ _ _ _ _ _ _ _ _ _ _ _ _ _ _ _ _ _ _ _ _ _ _ _ _ _ _ _ _ _ _ _ _ _ _ _ _ _ _ _ _ _ _ _ _ _ _ _ _ _ _ _ _ _ _ _ _ _ _ _ _ _ _ _ _ _ _ _ _ _ _ _ _ _ _ _ _ _ _ _ _ _ _ _ _ _ _ _)
      n 0 h4 (by omega) J l4
    have hcc : lenV Try.prog 22 lv h = some (.int .i64 l.length) := sl.row.len_eq etU.under
    simp -implicitDefEqProofs (maxSteps := 1000000) (disch := omega) only [↓c8_1_eq, dcT, dcF, hcc, mv.ld, k1, k2, mv2.ld, er1, er2, el1, el2, e3, st4, ↓cnd_true, ↓cnd_false, ↓Option.bind_some, ↓obH_some', bin_add, bin_sub, bin_mul, bin_lss, bin_leq, bin_gtr, bin_geq, bin_eql, bin_neq, un_not, un_neg, Option.bind_some, Option.bind_none, Option.map_some, cnd_true, cnd_false, pickV_true, pickV_false, gd_true, gd_false, gdV_true, gdV_false, gdH_true, gdH_false, gdS_true, gdS_false, wt_ff, wt_tt, wt_ft, wt_tf, wt_undef, obH_some', extractV_tuple, nilCheckV_ptr, againK_normal, againK_exit, againK_ret, blockK_normal, blockK_same, blockK_ret, seqK_normal, seqK_exit, seqK_ret, fin_done, if_true', if_false', Bool.not_true, Bool.not_false, idx0, idx1, idx2, idx3, idx4, chk_nil_l, chk_nil_r, done_nm]
    exact inner _ _ _ _ _ _ _ _ _ _ _ _ _ _ _ _ _ _ _ _ _ _ _ _ _ _ _ _ _ _ _ _ _ _ _ _ _ _ _ _ _ _ _ _ _ _ _ _ _ _ _ _ _ _ _ _ _ _ _ _ _ _ _ _ _ _ _ _ _ _ _ _ _ _ _ _ _ _ _ _ _ _ _ _ _ _ _ _ _ _ _ _ _ _ _ _ _ _ _ _ _ _ _ _ _ _ _ _ _ _ _ _ _ _ _ _ _ _ _ _ _ _ _ _ _ _ _ _
theorem mlaw_MatUps (n : Int) (lv rv : Value) (l : List Nat) (rows : List Int) (h : Heap) (sl : SU h lv l) (sr : SI h rv rows) (h64 : ∀ x ∈ l, x < 2 ^ 64) : ∃ h', evC Try.prog 8 #[.int .i64 n, lv, rv] h = some (.bool true, h') := by
  rw [call8]
  obtain ⟨h1, e1, x1⟩ := spec_awake16 (nm h)
  have sl1 := sl.nm.ext x1
  have sr1 := sr.nm.ext x1
  obtain ⟨v2, h2, e2, x2, a2⟩ := spec_MNew n h1
  have sl2 := sl1.ext x2
  have sr2 := sr1.ext x2
  generalize hcn : (if 1 ≤ n ∧ n ≤ 16 then n else 0) = cn at *
  generalize hcm : (if 1 ≤ n ∧ n ≤ 16 then zerosM n.toNat else []) = cm at *
  obtain ⟨va, vc, rfl⟩ := a2.shape
  have k3 := alM h2
  have k3' := mvar (h := h2) cn va cm.length vc
  have c3 := mvar_cells h2 [.int .i64 0, .slice none 0 0] [.int .i64 cn, .slice va cm.length vc] 45
  have s3 := mvar_same h2 (.cells [.int .i64 0, .slice none 0 0]) (.cells [.int .i64 cn, .slice va cm.length vc]) 45
  have l3 := s3.1
  generalize (h2.new (.cells [.int .i64 0, .slice none 0 0]) 45).put h2.blks.length (.cells [.int .i64 cn, .slice va cm.length vc]) = h3 at *
  have sl3 : SU h3 lv l := Sl.same sl2 s3
  have sr3 : SI h3 rv rows := Sl.same sr2 s3
  by_cases hc : 1 ≤ n ∧ n ≤ 16
  rotate_left
  · rw [if_neg hc] at e2
    simp -implicitDefEqProofs (disch := omega) only [↓c8_0_eq, dcT, dcF, e1, e2, k3, k3', ↓ret8, ↓cnd_true, ↓cnd_false, ↓Option.bind_some, ↓obH_some', bin_add, bin_sub, bin_mul, bin_lss, bin_leq, bin_gtr, bin_geq, bin_eql, bin_neq, un_not, un_neg, Option.bind_some, Option.bind_none, Option.map_some, cnd_true, cnd_false, pickV_true, pickV_false, gd_true, gd_false, gdV_true, gdV_false, gdH_true, gdH_false, gdS_true, gdS_false, wt_ff, wt_tt, wt_ft, wt_tf, wt_undef, obH_some', extractV_tuple, nilCheckV_ptr, againK_normal, againK_exit, againK_ret, blockK_normal, blockK_same, blockK_ret, seqK_normal, seqK_exit, seqK_ret, fin_done, if_true', if_false', Bool.not_true, Bool.not_false, idx0, idx1, idx2, idx3, idx4, chk_nil_l, chk_nil_r, done_nm]
    exact ⟨_, rfl⟩
  rw [if_pos hc] at e2 hcn hcm
  subst hcn
  by_cases c1 : l.length > 20
  · simp -implicitDefEqProofs (disch := omega) only [↓c8_0_eq, dcT, dcF, e1, e2, k3, k3', sl3.row.len_eq etU.under, ne_eq, eq_self, not_true_eq_false, decide_false, ↓ret8, ↓cnd_true, ↓cnd_false, ↓Option.bind_some, ↓obH_some', bin_add, bin_sub, bin_mul, bin_lss, bin_leq, bin_gtr, bin_geq, bin_eql, bin_neq, un_not, un_neg, Option.bind_some, Option.bind_none, Option.map_some, cnd_true, cnd_false, pickV_true, pickV_false, gd_true, gd_false, gdV_true, gdV_false, gdH_true, gdH_false, gdS_true, gdS_false, wt_ff, wt_tt, wt_ft, wt_tf, wt_undef, obH_some', extractV_tuple, nilCheckV_ptr, againK_normal, againK_exit, againK_ret, blockK_normal, blockK_same, blockK_ret, seqK_normal, seqK_exit, seqK_ret, fin_done, if_true', if_false', Bool.not_true, Bool.not_false, idx0, idx1, idx2, idx3, idx4, chk_nil_l, chk_nil_r, done_nm]
    exact ⟨_, rfl⟩
  by_cases c2 : rows.length < l.length
  · simp -implicitDefEqProofs (disch := omega) only [↓c8_0_eq, dcT, dcF, e1, e2, k3, k3', sl3.row.len_eq etU.under, sr3.row.len_eq etI.under, ne_eq, eq_self, not_true_eq_false, decide_false, ↓ret8, ↓cnd_true, ↓cnd_false, ↓Option.bind_some, ↓obH_some', bin_add, bin_sub, bin_mul, bin_lss, bin_leq, bin_gtr, bin_geq, bin_eql, bin_neq, un_not, un_neg, Option.bind_some, Option.bind_none, Option.map_some, cnd_true, cnd_false, pickV_true, pickV_false, gd_true, gd_false, gdV_true, gdV_false, gdH_true, gdH_false, gdS_true, gdS_false, wt_ff, wt_tt, wt_ft, wt_tf, wt_undef, obH_some', extractV_tuple, nilCheckV_ptr, againK_normal, againK_exit, againK_ret, blockK_normal, blockK_same, blockK_ret, seqK_normal, seqK_exit, seqK_ret, fin_done, if_true', if_false', Bool.not_true, Bool.not_false, idx0, idx1, idx2, idx3, idx4, chk_nil_l, chk_nil_r, done_nm]
    exact ⟨_, rfl⟩
  obtain ⟨n, rfl⟩ : ∃ k : Nat, n = k := ⟨n.toNat, by omega⟩
  rw [Int.toNat_natCast] at hcm
  have mv3 : MVar h3 h2.blks.length n (.slice va cm.length vc) cm := ⟨c3, (a2.up (Nat.zero_le _)).same s3⟩
  have k4 := alM h3
  have k4' := mvar (h := h3) n va cm.length vc
  have c4 := mvar_cells h3 [.int .i64 0, .slice none 0 0] [.int .i64 n, .slice va cm.length vc] 45
  have s4 := mvar_same h3 (.cells [.int .i64 0, .slice none 0 0]) (.cells [.int .i64 n, .slice va cm.length vc]) 45
  have l4 := s4.1
  have lt3 := c3.lt
  generalize (h3.new (.cells [.int .i64 0, .slice none 0 0]) 45).put h3.blks.length (.cells [.int .i64 n, .slice va cm.length vc]) = h4 at *
  have mv4 := mv3.same s4
  have ov4 : MVar h4 h3.blks.length n (.slice va cm.length vc) cm := ⟨c4, mv4.am⟩
  have e0 : cm = cntM n ((pairs rows l).take 0) := by rw [← hcm, List.take_zero, cntM_nil]
  have e0' : cm = cntM n ((pairs rows l).reverse.take 0) := by rw [← hcm, List.take_zero, cntM_nil]
  have sl4 : SU h4 lv l := Sl.same sl3 s4
  have sr4 : SI h4 rv rows := Sl.same sr3 s4
  have mv5 := mv4
  rw [e0] at mv5
  have ov5 := ov4
  rw [e0'] at ov5
  have mv6 : MVar h4 h2.blks.length n (.slice va cm.length vc) (cntM n ((pairs rows l).take 0)) := by rw [← e0]; exact mv4
  have ov6 : MVar h4 h3.blks.length n (.slice va cm.length vc) (cntM n ((pairs rows l).reverse.take 0)) := by rw [← e0']; exact ov4
  have main := ups_outer (h0 := h) (N := h2.blks.length) (by omega) (by omega) (by omega) (by omega) h64 (Nat.le_refl _) (by omega) (by omega) sl2.lo sr2.lo l.length 0 h4 _ _ (by omega) (by omega) mv6 ov6 sl4 sr4
  rw [show ((0 : Nat) : Int) = 0 from rfl] at main
  simp -implicitDefEqProofs (maxSteps := 1000000) (disch := omega) only [↓c8_0_eq, dcT, dcF, e1, e2, k3, k3', sl3.row.len_eq etU.under, sr3.row.len_eq etI.under, mv3.ld, k4, k4', ne_eq, eq_self, not_true_eq_false, decide_false, ↓cnd_true, ↓cnd_false, ↓Option.bind_some, ↓obH_some', bin_add, bin_sub, bin_mul, bin_lss, bin_leq, bin_gtr, bin_geq, bin_eql, bin_neq, un_not, un_neg, Option.bind_some, Option.bind_none, Option.map_some, cnd_true, cnd_false, pickV_true, pickV_false, gd_true, gd_false, gdV_true, gdV_false, gdH_true, gdH_false, gdS_true, gdS_false, wt_ff, wt_tt, wt_ft, wt_tf, wt_undef, obH_some', extractV_tuple, nilCheckV_ptr, againK_normal, againK_exit, againK_ret, blockK_normal, blockK_same, blockK_ret, seqK_normal, seqK_exit, seqK_ret, fin_done, if_true', if_false', Bool.not_true, Bool.not_false, idx0, idx1, idx2, idx3, idx4, chk_nil_l, chk_nil_r, done_nm]
  exact main _ _ _ _ _ _ _ _ _ _ _ _ _ _ _ _ _ _ _ _ _ _ _ _ _ _ _ _ _ _ _ _ _ _ _ _ _ _ _ _ _ _ _ _ _ _ _ _ _ _ _ _ _ _ _ _ _ _ _ _ _ _ _ _ _ _ _ _ _ _ _ _ _ _ _ _ _ _ _ _ _ _ _ _ _ _ _ _ _ _ _ _ _ _ _ _ _ _ _ _ _ _ _ _ _ _ _ _ _ _ _ _ _ _ _ _ _ _ _ _ _ _ _ _ _ _ _ _ _ _
theorem law_MatUps (h : Heap) (vs : List Value) (dd : List DT) (r : RdAll Try.prog h [3, 22, 26] vs dd) : ∃ h', evC Try.prog 8 vs.toArray h = some (.bool true, h') := by
  obtain ⟨v, d, vs', ds', rfl, rfl, r0, r1⟩ := r.cons_inv
  obtain ⟨v1, d1, vs', ds', rfl, rfl, ra, r2⟩ := r1.cons_inv
  obtain ⟨v2, d2, vs', ds', rfl, rfl, rb, r3⟩ := r2.cons_inv
  obtain ⟨rfl, rfl⟩ := r3.nil_inv
  obtain ⟨n, rfl, _⟩ := r0.i64 (by kernel_rfl)
  obtain ⟨l, sl, h64, _⟩ := ra.u64s (e := 29) (by kernel_rfl) (by kernel_rfl) (by kernel_rfl)
  obtain ⟨zs, sz, _, _⟩ := rb.ints (e := 3) (by kernel_rfl) (k := .i64) (by kernel_rfl) (by kernel_rfl)
  exact mlaw_MatUps n _ _ l zs h sl sz h64
end Go.Am
