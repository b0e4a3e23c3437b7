/- What the functions answer, in the machine. -/
import Derived.Test.YtclpkcampbhbdaaKD
import Derived.Shelf.SlSortCmp.NoneTotal
set_option linter.all false
namespace Go.Am
open Go.Proofs
set_option maxRecDepth 100000
set_option linter.all false
attribute [local congr] obind_congr obH_congr cnd_congr chk_congr retK_congr codeK_congr
theorem AMv.modp {eo : TypeId} {n0 : Nat} {h h' : Heap} {v : Value} {vs : List Value} {m : List (List Nat)} (a : AMv eo n0 h v vs m) {S : Nat → Prop} (e : HMod S h h') (k : ∀ b, S b → ∃ T cs, Cells h b T cs ∧ T ≠ eo ∧ T ≠ 35) : AMv eo n0 h' v vs m :=
  a.kp fun b all ty hb ht _ => e.old b (List.getElem?_eq_some_iff.1 hb).1 fun hs => by
    obtain ⟨T, cs, hc, h1, h2⟩ := k b hs
    unfold Cells at hc
    rw [hb] at hc
    simp only [Option.some.injEq, Blk.mk.injEq] at hc
    rcases ht with ht | ht
    · exact h1 (hc.2.1.symm.trans ht)
    · exact h2 (hc.2.1.symm.trans ht)
theorem set_mid (pre : List Nat) (x y : Nat) (l : List Nat) : (pre ++ x :: l).set pre.length y = pre ++ y :: l := by
  rw [List.set_append_right _ _ (Nat.le_refl _), Nat.sub_self, List.set_cons_zero]
theorem set_midM (pre : List (List Nat)) (x y : List Nat) (l : List (List Nat)) : (pre ++ x :: l).set pre.length y = pre ++ y :: l := by
  rw [List.set_append_right _ _ (Nat.le_refl _), Nat.sub_self, List.set_cons_zero]
theorem getD_mid (pre : List Nat) (x : Nat) (l : List Nat) : (pre ++ x :: l).getD pre.length 0 = x := by simp
theorem RdrL.keepB {L : Nat} {h h' : Heap} {p : Nat} {r : Option (List UInt8)} (w : RdrL L h p r) (hc : ∀ T cs, Cells h p T cs → T ≠ 35 → Cells h' p T cs) (hb : ∀ b, L ≤ b → h'.blks[b]? = h.blks[b]?) : RdrL L h' p r :=
  let ⟨a, c, x, y, z⟩ := w
  ⟨a, c, hc _ _ x (by decide), y.keep fun b _ hv => hb b (z b hv).1, z⟩
theorem read_inner {Q : Option (Value × Heap) → Prop} {h0 : Heap} {L q4 p6 rp : Nat} {rows x bv : Value} {vs : List Value} {m : List (List Nat)} {i n : Nat} {ml : Int} (hi : i < m.length) (hx : vs[i]? = some x) (hn : n ≤ 16) (hxL : Lo x L) (k : Ex → St → Option (Value × Heap)) :
    ∀ (mm j : Nat) (h : Heap) (pre : List Nat) (r : Option (List UInt8)), n = j + mm → pre.length = j → AMv 89 h0.blks.length h rows vs (m.set i (pre ++ List.replicate mm 0)) → RdrL L h rp r → h0.blks.length ≤ rp → (rbs r).length < 2 ^ 40 → Cells h q4 30 [.int .i64 0, .slice none 0 0] → Cells h p6 30 [.int .i64 n, rows] → In h0.blks.length No (nm h0) h →
    (∀ h', AMv 89 h0.blks.length h' rows vs (m.set i (pre ++ (readRow mm r).1)) → RdrL L h' rp (readRow mm r).2 → Cells h' q4 30 [.int .i64 0, .slice none 0 0] → Cells h' p6 30 [.int .i64 n, rows] → In h0.blks.length No (nm h0) h' → ∀ (Aa Ab Ac Ad Af Ah Aj Ak Al An Ao Ap Aq Ar As Au Av Aw Ax Ay Bc Bd Be Bf Bg Bh Bi Bj Bk Bl Bm Bn Bo Bp Bq Br Bs Bt Bu Bv : Value), Q (k .normal ⟨#[Aa,Ab,Ac,Ad, .pointer (some ⟨q4, 0, none⟩),Af, .pointer (some ⟨p6, 0, none⟩),Ah, .pointer (some ⟨rp, 0, none⟩),Aj,Ak,Al,An,Ao,Ap,Aq,Ar,As,Au,Av,Aw,Ax,Ay, rows, .int .i64 ml, .int .i64 i,Bc,Bd,Be,Bf,Bg,Bh,Bi,Bj,Bk,Bl,Bm,Bn,Bo,Bp,Bq,Br,Bs,Bt,Bu,Bv], h'⟩)) →
    ∀ (Aa Ab Ac Ad Af Ah Aj Al An Ao Ap Aq Ar As Au Av Aw Ax Ay Bc Bd Be Bf Bi Bj Bk Bl Bm Bn Bo Bp Bq Br Bs Bt Bu Bv : Value), Q (loopK Try.prog (evC Try.prog) c126_3 ⟨#[Aa,Ab,Ac,Ad, .pointer (some ⟨q4, 0, none⟩),Af, .pointer (some ⟨p6, 0, none⟩),Ah, .pointer (some ⟨rp, 0, none⟩),Aj, x,Al,An,Ao,Ap,Aq,Ar,As,Au,Av,Aw,Ax,Ay, rows, .int .i64 ml, .int .i64 i,Bc,Bd,Be,Bf, .int .i64 n, .int .i64 j,Bi,Bj,Bk,Bl,Bm,Bn,Bo,Bp,Bq,Br,Bs,Bt,Bu,Bv], h⟩ (blockK 2 k)) := by
  intro mm
  induction mm with
  | zero =>
    intro j h pre r hj hpre A w hrp _ c4 c6 hin hk Aa Ab Ac Ad Af Ah Aj Al An Ao Ap Aq Ar As Au Av Aw Ax Ay Bc Bd Be Bf Bi Bj Bk Bl Bm Bn Bo Bp Bq Br Bs Bt Bu Bv
    rw [loopK_eq evC_m, c126_3_eq]
    have := hk h A w c4 c6 hin
    simp -implicitDefEqProofs (disch := omega) only [dcT, dcF, ↓cnd_true, ↓cnd_false, ↓Option.bind_some, ↓obH_some', bin_add, bin_sub, bin_mul, bin_lss, bin_leq, bin_gtr, bin_geq, bin_eql, bin_neq, un_not, un_neg, Option.bind_some, Option.bind_none, Option.map_some, cnd_true, cnd_false, pickV_true, pickV_false, gd_true, gd_false, gdV_true, gdV_false, gdH_true, gdH_false, gdS_true, gdS_false, wt_ff, wt_tt, wt_ft, wt_tf, wt_undef, obH_some', extractV_tuple, nilCheckV_ptr, againK_normal, againK_exit, againK_ret, blockK_normal, blockK_same, blockK_ret, seqK_normal, seqK_exit, seqK_ret, fin_done, if_true', if_false', Bool.not_true, Bool.not_false, idx0, idx1, idx2, idx3, idx4, chk_nil_l, chk_nil_r, done_nm]
    exact this _ _ _ _ _ _ _ _ _ _ _ _ _ _ _ _ _ _ _ _ _ _ _ _ _ _ _ _ _ _ _ _ _ _ _ _ _ _ _ _
  | succ mm ih =>
    intro j h pre r hj hpre A w hrp hlen c4 c6 hin hk Aa Ab Ac Ad Af Ah Aj Al An Ao Ap Aq Ar As Au Av Aw Ax Ay Bc Bd Be Bf Bi Bj Bk Bl Bm Bn Bo Bp Bq Br Bs Bt Bu Bv
    rw [loopK_eq evC_m, c126_3_eq]
    obtain ⟨h2, e2,Ac, w2⟩ := spec_RNum w MAX (by unfold MAX; omega) hlen
    rw [show ((MAX : Nat) : Int) = 18446744073709551615 from rfl] at e2
    have nl := numP_le r MAX
    have hrpne : ∀ {p : Nat} {cs : List Value}, Cells h p 30 cs → ¬ Just rp p := fun hc e => by
      have e : _ = rp := e
      obtain ⟨_, _, hr, _⟩ := w
      subst e
      unfold Cells at hc hr
      rw [hc] at hr
      simp only [Option.some.injEq, Blk.mk.injEq] at hr
      exact absurd hr.2.1 (by decide)
    have c42 := c4.mod Ac (hrpne c4)
    have c62 := c6.mod Ac (hrpne c6)
    have A2 := A.modp Ac fun b hb => by
      have hb : b = rp := hb
      subst hb
      obtain ⟨_, _, hr, _⟩ := w
      exact ⟨_, _, hr, by decide, by decide⟩
    have hin2 := hin.trans (Ac.inn hin.len fun b hb e => by have : b = rp := e; omega)
    have hrow : (m.set i (pre ++ List.replicate (mm + 1) 0)).getD i [] = pre ++ 0 :: List.replicate mm 0 := by rw [lset_getD hi]; rfl
    obtain ⟨b, o, h3, e3, l3, st3, A3, k3, hl3, o3, q3⟩ := A2.set1q (by decide) etV.under (i := i) (j := j) (by rw [List.length_set]; exact hi) (by rw [hrow]; simp; omega) hx (numP r MAX).1
    rw [hrow, List.set_set, ← hpre, set_mid] at A3
    rw [show pre ++ (numP r MAX).1 :: List.replicate mm 0 = (pre ++ [(numP r MAX).1]) ++ List.replicate mm 0 by simp] at A3
    have w3 := w2.keepB (fun T cs hc ht => o3 rp T cs hc ht) fun c hc => q3 c fun e => by have := hxL c e; omega
    have hw : IntKind.wrap .i64 ((j : Int) + 1) = ((j + 1 : Nat) : Int) := by rw [wrap_i64] <;> omega
    have ih' := ih (j + 1) h3 (pre ++ [(numP r MAX).1]) (numP r MAX).2 (by omega) (by simp; omega) A3 w3 hrp (by omega) (o3 _ _ _ c42 (by decide)) (o3 _ _ _ c62 (by decide)) (hin2.trans k3.inn)
      (fun h' a' b' c' d' i' => hk h' (by simpa [readRow] using a') (by simpa [readRow] using b') c' d' i')
    rw [← hpre] at e3
    simp -implicitDefEqProofs (disch := omega) only [dcT, dcF, e2, hpre ▸ e3, vst64, st3, hw, ↓cnd_true, ↓cnd_false, ↓Option.bind_some, ↓obH_some', bin_add, bin_sub, bin_mul, bin_lss, bin_leq, bin_gtr, bin_geq, bin_eql, bin_neq, un_not, un_neg, Option.bind_some, Option.bind_none, Option.map_some, cnd_true, cnd_false, pickV_true, pickV_false, gd_true, gd_false, gdV_true, gdV_false, gdH_true, gdH_false, gdS_true, gdS_false, wt_ff, wt_tt, wt_ft, wt_tf, wt_undef, obH_some', extractV_tuple, nilCheckV_ptr, againK_normal, againK_exit, againK_ret, blockK_normal, blockK_same, blockK_ret, seqK_normal, seqK_exit, seqK_ret, fin_done, if_true', if_false', Bool.not_true, Bool.not_false, idx0, idx1, idx2, idx3, idx4, chk_nil_l, chk_nil_r, done_nm]
    exact ih' _ _ _ _ _ _ _ _ _ _ _ _ _ _ _ _ _ _ _ _ _ _ _ _ _ _ _ _ _ _ _ _ _ _ _ _ _
def readV (n : Int) (o : Option (List (List Nat))) : Int := if o.isSome = true then n else 0
theorem read_loop {h0 : Heap} {L q4 p6 rp n : Nat} {rows : Value} {vs : List Value} (hn : n ≤ 16) (hvL : ∀ x ∈ vs,Lo x L) (hrp : h0.blks.length ≤ rp) (hq4 : h0.blks.length ≤ q4) :
    ∀ (mm i : Nat) (h : Heap) (dn : List (List Nat)) (r : Option (List UInt8)), n = i + mm → dn.length = i → (∀ x ∈ dn, x.length = n) → AMv 89 h0.blks.length h rows vs (dn ++ List.replicate mm (List.replicate n 0)) → RdrL L h rp r → (rbs r).length < 2 ^ 40 → Cells h q4 30 [.int .i64 0, .slice none 0 0] → Cells h p6 30 [.int .i64 n, rows] → In h0.blks.length No (nm h0) h →
    ∀ (Aa Ab Ac Ad Af Ah Aj Ak Al An Ao Ap Aq Ar As Au Av Aw Ax Ay Bc Bd Be Bf Bg Bh Bi Bj Bk Bl Bm Bn Bo Bp Bq Br Bs Bt Bu Bv : Value),
    ∃ v' h', loopK Try.prog (evC Try.prog) c126_1 ⟨#[Aa,Ab,Ac,Ad, .pointer (some ⟨q4, 0, none⟩),Af, .pointer (some ⟨p6, 0, none⟩),Ah, .pointer (some ⟨rp, 0, none⟩),Aj,Ak,Al,An,Ao,Ap,Aq,Ar,As,Au,Av,Aw,Ax,Ay, rows, .int .i64 n, .int .i64 i,Bc,Bd,Be,Bf,Bg,Bh,Bi,Bj,Bk,Bl,Bm,Bn,Bo,Bp,Bq,Br,Bs,Bt,Bu,Bv], h⟩ (blockK 0 (seqK Try.prog (evC Try.prog) c126_2 (retK Try.f126 Try.prog h0))) =
      some (.tuple #[matV (if endP (readRows n mm r).2 = true then n else 0) v', .bool (endP (readRows n mm r).2)], h') ∧ HExt h0 h' ∧ AM 89 h0.blks.length h' v' (if endP (readRows n mm r).2 = true then dn ++ (readRows n mm r).1 else []) := by
  intro mm
  induction mm with
  | zero =>
    intro i h dn r hi hd hdl A w hlen c4 c6 hin Aa Ab Ac Ad Af Ah Aj Ak Al An Ao Ap Aq Ar As Au Av Aw Ax Ay Bc Bd Be Bf Bg Bh Bi Bj Bk Bl Bm Bn Bo Bp Bq Br Bs Bt Bu Bv
    rw [loopK_eq evC_m, c126_1_eq]
    have e1 := spec_REnd w
    simp only [readRows]
    rw [List.append_nil]
    rw [show dn ++ List.replicate 0 (List.replicate n 0) = dn by simp] at A
    rcases Bool.eq_false_or_eq_true (endP r) with he | he
    · rw [he] at e1
      simp only [he, if_true]
      obtain ⟨ra, rc, rfl⟩ := A.out.shape
      have c42 := c4.put [.int .i64 n, .slice ra dn.length rc]
      simp -implicitDefEqProofs (disch := omega) only [dcT, dcF, ↓c126_2_eq, e1, ldM' c6, stM, storeN_blk c4 (o := 0) (vs := [.int .i64 n, .slice ra dn.length rc]) (by simp), w2_put, ↓ret126, ↓cnd_true, ↓cnd_false, ↓Option.bind_some, ↓obH_some', bin_add, bin_sub, bin_mul, bin_lss, bin_leq, bin_gtr, bin_geq, bin_eql, bin_neq, un_not, un_neg, Option.bind_some, Option.bind_none, Option.map_some, cnd_true, cnd_false, pickV_true, pickV_false, gd_true, gd_false, gdV_true, gdV_false, gdH_true, gdH_false, gdS_true, gdS_false, wt_ff, wt_tt, wt_ft, wt_tf, wt_undef, obH_some', extractV_tuple, nilCheckV_ptr, againK_normal, againK_exit, againK_ret, blockK_normal, blockK_same, blockK_ret, seqK_normal, seqK_exit, seqK_ret, fin_done, if_true', if_false', Bool.not_true, Bool.not_false, idx0, idx1, idx2, idx3, idx4, chk_nil_l, chk_nil_r, done_nm]
      simp -implicitDefEqProofs only [ldM' c42, Option.bind_some, rvals_two, fin_done, if_true]
      exact ⟨_, _, rfl, done_ext' (hin.trans (In.put hin.len (.inl hq4) _)), (AM.put ⟨vs, A⟩ c4 (by decide) (by decide) _).done⟩
    · rw [he] at e1
      simp only [he, Bool.false_eq_true, if_false]
      have c42 := c4.put [.int .i64 0, .slice none 0 0]
      simp -implicitDefEqProofs (disch := omega) only [dcT, dcF, ↓c126_2_eq, e1, bdM0, stM, storeN_blk c4 (o := 0) (vs := [.int .i64 0, .slice none 0 0]) (by simp), w2_put, ↓ret126, ↓cnd_true, ↓cnd_false, ↓Option.bind_some, ↓obH_some', bin_add, bin_sub, bin_mul, bin_lss, bin_leq, bin_gtr, bin_geq, bin_eql, bin_neq, un_not, un_neg, Option.bind_some, Option.bind_none, Option.map_some, cnd_true, cnd_false, pickV_true, pickV_false, gd_true, gd_false, gdV_true, gdV_false, gdH_true, gdH_false, gdS_true, gdS_false, wt_ff, wt_tt, wt_ft, wt_tf, wt_undef, obH_some', extractV_tuple, nilCheckV_ptr, againK_normal, againK_exit, againK_ret, blockK_normal, blockK_same, blockK_ret, seqK_normal, seqK_exit, seqK_ret, fin_done, if_true', if_false', Bool.not_true, Bool.not_false, idx0, idx1, idx2, idx3, idx4, chk_nil_l, chk_nil_r, done_nm]
      simp -implicitDefEqProofs only [ldM' c42, Option.bind_some, rvals_two, fin_done, Bool.false_eq_true, if_false]
      exact ⟨_, _, rfl, done_ext' (hin.trans (In.put hin.len (.inl hq4) _)), AM.nil _ _ _⟩
  | succ mm ih =>
    intro i h dn r hi hd hdl A w hlen c4 c6 hin Aa Ab Ac Ad Af Ah Aj Ak Al An Ao Ap Aq Ar As Au Av Aw Ax Ay Bc Bd Be Bf Bg Bh Bi Bj Bk Bl Bm Bn Bo Bp Bq Br Bs Bt Bu Bv
    rw [loopK_eq evC_m, c126_1_eq]
    have hml : (dn ++ List.replicate (mm + 1) (List.replicate n 0)).length = n := by simp; omega
    obtain ⟨ad, x, hx, ea, ex, sx⟩ := (A.smv etM.size).at etM.under etM.size (by kernel_rfl) (i := i) (by omega)
    have hgi : (dn ++ List.replicate (mm + 1) (List.replicate n 0)).getD i [] = List.replicate n 0 := by rw [← hd]; simp
    rw [hgi] at sx
    have hA0 : dn ++ List.replicate (mm + 1) (List.replicate n 0) = (dn ++ List.replicate (mm + 1) (List.replicate n 0)).set i ([] ++ List.replicate n 0) := by
      rw [List.nil_append, show List.replicate (mm + 1) (List.replicate n 0) = List.replicate n 0 :: List.replicate mm (List.replicate n 0) from rfl, ← hd, set_midM]
    rw [hA0] at A
    have hw : IntKind.wrap .i64 ((i : Int) + 1) = ((i + 1 : Nat) : Int) := by rw [wrap_i64] <;> omega
    have hlr : ((List.replicate n 0).length : Int) = n := by simp
    have lx := sx.row.len_eq etV.under
    rw [hlr] at lx
    have hle := readRow_le n r
    have inner := read_inner (Q := fun res => ∃ v' h', res = some (.tuple #[matV (if endP (readRows n (mm + 1) r).2 = true then n else 0) v', .bool (endP (readRows n (mm + 1) r).2)], h') ∧ HExt h0 h' ∧ AM 89 h0.blks.length h' v' (if endP (readRows n (mm + 1) r).2 = true then dn ++ (readRows n (mm + 1) r).1 else [])) (h0 := h0) (L := L) (q4 := q4) (p6 := p6) (rp := rp) (rows := rows) (vs := vs) (bv := .bool true) (ml := n) (i := i) (n := n) (m := dn ++ List.replicate (mm + 1) (List.replicate n 0)) (by omega) hx hn (hvL x (List.mem_of_getElem? hx))
      (blockK 1 (seqK Try.prog (evC Try.prog) c126_4 (againK Try.prog (evC Try.prog) c126_1 (blockK 0 (seqK Try.prog (evC Try.prog) c126_2 (retK Try.f126 Try.prog h0))))))
      n 0 h [] r (by omega) rfl A w hrp hlen c4 c6 hin (by
        intro h' A' w' c4' c6' hin' Aa Ab Ac Ad Af Ah Aj Ak Al An Ao Ap Aq Ar As Au Av Aw Ax Ay Bc Bd Be Bf Bg Bh Bi Bj Bk Bl Bm Bn Bo Bp Bq Br Bs Bt Bu Bv
        rw [List.nil_append, show List.replicate (mm + 1) (List.replicate n 0) = List.replicate n 0 :: List.replicate mm (List.replicate n 0) from rfl, ← hd, set_midM, show dn ++ (readRow n r).1 :: List.replicate mm (List.replicate n 0) = (dn ++ [(readRow n r).1]) ++ List.replicate mm (List.replicate n 0) by simp] at A'
        have ih' := ih (i + 1) h' (dn ++ [(readRow n r).1]) (readRow n r).2 (by omega) (by simp; omega) (fun y hy => by
          rcases List.mem_append.1 hy with hy | hy
          · exact hdl y hy
          · rw [List.mem_singleton] at hy; subst hy; exact readRow_len n r) A' w' (by omega) c4' c6' hin'
        simp only [List.append_assoc, List.singleton_append] at ih'
        simp -implicitDefEqProofs (disch := omega) only [↓c126_4_eq, hw, ↓cnd_true, ↓cnd_false, ↓Option.bind_some, ↓obH_some', bin_add, bin_sub, bin_mul, bin_lss, bin_leq, bin_gtr, bin_geq, bin_eql, bin_neq, un_not, un_neg, Option.bind_some, Option.bind_none, Option.map_some, cnd_true, cnd_false, pickV_true, pickV_false, gd_true, gd_false, gdV_true, gdV_false, gdH_true, gdH_false, gdS_true, gdS_false, wt_ff, wt_tt, wt_ft, wt_tf, wt_undef, obH_some', extractV_tuple, nilCheckV_ptr, againK_normal, againK_exit, againK_ret, blockK_normal, blockK_same, blockK_ret, seqK_normal, seqK_exit, seqK_ret, fin_done, if_true', if_false', Bool.not_true, Bool.not_false, idx0, idx1, idx2, idx3, idx4, chk_nil_l, chk_nil_r, done_nm]
        exact ih' _ _ _ _ _ _ _ _ _ _ _ _ _ _ _ _ _ _ _ _ _ _ _ _ _ _ _ _ _ _ _ _ _ _ _ _ _ _ _ _)
    rw [show ((0 : Nat) : Int) = 0 from rfl] at inner
    simp -implicitDefEqProofs (disch := omega) only [dcT, dcF, ea, ex, lx, ↓cnd_true, ↓cnd_false, ↓Option.bind_some, ↓obH_some', bin_add, bin_sub, bin_mul, bin_lss, bin_leq, bin_gtr, bin_geq, bin_eql, bin_neq, un_not, un_neg, Option.bind_some, Option.bind_none, Option.map_some, cnd_true, cnd_false, pickV_true, pickV_false, gd_true, gd_false, gdV_true, gdV_false, gdH_true, gdH_false, gdS_true, gdS_false, wt_ff, wt_tt, wt_ft, wt_tf, wt_undef, obH_some', extractV_tuple, nilCheckV_ptr, againK_normal, againK_exit, againK_ret, blockK_normal, blockK_same, blockK_ret, seqK_normal, seqK_exit, seqK_ret, fin_done, if_true', if_false', Bool.not_true, Bool.not_false, idx0, idx1, idx2, idx3, idx4, chk_nil_l, chk_nil_r, done_nm]
    exact inner _ _ _ _ _ _ _ _ _ _ _ _ _ _ _ _ _ _ _ _ _ _ _ _ _ _ _ _ _ _ _ _ _ _ _ _ _
theorem spec_Read {h : Heap} {n : Int} {b : Value} {bs : List UInt8} (sb : SB h b bs) (hl : bs.length < 2 ^ 38) :
    ∃ v' h', evC Try.prog 126 #[.int .i64 n, b] h = some (.tuple #[matV (readV n (readM n bs)) v', .bool (readM n bs).isSome], h') ∧ HExt h h' ∧ AM 89 h.blks.length h' v' ((readM n bs).getD []) := by
  rw [call126, c126_0_eq]
  have k1 := alM (nm h)
  have c1 := Cells.new (nm h) 30 [.int .i64 0, .slice none 0 0]
  have i1 : In h.blks.length No (nm h) _ := In.new (by simp) (.cells [.int .i64 0, .slice none 0 0]) 30
  have bl : (nm h).blks.length = h.blks.length := rfl
  rw [bl] at k1 c1
  generalize (nm h).new (.cells [.int .i64 0, .slice none 0 0]) 30 = g1 at *
  obtain ⟨vm, g2, e2,Ac, a2⟩ := spec_MNew n g1
  have i2 := i1.trans (Ac.inn i1.len)
  have c2 := c1.ext Ac
  by_cases hc : 1 ≤ n ∧ n ≤ 16
  · rw [if_pos hc, if_pos hc] at e2
    rw [if_pos hc] at a2
    obtain ⟨n, rfl⟩ : ∃ k : Nat, n = k := ⟨n.toNat, by omega⟩
    rw [Int.toNat_natCast] at a2
    obtain ⟨va, vc, rfl⟩ := a2.shape
    have k3 := alM g2
    have k3' := mvar (h := g2) n va (zerosM n).length vc
    have c3 := mvar_cells g2 [.int .i64 0, .slice none 0 0] [.int .i64 n, .slice va (zerosM n).length vc] 30
    have s3 := mvar_same g2 (.cells [.int .i64 0, .slice none 0 0]) (.cells [.int .i64 n, .slice va (zerosM n).length vc]) 30
    have i3 := i2.trans (mvar_in (h := g2) i2.len (.cells [.int .i64 0, .slice none 0 0]) (.cells [.int .i64 n, .slice va (zerosM n).length vc]) 30)
    generalize (g2.new (.cells [.int .i64 0, .slice none 0 0]) 30).put g2.blks.length (.cells [.int .i64 n, .slice va (zerosM n).length vc]) = g3 at *
    obtain ⟨g4, rp, e4,Ae, r4, lr⟩ := spec_NewReaderL (sb.same i3.same0) (by omega)
    have i4 := i3.trans (Ae.inn i3.len)
    have l3 := i3.len
    simp only [nm_blks] at l3
    have c24 := (c2.same s3).ext Ae
    have c34 := c3.ext Ae
    obtain ⟨vs, A⟩ := ((a2.up (n1 := h.blks.length) i1.len).same s3)
    have hvL : ∀ x ∈ vs,Lo x g3.blks.length := fun x hx => by
      obtain ⟨i, hi, rfl⟩ := List.getElem_of_mem hx
      obtain ⟨r', _, hr'⟩ := A.rows.get (i := i) (a := vs[i]) (List.getElem?_eq_getElem hi)
      exact hr'.su.lo
    have A4 := A.kp (h' := g4) fun b _ _ hb _ _ => Ae.old b (List.getElem?_eq_some_iff.1 hb).1
    have lv := (AM.smV ⟨vs, A4⟩).lenRV
    have hz : ((zerosM n).length : Int) = n := by simp [zerosM]
    rw [hz] at lv
    have main := read_loop (h0 := h) (L := g3.blks.length) (rows := .slice va (zerosM n).length vc) (by omega) hvL (by omega) (Nat.le_refl _) n 0 g4 [] (some bs) (by omega) rfl (by simp) (by rw [List.nil_append]; exact A4) r4 (by simp only [rbs, Option.getD_some]; omega) c24 c34 i4
    have em : readM n bs = if endP (readRows n n (some bs)).2 = true then some (readRows n n (some bs)).1 else none := by
      unfold readM; rw [if_pos hc, Int.toNat_natCast]
    have e1 : readV n (readM n bs) = if endP (readRows n n (some bs)).2 = true then (n : Int) else 0 := by rw [em]; unfold readV; split <;> simp
    have e2' : (readM n bs).isSome = endP (readRows n n (some bs)).2 := by rw [em]; split <;> simp_all
    have e3' : (readM n bs).getD [] = if endP (readRows n n (some bs)).2 = true then [] ++ (readRows n n (some bs)).1 else [] := by rw [em]; split <;> simp
    rw [e1, e2', e3']
    rw [show ((0 : Nat) : Int) = 0 from rfl] at main
    simp -implicitDefEqProofs (disch := omega) only [dcT, dcF, k1, e2, k3, k3', e4, faM1, ldRs, c34.load, two2, lv, ne_eq, eq_self, not_true_eq_false, decide_false, ↓cnd_true, ↓cnd_false, ↓Option.bind_some, ↓obH_some', bin_add, bin_sub, bin_mul, bin_lss, bin_leq, bin_gtr, bin_geq, bin_eql, bin_neq, un_not, un_neg, Option.bind_some, Option.bind_none, Option.map_some, cnd_true, cnd_false, pickV_true, pickV_false, gd_true, gd_false, gdV_true, gdV_false, gdH_true, gdH_false, gdS_true, gdS_false, wt_ff, wt_tt, wt_ft, wt_tf, wt_undef, obH_some', extractV_tuple, nilCheckV_ptr, againK_normal, againK_exit, againK_ret, blockK_normal, blockK_same, blockK_ret, seqK_normal, seqK_exit, seqK_ret, fin_done, if_true', if_false', Bool.not_true, Bool.not_false, idx0, idx1, idx2, idx3, idx4, chk_nil_l, chk_nil_r, done_nm]
    exact main _ _ _ _ _ _ _ _ _ _ _ _ _ _ _ _ _ _ _ _ _ _ _ _ _ _ _ _ _ _ _ _ _ _ _ _ _ _ _ _
  · rw [if_neg hc, if_neg hc] at e2
    rw [if_neg hc] at a2
    have em : readM n bs = none := by unfold readM; rw [if_neg hc]
    rw [em]
    obtain ⟨va, vc, rfl⟩ := a2.shape
    have k3 := alM g2
    have k3' := mvar (h := g2) 0 va ([] : List (List Nat)).length vc
    have s3 := mvar_same g2 (.cells [.int .i64 0, .slice none 0 0]) (.cells [.int .i64 0, .slice va ([] : List (List Nat)).length vc]) 30
    have i3 := i2.trans (mvar_in (h := g2) i2.len (.cells [.int .i64 0, .slice none 0 0]) (.cells [.int .i64 0, .slice va ([] : List (List Nat)).length vc]) 30)
    generalize (g2.new (.cells [.int .i64 0, .slice none 0 0]) 30).put g2.blks.length (.cells [.int .i64 0, .slice va ([] : List (List Nat)).length vc]) = g3 at *
    have c3 := c2.same s3
    have c4 := c3.put [.int .i64 0, .slice none 0 0]
    have st : storeV Try.prog 30 (.pointer (some ⟨h.blks.length, 0, none⟩)) (.agg #[.int .i64 0, .slice none 0 0]) g3 = some (g3.put h.blks.length (.cells [.int .i64 0, .slice none 0 0])) := by
      rw [stM, storeN_blk c3 (o := 0) (vs := [.int .i64 0, .slice none 0 0]) (by simp), w2_put]
    simp -implicitDefEqProofs (disch := omega) only [dcT, dcF, k1, e2, k3, k3', bdM0, st, ↓ret126, ↓cnd_true, ↓cnd_false, ↓Option.bind_some, ↓obH_some', bin_add, bin_sub, bin_mul, bin_lss, bin_leq, bin_gtr, bin_geq, bin_eql, bin_neq, un_not, un_neg, Option.bind_some, Option.bind_none, Option.map_some, cnd_true, cnd_false, pickV_true, pickV_false, gd_true, gd_false, gdV_true, gdV_false, gdH_true, gdH_false, gdS_true, gdS_false, wt_ff, wt_tt, wt_ft, wt_tf, wt_undef, obH_some', extractV_tuple, nilCheckV_ptr, againK_normal, againK_exit, againK_ret, blockK_normal, blockK_same, blockK_ret, seqK_normal, seqK_exit, seqK_ret, fin_done, if_true', if_false', Bool.not_true, Bool.not_false, idx0, idx1, idx2, idx3, idx4, chk_nil_l, chk_nil_r, done_nm]
    simp -implicitDefEqProofs only [ldM' c4, Option.bind_some, rvals_two, fin_done]
    exact ⟨_, _, rfl, done_ext' (i3.trans (In.put i3.len (.inl (Nat.le_refl _)) _)), AM.nil _ _ _⟩
end Go.Am
namespace Go.Am
open Go.Proofs
set_option maxRecDepth 100000
set_option linter.all false
attribute [local congr] obind_congr obH_congr cnd_congr chk_congr retK_congr codeK_congr
theorem AMv.app {t eo : TypeId} (et : ElemT Try.prog t eo 1 24 (.slice none 0 0)) (hne : eo ≠ 35) {n0 n1 : Nat} {h : Heap} (hn : n0 ≤ h.blks.length) (hn1 : n0 ≤ n1) {v : Value} {vs : List Value} {m : List (List Nat)} (A : AMv eo n0 h v vs m) (hvs : ∀ x ∈ vs,Lo x n1) {a : Option Addr} {c : Nat} {r : List Nat} (ax : AU n1 h (.slice a r.length c) r) (hl : m.length < 2 ^ 38) :
    ∃ a' c' h', appendV Try.prog t (some t) v (.slice (some ⟨h.blks.length, 0, none⟩) 1 1) (h.new (.cells [.slice a r.length c]) eo) = some (.slice a' (m ++ [r]).length c', h') ∧ AMv eo n0 h' (.slice a' (m ++ [r]).length c') (vs ++ [.slice a r.length c]) (m ++ [r]) ∧ Keeps n0 h h' ∧ (∀ p ty cs, Cells h p ty cs → ty ≠ eo → Cells h' p ty cs) := by
  have A2 := A.kp (h' := h.new (.cells [.slice a r.length c]) eo) fun b _ _ hb _ _ => Heap.new_old (List.getElem?_eq_some_iff.1 hb).1
  have ax2 : AU n1 (h.new (.cells [.slice a r.length c]) eo) (.slice a r.length c) r := ax.keep fun b hb _ => Heap.new_old hb
  have hrow : Row (h.new (.cells [.slice a r.length c]) eo) 1 (.slice (some ⟨h.blks.length, 0, none⟩) 1 1) 1 [.slice a r.length c] := .mk (loadN_blk (blk_new_self _ _ _) rfl)
  obtain ⟨v', h', e1, e2, e3, e4, e5⟩ := append_acc et (t1 := some t) (n0 := n0) (by simp [Heap.new]; omega) A2.out (newsV_row et.under hrow) (by simp) (by omega) (by omega) (by simp [Value.oneCell'])
  obtain ⟨a', c', rfl⟩ := e2.shape
  have el : m.length + 1 = (m ++ [r]).length := by simp
  rw [el] at e1 e2
  have kr : ∀ b, b < (h.new (.cells [.slice a r.length c]) eo).blks.length → blockOf v ≠ some b → h'.blks[b]? = (h.new (.cells [.slice a r.length c]) eo).blks[b]? := e4
  refine ⟨a', c', h', e1, ⟨e2, (A2.rows.mono fun x y s => ?_).append (.cons ?_ .nil), ?_⟩, (Keeps.new hn _ _).trans e3, fun p ty cs hp ht => ?_⟩
  · exact s.keep fun b hb hv => kr b hb fun e => (s.blk_ne A2.out (Ne.symm hne) hv) e
  · exact (ax2.keep fun b hb hv => kr b hb fun e => (ax2.blk_ne A2.out (Ne.symm hne) hv) e).up hn1
  · rw [List.pairwise_append]
    refine ⟨A.apart, List.pairwise_singleton _ _, fun x hx y hy b hb hb' => ?_⟩
    rw [List.mem_singleton] at hy
    subst hy
    have l1 := hvs x hx b hb
    have l2 := ax.ge hb'
    omega
  · have hp' : Cells (h.new (.cells [.slice a r.length c]) eo) p ty cs := hp.keepNew _ _
    refine (kr p hp'.lt fun e => ?_).trans hp'
    obtain ⟨all, x⟩ := A2.out.blk e
    unfold Cells at hp'
    rw [hp'] at x
    simp only [Option.some.injEq, Blk.mk.injEq] at x
    exact ht x.2.1
theorem RdrR.kpC {N : Nat} {h h' : Heap} {p : Nat} {r : Option (List UInt8)} (w : RdrR N h p r) (hc : ∀ cs, Cells h p 109 cs → Cells h' p 109 cs) (hk : ∀ b, b < N → h'.blks[b]? = h.blks[b]?) : RdrR N h' p r :=
  let ⟨a, c, x, y, z⟩ := w; ⟨a, c, hc _ x, y.keep fun b _ hb => hk b (z.1 b hb), z⟩
theorem RdrR.cl {N : Nat} {h : Heap} {p : Nat} {r : Option (List UInt8)} (w : RdrR N h p r) : ∃ cs, Cells h p 109 cs := let ⟨_, _, x, _⟩ := w; ⟨_, x⟩
theorem All2.monoM {α β : Type} {R S : α → β → Prop} {l : List α} {m : List β} (h : All2 R l m) : (∀ a b, a ∈ l → R a b → S a b) → All2 S l m := by
  induction h with
  | nil => exact fun _ => .nil
  | cons h1 _ ih => exact fun k => .cons (k _ _ (by simp) h1) (ih fun a b ha => k a b (by simp [ha]))
theorem AMv.kpV {eo : TypeId} {n0 n1 : Nat} {h h' : Heap} {v : Value} {vs : List Value} {m : List (List Nat)} (a : AMv eo n0 h v vs m) (hv : Lo v n1) (hvs : ∀ x ∈ vs,Lo x n1) (k : ∀ b, b < n1 → h'.blks[b]? = h.blks[b]?) : AMv eo n0 h' v vs m :=
  ⟨a.out.keep fun b _ hb => k b (hv b hb), a.rows.monoM fun x _ hx s => s.keep fun b _ hb => k b (hvs x hx b hb), a.apart⟩
theorem Keeps.dn {n0 n : Nat} {h h' : Heap} (k : Keeps n h h') (hn : n0 ≤ n) : Keeps n0 h h' := ⟨Nat.le_trans hn k.le, k.len, fun b hb => k.old b (by omega), fun m hm => (k.mods m hm).elim .inl fun x => .inr (by omega)⟩
end Go.Am
namespace Go.Am
open Go.Proofs
set_option maxRecDepth 100000
set_option linter.all false
attribute [local congr] obind_congr obH_congr cnd_congr chk_congr retK_congr codeK_congr
theorem addNu (t : TypeId) (xo yo : Operand) (a b : Nat) : binV Try.prog .add t xo yo (.int .u64 a) (.int .u64 b) = some (.int .u64 (((a + b) % 2 ^ 64 : Nat) : Int)) := by
  rw [bin_add, ← Int.natCast_add, wrap_u64_nat]
theorem andNu (t : TypeId) (xo yo : Operand) (a b : Nat) (ha : a < 2 ^ 64) (hb : b < 2 ^ 64) : binV Try.prog .and t xo yo (.int .u64 a) (.int .u64 b) = some (.int .u64 ((a &&& b : Nat) : Int)) := by
  rw [bin_and64 _ _ _ _ _ (by omega) (by omega) (by omega) (by omega), Int.toNat_natCast, Int.toNat_natCast]
theorem andNotN (t : TypeId) (xo yo : Operand) (a b : Nat) (ha : a < 2 ^ 64) (hb : b < 2 ^ 64) : binV Try.prog .andNot t xo yo (.int .u64 a) (.int .u64 b) = some (.int .u64 ((a &&& (2 ^ 64 - 1 - b) : Nat) : Int)) := by
  rw [bin_andNot64 _ _ _ _ _ (by omega) (by omega) (by omega) (by omega), Int.toNat_natCast, Int.toNat_natCast]
theorem shrU (t : TypeId) (xo yo : Operand) (s p : Nat) (hs : s < 2 ^ 64) (hp : p < 64) : binV Try.prog .shr t xo yo (.int .u64 s) (.int .u64 p) = some (.int .u64 ((s / 2 ^ p : Nat) : Int)) := shrN t xo yo .u64 s p hs hp
theorem andLtU {a b : Nat} (ha : a < 2 ^ 64) : a &&& b < 2 ^ 64 := Nat.lt_of_le_of_lt Nat.and_le_left ha
theorem divLtU {a b : Nat} (ha : a < 2 ^ 64) : a / b < 2 ^ 64 := Nat.lt_of_le_of_lt (Nat.div_le_self ..) ha
theorem modLtU (a : Nat) : a % 2 ^ 64 < 2 ^ 64 := Nat.mod_lt _ (by decide)
theorem andIu (t : TypeId) (xo yo : Operand) (a b : Nat) (z : Int) (hz : z = b) (ha : a < 2 ^ 64) (hb : b < 2 ^ 64) : binV Try.prog .and t xo yo (.int .u64 a) (.int .u64 z) = some (.int .u64 ((a &&& b : Nat) : Int)) := by subst hz; exact andNu t xo yo a b ha hb
theorem shrIu (t : TypeId) (xo yo : Operand) (s p : Nat) (z : Int) (hz : z = p) (hs : s < 2 ^ 64) (hp : p < 64) : binV Try.prog .shr t xo yo (.int .u64 s) (.int .u64 z) = some (.int .u64 ((s / 2 ^ p : Nat) : Int)) := by subst hz; exact shrU t xo yo s p hs hp
def allN (n : Nat) : Nat := 2 ^ n - 1
theorem spec_All (n : Nat) (hn : n < 64) (h : Heap) : evC Try.prog 56 #[.int .i64 n] h = some (.int .u64 (allN n : Nat), h) := by
  rw [call56, c56_0_eq]
  have hm : min (max (n : Int) 0) 64 = n := by omega
  have e1 := fun t xo yo => shl1 t xo yo n hn
  have e2 : ∀ t xo yo, binV Try.prog .sub t xo yo (.int .u64 ((2 ^ n : Nat) : Int)) (.int .u64 1) = some (.int .u64 (allN n : Nat)) := fun t xo yo => by
    have h2 : 2 ^ n < 2 ^ 64 := Nat.pow_lt_pow_right (by omega) hn
    have h1 : 1 ≤ 2 ^ n := Nat.one_le_two_pow
    rw [bin_sub, show ((2 ^ n : Nat) : Int) - 1 = (allN n : Nat) by unfold allN; omega, wrap_u64_nat, Nat.mod_eq_of_lt (by unfold allN; omega)]
  simp -implicitDefEqProofs only [vmaxI, vminI, hm, e1, e2, ↓ret56, ↓cnd_true, ↓cnd_false, ↓Option.bind_some, ↓obH_some', bin_add, bin_sub, bin_mul, bin_lss, bin_leq, bin_gtr, bin_geq, bin_eql, bin_neq, un_not, un_neg, Option.bind_some, Option.bind_none, Option.map_some, cnd_true, cnd_false, pickV_true, pickV_false, gd_true, gd_false, gdV_true, gdV_false, gdH_true, gdH_false, gdS_true, gdS_false, wt_ff, wt_tt, wt_ft, wt_tf, wt_undef, obH_some', extractV_tuple, nilCheckV_ptr, againK_normal, againK_exit, againK_ret, blockK_normal, blockK_same, blockK_ret, seqK_normal, seqK_exit, seqK_ret, fin_done, if_true', if_false', Bool.not_true, Bool.not_false, idx0, idx1, idx2, idx3, idx4, chk_nil_l, chk_nil_r, done_nm]
def pop1 (x : Nat) : Nat := ((x / 2 ^ 1 &&& 6148914691236517205) + (x &&& 6148914691236517205)) % 2 ^ 64
def pop2 (x : Nat) : Nat := ((x / 2 ^ 2 &&& 3689348814741910323) + (x &&& 3689348814741910323)) % 2 ^ 64
def pop3 (x : Nat) : Nat := ((x / 2 ^ 4 + x) % 2 ^ 64) &&& 1085102592571150095
def pop4 (x : Nat) : Nat := (x + x / 2 ^ 8) % 2 ^ 64
def pop5 (x : Nat) : Nat := (x + x / 2 ^ 16) % 2 ^ 64
def pop6 (x : Nat) : Nat := (x + x / 2 ^ 32) % 2 ^ 64
def pop (x : Nat) : Nat := pop6 (pop5 (pop4 (pop3 (pop2 (pop1 x))))) % 128
theorem pop_lt (x : Nat) : pop x < 128 := Nat.mod_lt _ (by decide)
theorem popAnd127 (t : TypeId) (xo yo : Operand) (f : Nat) (hf : f < 2 ^ 64) : binV Try.prog .and t xo yo (.int .i64 (IntKind.wrap .i64 f)) (.int .i64 127) = some (.int .i64 ((f % 128 : Nat) : Int)) := by
  rw [bin_andB]
  have e : (BitVec.ofInt IntKind.i64.bits (IntKind.wrap .i64 f) &&& BitVec.ofInt IntKind.i64.bits 127).toNat = f % 128 := by
    show (BitVec.ofInt 64 (IntKind.wrap .i64 (f : Int)) &&& BitVec.ofInt 64 127).toNat = f % 128
    rw [BitVec.toNat_and, show BitVec.ofInt 64 (IntKind.wrap .i64 (f : Int)) = BitVec.ofNat 64 f from ?_, BitVec.toNat_ofNat, Nat.mod_eq_of_lt hf, show (BitVec.ofInt 64 127).toNat = 2 ^ 7 - 1 from by decide, Nat.and_two_pow_sub_one_eq_mod]
    have e0 : ∀ z : Int, IntKind.wrap .i64 z = if decide (z % 2 ^ 64 ≥ 2 ^ 63) = true then z % 2 ^ 64 - 2 ^ 64 else z % 2 ^ 64 := fun z => rfl
    apply BitVec.eq_of_toNat_eq
    rw [BitVec.toNat_ofInt, BitVec.toNat_ofNat, e0]
    by_cases hc : (f : Int) % 2 ^ 64 ≥ 2 ^ 63
    · rw [if_pos (decide_eq_true hc)]; omega
    · rw [if_neg (by simpa using hc)]; omega
  rw [e, wrap_i64 (by omega) (by omega)]
end Go.Am
namespace Go.Am
open Go.Proofs
set_option maxRecDepth 100000
set_option linter.all false
attribute [local congr] obind_congr obH_congr cnd_congr chk_congr retK_congr codeK_congr
theorem bdE (n me k : Int) (a b : Option Addr) (l c l2 c2 : Nat) : buildV Try.prog 120 #[(0, .int .i64 n), (1, .int .i64 me), (2, .agg #[.int .i64 k, .slice a l c]), (3, .slice b l2 c2)] = some (.agg #[.int .i64 n, .int .i64 me, .int .i64 k, .slice a l c, .slice b l2 c2]) := by kernel_rfl
theorem bxFE (n me k : Int) (v w : Value) (h : Heap) : boxV Try.prog 120 (.agg #[.int .i64 n, .int .i64 me, .int .i64 k, v, w]) h = some (.pointer (some ⟨h.blks.length, 0, none⟩), h.new (.cells [.int .i64 n, .int .i64 me, .int .i64 k, v, w]) 120) := by kernel_rfl
theorem faFE0 (p : Nat) : fieldAddrV Try.prog 120 (.pointer (some ⟨p, 0, none⟩)) 0 = some (.pointer (some ⟨p, 0, none⟩)) := by kernel_rfl
theorem faFE1 (p : Nat) : fieldAddrV Try.prog 120 (.pointer (some ⟨p, 0, none⟩)) 1 = some (.pointer (some ⟨p, 1, none⟩)) := by kernel_rfl
theorem faFE2 (p : Nat) : fieldAddrV Try.prog 120 (.pointer (some ⟨p, 0, none⟩)) 2 = some (.pointer (some ⟨p, 2, none⟩)) := by kernel_rfl
theorem faFE3 (p : Nat) : fieldAddrV Try.prog 120 (.pointer (some ⟨p, 0, none⟩)) 3 = some (.pointer (some ⟨p, 4, none⟩)) := by kernel_rfl
theorem faM12 (p : Nat) : fieldAddrV Try.prog 30 (.pointer (some ⟨p, 2, none⟩)) 1 = some (.pointer (some ⟨p, 3, none⟩)) := by kernel_rfl
theorem ldVv (p o : Nat) (h : Heap) : loadV Try.prog 89 (.pointer (some ⟨p, o, none⟩)) h = h.load1 p o := by kernel_rfl
theorem eqE (xo yo : Operand) (p : Nat) : binV Try.prog .eql 82 xo yo (.pointer (some ⟨p, 0, none⟩)) (.pointer none) = some (.bool false) := by kernel_rfl
theorem eqE0 (xo yo : Operand) : binV Try.prog .eql 82 xo yo (.pointer none) (.pointer none) = some (.bool true) := by kernel_rfl
theorem ldMo (p o : Nat) (h : Heap) : loadV Try.prog 30 (.pointer (some ⟨p, o, none⟩)) h = (h.loadN p o 2).map fun vs => .agg vs.toArray := by kernel_rfl
theorem stMo (p o : Nat) (n : Int) (a : Option Addr) (l c : Nat) (h : Heap) : storeV Try.prog 30 (.pointer (some ⟨p, o, none⟩)) (.agg #[.int .i64 n, .slice a l c]) h = h.storeN p o [.int .i64 n, .slice a l c] := by kernel_rfl
theorem stVv (p o : Nat) (a : Option Addr) (n c : Nat) (h : Heap) : storeV Try.prog 89 (.pointer (some ⟨p, o, none⟩)) (.slice a n c) h = h.storeN p o [.slice a n c] := by kernel_rfl
structure EnC (L : Nat) (h : Heap) (p : Nat) (n me : Int) (rv gv : Value) (m : List (List Nat)) (g : List Nat) : Prop where
  c : Cells h p 120 [.int .i64 n, .int .i64 me, .int .i64 n, rv, gv]
  am : AM 89 L h rv m
  au : AU L h gv g
def En (L : Nat) (h : Heap) (p : Nat) (n me : Int) (m : List (List Nat)) (g : List Nat) : Prop := ∃ rv gv, EnC L h p n me rv gv m g
variable {L : Nat} {h h' : Heap} {p : Nat} {n me : Int} {rv gv : Value} {m : List (List Nat)} {g : List Nat}
theorem EnC.kp (E : EnC L h p n me rv gv m g) (k : ∀ b all ty, h.blks[b]? = some ⟨.cells all, ty, true⟩ → ty = 120 ∧ b = p ∨ ty = 89 ∨ ty = 35 → h'.blks[b]? = h.blks[b]?) : EnC L h' p n me rv gv m g :=
  ⟨(k _ _ _ E.c (.inl ⟨rfl, rfl⟩)).trans E.c, E.am.kp fun b all ty hb ht _ => k b all ty hb (.inr ht), E.au.keep fun b _ hv => by obtain ⟨all, h1⟩ := E.au.blk hv; exact k b all _ h1 (.inr (.inr rfl))⟩
theorem EnC.same (E : EnC L h p n me rv gv m g) (s : Same h h') : EnC L h' p n me rv gv m g := E.kp fun b _ _ hb _ => s.2 b (List.getElem?_eq_some_iff.1 hb).1
theorem EnC.ext (E : EnC L h p n me rv gv m g) (e : HExt h h') : EnC L h' p n me rv gv m g := E.same e.same
theorem EnC.kpT (E : EnC L h p n me rv gv m g) {T : TypeId} (h1 : 120 ≠ T) (h2 : 89 ≠ T) (h3 : 35 ≠ T) (k : ∀ q ty cs, Cells h q ty cs → ty ≠ T → Cells h' q ty cs) : EnC L h' p n me rv gv m g :=
  E.kp fun b all ty hb ht => (k b ty all hb (by rcases ht with ⟨rfl, _⟩ | rfl | rfl <;> assumption)).trans hb.symm
theorem En.same (E : En L h p n me m g) (s : Same h h') : En L h' p n me m g := let ⟨_, _, x⟩ := E; ⟨_, _, x.same s⟩
theorem En.ext (E : En L h p n me m g) (s : HExt h h') : En L h' p n me m g := E.same s.same
theorem En.nm (E : En L h p n me m g) : En L (Am.nm h) p n me m g := E.same ⟨Nat.le_refl _, fun _ _ => rfl⟩
theorem En.done {h0 : Heap} (E : En L h p n me m g) : En L (Am.done h0 h) p n me m g := E.same ⟨Nat.le_refl _, fun _ _ => rfl⟩
theorem En.mod {S : Nat → Prop} (E : En L h p n me m g) (e : HMod S h h') (hp : ¬ S p) (k : ∀ b, S b → ∃ T cs, Cells h b T cs ∧ T ≠ 89 ∧ T ≠ 35) : En L h' p n me m g :=
  let ⟨rv, gv, x⟩ := E
  ⟨rv, gv, x.kp fun b all ty hb ht => e.old b (List.getElem?_eq_some_iff.1 hb).1 fun hs => by
    rcases ht with ⟨_, rfl⟩ | ht
    · exact hp hs
    · obtain ⟨T, cs, hc, h1, h2⟩ := k b hs
      unfold Cells at hc
      rw [hc] at hb
      simp only [Option.some.injEq, Blk.mk.injEq] at hb
      rcases ht with ht | ht
      · exact h1 (hb.2.1.trans ht)
      · exact h2 (hb.2.1.trans ht)⟩
theorem EnC.lt (E : EnC L h p n me rv gv m g) : p < h.blks.length := E.c.lt
theorem EnC.ldn (E : EnC L h p n me rv gv m g) (x : TypeId) : h.load1 p 0 = some (.int .i64 n) := by rw [E.c.load]; rfl
theorem EnC.l0 (E : EnC L h p n me rv gv m g) : h.load1 p 0 = some (.int .i64 n) := by rw [E.c.load]; rfl
theorem EnC.l1 (E : EnC L h p n me rv gv m g) : h.load1 p 1 = some (.int .i64 me) := by rw [E.c.load]; rfl
theorem EnC.l3 (E : EnC L h p n me rv gv m g) : h.load1 p 3 = some rv := by rw [E.c.load]; rfl
theorem EnC.l4 (E : EnC L h p n me rv gv m g) : h.load1 p 4 = some gv := by rw [E.c.load]; rfl
theorem EnC.ldm (E : EnC L h p n me rv gv m g) : loadV Try.prog 30 (.pointer (some ⟨p, 2, none⟩)) h = some (matV n rv) := by
  rw [ldMo]
  have : h.loadN p 2 2 = some [.int .i64 n, rv] := by
    have c := E.c
    unfold Cells at c
    simp [Heap.loadN, Heap.cells?, c]
  rw [this]; rfl
structure EnOk (n me : Int) (m : List (List Nat)) (g : List Nat) : Prop where
  gd : goodM n m = true
  me0 : 0 ≤ me
  men : me < n
  gl : (g.length : Int) = n
  m64 : ∀ r ∈ m, ∀ y ∈ r, y < 2 ^ 64
  g64 : ∀ y ∈ g, y < 2 ^ 64
theorem spec_ENew (n me : Int) (h : Heap) : (∃ (q : Nat) (h' : Heap), evC Try.prog 40 #[.int .i64 n, .int .i64 me] h = some (.tuple #[if 1 ≤ n ∧ n ≤ 16 ∧ 0 ≤ me ∧ me < n then .pointer (some ⟨q, 0, none⟩) else .pointer none, .int .i64 (if 1 ≤ n ∧ n ≤ 16 ∧ 0 ≤ me ∧ me < n then 0 else 1)], h') ∧ HExt h h' ∧
    (1 ≤ n ∧ n ≤ 16 ∧ 0 ≤ me ∧ me < n → h.blks.length ≤ q ∧ En h.blks.length h' q n me (zerosM n.toNat) (List.replicate n.toNat 0))) := by
  rw [call40, c40_0_eq]
  obtain ⟨v, g1, e1,Ab, a1⟩ := spec_MNew n (nm h)
  have i1 : In h.blks.length No (nm h) g1 := Ab.inn (Nat.le_refl _)
  by_cases hn : 1 ≤ n ∧ n ≤ 16
  · rw [if_pos hn, if_pos hn] at e1
    rw [if_pos hn] at a1
    obtain ⟨va, vc, rfl⟩ := a1.shape
    have k2 := alM g1
    have k2' := mvar (h := g1) n va (zerosM n.toNat).length vc
    have c2 := mvar_cells g1 [.int .i64 0, .slice none 0 0] [.int .i64 n, .slice va (zerosM n.toNat).length vc] 30
    have s2 := mvar_same g1 (.cells [.int .i64 0, .slice none 0 0]) (.cells [.int .i64 n, .slice va (zerosM n.toNat).length vc]) 30
    have i2 := i1.trans (mvar_in (h := g1) i1.len (.cells [.int .i64 0, .slice none 0 0]) (.cells [.int .i64 n, .slice va (zerosM n.toNat).length vc]) 30)
    have l2 := i2.len
    generalize (g1.new (.cells [.int .i64 0, .slice none 0 0]) 30).put g1.blks.length (.cells [.int .i64 n, .slice va (zerosM n.toNat).length vc]) = g2 at *
    by_cases h0 : 0 ≤ me
    · by_cases h1 : me < n
      · simp only [if_pos (show 1 ≤ n ∧ n ≤ 16 ∧ 0 ≤ me ∧ me < n from ⟨hn.1, hn.2, h0, h1⟩)]
        obtain ⟨ua, uc, g3, e3,Ad, a3⟩ := spec_New n (nm g2)
        obtain ⟨Ad', m3⟩ := Ad.amx
        have hz : List.replicate (min (max n 0) 64).toNat 0 = List.replicate n.toNat 0 := by congr 1; omega
        rw [hz] at e3 a3
        have c5 := Cells.new (am g3 g2) 120 [.int .i64 n, .int .i64 me, .int .i64 n, .slice va (zerosM n.toNat).length vc, .slice ua (List.replicate n.toNat 0).length uc]
        have i5 := (i2.trans (Ad'.inn i2.len)).trans (In.new (i2.trans (Ad'.inn i2.len)).len (.cells [.int .i64 n, .int .i64 me, .int .i64 n, .slice va (zerosM n.toNat).length vc, .slice ua (List.replicate n.toNat 0).length uc]) 120)
        have am5 := ((a1.same s2).same Ad'.same).same (Same.new (am g3 g2) (.cells [.int .i64 n, .int .i64 me, .int .i64 n, .slice va (zerosM n.toNat).length vc, .slice ua (List.replicate n.toNat 0).length uc]) 120)
        have a3' : AU h.blks.length (am g3 g2) (.slice ua (List.replicate n.toNat 0).length uc) (List.replicate n.toNat 0) := (a3.keep (h' := am g3 g2) fun _ _ _ => rfl).up l2
        have au5 := a3'.same (Same.new (am g3 g2) (.cells [.int .i64 n, .int .i64 me, .int .i64 n, .slice va (zerosM n.toNat).length vc, .slice ua (List.replicate n.toNat 0).length uc]) 120)
        have l3 := Ad'.len
        have hl : ((am g3 g2).new (.cells [.int .i64 n, .int .i64 me, .int .i64 n, .slice va (zerosM n.toNat).length vc, .slice ua (List.replicate n.toNat 0).length uc]) 120).blks.length = (am g3 g2).blks.length + 1 := by simp [Heap.new]
        have hq : ¬ me ≥ n := by omega
        simp -implicitDefEqProofs (disch := omega) only [dcT, dcF, e1, k2, k2', ldM' c2, e3, bdE, bxFE, m3, List.append_nil, ↓ret40, ↓cnd_true, ↓cnd_false, ↓Option.bind_some, ↓obH_some', bin_add, bin_sub, bin_mul, bin_lss, bin_leq, bin_gtr, bin_geq, bin_eql, bin_neq, un_not, un_neg, Option.bind_some, Option.bind_none, Option.map_some, cnd_true, cnd_false, pickV_true, pickV_false, gd_true, gd_false, gdV_true, gdV_false, gdH_true, gdH_false, gdS_true, gdS_false, wt_ff, wt_tt, wt_ft, wt_tf, wt_undef, obH_some', extractV_tuple, nilCheckV_ptr, againK_normal, againK_exit, againK_ret, blockK_normal, blockK_same, blockK_ret, seqK_normal, seqK_exit, seqK_ret, fin_done, if_true', if_false', Bool.not_true, Bool.not_false, idx0, idx1, idx2, idx3, idx4, chk_nil_l, chk_nil_r, done_nm]
        exact ⟨_, _, rfl, done_ext' i5, fun _ => ⟨by have := l3; have : h.blks.length ≤ g2.blks.length := l2; omega,En.done ⟨_, _, ⟨c5, am5.up (Nat.le_refl _), au5⟩⟩⟩⟩
      · simp only [if_neg (show ¬ (1 ≤ n ∧ n ≤ 16 ∧ 0 ≤ me ∧ me < n) from fun x => h1 x.2.2.2)]
        simp -implicitDefEqProofs (disch := omega) only [dcT, dcF, e1, k2, k2', ↓ret40, ↓cnd_true, ↓cnd_false, ↓Option.bind_some, ↓obH_some', bin_add, bin_sub, bin_mul, bin_lss, bin_leq, bin_gtr, bin_geq, bin_eql, bin_neq, un_not, un_neg, Option.bind_some, Option.bind_none, Option.map_some, cnd_true, cnd_false, pickV_true, pickV_false, gd_true, gd_false, gdV_true, gdV_false, gdH_true, gdH_false, gdS_true, gdS_false, wt_ff, wt_tt, wt_ft, wt_tf, wt_undef, obH_some', extractV_tuple, nilCheckV_ptr, againK_normal, againK_exit, againK_ret, blockK_normal, blockK_same, blockK_ret, seqK_normal, seqK_exit, seqK_ret, fin_done, if_true', if_false', Bool.not_true, Bool.not_false, idx0, idx1, idx2, idx3, idx4, chk_nil_l, chk_nil_r, done_nm]
        exact ⟨0, _, rfl, done_ext' i2, fun x => absurd x.2.2.2 h1⟩
    · simp only [if_neg (show ¬ (1 ≤ n ∧ n ≤ 16 ∧ 0 ≤ me ∧ me < n) from fun x => h0 x.2.2.1)]
      simp -implicitDefEqProofs (disch := omega) only [dcT, dcF, e1, k2, k2', ↓ret40, ↓cnd_true, ↓cnd_false, ↓Option.bind_some, ↓obH_some', bin_add, bin_sub, bin_mul, bin_lss, bin_leq, bin_gtr, bin_geq, bin_eql, bin_neq, un_not, un_neg, Option.bind_some, Option.bind_none, Option.map_some, cnd_true, cnd_false, pickV_true, pickV_false, gd_true, gd_false, gdV_true, gdV_false, gdH_true, gdH_false, gdS_true, gdS_false, wt_ff, wt_tt, wt_ft, wt_tf, wt_undef, obH_some', extractV_tuple, nilCheckV_ptr, againK_normal, againK_exit, againK_ret, blockK_normal, blockK_same, blockK_ret, seqK_normal, seqK_exit, seqK_ret, fin_done, if_true', if_false', Bool.not_true, Bool.not_false, idx0, idx1, idx2, idx3, idx4, chk_nil_l, chk_nil_r, done_nm]
      exact ⟨0, _, rfl, done_ext' i2, fun x => absurd x.2.2.1 h0⟩
  · rw [if_neg hn, if_neg hn] at e1
    rw [if_neg hn] at a1
    obtain ⟨va, vc, rfl⟩ := a1.shape
    have k2 := alM g1
    have k2' := mvar (h := g1) 0 va ([] : List (List Nat)).length vc
    have i2 := i1.trans (mvar_in (h := g1) i1.len (.cells [.int .i64 0, .slice none 0 0]) (.cells [.int .i64 0, .slice va ([] : List (List Nat)).length vc]) 30)
    simp only [if_neg (show ¬ (1 ≤ n ∧ n ≤ 16 ∧ 0 ≤ me ∧ me < n) from fun x => hn ⟨x.1, x.2.1⟩)]
    simp -implicitDefEqProofs (disch := omega) only [dcT, dcF, e1, k2, k2', ↓ret40, ↓cnd_true, ↓cnd_false, ↓Option.bind_some, ↓obH_some', bin_add, bin_sub, bin_mul, bin_lss, bin_leq, bin_gtr, bin_geq, bin_eql, bin_neq, un_not, un_neg, Option.bind_some, Option.bind_none, Option.map_some, cnd_true, cnd_false, pickV_true, pickV_false, gd_true, gd_false, gdV_true, gdV_false, gdH_true, gdH_false, gdS_true, gdS_false, wt_ff, wt_tt, wt_ft, wt_tf, wt_undef, obH_some', extractV_tuple, nilCheckV_ptr, againK_normal, againK_exit, againK_ret, blockK_normal, blockK_same, blockK_ret, seqK_normal, seqK_exit, seqK_ret, fin_done, if_true', if_false', Bool.not_true, Bool.not_false, idx0, idx1, idx2, idx3, idx4, chk_nil_l, chk_nil_r, done_nm]
    exact ⟨0, _, rfl, done_ext' i2, fun x => absurd ⟨x.1, x.2.1⟩ hn⟩
end Go.Am
namespace Go.Am
open Go.Proofs
set_option maxRecDepth 100000
set_option linter.all false
attribute [local congr] obind_congr obH_congr cnd_congr chk_congr retK_congr codeK_congr
variable {L : Nat} {h h' : Heap} {p : Nat} {n me : Int} {rv gv : Value} {m : List (List Nat)} {g : List Nat}
theorem etBs : ElemT Try.prog 193 33 1 24 (.slice none 0 0) := ⟨by kernel_rfl, by kernel_rfl, by kernel_rfl, by kernel_rfl, by omega, rfl, rfl⟩
theorem mkBs1 (a : Option Addr) (n c : Nat) (h : Heap) : buildSliceV Try.prog 193 1 #[(0, .slice a n c)] h = some (.slice (some ⟨h.blks.length, 0, none⟩) 1 1, h.new (.cells [.slice a n c]) 33) := by kernel_rfl
structure ABv (n0 : Nat) (h : Heap) (v : Value) (vs : List Value) (l : List (List UInt8)) : Prop where
  out : Acc n0 h 33 1 v l.length vs
  rows : All2 (AB n0 h) vs l
def ABs (n0 : Nat) (h : Heap) (v : Value) (l : List (List UInt8)) : Prop := ∃ vs, ABv n0 h v vs l
theorem ABv.kp {n0 : Nat} {v : Value} {vs : List Value} {l : List (List UInt8)} (a : ABv n0 h v vs l) (k : ∀ b all ty, h.blks[b]? = some ⟨.cells all, ty, true⟩ → ty = 33 ∨ ty = 5 → n0 ≤ b → h'.blks[b]? = h.blks[b]?) : ABv n0 h' v vs l :=
  ⟨a.out.keep fun b _ hv => by obtain ⟨all, h1⟩ := a.out.blk hv; exact k b all _ h1 (.inl rfl) (a.out.ge hv), a.rows.mono fun _ _ x => x.keep fun b _ hv => by obtain ⟨all, h1⟩ := x.blk hv; exact k b all _ h1 (.inr rfl) (x.ge hv)⟩
theorem ABv.same {n0 : Nat} {v : Value} {vs : List Value} {l : List (List UInt8)} (a : ABv n0 h v vs l) (s : Same h h') : ABv n0 h' v vs l := a.kp fun b _ _ hb _ _ => s.2 b (List.getElem?_eq_some_iff.1 hb).1
theorem ABs.same {n0 : Nat} {v : Value} {l : List (List UInt8)} (a : ABs n0 h v l) (s : Same h h') : ABs n0 h' v l := let ⟨_, x⟩ := a; ⟨_, x.same s⟩
theorem ABs.up {n0 n1 : Nat} {v : Value} {l : List (List UInt8)} (a : ABs n0 h v l) (hn : n1 ≤ n0) : ABs n1 h v l := let ⟨_, x⟩ := a; ⟨_, x.out.up hn, x.rows.mono fun _ _ y => y.up hn⟩
theorem ABs.put {n0 : Nat} {v : Value} {l : List (List UInt8)} (a : ABs n0 h v l) {p : Nat} {ty : TypeId} {cs : List Value} (c : Cells h p ty cs) (h1 : ty ≠ 33) (h2 : ty ≠ 5) (body : Body) : ABs n0 (h.put p body) v l :=
  let ⟨vs, x⟩ := a
  ⟨vs, x.kp fun b all t hb ht _ => Heap.put_other (fun e => by
    subst e
    unfold Cells at c
    rw [hb] at c
    simp only [Option.some.injEq, Blk.mk.injEq] at c
    rcases ht with ht | ht
    · exact h1 (c.2.1.symm.trans ht)
    · exact h2 (c.2.1.symm.trans ht)) _⟩
theorem ABs.at {n0 : Nat} {v : Value} {l : List (List UInt8)} (a : ABs n0 h v l) {i : Nat} (hi : i < l.length) :
    ∃ ad x, indexAddrV Try.prog 193 v (.int .i64 i) = some (.pointer (some ad)) ∧ loadV Try.prog 33 (.pointer (some ad)) h = some x ∧ SB h x (l.getD i []) := by
  obtain ⟨vs, x⟩ := a
  obtain ⟨ad, e1, e2, _⟩ := (x.out.sl etBs.size).row.at1 etBs.under etBs.size (by kernel_rfl) hi .i64
  obtain ⟨y, hy, ay⟩ := x.rows.get' (i := i) (b := l[i]) (List.getElem?_eq_getElem hi)
  rw [hy] at e2
  refine ⟨ad, y, e1, e2, ?_⟩
  rw [List.getD_eq_getElem?_getD, List.getElem?_eq_getElem hi]
  exact ay.sl etB.size
theorem ABs.len {n0 : Nat} {v : Value} {l : List (List UInt8)} (a : ABs n0 h v l) : lenV Try.prog 193 v h = some (.int .i64 l.length) := let ⟨_, x⟩ := a; (x.out.sl etBs.size).row.len_eq etBs.under
theorem ABv.app {n0 : Nat} (hn : n0 ≤ h.blks.length) {v : Value} {vs : List Value} {l : List (List UInt8)} (A : ABv n0 h v vs l) {a : Option Addr} {c : Nat} {r : List UInt8} (ax : AB n0 h (.slice a r.length c) r) (hl : l.length < 2 ^ 38) :
    ∃ a' c' h', appendV Try.prog 193 (some 193) v (.slice (some ⟨h.blks.length, 0, none⟩) 1 1) (h.new (.cells [.slice a r.length c]) 33) = some (.slice a' (l ++ [r]).length c', h') ∧ ABs n0 h' (.slice a' (l ++ [r]).length c') (l ++ [r]) ∧ Keeps n0 h h' ∧ (∀ p ty cs, Cells h p ty cs → ty ≠ 33 → Cells h' p ty cs) := by
  have hlen : vs.length = l.length := A.rows.length_eq
  have ac := A.out
  rw [← hlen] at ac
  obtain ⟨a', c', h', e1, a1, k1, o1⟩ := app_out etBs hn ac a r.length c (by omega)
  have el : (vs ++ [Value.slice a r.length c]).length = (l ++ [r]).length := by simp [hlen]
  rw [el] at e1 a1
  have kk : ∀ b, n0 ≤ b → ∀ all, h.blks[b]? = some ⟨.cells all, 5, true⟩ → h'.blks[b]? = h.blks[b]? := fun b _ all hb => (o1 b _ all hb (by decide)).trans hb.symm
  refine ⟨a', c', h', e1, ⟨_, a1, (A.rows.mono fun x y s => ?_).append (.cons ?_ .nil)⟩, k1, o1⟩
  · exact s.keep fun b _ hv => by obtain ⟨all, h1⟩ := s.blk hv; exact kk b (s.ge hv) all h1
  · exact ax.keep fun b _ hv => by obtain ⟨all, h1⟩ := ax.blk hv; exact kk b (ax.ge hv) all h1
def toE (n me : Int) (to : Nat) : Nat := to &&& (allN n.toNat &&& (2 ^ 64 - 1 - 2 ^ me.toNat))
theorem toE_lt (n me : Int) (to : Nat) (h : to < 2 ^ 64) : toE n me to < 2 ^ 64 := andLtU h
theorem goodM_small {n : Int} {m : List (List Nat)} (g : goodM n m = true) : Small m := Small.good g
end Go.Am
namespace Go.Am
open Go.Proofs
set_option maxRecDepth 100000
attribute [local congr] obind_congr obH_congr cnd_congr chk_congr retK_congr codeK_congr
end Go.Am
namespace Go.Am
open Go.Proofs
set_option maxRecDepth 100000
set_option linter.all false
attribute [local congr] obind_congr obH_congr cnd_congr chk_congr retK_congr codeK_congr
def heavyB (m : List (List Nat)) : Bool := decide (20 < m.length) || m.any fun r => decide (20 < r.length)
theorem heavy_small {m : List (List Nat)} (h : heavyB m = false) : m.length ≤ 20 ∧ ∀ i, (m.getD i []).length ≤ 20 := by
  unfold heavyB at h
  simp only [Bool.or_eq_false_iff, decide_eq_false_iff_not, List.any_eq_false, decide_eq_true_eq] at h
  refine ⟨by omega, fun i => ?_⟩
  rw [List.getD_eq_getElem?_getD]
  rcases Nat.lt_or_ge i m.length with hi | hi
  · rw [List.getElem?_eq_getElem hi]; have := h.2 _ (List.getElem_mem hi); simp only [Option.getD_some]; omega
  · rw [List.getElem?_eq_none hi]; simp
theorem heavy_Small {m : List (List Nat)} (h : heavyB m = false) : Small m := ⟨by have := (heavy_small h).1; omega, fun i => by have := (heavy_small h).2 i; omega⟩
end Go.Am
namespace Go.Am
open Go.Proofs
set_option maxRecDepth 100000
set_option linter.all false
attribute [local congr] obind_congr obH_congr cnd_congr chk_congr retK_congr codeK_congr
theorem ok2 : EnOk 2 0 [[0, 0], [0, 0]] [0, 0] := ⟨by decide, by decide, by decide, by decide, by decide, by decide⟩
theorem ok2' : EnOk 2 0 [[0, 1], [0, 0]] [0, 0] := ⟨by decide, by decide, by decide, by decide, by decide, by decide⟩
theorem stampM_len {n : Int} {m : List (List Nat)} (h : ∀ r ∈ m, ∀ y ∈ r, y < 2 ^ 64) : (stampM n m).length ≤ 2560 := by
  unfold stampM
  split
  · rename_i g
    have := good_total g h m.length
    rwa [List.take_length] at this
  · simp
end Go.Am
namespace Go.Am
open Go.Proofs
set_option maxRecDepth 100000
set_option linter.all false
attribute [local congr] obind_congr obH_congr cnd_congr chk_congr retK_congr codeK_congr
variable {L : Nat} {h h' : Heap} {p : Nat} {n me : Int} {rv gv : Value} {m : List (List Nat)} {g : List Nat}
def canCol (g col : List Nat) : Bool := (List.range col.length).all fun k => decide (col.getD k 0 ≤ g.getD k 0)
def canColF (g col : List Nat) (i : Nat) : Bool := (List.range' i (col.length - i)).all fun k => decide (col.getD k 0 ≤ g.getD k 0)
def canFE (n me : Int) (g : List Nat) (from' : Int) (bs : List UInt8) : Bool := match readM n bs with
  | none => false
  | some r => decide (0 ≤ from' ∧ from' < n ∧ from' ≠ me) && canCol g (columnM n r me)
theorem canColF_zero (g col : List Nat) : canColF g col 0 = canCol g col := by unfold canColF canCol; rw [Nat.sub_zero, List.range_eq_range']
theorem canColF_end (g col : List Nat) : canColF g col col.length = true := by unfold canColF; rw [Nat.sub_self]; rfl
theorem canColF_step (g col : List Nat) {i : Nat} (hi : i < col.length) : canColF g col i = (decide (col.getD i 0 ≤ g.getD i 0) && canColF g col (i + 1)) := by
  unfold canColF
  rw [show col.length - i = (col.length - (i + 1)) + 1 by omega, List.range'_succ]; rfl
theorem can_loop {h0 h : Heap} {p : Nat} {cv : Value} {col : List Nat} (E : EnC L h p n me rv gv m g) (sc : SU h cv col) (hc : col.length ≤ g.length) (hl : g.length ≤ 16) : ∀ (mm i : Nat), col.length = i + mm → ∀ (Ab Ac Ad Ae Af Ag Ah Ai Aj Ak Al An Ao Ap Aq Ar As Au Av Aw Ax Ay Az Ba Bb Bc Bd Be Bf Bg Bh Bi Bj Bk Bl Bm Bn Bo Bp Bq Br Bs Bt Bu Bv Bw Bx By Cc Cd Ce Cf Cg Ch Ci Cj Ck Cl Cm Cn Co Cp : Value),
    loopK Try.prog (evC Try.prog) c122_1 ⟨#[.pointer (some ⟨p, 0, none⟩),Ab,Ac,Ad,Ae,Af,Ag,Ah,Ai,Aj,Ak,Al,An,Ao,Ap,Aq,Ar,As,Au,Av,Aw,Ax,Ay,Az,Ba,Bb,Bc,Bd,Be,Bf,Bg,Bh,Bi,Bj,Bk,Bl,Bm,Bn,Bo,Bp,Bq,Br,Bs,Bt,Bu,Bv,Bw,Bx,By, cv, .int .i64 col.length, .int .i64 i,Cc,Cd,Ce,Cf,Cg,Ch,Ci,Cj,Ck,Cl,Cm,Cn,Co,Cp], h⟩ (blockK 0 (seqK Try.prog (evC Try.prog) c122_2 (retK Try.f122 Try.prog h0))) =
      some (.bool (canColF g col i), done h0 h) := by
  intro mm
  induction mm with
  | zero =>
    intro i hi Ab Ac Ad Ae Af Ag Ah Ai Aj Ak Al An Ao Ap Aq Ar As Au Av Aw Ax Ay Az Ba Bb Bc Bd Be Bf Bg Bh Bi Bj Bk Bl Bm Bn Bo Bp Bq Br Bs Bt Bu Bv Bw Bx By Cc Cd Ce Cf Cg Ch Ci Cj Ck Cl Cm Cn Co Cp
    rw [loopK_eq evC_m, c122_1_eq]
    rw [show i = col.length by omega, canColF_end]
    simp -implicitDefEqProofs (disch := omega) only [dcT, dcF, ↓c122_2_eq, ↓ret122, ↓cnd_true, ↓cnd_false, ↓Option.bind_some, ↓obH_some', bin_add, bin_sub, bin_mul, bin_lss, bin_leq, bin_gtr, bin_geq, bin_eql, bin_neq, un_not, un_neg, Option.bind_some, Option.bind_none, Option.map_some, cnd_true, cnd_false, pickV_true, pickV_false, gd_true, gd_false, gdV_true, gdV_false, gdH_true, gdH_false, gdS_true, gdS_false, wt_ff, wt_tt, wt_ft, wt_tf, wt_undef, obH_some', extractV_tuple, nilCheckV_ptr, againK_normal, againK_exit, againK_ret, blockK_normal, blockK_same, blockK_ret, seqK_normal, seqK_exit, seqK_ret, fin_done, if_true', if_false', Bool.not_true, Bool.not_false, idx0, idx1, idx2, idx3, idx4, chk_nil_l, chk_nil_r, done_nm]
  | succ mm ih =>
    intro i hi Ab Ac Ad Ae Af Ag Ah Ai Aj Ak Al An Ao Ap Aq Ar As Au Av Aw Ax Ay Az Ba Bb Bc Bd Be Bf Bg Bh Bi Bj Bk Bl Bm Bn Bo Bp Bq Br Bs Bt Bu Bv Bw Bx By Cc Cd Ce Cf Cg Ch Ci Cj Ck Cl Cm Cn Co Cp
    rw [loopK_eq evC_m, c122_1_eq]
    obtain ⟨a1, e1, e2⟩ := su_at sc etV.under (i := i) (by omega)
    obtain ⟨a3, e3, e4⟩ := su_at E.au.su etV.under (i := i) (by omega)
    have hw : IntKind.wrap .i64 ((i : Int) + 1) = ((i + 1 : Nat) : Int) := by rw [wrap_i64] <;> omega
    rw [canColF_step g col (by omega)]
    by_cases hlt : g.getD i 0 < col.getD i 0
    · rw [decide_eq_false (by omega), Bool.false_and]
      simp -implicitDefEqProofs (disch := omega) only [dcT, dcF, e1, e2, faFE3, ldVv, E.l4, e3, e4, ↓ret122, ↓cnd_true, ↓cnd_false, ↓Option.bind_some, ↓obH_some', bin_add, bin_sub, bin_mul, bin_lss, bin_leq, bin_gtr, bin_geq, bin_eql, bin_neq, un_not, un_neg, Option.bind_some, Option.bind_none, Option.map_some, cnd_true, cnd_false, pickV_true, pickV_false, gd_true, gd_false, gdV_true, gdV_false, gdH_true, gdH_false, gdS_true, gdS_false, wt_ff, wt_tt, wt_ft, wt_tf, wt_undef, obH_some', extractV_tuple, nilCheckV_ptr, againK_normal, againK_exit, againK_ret, blockK_normal, blockK_same, blockK_ret, seqK_normal, seqK_exit, seqK_ret, fin_done, if_true', if_false', Bool.not_true, Bool.not_false, idx0, idx1, idx2, idx3, idx4, chk_nil_l, chk_nil_r, done_nm]
    · rw [decide_eq_true (show col.getD i 0 ≤ g.getD i 0 by omega), Bool.true_and]
      simp -implicitDefEqProofs (disch := omega) only [dcT, dcF, e1, e2, faFE3, ldVv, E.l4, e3, e4, hw, ↓cnd_true, ↓cnd_false, ↓Option.bind_some, ↓obH_some', bin_add, bin_sub, bin_mul, bin_lss, bin_leq, bin_gtr, bin_geq, bin_eql, bin_neq, un_not, un_neg, Option.bind_some, Option.bind_none, Option.map_some, cnd_true, cnd_false, pickV_true, pickV_false, gd_true, gd_false, gdV_true, gdV_false, gdH_true, gdH_false, gdS_true, gdS_false, wt_ff, wt_tt, wt_ft, wt_tf, wt_undef, obH_some', extractV_tuple, nilCheckV_ptr, againK_normal, againK_exit, againK_ret, blockK_normal, blockK_same, blockK_ret, seqK_normal, seqK_exit, seqK_ret, fin_done, if_true', if_false', Bool.not_true, Bool.not_false, idx0, idx1, idx2, idx3, idx4, chk_nil_l, chk_nil_r, done_nm]
      exact ih (i + 1) (by omega) _ _ _ _ _ _ _ _ _ _ _ _ _ _ _ _ _ _ _ _ _ _ _ _ _ _ _ _ _ _ _ _ _ _ _ _ _ _ _ _ _ _ _ _ _ _ _ _ _ _ _ _ _ _ _ _ _ _ _ _ _ _
theorem columnM_len {n me : Int} {r : List (List Nat)} (gd : goodM n r = true) : (columnM n r me).length ≤ r.length := by
  unfold columnM
  split
  · simp [colM]
  · simp
theorem spec_ECan (E : En L h p n me m g) (ok : EnOk n me m g) (from' : Int) (num : Nat) {b : Value} {bs : List UInt8} (sb : SB h b bs) (hb : bs.length < 2 ^ 38) :
    ∃ h', evC Try.prog 122 #[.pointer (some ⟨p, 0, none⟩), .int .i64 from', .int .u64 num, b] h = some (.bool (canFE n me g from' bs), h') ∧ HExt h h' := by
  rw [call122, c122_0_eq]
  obtain ⟨rv, gv, E⟩ := E
  have E0 := E.same (h' := nm h) ⟨Nat.le_refl _, fun _ _ => rfl⟩
  obtain ⟨wv, h2, e2,Ac, a2⟩ := spec_Read (n := n) (b := b) (bs := bs) sb.nm hb
  have i2 : In h.blks.length No (nm h) h2 := Ac.inn (Nat.le_refl _)
  obtain ⟨wa, wc, rfl⟩ := a2.shape
  have k3 := alM h2
  have k3' := mvar (h := h2) (readV n (readM n bs)) wa ((readM n bs).getD []).length wc
  have c3 := mvar_cells h2 [.int .i64 0, .slice none 0 0] [.int .i64 (readV n (readM n bs)), .slice wa ((readM n bs).getD []).length wc] 30
  have s3 := mvar_same h2 (.cells [.int .i64 0, .slice none 0 0]) (.cells [.int .i64 (readV n (readM n bs)), .slice wa ((readM n bs).getD []).length wc]) 30
  have i3 := i2.trans (mvar_in (h := h2) i2.len (.cells [.int .i64 0, .slice none 0 0]) (.cells [.int .i64 (readV n (readM n bs)), .slice wa ((readM n bs).getD []).length wc]) 30)
  generalize (h2.new (.cells [.int .i64 0, .slice none 0 0]) 30).put h2.blks.length (.cells [.int .i64 (readV n (readM n bs)), .slice wa ((readM n bs).getD []).length wc]) = h3 at *
  have E3 := E.same i3.same0
  have m3 := a2.smV.same s3
  cases hr : readM n bs with
  | none =>
    rw [hr] at e2
    rw [hr] at k3'
    rw [show (none : Option (List (List Nat))).isSome = false from rfl] at e2
    have ec : canFE n me g from' bs = false := by unfold canFE; rw [hr]
    rw [ec]
    simp -implicitDefEqProofs (disch := omega) only [dcT, dcF, faFE0, mldInt, E0.l0, e2, k3, k3', ↓ret122, ↓cnd_true, ↓cnd_false, ↓Option.bind_some, ↓obH_some', bin_add, bin_sub, bin_mul, bin_lss, bin_leq, bin_gtr, bin_geq, bin_eql, bin_neq, un_not, un_neg, Option.bind_some, Option.bind_none, Option.map_some, cnd_true, cnd_false, pickV_true, pickV_false, gd_true, gd_false, gdV_true, gdV_false, gdH_true, gdH_false, gdS_true, gdS_false, wt_ff, wt_tt, wt_ft, wt_tf, wt_undef, obH_some', extractV_tuple, nilCheckV_ptr, againK_normal, againK_exit, againK_ret, blockK_normal, blockK_same, blockK_ret, seqK_normal, seqK_exit, seqK_ret, fin_done, if_true', if_false', Bool.not_true, Bool.not_false, idx0, idx1, idx2, idx3, idx4, chk_nil_l, chk_nil_r, done_nm]
    exact ⟨_, rfl, done_ext' i3⟩
  | some r =>
    have hg := readM_good hr
    rw [hr] at e2 k3' m3 c3
    rw [show (some r : Option (List (List Nat))).isSome = true from rfl, show readV n (some r) = n from rfl] at e2
    rw [show readV n (some r) = n from rfl] at k3' c3
    rw [show (some r).getD [] = r from rfl] at e2 k3' m3 c3
    have ec : canFE n me g from' bs = (decide (0 ≤ from' ∧ from' < n ∧ from' ≠ me) && canCol g (columnM n r me)) := by unfold canFE; rw [hr]
    rw [ec]
    by_cases h1 : 0 ≤ from'
    · by_cases h2 : from' < n
      · by_cases h3' : from' = me
        · rw [decide_eq_false (fun x => x.2.2 h3'), Bool.false_and]
          simp -implicitDefEqProofs (disch := omega) only [dcT, dcF, faFE0, faFE1, mldInt, E0.l0, e2, k3, k3', E3.l0, E3.l1, ↓ret122, ↓cnd_true, ↓cnd_false, ↓Option.bind_some, ↓obH_some', bin_add, bin_sub, bin_mul, bin_lss, bin_leq, bin_gtr, bin_geq, bin_eql, bin_neq, un_not, un_neg, Option.bind_some, Option.bind_none, Option.map_some, cnd_true, cnd_false, pickV_true, pickV_false, gd_true, gd_false, gdV_true, gdV_false, gdH_true, gdH_false, gdS_true, gdS_false, wt_ff, wt_tt, wt_ft, wt_tf, wt_undef, obH_some', extractV_tuple, nilCheckV_ptr, againK_normal, againK_exit, againK_ret, blockK_normal, blockK_same, blockK_ret, seqK_normal, seqK_exit, seqK_ret, fin_done, if_true', if_false', Bool.not_true, Bool.not_false, idx0, idx1, idx2, idx3, idx4, chk_nil_l, chk_nil_r, done_nm]
          exact ⟨_, rfl, done_ext' i3⟩
        · rw [decide_eq_true (show 0 ≤ from' ∧ from' < n ∧ from' ≠ me from ⟨h1, h2, h3'⟩), Bool.true_and]
          have hgi := (goodM_iff n r).1 hg.1
          obtain ⟨ca, cc, h5, e5,Af, a5⟩ := spec_Column (n := n) m3 (by have := hgi.1; omega) me
          have hlc := columnM_len (me := me) hg.1
          have := can_loop (h0 := h) (E3.ext Af) a5.su (by have := ok.gl; omega) (by have := ok.gl; omega) (columnM n r me).length 0 (by omega)
          rw [canColF_zero, show ((0 : Nat) : Int) = 0 from rfl] at this
          have ln := a5.su.row.len_eq etV.under
          simp -implicitDefEqProofs (disch := omega) only [dcT, dcF, faFE0, faFE1, mldInt, E0.l0, e2, k3, k3', E3.l0, E3.l1, ldM' c3, e5, ln, ↓cnd_true, ↓cnd_false, ↓Option.bind_some, ↓obH_some', bin_add, bin_sub, bin_mul, bin_lss, bin_leq, bin_gtr, bin_geq, bin_eql, bin_neq, un_not, un_neg, Option.bind_some, Option.bind_none, Option.map_some, cnd_true, cnd_false, pickV_true, pickV_false, gd_true, gd_false, gdV_true, gdV_false, gdH_true, gdH_false, gdS_true, gdS_false, wt_ff, wt_tt, wt_ft, wt_tf, wt_undef, obH_some', extractV_tuple, nilCheckV_ptr, againK_normal, againK_exit, againK_ret, blockK_normal, blockK_same, blockK_ret, seqK_normal, seqK_exit, seqK_ret, fin_done, if_true', if_false', Bool.not_true, Bool.not_false, idx0, idx1, idx2, idx3, idx4, chk_nil_l, chk_nil_r, done_nm]
          exact ⟨_, this _ _ _ _ _ _ _ _ _ _ _ _ _ _ _ _ _ _ _ _ _ _ _ _ _ _ _ _ _ _ _ _ _ _ _ _ _ _ _ _ _ _ _ _ _ _ _ _ _ _ _ _ _ _ _ _ _ _ _ _ _ _, done_ext' (i3.trans (Af.inn i3.len))⟩
      · rw [decide_eq_false (fun x => h2 x.2.1), Bool.false_and]
        simp -implicitDefEqProofs (disch := omega) only [dcT, dcF, faFE0, faFE1, mldInt, E0.l0, e2, k3, k3', E3.l0, E3.l1, ↓ret122, ↓cnd_true, ↓cnd_false, ↓Option.bind_some, ↓obH_some', bin_add, bin_sub, bin_mul, bin_lss, bin_leq, bin_gtr, bin_geq, bin_eql, bin_neq, un_not, un_neg, Option.bind_some, Option.bind_none, Option.map_some, cnd_true, cnd_false, pickV_true, pickV_false, gd_true, gd_false, gdV_true, gdV_false, gdH_true, gdH_false, gdS_true, gdS_false, wt_ff, wt_tt, wt_ft, wt_tf, wt_undef, obH_some', extractV_tuple, nilCheckV_ptr, againK_normal, againK_exit, againK_ret, blockK_normal, blockK_same, blockK_ret, seqK_normal, seqK_exit, seqK_ret, fin_done, if_true', if_false', Bool.not_true, Bool.not_false, idx0, idx1, idx2, idx3, idx4, chk_nil_l, chk_nil_r, done_nm]
        exact ⟨_, rfl, done_ext' i3⟩
    · rw [decide_eq_false (fun x => h1 x.1), Bool.false_and]
      simp -implicitDefEqProofs (disch := omega) only [dcT, dcF, faFE0, faFE1, mldInt, E0.l0, e2, k3, k3', E3.l0, E3.l1, ↓ret122, ↓cnd_true, ↓cnd_false, ↓Option.bind_some, ↓obH_some', bin_add, bin_sub, bin_mul, bin_lss, bin_leq, bin_gtr, bin_geq, bin_eql, bin_neq, un_not, un_neg, Option.bind_some, Option.bind_none, Option.map_some, cnd_true, cnd_false, pickV_true, pickV_false, gd_true, gd_false, gdV_true, gdV_false, gdH_true, gdH_false, gdS_true, gdS_false, wt_ff, wt_tt, wt_ft, wt_tf, wt_undef, obH_some', extractV_tuple, nilCheckV_ptr, againK_normal, againK_exit, againK_ret, blockK_normal, blockK_same, blockK_ret, seqK_normal, seqK_exit, seqK_ret, fin_done, if_true', if_false', Bool.not_true, Bool.not_false, idx0, idx1, idx2, idx3, idx4, chk_nil_l, chk_nil_r, done_nm]
      exact ⟨_, rfl, done_ext' i3⟩
theorem goodM_up {n : Int} {m : List (List Nat)} (gd : goodM n m = true) (i : Int) (to : Nat) : goodM n (upM n m i to) = true := by
  unfold upM
  split
  · rename_i hc
    have hg := (goodM_iff n m).1 gd
    refine (goodM_iff n _).2 ⟨⟨hg.1.1, hg.1.2.1, by rw [List.length_set]; exact hg.1.2.2⟩, fun r hr => ?_⟩
    rcases List.mem_or_eq_of_mem_set hr with h | rfl
    · exact hg.2 r h
    · rw [up1_len]; exact goodM_rows gd (by omega)
  · exact gd
def takeG (n me : Int) (g : List Nat) (from' : Int) (bs : List UInt8) : List Nat := if canFE n me g from' bs = true then (upV g from').1 else g
def takeM (n me : Int) (m : List (List Nat)) (g : List Nat) (from' : Int) (to : Nat) (bs : List UInt8) : List (List Nat) := if canFE n me g from' bs = true then joinM m (upM n ((readM n bs).getD []) from' to) else m
end Go.Am
namespace Go.Am
open Go.Proofs
set_option maxRecDepth 100000
set_option linter.all false
theorem bdLx (n me : Int) (a : Option Addr) (m c : Nat) : buildV Try.prog 122 #[(0, .int .i64 n), (1, .int .i64 me), (4, .slice a m c)] = some (.agg #[.int .i64 n, .int .i64 me, .slice none 0 0, .int .u64 0, .slice a m c]) := by kernel_rfl
theorem bxLx (a b c d e : Value) (h : Heap) : boxV Try.prog 122 (.agg #[a, b, c, d, e]) h = some (.pointer (some ⟨h.blks.length, 0, none⟩), h.new (.cells [a, b, c, d, e]) 122) := by kernel_rfl
theorem spec_leanNewX (n me : Int) (h1 : 1 ≤ n) (h2 : n ≤ 16) (h3 : 0 ≤ me) (h4 : me < n) (h : Heap) : ∃ q h', evC Try.prog 41 #[.int .i64 n, .int .i64 me] h = some (.tuple #[.pointer (some ⟨q, 0, none⟩), .int .i64 0], h') ∧ HExt h h' := by
  rw [call41]
  obtain ⟨a, c, g, e1,Ab, a1⟩ := spec_New n (nm h)
  have i1 : In h.blks.length No (nm h) g := Ab.inn (Nat.le_refl _)
  generalize (List.replicate (min (max n 0) 64).toNat 0).length = m at *
  have i2 := i1.trans (In.new (Nat.le_trans i1.le i1.len) (.cells [.int .i64 n, .int .i64 me, .slice none 0 0, .int .u64 0, .slice a m c]) 122)
  refine ⟨g.blks.length, _, ?_, done_ext' i2⟩
  simp -implicitDefEqProofs (disch := omega) only [↓c41_0_eq, dcT, dcF, e1, bdLx, bxLx, ↓ret41, ↓cnd_true, ↓cnd_false, ↓Option.bind_some, ↓obH_some', bin_add, bin_sub, bin_mul, bin_lss, bin_leq, bin_gtr, bin_geq, bin_eql, bin_neq, un_not, un_neg, Option.bind_some, Option.bind_none, Option.map_some, cnd_true, cnd_false, pickV_true, pickV_false, gd_true, gd_false, gdV_true, gdV_false, gdH_true, gdH_false, gdS_true, gdS_false, wt_ff, wt_tt, wt_ft, wt_tf, wt_undef, obH_some', extractV_tuple, nilCheckV_ptr, againK_normal, againK_exit, againK_ret, blockK_normal, blockK_same, blockK_ret, seqK_normal, seqK_exit, seqK_ret, fin_done, if_true', if_false', Bool.not_true, Bool.not_false, idx0, idx1, idx2, idx3, idx4, chk_nil_l, chk_nil_r, done_nm, up_cons, up_nil, cond_true, cond_false, Nat.reduceBEq]
end Go.Am
namespace Go.Am
open Go.Proofs
set_option maxRecDepth 100000
set_option linter.all false
theorem mkIF (v : Value) : makeInterfaceV Try.prog 82 v = some (.iface 82 v) := by kernel_rfl
theorem mkIL (v : Value) : makeInterfaceV Try.prog 85 v = some (.iface 85 v) := by kernel_rfl
theorem invF (v a b c : Value) (h : Heap) : invokeV Try.prog (evC Try.prog) (.iface 82 v) "Can" #[a, b, c] h = evC Try.prog 122 #[v, a, b, c] h := by kernel_rfl
theorem spec_ONewF (n me : Int) (hok : 1 ≤ n ∧ n ≤ 16 ∧ 0 ≤ me ∧ me < n) (h : Heap) : ∃ q h', evC Try.prog 11 #[.int .i64 1, .int .i64 n, .int .i64 me] h = some (.tuple #[.iface 82 (.pointer (some ⟨q, 0, none⟩)), .int .i64 0], h') ∧ HExt h h' ∧
    En h.blks.length h' q n me (zerosM n.toNat) (List.replicate n.toNat 0) := by
  rw [call11]
  obtain ⟨q, g, e1,Ab, r1⟩ := spec_ENew n me (nm h)
  simp only [if_pos hok] at e1
  obtain ⟨_, E⟩ := r1 hok
  refine ⟨q, done h g, ?_, done_ext' (Ab.inn (Nat.le_refl _)),En.done E⟩
  simp -implicitDefEqProofs (disch := omega) only [↓c11_0_eq, dcT, dcF, decide_true, decide_false, eq_self, Int.reduceEq, e1, mkIF, ↓ret11, ↓cnd_true, ↓cnd_false, ↓Option.bind_some, ↓obH_some', bin_add, bin_sub, bin_mul, bin_lss, bin_leq, bin_gtr, bin_geq, bin_eql, bin_neq, un_not, un_neg, Option.bind_some, Option.bind_none, Option.map_some, cnd_true, cnd_false, pickV_true, pickV_false, gd_true, gd_false, gdV_true, gdV_false, gdH_true, gdH_false, gdS_true, gdS_false, wt_ff, wt_tt, wt_ft, wt_tf, wt_undef, obH_some', extractV_tuple, nilCheckV_ptr, againK_normal, againK_exit, againK_ret, blockK_normal, blockK_same, blockK_ret, seqK_normal, seqK_exit, seqK_ret, fin_done, if_true', if_false', Bool.not_true, Bool.not_false, idx0, idx1, idx2, idx3, idx4, chk_nil_l, chk_nil_r, done_nm, up_cons, up_nil, cond_true, cond_false, Nat.reduceBEq]
theorem spec_ONewF0 (n me : Int) (hok : ¬ (1 ≤ n ∧ n ≤ 16 ∧ 0 ≤ me ∧ me < n)) (h : Heap) : ∃ h', evC Try.prog 11 #[.int .i64 1, .int .i64 n, .int .i64 me] h = some (.tuple #[.nilIface, .int .i64 1], h') ∧ HExt h h' := by
  rw [call11]
  obtain ⟨q, g, e1,Ab, _⟩ := spec_ENew n me (nm h)
  simp only [if_neg hok] at e1
  refine ⟨done h g, ?_, done_ext' (Ab.inn (Nat.le_refl _))⟩
  simp -implicitDefEqProofs (disch := omega) only [↓c11_0_eq, dcT, dcF, decide_true, decide_false, eq_self, Int.reduceEq, e1, ↓ret11, ↓cnd_true, ↓cnd_false, ↓Option.bind_some, ↓obH_some', bin_add, bin_sub, bin_mul, bin_lss, bin_leq, bin_gtr, bin_geq, bin_eql, bin_neq, un_not, un_neg, Option.bind_some, Option.bind_none, Option.map_some, cnd_true, cnd_false, pickV_true, pickV_false, gd_true, gd_false, gdV_true, gdV_false, gdH_true, gdH_false, gdS_true, gdS_false, wt_ff, wt_tt, wt_ft, wt_tf, wt_undef, obH_some', extractV_tuple, nilCheckV_ptr, againK_normal, againK_exit, againK_ret, blockK_normal, blockK_same, blockK_ret, seqK_normal, seqK_exit, seqK_ret, fin_done, if_true', if_false', Bool.not_true, Bool.not_false, idx0, idx1, idx2, idx3, idx4, chk_nil_l, chk_nil_r, done_nm, up_cons, up_nil, cond_true, cond_false, Nat.reduceBEq]
theorem spec_ONewX (k n me : Int) (h1 : k ≠ 1) (h2 : k ≠ 2) (h : Heap) : evC Try.prog 11 #[.int .i64 k, .int .i64 n, .int .i64 me] h = some (.tuple #[.nilIface, .int .i64 1], h) := by
  rw [call11]
  simp -implicitDefEqProofs (disch := omega) only [↓c11_0_eq, dcT, dcF, decide_true, decide_false, eq_self, Int.reduceEq, ↓ret11, ↓cnd_true, ↓cnd_false, ↓Option.bind_some, ↓obH_some', bin_add, bin_sub, bin_mul, bin_lss, bin_leq, bin_gtr, bin_geq, bin_eql, bin_neq, un_not, un_neg, Option.bind_some, Option.bind_none, Option.map_some, cnd_true, cnd_false, pickV_true, pickV_false, gd_true, gd_false, gdV_true, gdV_false, gdH_true, gdH_false, gdS_true, gdS_false, wt_ff, wt_tt, wt_ft, wt_tf, wt_undef, obH_some', extractV_tuple, nilCheckV_ptr, againK_normal, againK_exit, againK_ret, blockK_normal, blockK_same, blockK_ret, seqK_normal, seqK_exit, seqK_ret, fin_done, if_true', if_false', Bool.not_true, Bool.not_false, idx0, idx1, idx2, idx3, idx4, chk_nil_l, chk_nil_r, done_nm, up_cons, up_nil, cond_true, cond_false, Nat.reduceBEq]
theorem spec_ONewL' (n me : Int) (hok : 1 ≤ n ∧ n ≤ 16 ∧ 0 ≤ me ∧ me < n) (h : Heap) : ∃ q h', evC Try.prog 11 #[.int .i64 2, .int .i64 n, .int .i64 me] h = some (.tuple #[.iface 85 (.pointer (some ⟨q, 0, none⟩)), .int .i64 0], h') ∧ HExt h h' := by
  rw [call11]
  obtain ⟨q, g, e1,Ab⟩ := spec_leanNewX n me hok.1 hok.2.1 hok.2.2.1 hok.2.2.2 (nm h)
  refine ⟨q, done h g, ?_, done_ext' (Ab.inn (Nat.le_refl _))⟩
  simp -implicitDefEqProofs (disch := omega) only [↓c11_0_eq, dcT, dcF, decide_true, decide_false, eq_self, Int.reduceEq, e1, mkIL, ↓ret11, ↓cnd_true, ↓cnd_false, ↓Option.bind_some, ↓obH_some', bin_add, bin_sub, bin_mul, bin_lss, bin_leq, bin_gtr, bin_geq, bin_eql, bin_neq, un_not, un_neg, Option.bind_some, Option.bind_none, Option.map_some, cnd_true, cnd_false, pickV_true, pickV_false, gd_true, gd_false, gdV_true, gdV_false, gdH_true, gdH_false, gdS_true, gdS_false, wt_ff, wt_tt, wt_ft, wt_tf, wt_undef, obH_some', extractV_tuple, nilCheckV_ptr, againK_normal, againK_exit, againK_ret, blockK_normal, blockK_same, blockK_ret, seqK_normal, seqK_exit, seqK_ret, fin_done, if_true', if_false', Bool.not_true, Bool.not_false, idx0, idx1, idx2, idx3, idx4, chk_nil_l, chk_nil_r, done_nm, up_cons, up_nil, cond_true, cond_false, Nat.reduceBEq]
theorem spec_awake20 (h : Heap) : ∃ h', evC Try.prog 10 #[] h = some (.bool true, h') ∧ HExt h h' := by
  rw [show evC Try.prog 10 #[] h = _ from call10 h]
  obtain ⟨q, g, e1,Ab⟩ := spec_ONewL' 2 0 (by decide) (nm h)
  have e2 := spec_KindL (.pointer (some ⟨q, 0, none⟩)) g
  refine ⟨done h g, ?_, done_ext' (Ab.inn (Nat.le_refl _))⟩
  simp -implicitDefEqProofs (disch := omega) only [↓c10_0_eq, dcT, dcF, decide_true, decide_false, eq_self, e1, nilN, e2, ↓ret10, ↓cnd_true, ↓cnd_false, ↓Option.bind_some, ↓obH_some', bin_add, bin_sub, bin_mul, bin_lss, bin_leq, bin_gtr, bin_geq, bin_eql, bin_neq, un_not, un_neg, Option.bind_some, Option.bind_none, Option.map_some, cnd_true, cnd_false, pickV_true, pickV_false, gd_true, gd_false, gdV_true, gdV_false, gdH_true, gdH_false, gdS_true, gdS_false, wt_ff, wt_tt, wt_ft, wt_tf, wt_undef, obH_some', extractV_tuple, nilCheckV_ptr, againK_normal, againK_exit, againK_ret, blockK_normal, blockK_same, blockK_ret, seqK_normal, seqK_exit, seqK_ret, fin_done, if_true', if_false', Bool.not_true, Bool.not_false, idx0, idx1, idx2, idx3, idx4, chk_nil_l, chk_nil_r, done_nm, up_cons, up_nil, cond_true, cond_false, Nat.reduceBEq]
theorem canO_full {L : Nat} {p : Nat} {n me : Int} {m : List (List Nat)} {g : List Nat} (ok : EnOk n me m g) : CanO (.iface 82 (.pointer (some ⟨p, 0, none⟩))) (fun h => En L h p n me m g) (fun fr _ bs => canFE n me g fr bs) :=
  ⟨⟨_, _, rfl⟩, fun _ _ E s => E.same s, fun h fr k v bs E sb hb => by
    rw [invF]
    exact spec_ECan E ok fr k sb (by omega)⟩
end Go.Am
namespace Go.Am
open Go.Proofs
set_option maxRecDepth 100000
set_option linter.all false
theorem bdHd (f n : Int) (a : Option Addr) (l c : Nat) : buildV Try.prog 37 #[(0, .bool true), (1, .int .i64 f), (2, .int .u64 n), (3, .slice a l c)] = some (.agg #[.bool true, .int .i64 f, .int .u64 n, .slice a l c]) := by kernel_rfl
theorem bdHd0 (f n : Int) (a : Option Addr) (l c : Nat) : buildV Try.prog 37 #[(1, .int .i64 f), (2, .int .u64 n), (3, .slice a l c)] = some (.agg #[.bool false, .int .i64 f, .int .u64 n, .slice a l c]) := by kernel_rfl
theorem bdHd3 (f n : Int) : buildV Try.prog 37 #[(0, .bool true), (1, .int .i64 f), (2, .int .u64 n)] = some (.agg #[.bool true, .int .i64 f, .int .u64 n, .slice none 0 0]) := by kernel_rfl
def okCs (z : Value) : List Value := [.bool true, .int .i64 1, .int .u64 1, z, .bool false, .int .i64 0, .int .u64 1, z, .bool true, .int .i64 0, .int .u64 1, z, .bool true, .int .i64 2, .int .u64 1, z, .bool true, .int .i64 1, .int .u64 1, .slice none 0 0]
theorem mkHd5 (a : Option Addr) (l c : Nat) (h : Heap) : buildSliceV Try.prog 38 5 #[(0, .agg #[.bool true, .int .i64 1, .int .u64 1, .slice a l c]), (1, .agg #[.bool false, .int .i64 0, .int .u64 1, .slice a l c]), (2, .agg #[.bool true, .int .i64 0, .int .u64 1, .slice a l c]), (3, .agg #[.bool true, .int .i64 2, .int .u64 1, .slice a l c]), (4, .agg #[.bool true, .int .i64 1, .int .u64 1, .slice none 0 0])] h =
    some (.slice (some ⟨h.blks.length, 0, none⟩) 5 5, h.new (.cells (okCs (.slice a l c))) 37) := by kernel_rfl
theorem slHd (b : Nat) (h : Heap) : sliceV Try.prog 38 (.slice (some ⟨b, 0, none⟩) 5 5) (some (.int .i64 3)) none none h = some (.slice (some ⟨b, 12, none⟩) 2 2) := by kernel_rfl
theorem mkO2 (h : Heap) : buildSliceV Try.prog 43 2 #[(0, .int .i64 0), (1, .int .i64 2)] h = some (.slice (some ⟨h.blks.length, 0, none⟩) 2 2, h.new (.cells [.int .i64 0, .int .i64 2]) 3) := by kernel_rfl
def okZ : List UInt8 := stampM 3 (zerosM 3)
def okH : List HT := [⟨true, 1, 1, okZ⟩, ⟨false, 0, 1, okZ⟩, ⟨true, 0, 1, okZ⟩, ⟨true, 2, 1, okZ⟩, ⟨true, 1, 1, []⟩]
def okH2 : List HT := [⟨true, 2, 1, okZ⟩, ⟨true, 1, 1, []⟩]
def okCanF (fr : Int) (_ : Nat) (bs : List UInt8) : Bool := canFE 3 2 [0, 0, 0] fr bs
theorem ok_len : okZ.length = 9 := by decide +kernel
theorem ok_h1 : headsL okCanF okH 5 = [0, 2] := by decide +kernel
theorem ok_h2 : headsL okCanF okH2 2 = [] := by decide +kernel
theorem ok_l1 : leastL okH [0, 2] = (2, true) := by decide +kernel
theorem ok_l2 : leastL okH2 [] = (0, false) := by decide +kernel
theorem ok_en : EnOk 3 2 (zerosM 3) [0, 0, 0] := ⟨by decide +kernel, by omega, by omega, by decide, by decide +kernel, by decide⟩
theorem ok_b : ∀ y ∈ okH, y.b.length < 2 ^ 30 := by
  have := ok_len
  intro y hy
  simp only [okH, List.mem_cons, List.not_mem_nil, or_false] at hy
  rcases hy with rfl | rfl | rfl | rfl | rfl <;> simp only [ok_len, List.length_nil] <;> omega
theorem ok_b2 : ∀ y ∈ okH2, y.b.length < 2 ^ 30 := fun y hy => ok_b y (by simp only [okH2, okH, List.mem_cons, List.not_mem_nil, or_false] at hy ⊢; rcases hy with h | h <;> simp [h])
theorem ok_sv {h : Heap} {b : Nat} {z : Value} (c : Cells h b 37 (okCs z)) (sz : SB h z okZ) : SHd h (.slice (some ⟨b, 0, none⟩) 5 5) okH :=
  ⟨[z, z, z, z, .slice none 0 0], .mk (c.loadN (n := 20) rfl), .cons sz (.cons sz (.cons sz (.cons sz (.cons .nil .nil))))⟩
theorem ok_sv2 {h : Heap} {b : Nat} {z : Value} (c : Cells h b 37 (okCs z)) (sz : SB h z okZ) : SHd h (.slice (some ⟨b, 12, none⟩) 2 2) okH2 :=
  ⟨[z, .slice none 0 0], .mk (by rw [show (12 : Nat) = 0 + 12 from rfl, loadN_sub (c.loadN (n := 20) rfl) (i := 12) (m := 8) (by omega)]; rfl), .cons sz (.cons .nil .nil)⟩
theorem law_OrderKnown (h : Heap) (vs : List Value) (dd : List DT) (r : RdAll Try.prog h [] vs dd) : ∃ h', evC Try.prog 3 vs.toArray h = some (.bool true, h') := by
  obtain ⟨rfl, rfl⟩ := r.nil_inv
  show ∃ h', evC Try.prog 3 #[] h = some (.bool true, h')
  rw [show evC Try.prog 3 #[] h = _ from call3 h]
  obtain ⟨h1, e1,Ab⟩ := spec_awake20 (nm h)
  have e2 := spec_ONewX 3 2 0 (by decide) (by decide) h1
  obtain ⟨h3, e3,Ad⟩ := spec_ONewF0 2 2 (by decide) h1
  obtain ⟨q, h4, e4,Ae, E4⟩ := spec_ONewF 3 2 (by decide) h3
  obtain ⟨mv, h5, e5,Af, a5⟩ := spec_MNew 3 h4
  rw [if_pos (by decide)] at a5
  simp only [if_pos (show 1 ≤ (3 : Int) ∧ (3 : Int) ≤ 16 by decide)] at e5
  rw [show zerosM (Int.toNat 3) = zerosM 3 from rfl] at a5 E4
  rw [show List.replicate (Int.toNat 3) 0 = [0, 0, 0] from rfl] at E4
  have E5 := E4.ext Af
  obtain ⟨ma, mc, rfl⟩ := a5.shape
  have k6 := alM h5
  have k6' := mvar (h := h5) 3 ma (zerosM 3).length mc
  have c6 := mvar_cells h5 [.int .i64 0, .slice none 0 0] [.int .i64 3, .slice ma (zerosM 3).length mc] 30
  have s6 := mvar_same h5 (.cells [.int .i64 0, .slice none 0 0]) (.cells [.int .i64 3, .slice ma (zerosM 3).length mc]) 30
  generalize (h5.new (.cells [.int .i64 0, .slice none 0 0]) 30).put h5.blks.length (.cells [.int .i64 3, .slice ma (zerosM 3).length mc]) = h6 at *
  have k6'' := ldM' c6
  obtain ⟨za, zc, h7, e7,Ah, a7⟩ := spec_Stamp (n := 3) (a5.smV.same s6) (by decide) (by decide +kernel)
  have sz7 : SB h7 (.slice za okZ.length zc) okZ := a7.sb
  rw [show (stampM 3 (zerosM 3)).length = okZ.length from rfl] at e7
  rw [ok_len] at e7 sz7
  have E7 := (E5.same s6).ext Ah
  have k8 := mkHd5 za 9 zc h7
  have c8 := Cells.new h7 37 (okCs (.slice za 9 zc))
  have sz8 := sz7.keepNew (.cells (okCs (.slice za 9 zc))) 37
  have E8 := E7.same (Same.new h7 (.cells (okCs (.slice za 9 zc))) 37)
  generalize h7.new (.cells (okCs (.slice za 9 zc))) 37 = h8 at *
  generalize h7.blks.length = b8 at *
  have C := canO_full (L := h3.blks.length) (p := q) ok_en
  obtain ⟨h9, e9,Aj⟩ := spec_Least C (h := h8) E8 (ok_sv c8 sz8) (by decide) ok_b
  have k10 := slHd b8 h9
  have E9 := E8.ext Aj
  have c9 := c8.ext Aj
  have sz9 := sz8.ext Aj
  obtain ⟨h11, e11,Al⟩ := spec_Least C (h := h9) E9 (ok_sv2 c9 sz9) (by decide) ok_b2
  have e12 := spec_LeastN (.slice (some ⟨b8, 0, none⟩) 5 5) h11
  have e13 := spec_KindF (.pointer (some ⟨q, 0, none⟩)) h11
  have e14 := spec_KindN h11
  obtain ⟨oa, oc, h15, e15,Aq, a15⟩ := spec_Heads C (h := h11) (E9.ext Al) ((ok_sv c9 sz9).same Al.same) (by decide) ok_b
  have r1 : headsL (fun fr _ bs => canFE 3 2 [0, 0, 0] fr bs) okH okH.length = [0, 2] := ok_h1
  have r2 : headsL (fun fr _ bs => canFE 3 2 [0, 0, 0] fr bs) okH2 okH2.length = [] := ok_h2
  simp only [r1, r2, ok_l1, ok_l2] at e9 e11 e15 a15
  have k16 := mkO2 h15
  have a16 : SO (h15.new (.cells [.int .i64 0, .int .i64 2]) 3) (.slice oa ([0, 2] : List Nat).length oc) [0, 2] := a15.row.keep fun b hb _ => Heap.new_old hb
  have l16 : SO (h15.new (.cells [.int .i64 0, .int .i64 2]) 3) (.slice (some ⟨h15.blks.length, 0, none⟩) 2 2) [0, 2] := .mk (by simp [Heap.loadN, Heap.cells?, blk_new_self])
  have e17 := spec_ints a16 l16 (by decide) (by decide)
  have e18 := spec_HeadsN (.slice (some ⟨b8, 0, none⟩) 5 5) (h15.new (.cells [.int .i64 0, .int .i64 2]) 3)
  have lz : lenV Try.prog 43 (.slice none 0 0) (h15.new (.cells [.int .i64 0, .int .i64 2]) 3) = some (.int .i64 (0 : Nat)) := (Row.nil (es := 1)).len_eq etO.under
  simp only [Int.natCast_zero, show ((1 : Nat) : Int) = 1 from rfl, show ((2 : Nat) : Int) = 2 from rfl] at e9 e11 lz
  simp (maxSteps := 3000000) -implicitDefEqProofs (disch := omega) only [↓c3_0_eq, dcT, dcF, decide_true, decide_false, eq_self, Int.reduceEq, e1, e2, e3, e4, e5, nilN, nilO, nilN0, nilO0, k6, k6', k6'', e7, bdHd, bdHd0, bdHd3, k8, e9, k10, e11, e12, e13, e14, e15, k16, e17, e18, lz, ↓ret3, ↓cnd_true, ↓cnd_false, ↓Option.bind_some, ↓obH_some', bin_add, bin_sub, bin_mul, bin_lss, bin_leq, bin_gtr, bin_geq, bin_eql, bin_neq, un_not, un_neg, Option.bind_some, Option.bind_none, Option.map_some, cnd_true, cnd_false, pickV_true, pickV_false, gd_true, gd_false, gdV_true, gdV_false, gdH_true, gdH_false, gdS_true, gdS_false, wt_ff, wt_tt, wt_ft, wt_tf, wt_undef, obH_some', extractV_tuple, nilCheckV_ptr, againK_normal, againK_exit, againK_ret, blockK_normal, blockK_same, blockK_ret, seqK_normal, seqK_exit, seqK_ret, fin_done, if_true', if_false', Bool.not_true, Bool.not_false, idx0, idx1, idx2, idx3, idx4, chk_nil_l, chk_nil_r, done_nm, up_cons, up_nil, cond_true, cond_false, Nat.reduceBEq]
  exact ⟨_, rfl⟩
end Go.Am
namespace Go.Am
open Go.Proofs
set_option maxRecDepth 100000
set_option linter.all false
def entV (e : E3) : Value := .agg #[.int .i64 e.f, .int .u64 e.n, .int .u64 e.t]
theorem bxE (a b c : Value) (h : Heap) : boxV Try.prog 57 (.agg #[a, b, c]) h = some (.pointer (some ⟨h.blks.length, 0, none⟩), h.new (.cells [a, b, c]) 57) := by kernel_rfl
theorem faE0 (p o : Nat) : fieldAddrV Try.prog 57 (.pointer (some ⟨p, o, none⟩)) 0 = some (.pointer (some ⟨p, o, none⟩)) := by kernel_rfl
theorem faE1 (p o : Nat) : fieldAddrV Try.prog 57 (.pointer (some ⟨p, o, none⟩)) 1 = some (.pointer (some ⟨p, o + 1, none⟩)) := by kernel_rfl
theorem faE2 (p o : Nat) : fieldAddrV Try.prog 57 (.pointer (some ⟨p, o, none⟩)) 2 = some (.pointer (some ⟨p, o + 2, none⟩)) := by kernel_rfl
theorem ldI (p o : Nat) (h : Heap) : loadV Try.prog 3 (.pointer (some ⟨p, o, none⟩)) h = h.load1 p o := by kernel_rfl
theorem ldU (p o : Nat) (h : Heap) : loadV Try.prog 35 (.pointer (some ⟨p, o, none⟩)) h = h.load1 p o := by kernel_rfl
theorem ldS (p o : Nat) (h : Heap) : loadV Try.prog 55 (.pointer (some ⟨p, o, none⟩)) h = h.load1 p o := by kernel_rfl
theorem lsI2 (a b : Value) (h : Heap) : buildSliceV Try.prog 43 2 #[(0, a), (1, b)] h = (Instr.fill (fun i => some (i * 1, 1)) #[.int .i64 0, .int .i64 0] [(0, a), (1, b)]).map fun cs => (.slice (some ⟨h.blks.length, 0, none⟩) 2 2, h.new (.cells cs.toList) 3) := by kernel_rfl
theorem lsI2' (x y : Int) (h : Heap) : buildSliceV Try.prog 43 2 #[(0, .int .i64 x), (1, .int .i64 y)] h = some (.slice (some ⟨h.blks.length, 0, none⟩) 2 2, h.new (.cells [.int .i64 x, .int .i64 y]) 3) := by kernel_rfl
theorem lnI (a : Option Addr) (n c : Nat) (h : Heap) : lenV Try.prog 43 (.slice a n c) h = some (.int .i64 n) := by kernel_rfl
theorem iaI0 (p c : Nat) : indexAddrV Try.prog 43 (.slice (some ⟨p, 0, none⟩) 2 c) (.int .i64 0) = some (.pointer (some ⟨p, 0, none⟩)) := by kernel_rfl
theorem iaI1 (p c : Nat) : indexAddrV Try.prog 43 (.slice (some ⟨p, 0, none⟩) 2 c) (.int .i64 1) = some (.pointer (some ⟨p, 1, none⟩)) := by kernel_rfl
end Go.Am
namespace Go.Am.Z
open Go.Proofs
set_option maxRecDepth 100000
set_option linter.all false
@[reducible] def xt0 : Xt Try.prog := ⟨fun _ => none⟩
@[reducible] def gl0 : Gl Try.prog := ⟨none⟩
attribute [local instance] xt0 gl0
theorem xm0 : XtM Try.prog := ⟨fun _ _ h => by cases h⟩
theorem xo0 : XtOk Try.prog := ⟨fun _ _ h => (by cases h), fun _ _ _ h => (by cases h)⟩
attribute [local instance] xm0 xo0
section
variable {β : Type}
noncomputable abbrev ev : Ev := evC Try.prog
noncomputable abbrev cK (c : Code) (n : Nat) (x : Nat → Value) (h : Heap) (k : Ex → St → Option β) : Option β := codeK Try.prog (evC Try.prog) loopL c ⟨ar n x, h⟩ k
noncomputable abbrev lK (c : Code) (n : Nat) (x : Nat → Value) (h : Heap) (k : Ex → St → Option β) : Option β := loopK Try.prog (evC Try.prog) c ⟨ar n x, h⟩ k
noncomputable abbrev sK (c : Code) (k : Ex → St → Option β) : Ex → St → Option β := seqK Try.prog (evC Try.prog) c k
noncomputable abbrev rD (ops : Array Oper) (j n : Nat) (x : Nat → Value) (h : Heap) (r m : List Nat) (k : St → Option β) : Option β := regD Try.prog (evC Try.prog) ops j ⟨ar n x, h⟩ r m k
variable (x : Nat → Value) (h : Heap) (k : Ex → St → Option β) (r m : List Nat) (g : Heap)
noncomputable def c85_0 : Code := bodyC Try.f85 []
theorem c85_0_eq : cK c85_0 6 x h k =
(bn .neq 3 (x 0) (x 0)).bind fun v0 =>
k .ret ⟨ar 6 (up x [(2,v0),(3,(x 0)),(4,(x 0)),(5,v0)]), h⟩ := by kernel_rfl
theorem call85 (a0 : Value) : evC Try.prog 85 #[a0] h = cK c85_0 6 (up un [(0,a0)]) (nm h) (retK Try.f85 Try.prog h) :=
  (evC_call 85 Try.f85 c85_0 Try.func85 (by kernel_rfl) #[a0] h).trans (by kernel_rfl)
theorem ret85 : retK Try.f85 Try.prog g .ret ⟨ar 6 x, h⟩ = fin g (some (x 2)) h := by kernel_rfl
theorem retn85 : retK Try.f85 Try.prog g .normal ⟨ar 6 x, h⟩ = fin g (some (x 2)) h := by kernel_rfl
noncomputable def c86_0 : Code := bodyC Try.f86 []
theorem c86_0_eq : cK c86_0 6 x h k =
(bn .neq 35 (x 0) (x 0)).bind fun v0 =>
k .ret ⟨ar 6 (up x [(2,v0),(3,(x 0)),(4,(x 0)),(5,v0)]), h⟩ := by kernel_rfl
theorem call86 (a0 : Value) : evC Try.prog 86 #[a0] h = cK c86_0 6 (up un [(0,a0)]) (nm h) (retK Try.f86 Try.prog h) :=
  (evC_call 86 Try.f86 c86_0 Try.func86 (by kernel_rfl) #[a0] h).trans (by kernel_rfl)
theorem ret86 : retK Try.f86 Try.prog g .ret ⟨ar 6 x, h⟩ = fin g (some (x 2)) h := by kernel_rfl
theorem retn86 : retK Try.f86 Try.prog g .normal ⟨ar 6 x, h⟩ = fin g (some (x 2)) h := by kernel_rfl
noncomputable def c71_0 : Code := bodyC Try.f71 []
theorem c71_0_eq : cK c71_0 20 x h k =
obH (ev 85 #[x 0] h) fun v0 h1 =>
obH (ev 85 #[x 1] h1) fun v2 h3 =>
cnd v0 (
cnd v2 (
k .ret ⟨ar 20 (up x [(4,(.int .i64 0)),(5,v0),(6,v2),(7,(x 0)),(8,v0),(9,(x 1)),(10,v2),(11,v0),(12,v2)]), h3⟩) (
k .ret ⟨ar 20 (up x [(4,(.int .i64 (-1))),(5,v0),(6,v2),(7,(x 0)),(8,v0),(9,(x 1)),(10,v2),(11,v0),(12,v2)]), h3⟩)) (
cnd v2 (
k .ret ⟨ar 20 (up x [(4,(.int .i64 1)),(5,v0),(6,v2),(7,(x 0)),(8,v0),(9,(x 1)),(10,v2),(11,v0),(13,v2)]), h3⟩) (
(bn .lss 3 (x 0) (x 1)).bind fun v4 =>
cnd v4 (
k .ret ⟨ar 20 (up x [(4,(.int .i64 (-1))),(5,v0),(6,v2),(7,(x 0)),(8,v0),(9,(x 1)),(10,v2),(11,v0),(13,v2),(14,(x 0)),(15,(x 1)),(16,v4)]), h3⟩) (
(bn .gtr 3 (x 0) (x 1)).bind fun v5 =>
cnd v5 (
k .ret ⟨ar 20 (up x [(4,(.int .i64 1)),(5,v0),(6,v2),(7,(x 0)),(8,v0),(9,(x 1)),(10,v2),(11,v0),(13,v2),(14,(x 0)),(15,(x 1)),(16,v4),(17,(x 0)),(18,(x 1)),(19,v5)]), h3⟩) (
k .ret ⟨ar 20 (up x [(4,(.int .i64 0)),(5,v0),(6,v2),(7,(x 0)),(8,v0),(9,(x 1)),(10,v2),(11,v0),(13,v2),(14,(x 0)),(15,(x 1)),(16,v4),(17,(x 0)),(18,(x 1)),(19,v5)]), h3⟩)))) := by kernel_rfl
theorem call71 (a0 a1 : Value) : evC Try.prog 71 #[a0,a1] h = cK c71_0 20 (up un [(0,a0),(1,a1)]) (nm h) (retK Try.f71 Try.prog h) :=
  (evC_call 71 Try.f71 c71_0 Try.func71 (by kernel_rfl) #[a0,a1] h).trans (by kernel_rfl)
theorem ret71 : retK Try.f71 Try.prog g .ret ⟨ar 20 x, h⟩ = fin g (some (x 4)) h := by kernel_rfl
theorem retn71 : retK Try.f71 Try.prog g .normal ⟨ar 20 x, h⟩ = fin g (some (x 4)) h := by kernel_rfl
noncomputable def c72_0 : Code := bodyC Try.f72 []
theorem c72_0_eq : cK c72_0 20 x h k =
obH (ev 86 #[x 0] h) fun v0 h1 =>
obH (ev 86 #[x 1] h1) fun v2 h3 =>
cnd v0 (
cnd v2 (
k .ret ⟨ar 20 (up x [(4,(.int .i64 0)),(5,v0),(6,v2),(7,(x 0)),(8,v0),(9,(x 1)),(10,v2),(11,v0),(12,v2)]), h3⟩) (
k .ret ⟨ar 20 (up x [(4,(.int .i64 (-1))),(5,v0),(6,v2),(7,(x 0)),(8,v0),(9,(x 1)),(10,v2),(11,v0),(12,v2)]), h3⟩)) (
cnd v2 (
k .ret ⟨ar 20 (up x [(4,(.int .i64 1)),(5,v0),(6,v2),(7,(x 0)),(8,v0),(9,(x 1)),(10,v2),(11,v0),(13,v2)]), h3⟩) (
(bn .lss 35 (x 0) (x 1)).bind fun v4 =>
cnd v4 (
k .ret ⟨ar 20 (up x [(4,(.int .i64 (-1))),(5,v0),(6,v2),(7,(x 0)),(8,v0),(9,(x 1)),(10,v2),(11,v0),(13,v2),(14,(x 0)),(15,(x 1)),(16,v4)]), h3⟩) (
(bn .gtr 35 (x 0) (x 1)).bind fun v5 =>
cnd v5 (
k .ret ⟨ar 20 (up x [(4,(.int .i64 1)),(5,v0),(6,v2),(7,(x 0)),(8,v0),(9,(x 1)),(10,v2),(11,v0),(13,v2),(14,(x 0)),(15,(x 1)),(16,v4),(17,(x 0)),(18,(x 1)),(19,v5)]), h3⟩) (
k .ret ⟨ar 20 (up x [(4,(.int .i64 0)),(5,v0),(6,v2),(7,(x 0)),(8,v0),(9,(x 1)),(10,v2),(11,v0),(13,v2),(14,(x 0)),(15,(x 1)),(16,v4),(17,(x 0)),(18,(x 1)),(19,v5)]), h3⟩)))) := by kernel_rfl
theorem call72 (a0 a1 : Value) : evC Try.prog 72 #[a0,a1] h = cK c72_0 20 (up un [(0,a0),(1,a1)]) (nm h) (retK Try.f72 Try.prog h) :=
  (evC_call 72 Try.f72 c72_0 Try.func72 (by kernel_rfl) #[a0,a1] h).trans (by kernel_rfl)
theorem ret72 : retK Try.f72 Try.prog g .ret ⟨ar 20 x, h⟩ = fin g (some (x 4)) h := by kernel_rfl
theorem retn72 : retK Try.f72 Try.prog g .normal ⟨ar 20 x, h⟩ = fin g (some (x 4)) h := by kernel_rfl
noncomputable def c70_0 : Code := bodyC Try.f70 []
noncomputable def c70_1 : Code := bodyC Try.f70 [true, true, false, true, false, false]
noncomputable def c70_2 : Code := bodyC Try.f70 [true, true, true]
theorem c70_0_eq : cK c70_0 18 x h k =
(ln 43 (x 0) h).bind fun v0 =>
lK c70_1 18 (up x [(2,(.int .i64 0)),(3,(.int .i64 0)),(6,(x 0)),(7,v0),(8,(.int .i64 0))]) h (blockK 0 (sK c70_2 k)) := by kernel_rfl
theorem c70_1_eq : cK c70_1 18 x h k =
(bn .lss 3 (x 8) (x 7)).bind fun v1 =>
cnd v1 (
(ia 43 (x 6) (x 8)).bind fun v2 =>
(ld 3 v2 h).bind fun v3 =>
(bn .neq 3 v3 (x 3)).bind fun v4 =>
cnd v4 (
k .ret ⟨ar 18 (up x [(2,v3),(5,v3),(9,v1),(10,v2),(11,v3),(12,v3),(13,(x 3)),(14,v4),(15,v3)]), h⟩) (
(bn .add 3 (x 8) (.int .i64 1)).bind fun v5 =>
k .normal ⟨ar 18 (up x [(5,v3),(8,v5),(9,v1),(10,v2),(11,v3),(12,v3),(13,(x 3)),(14,v4),(16,v5)]), h⟩)) (
k (.exit 0) ⟨ar 18 (up x [(9,v1)]), h⟩) := by kernel_rfl
theorem c70_2_eq : cK c70_2 18 x h k =
k .ret ⟨ar 18 (up x [(2,(x 3)),(17,(x 3))]), h⟩ := by kernel_rfl
theorem call70 (a0 : Value) : evC Try.prog 70 #[a0] h = cK c70_0 18 (up un [(0,a0)]) (nm h) (retK Try.f70 Try.prog h) :=
  (evC_call 70 Try.f70 c70_0 Try.func70 (by kernel_rfl) #[a0] h).trans (by kernel_rfl)
theorem ret70 : retK Try.f70 Try.prog g .ret ⟨ar 18 x, h⟩ = fin g (some (x 2)) h := by kernel_rfl
theorem retn70 : retK Try.f70 Try.prog g .normal ⟨ar 18 x, h⟩ = fin g (some (x 2)) h := by kernel_rfl
noncomputable def c48_0 : Code := bodyC Try.f48 []
theorem c48_0_eq : cK c48_0 17 x h k =
obH (boxV Try.prog 57 (x 0) h) fun v0 h1 =>
obH (boxV Try.prog 57 (x 1) h1) fun v2 h3 =>
(fa 57 v0 0).bind fun v4 =>
(ld 3 v4 h3).bind fun v5 =>
(fa 57 v2 0).bind fun v6 =>
(ld 3 v6 h3).bind fun v7 =>
obH (ev 71 #[v5,v7] (nm h3)) fun v8 h9 =>
(fa 57 v0 1).bind fun v10 =>
(ld 35 v10 (am h9 h3)).bind fun v11 =>
(fa 57 v2 1).bind fun v12 =>
(ld 35 v12 (am h9 h3)).bind fun v13 =>
obH (ev 72 #[v11,v13] (am h9 h3)) fun v14 h15 =>
obH (buildSliceV Try.prog 43 2 #[(0, v8), (1, v14)] h15) fun v16 h17 =>
obH (ev 70 #[v16] h17) fun v18 h19 =>
chk ((rb v12) ++ ((rb v10) ++ [])) (h9.mods ++ []) (
k .ret ⟨ar 17 (up x [(2,v0),(3,v2),(4,v18),(5,v4),(6,v5),(7,v6),(8,v7),(9,v8),(10,v10),(11,v11),(12,v12),(13,v13),(14,v14),(15,v16),(16,v18)]), h19⟩) := by kernel_rfl
theorem call48 (a0 a1 : Value) : evC Try.prog 48 #[a0,a1] h = cK c48_0 17 (up un [(0,a0),(1,a1)]) (nm h) (retK Try.f48 Try.prog h) :=
  (evC_call 48 Try.f48 c48_0 Try.func48 (by kernel_rfl) #[a0,a1] h).trans (by kernel_rfl)
theorem ret48 : retK Try.f48 Try.prog g .ret ⟨ar 17 x, h⟩ = fin g (some (x 4)) h := by kernel_rfl
theorem retn48 : retK Try.f48 Try.prog g .normal ⟨ar 17 x, h⟩ = fin g (some (x 4)) h := by kernel_rfl
end
attribute [local congr] obind_congr obH_congr cnd_congr chk_congr retK_congr codeK_congr
theorem spec_isNaNI (a : Int) (h : Heap) : evC Try.prog 85 #[.int .i64 a] h = some (.bool false, h) := by
  rw [call85]
  simp -implicitDefEqProofs only [↓c85_0_eq, eq_self, ne_eq, not_true_eq_false, decide_false, ↓ret85, ↓cnd_true, ↓cnd_false, ↓Option.bind_some, ↓obH_some', bin_add, bin_sub, bin_mul, bin_lss, bin_leq, bin_gtr, bin_geq, bin_eql, bin_neq, un_not, un_neg, Option.bind_some, Option.bind_none, Option.map_some, cnd_true, cnd_false, pickV_true, pickV_false, gd_true, gd_false, gdV_true, gdV_false, gdH_true, gdH_false, gdS_true, gdS_false, wt_ff, wt_tt, wt_ft, wt_tf, wt_undef, obH_some', extractV_tuple, nilCheckV_ptr, againK_normal, againK_exit, againK_ret, blockK_normal, blockK_same, blockK_ret, seqK_normal, seqK_exit, seqK_ret, fin_done, if_true', if_false', Bool.not_true, Bool.not_false, idx0, idx1, idx2, idx3, idx4, chk_nil_l, chk_nil_r, done_nm, up_cons, up_nil, cond_true, cond_false, Nat.reduceBEq]
theorem spec_isNaNW (a : Int) (h : Heap) : evC Try.prog 86 #[.int .u64 a] h = some (.bool false, h) := by
  rw [call86]
  simp -implicitDefEqProofs only [↓c86_0_eq, eq_self, ne_eq, not_true_eq_false, decide_false, ↓ret86, ↓cnd_true, ↓cnd_false, ↓Option.bind_some, ↓obH_some', bin_add, bin_sub, bin_mul, bin_lss, bin_leq, bin_gtr, bin_geq, bin_eql, bin_neq, un_not, un_neg, Option.bind_some, Option.bind_none, Option.map_some, cnd_true, cnd_false, pickV_true, pickV_false, gd_true, gd_false, gdV_true, gdV_false, gdH_true, gdH_false, gdS_true, gdS_false, wt_ff, wt_tt, wt_ft, wt_tf, wt_undef, obH_some', extractV_tuple, nilCheckV_ptr, againK_normal, againK_exit, againK_ret, blockK_normal, blockK_same, blockK_ret, seqK_normal, seqK_exit, seqK_ret, fin_done, if_true', if_false', Bool.not_true, Bool.not_false, idx0, idx1, idx2, idx3, idx4, chk_nil_l, chk_nil_r, done_nm, up_cons, up_nil, cond_true, cond_false, Nat.reduceBEq]
def cmpI (a b : Int) : Int := if a < b then -1 else if b < a then 1 else 0
theorem spec_CmpI (a b : Int) (h : Heap) : evC Try.prog 71 #[.int .i64 a, .int .i64 b] h = some (.int .i64 (cmpI a b), h) := by
  rw [call71]
  have e1 := fun h => spec_isNaNI a h
  have e2 := fun h => spec_isNaNI b h
  unfold cmpI
  by_cases h1 : a < b
  · rw [if_pos h1]
    simp -implicitDefEqProofs (disch := omega) only [↓c71_0_eq, dcT, dcF, e1, e2, ↓ret71, ↓cnd_true, ↓cnd_false, ↓Option.bind_some, ↓obH_some', bin_add, bin_sub, bin_mul, bin_lss, bin_leq, bin_gtr, bin_geq, bin_eql, bin_neq, un_not, un_neg, Option.bind_some, Option.bind_none, Option.map_some, cnd_true, cnd_false, pickV_true, pickV_false, gd_true, gd_false, gdV_true, gdV_false, gdH_true, gdH_false, gdS_true, gdS_false, wt_ff, wt_tt, wt_ft, wt_tf, wt_undef, obH_some', extractV_tuple, nilCheckV_ptr, againK_normal, againK_exit, againK_ret, blockK_normal, blockK_same, blockK_ret, seqK_normal, seqK_exit, seqK_ret, fin_done, if_true', if_false', Bool.not_true, Bool.not_false, idx0, idx1, idx2, idx3, idx4, chk_nil_l, chk_nil_r, done_nm, up_cons, up_nil, cond_true, cond_false, Nat.reduceBEq]
  · rw [if_neg h1]
    by_cases h2 : b < a
    · rw [if_pos h2]
      simp -implicitDefEqProofs (disch := omega) only [↓c71_0_eq, dcT, dcF, e1, e2, ↓ret71, ↓cnd_true, ↓cnd_false, ↓Option.bind_some, ↓obH_some', bin_add, bin_sub, bin_mul, bin_lss, bin_leq, bin_gtr, bin_geq, bin_eql, bin_neq, un_not, un_neg, Option.bind_some, Option.bind_none, Option.map_some, cnd_true, cnd_false, pickV_true, pickV_false, gd_true, gd_false, gdV_true, gdV_false, gdH_true, gdH_false, gdS_true, gdS_false, wt_ff, wt_tt, wt_ft, wt_tf, wt_undef, obH_some', extractV_tuple, nilCheckV_ptr, againK_normal, againK_exit, againK_ret, blockK_normal, blockK_same, blockK_ret, seqK_normal, seqK_exit, seqK_ret, fin_done, if_true', if_false', Bool.not_true, Bool.not_false, idx0, idx1, idx2, idx3, idx4, chk_nil_l, chk_nil_r, done_nm, up_cons, up_nil, cond_true, cond_false, Nat.reduceBEq]
    · rw [if_neg h2]
      simp -implicitDefEqProofs (disch := omega) only [↓c71_0_eq, dcT, dcF, e1, e2, ↓ret71, ↓cnd_true, ↓cnd_false, ↓Option.bind_some, ↓obH_some', bin_add, bin_sub, bin_mul, bin_lss, bin_leq, bin_gtr, bin_geq, bin_eql, bin_neq, un_not, un_neg, Option.bind_some, Option.bind_none, Option.map_some, cnd_true, cnd_false, pickV_true, pickV_false, gd_true, gd_false, gdV_true, gdV_false, gdH_true, gdH_false, gdS_true, gdS_false, wt_ff, wt_tt, wt_ft, wt_tf, wt_undef, obH_some', extractV_tuple, nilCheckV_ptr, againK_normal, againK_exit, againK_ret, blockK_normal, blockK_same, blockK_ret, seqK_normal, seqK_exit, seqK_ret, fin_done, if_true', if_false', Bool.not_true, Bool.not_false, idx0, idx1, idx2, idx3, idx4, chk_nil_l, chk_nil_r, done_nm, up_cons, up_nil, cond_true, cond_false, Nat.reduceBEq]
theorem spec_CmpW (a b : Int) (h : Heap) : evC Try.prog 72 #[.int .u64 a, .int .u64 b] h = some (.int .i64 (cmpI a b), h) := by
  rw [call72]
  have e1 := fun h => spec_isNaNW a h
  have e2 := fun h => spec_isNaNW b h
  unfold cmpI
  by_cases h1 : a < b
  · rw [if_pos h1]
    simp -implicitDefEqProofs (disch := omega) only [↓c72_0_eq, dcT, dcF, e1, e2, ↓ret72, ↓cnd_true, ↓cnd_false, ↓Option.bind_some, ↓obH_some', bin_add, bin_sub, bin_mul, bin_lss, bin_leq, bin_gtr, bin_geq, bin_eql, bin_neq, un_not, un_neg, Option.bind_some, Option.bind_none, Option.map_some, cnd_true, cnd_false, pickV_true, pickV_false, gd_true, gd_false, gdV_true, gdV_false, gdH_true, gdH_false, gdS_true, gdS_false, wt_ff, wt_tt, wt_ft, wt_tf, wt_undef, obH_some', extractV_tuple, nilCheckV_ptr, againK_normal, againK_exit, againK_ret, blockK_normal, blockK_same, blockK_ret, seqK_normal, seqK_exit, seqK_ret, fin_done, if_true', if_false', Bool.not_true, Bool.not_false, idx0, idx1, idx2, idx3, idx4, chk_nil_l, chk_nil_r, done_nm, up_cons, up_nil, cond_true, cond_false, Nat.reduceBEq]
  · rw [if_neg h1]
    by_cases h2 : b < a
    · rw [if_pos h2]
      simp -implicitDefEqProofs (disch := omega) only [↓c72_0_eq, dcT, dcF, e1, e2, ↓ret72, ↓cnd_true, ↓cnd_false, ↓Option.bind_some, ↓obH_some', bin_add, bin_sub, bin_mul, bin_lss, bin_leq, bin_gtr, bin_geq, bin_eql, bin_neq, un_not, un_neg, Option.bind_some, Option.bind_none, Option.map_some, cnd_true, cnd_false, pickV_true, pickV_false, gd_true, gd_false, gdV_true, gdV_false, gdH_true, gdH_false, gdS_true, gdS_false, wt_ff, wt_tt, wt_ft, wt_tf, wt_undef, obH_some', extractV_tuple, nilCheckV_ptr, againK_normal, againK_exit, againK_ret, blockK_normal, blockK_same, blockK_ret, seqK_normal, seqK_exit, seqK_ret, fin_done, if_true', if_false', Bool.not_true, Bool.not_false, idx0, idx1, idx2, idx3, idx4, chk_nil_l, chk_nil_r, done_nm, up_cons, up_nil, cond_true, cond_false, Nat.reduceBEq]
    · rw [if_neg h2]
      simp -implicitDefEqProofs (disch := omega) only [↓c72_0_eq, dcT, dcF, e1, e2, ↓ret72, ↓cnd_true, ↓cnd_false, ↓Option.bind_some, ↓obH_some', bin_add, bin_sub, bin_mul, bin_lss, bin_leq, bin_gtr, bin_geq, bin_eql, bin_neq, un_not, un_neg, Option.bind_some, Option.bind_none, Option.map_some, cnd_true, cnd_false, pickV_true, pickV_false, gd_true, gd_false, gdV_true, gdV_false, gdH_true, gdH_false, gdS_true, gdS_false, wt_ff, wt_tt, wt_ft, wt_tf, wt_undef, obH_some', extractV_tuple, nilCheckV_ptr, againK_normal, againK_exit, againK_ret, blockK_normal, blockK_same, blockK_ret, seqK_normal, seqK_exit, seqK_ret, fin_done, if_true', if_false', Bool.not_true, Bool.not_false, idx0, idx1, idx2, idx3, idx4, chk_nil_l, chk_nil_r, done_nm, up_cons, up_nil, cond_true, cond_false, Nat.reduceBEq]
theorem spec_Or {h : Heap} {p c : Nat} (a b : Int) (hc : Cells h p 3 [.int .i64 a, .int .i64 b]) : evC Try.prog 70 #[.slice (some ⟨p, 0, none⟩) 2 c] h = some (.int .i64 (if a = 0 then b else a), h) := by
  rw [call70]
  have l0 : (nm h).load1 p 0 = some (.int .i64 a) := hc.nm.load 0
  have l1 : (nm h).load1 p 1 = some (.int .i64 b) := hc.nm.load 1
  have w1 : IntKind.i64.wrap (0 + 1) = 1 := rfl
  have w2 : IntKind.i64.wrap (1 + 1) = 2 := rfl
  by_cases h1 : a = 0
  · rw [if_pos h1]
    by_cases h2 : b = 0
    · simp -implicitDefEqProofs (disch := omega) only [↓c70_0_eq, ↓c70_1_eq, ↓c70_2_eq, ↓loopK_eq evC_m, dcT, dcF, lnI, iaI0, iaI1, ldI, l0, l1, w1, w2, ↓ret70, ↓cnd_true, ↓cnd_false, ↓Option.bind_some, ↓obH_some', bin_add, bin_sub, bin_mul, bin_lss, bin_leq, bin_gtr, bin_geq, bin_eql, bin_neq, un_not, un_neg, Option.bind_some, Option.bind_none, Option.map_some, cnd_true, cnd_false, pickV_true, pickV_false, gd_true, gd_false, gdV_true, gdV_false, gdH_true, gdH_false, gdS_true, gdS_false, wt_ff, wt_tt, wt_ft, wt_tf, wt_undef, obH_some', extractV_tuple, nilCheckV_ptr, againK_normal, againK_exit, againK_ret, blockK_normal, blockK_same, blockK_ret, seqK_normal, seqK_exit, seqK_ret, fin_done, if_true', if_false', Bool.not_true, Bool.not_false, idx0, idx1, idx2, idx3, idx4, chk_nil_l, chk_nil_r, done_nm, up_cons, up_nil, cond_true, cond_false, Nat.reduceBEq]
      rw [h2]
    · simp -implicitDefEqProofs (disch := omega) only [↓c70_0_eq, ↓c70_1_eq, ↓c70_2_eq, ↓loopK_eq evC_m, dcT, dcF, lnI, iaI0, iaI1, ldI, l0, l1, w1, w2, ↓ret70, ↓cnd_true, ↓cnd_false, ↓Option.bind_some, ↓obH_some', bin_add, bin_sub, bin_mul, bin_lss, bin_leq, bin_gtr, bin_geq, bin_eql, bin_neq, un_not, un_neg, Option.bind_some, Option.bind_none, Option.map_some, cnd_true, cnd_false, pickV_true, pickV_false, gd_true, gd_false, gdV_true, gdV_false, gdH_true, gdH_false, gdS_true, gdS_false, wt_ff, wt_tt, wt_ft, wt_tf, wt_undef, obH_some', extractV_tuple, nilCheckV_ptr, againK_normal, againK_exit, againK_ret, blockK_normal, blockK_same, blockK_ret, seqK_normal, seqK_exit, seqK_ret, fin_done, if_true', if_false', Bool.not_true, Bool.not_false, idx0, idx1, idx2, idx3, idx4, chk_nil_l, chk_nil_r, done_nm, up_cons, up_nil, cond_true, cond_false, Nat.reduceBEq]
  · rw [if_neg h1]
    simp -implicitDefEqProofs (disch := omega) only [↓c70_0_eq, ↓c70_1_eq, ↓c70_2_eq, ↓loopK_eq evC_m, dcT, dcF, lnI, iaI0, iaI1, ldI, l0, l1, w1, w2, ↓ret70, ↓cnd_true, ↓cnd_false, ↓Option.bind_some, ↓obH_some', bin_add, bin_sub, bin_mul, bin_lss, bin_leq, bin_gtr, bin_geq, bin_eql, bin_neq, un_not, un_neg, Option.bind_some, Option.bind_none, Option.map_some, cnd_true, cnd_false, pickV_true, pickV_false, gd_true, gd_false, gdV_true, gdV_false, gdH_true, gdH_false, gdS_true, gdS_false, wt_ff, wt_tt, wt_ft, wt_tf, wt_undef, obH_some', extractV_tuple, nilCheckV_ptr, againK_normal, againK_exit, againK_ret, blockK_normal, blockK_same, blockK_ret, seqK_normal, seqK_exit, seqK_ret, fin_done, if_true', if_false', Bool.not_true, Bool.not_false, idx0, idx1, idx2, idx3, idx4, chk_nil_l, chk_nil_r, done_nm, up_cons, up_nil, cond_true, cond_false, Nat.reduceBEq]
theorem cmpE_or (x y : E3) : (if cmpI x.f y.f = 0 then cmpI x.n y.n else cmpI x.f y.f) = cmpE x y := by
  unfold cmpE cmpI
  by_cases h1 : x.f < y.f
  · simp [h1]
  · by_cases h2 : y.f < x.f
    · simp [h1, h2]
    · have : (x.n : Int) < y.n ↔ x.n < y.n := Int.ofNat_lt
      have : (y.n : Int) < x.n ↔ y.n < x.n := Int.ofNat_lt
      simp [h1, h2]
theorem spec_order (x y : E3) (h : Heap) : ∃ h', evC Try.prog 48 #[entV x, entV y] h = some (.int .i64 (cmpE x y), h') ∧ HExt h h' := by
  rw [call48]
  have c1 : Cells (((nm h).new (.cells [.int .i64 x.f, .int .u64 x.n, .int .u64 x.t]) 57).new (.cells [.int .i64 y.f, .int .u64 y.n, .int .u64 y.t]) 57) (nm h).blks.length 57 [.int .i64 x.f, .int .u64 x.n, .int .u64 x.t] := (Cells.new _ _ _).keepNew _ _
  have c2 := Cells.new ((nm h).new (.cells [.int .i64 x.f, .int .u64 x.n, .int .u64 x.t]) 57) 57 [.int .i64 y.f, .int .u64 y.n, .int .u64 y.t]
  have k2 : In h.blks.length No (nm h) (((nm h).new (.cells [.int .i64 x.f, .int .u64 x.n, .int .u64 x.t]) 57).new (.cells [.int .i64 y.f, .int .u64 y.n, .int .u64 y.t]) 57) :=
    In.trans (In.new (h := nm h) (Nat.le_refl h.blks.length) _ _) (In.new (by simp [Heap.new]) _ _)
  generalize hp1 : ((nm h).new (.cells [.int .i64 x.f, .int .u64 x.n, .int .u64 x.t]) 57).blks.length = p1 at c2
  generalize hp0 : (nm h).blks.length = p0 at c1
  generalize hh2 : ((nm h).new (.cells [.int .i64 x.f, .int .u64 x.n, .int .u64 x.t]) 57).new (.cells [.int .i64 y.f, .int .u64 y.n, .int .u64 y.t]) 57 = h2 at c1 c2 k2
  have la : h2.load1 p0 0 = some (.int .i64 x.f) := c1.load 0
  have lb : h2.load1 p0 1 = some (.int .u64 x.n) := c1.load 1
  have lc : h2.load1 p1 0 = some (.int .i64 y.f) := c2.load 0
  have ld : h2.load1 p1 1 = some (.int .u64 y.n) := c2.load 1
  have k3 := k2.trans (In.new (Nat.le_trans k2.le k2.len) (.cells [.int .i64 (cmpI x.f y.f), .int .i64 (cmpI x.n y.n)]) 3)
  have e3 := spec_Or (c := 2) _ _ (Cells.new h2 3 [.int .i64 (cmpI x.f y.f), .int .i64 (cmpI x.n y.n)])
  rw [cmpE_or] at e3
  refine ⟨_, ?_, done_ext' k3⟩
  simp -implicitDefEqProofs (disch := omega) only [↓c48_0_eq, entV, bxE, hp0, hp1, hh2, faE0, faE1, ldI, ldU, la, lb, lc, ld, spec_CmpI, spec_CmpW, am_nm, nm_load1, nm_mods, List.nil_append, List.append_nil, lsI2', e3, ↓ret48, ↓cnd_true, ↓cnd_false, ↓Option.bind_some, ↓obH_some', bin_add, bin_sub, bin_mul, bin_lss, bin_leq, bin_gtr, bin_geq, bin_eql, bin_neq, un_not, un_neg, Option.bind_some, Option.bind_none, Option.map_some, cnd_true, cnd_false, pickV_true, pickV_false, gd_true, gd_false, gdV_true, gdV_false, gdH_true, gdH_false, gdS_true, gdS_false, wt_ff, wt_tt, wt_ft, wt_tf, wt_undef, obH_some', extractV_tuple, nilCheckV_ptr, againK_normal, againK_exit, againK_ret, blockK_normal, blockK_same, blockK_ret, seqK_normal, seqK_exit, seqK_ret, fin_done, if_true', if_false', Bool.not_true, Bool.not_false, idx0, idx1, idx2, idx3, idx4, chk_nil_l, chk_nil_r, done_nm, up_cons, up_nil, cond_true, cond_false, Nat.reduceBEq]
end Go.Am.Z
namespace Go.Proofs
open Go.Shelf
def srtLay_ren : Go.Shelf.Ren := ⟨fun | 6 => 52 | 15 => 76 | 14 => 75 | 28 => 95 | 29 => 96 | 20 => 87 | 21 => 88 | 22 => 89 | 23 => 90 | 24 => 91 | 25 => 92 | 26 => 93 | 27 => 94 | 46 => 99 | 47 => 100 | 48 => 101 | 49 => 102 | 50 => 103 | 57 => 105 | n => n, fun | 22 => 45 | 24 => 57 | 25 => 98 | 3 => 3 | 39 => 114 | 0 => 0 | 53 => 154 | 55 => 35 | 4 => 4 | 46 => 148 | 45 => 147 | 50 => 39 | 5 => 5 | 9 => 9 | 66 => 156 | 70 => 160 | 76 => 163 | 77 => 164 | n => n, fun | n => n⟩
theorem srtLay : Go.Proofs.SlLaysF0.n6 Try.prog srtLay_ren := { mixed := by kernel_rfl, f6 := ⟨Try.f52.name, by decide, Try.func52.trans (congrArg some (by kernel_rfl))⟩, f14 := ⟨Try.f75.name, by decide, Try.func75.trans (congrArg some (by kernel_rfl))⟩, f15 := Try.func76.trans (congrArg some (by kernel_rfl)), f20 := ⟨Try.f87.name, by decide, Try.func87.trans (congrArg some (by kernel_rfl))⟩, f21 := ⟨Try.f88.name, by decide, Try.func88.trans (congrArg some (by kernel_rfl))⟩, f22 := ⟨Try.f89.name, by decide, Try.func89.trans (congrArg some (by kernel_rfl))⟩, f23 := ⟨Try.f90.name, by decide, Try.func90.trans (congrArg some (by kernel_rfl))⟩, f24 := ⟨Try.f91.name, by decide, Try.func91.trans (congrArg some (by kernel_rfl))⟩, f25 := ⟨Try.f92.name, by decide, Try.func92.trans (congrArg some (by kernel_rfl))⟩, f26 := ⟨Try.f93.name, by decide, Try.func93.trans (congrArg some (by kernel_rfl))⟩, f27 := ⟨Try.f94.name, by decide, Try.func94.trans (congrArg some (by kernel_rfl))⟩, f28 := Try.func95.trans (congrArg some (by kernel_rfl)), f29 := Try.func96.trans (congrArg some (by kernel_rfl)), f46 := ⟨Try.f99.name, by decide, Try.func99.trans (congrArg some (by kernel_rfl))⟩, f47 := Try.func100.trans (congrArg some (by kernel_rfl)), f48 := Try.func101.trans (congrArg some (by kernel_rfl)), f49 := ⟨Try.f102.name, by decide, Try.func102.trans (congrArg some (by kernel_rfl))⟩, f50 := ⟨Try.f103.name, by decide, Try.func103.trans (congrArg some (by kernel_rfl))⟩, f57 := ⟨Try.f105.name, by decide, Try.func105.trans (congrArg some (by kernel_rfl))⟩, t0 := Try.underlying0, a0 := Try.isAgg0, z0 := Try.sizeOf0, v0 := Try.zeroValue0, t3 := Try.underlying3, a3 := Try.isAgg3, z3 := Try.sizeOf3, v3 := Try.zeroValue3, t4 := Try.underlying4, a4 := Try.isAgg4, z4 := Try.sizeOf4, v4 := Try.zeroValue4, t5 := Try.underlying5, a5 := Try.isAgg5, z5 := Try.sizeOf5, v5 := Try.zeroValue5, t9 := Try.underlying9, a9 := Try.isAgg9, z9 := Try.sizeOf9, v9 := Try.zeroValue9, t22 := Try.underlying45, a22 := Try.isAgg45, z22 := Try.sizeOf45, v22 := Try.zeroValue45, t25 := Try.underlying98, a25 := Try.isAgg98, z25 := Try.sizeOf98, v25 := Try.zeroValue98, t39 := Try.underlying114, a39 := Try.isAgg114, z39 := Try.sizeOf114, v39 := Try.zeroValue114, t45 := Try.underlying147, a45 := Try.isAgg147, z45 := Try.sizeOf147, v45 := Try.zeroValue147, t46 := Try.underlying148, a46 := Try.isAgg148, z46 := Try.sizeOf148, v46 := Try.zeroValue148, t50 := Try.underlying39, a50 := Try.isAgg39, z50 := Try.sizeOf39, v50 := Try.zeroValue39, t53 := Try.underlying154, a53 := Try.isAgg154, z53 := Try.sizeOf154, v53 := Try.zeroValue154, t55 := Try.underlying35, a55 := Try.isAgg35, z55 := Try.sizeOf35, v55 := Try.zeroValue35, t66 := Try.underlying156, a66 := Try.isAgg156, z66 := Try.sizeOf156, v66 := Try.zeroValue156, t70 := Try.underlying160, a70 := Try.isAgg160, z70 := Try.sizeOf160, v70 := Try.zeroValue160, t76 := Try.underlying163, a76 := Try.isAgg163, z76 := Try.sizeOf163, v76 := Try.zeroValue163, t77 := Try.underlying164, a77 := Try.isAgg164, z77 := Try.sizeOf164, v77 := Try.zeroValue164 }
end Go.Proofs
namespace Go.Am
open Go.Proofs Go.Sort
set_option maxRecDepth 100000
set_option linter.all false
theorem mixedT : Try.prog.follows .mixedOrders = true := by kernel_rfl
theorem grown_of {h : Heap} {W W' : World} (fr : Fr noE h W W') : ∃ q os', W' = grow (W.drewN q) os' := by
  have hb : ∀ c, c < W.heap.size → W'.heap[c]? = W.heap[c]? := fun c hc => fr.blk c hc fun ⟨b, k, l, _, h1, _⟩ => by cases h1
  have ho := fr.os
  have ht := fr.tape
  have hu := fr.output
  have hs := fr.size
  have hd := fr.drawn
  obtain ⟨heap, tape, drawn, os, output⟩ := W
  obtain ⟨heap', tape', drawn', os', output'⟩ := W'
  simp only at ho ht hu hs hd hb
  subst ho ht hu
  refine ⟨drawn' - drawn, heap'.extract heap.size heap'.size, ?_⟩
  unfold grow World.drewN
  simp only
  congr 1
  · apply Array.ext_getElem?
    intro c
    rcases Nat.lt_or_ge c heap.size with h1 | h1
    · rw [Array.getElem?_append_left h1, ← hb c h1]
    · rw [Array.getElem?_append_right h1, Array.getElem?_extract]
      split
      · rename_i h2; rw [show heap.size + (c - heap.size) = c by omega]
      · rename_i h2; rw [Array.getElem?_eq_none (by omega)]
  · omega
theorem ent_list (x : E3) : (entC x).toArray = #[.int .i64 x.f, .int .u64 x.n, .int .u64 x.t] := rfl
theorem cmp_lays (blk off size : Nat) (w : World) : CmpLays Try.prog 48 #[] entC 3 cmpE blk off size w := fun m os dk _ x y => by
  obtain ⟨h', he, _⟩ := Z.spec_order x y ⟨[], []⟩
  have hA : ARel noE #[entV x, entV y] #[.agg (entC x).toArray, .agg (entC y).toArray] := ⟨rfl, fun i h1 h2 => by
    have : i = 0 ∨ i = 1 := by simp at h1; omega
    rcases this with rfl | rfl
    · exact VR.of_ground (v := entV x) (by simp [ground, entV, ground0])
    · exact VR.of_ground (v := entV y) (by simp [ground, entV, ground0])⟩
  rw [Array.append_empty]
  refine (@evC_sound _ Z.xt0 Z.gl0 Z.xo0 mixedT (sortWorldK entC 3 w blk off m dk os).heap.size 48 #[entV x, entV y] ⟨[], []⟩ _ h' noE _ _ he (@rel_none _ Z.gl0 _ (@GlobW.none _ Z.gl0 rfl _ _)) hA (fun b _ _ => rfl)).mono ?_
  rintro e W' ⟨v', E', h1, h2, h3⟩
  cases h3
  exact ⟨h1, grown_of (@Post.fr _ Z.gl0 _ _ _ _ _ _ _ h2)⟩
theorem swo : SWO (ltOf cmpE) := by
  have key : ∀ x y : E3, ltOf cmpE x y = decide (x.f < y.f ∨ x.f = y.f ∧ x.n < y.n) := fun x y => by
    unfold ltOf cmpE
    by_cases h1 : x.f < y.f
    · simp [h1]
    · by_cases h2 : y.f < x.f
      · have : ¬ (x.f = y.f) := by omega
        simp [h1, h2, this]
      · have : x.f = y.f := by omega
        by_cases h3 : x.n < y.n
        · simp [h1, h2, h3, this]
        · by_cases h4 : y.n < x.n <;> simp [h1, h2, h3, h4, this]
  constructor
  · intro x; rw [key]; simp
  · intro x y z h1 h2; rw [key] at *; simp at *; omega
  · intro x y z h1 h2; rw [key] at *; simp at *; omega
theorem flatK_ent (l : List E3) : (flatK entC 3 l.toArray).toList = entL l := by
  have key : ∀ (l : List E3) (t : Nat), t < l.length * 3 → (entC (l.getD (t / 3) default))[t % 3]! = (entL l)[t]! := by
    intro l
    induction l with
    | nil => intro t ht; simp at ht
    | cons e l ih =>
      intro t ht
      rcases Nat.lt_or_ge t 3 with h | h
      · have : t = 0 ∨ t = 1 ∨ t = 2 := by omega
        rcases this with rfl | rfl | rfl <;> rfl
      · obtain ⟨u, rfl⟩ : ∃ u, t = u + 3 := ⟨t - 3, by omega⟩
        rw [show (u + 3) / 3 = u / 3 + 1 by omega, show (u + 3) % 3 = u % 3 by omega]
        simp only [List.getD_cons_succ]
        rw [ih u (by simp at ht; omega)]
        rfl
  apply List.ext_getElem
  · simp [entL_len]
  · intro t h1 h2
    have ht : t < l.length * 3 := by rw [entL_len] at h2; exact h2
    have := key l t ht
    rw [getElem!_pos (entL l) t h2] at this
    rw [← this]
    simp only [flatK, Array.toList_map, Array.toList_range, List.getElem_map, List.getElem_range]
    congr 1
    simp [getElem!_def, List.getD_eq_getElem?_getD]
    cases l[t / 3]? <;> rfl
theorem setCells_sort {w : World} {blk off : Nat} {l : List E3} (hH : HoldsK entC 3 w blk off l.toArray) (d : Array E3) (hd : d.size = l.length) : w.setCells blk off (entL d.toList) = putRowK entC 3 w blk off d := by
  have e0 := putRow_self id w blk off _ hH
  have e1 := setCells_putRow w blk off (entL d.toList) 0 (flatK entC 3 l.toArray) (by rw [entL_len, size_flatK]; simp [hd])
  rw [e0, Nat.add_zero] at e1
  rw [e1]
  unfold putRowK
  congr 1
  refine ext_get! (by simp [hd]) fun t ht => ?_
  have ht' : t < (flatK entC 3 l.toArray).size := by simpa using ht
  have hlen : (entL d.toList).length = (flatK entC 3 l.toArray).size := by rw [entL_len, size_flatK]; simp [hd]
  rw [get_setMany _ _ _ _ ht', if_pos (by omega), Nat.sub_zero]
  have := flatK_ent d.toList
  simp only [Array.toArray_toList] at this
  rw [← this]
  simp [getElem!_def]
theorem Post.grown {P : Program} [Gl P] {base : Nat} {E : Env} {h h' : Heap} {w w1 : World} (p : Post P base E h w E h' w1) (os : Array Obj) : Post P base E h w E h' (grow w1 os) := by
  have hb : ∀ c, c < w1.heap.size → (grow w1 os).heap[c]? = w1.heap[c]? := fun c hc => by
    unfold grow
    exact Array.getElem?_append_left hc
  refine ⟨p.ext, p.dom, ⟨fun b k l hk hl => (p.rel.blk b k l hk hl).congr (Ext.refl _) (hb _ (p.rel.bnd b l hl)), p.rel.low, p.rel.ro, fun b l hl => ?_, p.rel.inj, p.rel.glob.keep (fun c hc => hb c (Nat.lt_of_lt_of_le hc p.rel.base)), ?_⟩, ⟨p.fr.os, p.fr.tape, p.fr.output, ?_, fun c hc hm => ?_, p.fr.drawn⟩, p.orig⟩
  · have := p.rel.bnd b l hl
    simp [grow]; omega
  · have := p.rel.base
    simp [grow]; omega
  · have := p.fr.size
    simp [grow]; omega
  · rw [hb c (Nat.lt_of_lt_of_le hc p.fr.size)]; exact p.fr.blk c hc hm
theorem Post.drewN {P : Program} [Gl P] {base : Nat} {E : Env} {h h' : Heap} {w w1 : World} (n : Nat) (p : Post P base E h (w.drewN n) E h' w1) : Post P base E h w E h' w1 :=
  ⟨p.ext, p.dom, p.rel, ⟨p.fr.os, p.fr.tape, p.fr.output, p.fr.size, p.fr.blk, Nat.le_trans (Nat.le_add_right _ _) p.fr.drawn⟩, p.orig⟩
theorem VR.func_inv {E : Env} {fn : Fn} {f c : Array Value} {x : Value} (h : VR E (.func fn f c) x) (hf : f.size = 0) (hc : c.size = 0) : x = .func fn #[] #[] := by
  cases h with
  | func h1 _ h2 _ =>
    rw [hf] at h1
    rw [hc] at h2
    congr 1
    · exact Array.eq_empty_of_size_eq_zero h1.symm
    · exact Array.eq_empty_of_size_eq_zero h2.symm
theorem enters_order : ∀ args w, (callFunc 48 args).run Try.prog w = .ok (.enter 48 args) w := enters_of Try.func48 (by kernel_rfl) rfl
theorem aggE : ∀ w, (isAgg 57).run Try.prog w = .ok true w := fun w => by simpa using run_isAggT (P := Try.prog) (t := 57) (b := true) (by kernel_rfl) w
theorem sizE : ∀ w, (Go.sizeOf 57).run Try.prog w = .ok 3 w := fun w => run_sizeT (P := Try.prog) (t := 57) (by kernel_rfl) w
theorem pdq_size (l : List E3) : (pdq (ltOf cmpE) l.toArray 0 l.toArray.size (Lib.bitLen l.toArray.size) true true).size = l.length := by
  have h := pdq_sorts (ltOf cmpE) swo l.toArray 0 l.toArray.size (Lib.bitLen l.toArray.size) true true (Nat.zero_le _) (Nat.le_refl _) (Or.inl rfl)
  rw [h.1.1]; simp
theorem sort_sound (base : Nat) (args : Array Value) (h : Heap) (v : Value) (h' : Heap) (E : Env) (w : World) (args' : Array Value) (hv : sortX 48 args h = some (v, h')) (hR : Rel Try.prog base E h w) (ha : ARel E args args') :
    Calls Try.prog 52 args' w fun e w' => ∃ v' E', e = .returned v' ∧ Post Try.prog base E h w E' h' w' ∧ VR E' v v' := by
  have two : ∀ x y, args.toList = [x, y] → ∃ x' y', args' = #[x', y'] ∧ VR E x x' ∧ VR E y y' := fun x y he => by
    have hl := ha.list
    rw [he] at hl
    obtain ⟨x', h1, r1⟩ := hl.2 0 x rfl
    obtain ⟨y', h2, r2⟩ := hl.2 1 y rfl
    have h3 := hl.1
    refine ⟨x', y', ?_, r1, r2⟩
    obtain ⟨l⟩ := args'
    match l, h3, h1, h2 with
    | [a, b], _, h1, h2 => cases h1; cases h2; rfl
  unfold sortX at hv
  split at hv
  · rename_i ad n c f x y he
    split at hv
    · rename_i hc
      obtain ⟨rfl, hx, hy, hn2⟩ := hc
      split at hv
      · rename_i hn0
        subst hn0
        cases hv
        obtain ⟨x', y', rfl, r1, r2⟩ := two _ _ he
        rw [r2.func_inv hx hy]
        have : ∃ p' c', x' = .slice p' 0 c' := by cases r1 <;> exact ⟨_, _, rfl⟩
        obtain ⟨p', c', rfl⟩ := this
        exact (AnyF.slices_SortFunc_none srtLay p' c' _ w).mono fun e w' ⟨h1, h2⟩ => ⟨_, E, h1, by rw [h2]; exact Post.refl hR, VR.undef⟩
      · rename_i hn0
        have hn : 0 < n := Nat.pos_of_ne_zero hn0
        split at hv
        · rename_i b o
          split at hv
          · rename_i cs hcs
            split at hv
            · rename_i l hl
              obtain ⟨h1, hs, hq⟩ := Option.map_eq_some_iff.1 hv
              cases hq
              obtain ⟨x', y', rfl, r1, r2⟩ := two _ _ he
              rw [r2.func_inv hx hy]
              have hcse := e3Of_inv _ _ hl
              subst hcse
              have hlen := loadN_len hcs
              rw [entL_len] at hlen
              have hln : l.length = n := by omega
              cases r1 with
              | sliceEmpty => omega
              | @slice _ _ _ _ c' l0 hE _ _ _ =>
                have hst : ∃ cs0 ty, h.blks[b]? = some ⟨.cells cs0, ty, true⟩ ∧ o + n * 3 ≤ cs0.length := by
                  unfold Heap.storeN at hs
                  split at hs
                  · rename_i cs0 ty hk
                    refine ⟨cs0, ty, hk, ?_⟩
                    unfold Heap.loadN Heap.cells? at hcs
                    rw [hk] at hcs
                    simp only at hcs
                    split at hcs
                    · assumption
                    · cases hcs
                  · cases hs
                obtain ⟨cs0, ty, hk, hle⟩ := hst
                obtain ⟨oc, oe, lo, hi, hheap, hsz, _, hfz⟩ := (hR.blk b _ l0 hk hE).2.2 rfl
                obtain ⟨cs', hLr, hcell⟩ := loadN_read hR hcs hE
                have hcell' : ∀ (j : Nat) v, (entL l)[j]? = some v → w.cell? ⟨l0.cb, l0.s + o + j, none⟩ = some v := fun j v hj => by
                  obtain ⟨v', h2, h3⟩ := hLr.2 j v hj
                  have hg : ground v = true := by
                    have : ∀ (l : List E3) (j : Nat) v, (entL l)[j]? = some v → ground v = true := by
                      intro l
                      induction l with
                      | nil => intro j v h; simp [entL] at h
                      | cons e l ih =>
                        intro j v h
                        match j, h with
                        | 0, h => cases h; rfl
                        | 1, h => cases h; rfl
                        | 2, h => cases h; rfl
                        | j + 3, h => exact ih j v h
                    exact this l j v hj
                  rw [h3.ground_eq hg] at h2
                  rw [Nat.add_assoc]
                  exact hcell j v h2
                have hH : HoldsK entC 3 w l0.cb (l0.s + o) l.toArray := fun j hj => by
                  have hj' : j < (entL l).length := by rw [entL_len]; simpa using hj
                  have e1 : (flatK entC 3 l.toArray)[j]! = (entL l)[j] := by
                    rw [← getElem!_pos (entL l) j hj', ← flatK_ent l]; simp [getElem!_def]
                  have h2 := hcell' j _ (List.getElem?_eq_getElem hj')
                  refine ⟨by rw [h2]; simp only [id]; rw [e1], ?_⟩
                  have hlt : l0.s + o + j < oc.size := by
                    simp only [World.cell?, hheap] at h2
                    have := (Array.getElem?_eq_some_iff.1 (by simpa using h2)).1
                    exact this
                  simp only [World.frozen?, hheap]
                  simp
                  omega
                have hlt : l0.cb < w.heap.size := hR.bnd b l0 hE
                have hcon := AnyQ.slices_SortFunc_eq srtLay 3 aggE sizE entC (fun _ => rfl) (fun x v hv => by simp [entC] at hv; rcases hv with rfl | rfl | rfl <;> rfl) cmpE swo 48 #[] l0.cb (l0.s + o) c' l.toArray w enters_order (cmp_lays _ _ _ _) hH hlt (by simp; omega)
                rw [show l.toArray.size = n by simpa using hln] at hcon
                refine hcon.mono ?_
                rintro e w' ⟨h2, m, os, h3⟩
                refine ⟨_, E, h2, ?_, VR.undef⟩
                have hRn : Rel Try.prog base E h (w.drewN m) := Rel.drawn hR _
                have hHn : HoldsK entC 3 (w.drewN m) l0.cb (l0.s + o) l.toArray := hH
                obtain ⟨w2, hw2, hp2⟩ := storeN_run hRn hs hE (vs' := entL (srtE l)) ⟨rfl, fun i v hv => ⟨v, hv, by
                  have : ∀ (l : List E3) (j : Nat) v, (entL l)[j]? = some v → ground v = true := by
                    intro l
                    induction l with
                    | nil => intro j v h; simp [entL] at h
                    | cons e l ih =>
                      intro j v h
                      match j, h with
                      | 0, h => cases h; rfl
                      | 1, h => cases h; rfl
                      | 2, h => cases h; rfl
                      | j + 3, h => exact ih j v h
                  exact VR.of_ground (this _ i v hv)⟩⟩ (entL_one _)
                have hds : (pdq (ltOf cmpE) l.toArray 0 l.toArray.size (Lib.bitLen l.toArray.size) true true).size = l.length := pdq_size l
                have e2 := setCells_sort hHn (pdq (ltOf cmpE) l.toArray 0 l.toArray.size (Lib.bitLen l.toArray.size) true true) hds
                have hrun := stores_of_holds Try.prog hHn 0 (entL (srtE l)) (by rw [entL_len, size_flatK]; unfold srtE; rw [Array.length_toList]; exact Nat.le_of_eq (by rw [show (pdq (fun x y : E3 => decide (cmpE x y < 0)) l.toArray 0 l.toArray.size (Lib.bitLen l.toArray.size) true true).size = l.length from hds]; simp)) (fun v hv => by
                  have := List.all_eq_true.1 (entL_one (srtE l)) v hv
                  exact this)
                rw [Nat.add_zero] at hrun
                rw [show (storeCells ⟨l0.cb, l0.s + o, none⟩ (entL (srtE l))).run Try.prog (w.drewN m) = Sem.run Try.prog (storeCells ⟨l0.cb, l0.s + o, none⟩ (entL (srtE l)) 0) (w.drewN m) from rfl, hrun] at hw2
                cases hw2
                have e3 : w' = grow ((w.drewN m).setCells l0.cb (l0.s + o) (entL (srtE l))) os := by
                  rw [h3]
                  unfold sortWorldK
                  congr 1
                  rw [show n = l.toArray.size by simpa using hln.symm]
                  exact e2.symm
                rw [e3]
                exact (hp2.drewN m).grown os
            · cases hv
          · cases hv
        · cases hv
    · cases hv
  · cases hv
instance : XtOk Try.prog := ⟨fun f g hX args h v h' hv => by obtain ⟨_, rfl⟩ := xt_inv hX; exact sortX_grow _ _ _ _ _ hv, fun base f g hX args h v h' E w args' hv hR ha _ => by obtain ⟨rfl, rfl⟩ := xt_inv hX; exact sort_sound base args h v h' E w args' hv hR ha⟩

end Go.Am
