/- What the functions answer, in the machine. -/
import Derived.Test.YtclpkcampbhbdaaDoorKD
import Derived.Shelf.SlSortCmp.NoneTotal
import Derived.Shelf.Spec.TrailingZeros
set_option linter.all false
namespace Go.Am
open Go.Proofs
set_option maxRecDepth 100000
set_option linter.all false
attribute [local congr] obind_congr obH_congr cnd_congr chk_congr retK_congr codeK_congr
def joinE (own hd : List E3) : List E3 := if goodE own = true ∧ goodE hd = true then srtE (newsE own hd ++ newsE hd own ++ bothE own hd) else own
theorem wide_news {a b : List E3} (w : wide a) : wide (newsE a b) := fun e he => w e (List.mem_filter.1 he).1
theorem wide_both {a b : List E3} (w : wide a) : wide (bothE a b) := fun e he => by
  obtain ⟨x, hx, h⟩ := List.mem_filterMap.1 he
  unfold bothF at h
  split at h
  · cases h
    exact ⟨(w x hx).1, Nat.lt_of_le_of_lt Nat.and_le_left (w x hx).2⟩
  · cases h
theorem wide_join {a b : List E3} (w : wide a) (w2 : wide b) : wide (joinE a b) := by
  unfold joinE
  split
  · intro e he
    have := (srtE_perm _).subset he
    rcases List.mem_append.1 this with h | h
    · rcases List.mem_append.1 h with h | h
      · exact wide_news w e h
      · exact wide_news w2 e h
    · exact wide_both w e h
  · exact w
theorem spec_Join {h : Heap} {v w : Value} {es fs : List E3} (s : SE h v es) (s2 : SE h w fs) (hw : wide es) (hw2 : wide fs) (hl : es.length < 2 ^ 36) (hl2 : fs.length < 2 ^ 36) :
    ∃ a c h', evC Tryd.prog 51 #[.agg #[v], .agg #[w]] h = some (.agg #[.slice a (joinE es fs).length c], h') ∧ HExt h h' ∧ AE h.blks.length h' (.slice a (joinE es fs).length c) (joinE es fs) := by
  rw [call51]
  have c1 := ((Cells.new (nm h) 65 [v]).keepNew (.cells [w]) 65).keepNew (.cells [.slice none 0 0]) 65
  have c2 := (Cells.new ((nm h).new (.cells [v]) 65) 65 [w]).keepNew (.cells [.slice none 0 0]) 65
  have c3 := Cells.new (((nm h).new (.cells [v]) 65).new (.cells [w]) 65) 65 [.slice none 0 0]
  have s1' : SE ((((nm h).new (.cells [v]) 65).new (.cells [w]) 65).new (.cells [.slice none 0 0]) 65) v es := ((s.nm.keepNew _ _).keepNew _ _).keepNew _ _
  have s2' : SE ((((nm h).new (.cells [v]) 65).new (.cells [w]) 65).new (.cells [.slice none 0 0]) 65) w fs := ((s2.nm.keepNew _ _).keepNew _ _).keepNew _ _
  have e0 : (nm h).blks.length = h.blks.length := rfl
  have e1 : ((nm h).new (.cells [v]) 65).blks.length = h.blks.length + 1 := by simp [Heap.new]
  have e2 : (((nm h).new (.cells [v]) 65).new (.cells [w]) 65).blks.length = h.blks.length + 2 := by simp [Heap.new]
  have k2 : In h.blks.length No (nm h) ((((nm h).new (.cells [v]) 65).new (.cells [w]) 65).new (.cells [.slice none 0 0]) 65) := ((In.new (h := nm h) (Nat.le_refl h.blks.length) _ _).trans (In.new (by omega) _ _)).trans (In.new (by omega) _ _)
  have hlen : ((((nm h).new (.cells [v]) 65).new (.cells [w]) 65).new (.cells [.slice none 0 0]) 65).blks.length = h.blks.length + 3 := by simp [Heap.new]
  rw [e0] at c1
  rw [e1] at c2
  rw [e2] at c3
  generalize hh : ((((nm h).new (.cells [v]) 65).new (.cells [w]) 65).new (.cells [.slice none 0 0]) 65) = h2 at c1 c2 c3 s1' s2' k2 hlen
  have lv : ∀ {h' : Heap}, Same h2 h' → (h'.loadN h.blks.length 0 1).map (fun cs => Value.agg cs.toArray) = some (.agg #[v]) := fun hs => by rw [(c1.same hs).loadN (n := 1) rfl]; rfl
  have lw : ∀ {h' : Heap}, Same h2 h' → (h'.loadN (h.blks.length + 1) 0 1).map (fun cs => Value.agg cs.toArray) = some (.agg #[w]) := fun hs => by rw [(c2.same hs).loadN (n := 1) rfl]; rfl
  obtain ⟨h3, q3,Ad⟩ := spec_Good s1' hw (by omega)
  have s3 := Ad.same
  have hx3 := Ad.len
  have k3 := k2.trans (Ad.inn (by omega))
  -- a log that may not be: its copy
  have bad : ∀ {h4 : Heap}, Same h2 h4 → In h.blks.length No (nm h) h4 → ∃ a c h5 h6, evC Tryd.prog 61 #[.agg #[v]] h4 = some (.agg #[.slice a es.length c], h5) ∧ storeV Tryd.prog 65 (.pointer (some ⟨h.blks.length + 2, 0, none⟩)) (.agg #[.slice a es.length c]) h5 = some h6 ∧ (h6.loadN (h.blks.length + 2) 0 1).map (fun cs => Value.agg cs.toArray) = some (.agg #[.slice a es.length c]) ∧ In h.blks.length No (nm h) h6 ∧ AE h.blks.length h6 (.slice a es.length c) es := fun {h4} hs hk => by
    obtain ⟨a, c, h5, g1, g2, g3⟩ := spec_clone (s1'.same hs) (by omega)
    have d5 := (c3.same hs).ext g2
    have d6 := d5.put [.slice a es.length c]
    have hs' := hs.1
    have hg2 := g2.len
    refine ⟨a, c, h5, h5.put (h.blks.length + 2) (.cells [.slice a es.length c]), g1, ?_, ?_, (hk.trans (g2.inn (by omega))).trans (In.put (by omega) (.inl (by omega)) _), (Acc.keepPut g3 (fun e => by have := Acc.ge g3 e; omega) _).up (by omega)⟩
    · rw [stL, storeN_blk d5 (by simp)]; rfl
    · rw [d6.loadN (n := 1) rfl]; rfl
  cases hg : goodE es with
  | false =>
    rw [hg] at q3
    obtain ⟨a, c, h5, h6, g1, g2, g3, g4, g5⟩ := bad s3 k3
    have hj : joinE es fs = es := by unfold joinE; rw [if_neg (by simp [hg])]
    rw [hj]
    refine ⟨a, c, _, ?_, done_ext' g4, g5.done⟩
    simp -implicitDefEqProofs (disch := omega) only [↓c51_0_eq, bxL, alL, e0, e1, e2, hh, ldL, lv (Same.refl _), q3, lv s3, g1, g2, g3, rvals, ↓ret51, ↓cnd_true, ↓cnd_false, ↓Option.bind_some, ↓obH_some', bin_add, bin_sub, bin_mul, bin_lss, bin_leq, bin_gtr, bin_geq, bin_eql, bin_neq, un_not, un_neg, Option.bind_some, Option.bind_none, Option.map_some, cnd_true, cnd_false, pickV_true, pickV_false, gd_true, gd_false, gdV_true, gdV_false, gdH_true, gdH_false, gdS_true, gdS_false, wt_ff, wt_tt, wt_ft, wt_tf, wt_undef, obH_some', extractV_tuple, nilCheckV_ptr, againK_normal, againK_exit, againK_ret, blockK_normal, blockK_same, blockK_ret, seqK_normal, seqK_exit, seqK_ret, fin_done, if_true', if_false', Bool.not_true, Bool.not_false, idx0, idx1, idx2, idx3, idx4, chk_nil_l, chk_nil_r, done_nm, up_cons, up_nil, cond_true, cond_false, Nat.reduceBEq]
  | true =>
    rw [hg] at q3
    obtain ⟨h4, q4,Ae⟩ := spec_Good (s2'.same s3) hw2 (by omega)
    have s4 := s3.trans Ae.same
    have hx4 := Ae.len
    have k4 := k3.trans (Ae.inn (by omega))
    cases hg2 : goodE fs with
    | false =>
      rw [hg2] at q4
      obtain ⟨a, c, h5, h6, g1, g2, g3, g4, g5⟩ := bad s4 k4
      have hj : joinE es fs = es := by unfold joinE; rw [if_neg (by simp [hg2])]
      rw [hj]
      refine ⟨a, c, _, ?_, done_ext' g4, g5.done⟩
      simp -implicitDefEqProofs (disch := omega) only [↓c51_0_eq, bxL, alL, e0, e1, e2, hh, ldL, lv (Same.refl _), q3, lw s3, q4, lv s4, g1, g2, g3, rvals, ↓ret51, ↓cnd_true, ↓cnd_false, ↓Option.bind_some, ↓obH_some', bin_add, bin_sub, bin_mul, bin_lss, bin_leq, bin_gtr, bin_geq, bin_eql, bin_neq, un_not, un_neg, Option.bind_some, Option.bind_none, Option.map_some, cnd_true, cnd_false, pickV_true, pickV_false, gd_true, gd_false, gdV_true, gdV_false, gdH_true, gdH_false, gdS_true, gdS_false, wt_ff, wt_tt, wt_ft, wt_tf, wt_undef, obH_some', extractV_tuple, nilCheckV_ptr, againK_normal, againK_exit, againK_ret, blockK_normal, blockK_same, blockK_ret, seqK_normal, seqK_exit, seqK_ret, fin_done, if_true', if_false', Bool.not_true, Bool.not_false, idx0, idx1, idx2, idx3, idx4, chk_nil_l, chk_nil_r, done_nm, up_cons, up_nil, cond_true, cond_false, Nat.reduceBEq]
    | true =>
      rw [hg2] at q4
      have g1 := ((goodE_iff es).1 hg).2
      have g2 := ((goodE_iff fs).1 hg2).2
      obtain ⟨a5, c5, h5, q5,Af, r5⟩ := spec_news (h := nm h4) (s1'.same s4).nm (s2'.same s4).nm g2 (by omega) (by omega)
      obtain ⟨Af', m5⟩ := Af.amx
      have r5' : AE h4.blks.length (am h5 h4) (.slice a5 (newsE es fs).length c5) (newsE es fs) := Acc.keep r5 fun _ _ _ => rfl
      have s5 := s4.trans Af'.same
      have hx5 := Af'.len
      obtain ⟨a6, c6, h6, q6,Ag, r6⟩ := spec_news (h := am h5 h4) (s2'.same s5) (s1'.same s5) g1 (by omega) (by omega)
      have s6 := s5.trans Ag.same
      have hx6 := Ag.len
      have nl : ∀ a b, (newsE a b).length ≤ a.length := fun a b => List.length_filter_le _ _
      have n1 := nl es fs
      have n2 := nl fs es
      obtain ⟨a7, c7, h7, q7, r7,Ah, o7, _⟩ := app_ents etE etE.under (n0 := h4.blks.length) (h := h6) (by omega) (Acc.same r5' Ag.same) (AE.se r6) (by omega)
      have k7 := (((k4.trans (Af'.inn (by omega))).trans (Ag.inn (by omega))).trans (Keeps.inn (S := No) (Ah.dn (by omega))))
      have s7 : Same h2 h7 := ⟨by have := Ah.len; omega, fun q hq => (o7 q (by omega) (Acc.off r5' (n1 := h2.blks.length) (by omega) hq)).trans (s6.2 q hq)⟩
      have l7 : h7.load1 h.blks.length 0 = some v := (c1.same s7).load 0
      have hj : joinE es fs = srtE (newsE es fs ++ newsE fs es ++ bothE es fs) := by unfold joinE; rw [if_pos ⟨hg, hg2⟩]
      rw [hj]
      obtain ⟨va, vc, rfl⟩ := s.shape
      have hlt7 := s7.1
      have r7' : AE h4.blks.length h7 (.slice a7 (newsE es fs ++ newsE fs es ++ bothE (es.take 0) fs).length c7) (newsE es fs ++ newsE fs es ++ bothE (es.take 0) fs) := by
        rw [List.take_zero]; show AE _ _ (.slice a7 (newsE es fs ++ newsE fs es ++ []).length c7) (newsE es fs ++ newsE fs es ++ []); rw [List.append_nil]; exact r7
      have lp := join_loop (h0 := h) (h1 := h7) (p1 := h.blks.length + 1) (p2 := h.blks.length + 2) (pre := newsE es fs ++ newsE fs es) (s1'.same s7) (s2'.same s7) g2 hw hw2 (by omega) (by omega) (by rw [List.length_append]; omega) (by omega) (c2.same s7) (c3.same s7) (by omega) (srtE_len _) h4.blks.length (by omega) (by have := Ah.len; omega) (fun b hb => by have := Sl.lt s1' hb; omega) (fun b hb => by have := Sl.lt s2' hb; omega) (by omega) (by omega) es.length 0 (by omega) (by omega)
      have fin' : ∀ {r : Option (Value × Heap)}, (∃ a c h', r = some (.agg #[.slice a (srtE (newsE es fs ++ newsE fs es ++ bothE es fs)).length c], done h h') ∧ In h.blks.length No (nm h) h' ∧ AE h4.blks.length h' (.slice a (srtE (newsE es fs ++ newsE fs es ++ bothE es fs)).length c) (srtE (newsE es fs ++ newsE fs es ++ bothE es fs))) → ∃ a c h', r = some (.agg #[.slice a (srtE (newsE es fs ++ newsE fs es ++ bothE es fs)).length c], h') ∧ HExt h h' ∧ AE h.blks.length h' (.slice a (srtE (newsE es fs ++ newsE fs es ++ bothE es fs)).length c) (srtE (newsE es fs ++ newsE fs es ++ bothE es fs)) := fun ⟨a, c, h', g1, g2, g3⟩ => ⟨a, c, _, g1, done_ext' g2, (Acc.up g3 (by omega)).done⟩
      simp -implicitDefEqProofs (disch := omega) only [↓c51_0_eq, bxL, alL, e0, e1, e2, hh, ldL, lv (Same.refl _), q3, lw s3, q4, lv s4, lw s4, q5, m5, lw s5, lv s5, q6, q7, List.nil_append, faL, ldEs, l7, lnEs, ↓cnd_true, ↓cnd_false, ↓Option.bind_some, ↓obH_some', bin_add, bin_sub, bin_mul, bin_lss, bin_leq, bin_gtr, bin_geq, bin_eql, bin_neq, un_not, un_neg, Option.bind_some, Option.bind_none, Option.map_some, cnd_true, cnd_false, pickV_true, pickV_false, gd_true, gd_false, gdV_true, gdV_false, gdH_true, gdH_false, gdS_true, gdS_false, wt_ff, wt_tt, wt_ft, wt_tf, wt_undef, obH_some', extractV_tuple, nilCheckV_ptr, againK_normal, againK_exit, againK_ret, blockK_normal, blockK_same, blockK_ret, seqK_normal, seqK_exit, seqK_ret, fin_done, if_true', if_false', Bool.not_true, Bool.not_false, idx0, idx1, idx2, idx3, idx4, chk_nil_l, chk_nil_r, done_nm, up_cons, up_nil, cond_true, cond_false, Nat.reduceBEq]
      refine fin' (lp _ _ a7 c7 k7 (fun _ _ => rfl) (Nat.le_refl _) r7' ?_ ?_ ?_ ?_ ?_ ?_)
      · rfl
      · rfl
      · rw [List.take_zero]; show Value.slice a7 (newsE es fs ++ newsE fs es).length c7 = Value.slice a7 (newsE es fs ++ newsE fs es ++ []).length c7; rw [List.append_nil]
      all_goals rfl
end Go.Am
namespace Go.Am
open Go.Proofs
set_option maxRecDepth 100000
set_option linter.all false
attribute [local congr] obind_congr obH_congr cnd_congr chk_congr retK_congr codeK_congr
def purgeL : List E3 → List E3
  | [] => []
  | [e] => [e]
  | e :: e' :: l => if e.t ≠ 0 ∨ e'.f ≠ e.f then e :: purgeL (e' :: l) else purgeL (e' :: l)
theorem purgeL_two (e e' : E3) (l : List E3) : purgeL (e :: e' :: l) = if e.t ≠ 0 ∨ e'.f ≠ e.f then e :: purgeL (e' :: l) else purgeL (e' :: l) := by rw [purgeL]
theorem purgeL_len : ∀ l : List E3, (purgeL l).length ≤ l.length
  | [] => Nat.le_refl _
  | [e] => Nat.le_refl _
  | e :: e' :: l => by
    have := purgeL_len (e' :: l)
    unfold purgeL
    split
    · simp at *; omega
    · simp at *; omega
def purgeE (es : List E3) : List E3 := if goodE es then purgeL es else es
theorem purge_loop {h0 h1 : Heap} {v : Value} {es : List E3} {p1 p2 : Nat} (s : SE h1 v es) (hl : es.length < 2 ^ 38) (c1 : Cells h1 p1 65 [v]) (c2 : Cells h1 p2 65 [.slice none 0 0]) (hp2 : h0.blks.length ≤ p2) (hn1 : p2 < h1.blks.length) (hn0 : h0.blks.length ≤ h1.blks.length) :
    ∀ (m i : Nat), es.length - i = m → i ≤ es.length → ∀ (x : Nat → Value) (h : Heap) (a : Option Addr) (c : Nat) (o : List E3),In h0.blks.length No (nm h0) h → Same h1 h → AE h1.blks.length h (.slice a o.length c) o → o ++ purgeL (es.drop i) = purgeL es →
    x 1 = .pointer (some ⟨p1, 0, none⟩) → x 2 = .pointer (some ⟨p2, 0, none⟩) → x 3 = .slice a o.length c → x 13 = v → x 14 = .int .i64 es.length → x 15 = .int .i64 i →
    ∃ a' c' h', lK c37_1 50 x h (blockK 0 (sK c37_2 (retK Tryd.f37 Tryd.prog h0))) = some (.agg #[.slice a' (purgeL es).length c'], done h0 h') ∧ In h0.blks.length No (nm h0) h' ∧ AE h1.blks.length h' (.slice a' (purgeL es).length c') (purgeL es) := by
  intro m
  have hpl := purgeL_len es
  induction m with
  | zero =>
    intro i e1 e2 x h a c o hin hs ha ho Ab Ac Ad Ao Ap Aq
    obtain rfl : i = es.length := by omega
    rw [List.drop_length] at ho
    simp only [purgeL, List.append_nil] at ho
    subst ho
    have c2' := c2.same hs
    have c5 := c2'.put [.slice a (purgeL es).length c]
    have hb : blockOf (.slice a (purgeL es).length c) ≠ some p2 := fun e => by have := Acc.ge ha e; omega
    have l5 : (Heap.loadN (h.put p2 (.cells [.slice a (purgeL es).length c])) p2 0 1).map (fun cs => Value.agg cs.toArray) = some (.agg #[.slice a (purgeL es).length c]) := by rw [c5.loadN (n := 1) rfl]; rfl
    have i5 := hin.trans (In.put (S := No) (Nat.le_trans hin.le hin.len) (p := p2) (.inl hp2) (.cells [.slice a (purgeL es).length c]))
    rw [lK_eq]
    refine ⟨a, c, _, ?_, i5, ha.keepPut hb _⟩
    simp -implicitDefEqProofs (disch := omega) only [↓c37_1_eq, ↓c37_2_eq,Ab,Ac,Ad,Ao,Ap,Aq, dcF, bdL, stL, storeN_blk c2' (o := 0) (vs := [.slice a (purgeL es).length c]) (by simp), List.take_zero, List.nil_append, List.append_nil, List.length_cons, List.length_nil, List.drop_succ_cons, List.drop_zero, Nat.zero_add, ldL, l5, rvals, ↓ret37, ↓cnd_true, ↓cnd_false, ↓Option.bind_some, ↓obH_some', bin_add, bin_sub, bin_mul, bin_lss, bin_leq, bin_gtr, bin_geq, bin_eql, bin_neq, un_not, un_neg, Option.bind_some, Option.bind_none, Option.map_some, cnd_true, cnd_false, pickV_true, pickV_false, gd_true, gd_false, gdV_true, gdV_false, gdH_true, gdH_false, gdS_true, gdS_false, wt_ff, wt_tt, wt_ft, wt_tf, wt_undef, obH_some', extractV_tuple, nilCheckV_ptr, againK_normal, againK_exit, againK_ret, blockK_normal, blockK_same, blockK_ret, seqK_normal, seqK_exit, seqK_ret, fin_done, if_true', if_false', Bool.not_true, Bool.not_false, idx0, idx1, idx2, idx3, idx4, chk_nil_l, chk_nil_r, done_nm, up_cons, up_nil, cond_true, cond_false, Nat.reduceBEq]
  | succ m ih =>
    intro i hm hi x h a c o hin hs ha ho Ab Ac Ad Ao Ap Aq
    have hil : i < es.length := by omega
    obtain ⟨b, of, hb, hbl, e1, e2⟩ := s.at' (t := 63) (el := 68) (by kernel_rfl) (by kernel_rfl) hil
    obtain ⟨f1, f2, f3, f4⟩ := e2 h (hs.2 b hbl)
    have hnh : h1.blks.length ≤ h.blks.length := hs.1
    obtain ⟨hA, hB, a1, a2, a3, a4, a5, a6⟩ := var_ent (n0 := h1.blks.length) hnh es[i]
    have hsB := hs.trans a5
    have hinB := hin.trans (In.dn (a4 No) hn0)
    have lB : hB.load1 p1 0 = some v := (c1.same hsB).load 0
    have lf : hB.load1 h.blks.length 0 = some (.int .i64 es[i].f) := a3.load 0
    have lt : hB.load1 h.blks.length (0 + 2) = some (.int .u64 es[i].t) := a3.load 2
    obtain ⟨va, vc, rfl⟩ := s.shape
    have wi : IntKind.i64.wrap ((i : Int) + 1) = ((i + 1 : Nat) : Int) := by rw [wrap_i64] <;> omega
    have wl : IntKind.i64.wrap ((es.length : Int) - 1) = ((es.length - 1 : Nat) : Int) := by rw [wrap_i64] <;> omega
    have hol : o.length < 2 ^ 39 := by
      have := congrArg List.length ho
      rw [List.length_append] at this; omega
    obtain ⟨a', c', hD, q1, q2, q3, q4⟩ := app_ent etE (n0 := h1.blks.length) (Nat.le_trans hnh a5.1) (ha.same a5) es[i] hol
    have hsD : Same h1 hD := ⟨Nat.le_trans hsB.1 q3.len, fun q hq => (q4 q (Nat.lt_of_lt_of_le hq hsB.1) (fun e => by have := Acc.ge ha e; omega)).trans (hsB.2 q hq)⟩
    have hinD := hinB.trans (Keeps.inn (S := No) (q3.dn hn0))
    by_cases hlast : i + 1 = es.length
    · have ho' : (o ++ [es[i]]) ++ purgeL (es.drop (i + 1)) = purgeL es := by
        rw [← ho, List.drop_eq_getElem_cons hil, hlast, List.drop_length]; simp [purgeL]
      have d1 : decide ((i : Int) = ((es.length - 1 : Nat) : Int)) = true := decide_eq_true (by omega)
      by_cases ht : es[i].t = 0
      · have d0 : decide ((es[i].t : Int) ≠ 0) = false := decide_eq_false (by omega)
        rw [lK_eq]
        simp -implicitDefEqProofs (disch := omega) only [↓c37_1_eq, ↓c37_2_eq,Ab,Ac,Ad,Ao,Ap,Aq, dcT, e1, ldE, f1, Option.map_some, entA, a1, a2, a6, faE0, faE2, ldS, lt, d0, faL, ldEs, lB, lnEs, wl, d1, bsE, q1, wi, ↓cnd_true, ↓cnd_false, ↓Option.bind_some, ↓obH_some', bin_add, bin_sub, bin_mul, bin_lss, bin_leq, bin_gtr, bin_geq, bin_eql, bin_neq, un_not, un_neg, Option.bind_some, Option.bind_none, Option.map_some, cnd_true, cnd_false, pickV_true, pickV_false, gd_true, gd_false, gdV_true, gdV_false, gdH_true, gdH_false, gdS_true, gdS_false, wt_ff, wt_tt, wt_ft, wt_tf, wt_undef, obH_some', extractV_tuple, nilCheckV_ptr, againK_normal, againK_exit, againK_ret, blockK_normal, blockK_same, blockK_ret, seqK_normal, seqK_exit, seqK_ret, fin_done, if_true', if_false', Bool.not_true, Bool.not_false, idx0, idx1, idx2, idx3, idx4, chk_nil_l, chk_nil_r, done_nm, up_cons, up_nil, cond_true, cond_false, Nat.reduceBEq]
        exact ih (i + 1) (by omega) (by omega) (up _ _) hD a' c' _ hinD hsD q2 ho' Ab Ac rfl Ao Ap rfl
      · have d0 : decide ((es[i].t : Int) ≠ 0) = true := decide_eq_true (by omega)
        rw [lK_eq]
        simp -implicitDefEqProofs (disch := omega) only [↓c37_1_eq, ↓c37_2_eq,Ab,Ac,Ad,Ao,Ap,Aq, dcT, e1, ldE, f1, Option.map_some, entA, a1, a2, a6, faE0, faE2, ldS, lt, d0, faL, ldEs, lB, lnEs, wl, d1, bsE, q1, wi, ↓cnd_true, ↓cnd_false, ↓Option.bind_some, ↓obH_some', bin_add, bin_sub, bin_mul, bin_lss, bin_leq, bin_gtr, bin_geq, bin_eql, bin_neq, un_not, un_neg, Option.bind_some, Option.bind_none, Option.map_some, cnd_true, cnd_false, pickV_true, pickV_false, gd_true, gd_false, gdV_true, gdV_false, gdH_true, gdH_false, gdS_true, gdS_false, wt_ff, wt_tt, wt_ft, wt_tf, wt_undef, obH_some', extractV_tuple, nilCheckV_ptr, againK_normal, againK_exit, againK_ret, blockK_normal, blockK_same, blockK_ret, seqK_normal, seqK_exit, seqK_ret, fin_done, if_true', if_false', Bool.not_true, Bool.not_false, idx0, idx1, idx2, idx3, idx4, chk_nil_l, chk_nil_r, done_nm, up_cons, up_nil, cond_true, cond_false, Nat.reduceBEq]
        exact ih (i + 1) (by omega) (by omega) (up _ _) hD a' c' _ hinD hsD q2 ho' Ab Ac rfl Ao Ap rfl
    · have hin1 : i + 1 < es.length := by omega
      have d1 : decide ((i : Int) = ((es.length - 1 : Nat) : Int)) = false := decide_eq_false (by omega)
      obtain ⟨b', of', hb', hbl', e1', e2'⟩ := s.at' (t := 63) (el := 68) (by kernel_rfl) (by kernel_rfl) hin1
      obtain ⟨_, f2', _⟩ := e2' hB (hsB.2 b' hbl')
      have hdr : es.drop i = es[i] :: es[i + 1] :: es.drop (i + 2) := by rw [List.drop_eq_getElem_cons hil, List.drop_eq_getElem_cons hin1]
      by_cases hk : es[i].t ≠ 0 ∨ es[i + 1].f ≠ es[i].f
      · have ho' : (o ++ [es[i]]) ++ purgeL (es.drop (i + 1)) = purgeL es := by
          rw [← ho, hdr, List.drop_eq_getElem_cons hin1, purgeL_two es[i], if_pos hk, List.append_assoc]; rfl
        by_cases ht : es[i].t = 0
        · have hf : es[i + 1].f ≠ es[i].f := hk.resolve_left (fun h => h ht)
          have d0 : decide ((es[i].t : Int) ≠ 0) = false := decide_eq_false (by omega)
          rw [lK_eq]
          simp -implicitDefEqProofs (disch := omega) only [↓c37_1_eq, ↓c37_2_eq,Ab,Ac,Ad,Ao,Ap,Aq, dcT, e1, ldE, f1, Option.map_some, entA, a1, a2, a6, faE0, faE2, ldS, lt, d0, faL, ldEs, lB, lnEs, wl, d1, wi, e1', ldI, f2', lf, decide_eq_true hf, bsE, q1, ↓cnd_true, ↓cnd_false, ↓Option.bind_some, ↓obH_some', bin_add, bin_sub, bin_mul, bin_lss, bin_leq, bin_gtr, bin_geq, bin_eql, bin_neq, un_not, un_neg, Option.bind_some, Option.bind_none, Option.map_some, cnd_true, cnd_false, pickV_true, pickV_false, gd_true, gd_false, gdV_true, gdV_false, gdH_true, gdH_false, gdS_true, gdS_false, wt_ff, wt_tt, wt_ft, wt_tf, wt_undef, obH_some', extractV_tuple, nilCheckV_ptr, againK_normal, againK_exit, againK_ret, blockK_normal, blockK_same, blockK_ret, seqK_normal, seqK_exit, seqK_ret, fin_done, if_true', if_false', Bool.not_true, Bool.not_false, idx0, idx1, idx2, idx3, idx4, chk_nil_l, chk_nil_r, done_nm, up_cons, up_nil, cond_true, cond_false, Nat.reduceBEq]
          exact ih (i + 1) (by omega) (by omega) (up _ _) hD a' c' _ hinD hsD q2 ho' Ab Ac rfl Ao Ap rfl
        · have d0 : decide ((es[i].t : Int) ≠ 0) = true := decide_eq_true (by omega)
          rw [lK_eq]
          simp -implicitDefEqProofs (disch := omega) only [↓c37_1_eq, ↓c37_2_eq,Ab,Ac,Ad,Ao,Ap,Aq, dcT, e1, ldE, f1, Option.map_some, entA, a1, a2, a6, faE0, faE2, ldS, lt, d0, bsE, q1, wi, ↓cnd_true, ↓cnd_false, ↓Option.bind_some, ↓obH_some', bin_add, bin_sub, bin_mul, bin_lss, bin_leq, bin_gtr, bin_geq, bin_eql, bin_neq, un_not, un_neg, Option.bind_some, Option.bind_none, Option.map_some, cnd_true, cnd_false, pickV_true, pickV_false, gd_true, gd_false, gdV_true, gdV_false, gdH_true, gdH_false, gdS_true, gdS_false, wt_ff, wt_tt, wt_ft, wt_tf, wt_undef, obH_some', extractV_tuple, nilCheckV_ptr, againK_normal, againK_exit, againK_ret, blockK_normal, blockK_same, blockK_ret, seqK_normal, seqK_exit, seqK_ret, fin_done, if_true', if_false', Bool.not_true, Bool.not_false, idx0, idx1, idx2, idx3, idx4, chk_nil_l, chk_nil_r, done_nm, up_cons, up_nil, cond_true, cond_false, Nat.reduceBEq]
          exact ih (i + 1) (by omega) (by omega) (up _ _) hD a' c' _ hinD hsD q2 ho' Ab Ac rfl Ao Ap rfl
      · have ht : es[i].t = 0 := Classical.byContradiction fun h => hk (.inl h)
        have hf : es[i + 1].f = es[i].f := Classical.byContradiction fun h => hk (.inr h)
        have d0 : decide ((es[i].t : Int) ≠ 0) = false := decide_eq_false (by omega)
        have d2 : decide (es[i + 1].f ≠ es[i].f) = false := decide_eq_false (fun h => h hf)
        have ho' : o ++ purgeL (es.drop (i + 1)) = purgeL es := by
          rw [← ho, hdr, List.drop_eq_getElem_cons hin1, purgeL_two es[i], if_neg hk]
        rw [lK_eq]
        simp -implicitDefEqProofs (disch := omega) only [↓c37_1_eq, ↓c37_2_eq,Ab,Ac,Ad,Ao,Ap,Aq, dcT, e1, ldE, f1, Option.map_some, entA, a1, a2, a6, faE0, faE2, ldS, lt, d0, faL, ldEs, lB, lnEs, wl, d1, wi, e1', ldI, f2', lf, d2, ↓cnd_true, ↓cnd_false, ↓Option.bind_some, ↓obH_some', bin_add, bin_sub, bin_mul, bin_lss, bin_leq, bin_gtr, bin_geq, bin_eql, bin_neq, un_not, un_neg, Option.bind_some, Option.bind_none, Option.map_some, cnd_true, cnd_false, pickV_true, pickV_false, gd_true, gd_false, gdV_true, gdV_false, gdH_true, gdH_false, gdS_true, gdS_false, wt_ff, wt_tt, wt_ft, wt_tf, wt_undef, obH_some', extractV_tuple, nilCheckV_ptr, againK_normal, againK_exit, againK_ret, blockK_normal, blockK_same, blockK_ret, seqK_normal, seqK_exit, seqK_ret, fin_done, if_true', if_false', Bool.not_true, Bool.not_false, idx0, idx1, idx2, idx3, idx4, chk_nil_l, chk_nil_r, done_nm, up_cons, up_nil, cond_true, cond_false, Nat.reduceBEq]
        exact ih (i + 1) (by omega) (by omega) (up _ _) hB a c _ hinB hsB (ha.same a5) ho' Ab Ac Ad Ao Ap rfl
theorem spec_Purge {h : Heap} {v : Value} {es : List E3} (s : SE h v es) (hw : wide es) (hl : es.length < 2 ^ 38) :
    ∃ a c h', evC Tryd.prog 37 #[.agg #[v]] h = some (.agg #[.slice a (purgeE es).length c], h') ∧ HExt h h' ∧ AE h.blks.length h' (.slice a (purgeE es).length c) (purgeE es) := by
  rw [call37]
  have c1 := (Cells.new (nm h) 65 [v]).keepNew (.cells [.slice none 0 0]) 65
  have c2 := Cells.new ((nm h).new (.cells [v]) 65) 65 [.slice none 0 0]
  have s2 : SE (((nm h).new (.cells [v]) 65).new (.cells [.slice none 0 0]) 65) v es := (s.nm.keepNew _ _).keepNew _ _
  have k2 : In h.blks.length No (nm h) (((nm h).new (.cells [v]) 65).new (.cells [.slice none 0 0]) 65) := (In.new (h := nm h) (Nat.le_refl h.blks.length) _ _).trans (In.new (by simp [Heap.new]) _ _)
  have e0 : (nm h).blks.length = h.blks.length := rfl
  have e1 : ((nm h).new (.cells [v]) 65).blks.length = h.blks.length + 1 := by simp [Heap.new]
  rw [e0] at c1
  rw [e1] at c2
  have hlen : (((nm h).new (.cells [v]) 65).new (.cells [.slice none 0 0]) 65).blks.length = h.blks.length + 2 := by simp [Heap.new]
  generalize hh : (((nm h).new (.cells [v]) 65).new (.cells [.slice none 0 0]) 65) = h2 at c1 c2 s2 k2 hlen
  have lA : (h2.loadN h.blks.length 0 1).map (fun cs => Value.agg cs.toArray) = some (.agg #[v]) := by rw [c1.loadN (n := 1) rfl]; rfl
  obtain ⟨a, c, h3, e3,Ad, a3⟩ := spec_clone s2 (by omega)
  have c3 := c1.ext Ad
  have d3 := c2.ext Ad
  have hx3 := Ad.len
  have b1 : blockOf (.slice a es.length c) ≠ some h.blks.length := fun e => by have := a3.ge e; omega
  have b2 : blockOf (.slice a es.length c) ≠ some (h.blks.length + 1) := fun e => by have := a3.ge e; omega
  have c4 := c3.put [.slice a es.length c]
  have d4 : Cells (h3.put h.blks.length (.cells [.slice a es.length c])) (h.blks.length + 1) 65 [.slice none 0 0] := d3.keepPut (by omega) _
  have a4 : AE h.blks.length (h3.put h.blks.length (.cells [.slice a es.length c])) (.slice a es.length c) es := (a3.keepPut b1 _).up (by omega)
  have k4 := (k2.trans (Ad.inn (by omega))).trans (In.put (S := No) (by omega) (p := h.blks.length) (.inl (by omega)) (.cells [.slice a es.length c]))
  have hs4 := storeN_blk c3 (o := 0) (vs := [.slice a es.length c]) (by simp)
  have hl4 : (h3.put h.blks.length (.cells [.slice a es.length c])).blks.length = h3.blks.length := Heap.put_len _ _ _
  simp only [List.take_zero, List.nil_append, List.append_nil, List.length_cons, List.length_nil, List.drop_succ_cons, List.drop_zero, Nat.zero_add] at hs4
  generalize hh4 : h3.put h.blks.length (.cells [.slice a es.length c]) = h4 at c4 d4 a4 k4 hs4 hl4
  have l4 : (h4.loadN h.blks.length 0 1).map (fun cs => Value.agg cs.toArray) = some (.agg #[.slice a es.length c]) := by rw [c4.loadN (n := 1) rfl]; rfl
  obtain ⟨h5, e5,Af⟩ := spec_Good a4.se hw (by omega)
  have c5 := c4.ext Af
  have d5 := d4.ext Af
  have hx5 := Af.len
  have a5 : AE h.blks.length h5 (.slice a es.length c) es := a4.same Af.same
  have k5 := k4.trans (Af.inn (Nat.le_trans k4.le k4.len))
  have l5 : (h5.loadN h.blks.length 0 1).map (fun cs => Value.agg cs.toArray) = some (.agg #[.slice a es.length c]) := by rw [c5.loadN (n := 1) rfl]; rfl
  have l5' : h5.load1 h.blks.length 0 = some (.slice a es.length c) := c5.load 0
  unfold purgeE
  cases hg : goodE es with
  | false =>
    rw [hg] at e5
    refine ⟨a, c, ?_⟩
    have d6 := d5.put [.slice a es.length c]
    have l6 : (Heap.loadN (h5.put (h.blks.length + 1) (.cells [.slice a es.length c])) (h.blks.length + 1) 0 1).map (fun cs => Value.agg cs.toArray) = some (.agg #[.slice a es.length c]) := by rw [d6.loadN (n := 1) rfl]; rfl
    have k6 := k5.trans (In.put (S := No) (Nat.le_trans k5.le k5.len) (p := h.blks.length + 1) (.inl (by omega)) (.cells [.slice a es.length c]))
    simp only [Bool.false_eq_true, if_false]
    refine ⟨_, ?_, done_ext' k6, (a5.keepPut b2 _).done⟩
    simp -implicitDefEqProofs (disch := omega) only [↓c37_0_eq, bxL, alL, e0, e1, hh, ldL, lA, e3, stL, hs4, l4, e5, l5, storeN_blk d5 (o := 0) (vs := [.slice a es.length c]) (by simp), List.take_zero, List.nil_append, List.append_nil, List.length_cons, List.length_nil, List.drop_succ_cons, List.drop_zero, Nat.zero_add, l6, rvals, ↓ret37, ↓cnd_true, ↓cnd_false, ↓Option.bind_some, ↓obH_some', bin_add, bin_sub, bin_mul, bin_lss, bin_leq, bin_gtr, bin_geq, bin_eql, bin_neq, un_not, un_neg, Option.bind_some, Option.bind_none, Option.map_some, cnd_true, cnd_false, pickV_true, pickV_false, gd_true, gd_false, gdV_true, gdV_false, gdH_true, gdH_false, gdS_true, gdS_false, wt_ff, wt_tt, wt_ft, wt_tf, wt_undef, obH_some', extractV_tuple, nilCheckV_ptr, againK_normal, againK_exit, againK_ret, blockK_normal, blockK_same, blockK_ret, seqK_normal, seqK_exit, seqK_ret, fin_done, if_true', if_false', Bool.not_true, Bool.not_false, idx0, idx1, idx2, idx3, idx4, chk_nil_l, chk_nil_r, done_nm, up_cons, up_nil, cond_true, cond_false, Nat.reduceBEq]
  | true =>
    rw [hg] at e5
    have lp := purge_loop (h0 := h) (h1 := h5) (p1 := h.blks.length) (p2 := h.blks.length + 1) a5.se hl c5 d5 (by omega) (by omega) (by omega) es.length 0 (by omega) (by omega)
    have fin' : ∀ {r : Option (Value × Heap)}, (∃ a c h', r = some (.agg #[.slice a (purgeL es).length c], done h h') ∧ In h.blks.length No (nm h) h' ∧ AE h5.blks.length h' (.slice a (purgeL es).length c) (purgeL es)) → ∃ a c h', r = some (.agg #[.slice a (purgeL es).length c], h') ∧ HExt h h' ∧ AE h.blks.length h' (.slice a (purgeL es).length c) (purgeL es) := fun ⟨a, c, h', q1, q2, q3⟩ => ⟨a, c, _, q1, done_ext' q2, (Acc.up q3 (by omega)).done⟩
    simp only [if_true]
    simp -implicitDefEqProofs (disch := omega) only [↓c37_0_eq, bxL, alL, e0, e1, hh, ldL, lA, e3, stL, hs4, l4, e5, faL, ldEs, l5', lnEs, ↓cnd_true, ↓cnd_false, ↓Option.bind_some, ↓obH_some', bin_add, bin_sub, bin_mul, bin_lss, bin_leq, bin_gtr, bin_geq, bin_eql, bin_neq, un_not, un_neg, Option.bind_some, Option.bind_none, Option.map_some, cnd_true, cnd_false, pickV_true, pickV_false, gd_true, gd_false, gdV_true, gdV_false, gdH_true, gdH_false, gdS_true, gdS_false, wt_ff, wt_tt, wt_ft, wt_tf, wt_undef, obH_some', extractV_tuple, nilCheckV_ptr, againK_normal, againK_exit, againK_ret, blockK_normal, blockK_same, blockK_ret, seqK_normal, seqK_exit, seqK_ret, fin_done, if_true', if_false', Bool.not_true, Bool.not_false, idx0, idx1, idx2, idx3, idx4, chk_nil_l, chk_nil_r, done_nm, up_cons, up_nil, cond_true, cond_false, Nat.reduceBEq]
    refine fin' (lp _ _ none 0 [] k5 (Same.refl _) (AE.nil _ _) (by rw [List.drop_zero]; rfl) ?_ ?_ ?_ ?_ ?_ ?_)
    all_goals rfl
end Go.Am
namespace Go.Am
open Go.Proofs
set_option maxRecDepth 100000
set_option linter.all false
attribute [local congr] obind_congr obH_congr cnd_congr chk_congr retK_congr codeK_congr
theorem bdE3 (a b c : Int) : buildV Tryd.prog 68 #[(0, .int .i64 a), (1, .int .u64 b), (2, .int .u64 c)] = some (.agg #[.int .i64 a, .int .u64 b, .int .u64 c]) := by kernel_rfl
theorem fvL (a : Option Addr) (n c : Nat) : fieldV Tryd.prog 65 (.agg #[.slice a n c]) 0 = some (.slice a n c) := by kernel_rfl
end Go.Am
namespace Go.Am
open Go.Proofs
set_option maxRecDepth 100000
set_option linter.all false
attribute [local congr] obind_congr obH_congr cnd_congr chk_congr retK_congr codeK_congr
def Old (n : Nat) (h h' : Heap) : Prop := h.blks.length ≤ h'.blks.length ∧ ∀ b, b < n → h'.blks[b]? = h.blks[b]?
theorem Old.refl (n : Nat) (h : Heap) : Old n h h := ⟨Nat.le_refl _, fun _ _ => rfl⟩
theorem Old.trans {n : Nat} {a b c : Heap} (h : Old n a b) (k : Old n b c) : Old n a c := ⟨Nat.le_trans h.1 k.1, fun i hi => (k.2 i hi).trans (h.2 i hi)⟩
theorem Same.to {n : Nat} {h h' : Heap} (s : Same h h') (hn : n ≤ h.blks.length) : Old n h h' := ⟨s.1, fun b hb => s.2 b (Nat.lt_of_lt_of_le hb hn)⟩
theorem HMod.to {n p : Nat} {h h' : Heap} (m : HMod (Just p) h h') (hp : n ≤ p) (hn : n ≤ h.blks.length) : Old n h h' := ⟨m.len, fun b hb => m.old b (Nat.lt_of_lt_of_le hb hn) (fun e => by have : b = p := e; omega)⟩
theorem Sl.old {P : Program} {k : Nat} {h h' : Heap} {es n : Nat} {v : Value} {cs : List Value} (r : Sl P h es v n cs) (o : Old k h h') (hv : Lo v k) : Sl P h' es v n cs := r.keep fun b _ hb => o.2 b (hv b hb)
theorem Cells.old {k : Nat} {h h' : Heap} {p : Nat} {ty : TypeId} {cs : List Value} (c : Cells h p ty cs) (o : Old k h h') (hp : p < k) : Cells h' p ty cs := (o.2 p hp).trans c
def encE (e : E3) : List UInt8 := putL e.f.toNat ++ (putL e.n ++ putL e.t)
def encL (es : List E3) : List UInt8 := (es.map encE).flatten
def logB (es : List E3) : List UInt8 := putL es.length ++ encL es
theorem encL_snoc (es : List E3) (e : E3) : encL (es ++ [e]) = encL es ++ encE e := by simp [encL]
theorem putL_le (n : Nat) (h : n < 2 ^ 64) : (putL n).length ≤ 10 := by
  rw [putL_len]; exact sizeN_le n 10 (Nat.lt_of_lt_of_le h (by decide)) (by omega)
theorem encE_le (e : E3) (h0 : e.f < 2 ^ 63) (h1 : e.n < 2 ^ 64) (h2 : e.t < 2 ^ 64) : (encE e).length ≤ 30 := by
  have a := putL_le e.f.toNat (by omega)
  have b := putL_le e.n h1
  have c := putL_le e.t h2
  simp only [encE, List.length_append]; omega
theorem encL_le : ∀ (es : List E3), (∀ e ∈ es, e.f < 2 ^ 63) → wide es → (encL es).length ≤ 30 * es.length
  | [], _, _ => Nat.le_refl _
  | e :: es, h, w => by
    have a := encL_le es (fun x hx => h x (by simp [hx])) (fun x hx => w x (by simp [hx]))
    have b := encE_le e (h e (by simp)) (w e (by simp)).1 (w e (by simp)).2
    simp only [encL, List.map_cons, List.flatten_cons, List.length_append, List.length_cons] at a ⊢
    omega
theorem put_loop18 {h0 h1 : Heap} {v : Value} {es : List E3} {p : Nat} (s : SE h1 v es) (hv : Lo v p) (hw : wide es) (hf : ∀ e ∈ es, 0 ≤ e.f ∧ e.f < 2 ^ 63) (hl : es.length < 2 ^ 32) (hn : h0.blks.length ≤ p) (hp1 : p ≤ h1.blks.length) :
    ∀ (m i : Nat), es.length - i = m → i ≤ es.length → ∀ (x : Nat → Value) (h : Heap),In h0.blks.length No (nm h0) h → Old p h1 h → Wr p h p (putL es.length ++ encL (es.take i)) →
    x 3 = .pointer (some ⟨p, 0, none⟩) → x 17 = v → x 18 = .int .i64 es.length → x 19 = .int .i64 i →
    ∃ a c h', lK c32_1 39 x h (blockK 0 (sK c32_2 (retK Tryd.f32 Tryd.prog h0))) = some (.slice a (logB es).length c, done h0 h') ∧ In h0.blks.length No (nm h0) h' ∧ AB h0.blks.length h' (.slice a (logB es).length c) (logB es) := by
  intro m
  have ll : ∀ i, (encL (es.take i)).length ≤ 30 * es.length := fun i => by
    have := encL_le (es.take i) (fun e he => (hf e (List.mem_of_mem_take he)).2) (fun e he => hw e (List.mem_of_mem_take he))
    have h2 : (es.take i).length ≤ es.length := by rw [List.length_take]; omega
    omega
  have l0 := putL_le es.length (by omega)
  induction m with
  | zero =>
    intro i e1 e2 x h hin ho w Ad As Au Av
    obtain rfl : i = es.length := by omega
    have := ll es.length
    rw [List.take_length] at w this
    obtain ⟨a, c, h2, q1, q2, q3⟩ := spec_WDone w (by rw [List.length_append]; omega)
    rw [lK_eq]
    refine ⟨a, c, h2, ?_, hin.trans (q2.inn (Nat.le_trans hin.le hin.len)), Acc.up q3 (Nat.le_trans hin.le hin.len)⟩
    simp -implicitDefEqProofs (disch := omega) only [↓c32_1_eq, ↓c32_2_eq,Ad,As,Au,Av, dcF, q1, ↓ret32, ↓cnd_true, ↓cnd_false, ↓Option.bind_some, ↓obH_some', bin_add, bin_sub, bin_mul, bin_lss, bin_leq, bin_gtr, bin_geq, bin_eql, bin_neq, un_not, un_neg, Option.bind_some, Option.bind_none, Option.map_some, cnd_true, cnd_false, pickV_true, pickV_false, gd_true, gd_false, gdV_true, gdV_false, gdH_true, gdH_false, gdS_true, gdS_false, wt_ff, wt_tt, wt_ft, wt_tf, wt_undef, obH_some', extractV_tuple, nilCheckV_ptr, againK_normal, againK_exit, againK_ret, blockK_normal, blockK_same, blockK_ret, seqK_normal, seqK_exit, seqK_ret, fin_done, if_true', if_false', Bool.not_true, Bool.not_false, idx0, idx1, idx2, idx3, idx4, chk_nil_l, chk_nil_r, done_nm, up_cons, up_nil, cond_true, cond_false, Nat.reduceBEq]
    rfl
  | succ m ih =>
    intro i hm hi x h hin ho w Ad As Au Av
    have hil : i < es.length := by omega
    have hph : p ≤ h.blks.length := Nat.le_trans hp1 ho.1
    obtain ⟨b, of, hb, hbl, e1, e2⟩ := s.at' (t := 63) (el := 68) (by kernel_rfl) (by kernel_rfl) hil
    obtain ⟨f1, _⟩ := e2 h (ho.2 b (hv b hb))
    obtain ⟨hA, hB, a1, a2, a3, a4, a5, a6⟩ := var_ent (n0 := p) hph es[i]
    have wd := hw es[i] (List.getElem_mem hil)
    have fd := hf es[i] (List.getElem_mem hil)
    have wlt := w.lt
    have bl := ll i
    have lt1 : ∀ {h' : Heap}, Cells h' h.blks.length 68 (entC es[i]) → h'.load1 h.blks.length 0 = some (.int .i64 es[i].f) ∧ h'.load1 h.blks.length (0 + 1) = some (.int .u64 es[i].n) ∧ h'.load1 h.blks.length (0 + 2) = some (.int .u64 es[i].t) := fun c => ⟨c.load 0, c.load 1, c.load 2⟩
    obtain ⟨l1, _, _⟩ := lt1 a3
    have wB := w.same a5
    have p1 := putL_le es[i].f.toNat (by omega)
    have p2 := putL_le es[i].n wd.1
    have p3 := putL_le es[i].t wd.2
    obtain ⟨hC, q1, q2, q3⟩ := spec_WNum wB (by have := a5.1; omega) es[i].f.toNat (by omega) (by rw [List.length_append]; omega)
    rw [Int.toNat_of_nonneg fd.1] at q1
    have hab := a5.1
    have a3C : Cells hC h.blks.length 68 (entC es[i]) := a3.mod q2 (fun e => by have : h.blks.length = p := e; omega)
    obtain ⟨_, l2, _⟩ := lt1 a3C
    have lC := q2.len
    obtain ⟨hD, r1, r2, r3⟩ := spec_WNum (q3.up (n1 := p) (by omega)) (by omega) es[i].n wd.1 (by simp only [List.length_append]; omega)
    have a3D : Cells hD h.blks.length 68 (entC es[i]) := a3C.mod r2 (fun e => by have : h.blks.length = p := e; omega)
    obtain ⟨_, _, l3⟩ := lt1 a3D
    have lD := r2.len
    obtain ⟨hE, s1, s2, s3⟩ := spec_WSet (r3.up (n1 := p) (by omega)) (by omega) es[i].t wd.2 (by simp only [List.length_append]; omega)
    have lE := s2.len
    have cv := fun h => cvI64 es[i].f h fd.1 fd.2
    have wi : IntKind.i64.wrap ((i : Int) + 1) = ((i + 1 : Nat) : Int) := by rw [wrap_i64] <;> omega
    have ht : es.take i ++ [es[i]] = es.take (i + 1) := by rw [List.take_succ, List.getElem?_eq_getElem hil]; rfl
    have hsn := encL_snoc (es.take i) es[i]
    rw [ht] at hsn
    have w2 : Wr p hE p (putL es.length ++ encL (es.take (i + 1))) := by
      have := s3.up (n1 := p) (by omega)
      rw [hsn]
      simpa [encE, List.append_assoc] using this
    have hb0 : ∀ b, b < h0.blks.length → Just p b → No b := fun b hb e => by have : b = p := e; omega
    have hin2 := (((hin.trans (In.dn (a4 No) hn)).trans (q2.inn (by omega) hb0)).trans (r2.inn (by omega) hb0)).trans (s2.inn (by omega) hb0)
    have ho2 := (((ho.trans (a5.to hph)).trans (q2.to (Nat.le_refl _) (by omega))).trans (r2.to (Nat.le_refl _) (by omega))).trans (s2.to (Nat.le_refl _) (by omega))
    rw [lK_eq]
    simp -implicitDefEqProofs (disch := omega) only [↓c32_1_eq, ↓c32_2_eq,Ad,As,Au,Av, dcT, e1, ldE, f1, Option.map_some, entA, a1, a2, faE0, faE1, faE2, ldI, ldU, ldS, l1, cv, q1, l2, r1, l3, s1, wi, ↓cnd_true, ↓cnd_false, ↓Option.bind_some, ↓obH_some', bin_add, bin_sub, bin_mul, bin_lss, bin_leq, bin_gtr, bin_geq, bin_eql, bin_neq, un_not, un_neg, Option.bind_some, Option.bind_none, Option.map_some, cnd_true, cnd_false, pickV_true, pickV_false, gd_true, gd_false, gdV_true, gdV_false, gdH_true, gdH_false, gdS_true, gdS_false, wt_ff, wt_tt, wt_ft, wt_tf, wt_undef, obH_some', extractV_tuple, nilCheckV_ptr, againK_normal, againK_exit, againK_ret, blockK_normal, blockK_same, blockK_ret, seqK_normal, seqK_exit, seqK_ret, fin_done, if_true', if_false', Bool.not_true, Bool.not_false, idx0, idx1, idx2, idx3, idx4, chk_nil_l, chk_nil_r, done_nm, up_cons, up_nil, cond_true, cond_false, Nat.reduceBEq]
    refine ih (i + 1) (by omega) (by omega) _ hE hin2 ho2 w2 ?_ ?_ ?_ ?_
    · exact Ad
    · exact As
    · exact Au
    · rfl
def putE (es : List E3) : List UInt8 := if goodE es then logB es else []
theorem good_f {es : List E3} (h : goodE es = true) : ∀ e ∈ es, 0 ≤ e.f ∧ e.f < 16 ∧ 0 < e.n ∧ e.t < 65536 := fun e he => by
  have := ((goodE_iff es).1 h).1 e he
  unfold mayE at this
  simpa [Bool.and_eq_true] using this
theorem spec_Put18 {h : Heap} {v : Value} {es : List E3} (s : SE h v es) (hw : wide es) (hl : es.length < 2 ^ 32) : ∃ a c h', evC Tryd.prog 32 #[.agg #[v]] h = some (.slice a (putE es).length c, h') ∧ HExt h h' ∧ AB h.blks.length h' (.slice a (putE es).length c) (putE es) := by
  rw [call32]
  have c1 := Cells.new (nm h) 65 [v]
  have s1 : SE ((nm h).new (.cells [v]) 65) v es := s.nm.keepNew _ _
  have k1 : In h.blks.length No (nm h) ((nm h).new (.cells [v]) 65) := In.new (h := nm h) (Nat.le_refl h.blks.length) _ _
  have e0 : (nm h).blks.length = h.blks.length := rfl
  have e1 : ((nm h).new (.cells [v]) 65).blks.length = h.blks.length + 1 := by simp [Heap.new]
  generalize hh : (nm h).new (.cells [v]) 65 = h1 at c1 s1 k1 e1
  rw [e0] at c1
  have lA : (h1.loadN h.blks.length 0 1).map (fun cs => Value.agg cs.toArray) = some (.agg #[v]) := by rw [c1.loadN (n := 1) rfl]; rfl
  obtain ⟨h2, q2,Ac⟩ := spec_Good s1 hw (by omega)
  have hx2 := Ac.len
  unfold putE
  cases hg : goodE es with
  | false =>
    rw [hg] at q2
    refine ⟨none, 0, _, ?_, done_ext' (k1.trans (Ac.inn (by omega))), Acc.done .nil⟩
    simp -implicitDefEqProofs (disch := omega) only [↓c32_0_eq, bxL, e0, hh, ldL, lA, q2, ↓ret32, ↓cnd_true, ↓cnd_false, ↓Option.bind_some, ↓obH_some', bin_add, bin_sub, bin_mul, bin_lss, bin_leq, bin_gtr, bin_geq, bin_eql, bin_neq, un_not, un_neg, Option.bind_some, Option.bind_none, Option.map_some, cnd_true, cnd_false, pickV_true, pickV_false, gd_true, gd_false, gdV_true, gdV_false, gdH_true, gdH_false, gdS_true, gdS_false, wt_ff, wt_tt, wt_ft, wt_tf, wt_undef, obH_some', extractV_tuple, nilCheckV_ptr, againK_normal, againK_exit, againK_ret, blockK_normal, blockK_same, blockK_ret, seqK_normal, seqK_exit, seqK_ret, fin_done, if_true', if_false', Bool.not_true, Bool.not_false, idx0, idx1, idx2, idx3, idx4, chk_nil_l, chk_nil_r, done_nm, up_cons, up_nil, cond_true, cond_false, Nat.reduceBEq]
    rfl
  | true =>
    rw [hg] at q2
    have hf := good_f hg
    obtain ⟨h3, q3,Ad, w3, n3⟩ := spec_NewWriter h2
    have s3 := (s1.ext Ac).ext Ad
    have c3 := (c1.ext Ac).ext Ad
    have l3 : h3.load1 h.blks.length 0 = some v := c3.load 0
    have hx3 := Ad.len
    obtain ⟨a, c, rfl⟩ := s.shape
    have cv := fun h => cvI64 (es.length : Int) h (by omega) (by omega)
    obtain ⟨h4, q4,Ae, w4⟩ := spec_WNum w3 (by omega) es.length (by omega) (by simp)
    have hx4 := Ae.len
    have lo : Lo (.slice a es.length c) h2.blks.length := (s1.ext Ac).lo
    have o4 : Old h2.blks.length h3 h4 := Ae.to (Nat.le_refl _) (by omega)
    have s4 : SE h4 (.slice a es.length c) es := Sl.old s3 o4 lo
    have l4 : h4.load1 h.blks.length 0 = some (.slice a es.length c) := (c3.old o4 (by omega)).load 0
    have k4 := ((k1.trans (Ac.inn (by omega))).trans (Ad.inn (by omega))).trans (Ae.inn (by omega) (fun b hb e => by have : b = h2.blks.length := e; omega))
    have lp := put_loop18 (h0 := h) s4 lo hw (fun e he => ⟨(hf e he).1, by have := (hf e he).2.1; omega⟩) hl (by omega) (by omega) es.length 0 (by omega) (by omega)
    have fin' : ∀ {r : Option (Value × Heap)}, (∃ a c h', r = some (.slice a (logB es).length c, done h h') ∧ In h.blks.length No (nm h) h' ∧ AB h.blks.length h' (.slice a (logB es).length c) (logB es)) → ∃ a c h', r = some (.slice a (logB es).length c, h') ∧ HExt h h' ∧ AB h.blks.length h' (.slice a (logB es).length c) (logB es) := fun ⟨a, c, h', g1, g2, g3⟩ => ⟨a, c, _, g1, done_ext' g2, Acc.done g3⟩
    simp only [if_true]
    simp -implicitDefEqProofs (disch := omega) only [↓c32_0_eq, bxL, e0, hh, ldL, lA, q2, q3, faL, ldEs, l3, lnEs, cv, q4, l4, ↓cnd_true, ↓cnd_false, ↓Option.bind_some, ↓obH_some', bin_add, bin_sub, bin_mul, bin_lss, bin_leq, bin_gtr, bin_geq, bin_eql, bin_neq, un_not, un_neg, Option.bind_some, Option.bind_none, Option.map_some, cnd_true, cnd_false, pickV_true, pickV_false, gd_true, gd_false, gdV_true, gdV_false, gdH_true, gdH_false, gdS_true, gdS_false, wt_ff, wt_tt, wt_ft, wt_tf, wt_undef, obH_some', extractV_tuple, nilCheckV_ptr, againK_normal, againK_exit, againK_ret, blockK_normal, blockK_same, blockK_ret, seqK_normal, seqK_exit, seqK_ret, fin_done, if_true', if_false', Bool.not_true, Bool.not_false, idx0, idx1, idx2, idx3, idx4, chk_nil_l, chk_nil_r, done_nm, up_cons, up_nil, cond_true, cond_false, Nat.reduceBEq]
    refine fin' (lp _ _ k4 (Old.refl _ _) ?_ ?_ ?_ ?_ ?_)
    · rw [List.take_zero, show encL [] = [] from rfl, List.append_nil, ← List.nil_append (putL es.length)]; exact w4.up (by omega)
    all_goals rfl
end Go.Am
namespace Go.Am
theorem chk_ne {β : Type} {r m : List Nat} (h : ∀ b ∈ r, ∀ x ∈ m, b ≠ x) (x : Option β) : chk r m x = x := by
  have : (r.all fun b => !m.contains b) = true := by
    rw [List.all_eq_true]
    intro b hb
    rw [Bool.not_eq_true', ← Bool.not_eq_true, List.contains_iff_mem]
    exact fun hm => h b hb b hm rfl
  unfold chk; rw [this]
theorem HMod.mods_nm {S : Nat → Prop} {h h' : Heap} (e : HMod S (Am.nm h) h') : ∀ m ∈ h'.mods, S m := by
  obtain ⟨d, e1, e2⟩ := e.mods
  intro m hm
  rw [e1] at hm
  rcases List.mem_append.1 hm with hm | hm
  · exact (e2 m hm).1
  · cases hm
theorem HMod.amx {S : Nat → Prop} {h h' : Heap} (e : HMod S (Am.nm h) h') : HMod S h (Am.am h' h) := by
  obtain ⟨d, e1, e2⟩ := e.mods
  refine ⟨e.len, e.old, d, ?_, e2⟩
  show h'.mods ++ h.mods = d ++ h.mods
  rw [e1]; simp
theorem rb_ptr (b o : Nat) : rb (.pointer (some ⟨b, o, Option.none⟩)) = [b] := rfl
end Go.Am
namespace Go.Am
theorem same_np (h : Heap) (b c : Body) (ty : TypeId) : Same h ((h.new b ty).put h.blks.length c) := by
  refine ⟨by rw [Heap.put_len]; simp [Heap.new], fun i hi => ?_⟩
  rw [Heap.put_other (by omega), Heap.new_old hi]
def rdE (most : Nat) (r : Option (List UInt8)) : E3 × Option (List UInt8) :=
  (⟨(numP r most).1, (numP (numP r most).2 (2 ^ 64 - 1)).1, (numP (numP (numP r most).2 (2 ^ 64 - 1)).2 65535).1⟩, (numP (numP (numP r most).2 (2 ^ 64 - 1)).2 65535).2)
def rdN : Nat → Option (List UInt8) → List E3 × Option (List UInt8)
  | 0, r => ([], r)
  | n + 1, r => ((rdE 16 r).1 :: (rdN n (rdE 16 r).2).1, (rdN n (rdE 16 r).2).2)
def logOf (x : List E3 × Option (List UInt8)) : Option (List E3) := if endP x.2 = true ∧ goodE x.1 = true then some x.1 else none
def getP (bs : List UInt8) : Option (List E3) := logOf (rdN (numP (some bs) bs.length).1 (numP (some bs) bs.length).2)
theorem rdE_enc (e : E3) (h0 : 0 ≤ e.f) (h1 : e.f < 16) (h2 : e.n < 2 ^ 64) (h3 : e.t < 65536) (rest : List UInt8) : rdE 16 (some (encE e ++ rest)) = (e, some rest) := by
  unfold rdE encE
  simp only [List.append_assoc]
  rw [numP_putL e.f.toNat (by omega) _ 16 (by omega)]
  simp only []
  rw [numP_putL e.n h2 _ (2 ^ 64 - 1) (by omega)]
  simp only []
  rw [numP_putL e.t (by omega) _ 65535 (by omega)]
  simp only [Int.toNat_of_nonneg h0]
theorem rdN_enc : ∀ (es : List E3) (rest : List UInt8), (∀ e ∈ es, 0 ≤ e.f ∧ e.f < 16 ∧ 0 < e.n ∧ e.t < 65536) → wide es → rdN es.length (some (encL es ++ rest)) = (es, some rest)
  | [], rest, _, _ => rfl
  | e :: es, rest, h, w => by
    have h0 := h e (by simp)
    have e1 : encL (e :: es) ++ rest = encE e ++ (encL es ++ rest) := by simp [encL]
    simp only [List.length_cons, rdN]
    rw [e1, rdE_enc e h0.1 h0.2.1 (w e (by simp)).1 h0.2.2.2, rdN_enc es rest (fun x hx => h x (by simp [hx])) (fun x hx => w x (by simp [hx]))]
theorem encL_ge : ∀ es : List E3, es.length ≤ (encL es).length
  | [] => Nat.le_refl _
  | e :: es => by
    have := encL_ge es
    have h1 : 1 ≤ (encE e).length := by
      have h1 := putL_pos e.n
      simp only [encE, List.length_append]; omega
    simp only [encL, List.map_cons, List.flatten_cons, List.length_append, List.length_cons] at this ⊢
    omega
theorem get_put {es : List E3} (hg : goodE es = true) (w : wide es) (hl : es.length < 2 ^ 64) : getP (logB es) = some es := by
  unfold getP logB
  have h1 := encL_ge es
  have e1 := numP_putL es.length hl (encL es) (putL es.length ++ encL es).length (by rw [List.length_append]; omega)
  rw [e1]
  simp only []
  have e2 := rdN_enc es [] (good_f hg) w
  rw [List.append_nil] at e2
  rw [e2]
  unfold logOf
  rw [if_pos ⟨rfl, hg⟩]
theorem rdN_len : ∀ (n : Nat) (r : Option (List UInt8)), (rdN n r).1.length = n
  | 0, _ => rfl
  | n + 1, r => by simp only [rdN, List.length_cons, rdN_len n]
theorem rdE_wide (m : Nat) (r : Option (List UInt8)) : (rdE m r).1.n < 2 ^ 64 ∧ (rdE m r).1.t < 2 ^ 64 := ⟨(numP_le _ _).2.1, (numP_le _ _).2.1⟩
theorem rdN_wide : ∀ (n : Nat) (r : Option (List UInt8)), wide (rdN n r).1
  | 0, _ => fun e he => (List.not_mem_nil he).elim
  | n + 1, r => fun e he => by
    simp only [rdN] at he
    rcases List.mem_cons.1 he with rfl | he
    · exact rdE_wide 16 r
    · exact rdN_wide n _ e he
theorem getP_len (bs : List UInt8) : ((getP bs).getD []).length ≤ bs.length := by
  unfold getP logOf
  have n1 := (numP_le (some bs) bs.length).1
  split
  · rw [Option.getD_some, rdN_len]; exact n1
  · exact Nat.zero_le _
end Go.Am
namespace Go.Am
open Go.Proofs
set_option maxRecDepth 100000
set_option linter.all false
attribute [local congr] obind_congr obH_congr cnd_congr chk_congr retK_congr codeK_congr
theorem stEs (p : Nat) (a : Option Addr) (n c : Nat) (h : Heap) : storeV Tryd.prog 63 (.pointer (some ⟨p, 0, none⟩)) (.slice a n c) h = h.storeN p 0 [.slice a n c] := by kernel_rfl
theorem bdL0 : buildV Tryd.prog 65 #[] = some (.agg #[.slice none 0 0]) := by kernel_rfl
theorem lnB8 (a : Option Addr) (n c : Nat) (h : Heap) : lenV Tryd.prog 40 (.slice a n c) h = some (.int .i64 n) := by kernel_rfl
theorem setP_num (r : Option (List UInt8)) : setP r (allN 16) = numP r 65535 := by
  cases r with
  | none => rfl
  | some bs =>
    have h := getL_lt bs
    have o := out16 (getL bs).1 h
    simp only [setP, numP]
    have : (outB (getL bs).1 (allN 16) ≠ 0) ↔ 65535 < (getL bs).1 := by
      have := decide_eq_decide.1 o
      constructor
      · intro h1; refine Classical.byContradiction fun h2 => h1 (this.2 (by omega))
      · intro h1 h2; have := this.1 h2; omega
    simp only [this]
theorem RdrL.old {L k : Nat} {h h' : Heap} {p : Nat} {r : Option (List UInt8)} (w : RdrL L h p r) (o : Old k h h') (hp : p < k) : RdrL L h' p r :=
  let ⟨a, c, x, y, z⟩ := w
  ⟨a, c, x.old o hp, y.old o fun b hb => by have := (z b hb).2; omega, z⟩
theorem amSame (h' h : Heap) : Same h' (am h' h) := ⟨Nat.le_refl _, fun _ _ => rfl⟩
theorem get_loop18 {h0 h1 : Heap} {p0 p p2 : Nat} (hn : h0.blks.length ≤ p0) (hp : p0 < p) (hp2 : p < p2) (hp3 : p2 < h1.blks.length) :
    ∀ (n : Nat) (r : Option (List UInt8)) (acc : List E3), (rbs r).length < 2 ^ 30 → acc.length + n < 2 ^ 32 → wide acc → ∀ (x : Nat → Value) (h : Heap) (a : Option Addr) (c : Nat),In h0.blks.length No (nm h0) h → h1.blks.length ≤ h.blks.length → Cells h p0 65 [.slice none 0 0] → Rdr h p r → Cells h p2 65 [.slice a acc.length c] → AE h1.blks.length h (.slice a acc.length c) acc →
    x 2 = .pointer (some ⟨p0, 0, none⟩) → x 4 = .pointer (some ⟨p, 0, none⟩) → x 5 = .pointer (some ⟨p2, 0, none⟩) → x 6 = .int .u64 n →
    ∃ a' c' h', lK c46_1 42 x h (blockK 0 (sK c46_2 (retK Tryd.f46 Tryd.prog h0))) = some (.tuple #[.agg #[.slice a' ((logOf (acc ++ (rdN n r).1, (rdN n r).2)).getD []).length c'], .bool (logOf (acc ++ (rdN n r).1, (rdN n r).2)).isSome], done h0 h') ∧ In h0.blks.length No (nm h0) h' ∧ AE h1.blks.length h' (.slice a' ((logOf (acc ++ (rdN n r).1, (rdN n r).2)).getD []).length c') ((logOf (acc ++ (rdN n r).1, (rdN n r).2)).getD []) := by
  intro n
  induction n with
  | zero =>
    intro r acc hr hl hw x h a c hin hlen c0 w c2 ha Ac Ae Af Ag
    have e1 := spec_REnd w
    simp only [rdN, List.append_nil]
    rw [lK_eq]
    have hz : ((0 : Nat) : Int) = 0 := rfl
    have bad : ∀ {h2 : Heap}, Old h1.blks.length h h2 → In h0.blks.length No (nm h0) h2 → ∃ h3, storeV Tryd.prog 65 (.pointer (some ⟨p0, 0, none⟩)) (.agg #[.slice none 0 0]) h2 = some h3 ∧ (h3.loadN p0 0 1).map (fun cs => Value.agg cs.toArray) = some (.agg #[.slice none 0 0]) ∧ In h0.blks.length No (nm h0) h3 := fun {h2} o k => by
      have d := c0.old o (by omega)
      have d2 := d.put [.slice none 0 0]
      refine ⟨h2.put p0 (.cells [.slice none 0 0]), ?_, ?_, k.trans (In.put (Nat.le_trans k.le k.len) (.inl hn) _)⟩
      · rw [stL, storeN_blk d (by simp)]; rfl
      · rw [d2.loadN (n := 1) rfl]; rfl
    cases hE : endP r with
    | false =>
      rw [hE] at e1
      obtain ⟨h3, g1, g2, g3⟩ := bad (Old.refl _ h) hin
      have hlo : logOf (acc, r) = none := by unfold logOf; rw [if_neg (by simp [hE])]
      rw [hlo]
      refine ⟨none, 0, h3, ?_, g3, AE.nil _ _⟩
      simp -implicitDefEqProofs (disch := omega) only [↓c46_1_eq, ↓c46_2_eq,Ac,Ae,Af,Ag, hz, dcF, e1, bdL0, g1, ldL, g2, Option.bind_some, rvals, ↓ret46, ↓cnd_true, ↓cnd_false, ↓Option.bind_some, ↓obH_some', bin_add, bin_sub, bin_mul, bin_lss, bin_leq, bin_gtr, bin_geq, bin_eql, bin_neq, un_not, un_neg, Option.bind_some, Option.bind_none, Option.map_some, cnd_true, cnd_false, pickV_true, pickV_false, gd_true, gd_false, gdV_true, gdV_false, gdH_true, gdH_false, gdS_true, gdS_false, wt_ff, wt_tt, wt_ft, wt_tf, wt_undef, obH_some', extractV_tuple, nilCheckV_ptr, againK_normal, againK_exit, againK_ret, blockK_normal, blockK_same, blockK_ret, seqK_normal, seqK_exit, seqK_ret, fin_done, if_true', if_false', Bool.not_true, Bool.not_false, idx0, idx1, idx2, idx3, idx4, chk_nil_l, chk_nil_r, done_nm, up_cons, up_nil, cond_true, cond_false, Nat.reduceBEq]
      rfl
    | true =>
      rw [hE] at e1
      obtain ⟨h2, q2, y2⟩ := spec_Good ha.se hw (by omega)
      have lA : (h.loadN p2 0 1).map (fun cs => Value.agg cs.toArray) = some (.agg #[.slice a acc.length c]) := by rw [c2.loadN (n := 1) rfl]; rfl
      have k2 := hin.trans (y2.inn (Nat.le_trans hin.le hin.len))
      have o2 : Old h1.blks.length h h2 := y2.same.to hlen
      cases hg : goodE acc with
      | false =>
        rw [hg] at q2
        obtain ⟨h3, g1, g2, g3⟩ := bad o2 k2
        have hlo : logOf (acc, r) = none := by unfold logOf; rw [if_neg (by simp [hg])]
        rw [hlo]
        refine ⟨none, 0, h3, ?_, g3, AE.nil _ _⟩
        simp -implicitDefEqProofs (disch := omega) only [↓c46_1_eq, ↓c46_2_eq,Ac,Ae,Af,Ag, hz, dcF, e1, ldL, lA, q2, bdL0, g1, g2, Option.bind_some, rvals, ↓ret46, ↓cnd_true, ↓cnd_false, ↓Option.bind_some, ↓obH_some', bin_add, bin_sub, bin_mul, bin_lss, bin_leq, bin_gtr, bin_geq, bin_eql, bin_neq, un_not, un_neg, Option.bind_some, Option.bind_none, Option.map_some, cnd_true, cnd_false, pickV_true, pickV_false, gd_true, gd_false, gdV_true, gdV_false, gdH_true, gdH_false, gdS_true, gdS_false, wt_ff, wt_tt, wt_ft, wt_tf, wt_undef, obH_some', extractV_tuple, nilCheckV_ptr, againK_normal, againK_exit, againK_ret, blockK_normal, blockK_same, blockK_ret, seqK_normal, seqK_exit, seqK_ret, fin_done, if_true', if_false', Bool.not_true, Bool.not_false, idx0, idx1, idx2, idx3, idx4, chk_nil_l, chk_nil_r, done_nm, up_cons, up_nil, cond_true, cond_false, Nat.reduceBEq]
        rfl
      | true =>
        rw [hg] at q2
        have hlo : logOf (acc, r) = some acc := by unfold logOf; rw [if_pos ⟨hE, hg⟩]
        rw [hlo]
        have d := c0.old o2 (by omega)
        have d2 := d.put [.slice a acc.length c]
        have lB : (h2.loadN p2 0 1).map (fun cs => Value.agg cs.toArray) = some (.agg #[.slice a acc.length c]) := by rw [(c2.old o2 hp3).loadN (n := 1) rfl]; rfl
        have lD : (Heap.loadN (h2.put p0 (.cells [.slice a acc.length c])) p0 0 1).map (fun cs => Value.agg cs.toArray) = some (.agg #[.slice a acc.length c]) := by rw [d2.loadN (n := 1) rfl]; rfl
        refine ⟨a, c, h2.put p0 (.cells [.slice a acc.length c]), ?_, k2.trans (In.put (Nat.le_trans k2.le k2.len) (.inl hn) _), (ha.same y2.same).keepPut (fun e => by have := ha.ge e; omega) _⟩
        simp -implicitDefEqProofs (disch := omega) only [↓c46_1_eq, ↓c46_2_eq,Ac,Ae,Af,Ag, hz, dcF, e1, ldL, lA, q2, lB, stL, storeN_blk d (o := 0) (vs := [.slice a acc.length c]) (by simp), List.take_zero, List.nil_append, List.append_nil, List.length_cons, List.length_nil, List.drop_succ_cons, List.drop_zero, Nat.zero_add, lD, Option.bind_some, rvals, Option.getD_some, Option.isSome_some, ↓ret46, ↓cnd_true, ↓cnd_false, ↓Option.bind_some, ↓obH_some', bin_add, bin_sub, bin_mul, bin_lss, bin_leq, bin_gtr, bin_geq, bin_eql, bin_neq, un_not, un_neg, Option.bind_some, Option.bind_none, Option.map_some, cnd_true, cnd_false, pickV_true, pickV_false, gd_true, gd_false, gdV_true, gdV_false, gdH_true, gdH_false, gdS_true, gdS_false, wt_ff, wt_tt, wt_ft, wt_tf, wt_undef, obH_some', extractV_tuple, nilCheckV_ptr, againK_normal, againK_exit, againK_ret, blockK_normal, blockK_same, blockK_ret, seqK_normal, seqK_exit, seqK_ret, fin_done, if_true', if_false', Bool.not_true, Bool.not_false, idx0, idx1, idx2, idx3, idx4, chk_nil_l, chk_nil_r, done_nm, up_cons, up_nil, cond_true, cond_false, Nat.reduceBEq]
  | succ n ih =>
    intro r acc hr hl hw x h a c hin hlen c0 w c2 ha Ac Ae Af Ag
    have l2 : h.load1 p2 0 = some (.slice a acc.length c) := c2.load 0
    have n1 := numP_le r 16
    obtain ⟨hA, q1, y1, w1⟩ := spec_RNum w.nm 16 (by omega) (by omega)
    have m1 := y1.mods_nm
    have z1 := y1.amx
    have w1' := w1.same (amSame hA h)
    have n2 := numP_le (numP r 16).2 (2 ^ 64 - 1)
    obtain ⟨hB, q2, y2, w2⟩ := spec_RNum (h := nm (am hA h)) w1'.nm (2 ^ 64 - 1) (by omega) (by omega)
    have m2 := y2.mods_nm
    have z2 := y2.amx
    have w2' := w2.same (amSame hB (am hA h))
    have q3 := spec_All 16 (by omega) (nm (am hB (am hA h)))
    have n3 := numP_le (numP (numP r 16).2 (2 ^ 64 - 1)).2 65535
    obtain ⟨hC, q4, y4, w4⟩ := spec_RSet (h := nm (am hB (am hA h))) w2'.nm (allN 16) (by unfold allN; omega) (by omega)
    rw [setP_num] at q4 w4
    have m4 := y4.mods_nm
    have z4 := y4.amx
    have w4' := w4.same (amSame hC (am hB (am hA h)))
    have zz : HMod (Just p) h (am hC (am hB (am hA h))) := by
      refine ⟨Nat.le_trans (Nat.le_trans z1.len z2.len) z4.len, fun b hb hs => ((z4.old b (Nat.lt_of_lt_of_le hb (Nat.le_trans z1.len z2.len)) hs).trans (z2.old b (Nat.lt_of_lt_of_le hb z1.len) hs)).trans (z1.old b hb hs), ?_⟩
      obtain ⟨d1, g1, k1⟩ := z1.mods
      obtain ⟨d2, g2, k2⟩ := z2.mods
      obtain ⟨d3, g3, k3⟩ := z4.mods
      have hph := w.lt
      refine ⟨d3 ++ (d2 ++ d1), by rw [g3, g2, g1]; simp, fun m hm => ?_⟩
      have : Just p m := by
        rcases List.mem_append.1 hm with hm | hm
        · exact (k3 m hm).1
        · rcases List.mem_append.1 hm with hm | hm
          · exact (k2 m hm).1
          · exact (k1 m hm).1
      exact ⟨this, by have : m = p := this; omega⟩
    have cvv := fun h => cvU64 ((numP r 16).1 : Int) h (by omega) (by omega)
    have nb : ∀ b, Just p b → b < h0.blks.length → False := fun b e hb => by have : b = p := e; omega
    have hE : (rdE 16 r).1 = ⟨(numP r 16).1, (numP (numP r 16).2 (2 ^ 64 - 1)).1, (numP (numP (numP r 16).2 (2 ^ 64 - 1)).2 65535).1⟩ := rfl
    have kX := hin.trans (zz.inn (Nat.le_trans hin.le hin.len) fun b hb e => (nb b e hb).elim)
    have haX : AE h1.blks.length (am hC (am hB (am hA h))) (.slice a acc.length c) acc := ha.mod zz fun b hb e => by have := ha.ge hb; have : b = p := e; omega
    have cX2 := c2.mod zz (fun e => by have : p2 = p := e; omega)
    have cX0 := c0.mod zz (fun e => by have : p0 = p := e; omega)
    have lX := zz.len
    generalize hX : am hC (am hB (am hA h)) = hx at kX haX cX2 cX0 lX w4'
    obtain ⟨a', c', hD, g1, g2, g3, g4⟩ := app_ent etE (n0 := h1.blks.length) (by omega) haX (rdE 16 r).1 (by omega)
    have bs := bsE (rdE 16 r).1 hx
    rw [hE] at g1 bs
    have oD : Old h1.blks.length hx hD := ⟨g3.len, fun q hq => g4 q (by omega) (Acc.off haX (Nat.le_refl _) hq)⟩
    have dD2 := cX2.old oD hp3
    have dD0 := cX0.old oD (by omega)
    have wD := w4'.old oD (by omega)
    have cF := dD2.put [.slice a' (acc ++ [(rdE 16 r).1]).length c']
    have cF0 : Cells (hD.put p2 (.cells [.slice a' (acc ++ [(rdE 16 r).1]).length c'])) p0 65 [.slice none 0 0] := dD0.keepPut (by omega) _
    have wF := RdrL.keepPut wD hp2 (.cells [.slice a' (acc ++ [(rdE 16 r).1]).length c'])
    have aF : AE h1.blks.length (hD.put p2 (.cells [.slice a' (acc ++ [(rdE 16 r).1]).length c'])) (.slice a' (acc ++ [(rdE 16 r).1]).length c') (acc ++ [(rdE 16 r).1]) := Acc.keepPut g2 (fun e => by have := Acc.ge g2 e; omega) _
    have kD := kX.trans (Keeps.inn (S := No) (g3.dn (by omega)))
    have kF := kD.trans (In.put (S := No) (Nat.le_trans kD.le kD.len) (p := p2) (.inl (by omega)) (.cells [.slice a' (acc ++ [(rdE 16 r).1]).length c']))
    have hst := storeN_blk dD2 (o := 0) (vs := [.slice a' (acc ++ [(rdE 16 r).1]).length c']) (by simp)
    simp only [List.take_zero, List.nil_append, List.append_nil, List.length_cons, List.length_nil, List.drop_succ_cons, List.drop_zero, Nat.zero_add] at hst
    rw [hE] at hst
    have hlF : (hD.put p2 (.cells [.slice a' (acc ++ [(rdE 16 r).1]).length c'])).blks.length = hD.blks.length := Heap.put_len _ _ _
    have lD := g3.len
    have dn : decide (((n + 1 : Nat) : Int) > 0) = true := decide_eq_true (by omega)
    have wn : IntKind.u64.wrap (((n + 1 : Nat) : Int) - 1) = ((n : Nat) : Int) := by rw [wrap_u64] <;> omega
    have hrw : acc ++ (rdN (n + 1) r).1 = (acc ++ [(rdE 16 r).1]) ++ (rdN n (rdE 16 r).2).1 := by simp [rdN]
    have hr2 : (rdN (n + 1) r).2 = (rdN n (rdE 16 r).2).2 := rfl
    rw [show ((16 : Nat) : Int) = 16 from rfl] at q1 q3
    rw [show ((2 ^ 64 - 1 : Nat) : Int) = 18446744073709551615 from rfl] at q2
    have mall : ∀ b ∈ [p2], ∀ x ∈ hC.mods ++ (hB.mods ++ hA.mods), b ≠ x := fun b hb x hx e => by
      rw [List.mem_singleton] at hb
      have : Just p x := by
        rcases List.mem_append.1 hx with hx | hx
        · exact m4 x hx
        · rcases List.mem_append.1 hx with hx | hx
          · exact m2 x hx
          · exact m1 x hx
      have : x = p := this
      omega
    rw [lK_eq, hrw, hr2]
    simp -implicitDefEqProofs (disch := omega) only [↓c46_1_eq, ↓c46_2_eq,Ac,Ae,Af,Ag, dn, faL, ldEs, l2, q1, cvv, q2, q3, am_nm, nm_mods, List.nil_append, q4, hX, bdE3, show ([.int .i64 ((numP r 16).1 : Int), .int .u64 ((numP (numP r 16).2 (2 ^ 64 - 1)).1 : Int), .int .u64 ((numP (numP (numP r 16).2 (2 ^ 64 - 1)).2 65535).1 : Int)] : List Value) = entC ⟨(numP r 16).1, (numP (numP r 16).2 (2 ^ 64 - 1)).1, (numP (numP (numP r 16).2 (2 ^ 64 - 1)).2 65535).1⟩ from rfl, entA, bs, g1, stEs, hst, rb_ptr, List.append_nil, wn, ↓cnd_true, ↓cnd_false, ↓Option.bind_some, ↓obH_some', bin_add, bin_sub, bin_mul, bin_lss, bin_leq, bin_gtr, bin_geq, bin_eql, bin_neq, un_not, un_neg, Option.bind_some, Option.bind_none, Option.map_some, cnd_true, cnd_false, pickV_true, pickV_false, gd_true, gd_false, gdV_true, gdV_false, gdH_true, gdH_false, gdS_true, gdS_false, wt_ff, wt_tt, wt_ft, wt_tf, wt_undef, obH_some', extractV_tuple, nilCheckV_ptr, againK_normal, againK_exit, againK_ret, blockK_normal, blockK_same, blockK_ret, seqK_normal, seqK_exit, seqK_ret, fin_done, if_true', if_false', Bool.not_true, Bool.not_false, idx0, idx1, idx2, idx3, idx4, chk_nil_l, chk_nil_r, done_nm, up_cons, up_nil, cond_true, cond_false, Nat.reduceBEq]
    rw [chk_ne mall]
    refine ih (rdE 16 r).2 _ ?_ ?_ ?_ _ _ a' c' kF (by rw [Heap.put_len]; omega) cF0 wF cF aF ?_ ?_ ?_ ?_
    · unfold rdE; simp only; omega
    · rw [List.length_append, List.length_singleton]; omega
    · intro e he
      rcases List.mem_append.1 he with he | he
      · exact hw e he
      · rw [List.mem_singleton] at he; subst he; exact rdE_wide 16 r
    · exact Ac
    · exact Ae
    · exact Af
    · rfl
end Go.Am
namespace Go.Am
open Go.Proofs
set_option maxRecDepth 100000
set_option linter.all false
attribute [local congr] obind_congr obH_congr cnd_congr chk_congr retK_congr codeK_congr
theorem spec_Get18 {h : Heap} {v : Value} {bs : List UInt8} (s : SB h v bs) (hl : bs.length < 2 ^ 30) : ∃ a c h', evC Tryd.prog 46 #[v] h = some (.tuple #[.agg #[.slice a ((getP bs).getD []).length c], .bool (getP bs).isSome], h') ∧ HExt h h' ∧ AE h.blks.length h' (.slice a ((getP bs).getD []).length c) ((getP bs).getD []) := by
  rw [call46]
  have c1 := Cells.new (nm h) 65 [.slice none 0 0]
  have s1 : SB ((nm h).new (.cells [.slice none 0 0]) 65) v bs := s.nm.keepNew _ _
  have k1 : In h.blks.length No (nm h) ((nm h).new (.cells [.slice none 0 0]) 65) := In.new (h := nm h) (Nat.le_refl h.blks.length) _ _
  have e0 : (nm h).blks.length = h.blks.length := rfl
  have e1 : ((nm h).new (.cells [.slice none 0 0]) 65).blks.length = h.blks.length + 1 := by simp [Heap.new]
  generalize hh : (nm h).new (.cells [.slice none 0 0]) 65 = h1 at c1 s1 k1 e1
  rw [e0] at c1
  obtain ⟨h2, p, q2,Ac, w2, hp⟩ := spec_NewReader s1 (by omega)
  have hx2 := Ac.len
  have c2 := c1.ext Ac
  have k2 := k1.trans (Ac.inn (by omega))
  have c3 := c2.keepNew (.cells [.slice none 0 0]) 65
  have w3 := w2.same (Same.new h2 (.cells [.slice none 0 0]) 65)
  have k3 := k2.trans (In.new (S := No) (by omega) (.cells [.slice none 0 0]) 65)
  have d3 := Cells.new h2 65 [.slice none 0 0]
  have hp2 := w2.lt
  have n3 : (h2.new (.cells [.slice none 0 0]) 65).blks.length = h2.blks.length + 1 := by simp [Heap.new]
  generalize hh3 : h2.new (.cells [.slice none 0 0]) 65 = h3 at c3 w3 k3 d3 n3
  obtain ⟨va, vc, rfl⟩ := s.shape
  have n1 := numP_le (some bs) bs.length
  have hrb : (rbs (some bs)).length = bs.length := rfl
  rw [hrb] at n1
  obtain ⟨h4, q4, y4, w4⟩ := spec_RNum w3 bs.length (by omega) (by rw [hrb]; omega)
  have cv := fun h => cvI64 (bs.length : Int) h (by omega) (by omega)
  have k4 := k3.trans (y4.inn (by omega) (fun b hb e => by have : b = p := e; omega))
  have hy4 := y4.len
  have c4 := c3.mod y4 (fun e => by have : h.blks.length = p := e; omega)
  have d4 := d3.mod y4 (fun e => by have : h2.blks.length = p := e; omega)
  have lp := get_loop18 (h0 := h) (h1 := h4) (p0 := h.blks.length) (p := p) (p2 := h2.blks.length) (by omega) (by omega) (by omega) (by omega) (numP (some bs) bs.length).1 (numP (some bs) bs.length).2 [] (by omega) (by simp; omega) (fun e he => (List.not_mem_nil he).elim)
  have fin' : ∀ {r : Option (Value × Heap)}, (∃ a c h', r = some (.tuple #[.agg #[.slice a ((getP bs).getD []).length c], .bool (getP bs).isSome], done h h') ∧ In h.blks.length No (nm h) h' ∧ AE h4.blks.length h' (.slice a ((getP bs).getD []).length c) ((getP bs).getD [])) → ∃ a c h', r = some (.tuple #[.agg #[.slice a ((getP bs).getD []).length c], .bool (getP bs).isSome], h') ∧ HExt h h' ∧ AE h.blks.length h' (.slice a ((getP bs).getD []).length c) ((getP bs).getD []) := fun ⟨a, c, h', g1, g2, g3⟩ => ⟨a, c, _, g1, done_ext' g2, (Acc.up g3 (by omega)).done⟩
  simp -implicitDefEqProofs (disch := omega) only [↓c46_0_eq, alL, e0, hh, q2, hh3, lnB8, cv, q4, ↓cnd_true, ↓cnd_false, ↓Option.bind_some, ↓obH_some', bin_add, bin_sub, bin_mul, bin_lss, bin_leq, bin_gtr, bin_geq, bin_eql, bin_neq, un_not, un_neg, Option.bind_some, Option.bind_none, Option.map_some, cnd_true, cnd_false, pickV_true, pickV_false, gd_true, gd_false, gdV_true, gdV_false, gdH_true, gdH_false, gdS_true, gdS_false, wt_ff, wt_tt, wt_ft, wt_tf, wt_undef, obH_some', extractV_tuple, nilCheckV_ptr, againK_normal, againK_exit, againK_ret, blockK_normal, blockK_same, blockK_ret, seqK_normal, seqK_exit, seqK_ret, fin_done, if_true', if_false', Bool.not_true, Bool.not_false, idx0, idx1, idx2, idx3, idx4, chk_nil_l, chk_nil_r, done_nm, up_cons, up_nil, cond_true, cond_false, Nat.reduceBEq]
  refine fin' (lp _ _ none 0 k4 (Nat.le_refl _) c4 w4 d4 (AE.nil _ _) ?_ ?_ ?_ ?_)
  all_goals rfl
end Go.Am
namespace Go.Am
open Go.Proofs
set_option maxRecDepth 100000
set_option linter.all false
attribute [local congr] obind_congr obH_congr cnd_congr chk_congr retK_congr codeK_congr
theorem etV : ElemT Tryd.prog 73 23 1 8 (.int .u64 0) := ⟨by kernel_rfl, by kernel_rfl, by kernel_rfl, by kernel_rfl, by omega, rfl, rfl⟩
theorem zeros_list (z : Value) (n : Nat) : ((Array.range (n * #[z].size)).map fun i => #[z][i % #[z].size]!).toList = List.replicate n z := by
  have e : (fun i : Nat => #[z][i % #[z].size]!) = fun _ => z := by
    funext i
    have : i % #[z].size = 0 := Nat.mod_one i
    rw [this]; rfl
  rw [e]
  simp [List.map_const']
theorem mkV (m : Nat) (hm : m ≤ 64) (h : Heap) : makeSliceV Tryd.prog 73 (.int .i64 m) (.int .i64 m) h = some (.slice (some ⟨h.blks.length, 0, none⟩) m m, h.new (.cells ((List.replicate m 0).map u64V)) 23) := by
  unfold makeSliceV
  simp only [etV.under, natOf_int, etV.size, etV.bytes, etV.zero]
  rw [if_pos ⟨Nat.le_refl _, by omega, by omega, by omega, etV.zs, etV.zg⟩]
  have := zeros_list (.int .u64 0) m
  rw [show ((Array.range (m * 1)).map fun x => (Value.int .u64 0).cells[x % (Value.int .u64 0).cells.size]!).toList = List.replicate m (.int .u64 0) from this, List.map_replicate]
  rfl
theorem spec_vecNew (m : Nat) (hm : m ≤ 64) (h : Heap) : ∃ h', evC Tryd.prog 34 #[.int .i64 m] h = some (.slice (some ⟨h.blks.length, 0, none⟩) m m, h') ∧ HExt h h' ∧ h'.blks.length = h.blks.length + 1 ∧ Cells h' h.blks.length 23 ((List.replicate m 0).map u64V) := by
  rw [call34]
  have e1 : max (m : Int) 0 = m := by omega
  have e2 : min (m : Int) 64 = m := by omega
  refine ⟨_, ?_, done_ext' (In.new (h := nm h) (Nat.le_refl _) (.cells ((List.replicate m 0).map u64V)) 23), ?_, (Cells.new (nm h) _ _).done⟩
  · simp -implicitDefEqProofs (disch := omega) only [↓c34_0_eq, vmaxI, vminI, e1, e2, mkV m hm, ↓ret34, ↓cnd_true, ↓cnd_false, ↓Option.bind_some, ↓obH_some', bin_add, bin_sub, bin_mul, bin_lss, bin_leq, bin_gtr, bin_geq, bin_eql, bin_neq, un_not, un_neg, Option.bind_some, Option.bind_none, Option.map_some, cnd_true, cnd_false, pickV_true, pickV_false, gd_true, gd_false, gdV_true, gdV_false, gdH_true, gdH_false, gdS_true, gdS_false, wt_ff, wt_tt, wt_ft, wt_tf, wt_undef, obH_some', extractV_tuple, nilCheckV_ptr, againK_normal, againK_exit, againK_ret, blockK_normal, blockK_same, blockK_ret, seqK_normal, seqK_exit, seqK_ret, fin_done, if_true', if_false', Bool.not_true, Bool.not_false, idx0, idx1, idx2, idx3, idx4, chk_nil_l, chk_nil_r, done_nm, up_cons, up_nil, cond_true, cond_false, Nat.reduceBEq]
    rfl
  · simp [Heap.new, nm]
structure LEn (h : Heap) (p s : Nat) (n me : Int) (num : Nat) (es : List E3) (ns : List Nat) : Prop where
  eng : ∃ la lc, Cells h p 96 [.int .i64 n, .int .i64 me, .slice la es.length lc, .int .u64 num, .slice (some ⟨s, 0, none⟩) ns.length ns.length] ∧ AE 0 h (.slice la es.length lc) es
  seen : Cells h s 23 (ns.map u64V)
  len : ns.length ≤ 64
theorem bdLn (n me : Int) (m : Nat) (s : Nat) : buildV Tryd.prog 96 #[(0, .int .i64 n), (1, .int .i64 me), (4, .slice (some ⟨s, 0, none⟩) m m)] = some (.agg #[.int .i64 n, .int .i64 me, .slice none 0 0, .int .u64 0, .slice (some ⟨s, 0, none⟩) m m]) := by kernel_rfl
theorem bxLn (a b c d e : Value) (h : Heap) : boxV Tryd.prog 96 (.agg #[a, b, c, d, e]) h = some (.pointer (some ⟨h.blks.length, 0, none⟩), h.new (.cells [a, b, c, d, e]) 96) := by kernel_rfl
theorem spec_leanNew (n : Nat) (me : Int) (h1 : 1 ≤ n) (h2 : n ≤ 16) (h3 : 0 ≤ me) (h4 : me < n) (h : Heap) : ∃ h', evC Tryd.prog 11 #[.int .i64 n, .int .i64 me] h = some (.tuple #[.pointer (some ⟨h.blks.length + 1, 0, none⟩), .int .i64 0], h') ∧ HExt h h' ∧ LEn h' (h.blks.length + 1) h.blks.length n me 0 [] (List.replicate n 0) := by
  rw [call11]
  obtain ⟨h2', q2,Ac, l2, c2⟩ := spec_vecNew n (by omega) (nm h)
  have e0 : (nm h).blks.length = h.blks.length := rfl
  rw [e0] at q2 l2 c2
  have k2 : In h.blks.length No (nm h) h2' := Ac.inn (Nat.le_refl h.blks.length)
  have d3 := Cells.new h2' 96 [.int .i64 n, .int .i64 me, .slice none 0 0, .int .u64 0, .slice (some ⟨h.blks.length, 0, none⟩) n n]
  have k3 := k2.trans (In.new (S := No) (by omega) (.cells [.int .i64 n, .int .i64 me, .slice none 0 0, .int .u64 0, .slice (some ⟨h.blks.length, 0, none⟩) n n]) 96)
  have c3 := c2.keepNew (.cells [.int .i64 n, .int .i64 me, .slice none 0 0, .int .u64 0, .slice (some ⟨h.blks.length, 0, none⟩) n n]) 96
  rw [l2] at d3
  refine ⟨_, ?_, done_ext' k3, ⟨⟨none, 0, ?_, AE.nil _ _⟩, c3.done, by rw [List.length_replicate]; omega⟩⟩
  · simp -implicitDefEqProofs (disch := omega) only [↓c11_0_eq, dcT, dcF, q2, bdLn, bxLn, l2, ↓ret11, ↓cnd_true, ↓cnd_false, ↓Option.bind_some, ↓obH_some', bin_add, bin_sub, bin_mul, bin_lss, bin_leq, bin_gtr, bin_geq, bin_eql, bin_neq, un_not, un_neg, Option.bind_some, Option.bind_none, Option.map_some, cnd_true, cnd_false, pickV_true, pickV_false, gd_true, gd_false, gdV_true, gdV_false, gdH_true, gdH_false, gdS_true, gdS_false, wt_ff, wt_tt, wt_ft, wt_tf, wt_undef, obH_some', extractV_tuple, nilCheckV_ptr, againK_normal, againK_exit, againK_ret, blockK_normal, blockK_same, blockK_ret, seqK_normal, seqK_exit, seqK_ret, fin_done, if_true', if_false', Bool.not_true, Bool.not_false, idx0, idx1, idx2, idx3, idx4, chk_nil_l, chk_nil_r, done_nm, up_cons, up_nil, cond_true, cond_false, Nat.reduceBEq]
  · rw [List.length_replicate]; exact d3.done
end Go.Am
namespace Go.Am
open Go.Proofs
set_option maxRecDepth 100000
set_option linter.all false
attribute [local congr] obind_congr obH_congr cnd_congr chk_congr retK_congr codeK_congr
theorem callCan1 (a0 a1 : Value) (h : Heap) : evC Tryd.prog 48 #[a0, a1] h = cK c48_0 32 (up un [(0, a0), (1, a1)]) (nm h) (retK Tryd.f48 Tryd.prog h) :=
  (evC_call 48 Tryd.f48 c48_0 Tryd.func48 (by kernel_rfl) #[a0, a1] h).trans (by kernel_rfl)
theorem faLn0 (p : Nat) : fieldAddrV Tryd.prog 96 (.pointer (some ⟨p, 0, none⟩)) 0 = some (.pointer (some ⟨p, 0, none⟩)) := by kernel_rfl
theorem faLn1 (p : Nat) : fieldAddrV Tryd.prog 96 (.pointer (some ⟨p, 0, none⟩)) 1 = some (.pointer (some ⟨p, 1, none⟩)) := by kernel_rfl
theorem faLn2 (p : Nat) : fieldAddrV Tryd.prog 96 (.pointer (some ⟨p, 0, none⟩)) 2 = some (.pointer (some ⟨p, 2, none⟩)) := by kernel_rfl
theorem faLn3 (p : Nat) : fieldAddrV Tryd.prog 96 (.pointer (some ⟨p, 0, none⟩)) 3 = some (.pointer (some ⟨p, 3, none⟩)) := by kernel_rfl
theorem faLn4 (p : Nat) : fieldAddrV Tryd.prog 96 (.pointer (some ⟨p, 0, none⟩)) 4 = some (.pointer (some ⟨p, 4, none⟩)) := by kernel_rfl
theorem ldLnP (p o : Nat) (h : Heap) : loadV Tryd.prog 33 (.pointer (some ⟨p, o, none⟩)) h = h.load1 p o := by kernel_rfl
theorem ldVec (p o : Nat) (h : Heap) : loadV Tryd.prog 73 (.pointer (some ⟨p, o, none⟩)) h = h.load1 p o := by kernel_rfl
theorem ldU64 (p o : Nat) (h : Heap) : loadV Tryd.prog 23 (.pointer (some ⟨p, o, none⟩)) h = h.load1 p o := by kernel_rfl
theorem lnVec (a : Option Addr) (n c : Nat) (h : Heap) : lenV Tryd.prog 73 (.slice a n c) h = some (.int .i64 n) := by kernel_rfl
def atN (ns : List Nat) (i : Int) : Nat := if i < 0 ∨ (ns.length : Int) ≤ i then 0 else ns.getD i.toNat 0
theorem spec_vecAt {h : Heap} {v : Value} {ns : List Nat} (s : SU h v ns) (i : Int) : evC Tryd.prog 49 #[v, .int .i64 i] h = some (.int .u64 (atN ns i), h) := by
  rw [call49]
  obtain ⟨a, c, rfl⟩ := s.shape
  unfold atN
  by_cases h1 : i < 0
  · rw [if_pos (.inl h1)]
    simp -implicitDefEqProofs (disch := omega) only [↓c49_0_eq, dcT, ↓ret49, ↓cnd_true, ↓cnd_false, ↓Option.bind_some, ↓obH_some', bin_add, bin_sub, bin_mul, bin_lss, bin_leq, bin_gtr, bin_geq, bin_eql, bin_neq, un_not, un_neg, Option.bind_some, Option.bind_none, Option.map_some, cnd_true, cnd_false, pickV_true, pickV_false, gd_true, gd_false, gdV_true, gdV_false, gdH_true, gdH_false, gdS_true, gdS_false, wt_ff, wt_tt, wt_ft, wt_tf, wt_undef, obH_some', extractV_tuple, nilCheckV_ptr, againK_normal, againK_exit, againK_ret, blockK_normal, blockK_same, blockK_ret, seqK_normal, seqK_exit, seqK_ret, fin_done, if_true', if_false', Bool.not_true, Bool.not_false, idx0, idx1, idx2, idx3, idx4, chk_nil_l, chk_nil_r, done_nm, up_cons, up_nil, cond_true, cond_false, Nat.reduceBEq]
    rfl
  · by_cases h2 : (ns.length : Int) ≤ i
    · rw [if_pos (.inr h2)]
      have g : i ≥ (ns.length : Int) := h2
      simp -implicitDefEqProofs (disch := omega) only [↓c49_0_eq, dcT, dcF, lnVec, ↓ret49, ↓cnd_true, ↓cnd_false, ↓Option.bind_some, ↓obH_some', bin_add, bin_sub, bin_mul, bin_lss, bin_leq, bin_gtr, bin_geq, bin_eql, bin_neq, un_not, un_neg, Option.bind_some, Option.bind_none, Option.map_some, cnd_true, cnd_false, pickV_true, pickV_false, gd_true, gd_false, gdV_true, gdV_false, gdH_true, gdH_false, gdS_true, gdS_false, wt_ff, wt_tt, wt_ft, wt_tf, wt_undef, obH_some', extractV_tuple, nilCheckV_ptr, againK_normal, againK_exit, againK_ret, blockK_normal, blockK_same, blockK_ret, seqK_normal, seqK_exit, seqK_ret, fin_done, if_true', if_false', Bool.not_true, Bool.not_false, idx0, idx1, idx2, idx3, idx4, chk_nil_l, chk_nil_r, done_nm, up_cons, up_nil, cond_true, cond_false, Nat.reduceBEq]
      rfl
    · rw [if_neg (by omega)]
      obtain ⟨k, rfl⟩ : ∃ k : Nat, i = k := ⟨i.toNat, by omega⟩
      rw [Int.toNat_natCast]
      obtain ⟨ad, e1, e2⟩ := su_at (Sl.nm s) (t := 73) (by kernel_rfl) (i := k) (by omega)
      simp -implicitDefEqProofs (disch := omega) only [↓c49_0_eq, dcT, dcF, lnVec, e1, e2, ↓ret49, ↓cnd_true, ↓cnd_false, ↓Option.bind_some, ↓obH_some', bin_add, bin_sub, bin_mul, bin_lss, bin_leq, bin_gtr, bin_geq, bin_eql, bin_neq, un_not, un_neg, Option.bind_some, Option.bind_none, Option.map_some, cnd_true, cnd_false, pickV_true, pickV_false, gd_true, gd_false, gdV_true, gdV_false, gdH_true, gdH_false, gdS_true, gdS_false, wt_ff, wt_tt, wt_ft, wt_tf, wt_undef, obH_some', extractV_tuple, nilCheckV_ptr, againK_normal, againK_exit, againK_ret, blockK_normal, blockK_same, blockK_ret, seqK_normal, seqK_exit, seqK_ret, fin_done, if_true', if_false', Bool.not_true, Bool.not_false, idx0, idx1, idx2, idx3, idx4, chk_nil_l, chk_nil_r, done_nm, up_cons, up_nil, cond_true, cond_false, Nat.reduceBEq]
def stopE (me : Int) (ns : List Nat) (x : E3) : Bool := hasB x.t me && (decide (x.f ≠ me) && decide ((atN ns x.f : Int) < x.n))
theorem LEn.seenS {h : Heap} {p s : Nat} {n me : Int} {num : Nat} {es : List E3} {ns : List Nat} (l : LEn h p s n me num es ns) : SU h (.slice (some ⟨s, 0, none⟩) ns.length ns.length) ns :=
  .mk (l.seen.loadN (n := ns.length * 1) (by simp)) (.inr ⟨Nat.le_refl _, by have := l.len; unfold UNK; omega⟩)
theorem LEn.same {h h' : Heap} {p s : Nat} {n me : Int} {num : Nat} {es : List E3} {ns : List Nat} (l : LEn h p s n me num es ns) (e : Same h h') : LEn h' p s n me num es ns :=
  let ⟨la, lc, a, b⟩ := l.eng
  ⟨⟨la, lc, a.same e, b.same e⟩, l.seen.same e, l.len⟩
theorem spec_Can1 {h : Heap} {pb p s : Nat} {n me : Int} {num : Nat} {es : List E3} {ns : List Nat} (cb : Cells h pb 33 [.pointer (some ⟨p, 0, none⟩)]) (l : LEn h p s n me num es ns) (x : E3) (hx : x.t < 2 ^ 64) :
    ∃ h', evC Tryd.prog 48 #[entV x, .pointer (some ⟨pb, 0, none⟩)] h = some (.bool (stopE me ns x), h') ∧ HExt h h' := by
  rw [callCan1]
  have c1 := Cells.new (nm h) 68 (entC x)
  have k1 : In h.blks.length No (nm h) ((nm h).new (.cells (entC x)) 68) := In.new (h := nm h) (Nat.le_refl h.blks.length) _ _
  have sm : Same h ((nm h).new (.cells (entC x)) 68) := Same.new (nm h) _ _
  have e0 : (nm h).blks.length = h.blks.length := rfl
  rw [e0] at c1
  generalize hh : (nm h).new (.cells (entC x)) 68 = h1 at c1 k1 sm
  have l1 := l.same sm
  obtain ⟨la, lc, ce, _⟩ := l1.eng
  have Aa : h1.load1 h.blks.length 0 = some (.int .i64 x.f) := c1.load 0
  have Ab : h1.load1 h.blks.length (0 + 1) = some (.int .u64 x.n) := c1.load 1
  have Ac : h1.load1 h.blks.length (0 + 2) = some (.int .u64 x.t) := c1.load 2
  have p0 : h1.load1 pb 0 = some (.pointer (some ⟨p, 0, none⟩)) := (cb.same sm).load 0
  have m1 : h1.load1 p 1 = some (.int .i64 me) := ce.load 1
  have m4 : h1.load1 p 4 = some (.slice (some ⟨s, 0, none⟩) ns.length ns.length) := ce.load 4
  have q1 := spec_Has x.t hx me h1
  have q2 := spec_vecAt (Sl.nm l1.seenS) x.f
  unfold stopE
  refine ⟨_, ?_, done_ext' k1⟩
  cases hb : hasB x.t me with
  | false =>
    rw [hb] at q1
    simp -implicitDefEqProofs (disch := omega) only [↓c48_0_eq, ↓c48_1_eq, ↓c48_2_eq, ↓c48_3_eq, ↓c48_4_eq, ↓d48_0_0, ↓d48_0_1, ↓d48_0_2, ↓d48_0_3, ↓d48_0_4, ↓d48_0_5, ↓d48_0_6, ↓d48_0_7, ↓d48_0_8, ↓d48_0_9, ↓d48_0_10, ↓d48_0_11, ↓d48_0_12, ↓d48_0_13, ↓d48_0_14, ↓d48_0_15, ↓d48_0_16, ↓d48_0_17, ↓d48_0_18, ↓d48_0_19, ↓d48_0_20, ↓d48_0_21, ↓d48_0_22, ↓d48_0_23, ↓d48_0_24, ↓d48_0_25, ↓d48_0_26, ↓d48_0_27, ↓d48_0_28, ↓d48_0_29, bxEe, e0, hh, faE0, faE1, faE2, ldS, ldInt, ldU64, ldLnP, ldVec,Aa,Ab,Ac, p0, nilCheckV_ptr, faLn1, faLn4, m1, m4, q1, Bool.false_and, am_nm, nm_mods, List.nil_append, List.append_nil, chk_nil_r, ↓ret48, ↓cnd_true, ↓cnd_false, ↓Option.bind_some, ↓obH_some', bin_add, bin_sub, bin_mul, bin_lss, bin_leq, bin_gtr, bin_geq, bin_eql, bin_neq, un_not, un_neg, Option.bind_some, Option.bind_none, Option.map_some, cnd_true, cnd_false, pickV_true, pickV_false, gd_true, gd_false, gdV_true, gdV_false, gdH_true, gdH_false, gdS_true, gdS_false, wt_ff, wt_tt, wt_ft, wt_tf, wt_undef, obH_some', extractV_tuple, nilCheckV_ptr, againK_normal, againK_exit, againK_ret, blockK_normal, blockK_same, blockK_ret, seqK_normal, seqK_exit, seqK_ret, fin_done, if_true', if_false', Bool.not_true, Bool.not_false, idx0, idx1, idx2, idx3, idx4, chk_nil_l, chk_nil_r, done_nm, up_cons, up_nil, cond_true, cond_false, Nat.reduceBEq]
  | true =>
    rw [hb] at q1
    by_cases hf : x.f = me
    · have d1 : decide (x.f ≠ me) = false := decide_eq_false (fun h => h hf)
      simp -implicitDefEqProofs (disch := omega) only [↓c48_0_eq, ↓c48_1_eq, ↓c48_2_eq, ↓c48_3_eq, ↓c48_4_eq, ↓d48_0_0, ↓d48_0_1, ↓d48_0_2, ↓d48_0_3, ↓d48_0_4, ↓d48_0_5, ↓d48_0_6, ↓d48_0_7, ↓d48_0_8, ↓d48_0_9, ↓d48_0_10, ↓d48_0_11, ↓d48_0_12, ↓d48_0_13, ↓d48_0_14, ↓d48_0_15, ↓d48_0_16, ↓d48_0_17, ↓d48_0_18, ↓d48_0_19, ↓d48_0_20, ↓d48_0_21, ↓d48_0_22, ↓d48_0_23, ↓d48_0_24, ↓d48_0_25, ↓d48_0_26, ↓d48_0_27, ↓d48_0_28, ↓d48_0_29, bxEe, e0, hh, faE0, faE1, faE2, ldS, ldInt, ldU64, ldLnP, ldVec,Aa,Ab,Ac, p0, nilCheckV_ptr, faLn1, faLn4, m1, m4, q1, d1, Bool.false_and, Bool.true_and, am_nm, nm_mods, List.nil_append, List.append_nil, chk_nil_r, ↓ret48, ↓cnd_true, ↓cnd_false, ↓Option.bind_some, ↓obH_some', bin_add, bin_sub, bin_mul, bin_lss, bin_leq, bin_gtr, bin_geq, bin_eql, bin_neq, un_not, un_neg, Option.bind_some, Option.bind_none, Option.map_some, cnd_true, cnd_false, pickV_true, pickV_false, gd_true, gd_false, gdV_true, gdV_false, gdH_true, gdH_false, gdS_true, gdS_false, wt_ff, wt_tt, wt_ft, wt_tf, wt_undef, obH_some', extractV_tuple, nilCheckV_ptr, againK_normal, againK_exit, againK_ret, blockK_normal, blockK_same, blockK_ret, seqK_normal, seqK_exit, seqK_ret, fin_done, if_true', if_false', Bool.not_true, Bool.not_false, idx0, idx1, idx2, idx3, idx4, chk_nil_l, chk_nil_r, done_nm, up_cons, up_nil, cond_true, cond_false, Nat.reduceBEq]
    · have d1 : decide (x.f ≠ me) = true := decide_eq_true hf
      simp -implicitDefEqProofs (disch := omega) only [↓c48_0_eq, ↓c48_1_eq, ↓c48_2_eq, ↓c48_3_eq, ↓c48_4_eq, ↓d48_0_0, ↓d48_0_1, ↓d48_0_2, ↓d48_0_3, ↓d48_0_4, ↓d48_0_5, ↓d48_0_6, ↓d48_0_7, ↓d48_0_8, ↓d48_0_9, ↓d48_0_10, ↓d48_0_11, ↓d48_0_12, ↓d48_0_13, ↓d48_0_14, ↓d48_0_15, ↓d48_0_16, ↓d48_0_17, ↓d48_0_18, ↓d48_0_19, ↓d48_0_20, ↓d48_0_21, ↓d48_0_22, ↓d48_0_23, ↓d48_0_24, ↓d48_0_25, ↓d48_0_26, ↓d48_0_27, ↓d48_0_28, ↓d48_0_29, bxEe, e0, hh, faE0, faE1, faE2, ldS, ldInt, ldU64, ldLnP, ldVec,Aa,Ab,Ac, p0, nilCheckV_ptr, faLn1, faLn4, m1, m4, q1, d1, q2, am_nm, nm_mods, List.nil_append, List.append_nil, chk_nil_r, Bool.true_and, ↓ret48, ↓cnd_true, ↓cnd_false, ↓Option.bind_some, ↓obH_some', bin_add, bin_sub, bin_mul, bin_lss, bin_leq, bin_gtr, bin_geq, bin_eql, bin_neq, un_not, un_neg, Option.bind_some, Option.bind_none, Option.map_some, cnd_true, cnd_false, pickV_true, pickV_false, gd_true, gd_false, gdV_true, gdV_false, gdH_true, gdH_false, gdS_true, gdS_false, wt_ff, wt_tt, wt_ft, wt_tf, wt_undef, obH_some', extractV_tuple, nilCheckV_ptr, againK_normal, againK_exit, againK_ret, blockK_normal, blockK_same, blockK_ret, seqK_normal, seqK_exit, seqK_ret, fin_done, if_true', if_false', Bool.not_true, Bool.not_false, idx0, idx1, idx2, idx3, idx4, chk_nil_l, chk_nil_r, done_nm, up_cons, up_nil, cond_true, cond_false, Nat.reduceBEq]
end Go.Am
namespace Go.Am
open Go.Proofs
set_option maxRecDepth 100000
set_option linter.all false
attribute [local congr] obind_congr obH_congr cnd_congr chk_congr retK_congr codeK_congr
theorem sameNm (h : Heap) : Same h (nm h) := ⟨Nat.le_refl _, fun _ _ => rfl⟩
theorem callClos (a b : Value) (h : Heap) : callV Tryd.prog (evC Tryd.prog) (.func (.func 48) #[] #[b]) #[a] h = evC Tryd.prog 48 #[a, b] h := by kernel_rfl
theorem idx_loop {h0 h1 : Heap} {v : Value} {g : List E3} {pb p s : Nat} {n me : Int} {num : Nat} {es : List E3} {ns : List Nat} (sv : SE h1 v g) (hw : wide g) (hl : g.length < 2 ^ 40) (cb : Cells h1 pb 33 [.pointer (some ⟨p, 0, none⟩)]) (l : LEn h1 p s n me num es ns) :
    ∀ (m i : Nat), g.length - i = m → i ≤ g.length → ∀ (x : Nat → Value) (h : Heap),In h0.blks.length No (nm h0) h → Same h1 h → x 0 = v → x 1 = .func (.func 48) #[] #[.pointer (some ⟨pb, 0, none⟩)] → x 7 = .int .i64 g.length → x 8 = .int .i64 i →
    ∃ (k : Int) (h' : Heap), lK c71_1 19 x h (blockK 0 (sK c71_2 (retK Tryd.f71 Tryd.prog h0))) = some (.int .i64 k, done h0 h') ∧ In h0.blks.length No (nm h0) h' ∧ decide (k ≥ 0) = (g.drop i).any (stopE me ns) := by
  intro m
  induction m with
  | zero =>
    intro i e1 e2 x h hin hs Aa Ab Ah Ai
    obtain rfl : i = g.length := by omega
    rw [lK_eq, List.drop_length]
    refine ⟨-1, h, ?_, hin, rfl⟩
    simp -implicitDefEqProofs (disch := omega) only [↓c71_1_eq, ↓c71_2_eq,Ah,Ai, dcF, ↓ret71, ↓cnd_true, ↓cnd_false, ↓Option.bind_some, ↓obH_some', bin_add, bin_sub, bin_mul, bin_lss, bin_leq, bin_gtr, bin_geq, bin_eql, bin_neq, un_not, un_neg, Option.bind_some, Option.bind_none, Option.map_some, cnd_true, cnd_false, pickV_true, pickV_false, gd_true, gd_false, gdV_true, gdV_false, gdH_true, gdH_false, gdS_true, gdS_false, wt_ff, wt_tt, wt_ft, wt_tf, wt_undef, obH_some', extractV_tuple, nilCheckV_ptr, againK_normal, againK_exit, againK_ret, blockK_normal, blockK_same, blockK_ret, seqK_normal, seqK_exit, seqK_ret, fin_done, if_true', if_false', Bool.not_true, Bool.not_false, idx0, idx1, idx2, idx3, idx4, chk_nil_l, chk_nil_r, done_nm, up_cons, up_nil, cond_true, cond_false, Nat.reduceBEq]
  | succ m ih =>
    intro i hm hi x h hin hs Aa Ab Ah Ai
    have hil : i < g.length := by omega
    obtain ⟨b, o, hb, hbl, e1, e2⟩ := sv.at' (t := 63) (el := 68) (by kernel_rfl) (by kernel_rfl) hil
    obtain ⟨f1, _⟩ := e2 h (hs.2 b hbl)
    obtain ⟨h2, q2, y2⟩ := spec_Can1 (cb.same hs) (l.same hs) g[i] (hw _ (List.getElem_mem hil)).2
    have hin2 := hin.trans (y2.inn (Nat.le_trans hin.le hin.len))
    have wi : IntKind.i64.wrap ((i : Int) + 1) = ((i + 1 : Nat) : Int) := by rw [wrap_i64] <;> omega
    rw [lK_eq, List.drop_eq_getElem_cons hil, List.any_cons]
    cases hst : stopE me ns g[i] with
    | true =>
      rw [hst] at q2
      refine ⟨i, h2, ?_, hin2, by simp⟩
      simp -implicitDefEqProofs (disch := omega) only [↓c71_1_eq, ↓c71_2_eq,Aa,Ab,Ah,Ai, dcT, e1, ldE, f1, Option.map_some, entA, callClos, q2, ↓ret71, ↓cnd_true, ↓cnd_false, ↓Option.bind_some, ↓obH_some', bin_add, bin_sub, bin_mul, bin_lss, bin_leq, bin_gtr, bin_geq, bin_eql, bin_neq, un_not, un_neg, Option.bind_some, Option.bind_none, Option.map_some, cnd_true, cnd_false, pickV_true, pickV_false, gd_true, gd_false, gdV_true, gdV_false, gdH_true, gdH_false, gdS_true, gdS_false, wt_ff, wt_tt, wt_ft, wt_tf, wt_undef, obH_some', extractV_tuple, nilCheckV_ptr, againK_normal, againK_exit, againK_ret, blockK_normal, blockK_same, blockK_ret, seqK_normal, seqK_exit, seqK_ret, fin_done, if_true', if_false', Bool.not_true, Bool.not_false, idx0, idx1, idx2, idx3, idx4, chk_nil_l, chk_nil_r, done_nm, up_cons, up_nil, cond_true, cond_false, Nat.reduceBEq]
    | false =>
      rw [hst] at q2
      rw [Bool.false_or]
      simp -implicitDefEqProofs (disch := omega) only [↓c71_1_eq, ↓c71_2_eq,Aa,Ab,Ah,Ai, dcT, e1, ldE, f1, Option.map_some, entA, callClos, q2, wi, ↓cnd_true, ↓cnd_false, ↓Option.bind_some, ↓obH_some', bin_add, bin_sub, bin_mul, bin_lss, bin_leq, bin_gtr, bin_geq, bin_eql, bin_neq, un_not, un_neg, Option.bind_some, Option.bind_none, Option.map_some, cnd_true, cnd_false, pickV_true, pickV_false, gd_true, gd_false, gdV_true, gdV_false, gdH_true, gdH_false, gdS_true, gdS_false, wt_ff, wt_tt, wt_ft, wt_tf, wt_undef, obH_some', extractV_tuple, nilCheckV_ptr, againK_normal, againK_exit, againK_ret, blockK_normal, blockK_same, blockK_ret, seqK_normal, seqK_exit, seqK_ret, fin_done, if_true', if_false', Bool.not_true, Bool.not_false, idx0, idx1, idx2, idx3, idx4, chk_nil_l, chk_nil_r, done_nm, up_cons, up_nil, cond_true, cond_false, Nat.reduceBEq]
      refine ih (i + 1) (by omega) (by omega) _ h2 hin2 (hs.trans y2.same) ?_ ?_ ?_ ?_
      · exact Aa
      · exact Ab
      · exact Ah
      · rfl
theorem spec_Contains {h : Heap} {v : Value} {g : List E3} {pb p s : Nat} {n me : Int} {num : Nat} {es : List E3} {ns : List Nat} (sv : SE h v g) (hw : wide g) (hl : g.length < 2 ^ 40) (cb : Cells h pb 33 [.pointer (some ⟨p, 0, none⟩)]) (l : LEn h p s n me num es ns) :
    ∃ h', evC Tryd.prog 47 #[v, .func (.func 48) #[] #[.pointer (some ⟨pb, 0, none⟩)]] h = some (.bool (g.any (stopE me ns)), h') ∧ HExt h h' := by
  have ix : ∀ h, SE h v g → Cells h pb 33 [.pointer (some ⟨p, 0, none⟩)] → LEn h p s n me num es ns → ∃ (k : Int) (h' : Heap), evC Tryd.prog 71 #[v, .func (.func 48) #[] #[.pointer (some ⟨pb, 0, none⟩)]] h = some (.int .i64 k, h') ∧ HExt h h' ∧ decide (k ≥ 0) = g.any (stopE me ns) := fun h sv cb l => by
    rw [call71]
    have lp := idx_loop (h0 := h) (h1 := nm h) sv.nm hw hl cb (l.same (sameNm h)) g.length 0 (by omega) (by omega)
    obtain ⟨a, c, rfl⟩ := sv.shape
    have fin' : ∀ {r : Option (Value × Heap)}, (∃ (k : Int) (h' : Heap), r = some (.int .i64 k, done h h') ∧ In h.blks.length No (nm h) h' ∧ decide (k ≥ 0) = (g.drop 0).any (stopE me ns)) → ∃ (k : Int) (h' : Heap), r = some (.int .i64 k, h') ∧ HExt h h' ∧ decide (k ≥ 0) = g.any (stopE me ns) := fun ⟨k, h', q1, q2, q3⟩ => ⟨k, _, q1, done_ext' q2, q3⟩
    simp -implicitDefEqProofs (disch := omega) only [↓c71_0_eq, lnEs, ↓cnd_true, ↓cnd_false, ↓Option.bind_some, ↓obH_some', bin_add, bin_sub, bin_mul, bin_lss, bin_leq, bin_gtr, bin_geq, bin_eql, bin_neq, un_not, un_neg, Option.bind_some, Option.bind_none, Option.map_some, cnd_true, cnd_false, pickV_true, pickV_false, gd_true, gd_false, gdV_true, gdV_false, gdH_true, gdH_false, gdS_true, gdS_false, wt_ff, wt_tt, wt_ft, wt_tf, wt_undef, obH_some', extractV_tuple, nilCheckV_ptr, againK_normal, againK_exit, againK_ret, blockK_normal, blockK_same, blockK_ret, seqK_normal, seqK_exit, seqK_ret, fin_done, if_true', if_false', Bool.not_true, Bool.not_false, idx0, idx1, idx2, idx3, idx4, chk_nil_l, chk_nil_r, done_nm, up_cons, up_nil, cond_true, cond_false, Nat.reduceBEq]
    refine fin' (lp _ _ (In.refl (Nat.le_refl _)) (Same.refl _) ?_ ?_ ?_ ?_)
    all_goals rfl
  rw [call47]
  obtain ⟨k, h2, q2,Ac, hk⟩ := ix (nm h) sv.nm cb (l.same (sameNm h))
  refine ⟨_, ?_, done_ext' (Ac.inn (Nat.le_refl h.blks.length))⟩
  simp -implicitDefEqProofs (disch := omega) only [↓c47_0_eq, q2, hk, ↓ret47, ↓cnd_true, ↓cnd_false, ↓Option.bind_some, ↓obH_some', bin_add, bin_sub, bin_mul, bin_lss, bin_leq, bin_gtr, bin_geq, bin_eql, bin_neq, un_not, un_neg, Option.bind_some, Option.bind_none, Option.map_some, cnd_true, cnd_false, pickV_true, pickV_false, gd_true, gd_false, gdV_true, gdV_false, gdH_true, gdH_false, gdS_true, gdS_false, wt_ff, wt_tt, wt_ft, wt_tf, wt_undef, obH_some', extractV_tuple, nilCheckV_ptr, againK_normal, againK_exit, againK_ret, blockK_normal, blockK_same, blockK_ret, seqK_normal, seqK_exit, seqK_ret, fin_done, if_true', if_false', Bool.not_true, Bool.not_false, idx0, idx1, idx2, idx3, idx4, chk_nil_l, chk_nil_r, done_nm, up_cons, up_nil, cond_true, cond_false, Nat.reduceBEq]
def canE (n me : Int) (ns : List Nat) (fr : Int) (num : Nat) (bs : List UInt8) : Bool := match getP bs with
  | none => false
  | some g => if fr < 0 ∨ n ≤ fr ∨ fr = me ∨ num < 1 then false else !g.any (stopE me ns)
theorem bxLnP (p : Nat) (h : Heap) : boxV Tryd.prog 33 (.pointer (some ⟨p, 0, none⟩)) h = some (.pointer (some ⟨h.blks.length, 0, none⟩), h.new (.cells [.pointer (some ⟨p, 0, none⟩)]) 33) := by kernel_rfl
theorem getP_wide {bs : List UInt8} {g : List E3} (h : getP bs = some g) : wide g := by
  unfold getP logOf at h
  split at h
  · cases h; exact rdN_wide _ _
  · cases h
theorem spec_Can {h : Heap} {p s : Nat} {n me : Int} {num : Nat} {es : List E3} {ns : List Nat} (l : LEn h p s n me num es ns) (fr : Int) (k : Nat) {v : Value} {bs : List UInt8} (sb : SB h v bs) (hl : bs.length < 2 ^ 30) :
    ∃ h', evC Tryd.prog 16 #[.pointer (some ⟨p, 0, none⟩), .int .i64 fr, .int .u64 k, v] h = some (.bool (canE n me ns fr k bs), h') ∧ HExt h h' := by
  rw [call16]
  have c1 := Cells.new (nm h) 33 [.pointer (some ⟨p, 0, none⟩)]
  have k1 : In h.blks.length No (nm h) ((nm h).new (.cells [.pointer (some ⟨p, 0, none⟩)]) 33) := In.new (h := nm h) (Nat.le_refl h.blks.length) _ _
  have sm : Same h ((nm h).new (.cells [.pointer (some ⟨p, 0, none⟩)]) 33) := Same.new (nm h) _ _
  have e0 : (nm h).blks.length = h.blks.length := rfl
  have e1 : ((nm h).new (.cells [.pointer (some ⟨p, 0, none⟩)]) 33).blks.length = h.blks.length + 1 := by simp [Heap.new]
  rw [e0] at c1
  generalize hh : (nm h).new (.cells [.pointer (some ⟨p, 0, none⟩)]) 33 = h1 at c1 k1 sm e1
  obtain ⟨a2, c2, h2, q2,Ac, r2⟩ := spec_Get18 (Sl.same sb sm) hl
  have hx2 := Ac.len
  have d3 := Cells.new h2 65 [.slice none 0 0]
  have st := storeN_blk d3 (o := 0) (vs := [.slice a2 ((getP bs).getD []).length c2]) (by simp)
  simp only [List.take_zero, List.nil_append, List.append_nil, List.length_cons, List.length_nil, List.drop_succ_cons, List.drop_zero, Nat.zero_add] at st
  have k2 := k1.trans (Ac.inn (by omega))
  have k3 := (k2.trans (In.new (S := No) (by omega) (.cells [.slice none 0 0]) 65)).trans (In.put (S := No) (by simp [Heap.new]; omega) (p := h2.blks.length) (.inl (by omega)) (.cells [.slice a2 ((getP bs).getD []).length c2]))
  have y3 := same_np h2 (.cells [.slice none 0 0]) (.cells [.slice a2 ((getP bs).getD []).length c2]) 65
  have g3 := d3.put [.slice a2 ((getP bs).getD []).length c2]
  have s3 : SE ((h2.new (.cells [.slice none 0 0]) 65).put h2.blks.length (.cells [.slice a2 ((getP bs).getD []).length c2])) (.slice a2 ((getP bs).getD []).length c2) ((getP bs).getD []) := Sl.same (AE.se r2) y3
  generalize hh3 : (h2.new (.cells [.slice none 0 0]) 65).put h2.blks.length (.cells [.slice a2 ((getP bs).getD []).length c2]) = h3 at st k3 y3 g3 s3
  have sm3 := (sm.trans Ac.same).trans y3
  have l3 := l.same sm3
  obtain ⟨la, lc, ce, _⟩ := l3.eng
  have p0 : h3.load1 h.blks.length 0 = some (.pointer (some ⟨p, 0, none⟩)) := ((c1.ext Ac).same y3).load 0
  have m0 : h3.load1 p 0 = some (.int .i64 n) := ce.load 0
  have m1 : h3.load1 p 1 = some (.int .i64 me) := ce.load 1
  have lg : h3.load1 h2.blks.length 0 = some (.slice a2 ((getP bs).getD []).length c2) := g3.load 0
  unfold canE
  cases hg : getP bs with
  | none =>
    rw [hg] at q2 st
    simp only [Option.getD_none, Option.isSome_none] at q2 st
    refine ⟨_, ?_, done_ext' k3⟩
    simp -implicitDefEqProofs (disch := omega) only [↓c16_0_eq, bxLnP, e0, hh, q2, extractV_tuple, alL, stL, st, ↓ret16, ↓cnd_true, ↓cnd_false, ↓Option.bind_some, ↓obH_some', bin_add, bin_sub, bin_mul, bin_lss, bin_leq, bin_gtr, bin_geq, bin_eql, bin_neq, un_not, un_neg, Option.bind_some, Option.bind_none, Option.map_some, cnd_true, cnd_false, pickV_true, pickV_false, gd_true, gd_false, gdV_true, gdV_false, gdH_true, gdH_false, gdS_true, gdS_false, wt_ff, wt_tt, wt_ft, wt_tf, wt_undef, obH_some', extractV_tuple, nilCheckV_ptr, againK_normal, againK_exit, againK_ret, blockK_normal, blockK_same, blockK_ret, seqK_normal, seqK_exit, seqK_ret, fin_done, if_true', if_false', Bool.not_true, Bool.not_false, idx0, idx1, idx2, idx3, idx4, chk_nil_l, chk_nil_r, done_nm, up_cons, up_nil, cond_true, cond_false, Nat.reduceBEq]
  | some g =>
    rw [hg] at q2 st s3 lg
    simp only [Option.getD_some, Option.isSome_some] at q2 st s3 lg
    by_cases hbad : fr < 0 ∨ n ≤ fr ∨ fr = me ∨ k < 1
    · refine ⟨_, ?_, done_ext' k3⟩
      simp only [if_pos hbad]
      by_cases b1 : fr < 0
      · simp -implicitDefEqProofs (disch := omega) only [↓c16_0_eq, bxLnP, e0, hh, q2, extractV_tuple, alL, stL, st, dcT, ↓ret16, ↓cnd_true, ↓cnd_false, ↓Option.bind_some, ↓obH_some', bin_add, bin_sub, bin_mul, bin_lss, bin_leq, bin_gtr, bin_geq, bin_eql, bin_neq, un_not, un_neg, Option.bind_some, Option.bind_none, Option.map_some, cnd_true, cnd_false, pickV_true, pickV_false, gd_true, gd_false, gdV_true, gdV_false, gdH_true, gdH_false, gdS_true, gdS_false, wt_ff, wt_tt, wt_ft, wt_tf, wt_undef, obH_some', extractV_tuple, nilCheckV_ptr, againK_normal, againK_exit, againK_ret, blockK_normal, blockK_same, blockK_ret, seqK_normal, seqK_exit, seqK_ret, fin_done, if_true', if_false', Bool.not_true, Bool.not_false, idx0, idx1, idx2, idx3, idx4, chk_nil_l, chk_nil_r, done_nm, up_cons, up_nil, cond_true, cond_false, Nat.reduceBEq]
      · by_cases b2 : fr ≥ n
        · simp -implicitDefEqProofs (disch := omega) only [↓c16_0_eq, bxLnP, e0, hh, q2, extractV_tuple, alL, stL, st, dcT, dcF, ldLnP, p0, nilCheckV_ptr, faLn0, ldI, m0, ↓ret16, ↓cnd_true, ↓cnd_false, ↓Option.bind_some, ↓obH_some', bin_add, bin_sub, bin_mul, bin_lss, bin_leq, bin_gtr, bin_geq, bin_eql, bin_neq, un_not, un_neg, Option.bind_some, Option.bind_none, Option.map_some, cnd_true, cnd_false, pickV_true, pickV_false, gd_true, gd_false, gdV_true, gdV_false, gdH_true, gdH_false, gdS_true, gdS_false, wt_ff, wt_tt, wt_ft, wt_tf, wt_undef, obH_some', extractV_tuple, nilCheckV_ptr, againK_normal, againK_exit, againK_ret, blockK_normal, blockK_same, blockK_ret, seqK_normal, seqK_exit, seqK_ret, fin_done, if_true', if_false', Bool.not_true, Bool.not_false, idx0, idx1, idx2, idx3, idx4, chk_nil_l, chk_nil_r, done_nm, up_cons, up_nil, cond_true, cond_false, Nat.reduceBEq]
        · by_cases b3 : fr = me
          · have d3 : decide (fr = me) = true := decide_eq_true b3
            simp -implicitDefEqProofs (disch := omega) only [↓c16_0_eq, bxLnP, e0, hh, q2, extractV_tuple, alL, stL, st, dcT, dcF, ldLnP, p0, nilCheckV_ptr, faLn0, faLn1, ldI, m0, m1, d3, ↓ret16, ↓cnd_true, ↓cnd_false, ↓Option.bind_some, ↓obH_some', bin_add, bin_sub, bin_mul, bin_lss, bin_leq, bin_gtr, bin_geq, bin_eql, bin_neq, un_not, un_neg, Option.bind_some, Option.bind_none, Option.map_some, cnd_true, cnd_false, pickV_true, pickV_false, gd_true, gd_false, gdV_true, gdV_false, gdH_true, gdH_false, gdS_true, gdS_false, wt_ff, wt_tt, wt_ft, wt_tf, wt_undef, obH_some', extractV_tuple, nilCheckV_ptr, againK_normal, againK_exit, againK_ret, blockK_normal, blockK_same, blockK_ret, seqK_normal, seqK_exit, seqK_ret, fin_done, if_true', if_false', Bool.not_true, Bool.not_false, idx0, idx1, idx2, idx3, idx4, chk_nil_l, chk_nil_r, done_nm, up_cons, up_nil, cond_true, cond_false, Nat.reduceBEq]
          · have d3 : decide (fr = me) = false := decide_eq_false b3
            have b4 : (k : Int) < 1 := by omega
            simp -implicitDefEqProofs (disch := omega) only [↓c16_0_eq, bxLnP, e0, hh, q2, extractV_tuple, alL, stL, st, dcT, dcF, ldLnP, p0, nilCheckV_ptr, faLn0, faLn1, ldI, m0, m1, d3, ↓ret16, ↓cnd_true, ↓cnd_false, ↓Option.bind_some, ↓obH_some', bin_add, bin_sub, bin_mul, bin_lss, bin_leq, bin_gtr, bin_geq, bin_eql, bin_neq, un_not, un_neg, Option.bind_some, Option.bind_none, Option.map_some, cnd_true, cnd_false, pickV_true, pickV_false, gd_true, gd_false, gdV_true, gdV_false, gdH_true, gdH_false, gdS_true, gdS_false, wt_ff, wt_tt, wt_ft, wt_tf, wt_undef, obH_some', extractV_tuple, nilCheckV_ptr, againK_normal, againK_exit, againK_ret, blockK_normal, blockK_same, blockK_ret, seqK_normal, seqK_exit, seqK_ret, fin_done, if_true', if_false', Bool.not_true, Bool.not_false, idx0, idx1, idx2, idx3, idx4, chk_nil_l, chk_nil_r, done_nm, up_cons, up_nil, cond_true, cond_false, Nat.reduceBEq]
    · simp only [if_neg hbad]
      have gl : g.length < 2 ^ 40 := by
        have := getP_len bs
        rw [hg] at this
        simp only [Option.getD_some] at this
        omega
      obtain ⟨h4, q4,Ae⟩ := spec_Contains s3 (getP_wide hg) gl ((c1.ext Ac).same y3) l3
      refine ⟨_, ?_, done_ext' (k3.trans (Ae.inn (Nat.le_trans k3.le k3.len)))⟩
      have d3 : decide (fr = me) = false := decide_eq_false (by omega)
      simp -implicitDefEqProofs (disch := omega) only [↓c16_0_eq, bxLnP, e0, hh, q2, extractV_tuple, alL, stL, st, dcT, dcF, ldLnP, p0, nilCheckV_ptr, faLn0, faLn1, ldI, m0, m1, d3, faL, ldEs, lg, q4, ↓ret16, ↓cnd_true, ↓cnd_false, ↓Option.bind_some, ↓obH_some', bin_add, bin_sub, bin_mul, bin_lss, bin_leq, bin_gtr, bin_geq, bin_eql, bin_neq, un_not, un_neg, Option.bind_some, Option.bind_none, Option.map_some, cnd_true, cnd_false, pickV_true, pickV_false, gd_true, gd_false, gdV_true, gdV_false, gdH_true, gdH_false, gdS_true, gdS_false, wt_ff, wt_tt, wt_ft, wt_tf, wt_undef, obH_some', extractV_tuple, nilCheckV_ptr, againK_normal, againK_exit, againK_ret, blockK_normal, blockK_same, blockK_ret, seqK_normal, seqK_exit, seqK_ret, fin_done, if_true', if_false', Bool.not_true, Bool.not_false, idx0, idx1, idx2, idx3, idx4, chk_nil_l, chk_nil_r, done_nm, up_cons, up_nil, cond_true, cond_false, Nat.reduceBEq]
end Go.Am
namespace Go.Am
open Go.Proofs
set_option maxRecDepth 100000
set_option linter.all false
attribute [local congr] obind_congr obH_congr cnd_congr chk_congr retK_congr codeK_congr
theorem faLo (p o : Nat) : fieldAddrV Tryd.prog 65 (.pointer (some ⟨p, o, none⟩)) 0 = some (.pointer (some ⟨p, o, none⟩)) := by kernel_rfl
theorem ldLo (p o : Nat) (h : Heap) : loadV Tryd.prog 65 (.pointer (some ⟨p, o, none⟩)) h = (h.loadN p o 1).map fun cs => .agg cs.toArray := by kernel_rfl
theorem stLo (p o : Nat) (a : Option Addr) (n c : Nat) (h : Heap) : storeV Tryd.prog 65 (.pointer (some ⟨p, o, none⟩)) (.agg #[.slice a n c]) h = h.storeN p o [.slice a n c] := by kernel_rfl
theorem spec_Log {h : Heap} {p s : Nat} {n me : Int} {num : Nat} {es : List E3} {ns : List Nat} (l : LEn h p s n me num es ns) (hl : es.length < 2 ^ 39) :
    ∃ a c h', evC Tryd.prog 24 #[.pointer (some ⟨p, 0, none⟩)] h = some (.agg #[.slice a es.length c], h') ∧ HExt h h' ∧ SE h' (.slice a es.length c) es := by
  rw [call24]
  have c1 := Cells.new (nm h) 65 [.slice none 0 0]
  have k1 : In h.blks.length No (nm h) ((nm h).new (.cells [.slice none 0 0]) 65) := In.new (h := nm h) (Nat.le_refl h.blks.length) _ _
  have sm : Same h ((nm h).new (.cells [.slice none 0 0]) 65) := Same.new (nm h) _ _
  have e0 : (nm h).blks.length = h.blks.length := rfl
  have e1 : ((nm h).new (.cells [.slice none 0 0]) 65).blks.length = h.blks.length + 1 := by simp [Heap.new]
  rw [e0] at c1
  generalize hh : (nm h).new (.cells [.slice none 0 0]) 65 = h1 at c1 k1 sm e1
  obtain ⟨la, lc, ce, ae⟩ := (l.same sm).eng
  have m2 : h1.load1 p 2 = some (.slice la es.length lc) := ce.load 2
  obtain ⟨a, c, h2, q2,Ac, r2⟩ := spec_CloneE ae.se hl
  have d2 := c1.ext Ac
  have st := storeN_blk d2 (o := 0) (vs := [.slice a es.length c]) (by simp)
  simp only [List.take_zero, List.nil_append, List.append_nil, List.length_cons, List.length_nil, List.drop_succ_cons, List.drop_zero, Nat.zero_add] at st
  have g := d2.put [.slice a es.length c]
  have k2 := k1.trans (Ac.inn (by omega))
  have k3 := k2.trans (In.put (S := No) (Nat.le_trans k2.le k2.len) (p := h.blks.length) (.inl (Nat.le_refl _)) (.cells [.slice a es.length c]))
  have lg : (Heap.loadN (h2.put h.blks.length (.cells [.slice a es.length c])) h.blks.length 0 1).map (fun cs => Value.agg cs.toArray) = some (.agg #[.slice a es.length c]) := by rw [g.loadN (n := 1) rfl]; rfl
  refine ⟨a, c, _, ?_, done_ext' k3,Sl.done ((AE.se r2).keepPut (fun e => by have := Acc.ge r2 e; omega) _)⟩
  simp -implicitDefEqProofs (disch := omega) only [↓c24_0_eq, alL, e0, hh, nilCheckV_ptr, faLn2, faLo, ldEs, m2, q2, bdL, stL, st, ldL, lg, rvals, ↓ret24, ↓cnd_true, ↓cnd_false, ↓Option.bind_some, ↓obH_some', bin_add, bin_sub, bin_mul, bin_lss, bin_leq, bin_gtr, bin_geq, bin_eql, bin_neq, un_not, un_neg, Option.bind_some, Option.bind_none, Option.map_some, cnd_true, cnd_false, pickV_true, pickV_false, gd_true, gd_false, gdV_true, gdV_false, gdH_true, gdH_false, gdS_true, gdS_false, wt_ff, wt_tt, wt_ft, wt_tf, wt_undef, obH_some', extractV_tuple, nilCheckV_ptr, againK_normal, againK_exit, againK_ret, blockK_normal, blockK_same, blockK_ret, seqK_normal, seqK_exit, seqK_ret, fin_done, if_true', if_false', Bool.not_true, Bool.not_false, idx0, idx1, idx2, idx3, idx4, chk_nil_l, chk_nil_r, done_nm, up_cons, up_nil, cond_true, cond_false, Nat.reduceBEq]
theorem mkV0 (h : Heap) : buildSliceV Tryd.prog 73 0 #[] h = some (.slice (some ⟨h.blks.length, 0, none⟩) 0 0, h.new (.cells []) 23) := by kernel_rfl
theorem spec_Seen {h : Heap} {p s : Nat} {n me : Int} {num : Nat} {es : List E3} {ns : List Nat} (l : LEn h p s n me num es ns) :
    ∃ a c h', evC Tryd.prog 28 #[.pointer (some ⟨p, 0, none⟩)] h = some (.slice a ns.length c, h') ∧ HExt h h' ∧ SU h' (.slice a ns.length c) ns := by
  have cl : ∀ h, LEn h p s n me num es ns → ∃ a c h', evC Tryd.prog 53 #[.slice (some ⟨s, 0, none⟩) ns.length ns.length] h = some (.slice a ns.length c, h') ∧ HExt h h' ∧ SU h' (.slice a ns.length c) ns := fun h l => by
    rw [call53]
    have e0 := fun xo yo => bin_nil_some (P := Tryd.prog) (t := 73) (e := 23) (by kernel_rfl) xo yo ⟨s, 0, none⟩ ns.length ns.length
    have hn : h.blks.length ≤ (nm h).blks.length := Nat.le_refl _
    have hll := l.len
    have l1 := (l.same (sameNm h)).same (Same.new (nm h) (.cells []) 23)
    have em : AU h.blks.length ((nm h).new (.cells []) 23) (.slice (some ⟨h.blks.length, 0, none⟩) 0 0) [] := .full (all := []) hn (by omega) (blk_new_self _ _ _) (by simp) rfl
    obtain ⟨a2, c2, h2, e2, a3, k2, _⟩ := app_nums etV etV.under (n0 := h.blks.length) (h := (nm h).new (.cells []) 23) (by simp [Heap.new]) em l1.seenS (by simp; omega)
    simp only [List.nil_append] at e2 a3
    refine ⟨a2, c2, done h h2, ?_, done_ext' ((In.new (h := nm h) hn _ _).trans k2.inn), (AU.su a3).done⟩
    simp -implicitDefEqProofs (disch := omega) only [↓c53_0_eq, e0, mkV0, show (nm h).blks.length = h.blks.length from rfl, e2, ↓ret53, ↓cnd_true, ↓cnd_false, ↓Option.bind_some, ↓obH_some', bin_add, bin_sub, bin_mul, bin_lss, bin_leq, bin_gtr, bin_geq, bin_eql, bin_neq, un_not, un_neg, Option.bind_some, Option.bind_none, Option.map_some, cnd_true, cnd_false, pickV_true, pickV_false, gd_true, gd_false, gdV_true, gdV_false, gdH_true, gdH_false, gdS_true, gdS_false, wt_ff, wt_tt, wt_ft, wt_tf, wt_undef, obH_some', extractV_tuple, nilCheckV_ptr, againK_normal, againK_exit, againK_ret, blockK_normal, blockK_same, blockK_ret, seqK_normal, seqK_exit, seqK_ret, fin_done, if_true', if_false', Bool.not_true, Bool.not_false, idx0, idx1, idx2, idx3, idx4, chk_nil_l, chk_nil_r, done_nm, up_cons, up_nil, cond_true, cond_false, Nat.reduceBEq]
  rw [call28]
  obtain ⟨la, lc, ce, ae⟩ := (l.same (sameNm h)).eng
  have m4 : (nm h).load1 p 4 = some (.slice (some ⟨s, 0, none⟩) ns.length ns.length) := ce.load 4
  obtain ⟨a, c, h2, q2,Ac, r2⟩ := cl (nm h) (l.same (sameNm h))
  refine ⟨a, c, _, ?_, done_ext' (Ac.inn (Nat.le_refl h.blks.length)), r2.done⟩
  simp -implicitDefEqProofs (disch := omega) only [↓c28_0_eq, nilCheckV_ptr, faLn4, ldVec, m4, q2, ↓ret28, ↓cnd_true, ↓cnd_false, ↓Option.bind_some, ↓obH_some', bin_add, bin_sub, bin_mul, bin_lss, bin_leq, bin_gtr, bin_geq, bin_eql, bin_neq, un_not, un_neg, Option.bind_some, Option.bind_none, Option.map_some, cnd_true, cnd_false, pickV_true, pickV_false, gd_true, gd_false, gdV_true, gdV_false, gdH_true, gdH_false, gdS_true, gdS_false, wt_ff, wt_tt, wt_ft, wt_tf, wt_undef, obH_some', extractV_tuple, nilCheckV_ptr, againK_normal, againK_exit, againK_ret, blockK_normal, blockK_same, blockK_ret, seqK_normal, seqK_exit, seqK_ret, fin_done, if_true', if_false', Bool.not_true, Bool.not_false, idx0, idx1, idx2, idx3, idx4, chk_nil_l, chk_nil_r, done_nm, up_cons, up_nil, cond_true, cond_false, Nat.reduceBEq]
end Go.Am
namespace Go.Am
open Go.Proofs
set_option maxRecDepth 100000
set_option linter.all false
attribute [local congr] obind_congr obH_congr cnd_congr chk_congr retK_congr codeK_congr
def KpB (h h' : Heap) : Prop := h.blks.length ≤ h'.blks.length ∧ ∀ p ty cs, Cells h p ty cs → ty ≠ 40 → Cells h' p ty cs
theorem KpB.acc {h h' : Heap} {n0 : Nat} {elem : TypeId} {es n : Nat} {v : Value} {cs : List Value} (k : KpB h h') (a : Acc n0 h elem es v n cs) (ht : elem ≠ 40) : Acc n0 h' elem es v n cs := a.keep fun b _ hb => by
  obtain ⟨all, h1⟩ := a.blk hb
  exact (k.2 b elem all h1 ht).trans h1.symm
theorem Same.kp {h h' : Heap} (s : Same h h') : KpB h h' := ⟨s.1, fun _ _ _ c _ => c.same s⟩
theorem KpB.trans {a b c : Heap} (h : KpB a b) (k : KpB b c) : KpB a c := ⟨Nat.le_trans h.1 k.1, fun p ty cs x ht => k.2 p ty cs (h.2 p ty cs x ht) ht⟩
theorem LEn.kp {h h' : Heap} {p s : Nat} {n me : Int} {num : Nat} {es : List E3} {ns : List Nat} (l : LEn h p s n me num es ns) (k : KpB h h') : LEn h' p s n me num es ns :=
  let ⟨la, lc, a, b⟩ := l.eng
  ⟨⟨la, lc, k.2 _ _ _ a (by decide), k.acc b (by decide)⟩, k.2 _ _ _ l.seen (by decide), l.len⟩
theorem HMod.lEn {S : Nat → Prop} {h h' : Heap} {p s : Nat} {n me : Int} {num : Nat} {es : List E3} {ns : List Nat} (l : LEn h p s n me num es ns) (m : HMod S h h') (hp : ¬ S p) (hs : ¬ S s) (ht : ∀ b all, h.blks[b]? = some ⟨.cells all, 68, true⟩ → ¬ S b) : LEn h' p s n me num es ns :=
  let ⟨la, lc, a, b⟩ := l.eng
  ⟨⟨la, lc, (m.old p a.lt hp).trans a, b.keep fun q hq hb => by obtain ⟨all, h1⟩ := b.blk hb; exact m.old q hq (ht q all h1)⟩, (m.old s l.seen.lt hs).trans l.seen, l.len⟩
def rowF (es : List E3) (t : Nat) (d : Nat) : List UInt8 := putE (purgeE (lessE es (outB t (ofN (d : Int)))))
theorem purgeL_sub' : ∀ l : List E3, (purgeL l).Sublist l
  | [] => .slnil
  | [e] => List.Sublist.refl _
  | e :: e' :: l => by
    rw [purgeL_two]
    split
    · exact (purgeL_sub' (e' :: l)).cons_cons e
    · exact (purgeL_sub' (e' :: l)).cons e
theorem purgeE_sub (l : List E3) : (purgeE l).Sublist l := by
  unfold purgeE
  split
  · exact purgeL_sub' l
  · exact List.Sublist.refl _
theorem wide_purge {l : List E3} (w : wide l) : wide (purgeE l) := fun e he => w e ((purgeE_sub l).subset he)
theorem logN {h : Heap} {p : Nat} {ty : TypeId} {a b c d e : Value} (g : Cells h p ty [a, b, c, d, e]) : (h.loadN p 2 1).map (fun cs => Value.agg cs.toArray) = some (.agg #[c]) := by
  rw [loadN_own g (by simp)]; rfl
theorem si_at {h : Heap} {v : Value} {ns : List Nat} (s : SI h v ns) {i : Nat} (hi : i < ns.length) :
    ∃ a, indexAddrV Tryd.prog 41 v (.int .i64 i) = some (.pointer (some a)) ∧ loadV Tryd.prog 3 (.pointer (some a)) h = some (.int .i64 (ns[i] : Nat)) := by
  obtain ⟨a, e1, e2, _⟩ := s.row.at1 etI.under etI.size (by kernel_rfl) hi .i64
  rw [List.getElem?_map, List.getElem?_eq_getElem hi] at e2
  exact ⟨a, e1, e2⟩
theorem send_loopL {h0 : Heap} {p s : Nat} {n me : Int} {num : Nat} {es : List E3} {ns : List Nat} {ds : List Nat} {dv : Value} {t : Nat} (hw : wide es) (hl : es.length < 2 ^ 30) (ht : t < 2 ^ 64) (hd : ds.length ≤ 64) {S : Nat → Prop} {Q : Option (Value × Heap) → Prop}
    (hk : ∀ (x' : Nat → Value) (h' : Heap) (ov' : Value),In h0.blks.length S (nm h0) h' → LEn h' p s n me num es ns → ABs h0.blks.length h' ov' (ds.map (rowF es t)) → x' 0 = .pointer (some ⟨p, 0, none⟩) → x' 1 = .int .u64 t → x' 5 = ov' → Q (cK c12_2 71 x' h' (retK Tryd.f12 Tryd.prog h0))) :
    ∀ (m i : Nat), ds.length - i = m → i ≤ ds.length → ∀ (x : Nat → Value) (h : Heap) (ov : Value),In h0.blks.length S (nm h0) h → LEn h p s n me num es ns → AI h0.blks.length h dv ds → ABs h0.blks.length h ov ((ds.take i).map (rowF es t)) →
    x 0 = .pointer (some ⟨p, 0, none⟩) → x 1 = .int .u64 t → x 5 = ov → x 30 = dv → x 31 = .int .i64 ds.length → x 32 = .int .i64 i →
    Q (lK c12_1 71 x h (blockK 0 (sK c12_2 (retK Tryd.f12 Tryd.prog h0)))) := by
  intro m
  induction m with
  | zero =>
    intro i e1 e2 x h ov hin l ad ab Aa Ab Af Bg Bh Bi
    obtain rfl : i = ds.length := by omega
    rw [List.take_length] at ab
    rw [lK_eq]
    have dl : decide (((ds.length : Nat) : Int) < ds.length) = false := decide_eq_false (by omega)
    simp -implicitDefEqProofs (disch := omega) only [↓c12_1_eq,Bh,Bi, dl, ↓cnd_true, ↓cnd_false, ↓Option.bind_some, ↓obH_some', bin_add, bin_sub, bin_mul, bin_lss, bin_leq, bin_gtr, bin_geq, bin_eql, bin_neq, un_not, un_neg, Option.bind_some, Option.bind_none, Option.map_some, cnd_true, cnd_false, pickV_true, pickV_false, gd_true, gd_false, gdV_true, gdV_false, gdH_true, gdH_false, gdS_true, gdS_false, wt_ff, wt_tt, wt_ft, wt_tf, wt_undef, obH_some', extractV_tuple, nilCheckV_ptr, againK_normal, againK_exit, againK_ret, blockK_normal, blockK_same, blockK_ret, seqK_normal, seqK_exit, seqK_ret, fin_done, if_true', if_false', Bool.not_true, Bool.not_false, idx0, idx1, idx2, idx3, idx4, chk_nil_l, chk_nil_r, done_nm, up_cons, up_nil, cond_true, cond_false, Nat.reduceBEq]
    exact hk _ h ov hin l ab Aa Ab Af
  | succ m ih =>
    intro i hm hi x h ov hin l ad ab Aa Ab Af Bg Bh Bi
    have hil : i < ds.length := by omega
    have dl : decide (((i : Nat) : Int) < ds.length) = true := decide_eq_true (by omega)
    obtain ⟨da, f1, f2⟩ := si_at (ad.sl etI.size) hil
    obtain ⟨la, lc, ce, ae⟩ := l.eng
    have lA := logN ce
    obtain ⟨a2, c2, h2, q2, y2, r2⟩ := spec_But ae.se hw (by omega) t ht (ds[i] : Int)
    have ll : (lessE es (outB t (ofN (ds[i] : Int)))).length = es.length := lessE_len _ _
    have q2' : evC Tryd.prog 38 #[.agg #[.slice la es.length lc], .int .u64 t, .int .i64 (ds[i] : Int)] h = some (.agg #[.slice a2 (lessE es (outB t (ofN (ds[i] : Int)))).length c2], h2) := by rw [ll]; exact q2
    have r2' : AE h.blks.length h2 (.slice a2 (lessE es (outB t (ofN (ds[i] : Int)))).length c2) (lessE es (outB t (ofN (ds[i] : Int)))) := by
      rw [show (Value.slice a2 (lessE es (outB t (ofN (ds[i] : Int)))).length c2) = .slice a2 es.length c2 by rw [ll]]; exact r2
    obtain ⟨a3, c3, h3, q3, y3, r3⟩ := spec_Purge r2'.se (wide_lessE hw) (by omega)
    have pl : (purgeE (lessE es (outB t (ofN (ds[i] : Int))))).length ≤ es.length := by
      have := (purgeE_sub (lessE es (outB t (ofN (ds[i] : Int))))).length_le
      omega
    obtain ⟨a4, c4, h4, q4, y4, r4⟩ := spec_Put18 (AE.se r3) (wide_purge (wide_lessE hw)) (by omega)
    have z4 := (y2.same.trans y3.same).trans y4.same
    have hlen4 := z4.1
    have ab4 := ab.same z4
    have hn : h0.blks.length ≤ h.blks.length := Nat.le_trans hin.le hin.len
    have r4' : AB h0.blks.length h4 (.slice a4 (rowF es t ds[i]).length c4) (rowF es t ds[i]) := Acc.up r4 (by have := y2.len; have := y3.len; omega)
    obtain ⟨vs, abv⟩ := ab4
    have bs := mkBs1 a4 (rowF es t ds[i]).length c4 h4
    obtain ⟨a5, c5, h5, q5, ab5, k5, o5⟩ := abv.app (by omega) r4' (by rw [List.length_map, List.length_take]; omega)
    have kb : KpB h4 h5 := ⟨k5.len, o5⟩
    have hin5 := (((hin.trans (y2.inn hn)).trans (y3.inn (by have := y2.len; omega))).trans (y4.inn (by have := y2.len; have := y3.len; omega))).trans (Keeps.inn (S := S) k5)
    have hmap : (ds.take i).map (rowF es t) ++ [rowF es t ds[i]] = (ds.take (i + 1)).map (rowF es t) := by
      rw [List.take_succ, List.getElem?_eq_getElem hil, List.map_append]; rfl
    rw [hmap] at q5 ab5
    have wi : IntKind.i64.wrap ((i : Int) + 1) = ((i + 1 : Nat) : Int) := by rw [wrap_i64] <;> omega
    rw [lK_eq]
    have q4' : evC Tryd.prog 32 #[.agg #[.slice a3 (purgeE (lessE es (outB t (ofN (ds[i] : Int))))).length c3]] h3 = some (.slice a4 (rowF es t ds[i]).length c4, h4) := q4
    simp -implicitDefEqProofs (disch := omega) only [↓c12_1_eq,Aa,Ab,Af,Bg,Bh,Bi, dl, f1, f2, nilCheckV_ptr, faLn2, ldLo, lA, q2', q3, q4', bs, q5, wi, ↓cnd_true, ↓cnd_false, ↓Option.bind_some, ↓obH_some', bin_add, bin_sub, bin_mul, bin_lss, bin_leq, bin_gtr, bin_geq, bin_eql, bin_neq, un_not, un_neg, Option.bind_some, Option.bind_none, Option.map_some, cnd_true, cnd_false, pickV_true, pickV_false, gd_true, gd_false, gdV_true, gdV_false, gdH_true, gdH_false, gdS_true, gdS_false, wt_ff, wt_tt, wt_ft, wt_tf, wt_undef, obH_some', extractV_tuple, nilCheckV_ptr, againK_normal, againK_exit, againK_ret, blockK_normal, blockK_same, blockK_ret, seqK_normal, seqK_exit, seqK_ret, fin_done, if_true', if_false', Bool.not_true, Bool.not_false, idx0, idx1, idx2, idx3, idx4, chk_nil_l, chk_nil_r, done_nm, up_cons, up_nil, cond_true, cond_false, Nat.reduceBEq]
    refine ih (i + 1) (by omega) (by omega) _ h5 _ hin5 ((l.same z4).kp kb) (kb.acc (ad.same z4) (by decide)) ab5 ?_ ?_ ?_ ?_ ?_ ?_
    · exact Aa
    · exact Ab
    · rfl
    · exact Bg
    · exact Bh
    · rfl
def sendT (n : Nat) (me : Int) (to : Nat) : Nat := to &&& outB (allN n) (ofN me)
def sendLog (es : List E3) (me : Int) (num t : Nat) : List E3 := purgeE (addE (lessE es t) ⟨me, num + 1, t⟩)
theorem allN_lt (n : Nat) (hn : n < 64) : allN n < 2 ^ 64 := by
  unfold allN
  have : 2 ^ n < 2 ^ 64 := Nat.pow_lt_pow_right (by omega) hn
  omega
theorem mem_addE {es : List E3} {x e : E3} (h : e ∈ addE es x) : e ∈ es ∨ e = x := by
  unfold addE at h
  split at h
  · split at h
    · exact (List.mem_or_eq_of_mem_set h)
    · unfold insE at h
      rcases List.mem_append.1 h with h | h
      · exact .inl (List.mem_of_mem_take h)
      · rcases List.mem_cons.1 h with h | h
        · exact .inr h
        · exact .inl (List.mem_of_mem_drop h)
  · exact .inl h
theorem addE_len (es : List E3) (x : E3) : (addE es x).length ≤ es.length + 1 := by
  unfold addE
  split
  · split
    · rw [List.length_set]; omega
    · unfold insE
      rw [List.length_append, List.length_cons, List.length_take, List.length_drop]; omega
  · omega
theorem spec_Send {h : Heap} {p s : Nat} {n : Nat} {me : Int} {num : Nat} {es : List E3} {ns : List Nat} (l : LEn h p s n me num es ns) (hn : n ≤ 16) (hw : wide es) (hl : es.length < 2 ^ 29) (hnum : num + 1 < 2 ^ 64) (to : Nat) (hto : to < 2 ^ 64) (hps : p ≠ s)
    (hins : InsOk (lessE es (sendT n me to)) ⟨me, num + 1, sendT n me to⟩) :
    ∃ v h', evC Tryd.prog 12 #[.pointer (some ⟨p, 0, none⟩), .int .u64 to] h = some (v, h') ∧ HMod (Just p) h h' ∧ LEn h' p s n me (num + 1) (sendLog es me num (sendT n me to)) ns ∧ ABs h.blks.length h' v ((listW (sendT n me to)).map (rowF es (sendT n me to))) := by
  rw [call12]
  have l0 := l.same (sameNm h)
  obtain ⟨la, lc, ce, ae⟩ := l0.eng
  have hph : p < h.blks.length := ce.lt
  have m0 : (nm h).load1 p 0 = some (.int .i64 n) := ce.load 0
  have m1 : (nm h).load1 p 1 = some (.int .i64 me) := ce.load 1
  have w1 := fun h => spec_All n (by omega) h
  have c9 := Cells.new (nm h) 3 [.int .i64 me]
  have q9 := spec_Of1 (c := 1) c9
  have e9 := ce.keepNew (.cells [.int .i64 me]) 3
  have k9 : In h.blks.length (Just p) (nm h) ((nm h).new (.cells [.int .i64 me]) 3) := In.new (h := nm h) (Nat.le_refl h.blks.length) _ _
  have l9 := l0.same (Same.new (nm h) (.cells [.int .i64 me]) 3)
  have b9 := mkI1 me (nm h)
  generalize hh9 : (nm h).new (.cells [.int .i64 me]) 3 = h9 at c9 q9 e9 k9 l9 b9
  have m3 : h9.load1 p 3 = some (.int .u64 num) := e9.load 3
  have st := storeN_blk e9 (o := 3) (vs := [.int .u64 ((num + 1 : Nat) : Int)]) (by simp)
  simp only [List.take_succ_cons, List.take_zero, List.nil_append, List.append_nil, List.length_cons, List.length_nil, List.drop_succ_cons, List.drop_zero, Nat.zero_add, Nat.reduceAdd, List.drop_nil, List.cons_append, List.singleton_append] at st
  have k10 := k9.trans (In.put (S := Just p) (Nat.le_trans k9.le k9.len) (p := p) (.inr rfl) (.cells [.int .i64 n, .int .i64 me, .slice la es.length lc, .int .u64 ((num + 1 : Nat) : Int), .slice (some ⟨s, 0, none⟩) ns.length ns.length]))
  have d10 := e9.put [.int .i64 n, .int .i64 me, .slice la es.length lc, .int .u64 ((num + 1 : Nat) : Int), .slice (some ⟨s, 0, none⟩) ns.length ns.length]
  have ae9 : AE 0 h9 (.slice la es.length lc) es := by rw [← hh9]; exact ae.keep fun b hb _ => Heap.new_old hb
  have hb : blockOf (.slice la es.length lc) ≠ some p := fun e => by
    obtain ⟨all, h1⟩ := Acc.blk ae9 e
    unfold Cells at e9
    rw [e9] at h1
    simp only [Option.some.injEq, Blk.mk.injEq] at h1
    exact absurd h1.2.1 (by decide)
  have l10 : LEn (h9.put p (.cells [.int .i64 n, .int .i64 me, .slice la es.length lc, .int .u64 ((num + 1 : Nat) : Int), .slice (some ⟨s, 0, none⟩) ns.length ns.length])) p s n me (num + 1) es ns :=
    ⟨⟨la, lc, d10, ae9.keepPut hb _⟩, l9.seen.keepPut (by omega) _, l.len⟩
  generalize hh10 : h9.put p (.cells [.int .i64 n, .int .i64 me, .slice la es.length lc, .int .u64 ((num + 1 : Nat) : Int), .slice (some ⟨s, 0, none⟩) ns.length ns.length]) = h10 at st k10 l10
  have ht : sendT n me to < 2 ^ 64 := Nat.lt_of_le_of_lt Nat.and_le_left hto
  obtain ⟨a11, c11, h11, q11,Al, r11⟩ := spec_List (sendT n me to) ht h10
  have n10 : h.blks.length ≤ h10.blks.length := Nat.le_trans k10.le k10.len
  have k11 := k10.trans (Al.inn (S := Just p) n10)
  have an := fun t xo yo => anS t xo yo (allN n) (ofN me) (allN_lt n (by omega)) (ofN_lt me)
  have aa := fun t xo yo => anU t xo yo to (outB (allN n) (ofN me)) hto (outB_lt (allN_lt n (by omega)))
  have wn : IntKind.u64.wrap ((num : Int) + 1) = ((num + 1 : Nat) : Int) := by rw [wrap_u64] <;> omega
  have lnI : ∀ h, lenV Tryd.prog 41 (.slice a11 (listW (sendT n me to)).length c11) h = some (.int .i64 (listW (sendT n me to)).length) := fun h => by kernel_rfl
  have e0 : (nm h).blks.length = h.blks.length := rfl
  rw [e0] at b9 q9
  have aa' : ∀ t xo yo, binV Tryd.prog .and t xo yo (.int .u64 to) (.int .u64 ((outB (allN n) (ofN me) : Nat) : Int)) = some (.int .u64 ((sendT n me to : Nat) : Int)) := aa
  simp -implicitDefEqProofs (disch := omega) only [↓c12_0_eq, nilCheckV_ptr, faLn0, faLn1, faLn3, ldI, m0, w1, am_nm, nm_mods, List.nil_append, List.append_nil, m1, b9, q9, an, aa', chk_nil_r, ldU, m3, wn, vst64, st, q11, lnI, ↓cnd_true, ↓cnd_false, ↓Option.bind_some, ↓obH_some', bin_add, bin_sub, bin_mul, bin_lss, bin_leq, bin_gtr, bin_geq, bin_eql, bin_neq, un_not, un_neg, Option.bind_some, Option.bind_none, Option.map_some, cnd_true, cnd_false, pickV_true, pickV_false, gd_true, gd_false, gdV_true, gdV_false, gdH_true, gdH_false, gdS_true, gdS_false, wt_ff, wt_tt, wt_ft, wt_tf, wt_undef, obH_some', extractV_tuple, nilCheckV_ptr, againK_normal, againK_exit, againK_ret, blockK_normal, blockK_same, blockK_ret, seqK_normal, seqK_exit, seqK_ret, fin_done, if_true', if_false', Bool.not_true, Bool.not_false, idx0, idx1, idx2, idx3, idx4, chk_nil_l, chk_nil_r, done_nm, up_cons, up_nil, cond_true, cond_false, Nat.reduceBEq]
  refine send_loopL (h0 := h) (S := Just p) (Q := fun r => ∃ v h', r = some (v, h') ∧ HMod (Just p) h h' ∧ LEn h' p s n me (num + 1) (sendLog es me num (sendT n me to)) ns ∧ ABs h.blks.length h' v ((listW (sendT n me to)).map (rowF es (sendT n me to)))) (t := sendT n me to) hw (by omega) ht (listW_len _ ht) ?_ (listW (sendT n me to)).length 0 (by omega) (by omega) _ h11 _ k11 (l10.same Al.same) (Acc.up r11 n10) ⟨[], .nil, .nil⟩ ?_ ?_ ?_ ?_ ?_ ?_
  · intro x h12 ov k12 l12 ab12 y0 y1 y5
    have h12n : h.blks.length ≤ h12.blks.length := Nat.le_trans k12.le k12.len
    obtain ⟨la', lc', ce', ae'⟩ := l12.eng
    have lA := logN ce'
    obtain ⟨a13, c13, h13, q13,Ao, r13⟩ := spec_Less (h := nm h12) (to := sendT n me to) (Sl.nm ae'.se) hw (by omega) ht
    obtain ⟨Ao', m13⟩ := Ao.amx
    have k13 := k12.trans (Ao'.inn (S := Just p) h12n)
    have n13 := Ao'.len
    have ce13 := ce'.ext Ao'
    have m1' : (am h13 h12).load1 p 1 = some (.int .i64 me) := ce13.load 1
    have m3' : (am h13 h12).load1 p 3 = some (.int .u64 ((num + 1 : Nat) : Int)) := ce13.load 3
    have s13 : SE (am h13 h12) (.slice a13 es.length c13) (lessE es (sendT n me to)) := Sl.keep (h' := am h13 h12) (AE.se r13) fun _ _ _ => rfl
    have wl := wide_lessE (to := sendT n me to) hw
    have ll : (lessE es (sendT n me to)).length = es.length := lessE_len _ _
    obtain ⟨a14, c14, h14, q14,Ap, r14⟩ := spec_Add s13 wl (by omega) ⟨me, num + 1, sendT n me to⟩ ht hins
    have wa : wide (addE (lessE es (sendT n me to)) ⟨me, num + 1, sendT n me to⟩) := fun e he => by
      rcases mem_addE he with he | rfl
      · exact wl e he
      · exact ⟨hnum, ht⟩
    have al := addE_len (lessE es (sendT n me to)) ⟨me, num + 1, sendT n me to⟩
    obtain ⟨a15, c15, h15, q15,Aq, r15⟩ := spec_Purge r14.se wa (by omega)
    have n14 := Ap.len
    have n15 := Aq.len
    have k15 := (k13.trans (Ap.inn (S := Just p) (by omega))).trans (Aq.inn (S := Just p) (by omega))
    have ce15 := (ce13.ext Ap).ext Aq
    have st16 := storeN_blk ce15 (o := 2) (vs := [.slice a15 (sendLog es me num (sendT n me to)).length c15]) (by simp)
    simp only [List.take_succ_cons, List.take_zero, List.nil_append, List.append_nil, List.length_cons, List.length_nil, List.drop_succ_cons, List.drop_zero, Nat.zero_add, Nat.reduceAdd, List.drop_nil, List.cons_append, List.singleton_append] at st16
    have d16 := ce15.put [.int .i64 n, .int .i64 me, .slice a15 (sendLog es me num (sendT n me to)).length c15, .int .u64 ((num + 1 : Nat) : Int), .slice (some ⟨s, 0, none⟩) ns.length ns.length]
    have k16 := k15.trans (In.put (S := Just p) (Nat.le_trans k15.le k15.len) (p := p) (.inr rfl) (.cells [.int .i64 n, .int .i64 me, .slice a15 (sendLog es me num (sendT n me to)).length c15, .int .u64 ((num + 1 : Nat) : Int), .slice (some ⟨s, 0, none⟩) ns.length ns.length]))
    have sm := (Ao'.same.trans Ap.same).trans Aq.same
    have rl : AE 0 (h15.put p (.cells [.int .i64 n, .int .i64 me, .slice a15 (sendLog es me num (sendT n me to)).length c15, .int .u64 ((num + 1 : Nat) : Int), .slice (some ⟨s, 0, none⟩) ns.length ns.length])) (.slice a15 (sendLog es me num (sendT n me to)).length c15) (sendLog es me num (sendT n me to)) :=
      Acc.keepPut (Acc.up r15 (Nat.zero_le _)) (fun e => by have := Acc.ge r15 e; omega) _
    have q14' : evC Tryd.prog 39 #[.agg #[.slice a13 es.length c13], .agg #[.int .i64 me, .int .u64 ((num + 1 : Nat) : Int), .int .u64 ((sendT n me to : Nat) : Int)]] (am h13 h12) = some (.agg #[.slice a14 (addE (lessE es (sendT n me to)) ⟨me, num + 1, sendT n me to⟩).length c14], h14) := q14
    have q15' : evC Tryd.prog 37 #[.agg #[.slice a14 (addE (lessE es (sendT n me to)) ⟨me, num + 1, sendT n me to⟩).length c14]] h14 = some (.agg #[.slice a15 (sendLog es me num (sendT n me to)).length c15], h15) := q15
    refine ⟨ov, _, ?_, done_mod k16, ⟨⟨a15, c15, d16.done, rl.done⟩, ((l12.seen.same sm).keepPut (by omega) _).done, l.len⟩, ((ab12.same sm).put ce15 (by decide) (by decide) _).same ⟨Nat.le_refl _, fun _ _ => rfl⟩⟩
    simp -implicitDefEqProofs (disch := omega) only [↓c12_2_eq, y0, y1, y5, nilCheckV_ptr, faLn1, faLn2, faLn3, ldLo, lA, q13, m13, ldI, ldU, m1', m3', bdE3, q14', q15', stLo, st16, List.nil_append, List.append_nil, chk_nil_r, ↓ret12, ↓cnd_true, ↓cnd_false, ↓Option.bind_some, ↓obH_some', bin_add, bin_sub, bin_mul, bin_lss, bin_leq, bin_gtr, bin_geq, bin_eql, bin_neq, un_not, un_neg, Option.bind_some, Option.bind_none, Option.map_some, cnd_true, cnd_false, pickV_true, pickV_false, gd_true, gd_false, gdV_true, gdV_false, gdH_true, gdH_false, gdS_true, gdS_false, wt_ff, wt_tt, wt_ft, wt_tf, wt_undef, obH_some', extractV_tuple, nilCheckV_ptr, againK_normal, againK_exit, againK_ret, blockK_normal, blockK_same, blockK_ret, seqK_normal, seqK_exit, seqK_ret, fin_done, if_true', if_false', Bool.not_true, Bool.not_false, idx0, idx1, idx2, idx3, idx4, chk_nil_l, chk_nil_r, done_nm, up_cons, up_nil, cond_true, cond_false, Nat.reduceBEq]
  all_goals rfl
end Go.Am
namespace Go.Am
open Go.Proofs
set_option maxRecDepth 100000
set_option linter.all false
attribute [local congr] obind_congr obH_congr cnd_congr chk_congr retK_congr codeK_congr
theorem iaV (s n c j : Nat) (hj : j < n) : indexAddrV Tryd.prog 73 (.slice (some ⟨s, 0, none⟩) n c) (.int .i64 j) = some (.pointer (some ⟨s, j, none⟩)) := by
  unfold indexAddrV
  simp only [etV.under, natOf_int, etV.size, if_pos hj, Nat.zero_add, Nat.mul_one]
theorem map_set (ns : List Nat) (j : Nat) (hj : j < ns.length) (k : Nat) : (ns.map u64V).take j ++ [.int .u64 (k : Int)] ++ (ns.map u64V).drop (j + 1) = (ns.set j k).map u64V := by
  apply List.ext_getElem?
  intro i
  simp only [List.getElem?_append, List.length_append, List.length_take, List.length_map, List.length_singleton, List.getElem?_take, List.getElem?_map, List.getElem?_drop, List.getElem?_set]
  rw [Nat.min_eq_left (by omega)]
  by_cases h1 : i < j
  · rw [if_pos (by omega), if_pos h1, if_pos h1, if_neg (by omega)]
  · by_cases h2 : i = j
    · subst h2
      rw [if_pos (by omega), if_neg (by omega), if_pos rfl, if_pos hj, Nat.sub_self]
      rfl
    · rw [if_neg (by omega), if_neg (by omega), show j + 1 + (i - (j + 1)) = i by omega]
theorem joinE_len (es fs : List E3) : (joinE es fs).length ≤ es.length + fs.length + es.length := by
  unfold joinE
  split
  · rw [srtE_len, List.length_append, List.length_append]
    have a := List.length_filter_le (fun x => !bsF fs x && decide ((getM (lastM fs) x.f).getD 0 < x.n)) es
    have b := List.length_filter_le (fun x => !bsF es x && decide ((getM (lastM es) x.f).getD 0 < x.n)) fs
    have c := List.length_filterMap_le (bothF fs) es
    unfold newsE bothE
    omega
  · omega
def takeLog (es : List E3) (me fr : Int) (k to : Nat) (g : List E3) : List E3 := purgeE (lessE (joinE es (lessE (addE g ⟨fr, k, to⟩) (ofN me))) (ofN me))
theorem newLogT {h : Heap} {a : Option Addr} {c n : Nat} {es : List E3} (s : SE h (.slice a n c) es) : ∃ hB, (h.new (.cells [.slice none 0 0]) 65).storeN h.blks.length 0 [.slice a n c] = some hB ∧ Same h hB ∧ (∀ {h' : Heap}, Same hB h' → (h'.loadN h.blks.length 0 1).map (fun cs => Value.agg cs.toArray) = some (.agg #[.slice a n c])) ∧ SE hB (.slice a n c) es ∧ (∀ S n0, n0 ≤ h.blks.length → In n0 S h hB) ∧ hB.load1 h.blks.length 0 = some (.slice a n c) := by
  have d := Cells.new h 65 [.slice none 0 0]
  have st := storeN_blk d (o := 0) (vs := [.slice a n c]) (by simp)
  simp only [List.take_zero, List.nil_append, List.append_nil, List.length_cons, List.length_nil, List.drop_succ_cons, List.drop_zero, Nat.zero_add] at st
  have g := d.put [.slice a n c]
  exact ⟨_, st, same_np _ _ _ _, fun hs => by rw [(g.same hs).loadN (n := 1) rfl]; rfl, (Sl.keepNew s _ _).keepPut (fun e => by have := Sl.lo s _ e; omega) _, fun S n0 hn => (In.new hn _ _).trans (In.put (by simp [Heap.new]; omega) (.inl hn) _), g.load 0⟩
theorem spec_Take {h : Heap} {p s : Nat} {n : Nat} {me : Int} {num : Nat} {es : List E3} {ns : List Nat} (l : LEn h p s n me num es ns) (hn : n ≤ 16) (hnl : ns.length = n) (hw : wide es) (hl : es.length < 2 ^ 28) (hps : p ≠ s) (fr : Int) (k to : Nat) (hk : k < 2 ^ 64) (hto : to < 2 ^ 64) {v : Value} {bs : List UInt8} (sb : SB h v bs) (hbs : bs.length < 2 ^ 26)
    (hbp : blockOf v ≠ some p) (hbs' : blockOf v ≠ some s) {g : List E3} (hg : getP bs = some g) (hc : canE n me ns fr k bs = true) (hins : InsOk g ⟨fr, k, to⟩) :
    ∃ h', evC Tryd.prog 23 #[.pointer (some ⟨p, 0, none⟩), .int .i64 fr, .int .u64 k, .int .u64 to, v] h = some (.bool true, h') ∧ HMod (fun b => b = p ∨ b = s) h h' ∧ LEn h' p s n me num (takeLog es me fr k to g) (ns.set fr.toNat k) := by
  rw [call23]
  have hfr : 0 ≤ fr ∧ fr < n := by
    unfold canE at hc
    rw [hg] at hc
    simp only at hc
    split at hc
    · cases hc
    · omega
  obtain ⟨j, rfl⟩ : ∃ j : Nat, fr = j := ⟨fr.toNat, by omega⟩
  rw [Int.toNat_natCast]
  have l0 := l.same (sameNm h)
  obtain ⟨h1, q1,Ab⟩ := spec_Can l0 (j : Int) k sb.nm (by omega)
  rw [hc] at q1
  have l1 := l0.same Ab.same
  have sb1 := sb.nm.ext Ab
  have kk1 : In h.blks.length (fun b => b = p ∨ b = s) (nm h) h1 := Ab.inn (Nat.le_refl h.blks.length)
  obtain ⟨la, lc, ce, ae⟩ := l1.eng
  have m4 : h1.load1 p 4 = some (.slice (some ⟨s, 0, none⟩) ns.length ns.length) := ce.load 4
  have st2 := storeN_blk l1.seen (o := j) (vs := [.int .u64 (k : Int)]) (by simp; omega)
  rw [List.length_singleton, map_set ns j (by omega) k] at st2
  have d2 := l1.seen.put ((ns.set j k).map u64V)
  have ce2 := ce.keepPut (q := s) hps.symm (.cells ((ns.set j k).map u64V))
  have hbl : blockOf (.slice la es.length lc) ≠ some s := fun e => by
    obtain ⟨all, h1'⟩ := Acc.blk ae e
    have := l1.seen
    unfold Cells at this
    rw [this] at h1'
    simp only [Option.some.injEq, Blk.mk.injEq] at h1'
    exact absurd h1'.2.1 (by decide)
  have ae2 := ae.keepPut hbl (.cells ((ns.set j k).map u64V))
  have sb2 := Sl.keepPut sb1 hbs' (.cells ((ns.set j k).map u64V))
  have kk2 := kk1.trans (In.put (S := fun b => b = p ∨ b = s) (Nat.le_trans kk1.le kk1.len) (p := s) (.inr (.inr rfl)) (.cells ((ns.set j k).map u64V)))
  generalize hh2 : h1.put s (.cells ((ns.set j k).map u64V)) = h2 at st2 d2 ce2 ae2 sb2 kk2
  have n2 : h.blks.length ≤ h2.blks.length := Nat.le_trans kk2.le kk2.len
  have m1 : h2.load1 p 1 = some (.int .i64 me) := ce2.load 1
  have q3 := spec_Of1 (c := 1) (Cells.new h2 3 [.int .i64 me])
  have b3 := mkI1 me h2
  have y3 := Same.new h2 (.cells [.int .i64 me]) 3
  have kk3 := kk2.trans (In.new (S := fun b => b = p ∨ b = s) n2 (.cells [.int .i64 me]) 3)
  generalize hh3 : h2.new (.cells [.int .i64 me]) 3 = h3 at q3 b3 y3 kk3
  obtain ⟨a4, c4, h4, q4,Ae, r4⟩ := spec_Get18 (Sl.same sb2 y3) (by omega)
  have gl := getP_len bs
  rw [hg] at q4 r4 gl
  simp only [Option.getD_some, Option.isSome_some] at q4 r4 gl
  obtain ⟨h5, t5, y5, g5, s5, i5, _⟩ := newLogT (AE.se r4)
  have n3 := y3.1
  have n4 := Ae.len
  have n5 := y5.1
  have kk5 := (kk3.trans (Ae.inn (S := fun b => b = p ∨ b = s) (by omega))).trans (i5 (fun b => b = p ∨ b = s) h.blks.length (by omega))
  obtain ⟨a6, c6, h6, q6,Ag, r6⟩ := spec_Add s5 (getP_wide hg) (by omega) ⟨(j : Int), k, to⟩ hto hins
  have q6' : evC Tryd.prog 39 #[.agg #[.slice a4 g.length c4], .agg #[.int .i64 (j : Int), .int .u64 (k : Int), .int .u64 (to : Int)]] h5 = some (.agg #[.slice a6 (addE g ⟨(j : Int), k, to⟩).length c6], h6) := q6
  have al := addE_len g ⟨(j : Int), k, to⟩
  have wa : wide (addE g ⟨(j : Int), k, to⟩) := fun e he => by
    rcases mem_addE he with he | rfl
    · exact getP_wide hg e he
    · exact ⟨hk, hto⟩
  obtain ⟨a7, c7, h7, q7,Ah, r7⟩ := spec_Less (to := ofN me) r6.se wa (by omega) (ofN_lt me)
  have ll7 : (lessE (addE g ⟨(j : Int), k, to⟩) (ofN me)).length = (addE g ⟨(j : Int), k, to⟩).length := lessE_len _ _
  obtain ⟨h8, t8, y8, g8, s8, i8, _⟩ := newLogT (AE.se r7)
  have n6 := Ag.len
  have n7 := Ah.len
  have n8 := y8.1
  have kk8 := ((kk5.trans (Ag.inn (S := fun b => b = p ∨ b = s) (by omega))).trans (Ah.inn (S := fun b => b = p ∨ b = s) (by omega))).trans (i8 (fun b => b = p ∨ b = s) h.blks.length (by omega))
  have sm8 : Same h2 h8 := ((((y3.trans Ae.same).trans y5).trans Ag.same).trans Ah.same).trans y8
  have ce8 := ce2.same sm8
  have lA := logN ce8
  have ae8 : AE 0 h8 (.slice la es.length lc) es := ae2.same sm8
  have wl7 := wide_lessE (to := ofN me) wa
  obtain ⟨a9, c9, h9, q9,Aj, r9⟩ := spec_Join ae8.se s8 hw wl7 (by omega) (by omega)
  have jl := joinE_len es (lessE (addE g ⟨(j : Int), k, to⟩) (ofN me))
  obtain ⟨a10, c10, h10, q10,Ak, r10⟩ := spec_Less (to := ofN me) r9.se (wide_join hw wl7) (by omega) (ofN_lt me)
  have ll10 : (lessE (joinE es (lessE (addE g ⟨(j : Int), k, to⟩) (ofN me))) (ofN me)).length = (joinE es (lessE (addE g ⟨(j : Int), k, to⟩) (ofN me))).length := lessE_len _ _
  obtain ⟨a11, c11, h11, q11,Al, r11⟩ := spec_Purge r10.se (wide_lessE (wide_join hw wl7)) (by omega)
  have q11' : evC Tryd.prog 37 #[.agg #[.slice a10 (joinE es (lessE (addE g ⟨(j : Int), k, to⟩) (ofN me))).length c10]] h10 = some (.agg #[.slice a11 (takeLog es me (j : Int) k to g).length c11], h11) := q11
  have n9 := Aj.len
  have n10 := Ak.len
  have n11 := Al.len
  have kk11 := ((kk8.trans (Aj.inn (S := fun b => b = p ∨ b = s) (by omega))).trans (Ak.inn (S := fun b => b = p ∨ b = s) (by omega))).trans (Al.inn (S := fun b => b = p ∨ b = s) (by omega))
  have sm11 := ((sm8.trans Aj.same).trans Ak.same).trans Al.same
  have ce11 := ce2.same sm11
  have hpl : p < h2.blks.length := ce2.lt
  have st12 := storeN_blk ce11 (o := 2) (vs := [.slice a11 (takeLog es me (j : Int) k to g).length c11]) (by simp)
  simp only [List.take_succ_cons, List.take_zero, List.nil_append, List.append_nil, List.length_cons, List.length_nil, List.drop_succ_cons, List.drop_zero, Nat.zero_add, Nat.reduceAdd, List.drop_nil, List.cons_append, List.singleton_append] at st12
  have d12 := ce11.put [.int .i64 n, .int .i64 me, .slice a11 (takeLog es me (j : Int) k to g).length c11, .int .u64 (num : Int), .slice (some ⟨s, 0, none⟩) ns.length ns.length]
  have kk12 := kk11.trans (In.put (S := fun b => b = p ∨ b = s) (Nat.le_trans kk11.le kk11.len) (p := p) (.inr (.inl rfl)) (.cells [.int .i64 n, .int .i64 me, .slice a11 (takeLog es me (j : Int) k to g).length c11, .int .u64 (num : Int), .slice (some ⟨s, 0, none⟩) ns.length ns.length]))
  have rl : AE 0 (h11.put p (.cells [.int .i64 n, .int .i64 me, .slice a11 (takeLog es me (j : Int) k to g).length c11, .int .u64 (num : Int), .slice (some ⟨s, 0, none⟩) ns.length ns.length])) (.slice a11 (takeLog es me (j : Int) k to g).length c11) (takeLog es me (j : Int) k to g) :=
    Acc.keepPut (Acc.up r11 (Nat.zero_le _)) (fun e => by have := Acc.ge r11 e; omega) _
  have seenL : (ns.set j k).length = ns.length := List.length_set ..
  refine ⟨_, ?_, done_mod kk12, ⟨⟨a11, c11, ?_, rl.done⟩, ((d2.same sm11).keepPut (by omega) _).done, by rw [seenL]; exact l.len⟩⟩
  · simp -implicitDefEqProofs (disch := omega) only [↓c23_0_eq, q1, nilCheckV_ptr, faLn1, faLn2, faLn4, ldVec, m4, iaV s ns.length ns.length j (by omega), vst64, st2, ldI, m1, b3, q3, q4, extractV_tuple, alL, stL, t5, ldL, g5 (Same.refl _), bdE3, q6', q7, t8, ldLo, lA, g8 (Same.refl _), q9, q10, q11', stLo, st12, ↓ret23, ↓cnd_true, ↓cnd_false, ↓Option.bind_some, ↓obH_some', bin_add, bin_sub, bin_mul, bin_lss, bin_leq, bin_gtr, bin_geq, bin_eql, bin_neq, un_not, un_neg, Option.bind_some, Option.bind_none, Option.map_some, cnd_true, cnd_false, pickV_true, pickV_false, gd_true, gd_false, gdV_true, gdV_false, gdH_true, gdH_false, gdS_true, gdS_false, wt_ff, wt_tt, wt_ft, wt_tf, wt_undef, obH_some', extractV_tuple, nilCheckV_ptr, againK_normal, againK_exit, againK_ret, blockK_normal, blockK_same, blockK_ret, seqK_normal, seqK_exit, seqK_ret, fin_done, if_true', if_false', Bool.not_true, Bool.not_false, idx0, idx1, idx2, idx3, idx4, chk_nil_l, chk_nil_r, done_nm, up_cons, up_nil, cond_true, cond_false, Nat.reduceBEq]
  · rw [seenL]; exact d12.done
end Go.Am
namespace Go.Am
open Go.Proofs
set_option maxRecDepth 100000
set_option linter.all false
attribute [local congr] obind_congr obH_congr cnd_congr chk_congr retK_congr codeK_congr
theorem pnn (p : Nat) (xo yo : Operand) : binV Tryd.prog .eql 33 xo yo (.pointer (some ⟨p, 0, none⟩)) (.pointer none) = some (.bool false) := by kernel_rfl
theorem lit_ents (el : TypeId) (hs : sizeT Tryd.prog el = some 3) (es : List E3) (hl : es.length < 2 ^ 38) (h : Heap) : SE (h.new (.cells (entL es)) el) (.slice (some ⟨h.blks.length, 0, none⟩) es.length es.length) es := by
  refine .mk ?_ (.inr ⟨Nat.le_refl _, ?_⟩)
  · simp only [Heap.loadN, Heap.cells?, blk_new_self]
    simp [entL_len]
    rw [List.take_of_length_le (by rw [entL_len]; omega)]
  · unfold UNK; omega
theorem cmp_litN {h : Heap} {v : Value} {es : List E3} (s : SE h v es) (hl : es.length < 2 ^ 38) : ∃ a c h1, evC Tryd.prog 30 #[v] h = some (.slice a es.length c, h1) ∧ HExt h h1 ∧
    evC Tryd.prog 29 #[.slice a es.length c, .slice (some ⟨h1.blks.length, 0, none⟩) es.length es.length] (h1.new (.cells (entL es)) 79) = some (.bool true, h1.new (.cells (entL es)) 79) := by
  obtain ⟨a, c, h1, e1,Ab, r1⟩ := spec_log1 s hl
  refine ⟨a, c, h1, e1,Ab, ?_⟩
  have s1 : SE (h1.new (.cells (entL es)) 79) (.slice a es.length c) es := Sl.keepNew (AR.se r1) _ _
  rw [spec_logs s1 (lit_ents 79 etR.size es hl _) hl hl, decide_eq_true rfl]
def ak1 : List E3 := [⟨0, 1, 2⟩]
def ak2 : List E3 := [⟨0, 2, 2⟩]
theorem ak_t : sendT 2 0 2 = 2 := by decide
theorem ak_l1 : sendLog [] 0 0 2 = ak1 := by decide
theorem ak_l2 : sendLog ak1 0 1 2 = ak2 := by decide
theorem ak_w : listW 2 = [1] := by rw [listW_bits 2 (by omega)]; decide
theorem ak_r : rowF ak1 2 1 = logB ak1 := by
  unfold rowF
  rw [show purgeE (lessE ak1 (outB 2 (ofN ((1 : Nat) : Int)))) = ak1 by decide]
  rfl
theorem bdR3' : buildV Tryd.prog 79 #[(0, .int .i64 0), (1, .int .u64 1), (2, .int .u64 2)] = some (entV ⟨0, 1, 2⟩) := by kernel_rfl
theorem bdR4' : buildV Tryd.prog 79 #[(0, .int .i64 0), (1, .int .u64 2), (2, .int .u64 2)] = some (entV ⟨0, 2, 2⟩) := by kernel_rfl
theorem bsA1 (h : Heap) : buildSliceV Tryd.prog 76 1 #[(0, entV ⟨0, 1, 2⟩)] h = some (.slice (some ⟨h.blks.length, 0, none⟩) ak1.length ak1.length, h.new (.cells (entL ak1)) 79) := by kernel_rfl
theorem bsA2 (h : Heap) : buildSliceV Tryd.prog 76 1 #[(0, entV ⟨0, 2, 2⟩)] h = some (.slice (some ⟨h.blks.length, 0, none⟩) ak2.length ak2.length, h.new (.cells (entL ak2)) 79) := by kernel_rfl
theorem lnBs2 {n0 : Nat} {h : Heap} {v : Value} {l : List (List UInt8)} (a : ABs n0 h v l) : lenV Tryd.prog 36 v h = some (.int .i64 l.length) := a.len
theorem spec_awake19 (h : Heap) : ∃ h', evC Tryd.prog 20 #[] h = some (.bool true, h') ∧ HExt h h' := by
  rw [show evC Tryd.prog 20 #[] h = _ from call20 h]
  obtain ⟨h1, q1,Ab, l1⟩ := spec_leanNew 2 0 (by omega) (by omega) (by omega) (by omega) (nm h)
  have e0 : (nm h).blks.length = h.blks.length := rfl
  rw [e0] at q1 l1
  have n1 : h.blks.length ≤ h1.blks.length := Ab.len
  have k1 : In h.blks.length No (nm h) h1 := Ab.inn (Nat.le_refl h.blks.length)
  have b2 := mkI1 1 h1
  have o2 := spec_Of1 (c := 1) (Cells.new h1 3 [.int .i64 1])
  have k2 := k1.trans (In.new (S := No) n1 (.cells [.int .i64 1]) 3)
  have l2 := l1.same (Same.new h1 (.cells [.int .i64 1]) 3)
  have n2 := (Same.new h1 (.cells [.int .i64 1]) 3).1
  generalize hh2 : h1.new (.cells [.int .i64 1]) 3 = h2 at b2 o2 k2 l2 n2
  rw [show ((ofN 1 : Nat) : Int) = 2 by decide] at o2
  obtain ⟨v3, h3, q3, y3, l3, r3⟩ := spec_Send l2 (by omega) (by intro e he; cases he) (by simp) (by omega) 2 (by omega) (by omega) (insOk_end (by decide) (by decide))
  have nb : ∀ b, b < h.blks.length → Just (h.blks.length + 1) b → No b := fun b hb e => by have : b = h.blks.length + 1 := e; omega
  have k3 := k2.trans (y3.inn (by omega) nb)
  rw [show sendT 2 0 2 = 2 from ak_t, show sendLog [] 0 0 2 = ak1 from ak_l1] at l3
  have n3 := y3.len
  have b4 := mkI1 1 h3
  have o4 := spec_Of1 (c := 1) (Cells.new h3 3 [.int .i64 1])
  have k4 := k3.trans (In.new (S := No) (by omega) (.cells [.int .i64 1]) 3)
  have l4 := l3.same (Same.new h3 (.cells [.int .i64 1]) 3)
  have n4 := (Same.new h3 (.cells [.int .i64 1]) 3).1
  generalize hh4 : h3.new (.cells [.int .i64 1]) 3 = h4 at b4 o4 k4 l4 n4
  rw [show ((ofN 1 : Nat) : Int) = 2 by decide] at o4
  obtain ⟨v5, h5, q5, y5, l5, r5⟩ := spec_Send l4 (by omega) (by decide) (by decide) (by omega) 2 (by omega) (by omega) (insOk_end (by decide) (by decide))
  have k5 := k4.trans (y5.inn (by omega) nb)
  rw [show sendT 2 0 2 = 2 from ak_t] at l5 r5
  rw [show sendLog ak1 0 (0 + 1) 2 = ak2 from ak_l2] at l5
  rw [ak_w, show [1].map (rowF ak1 2) = [logB ak1] by rw [List.map_cons, List.map_nil, ak_r]] at r5
  have n5 := y5.len
  have len5 := lnBs2 r5
  obtain ⟨ad, xv, f1, f2, f3⟩ := r5.at (i := 0) (by simp)
  rw [show ((0 : Nat) : Int) = 0 from rfl] at f1
  rw [show ([logB ak1] : List (List UInt8)).getD 0 [] = logB ak1 from rfl] at f3
  have lb : (logB ak1).length < 2 ^ 26 := by
    have h1 := encL_le ak1 (by decide) (by decide)
    have h2 := putL_le ak1.length (by decide)
    have h3 : ak1.length = 1 := rfl
    unfold logB; rw [List.length_append]; omega
  obtain ⟨a6, c6, h6, q6,Ag, r6⟩ := spec_Get18 f3 (by omega)
  rw [get_put (by decide) (by decide) (by decide)] at q6 r6
  simp only [Option.getD_some, Option.isSome_some] at q6 r6
  have n6 := Ag.len
  obtain ⟨h7, t7, y7, g7, s7, i7, g7'⟩ := newLogT (AE.se r6)
  have k7 := (k5.trans (Ag.inn (S := No) (by omega))).trans (i7 No h.blks.length (by omega))
  have n7 := y7.1
  obtain ⟨a8, c8, h8, q8,Ai, w8⟩ := cmp_litN s7 (by decide)
  have n8 := Ai.len
  have y9 := Same.new h8 (.cells (entL ak1)) 79
  have k9 := (k7.trans (Ai.inn (S := No) (by omega))).trans (In.new (S := No) (by omega) (.cells (entL ak1)) 79)
  have l9 := (((l5.same Ag.same).same y7).same Ai.same).same y9
  generalize hh9 : h8.new (.cells (entL ak1)) 79 = h9 at y9 k9 l9 w8
  have n9 := y9.1
  obtain ⟨a10, c10, h10, q10,Ak, s10⟩ := spec_Log l9 (by decide)
  have n10 := Ak.len
  obtain ⟨a11, c11, h11, q11,Al, w11⟩ := cmp_litN s10 (by decide)
  have n11 := Al.len
  have k12 := ((k9.trans (Ak.inn (S := No) (by omega))).trans (Al.inn (S := No) (by omega))).trans (In.new (S := No) (by omega) (.cells (entL ak2)) 79)
  have z1 : decide ((([logB ak1] : List (List UInt8)).length : Int) ≠ 1) = false := by decide
  rw [show ((2 : Nat) : Int) = 2 from rfl] at q1 q3 q5
  refine ⟨_, ?_, done_ext' k12⟩
  have b9 := bsA1 h8
  rw [hh9] at b9
  simp -implicitDefEqProofs (disch := omega) only [↓c20_0_eq, q1, extractV_tuple, pnn, b2, o2, q3, b4, o4, q5, len5, z1, ne_eq, not_true_eq_false, decide_false, f1, f2, q6, alL, stL, t7, faL, ldEs, g7', q8, bdR3', b9, w8, q10, fvL, q11, bdR4', bsA2, w11, ↓ret20, ↓cnd_true, ↓cnd_false, ↓Option.bind_some, ↓obH_some', bin_add, bin_sub, bin_mul, bin_lss, bin_leq, bin_gtr, bin_geq, bin_eql, bin_neq, un_not, un_neg, Option.bind_some, Option.bind_none, Option.map_some, cnd_true, cnd_false, pickV_true, pickV_false, gd_true, gd_false, gdV_true, gdV_false, gdH_true, gdH_false, gdS_true, gdS_false, wt_ff, wt_tt, wt_ft, wt_tf, wt_undef, obH_some', extractV_tuple, nilCheckV_ptr, againK_normal, againK_exit, againK_ret, blockK_normal, blockK_same, blockK_ret, seqK_normal, seqK_exit, seqK_ret, fin_done, if_true', if_false', Bool.not_true, Bool.not_false, idx0, idx1, idx2, idx3, idx4, chk_nil_l, chk_nil_r, done_nm, up_cons, up_nil, cond_true, cond_false, Nat.reduceBEq]
end Go.Am
namespace Go.Am
open Go.Proofs
set_option maxRecDepth 100000
set_option linter.all false
attribute [local congr] obind_congr obH_congr cnd_congr chk_congr retK_congr codeK_congr
end Go.Am
namespace Go.Am
open Go.Proofs
set_option maxRecDepth 100000
set_option linter.all false
attribute [local congr] obind_congr obH_congr cnd_congr chk_congr retK_congr codeK_congr
end Go.Am
namespace Go.Am
open Go.Proofs
set_option maxRecDepth 100000
set_option linter.all false
attribute [local congr] obind_congr obH_congr cnd_congr chk_congr retK_congr codeK_congr
theorem Cells.ty {h : Heap} {p : Nat} {t1 t2 : TypeId} {cs all : List Value} (c : Cells h p t1 cs) (e : h.blks[p]? = some ⟨.cells all, t2, true⟩) : t1 = t2 := by
  unfold Cells at c
  rw [c] at e
  simp only [Option.some.injEq, Blk.mk.injEq] at e
  exact e.2.1
theorem LEn.rows {S : Nat → Prop} {h h' : Heap} {p s : Nat} {n me : Int} {num : Nat} {es : List E3} {ns : List Nat} (l : LEn h p s n me num es ns) (m : HMod S h h') (hS : ∀ b, S b → b = p ∨ b = s) {n0 : Nat} {v : Value} {r : List (List UInt8)} (a : ABs n0 h v r) : ABs n0 h' v r := by
  obtain ⟨vs, x⟩ := a
  obtain ⟨la, lc, ce, _⟩ := l.eng
  refine ⟨vs, x.kp fun b all ty hb ht _ => m.old b (List.getElem?_eq_some_iff.1 hb).1 fun hs => ?_⟩
  rcases hS b hs with rfl | rfl
  · have := ce.ty hb
    rcases ht with ht | ht
    · exact absurd (this.trans ht) (by decide)
    · exact absurd (this.trans ht) (by decide)
  · have := l.seen.ty hb
    rcases ht with ht | ht
    · exact absurd (this.trans ht) (by decide)
    · exact absurd (this.trans ht) (by decide)
theorem LEn.others {S : Nat → Prop} {h h' : Heap} {p s : Nat} {n me : Int} {num : Nat} {es : List E3} {ns : List Nat} (l : LEn h p s n me num es ns) (m : HMod S h h') (hS : ∀ b, S b → b = p ∨ b = s) {p' s' : Nat} {n' me' : Int} {num' : Nat} {es' : List E3} {ns' : List Nat} (l' : LEn h p' s' n' me' num' es' ns')
    (h1 : p' ≠ p) (h2 : s' ≠ s) : LEn h' p' s' n' me' num' es' ns' := by
  obtain ⟨la, lc, ce, _⟩ := l.eng
  obtain ⟨la', lc', ce', _⟩ := l'.eng
  have c1 : p' ≠ s := fun e => by subst e; exact absurd (ce'.ty l.seen) (by decide)
  have c2 : s' ≠ p := fun e => by subst e; exact absurd (l'.seen.ty ce) (by decide)
  refine HMod.lEn l' m (fun h => ?_) (fun h => ?_) (fun b all hb h => ?_)
  · rcases hS _ h with e | e
    · exact h1 e
    · exact c1 e
  · rcases hS _ h with e | e
    · exact c2 e
    · exact h2 e
  · rcases hS _ h with rfl | rfl
    · exact absurd (ce.ty hb) (by decide)
    · exact absurd (l.seen.ty hb) (by decide)
end Go.Am
namespace Go.Am
open Go.Proofs
set_option maxRecDepth 100000
set_option linter.all false
attribute [local congr] obind_congr obH_congr cnd_congr chk_congr retK_congr codeK_congr
def loA (f t i : Nat) : List E3 := if i = 0 then [] else [⟨f, i, 2 ^ t⟩]
def loB (f i : Nat) : List E3 := if i = 0 then [] else [⟨f, i, 0⟩]
theorem lo_0 : ∀ t < 6, ofN (t : Nat) = 2 ^ t := by decide +kernel
theorem lo_1 : ∀ n < 7, ∀ f < n, ∀ t < n, f ≠ t → sendT n (f : Nat) (2 ^ t) = 2 ^ t := by decide +kernel
theorem lo_3 : ∀ f < 6, ∀ t < 6, ∀ i < 11, purgeE (lessE (loA f t i) (outB (2 ^ t) (ofN (t : Nat)))) = loA f t i := by decide +kernel
theorem lo_4 : ∀ f < 6, ∀ t < 6, ∀ i < 11, sendLog (loA f t i) (f : Nat) i (2 ^ t) = loA f t (i + 1) := by decide +kernel
theorem lo_5 : ∀ f < 6, ∀ t < 6, ∀ i < 11, bsK (lessE (loA f t i) (2 ^ t)) ⟨(f : Nat), i + 1, 2 ^ t⟩ = (lessE (loA f t i) (2 ^ t)).length ∧ (lessE (loA f t i) (2 ^ t)).length < 2 ^ 38 := by decide +kernel
theorem lo_5' : ∀ f < 6, ∀ t < 6, ∀ i < 11, bsK (loA f t i) ⟨(f : Nat), i + 1, 2 ^ t⟩ = (loA f t i).length ∧ (loA f t i).length < 2 ^ 28 := by decide +kernel
theorem lo_6 : ∀ f < 6, ∀ t < 6, ∀ i < 11, goodE (loA f t i) = true := by decide +kernel
theorem lo_7 : ∀ f < 6, ∀ t < 6, ∀ i < 11, lessE (addE (loA f t i) ⟨(f : Nat), i + 1, 2 ^ t⟩) (ofN (t : Nat)) = loB f i ++ [⟨(f : Nat), i + 1, 0⟩] := by decide +kernel
theorem lo_8 : ∀ f < 6, ∀ i < 11, goodE (loB f i) = true ∧ goodE (loB f i ++ [⟨(f : Nat), i + 1, 0⟩]) = true ∧ (loB f i).length < 2 ^ 28 := by decide +kernel
theorem lo_9 : ∀ f < 6, ∀ i < 11, newsE (loB f i) (loB f i ++ [⟨(f : Nat), i + 1, 0⟩]) ++ newsE (loB f i ++ [⟨(f : Nat), i + 1, 0⟩]) (loB f i) ++ bothE (loB f i) (loB f i ++ [⟨(f : Nat), i + 1, 0⟩]) = [⟨(f : Nat), i + 1, 0⟩] ++ loB f i := by decide +kernel
theorem lo_10 : ∀ f < 6, ∀ t < 6, ∀ i < 11, purgeE (lessE (loB f i ++ [⟨(f : Nat), i + 1, 0⟩]) (ofN (t : Nat))) = loB f (i + 1) := by decide +kernel
theorem lo_len : ∀ f < 6, ∀ t < 6, ∀ i < 11, (logB (loA f t i)).length < 100 := by decide +kernel
theorem lo_T : ∀ t < 6, 2 ^ t < 2 ^ 64 := by decide +kernel
theorem lo_list : ∀ t < 6, listW (2 ^ t) = [t] := fun t ht => by
  rw [listW_bits _ (lo_T t ht)]
  revert t
  decide +kernel
theorem lo_wA (f t i : Nat) (ht : t < 6) (hf : f < 6) (hi : i < 11) : wide (loA f t i) := by
  intro e he
  unfold loA at he
  split at he
  · cases he
  · rw [List.mem_singleton] at he
    subst he
    have := lo_T t ht
    exact ⟨by show i < _; omega, this⟩
theorem lo_wB (f i : Nat) (hf : f < 6) (hi : i < 11) : wide (loB f i) := by
  intro e he
  unfold loB at he
  split at he
  · cases he
  · rw [List.mem_singleton] at he
    subst he
    exact ⟨by show i < _; omega, by show (0 : Nat) < _; omega⟩
theorem lo_get (f t i : Nat) (hf : f < 6) (ht : t < 6) (hi : i < 11) : getP (logB (loA f t i)) = some (loA f t i) :=
  get_put (lo_6 f hf t ht i hi) (lo_wA f t i ht hf hi) (by have := (lo_5' f hf t ht i hi).2; omega)
theorem lo_row (f t i : Nat) (hf : f < 6) (ht : t < 6) (hi : i < 11) : rowF (loA f t i) (2 ^ t) t = logB (loA f t i) := by
  unfold rowF
  rw [lo_3 f hf t ht i hi]
  unfold putE
  rw [if_pos (lo_6 f hf t ht i hi)]
theorem srtE_to {a b : List E3} (p : a.Perm b) (hb : Srt b) : srtE a = b := by
  refine srt_unique (srtE_srt ?_) hb ((srtE_perm a).trans p)
  have : b.Pairwise fun x y => ltE x y ∨ ltE y x := hb.imp fun h => .inl h
  exact p.symm.pairwise this (fun h => h.symm)
theorem lo_take (f t i : Nat) (hf : f < 6) (ht : t < 6) (hi : i < 11) : takeLog (loB f i) (t : Nat) (f : Nat) (i + 1) (2 ^ t) (loA f t i) = loB f (i + 1) := by
  unfold takeLog
  rw [lo_7 f hf t ht i hi]
  unfold joinE
  obtain ⟨g1, g2, _⟩ := lo_8 f hf i hi
  rw [if_pos ⟨g1, g2⟩, lo_9 f hf i hi, srtE_to (b := loB f i ++ [⟨(f : Nat), i + 1, 0⟩]) List.perm_append_comm ?_]
  · exact lo_10 f hf t ht i hi
  · unfold loB
    split
    · exact List.pairwise_singleton _ _
    · refine List.pairwise_cons.2 ⟨fun y hy => ?_, List.pairwise_singleton _ _⟩
      have hy := List.mem_singleton.1 hy
      subst hy
      exact Or.inr ⟨rfl, by show i < i + 1; omega⟩
def snL (n f i : Nat) : List Nat := (List.replicate n 0).set f i
theorem snL_zero (n f : Nat) : snL n f 0 = List.replicate n 0 := by
  unfold snL
  apply List.ext_getElem?
  intro j
  rw [List.getElem?_set]
  split
  · rename_i h
    subst h
    rw [List.getElem?_replicate]
    simp only [List.length_replicate]
  · rfl
theorem snL_len (n f i : Nat) : (snL n f i).length = n := by unfold snL; rw [List.length_set, List.length_replicate]
theorem snL_at (n f i : Nat) (hf : f < n) : (snL n f i).getD f 0 = i := by
  unfold snL
  rw [List.getD_eq_getElem?_getD, List.getElem?_set_self (by rw [List.length_replicate]; exact hf)]
  rfl
theorem lo_can (n f t i : Nat) (hn : n < 7) (hf : f < n) (ht : t < n) (hi : i < 11) (hne : f ≠ t) (k : Nat) : canE n (t : Nat) (snL n f k) (f : Nat) (i + 1) (logB (loA f t i)) = decide (i ≤ k) := by
  unfold canE
  rw [lo_get f t i (by omega) (by omega) hi]
  simp only
  rw [if_neg (by omega)]
  have e : atN (snL n f k) (f : Nat) = k := by
    unfold atN
    rw [snL_len, if_neg (by omega), Int.toNat_natCast, snL_at n f k hf]
  unfold loA
  by_cases h0 : i = 0
  · rw [if_pos h0, decide_eq_true (by omega)]; rfl
  · rw [if_neg h0]
    have hb : hasB (2 ^ t) (t : Nat) = true := by
      have : ∀ t < 6, hasB (2 ^ t) ((t : Nat) : Int) = true := by decide +kernel
      exact this t (by omega)
    simp only [List.any_cons, List.any_nil, Bool.or_false]
    unfold stopE
    simp only
    rw [hb, e, Bool.true_and, decide_eq_true (show ((f : Nat) : Int) ≠ (t : Nat) by omega), Bool.true_and]
    by_cases h1 : i ≤ k
    · rw [decide_eq_true h1, decide_eq_false (by omega)]; rfl
    · rw [decide_eq_false h1, decide_eq_true (by omega)]; rfl
def lsL (f t i : Nat) : List (List UInt8) := (List.range i).map fun j => logB (loA f t j)
theorem lsL_len (f t i : Nat) : (lsL f t i).length = i := by unfold lsL; rw [List.length_map, List.length_range]
theorem lsL_succ (f t i : Nat) : lsL f t (i + 1) = lsL f t i ++ [logB (loA f t i)] := by unfold lsL; rw [List.range_succ, List.map_append]; rfl
theorem lsL_at (f t i j : Nat) (h : j < i) : (lsL f t i).getD j [] = logB (loA f t j) := by
  unfold lsL
  rw [List.getD_eq_getElem?_getD, List.getElem?_map, List.getElem?_range h]; rfl
theorem ABs.atO {n0 : Nat} {h : Heap} {v : Value} {l : List (List UInt8)} (a : ABs n0 h v l) {i : Nat} (hi : i < l.length) :
    ∃ ad x c, indexAddrV Tryd.prog 36 v (.int .i64 i) = some (.pointer (some ad)) ∧ loadV Tryd.prog 40 (.pointer (some ad)) h = some (.slice x (l.getD i []).length c) ∧ AB n0 h (.slice x (l.getD i []).length c) (l.getD i []) := by
  obtain ⟨vs, x⟩ := a
  obtain ⟨ad, e1, e2, _⟩ := (x.out.sl etBs.size).row.at1 etBs.under etBs.size (by kernel_rfl) hi .i64
  obtain ⟨y, hy, ay⟩ := x.rows.get' (i := i) (b := l[i]) (List.getElem?_eq_getElem hi)
  rw [hy] at e2
  rw [List.getD_eq_getElem?_getD, List.getElem?_eq_getElem hi]
  obtain ⟨aa, cc, rfl⟩ := ay.shape
  exact ⟨ad, aa, cc, e1, e2, ay⟩
theorem LEn.neO {h : Heap} {p s : Nat} {n me : Int} {num : Nat} {es : List E3} {ns : List Nat} (l : LEn h p s n me num es ns) {n0 : Nat} {v : Value} {bs : List UInt8} (a : AB n0 h v bs) : blockOf v ≠ some p ∧ blockOf v ≠ some s := by
  obtain ⟨la, lc, ce, _⟩ := l.eng
  refine ⟨fun e => ?_, fun e => ?_⟩
  · obtain ⟨all, h1⟩ := a.blk e
    exact absurd (ce.ty h1) (by decide)
  · obtain ⟨all, h1⟩ := a.blk e
    exact absurd (l.seen.ty h1) (by decide)
theorem cvIUo (n : Int) (h : Heap) (h0 : 0 ≤ n) (h1 : n < 2 ^ 63) : convV Tryd.prog 3 23 (.int .i64 n) h = some (.int .u64 n, h) := conv_u64 (ks := .i64) (by kernel_rfl) (by kernel_rfl) _ _ _ h0 (by omega)
theorem lo_send {Q : Option (Value × Heap) → Prop} {N n f t many pa sa pb sb : Nat} {pk : Int} (hn : n < 7) (hf : f < n) (ht : t < n) (hne : f ≠ t) (hm : many ≤ 10) (hab : pa ≠ pb) (hsab : sa ≠ sb) (hpa : pa ≠ sa) (k : Ex → St → Option (Value × Heap))
    (hk : ∀ (h' : Heap) (v' : Value), LEn h' pa sa n (f : Nat) many (loA f t many) (List.replicate n 0) → LEn h' pb sb n (t : Nat) 0 [] (List.replicate n 0) → ABs N h' v' (lsL f t many) → N ≤ h'.blks.length → ∀ x : Nat → Value, x 0 = .int .i64 n → x 1 = .int .i64 f → x 2 = .int .i64 t → x 3 = .int .i64 many → x 4 = .int .i64 pk → x 11 = .pointer (some ⟨pa, 0, none⟩) → x 13 = .pointer (some ⟨pb, 0, none⟩) → x 15 = v' → Q (k .normal ⟨ar 163 x, h'⟩)) :
    ∀ (mm i : Nat) (h : Heap) (v : Value), many = i + mm → LEn h pa sa n (f : Nat) i (loA f t i) (List.replicate n 0) → LEn h pb sb n (t : Nat) 0 [] (List.replicate n 0) → ABs N h v (lsL f t i) → N ≤ h.blks.length →
    ∀ x : Nat → Value, x 0 = .int .i64 n → x 1 = .int .i64 f → x 2 = .int .i64 t → x 3 = .int .i64 many → x 4 = .int .i64 pk → x 11 = .pointer (some ⟨pa, 0, none⟩) → x 13 = .pointer (some ⟨pb, 0, none⟩) → x 15 = v → x 16 = .int .i64 i →
    Q (lK c6_1 163 x h (blockK 0 k)) := by
  intro mm
  induction mm with
  | zero =>
    intro i h v hi La Lb A hN x Aa Ab Ac Ad Ae Al Ao Aq Ar
    rw [lK_eq]
    obtain rfl : many = i := by omega
    simp -implicitDefEqProofs (disch := omega) only [↓c6_1_eq, dcT, dcF,Ad,Ar, ↓cnd_true, ↓cnd_false, ↓Option.bind_some, ↓obH_some', bin_add, bin_sub, bin_mul, bin_lss, bin_leq, bin_gtr, bin_geq, bin_eql, bin_neq, un_not, un_neg, Option.bind_some, Option.bind_none, Option.map_some, cnd_true, cnd_false, pickV_true, pickV_false, gd_true, gd_false, gdV_true, gdV_false, gdH_true, gdH_false, gdS_true, gdS_false, wt_ff, wt_tt, wt_ft, wt_tf, wt_undef, obH_some', extractV_tuple, nilCheckV_ptr, againK_normal, againK_exit, againK_ret, blockK_normal, blockK_same, blockK_ret, seqK_normal, seqK_exit, seqK_ret, fin_done, if_true', if_false', Bool.not_true, Bool.not_false, idx0, idx1, idx2, idx3, idx4, chk_nil_l, chk_nil_r, done_nm, up_cons, up_nil, cond_true, cond_false, Nat.reduceBEq]
    refine hk h v La Lb A hN _ ?_ ?_ ?_ ?_ ?_ ?_ ?_ ?_
    · exact Aa
    · exact Ab
    · exact Ac
    · exact Ad
    · exact Ae
    · exact Al
    · exact Ao
    · exact Aq
  | succ mm ih =>
    intro i h v hi La Lb A hN x Aa Ab Ac Ad Ae Al Ao Aq Ar
    rw [lK_eq]
    have hi' : i < 11 := by omega
    have hf6 : f < 6 := by omega
    have ht6 : t < 6 := by omega
    have k1 := mkI1 (t : Int) h
    have c1 := Cells.new h 3 [.int .i64 (t : Int)]
    have s1 := Same.new h (.cells [.int .i64 (t : Int)]) 3
    generalize hh1 : h.new (.cells [.int .i64 (t : Int)]) 3 = h1 at *
    have e1 := spec_Of1 (c := 1) c1
    rw [lo_0 t ht6] at e1
    obtain ⟨i5, i6⟩ := lo_5 f hf6 t ht6 i hi'
    have es := lo_1 n hn f hf t ht hne
    obtain ⟨sv, h2, e2, m2, La2, A2⟩ := spec_Send (La.same s1) (by omega) (lo_wA f t i ht6 hf6 hi') (by have := (lo_5' f hf6 t ht6 i hi').2; omega) (by omega) (2 ^ t) (lo_T t ht6) hpa (by rw [es]; exact insOk_end i5 i6)
    rw [es, lo_4 f hf6 t ht6 i hi'] at La2
    rw [es, lo_list t ht6, List.map_cons, List.map_nil, lo_row f t i hf6 ht6 hi'] at A2
    have Lb2 := LEn.others (La.same s1) m2 (fun b hb => .inl hb) (Lb.same s1) (Ne.symm hab) (Ne.symm hsab)
    have A3 := LEn.rows (La.same s1) m2 (fun b hb => .inl hb) (A.same s1)
    have ln := A2.len
    rw [show (([logB (loA f t i)] : List (List UInt8)).length : Int) = 1 from rfl] at ln
    obtain ⟨ad, sx, sc, ea, ex, ab⟩ := A2.atO (i := 0) (by simp)
    rw [show ([logB (loA f t i)] : List (List UInt8)).getD 0 [] = logB (loA f t i) from rfl] at ex ab
    rw [show ((0 : Nat) : Int) = 0 from rfl] at ea
    have l12 : N ≤ h1.blks.length := Nat.le_trans hN s1.1
    obtain ⟨vs, A3⟩ := A3
    obtain ⟨a4, c4, h4, e4, A4, k4, o4⟩ := A3.app (Nat.le_trans l12 m2.len) (ab.up l12) (by rw [lsL_len]; omega)
    rw [← lsL_succ] at e4 A4
    have kb : KpB h2 h4 := ⟨k4.len, o4⟩
    have hw : IntKind.wrap .i64 ((i : Int) + 1) = ((i + 1 : Nat) : Int) := by rw [wrap_i64] <;> omega
    simp -implicitDefEqProofs (disch := omega) only [↓c6_1_eq, dcT, dcF,Ac,Ad,Al,Aq,Ar, k1, e1, e2, ln, ea, ex, mkBs1, e4, hw, ne_eq, eq_self, not_true_eq_false, decide_false, ↓cnd_true, ↓cnd_false, ↓Option.bind_some, ↓obH_some', bin_add, bin_sub, bin_mul, bin_lss, bin_leq, bin_gtr, bin_geq, bin_eql, bin_neq, un_not, un_neg, Option.bind_some, Option.bind_none, Option.map_some, cnd_true, cnd_false, pickV_true, pickV_false, gd_true, gd_false, gdV_true, gdV_false, gdH_true, gdH_false, gdS_true, gdS_false, wt_ff, wt_tt, wt_ft, wt_tf, wt_undef, obH_some', extractV_tuple, nilCheckV_ptr, againK_normal, againK_exit, againK_ret, blockK_normal, blockK_same, blockK_ret, seqK_normal, seqK_exit, seqK_ret, fin_done, if_true', if_false', Bool.not_true, Bool.not_false, idx0, idx1, idx2, idx3, idx4, chk_nil_l, chk_nil_r, done_nm, up_cons, up_nil, cond_true, cond_false, Nat.reduceBEq]
    refine ih (i + 1) h4 _ (by omega) (La2.kp kb) (Lb2.kp kb) A4 (Nat.le_trans (Nat.le_trans l12 m2.len) k4.len) _ ?_ ?_ ?_ ?_ ?_ ?_ ?_ ?_ ?_
    · exact Aa
    · exact Ab
    · exact Ac
    · exact Ad
    · exact Ae
    · exact Al
    · exact Ao
    · rfl
    · rfl
theorem lo_takes {h0 : Heap} {N n f t many pa sa pb sb : Nat} {v : Value} (hn : n < 7) (hf : f < n) (ht : t < n) (hne : f ≠ t) (hm : many ≤ 10) (hm1 : 1 ≤ many) (hab : pa ≠ pb) (hsab : sa ≠ sb) (hpb : pb ≠ sb) :
    ∀ (mm i : Nat) (h : Heap), many = i + mm → LEn h pa sa n (f : Nat) many (loA f t many) (List.replicate n 0) → LEn h pb sb n (t : Nat) 0 (loB f i) (snL n f i) → ABs N h v (lsL f t many) →
    ∀ x : Nat → Value, x 0 = .int .i64 n → x 1 = .int .i64 f → x 2 = .int .i64 t → x 3 = .int .i64 many → x 11 = .pointer (some ⟨pa, 0, none⟩) → x 13 = .pointer (some ⟨pb, 0, none⟩) → x 15 = v → x 18 = .int .i64 i →
    ∃ h', lK c6_3 163 x h (blockK 2 (sK c6_4 (retK Tryd.f6 Tryd.prog h0))) = some (.bool true, h') := by
  intro mm
  induction mm with
  | zero =>
    intro i h hi La Lb A x Aa Ab Ac Ad Al Ao Aq Au
    rw [lK_eq]
    obtain rfl : many = i := by omega
    obtain ⟨wa, wc, h2, e2, y2, w2⟩ := spec_Seen Lb
    rw [snL_len] at e2 w2
    have ln : lenV Tryd.prog 73 (.slice wa n wc) h2 = some (.int .i64 n) := lnVec _ _ _ _
    obtain ⟨ad, f1, f2⟩ := su_at w2 etV.under (i := f) (by rw [snL_len]; exact hf)
    rw [snL_at n f many hf] at f2
    obtain ⟨ba, bc, h3, e3, y3, w3⟩ := spec_Log (Lb.same y2.same) (by have := (lo_8 f (by omega) many (by omega)).2.2; omega)
    obtain ⟨ca, cc, h4, e4, y4, w4⟩ := spec_Log ((La.same y2.same).same y3.same) (by have := (lo_5' f (by omega) t (by omega) many (by omega)).2; omega)
    have l3 : (loB f many).length = 1 := by unfold loB; rw [if_neg (by omega)]; rfl
    have l4 : (loA f t many).length = 1 := by unfold loA; rw [if_neg (by omega)]; rfl
    rw [l3] at e3
    rw [l4] at e4
    have cv := fun h => cvIUo (many : Int) h (by omega) (by omega)
    simp -implicitDefEqProofs (disch := omega) only [↓c6_3_eq, ↓c6_4_eq, dcT, dcF, decide_true, eq_self,Aa,Ab,Ad,Al,Ao,Au, e2, ln, f1, f2, cv, e3, e4, fvL, lnEs, ↓ret6, ↓cnd_true, ↓cnd_false, ↓Option.bind_some, ↓obH_some', bin_add, bin_sub, bin_mul, bin_lss, bin_leq, bin_gtr, bin_geq, bin_eql, bin_neq, un_not, un_neg, Option.bind_some, Option.bind_none, Option.map_some, cnd_true, cnd_false, pickV_true, pickV_false, gd_true, gd_false, gdV_true, gdV_false, gdH_true, gdH_false, gdS_true, gdS_false, wt_ff, wt_tt, wt_ft, wt_tf, wt_undef, obH_some', extractV_tuple, nilCheckV_ptr, againK_normal, againK_exit, againK_ret, blockK_normal, blockK_same, blockK_ret, seqK_normal, seqK_exit, seqK_ret, fin_done, if_true', if_false', Bool.not_true, Bool.not_false, idx0, idx1, idx2, idx3, idx4, chk_nil_l, chk_nil_r, done_nm, up_cons, up_nil, cond_true, cond_false, Nat.reduceBEq]
    exact ⟨_, rfl⟩
  | succ mm ih =>
    intro i h hi La Lb A x Aa Ab Ac Ad Al Ao Aq Au
    rw [lK_eq]
    have hi' : i < 11 := by omega
    have hf6 : f < 6 := by omega
    have ht6 : t < 6 := by omega
    have hw : IntKind.wrap .i64 ((i : Int) + 1) = ((i + 1 : Nat) : Int) := by rw [wrap_i64] <;> omega
    have cv := fun h => cvIUo ((i + 1 : Nat) : Int) h (by omega) (by omega)
    have k1 := mkI1 (t : Int) h
    have c1 := Cells.new h 3 [.int .i64 (t : Int)]
    have s1 := Same.new h (.cells [.int .i64 (t : Int)]) 3
    generalize hh1 : h.new (.cells [.int .i64 (t : Int)]) 3 = h1 at *
    have e1 := spec_Of1 (c := 1) (h := nm h1) c1.nm
    rw [lo_0 t ht6] at e1
    have A1 := A.same s1
    obtain ⟨ad, sx, sc, ea, ex, ab⟩ := A1.atO (i := i) (by rw [lsL_len]; omega)
    rw [lsL_at f t many i (by omega)] at ex ab
    obtain ⟨q1, q2⟩ := LEn.neO (Lb.same s1) ab
    have hc := lo_can n f t i hn hf ht hi' hne i
    rw [decide_eq_true (Nat.le_refl i)] at hc
    obtain ⟨i5, i6⟩ := lo_5' f hf6 t ht6 i hi'
    have hlen := lo_len f hf6 t ht6 i hi'
    obtain ⟨h2, e2, m2, Lb2⟩ := spec_Take (Lb.same s1) (by omega) (snL_len n f i) (lo_wB f i hf6 hi') (lo_8 f hf6 i hi').2.2 hpb (f : Nat) (i + 1) (2 ^ t) (by omega) (lo_T t ht6) (ab.sl etB.size) (by omega) q1 q2 (lo_get f t i hf6 ht6 hi') hc (insOk_end i5 (by omega))
    rw [lo_take f t i hf6 ht6 hi', Int.toNat_natCast, show (snL n f i).set f (i + 1) = snL n f (i + 1) from List.set_set _] at Lb2
    have La2 := LEn.others (Lb.same s1) m2 (fun b hb => hb) (La.same s1) hab hsab
    have A2 := LEn.rows (Lb.same s1) m2 (fun b hb => hb) A1
    simp -implicitDefEqProofs (disch := omega) only [↓c6_3_eq, dcT, dcF,Aa,Ab,Ac,Ad,Ao,Aq,Au, hw, cv, k1, e1, am_nm, nm_mods, List.nil_append, List.append_nil, ea, ex, e2, ↓cnd_true, ↓cnd_false, ↓Option.bind_some, ↓obH_some', bin_add, bin_sub, bin_mul, bin_lss, bin_leq, bin_gtr, bin_geq, bin_eql, bin_neq, un_not, un_neg, Option.bind_some, Option.bind_none, Option.map_some, cnd_true, cnd_false, pickV_true, pickV_false, gd_true, gd_false, gdV_true, gdV_false, gdH_true, gdH_false, gdS_true, gdS_false, wt_ff, wt_tt, wt_ft, wt_tf, wt_undef, obH_some', extractV_tuple, nilCheckV_ptr, againK_normal, againK_exit, againK_ret, blockK_normal, blockK_same, blockK_ret, seqK_normal, seqK_exit, seqK_ret, fin_done, if_true', if_false', Bool.not_true, Bool.not_false, idx0, idx1, idx2, idx3, idx4, chk_nil_l, chk_nil_r, done_nm, up_cons, up_nil, cond_true, cond_false, Nat.reduceBEq]
    refine ih (i + 1) h2 (by omega) La2 Lb2 A2 _ ?_ ?_ ?_ ?_ ?_ ?_ ?_ ?_
    · exact Aa
    · exact Ab
    · exact Ac
    · exact Ad
    · exact Al
    · exact Ao
    · exact Aq
    · rfl
end Go.Am
namespace Go.Am
open Go.Proofs
set_option maxRecDepth 100000
set_option linter.all false
attribute [local congr] obind_congr obH_congr cnd_congr chk_congr retK_congr codeK_congr
theorem mlaw_LeanOrder (n f t m p : Int) (h : Heap) : ∃ h', evC Tryd.prog 6 #[.int .i64 n, .int .i64 f, .int .i64 t, .int .i64 m, .int .i64 p] h = some (.bool true, h') := by
  rw [call6]
  obtain ⟨h1, e1,Ab⟩ := spec_awake19 (nm h)
  by_cases g0 : n < 2
  · simp -implicitDefEqProofs (disch := omega) only [↓c6_0_eq, dcT, dcF, e1, ↓ret6, ↓cnd_true, ↓cnd_false, ↓Option.bind_some, ↓obH_some', bin_add, bin_sub, bin_mul, bin_lss, bin_leq, bin_gtr, bin_geq, bin_eql, bin_neq, un_not, un_neg, Option.bind_some, Option.bind_none, Option.map_some, cnd_true, cnd_false, pickV_true, pickV_false, gd_true, gd_false, gdV_true, gdV_false, gdH_true, gdH_false, gdS_true, gdS_false, wt_ff, wt_tt, wt_ft, wt_tf, wt_undef, obH_some', extractV_tuple, nilCheckV_ptr, againK_normal, againK_exit, againK_ret, blockK_normal, blockK_same, blockK_ret, seqK_normal, seqK_exit, seqK_ret, fin_done, if_true', if_false', Bool.not_true, Bool.not_false, idx0, idx1, idx2, idx3, idx4, chk_nil_l, chk_nil_r, done_nm, up_cons, up_nil, cond_true, cond_false, Nat.reduceBEq]
    exact ⟨_, rfl⟩
  by_cases g1 : n > 6
  · simp -implicitDefEqProofs (disch := omega) only [↓c6_0_eq, dcT, dcF, e1, ↓ret6, ↓cnd_true, ↓cnd_false, ↓Option.bind_some, ↓obH_some', bin_add, bin_sub, bin_mul, bin_lss, bin_leq, bin_gtr, bin_geq, bin_eql, bin_neq, un_not, un_neg, Option.bind_some, Option.bind_none, Option.map_some, cnd_true, cnd_false, pickV_true, pickV_false, gd_true, gd_false, gdV_true, gdV_false, gdH_true, gdH_false, gdS_true, gdS_false, wt_ff, wt_tt, wt_ft, wt_tf, wt_undef, obH_some', extractV_tuple, nilCheckV_ptr, againK_normal, againK_exit, againK_ret, blockK_normal, blockK_same, blockK_ret, seqK_normal, seqK_exit, seqK_ret, fin_done, if_true', if_false', Bool.not_true, Bool.not_false, idx0, idx1, idx2, idx3, idx4, chk_nil_l, chk_nil_r, done_nm, up_cons, up_nil, cond_true, cond_false, Nat.reduceBEq]
    exact ⟨_, rfl⟩
  by_cases g2 : f < 0
  · simp -implicitDefEqProofs (disch := omega) only [↓c6_0_eq, dcT, dcF, e1, ↓ret6, ↓cnd_true, ↓cnd_false, ↓Option.bind_some, ↓obH_some', bin_add, bin_sub, bin_mul, bin_lss, bin_leq, bin_gtr, bin_geq, bin_eql, bin_neq, un_not, un_neg, Option.bind_some, Option.bind_none, Option.map_some, cnd_true, cnd_false, pickV_true, pickV_false, gd_true, gd_false, gdV_true, gdV_false, gdH_true, gdH_false, gdS_true, gdS_false, wt_ff, wt_tt, wt_ft, wt_tf, wt_undef, obH_some', extractV_tuple, nilCheckV_ptr, againK_normal, againK_exit, againK_ret, blockK_normal, blockK_same, blockK_ret, seqK_normal, seqK_exit, seqK_ret, fin_done, if_true', if_false', Bool.not_true, Bool.not_false, idx0, idx1, idx2, idx3, idx4, chk_nil_l, chk_nil_r, done_nm, up_cons, up_nil, cond_true, cond_false, Nat.reduceBEq]
    exact ⟨_, rfl⟩
  by_cases g3 : f ≥ n
  · simp -implicitDefEqProofs (disch := omega) only [↓c6_0_eq, dcT, dcF, e1, ↓ret6, ↓cnd_true, ↓cnd_false, ↓Option.bind_some, ↓obH_some', bin_add, bin_sub, bin_mul, bin_lss, bin_leq, bin_gtr, bin_geq, bin_eql, bin_neq, un_not, un_neg, Option.bind_some, Option.bind_none, Option.map_some, cnd_true, cnd_false, pickV_true, pickV_false, gd_true, gd_false, gdV_true, gdV_false, gdH_true, gdH_false, gdS_true, gdS_false, wt_ff, wt_tt, wt_ft, wt_tf, wt_undef, obH_some', extractV_tuple, nilCheckV_ptr, againK_normal, againK_exit, againK_ret, blockK_normal, blockK_same, blockK_ret, seqK_normal, seqK_exit, seqK_ret, fin_done, if_true', if_false', Bool.not_true, Bool.not_false, idx0, idx1, idx2, idx3, idx4, chk_nil_l, chk_nil_r, done_nm, up_cons, up_nil, cond_true, cond_false, Nat.reduceBEq]
    exact ⟨_, rfl⟩
  by_cases g4 : t < 0
  · simp -implicitDefEqProofs (disch := omega) only [↓c6_0_eq, dcT, dcF, e1, ↓ret6, ↓cnd_true, ↓cnd_false, ↓Option.bind_some, ↓obH_some', bin_add, bin_sub, bin_mul, bin_lss, bin_leq, bin_gtr, bin_geq, bin_eql, bin_neq, un_not, un_neg, Option.bind_some, Option.bind_none, Option.map_some, cnd_true, cnd_false, pickV_true, pickV_false, gd_true, gd_false, gdV_true, gdV_false, gdH_true, gdH_false, gdS_true, gdS_false, wt_ff, wt_tt, wt_ft, wt_tf, wt_undef, obH_some', extractV_tuple, nilCheckV_ptr, againK_normal, againK_exit, againK_ret, blockK_normal, blockK_same, blockK_ret, seqK_normal, seqK_exit, seqK_ret, fin_done, if_true', if_false', Bool.not_true, Bool.not_false, idx0, idx1, idx2, idx3, idx4, chk_nil_l, chk_nil_r, done_nm, up_cons, up_nil, cond_true, cond_false, Nat.reduceBEq]
    exact ⟨_, rfl⟩
  by_cases g5 : t ≥ n
  · simp -implicitDefEqProofs (disch := omega) only [↓c6_0_eq, dcT, dcF, e1, ↓ret6, ↓cnd_true, ↓cnd_false, ↓Option.bind_some, ↓obH_some', bin_add, bin_sub, bin_mul, bin_lss, bin_leq, bin_gtr, bin_geq, bin_eql, bin_neq, un_not, un_neg, Option.bind_some, Option.bind_none, Option.map_some, cnd_true, cnd_false, pickV_true, pickV_false, gd_true, gd_false, gdV_true, gdV_false, gdH_true, gdH_false, gdS_true, gdS_false, wt_ff, wt_tt, wt_ft, wt_tf, wt_undef, obH_some', extractV_tuple, nilCheckV_ptr, againK_normal, againK_exit, againK_ret, blockK_normal, blockK_same, blockK_ret, seqK_normal, seqK_exit, seqK_ret, fin_done, if_true', if_false', Bool.not_true, Bool.not_false, idx0, idx1, idx2, idx3, idx4, chk_nil_l, chk_nil_r, done_nm, up_cons, up_nil, cond_true, cond_false, Nat.reduceBEq]
    exact ⟨_, rfl⟩
  by_cases g6 : f = t
  · simp -implicitDefEqProofs (disch := omega) only [↓c6_0_eq, dcT, dcF, e1, ↓ret6, ↓cnd_true, ↓cnd_false, ↓Option.bind_some, ↓obH_some', bin_add, bin_sub, bin_mul, bin_lss, bin_leq, bin_gtr, bin_geq, bin_eql, bin_neq, un_not, un_neg, Option.bind_some, Option.bind_none, Option.map_some, cnd_true, cnd_false, pickV_true, pickV_false, gd_true, gd_false, gdV_true, gdV_false, gdH_true, gdH_false, gdS_true, gdS_false, wt_ff, wt_tt, wt_ft, wt_tf, wt_undef, obH_some', extractV_tuple, nilCheckV_ptr, againK_normal, againK_exit, againK_ret, blockK_normal, blockK_same, blockK_ret, seqK_normal, seqK_exit, seqK_ret, fin_done, if_true', if_false', Bool.not_true, Bool.not_false, idx0, idx1, idx2, idx3, idx4, chk_nil_l, chk_nil_r, done_nm, up_cons, up_nil, cond_true, cond_false, Nat.reduceBEq]
    exact ⟨_, rfl⟩
  by_cases g7 : m < 2
  · simp -implicitDefEqProofs (disch := omega) only [↓c6_0_eq, dcT, dcF, e1, ↓ret6, ↓cnd_true, ↓cnd_false, ↓Option.bind_some, ↓obH_some', bin_add, bin_sub, bin_mul, bin_lss, bin_leq, bin_gtr, bin_geq, bin_eql, bin_neq, un_not, un_neg, Option.bind_some, Option.bind_none, Option.map_some, cnd_true, cnd_false, pickV_true, pickV_false, gd_true, gd_false, gdV_true, gdV_false, gdH_true, gdH_false, gdS_true, gdS_false, wt_ff, wt_tt, wt_ft, wt_tf, wt_undef, obH_some', extractV_tuple, nilCheckV_ptr, againK_normal, againK_exit, againK_ret, blockK_normal, blockK_same, blockK_ret, seqK_normal, seqK_exit, seqK_ret, fin_done, if_true', if_false', Bool.not_true, Bool.not_false, idx0, idx1, idx2, idx3, idx4, chk_nil_l, chk_nil_r, done_nm, up_cons, up_nil, cond_true, cond_false, Nat.reduceBEq]
    exact ⟨_, rfl⟩
  by_cases g8 : m > 10
  · simp -implicitDefEqProofs (disch := omega) only [↓c6_0_eq, dcT, dcF, e1, ↓ret6, ↓cnd_true, ↓cnd_false, ↓Option.bind_some, ↓obH_some', bin_add, bin_sub, bin_mul, bin_lss, bin_leq, bin_gtr, bin_geq, bin_eql, bin_neq, un_not, un_neg, Option.bind_some, Option.bind_none, Option.map_some, cnd_true, cnd_false, pickV_true, pickV_false, gd_true, gd_false, gdV_true, gdV_false, gdH_true, gdH_false, gdS_true, gdS_false, wt_ff, wt_tt, wt_ft, wt_tf, wt_undef, obH_some', extractV_tuple, nilCheckV_ptr, againK_normal, againK_exit, againK_ret, blockK_normal, blockK_same, blockK_ret, seqK_normal, seqK_exit, seqK_ret, fin_done, if_true', if_false', Bool.not_true, Bool.not_false, idx0, idx1, idx2, idx3, idx4, chk_nil_l, chk_nil_r, done_nm, up_cons, up_nil, cond_true, cond_false, Nat.reduceBEq]
    exact ⟨_, rfl⟩
  by_cases g9 : p < 1
  · simp -implicitDefEqProofs (disch := omega) only [↓c6_0_eq, dcT, dcF, e1, ↓ret6, ↓cnd_true, ↓cnd_false, ↓Option.bind_some, ↓obH_some', bin_add, bin_sub, bin_mul, bin_lss, bin_leq, bin_gtr, bin_geq, bin_eql, bin_neq, un_not, un_neg, Option.bind_some, Option.bind_none, Option.map_some, cnd_true, cnd_false, pickV_true, pickV_false, gd_true, gd_false, gdV_true, gdV_false, gdH_true, gdH_false, gdS_true, gdS_false, wt_ff, wt_tt, wt_ft, wt_tf, wt_undef, obH_some', extractV_tuple, nilCheckV_ptr, againK_normal, againK_exit, againK_ret, blockK_normal, blockK_same, blockK_ret, seqK_normal, seqK_exit, seqK_ret, fin_done, if_true', if_false', Bool.not_true, Bool.not_false, idx0, idx1, idx2, idx3, idx4, chk_nil_l, chk_nil_r, done_nm, up_cons, up_nil, cond_true, cond_false, Nat.reduceBEq]
    exact ⟨_, rfl⟩
  by_cases g10 : p ≥ m
  · simp -implicitDefEqProofs (disch := omega) only [↓c6_0_eq, dcT, dcF, e1, ↓ret6, ↓cnd_true, ↓cnd_false, ↓Option.bind_some, ↓obH_some', bin_add, bin_sub, bin_mul, bin_lss, bin_leq, bin_gtr, bin_geq, bin_eql, bin_neq, un_not, un_neg, Option.bind_some, Option.bind_none, Option.map_some, cnd_true, cnd_false, pickV_true, pickV_false, gd_true, gd_false, gdV_true, gdV_false, gdH_true, gdH_false, gdS_true, gdS_false, wt_ff, wt_tt, wt_ft, wt_tf, wt_undef, obH_some', extractV_tuple, nilCheckV_ptr, againK_normal, againK_exit, againK_ret, blockK_normal, blockK_same, blockK_ret, seqK_normal, seqK_exit, seqK_ret, fin_done, if_true', if_false', Bool.not_true, Bool.not_false, idx0, idx1, idx2, idx3, idx4, chk_nil_l, chk_nil_r, done_nm, up_cons, up_nil, cond_true, cond_false, Nat.reduceBEq]
    exact ⟨_, rfl⟩
  obtain ⟨n, rfl⟩ : ∃ k : Nat, n = k := ⟨n.toNat, by omega⟩
  obtain ⟨f, rfl⟩ : ∃ k : Nat, f = k := ⟨f.toNat, by omega⟩
  obtain ⟨t, rfl⟩ : ∃ k : Nat, t = k := ⟨t.toNat, by omega⟩
  obtain ⟨m, rfl⟩ : ∃ k : Nat, m = k := ⟨m.toNat, by omega⟩
  obtain ⟨p, rfl⟩ : ∃ k : Nat, p = k := ⟨p.toNat, by omega⟩
  obtain ⟨h2, e2,Ac,La⟩ := spec_leanNew n (f : Nat) (by omega) (by omega) (by omega) (by omega) h1
  obtain ⟨h3, e3,Ad,Lb⟩ := spec_leanNew n (t : Nat) (by omega) (by omega) (by omega) (by omega) h2
  have La3 := La.same Ad.same
  obtain ⟨_, _, cea, _⟩ := La.eng
  have pl := cea.lt
  have l12 : h1.blks.length ≤ h2.blks.length := Ac.len
  have hab : h1.blks.length + 1 ≠ h2.blks.length + 1 := by omega
  have hsab : h1.blks.length ≠ h2.blks.length := by omega
  have hpa : h1.blks.length + 1 ≠ h1.blks.length := by omega
  have hpb : h2.blks.length + 1 ≠ h2.blks.length := by omega
  have hz : 1 ≤ m := by omega
  simp -implicitDefEqProofs (disch := omega) only [↓c6_0_eq, dcT, dcF, e1, e2, e3, pnn, ↓cnd_true, ↓cnd_false, ↓Option.bind_some, ↓obH_some', bin_add, bin_sub, bin_mul, bin_lss, bin_leq, bin_gtr, bin_geq, bin_eql, bin_neq, un_not, un_neg, Option.bind_some, Option.bind_none, Option.map_some, cnd_true, cnd_false, pickV_true, pickV_false, gd_true, gd_false, gdV_true, gdV_false, gdH_true, gdH_false, gdS_true, gdS_false, wt_ff, wt_tt, wt_ft, wt_tf, wt_undef, obH_some', extractV_tuple, nilCheckV_ptr, againK_normal, againK_exit, againK_ret, blockK_normal, blockK_same, blockK_ret, seqK_normal, seqK_exit, seqK_ret, fin_done, if_true', if_false', Bool.not_true, Bool.not_false, idx0, idx1, idx2, idx3, idx4, chk_nil_l, chk_nil_r, done_nm, up_cons, up_nil, cond_true, cond_false, Nat.reduceBEq]
  refine lo_send (Q := fun r => ∃ h', r = some (.bool true, h')) (N := h3.blks.length) (n := n) (f := f) (t := t) (many := m) (pk := (p : Int)) (pa := h1.blks.length + 1) (sa := h1.blks.length) (pb := h2.blks.length + 1) (sb := h2.blks.length) (by omega) (by omega) (by omega) (by omega) (by omega) hab hsab hpa _ ?_ m 0 h3 _ (by omega) La3 Lb ⟨[], ⟨.nil, .nil⟩⟩ (Nat.le_refl _) _ ?_ ?_ ?_ ?_ ?_ ?_ ?_ ?_ ?_
  · intro h' v' La' Lb' A hN x y0 y1 y2 y3 y4 y11 y13 y15
    have hw : IntKind.wrap .i64 ((p : Int) + 1) = ((p + 1 : Nat) : Int) := by rw [wrap_i64] <;> omega
    have cv := fun h => cvIUo ((p + 1 : Nat) : Int) h (by omega) (by omega)
    obtain ⟨ad, sx, sc, ea, ex, ab⟩ := A.atO (i := p) (by rw [lsL_len]; omega)
    rw [lsL_at f t m p (by omega)] at ex ab
    have hlen := lo_len f (by omega) t (by omega) p (by omega)
    obtain ⟨h4, e4,Ae⟩ := spec_Can Lb' (f : Nat) (p + 1) (ab.sl etB.size) (by omega)
    have hc := lo_can n f t p (by omega) (by omega) (by omega) (by omega) (by omega) 0
    rw [snL_zero, decide_eq_false (by omega)] at hc
    rw [hc] at e4
    have Lb4 := Lb'.same Ae.same
    rw [← snL_zero n f] at Lb4
    simp -implicitDefEqProofs (disch := omega) only [↓c6_2_eq, dcT, dcF, y0, y1, y2, y3, y4, y11, y13, y15, hw, cv, ea, ex, e4, ↓cnd_true, ↓cnd_false, ↓Option.bind_some, ↓obH_some', bin_add, bin_sub, bin_mul, bin_lss, bin_leq, bin_gtr, bin_geq, bin_eql, bin_neq, un_not, un_neg, Option.bind_some, Option.bind_none, Option.map_some, cnd_true, cnd_false, pickV_true, pickV_false, gd_true, gd_false, gdV_true, gdV_false, gdH_true, gdH_false, gdS_true, gdS_false, wt_ff, wt_tt, wt_ft, wt_tf, wt_undef, obH_some', extractV_tuple, nilCheckV_ptr, againK_normal, againK_exit, againK_ret, blockK_normal, blockK_same, blockK_ret, seqK_normal, seqK_exit, seqK_ret, fin_done, if_true', if_false', Bool.not_true, Bool.not_false, idx0, idx1, idx2, idx3, idx4, chk_nil_l, chk_nil_r, done_nm, up_cons, up_nil, cond_true, cond_false, Nat.reduceBEq]
    refine lo_takes (N := h3.blks.length) (n := n) (f := f) (t := t) (many := m) (pa := h1.blks.length + 1) (sa := h1.blks.length) (pb := h2.blks.length + 1) (sb := h2.blks.length) (by omega) (by omega) (by omega) (by omega) (by omega) hz hab hsab hpb m 0 h4 (by omega) (La'.same Ae.same) Lb4 (A.same Ae.same) _ ?_ ?_ ?_ ?_ ?_ ?_ ?_ ?_
    · exact y0
    · exact y1
    · exact y2
    · exact y3
    · exact y11
    · exact y13
    · exact y15
    · rfl
  all_goals rfl
theorem law_LeanOrder (h : Heap) (vs : List Value) (dd : List DT) (r : RdAll Tryd.prog h [3, 3, 3, 3, 3] vs dd) : ∃ h', evC Tryd.prog 6 vs.toArray h = some (.bool true, h') := by
  obtain ⟨v0, d0, vs', ds', rfl, rfl, r0, r1⟩ := r.cons_inv
  obtain ⟨v1, d1, vs', ds', rfl, rfl, ra, r2⟩ := r1.cons_inv
  obtain ⟨v2, d2, vs', ds', rfl, rfl, rb, r3⟩ := r2.cons_inv
  obtain ⟨v3, d3, vs', ds', rfl, rfl, rc, r4⟩ := r3.cons_inv
  obtain ⟨v4, d4, vs', ds', rfl, rfl, rd, r5⟩ := r4.cons_inv
  obtain ⟨rfl, rfl⟩ := r5.nil_inv
  obtain ⟨a, rfl, _⟩ := r0.i64 (by kernel_rfl)
  obtain ⟨b, rfl, _⟩ := ra.i64 (by kernel_rfl)
  obtain ⟨c, rfl, _⟩ := rb.i64 (by kernel_rfl)
  obtain ⟨d, rfl, _⟩ := rc.i64 (by kernel_rfl)
  obtain ⟨e, rfl, _⟩ := rd.i64 (by kernel_rfl)
  exact mlaw_LeanOrder a b c d e h
end Go.Am
namespace Go.Am.Z
open Go.Proofs
set_option maxRecDepth 100000
set_option linter.all false
@[reducible] def xt0 : Xt Tryd.prog := ⟨fun _ => none⟩
@[reducible] def gl0 : Gl Tryd.prog := ⟨none⟩
attribute [local instance] xt0 gl0
theorem xm0 : XtM Tryd.prog := ⟨fun _ _ h => by cases h⟩
theorem xo0 : XtOk Tryd.prog := ⟨fun _ _ h => (by cases h), fun _ _ _ h => (by cases h)⟩
attribute [local instance] xm0 xo0
section
variable {β : Type}
noncomputable abbrev ev : Ev := evC Tryd.prog
noncomputable abbrev cK (c : Code) (n : Nat) (x : Nat → Value) (h : Heap) (k : Ex → St → Option β) : Option β := codeK Tryd.prog (evC Tryd.prog) loopL c ⟨ar n x, h⟩ k
noncomputable abbrev lK (c : Code) (n : Nat) (x : Nat → Value) (h : Heap) (k : Ex → St → Option β) : Option β := loopK Tryd.prog (evC Tryd.prog) c ⟨ar n x, h⟩ k
noncomputable abbrev sK (c : Code) (k : Ex → St → Option β) : Ex → St → Option β := seqK Tryd.prog (evC Tryd.prog) c k
noncomputable abbrev rD (ops : Array Oper) (j n : Nat) (x : Nat → Value) (h : Heap) (r m : List Nat) (k : St → Option β) : Option β := regD Tryd.prog (evC Tryd.prog) ops j ⟨ar n x, h⟩ r m k
variable (x : Nat → Value) (h : Heap) (k : Ex → St → Option β) (r m : List Nat) (g : Heap)
noncomputable def c89_0 : Code := bodyC Tryd.f89 []
theorem c89_0_eq : cK c89_0 6 x h k =
(bn .neq 3 (x 0) (x 0)).bind fun v0 =>
k .ret ⟨ar 6 (up x [(2,v0),(3,(x 0)),(4,(x 0)),(5,v0)]), h⟩ := by kernel_rfl
theorem call89 (a0 : Value) : evC Tryd.prog 89 #[a0] h = cK c89_0 6 (up un [(0,a0)]) (nm h) (retK Tryd.f89 Tryd.prog h) :=
  (evC_call 89 Tryd.f89 c89_0 Tryd.func89 (by kernel_rfl) #[a0] h).trans (by kernel_rfl)
theorem ret89 : retK Tryd.f89 Tryd.prog g .ret ⟨ar 6 x, h⟩ = fin g (some (x 2)) h := by kernel_rfl
noncomputable def c90_0 : Code := bodyC Tryd.f90 []
theorem c90_0_eq : cK c90_0 6 x h k =
(bn .neq 23 (x 0) (x 0)).bind fun v0 =>
k .ret ⟨ar 6 (up x [(2,v0),(3,(x 0)),(4,(x 0)),(5,v0)]), h⟩ := by kernel_rfl
theorem call90 (a0 : Value) : evC Tryd.prog 90 #[a0] h = cK c90_0 6 (up un [(0,a0)]) (nm h) (retK Tryd.f90 Tryd.prog h) :=
  (evC_call 90 Tryd.f90 c90_0 Tryd.func90 (by kernel_rfl) #[a0] h).trans (by kernel_rfl)
theorem ret90 : retK Tryd.f90 Tryd.prog g .ret ⟨ar 6 x, h⟩ = fin g (some (x 2)) h := by kernel_rfl
noncomputable def c76_0 : Code := bodyC Tryd.f76 []
theorem c76_0_eq : cK c76_0 20 x h k =
obH (ev 89 #[x 0] h) fun v0 h1 =>
obH (ev 89 #[x 1] h1) fun v2 h3 =>
cnd v0 (
cnd v2 (
k .ret ⟨ar 20 (up x [(4,(.int .i64 0)),(5,v0),(6,v2),(7,(x 0)),(8,v0),(9,(x 1)),(10,v2),(11,v0),(12,v2)]), h3⟩) (
k .ret ⟨ar 20 (up x [(4,(.int .i64 (-1))),(5,v0),(6,v2),(7,(x 0)),(8,v0),(9,(x 1)),(10,v2),(11,v0),(12,v2)]), h3⟩)) (
cnd v2 (
k .ret ⟨ar 20 (up x [(4,(.int .i64 1)),(5,v0),(6,v2),(7,(x 0)),(8,v0),(9,(x 1)),(10,v2),(11,v0),(13,v2)]), h3⟩) (
(bn .lss 3 (x 0) (x 1)).bind fun v4 =>
cnd v4 (
k .ret ⟨ar 20 (up x [(4,(.int .i64 (-1))),(5,v0),(6,v2),(7,(x 0)),(8,v0),(9,(x 1)),(10,v2),(11,v0),(13,v2),(14,(x 0)),(15,(x 1)),(16,v4)]), h3⟩) (
(bn .gtr 3 (x 0) (x 1)).bind fun v5 =>
cnd v5 (
k .ret ⟨ar 20 (up x [(4,(.int .i64 1)),(5,v0),(6,v2),(7,(x 0)),(8,v0),(9,(x 1)),(10,v2),(11,v0),(13,v2),(14,(x 0)),(15,(x 1)),(16,v4),(17,(x 0)),(18,(x 1)),(19,v5)]), h3⟩) (
k .ret ⟨ar 20 (up x [(4,(.int .i64 0)),(5,v0),(6,v2),(7,(x 0)),(8,v0),(9,(x 1)),(10,v2),(11,v0),(13,v2),(14,(x 0)),(15,(x 1)),(16,v4),(17,(x 0)),(18,(x 1)),(19,v5)]), h3⟩)))) := by kernel_rfl
theorem call76 (a0 a1 : Value) : evC Tryd.prog 76 #[a0,a1] h = cK c76_0 20 (up un [(0,a0),(1,a1)]) (nm h) (retK Tryd.f76 Tryd.prog h) :=
  (evC_call 76 Tryd.f76 c76_0 Tryd.func76 (by kernel_rfl) #[a0,a1] h).trans (by kernel_rfl)
theorem ret76 : retK Tryd.f76 Tryd.prog g .ret ⟨ar 20 x, h⟩ = fin g (some (x 4)) h := by kernel_rfl
noncomputable def c77_0 : Code := bodyC Tryd.f77 []
theorem c77_0_eq : cK c77_0 20 x h k =
obH (ev 90 #[x 0] h) fun v0 h1 =>
obH (ev 90 #[x 1] h1) fun v2 h3 =>
cnd v0 (
cnd v2 (
k .ret ⟨ar 20 (up x [(4,(.int .i64 0)),(5,v0),(6,v2),(7,(x 0)),(8,v0),(9,(x 1)),(10,v2),(11,v0),(12,v2)]), h3⟩) (
k .ret ⟨ar 20 (up x [(4,(.int .i64 (-1))),(5,v0),(6,v2),(7,(x 0)),(8,v0),(9,(x 1)),(10,v2),(11,v0),(12,v2)]), h3⟩)) (
cnd v2 (
k .ret ⟨ar 20 (up x [(4,(.int .i64 1)),(5,v0),(6,v2),(7,(x 0)),(8,v0),(9,(x 1)),(10,v2),(11,v0),(13,v2)]), h3⟩) (
(bn .lss 23 (x 0) (x 1)).bind fun v4 =>
cnd v4 (
k .ret ⟨ar 20 (up x [(4,(.int .i64 (-1))),(5,v0),(6,v2),(7,(x 0)),(8,v0),(9,(x 1)),(10,v2),(11,v0),(13,v2),(14,(x 0)),(15,(x 1)),(16,v4)]), h3⟩) (
(bn .gtr 23 (x 0) (x 1)).bind fun v5 =>
cnd v5 (
k .ret ⟨ar 20 (up x [(4,(.int .i64 1)),(5,v0),(6,v2),(7,(x 0)),(8,v0),(9,(x 1)),(10,v2),(11,v0),(13,v2),(14,(x 0)),(15,(x 1)),(16,v4),(17,(x 0)),(18,(x 1)),(19,v5)]), h3⟩) (
k .ret ⟨ar 20 (up x [(4,(.int .i64 0)),(5,v0),(6,v2),(7,(x 0)),(8,v0),(9,(x 1)),(10,v2),(11,v0),(13,v2),(14,(x 0)),(15,(x 1)),(16,v4),(17,(x 0)),(18,(x 1)),(19,v5)]), h3⟩)))) := by kernel_rfl
theorem call77 (a0 a1 : Value) : evC Tryd.prog 77 #[a0,a1] h = cK c77_0 20 (up un [(0,a0),(1,a1)]) (nm h) (retK Tryd.f77 Tryd.prog h) :=
  (evC_call 77 Tryd.f77 c77_0 Tryd.func77 (by kernel_rfl) #[a0,a1] h).trans (by kernel_rfl)
theorem ret77 : retK Tryd.f77 Tryd.prog g .ret ⟨ar 20 x, h⟩ = fin g (some (x 4)) h := by kernel_rfl
noncomputable def c75_0 : Code := bodyC Tryd.f75 []
noncomputable def c75_1 : Code := bodyC Tryd.f75 [true, true, false, true, false, false]
noncomputable def c75_2 : Code := bodyC Tryd.f75 [true, true, true]
theorem c75_0_eq : cK c75_0 18 x h k =
(ln 41 (x 0) h).bind fun v0 =>
lK c75_1 18 (up x [(2,(.int .i64 0)),(3,(.int .i64 0)),(6,(x 0)),(7,v0),(8,(.int .i64 0))]) h (blockK 0 (sK c75_2 k)) := by kernel_rfl
theorem c75_1_eq : cK c75_1 18 x h k =
(bn .lss 3 (x 8) (x 7)).bind fun v1 =>
cnd v1 (
(ia 41 (x 6) (x 8)).bind fun v2 =>
(ld 3 v2 h).bind fun v3 =>
(bn .neq 3 v3 (x 3)).bind fun v4 =>
cnd v4 (
k .ret ⟨ar 18 (up x [(2,v3),(5,v3),(9,v1),(10,v2),(11,v3),(12,v3),(13,(x 3)),(14,v4),(15,v3)]), h⟩) (
(bn .add 3 (x 8) (.int .i64 1)).bind fun v5 =>
k .normal ⟨ar 18 (up x [(5,v3),(8,v5),(9,v1),(10,v2),(11,v3),(12,v3),(13,(x 3)),(14,v4),(16,v5)]), h⟩)) (
k (.exit 0) ⟨ar 18 (up x [(9,v1)]), h⟩) := by kernel_rfl
theorem c75_2_eq : cK c75_2 18 x h k =
k .ret ⟨ar 18 (up x [(2,(x 3)),(17,(x 3))]), h⟩ := by kernel_rfl
theorem call75 (a0 : Value) : evC Tryd.prog 75 #[a0] h = cK c75_0 18 (up un [(0,a0)]) (nm h) (retK Tryd.f75 Tryd.prog h) :=
  (evC_call 75 Tryd.f75 c75_0 Tryd.func75 (by kernel_rfl) #[a0] h).trans (by kernel_rfl)
theorem ret75 : retK Tryd.f75 Tryd.prog g .ret ⟨ar 18 x, h⟩ = fin g (some (x 2)) h := by kernel_rfl
noncomputable def c55_0 : Code := bodyC Tryd.f55 []
theorem c55_0_eq : cK c55_0 17 x h k =
obH (boxV Tryd.prog 68 (x 0) h) fun v0 h1 =>
obH (boxV Tryd.prog 68 (x 1) h1) fun v2 h3 =>
(fa 68 v0 0).bind fun v4 =>
(ld 3 v4 h3).bind fun v5 =>
(fa 68 v2 0).bind fun v6 =>
(ld 3 v6 h3).bind fun v7 =>
obH (ev 76 #[v5,v7] (nm h3)) fun v8 h9 =>
(fa 68 v0 1).bind fun v10 =>
(ld 23 v10 (am h9 h3)).bind fun v11 =>
(fa 68 v2 1).bind fun v12 =>
(ld 23 v12 (am h9 h3)).bind fun v13 =>
obH (ev 77 #[v11,v13] (am h9 h3)) fun v14 h15 =>
obH (buildSliceV Tryd.prog 41 2 #[(0, v8), (1, v14)] h15) fun v16 h17 =>
obH (ev 75 #[v16] h17) fun v18 h19 =>
chk ((rb v12) ++ ((rb v10) ++ [])) (h9.mods ++ []) (
k .ret ⟨ar 17 (up x [(2,v0),(3,v2),(4,v18),(5,v4),(6,v5),(7,v6),(8,v7),(9,v8),(10,v10),(11,v11),(12,v12),(13,v13),(14,v14),(15,v16),(16,v18)]), h19⟩) := by kernel_rfl
theorem call55 (a0 a1 : Value) : evC Tryd.prog 55 #[a0,a1] h = cK c55_0 17 (up un [(0,a0),(1,a1)]) (nm h) (retK Tryd.f55 Tryd.prog h) :=
  (evC_call 55 Tryd.f55 c55_0 Tryd.func55 (by kernel_rfl) #[a0,a1] h).trans (by kernel_rfl)
theorem ret55 : retK Tryd.f55 Tryd.prog g .ret ⟨ar 17 x, h⟩ = fin g (some (x 4)) h := by kernel_rfl
end
attribute [local congr] obind_congr obH_congr cnd_congr chk_congr retK_congr codeK_congr
theorem spec_isNaNI (a : Int) (h : Heap) : evC Tryd.prog 89 #[.int .i64 a] h = some (.bool false, h) := by
  rw [call89]
  simp -implicitDefEqProofs only [↓c89_0_eq, eq_self, ne_eq, not_true_eq_false, decide_false, ↓ret89, ↓cnd_true, ↓cnd_false, ↓Option.bind_some, ↓obH_some', bin_add, bin_sub, bin_mul, bin_lss, bin_leq, bin_gtr, bin_geq, bin_eql, bin_neq, un_not, un_neg, Option.bind_some, Option.bind_none, Option.map_some, cnd_true, cnd_false, pickV_true, pickV_false, gd_true, gd_false, gdV_true, gdV_false, gdH_true, gdH_false, gdS_true, gdS_false, wt_ff, wt_tt, wt_ft, wt_tf, wt_undef, obH_some', extractV_tuple, nilCheckV_ptr, againK_normal, againK_exit, againK_ret, blockK_normal, blockK_same, blockK_ret, seqK_normal, seqK_exit, seqK_ret, fin_done, if_true', if_false', Bool.not_true, Bool.not_false, idx0, idx1, idx2, idx3, idx4, chk_nil_l, chk_nil_r, done_nm, up_cons, up_nil, cond_true, cond_false, Nat.reduceBEq]
theorem spec_isNaNW (a : Int) (h : Heap) : evC Tryd.prog 90 #[.int .u64 a] h = some (.bool false, h) := by
  rw [call90]
  simp -implicitDefEqProofs only [↓c90_0_eq, eq_self, ne_eq, not_true_eq_false, decide_false, ↓ret90, ↓cnd_true, ↓cnd_false, ↓Option.bind_some, ↓obH_some', bin_add, bin_sub, bin_mul, bin_lss, bin_leq, bin_gtr, bin_geq, bin_eql, bin_neq, un_not, un_neg, Option.bind_some, Option.bind_none, Option.map_some, cnd_true, cnd_false, pickV_true, pickV_false, gd_true, gd_false, gdV_true, gdV_false, gdH_true, gdH_false, gdS_true, gdS_false, wt_ff, wt_tt, wt_ft, wt_tf, wt_undef, obH_some', extractV_tuple, nilCheckV_ptr, againK_normal, againK_exit, againK_ret, blockK_normal, blockK_same, blockK_ret, seqK_normal, seqK_exit, seqK_ret, fin_done, if_true', if_false', Bool.not_true, Bool.not_false, idx0, idx1, idx2, idx3, idx4, chk_nil_l, chk_nil_r, done_nm, up_cons, up_nil, cond_true, cond_false, Nat.reduceBEq]
def cmpI (a b : Int) : Int := if a < b then -1 else if b < a then 1 else 0
theorem spec_CmpI (a b : Int) (h : Heap) : evC Tryd.prog 76 #[.int .i64 a, .int .i64 b] h = some (.int .i64 (cmpI a b), h) := by
  rw [call76]
  have e1 := fun h => spec_isNaNI a h
  have e2 := fun h => spec_isNaNI b h
  unfold cmpI
  by_cases h1 : a < b
  · rw [if_pos h1]
    simp -implicitDefEqProofs (disch := omega) only [↓c76_0_eq, dcT, dcF, e1, e2, ↓ret76, ↓cnd_true, ↓cnd_false, ↓Option.bind_some, ↓obH_some', bin_add, bin_sub, bin_mul, bin_lss, bin_leq, bin_gtr, bin_geq, bin_eql, bin_neq, un_not, un_neg, Option.bind_some, Option.bind_none, Option.map_some, cnd_true, cnd_false, pickV_true, pickV_false, gd_true, gd_false, gdV_true, gdV_false, gdH_true, gdH_false, gdS_true, gdS_false, wt_ff, wt_tt, wt_ft, wt_tf, wt_undef, obH_some', extractV_tuple, nilCheckV_ptr, againK_normal, againK_exit, againK_ret, blockK_normal, blockK_same, blockK_ret, seqK_normal, seqK_exit, seqK_ret, fin_done, if_true', if_false', Bool.not_true, Bool.not_false, idx0, idx1, idx2, idx3, idx4, chk_nil_l, chk_nil_r, done_nm, up_cons, up_nil, cond_true, cond_false, Nat.reduceBEq]
  · rw [if_neg h1]
    by_cases h2 : b < a
    · rw [if_pos h2]
      simp -implicitDefEqProofs (disch := omega) only [↓c76_0_eq, dcT, dcF, e1, e2, ↓ret76, ↓cnd_true, ↓cnd_false, ↓Option.bind_some, ↓obH_some', bin_add, bin_sub, bin_mul, bin_lss, bin_leq, bin_gtr, bin_geq, bin_eql, bin_neq, un_not, un_neg, Option.bind_some, Option.bind_none, Option.map_some, cnd_true, cnd_false, pickV_true, pickV_false, gd_true, gd_false, gdV_true, gdV_false, gdH_true, gdH_false, gdS_true, gdS_false, wt_ff, wt_tt, wt_ft, wt_tf, wt_undef, obH_some', extractV_tuple, nilCheckV_ptr, againK_normal, againK_exit, againK_ret, blockK_normal, blockK_same, blockK_ret, seqK_normal, seqK_exit, seqK_ret, fin_done, if_true', if_false', Bool.not_true, Bool.not_false, idx0, idx1, idx2, idx3, idx4, chk_nil_l, chk_nil_r, done_nm, up_cons, up_nil, cond_true, cond_false, Nat.reduceBEq]
    · rw [if_neg h2]
      simp -implicitDefEqProofs (disch := omega) only [↓c76_0_eq, dcT, dcF, e1, e2, ↓ret76, ↓cnd_true, ↓cnd_false, ↓Option.bind_some, ↓obH_some', bin_add, bin_sub, bin_mul, bin_lss, bin_leq, bin_gtr, bin_geq, bin_eql, bin_neq, un_not, un_neg, Option.bind_some, Option.bind_none, Option.map_some, cnd_true, cnd_false, pickV_true, pickV_false, gd_true, gd_false, gdV_true, gdV_false, gdH_true, gdH_false, gdS_true, gdS_false, wt_ff, wt_tt, wt_ft, wt_tf, wt_undef, obH_some', extractV_tuple, nilCheckV_ptr, againK_normal, againK_exit, againK_ret, blockK_normal, blockK_same, blockK_ret, seqK_normal, seqK_exit, seqK_ret, fin_done, if_true', if_false', Bool.not_true, Bool.not_false, idx0, idx1, idx2, idx3, idx4, chk_nil_l, chk_nil_r, done_nm, up_cons, up_nil, cond_true, cond_false, Nat.reduceBEq]
theorem spec_CmpW (a b : Int) (h : Heap) : evC Tryd.prog 77 #[.int .u64 a, .int .u64 b] h = some (.int .i64 (cmpI a b), h) := by
  rw [call77]
  have e1 := fun h => spec_isNaNW a h
  have e2 := fun h => spec_isNaNW b h
  unfold cmpI
  by_cases h1 : a < b
  · rw [if_pos h1]
    simp -implicitDefEqProofs (disch := omega) only [↓c77_0_eq, dcT, dcF, e1, e2, ↓ret77, ↓cnd_true, ↓cnd_false, ↓Option.bind_some, ↓obH_some', bin_add, bin_sub, bin_mul, bin_lss, bin_leq, bin_gtr, bin_geq, bin_eql, bin_neq, un_not, un_neg, Option.bind_some, Option.bind_none, Option.map_some, cnd_true, cnd_false, pickV_true, pickV_false, gd_true, gd_false, gdV_true, gdV_false, gdH_true, gdH_false, gdS_true, gdS_false, wt_ff, wt_tt, wt_ft, wt_tf, wt_undef, obH_some', extractV_tuple, nilCheckV_ptr, againK_normal, againK_exit, againK_ret, blockK_normal, blockK_same, blockK_ret, seqK_normal, seqK_exit, seqK_ret, fin_done, if_true', if_false', Bool.not_true, Bool.not_false, idx0, idx1, idx2, idx3, idx4, chk_nil_l, chk_nil_r, done_nm, up_cons, up_nil, cond_true, cond_false, Nat.reduceBEq]
  · rw [if_neg h1]
    by_cases h2 : b < a
    · rw [if_pos h2]
      simp -implicitDefEqProofs (disch := omega) only [↓c77_0_eq, dcT, dcF, e1, e2, ↓ret77, ↓cnd_true, ↓cnd_false, ↓Option.bind_some, ↓obH_some', bin_add, bin_sub, bin_mul, bin_lss, bin_leq, bin_gtr, bin_geq, bin_eql, bin_neq, un_not, un_neg, Option.bind_some, Option.bind_none, Option.map_some, cnd_true, cnd_false, pickV_true, pickV_false, gd_true, gd_false, gdV_true, gdV_false, gdH_true, gdH_false, gdS_true, gdS_false, wt_ff, wt_tt, wt_ft, wt_tf, wt_undef, obH_some', extractV_tuple, nilCheckV_ptr, againK_normal, againK_exit, againK_ret, blockK_normal, blockK_same, blockK_ret, seqK_normal, seqK_exit, seqK_ret, fin_done, if_true', if_false', Bool.not_true, Bool.not_false, idx0, idx1, idx2, idx3, idx4, chk_nil_l, chk_nil_r, done_nm, up_cons, up_nil, cond_true, cond_false, Nat.reduceBEq]
    · rw [if_neg h2]
      simp -implicitDefEqProofs (disch := omega) only [↓c77_0_eq, dcT, dcF, e1, e2, ↓ret77, ↓cnd_true, ↓cnd_false, ↓Option.bind_some, ↓obH_some', bin_add, bin_sub, bin_mul, bin_lss, bin_leq, bin_gtr, bin_geq, bin_eql, bin_neq, un_not, un_neg, Option.bind_some, Option.bind_none, Option.map_some, cnd_true, cnd_false, pickV_true, pickV_false, gd_true, gd_false, gdV_true, gdV_false, gdH_true, gdH_false, gdS_true, gdS_false, wt_ff, wt_tt, wt_ft, wt_tf, wt_undef, obH_some', extractV_tuple, nilCheckV_ptr, againK_normal, againK_exit, againK_ret, blockK_normal, blockK_same, blockK_ret, seqK_normal, seqK_exit, seqK_ret, fin_done, if_true', if_false', Bool.not_true, Bool.not_false, idx0, idx1, idx2, idx3, idx4, chk_nil_l, chk_nil_r, done_nm, up_cons, up_nil, cond_true, cond_false, Nat.reduceBEq]
theorem spec_Or {h : Heap} {p c : Nat} (a b : Int) (hc : Cells h p 3 [.int .i64 a, .int .i64 b]) : evC Tryd.prog 75 #[.slice (some ⟨p, 0, none⟩) 2 c] h = some (.int .i64 (if a = 0 then b else a), h) := by
  rw [call75]
  have l0 : (nm h).load1 p 0 = some (.int .i64 a) := hc.nm.load 0
  have l1 : (nm h).load1 p 1 = some (.int .i64 b) := hc.nm.load 1
  have w1 : IntKind.i64.wrap (0 + 1) = 1 := rfl
  have w2 : IntKind.i64.wrap (1 + 1) = 2 := rfl
  by_cases h1 : a = 0
  · rw [if_pos h1]
    by_cases h2 : b = 0
    · simp -implicitDefEqProofs (disch := omega) only [↓c75_0_eq, ↓c75_1_eq, ↓c75_2_eq, ↓loopK_eq evC_m, dcT, dcF, lnI, iaI0, iaI1, ldI, l0, l1, w1, w2, ↓ret75, ↓cnd_true, ↓cnd_false, ↓Option.bind_some, ↓obH_some', bin_add, bin_sub, bin_mul, bin_lss, bin_leq, bin_gtr, bin_geq, bin_eql, bin_neq, un_not, un_neg, Option.bind_some, Option.bind_none, Option.map_some, cnd_true, cnd_false, pickV_true, pickV_false, gd_true, gd_false, gdV_true, gdV_false, gdH_true, gdH_false, gdS_true, gdS_false, wt_ff, wt_tt, wt_ft, wt_tf, wt_undef, obH_some', extractV_tuple, nilCheckV_ptr, againK_normal, againK_exit, againK_ret, blockK_normal, blockK_same, blockK_ret, seqK_normal, seqK_exit, seqK_ret, fin_done, if_true', if_false', Bool.not_true, Bool.not_false, idx0, idx1, idx2, idx3, idx4, chk_nil_l, chk_nil_r, done_nm, up_cons, up_nil, cond_true, cond_false, Nat.reduceBEq]
      rw [h2]
    · simp -implicitDefEqProofs (disch := omega) only [↓c75_0_eq, ↓c75_1_eq, ↓c75_2_eq, ↓loopK_eq evC_m, dcT, dcF, lnI, iaI0, iaI1, ldI, l0, l1, w1, w2, ↓ret75, ↓cnd_true, ↓cnd_false, ↓Option.bind_some, ↓obH_some', bin_add, bin_sub, bin_mul, bin_lss, bin_leq, bin_gtr, bin_geq, bin_eql, bin_neq, un_not, un_neg, Option.bind_some, Option.bind_none, Option.map_some, cnd_true, cnd_false, pickV_true, pickV_false, gd_true, gd_false, gdV_true, gdV_false, gdH_true, gdH_false, gdS_true, gdS_false, wt_ff, wt_tt, wt_ft, wt_tf, wt_undef, obH_some', extractV_tuple, nilCheckV_ptr, againK_normal, againK_exit, againK_ret, blockK_normal, blockK_same, blockK_ret, seqK_normal, seqK_exit, seqK_ret, fin_done, if_true', if_false', Bool.not_true, Bool.not_false, idx0, idx1, idx2, idx3, idx4, chk_nil_l, chk_nil_r, done_nm, up_cons, up_nil, cond_true, cond_false, Nat.reduceBEq]
  · rw [if_neg h1]
    simp -implicitDefEqProofs (disch := omega) only [↓c75_0_eq, ↓c75_1_eq, ↓c75_2_eq, ↓loopK_eq evC_m, dcT, dcF, lnI, iaI0, iaI1, ldI, l0, l1, w1, w2, ↓ret75, ↓cnd_true, ↓cnd_false, ↓Option.bind_some, ↓obH_some', bin_add, bin_sub, bin_mul, bin_lss, bin_leq, bin_gtr, bin_geq, bin_eql, bin_neq, un_not, un_neg, Option.bind_some, Option.bind_none, Option.map_some, cnd_true, cnd_false, pickV_true, pickV_false, gd_true, gd_false, gdV_true, gdV_false, gdH_true, gdH_false, gdS_true, gdS_false, wt_ff, wt_tt, wt_ft, wt_tf, wt_undef, obH_some', extractV_tuple, nilCheckV_ptr, againK_normal, againK_exit, againK_ret, blockK_normal, blockK_same, blockK_ret, seqK_normal, seqK_exit, seqK_ret, fin_done, if_true', if_false', Bool.not_true, Bool.not_false, idx0, idx1, idx2, idx3, idx4, chk_nil_l, chk_nil_r, done_nm, up_cons, up_nil, cond_true, cond_false, Nat.reduceBEq]
theorem cmpE_or (x y : E3) : (if cmpI x.f y.f = 0 then cmpI x.n y.n else cmpI x.f y.f) = cmpE x y := by
  unfold cmpE cmpI
  by_cases h1 : x.f < y.f
  · simp [h1]
  · by_cases h2 : y.f < x.f
    · simp [h1, h2]
    · have : (x.n : Int) < y.n ↔ x.n < y.n := Int.ofNat_lt
      have : (y.n : Int) < x.n ↔ y.n < x.n := Int.ofNat_lt
      simp [h1, h2]
theorem spec_order (x y : E3) (h : Heap) : ∃ h', evC Tryd.prog 55 #[entV x, entV y] h = some (.int .i64 (cmpE x y), h') ∧ HExt h h' := by
  rw [call55]
  have c1 : Cells (((nm h).new (.cells [.int .i64 x.f, .int .u64 x.n, .int .u64 x.t]) 68).new (.cells [.int .i64 y.f, .int .u64 y.n, .int .u64 y.t]) 68) (nm h).blks.length 68 [.int .i64 x.f, .int .u64 x.n, .int .u64 x.t] := (Cells.new _ _ _).keepNew _ _
  have c2 := Cells.new ((nm h).new (.cells [.int .i64 x.f, .int .u64 x.n, .int .u64 x.t]) 68) 68 [.int .i64 y.f, .int .u64 y.n, .int .u64 y.t]
  have k2 : In h.blks.length No (nm h) (((nm h).new (.cells [.int .i64 x.f, .int .u64 x.n, .int .u64 x.t]) 68).new (.cells [.int .i64 y.f, .int .u64 y.n, .int .u64 y.t]) 68) :=
    In.trans (In.new (h := nm h) (Nat.le_refl h.blks.length) _ _) (In.new (by simp [Heap.new]) _ _)
  generalize hp1 : ((nm h).new (.cells [.int .i64 x.f, .int .u64 x.n, .int .u64 x.t]) 68).blks.length = p1 at c2
  generalize hp0 : (nm h).blks.length = p0 at c1
  generalize hh2 : ((nm h).new (.cells [.int .i64 x.f, .int .u64 x.n, .int .u64 x.t]) 68).new (.cells [.int .i64 y.f, .int .u64 y.n, .int .u64 y.t]) 68 = h2 at c1 c2 k2
  have la : h2.load1 p0 0 = some (.int .i64 x.f) := c1.load 0
  have lb : h2.load1 p0 1 = some (.int .u64 x.n) := c1.load 1
  have lc : h2.load1 p1 0 = some (.int .i64 y.f) := c2.load 0
  have ld : h2.load1 p1 1 = some (.int .u64 y.n) := c2.load 1
  have k3 := k2.trans (In.new (Nat.le_trans k2.le k2.len) (.cells [.int .i64 (cmpI x.f y.f), .int .i64 (cmpI x.n y.n)]) 3)
  have e3 := spec_Or (c := 2) _ _ (Cells.new h2 3 [.int .i64 (cmpI x.f y.f), .int .i64 (cmpI x.n y.n)])
  rw [cmpE_or] at e3
  refine ⟨_, ?_, done_ext' k3⟩
  simp -implicitDefEqProofs (disch := omega) only [↓c55_0_eq, entV, bxE, hp0, hp1, hh2, faE0, faE1, ldI, ldU, la, lb, lc, ld, spec_CmpI, spec_CmpW, am_nm, nm_load1, nm_mods, List.nil_append, List.append_nil, lsI2', e3, ↓ret55, ↓cnd_true, ↓cnd_false, ↓Option.bind_some, ↓obH_some', bin_add, bin_sub, bin_mul, bin_lss, bin_leq, bin_gtr, bin_geq, bin_eql, bin_neq, un_not, un_neg, Option.bind_some, Option.bind_none, Option.map_some, cnd_true, cnd_false, pickV_true, pickV_false, gd_true, gd_false, gdV_true, gdV_false, gdH_true, gdH_false, gdS_true, gdS_false, wt_ff, wt_tt, wt_ft, wt_tf, wt_undef, obH_some', extractV_tuple, nilCheckV_ptr, againK_normal, againK_exit, againK_ret, blockK_normal, blockK_same, blockK_ret, seqK_normal, seqK_exit, seqK_ret, fin_done, if_true', if_false', Bool.not_true, Bool.not_false, idx0, idx1, idx2, idx3, idx4, chk_nil_l, chk_nil_r, done_nm, up_cons, up_nil, cond_true, cond_false, Nat.reduceBEq]
end Go.Am.Z
namespace Go.Proofs
open Go.Shelf
def srtLay_ren : Go.Shelf.Ren := ⟨fun | 6 => 73 | 15 => 88 | 14 => 87 | 28 => 102 | 29 => 103 | 20 => 94 | 21 => 95 | 22 => 96 | 23 => 97 | 24 => 98 | 25 => 99 | 26 => 100 | 27 => 101 | 46 => 105 | 47 => 106 | 48 => 107 | 49 => 108 | 50 => 109 | 57 => 110 | n => n, fun | 22 => 63 | 24 => 68 | 25 => 118 | 3 => 3 | 39 => 57 | 0 => 0 | 53 => 169 | 55 => 23 | 4 => 4 | 46 => 163 | 45 => 162 | 50 => 45 | 5 => 5 | 9 => 9 | 66 => 171 | 70 => 175 | 76 => 177 | 77 => 178 | n => n, fun | n => n⟩
theorem srtLay : Go.Proofs.SlLaysF0.n6 Tryd.prog srtLay_ren := { mixed := by kernel_rfl, f6 := ⟨"slices.SortFunc[[]shoal/trim.Entry,shoal/trim.Entry]", by decide, Tryd.func73.trans (congrArg some (by kernel_rfl))⟩, f14 := ⟨"slices.pdqsortCmpFunc[shoal/trim.Entry]", by decide, Tryd.func87.trans (congrArg some (by kernel_rfl))⟩, f15 := Tryd.func88.trans (congrArg some (by kernel_rfl)), f20 := ⟨"slices.insertionSortCmpFunc[shoal/trim.Entry]", by decide, Tryd.func94.trans (congrArg some (by kernel_rfl))⟩, f21 := ⟨"slices.heapSortCmpFunc[shoal/trim.Entry]", by decide, Tryd.func95.trans (congrArg some (by kernel_rfl))⟩, f22 := ⟨"slices.breakPatternsCmpFunc[shoal/trim.Entry]", by decide, Tryd.func96.trans (congrArg some (by kernel_rfl))⟩, f23 := ⟨"slices.choosePivotCmpFunc[shoal/trim.Entry]", by decide, Tryd.func97.trans (congrArg some (by kernel_rfl))⟩, f24 := ⟨"slices.reverseRangeCmpFunc[shoal/trim.Entry]", by decide, Tryd.func98.trans (congrArg some (by kernel_rfl))⟩, f25 := ⟨"slices.partialInsertionSortCmpFunc[shoal/trim.Entry]", by decide, Tryd.func99.trans (congrArg some (by kernel_rfl))⟩, f26 := ⟨"slices.partitionEqualCmpFunc[shoal/trim.Entry]", by decide, Tryd.func100.trans (congrArg some (by kernel_rfl))⟩, f27 := ⟨"slices.partitionCmpFunc[shoal/trim.Entry]", by decide, Tryd.func101.trans (congrArg some (by kernel_rfl))⟩, f28 := Tryd.func102.trans (congrArg some (by kernel_rfl)), f29 := Tryd.func103.trans (congrArg some (by kernel_rfl)), f46 := ⟨"slices.siftDownCmpFunc[shoal/trim.Entry]", by decide, Tryd.func105.trans (congrArg some (by kernel_rfl))⟩, f47 := Tryd.func106.trans (congrArg some (by kernel_rfl)), f48 := Tryd.func107.trans (congrArg some (by kernel_rfl)), f49 := ⟨"slices.medianAdjacentCmpFunc[shoal/trim.Entry]", by decide, Tryd.func108.trans (congrArg some (by kernel_rfl))⟩, f50 := ⟨"slices.medianCmpFunc[shoal/trim.Entry]", by decide, Tryd.func109.trans (congrArg some (by kernel_rfl))⟩, f57 := ⟨"slices.order2CmpFunc[shoal/trim.Entry]", by decide, Tryd.func110.trans (congrArg some (by kernel_rfl))⟩, t0 := Tryd.underlying0, a0 := Tryd.isAgg0, z0 := Tryd.sizeOf0, v0 := Tryd.zeroValue0, t3 := Tryd.underlying3, a3 := Tryd.isAgg3, z3 := Tryd.sizeOf3, v3 := Tryd.zeroValue3, t4 := Tryd.underlying4, a4 := Tryd.isAgg4, z4 := Tryd.sizeOf4, v4 := Tryd.zeroValue4, t5 := Tryd.underlying5, a5 := Tryd.isAgg5, z5 := Tryd.sizeOf5, v5 := Tryd.zeroValue5, t9 := Tryd.underlying9, a9 := Tryd.isAgg9, z9 := Tryd.sizeOf9, v9 := Tryd.zeroValue9, t22 := Tryd.underlying63, a22 := Tryd.isAgg63, z22 := Tryd.sizeOf63, v22 := Tryd.zeroValue63, t25 := Tryd.underlying118, a25 := Tryd.isAgg118, z25 := Tryd.sizeOf118, v25 := Tryd.zeroValue118, t39 := Tryd.underlying57, a39 := Tryd.isAgg57, z39 := Tryd.sizeOf57, v39 := Tryd.zeroValue57, t45 := Tryd.underlying162, a45 := Tryd.isAgg162, z45 := Tryd.sizeOf162, v45 := Tryd.zeroValue162, t46 := Tryd.underlying163, a46 := Tryd.isAgg163, z46 := Tryd.sizeOf163, v46 := Tryd.zeroValue163, t50 := Tryd.underlying45, a50 := Tryd.isAgg45, z50 := Tryd.sizeOf45, v50 := Tryd.zeroValue45, t53 := Tryd.underlying169, a53 := Tryd.isAgg169, z53 := Tryd.sizeOf169, v53 := Tryd.zeroValue169, t55 := Tryd.underlying23, a55 := Tryd.isAgg23, z55 := Tryd.sizeOf23, v55 := Tryd.zeroValue23, t66 := Tryd.underlying171, a66 := Tryd.isAgg171, z66 := Tryd.sizeOf171, v66 := Tryd.zeroValue171, t70 := Tryd.underlying175, a70 := Tryd.isAgg175, z70 := Tryd.sizeOf175, v70 := Tryd.zeroValue175, t76 := Tryd.underlying177, a76 := Tryd.isAgg177, z76 := Tryd.sizeOf177, v76 := Tryd.zeroValue177, t77 := Tryd.underlying178, a77 := Tryd.isAgg178, z77 := Tryd.sizeOf178, v77 := Tryd.zeroValue178 }
end Go.Proofs
namespace Go.Am
open Go.Proofs Go.Sort
set_option maxRecDepth 100000
set_option linter.all false
theorem mixedT : Tryd.prog.follows .mixedOrders = true := by kernel_rfl
theorem grown_of {h : Heap} {W W' : World} (fr : Fr noE h W W') : ∃ q os', W' = grow (W.drewN q) os' := by
  have hb : ∀ c, c < W.heap.size → W'.heap[c]? = W.heap[c]? := fun c hc => fr.blk c hc fun ⟨b, k, l, _, h1, _⟩ => by cases h1
  have ho := fr.os
  have ht := fr.tape
  have hu := fr.output
  have hs := fr.size
  have hd := fr.drawn
  obtain ⟨heap, tape, drawn, os, output⟩ := W
  obtain ⟨heap', tape', drawn', os', output'⟩ := W'
  simp only at ho ht hu hs hd hb
  subst ho ht hu
  refine ⟨drawn' - drawn, heap'.extract heap.size heap'.size, ?_⟩
  unfold grow World.drewN
  simp only
  congr 1
  · apply Array.ext_getElem?
    intro c
    rcases Nat.lt_or_ge c heap.size with h1 | h1
    · rw [Array.getElem?_append_left h1, ← hb c h1]
    · rw [Array.getElem?_append_right h1, Array.getElem?_extract]
      split
      · rename_i h2; rw [show heap.size + (c - heap.size) = c by omega]
      · rename_i h2; rw [Array.getElem?_eq_none (by omega)]
  · omega
theorem cmp_lays (blk off size : Nat) (w : World) : CmpLays Tryd.prog 55 #[] entC 3 cmpE blk off size w := fun m os dk _ x y => by
  obtain ⟨h', he, _⟩ := Z.spec_order x y ⟨[], []⟩
  have hA : ARel noE #[entV x, entV y] #[.agg (entC x).toArray, .agg (entC y).toArray] := ⟨rfl, fun i h1 h2 => by
    have : i = 0 ∨ i = 1 := by simp at h1; omega
    rcases this with rfl | rfl
    · exact VR.of_ground (v := entV x) (by simp [ground, entV, ground0])
    · exact VR.of_ground (v := entV y) (by simp [ground, entV, ground0])⟩
  rw [Array.append_empty]
  refine (@evC_sound _ Z.xt0 Z.gl0 Z.xo0 mixedT (sortWorldK entC 3 w blk off m dk os).heap.size 55 #[entV x, entV y] ⟨[], []⟩ _ h' noE _ _ he (@rel_none _ Z.gl0 _ (@GlobW.none _ Z.gl0 rfl _ _)) hA (fun b _ _ => rfl)).mono ?_
  rintro e W' ⟨v', E', h1, h2, h3⟩
  cases h3
  exact ⟨h1, grown_of (@Post.fr _ Z.gl0 _ _ _ _ _ _ _ h2)⟩
theorem swo : SWO (ltOf cmpE) := by
  have key : ∀ x y : E3, ltOf cmpE x y = decide (x.f < y.f ∨ x.f = y.f ∧ x.n < y.n) := fun x y => by
    unfold ltOf cmpE
    by_cases h1 : x.f < y.f
    · simp [h1]
    · by_cases h2 : y.f < x.f
      · have : ¬ (x.f = y.f) := by omega
        simp [h1, h2, this]
      · have : x.f = y.f := by omega
        by_cases h3 : x.n < y.n
        · simp [h1, h2, h3, this]
        · by_cases h4 : y.n < x.n <;> simp [h1, h2, h3, h4, this]
  constructor
  · intro x; rw [key]; simp
  · intro x y z h1 h2; rw [key] at *; simp at *; omega
  · intro x y z h1 h2; rw [key] at *; simp at *; omega
theorem flatK_ent (l : List E3) : (flatK entC 3 l.toArray).toList = entL l := by
  have key : ∀ (l : List E3) (t : Nat), t < l.length * 3 → (entC (l.getD (t / 3) default))[t % 3]! = (entL l)[t]! := by
    intro l
    induction l with
    | nil => intro t ht; simp at ht
    | cons e l ih =>
      intro t ht
      rcases Nat.lt_or_ge t 3 with h | h
      · have : t = 0 ∨ t = 1 ∨ t = 2 := by omega
        rcases this with rfl | rfl | rfl <;> rfl
      · obtain ⟨u, rfl⟩ : ∃ u, t = u + 3 := ⟨t - 3, by omega⟩
        rw [show (u + 3) / 3 = u / 3 + 1 by omega, show (u + 3) % 3 = u % 3 by omega]
        simp only [List.getD_cons_succ]
        rw [ih u (by simp at ht; omega)]
        rfl
  apply List.ext_getElem
  · simp [entL_len]
  · intro t h1 h2
    have ht : t < l.length * 3 := by rw [entL_len] at h2; exact h2
    have := key l t ht
    rw [getElem!_pos (entL l) t h2] at this
    rw [← this]
    simp only [flatK, Array.toList_map, Array.toList_range, List.getElem_map, List.getElem_range]
    congr 1
    simp [getElem!_def, List.getD_eq_getElem?_getD]
    cases l[t / 3]? <;> rfl
theorem setCells_sort {w : World} {blk off : Nat} {l : List E3} (hH : HoldsK entC 3 w blk off l.toArray) (d : Array E3) (hd : d.size = l.length) : w.setCells blk off (entL d.toList) = putRowK entC 3 w blk off d := by
  have e0 := putRow_self id w blk off _ hH
  have e1 := setCells_putRow w blk off (entL d.toList) 0 (flatK entC 3 l.toArray) (by rw [entL_len, size_flatK]; simp [hd])
  rw [e0, Nat.add_zero] at e1
  rw [e1]
  unfold putRowK
  congr 1
  refine ext_get! (by simp [hd]) fun t ht => ?_
  have ht' : t < (flatK entC 3 l.toArray).size := by simpa using ht
  have hlen : (entL d.toList).length = (flatK entC 3 l.toArray).size := by rw [entL_len, size_flatK]; simp [hd]
  rw [get_setMany _ _ _ _ ht', if_pos (by omega), Nat.sub_zero]
  have := flatK_ent d.toList
  simp only [Array.toArray_toList] at this
  rw [← this]
  simp [getElem!_def]
theorem Post.grown {P : Program} [Gl P] {base : Nat} {E : Env} {h h' : Heap} {w w1 : World} (p : Post P base E h w E h' w1) (os : Array Obj) : Post P base E h w E h' (grow w1 os) := by
  have hb : ∀ c, c < w1.heap.size → (grow w1 os).heap[c]? = w1.heap[c]? := fun c hc => by
    unfold grow
    exact Array.getElem?_append_left hc
  refine ⟨p.ext, p.dom, ⟨fun b k l hk hl => (p.rel.blk b k l hk hl).congr (Ext.refl _) (hb _ (p.rel.bnd b l hl)), p.rel.low, p.rel.ro, fun b l hl => ?_, p.rel.inj, p.rel.glob.keep (fun c hc => hb c (Nat.lt_of_lt_of_le hc p.rel.base)), ?_⟩, ⟨p.fr.os, p.fr.tape, p.fr.output, ?_, fun c hc hm => ?_, p.fr.drawn⟩, p.orig⟩
  · have := p.rel.bnd b l hl
    simp [grow]; omega
  · have := p.rel.base
    simp [grow]; omega
  · have := p.fr.size
    simp [grow]; omega
  · rw [hb c (Nat.lt_of_lt_of_le hc p.fr.size)]; exact p.fr.blk c hc hm
theorem Post.drewN {P : Program} [Gl P] {base : Nat} {E : Env} {h h' : Heap} {w w1 : World} (n : Nat) (p : Post P base E h (w.drewN n) E h' w1) : Post P base E h w E h' w1 :=
  ⟨p.ext, p.dom, p.rel, ⟨p.fr.os, p.fr.tape, p.fr.output, p.fr.size, p.fr.blk, Nat.le_trans (Nat.le_add_right _ _) p.fr.drawn⟩, p.orig⟩
theorem VR.func_inv {E : Env} {fn : Fn} {f c : Array Value} {x : Value} (h : VR E (.func fn f c) x) (hf : f.size = 0) (hc : c.size = 0) : x = .func fn #[] #[] := by
  cases h with
  | func h1 _ h2 _ =>
    rw [hf] at h1
    rw [hc] at h2
    congr 1
    · exact Array.eq_empty_of_size_eq_zero h1.symm
    · exact Array.eq_empty_of_size_eq_zero h2.symm
theorem enters_order : ∀ args w, (callFunc 55 args).run Tryd.prog w = .ok (.enter 55 args) w := enters_of Tryd.func55 (by kernel_rfl) rfl
theorem aggE : ∀ w, (isAgg 68).run Tryd.prog w = .ok true w := fun w => by simpa using run_isAggT (P := Tryd.prog) (t := 68) (b := true) (by kernel_rfl) w
theorem sizE : ∀ w, (Go.sizeOf 68).run Tryd.prog w = .ok 3 w := fun w => run_sizeT (P := Tryd.prog) (t := 68) (by kernel_rfl) w
theorem pdq_size (l : List E3) : (pdq (ltOf cmpE) l.toArray 0 l.toArray.size (Lib.bitLen l.toArray.size) true true).size = l.length := by
  have h := pdq_sorts (ltOf cmpE) swo l.toArray 0 l.toArray.size (Lib.bitLen l.toArray.size) true true (Nat.zero_le _) (Nat.le_refl _) (Or.inl rfl)
  rw [h.1.1]; simp
theorem sort_sound (base : Nat) (args : Array Value) (h : Heap) (v : Value) (h' : Heap) (E : Env) (w : World) (args' : Array Value) (hv : sortX 55 args h = some (v, h')) (hR : Rel Tryd.prog base E h w) (ha : ARel E args args') :
    Calls Tryd.prog 73 args' w fun e w' => ∃ v' E', e = .returned v' ∧ Post Tryd.prog base E h w E' h' w' ∧ VR E' v v' := by
  have two : ∀ x y, args.toList = [x, y] → ∃ x' y', args' = #[x', y'] ∧ VR E x x' ∧ VR E y y' := fun x y he => by
    have hl := ha.list
    rw [he] at hl
    obtain ⟨x', h1, r1⟩ := hl.2 0 x rfl
    obtain ⟨y', h2, r2⟩ := hl.2 1 y rfl
    have h3 := hl.1
    refine ⟨x', y', ?_, r1, r2⟩
    obtain ⟨l⟩ := args'
    match l, h3, h1, h2 with
    | [a, b], _, h1, h2 => cases h1; cases h2; rfl
  unfold sortX at hv
  split at hv
  · rename_i ad n c f x y he
    split at hv
    · rename_i hc
      obtain ⟨rfl, hx, hy, hn2⟩ := hc
      split at hv
      · rename_i hn0
        subst hn0
        cases hv
        obtain ⟨x', y', rfl, r1, r2⟩ := two _ _ he
        rw [r2.func_inv hx hy]
        have : ∃ p' c', x' = .slice p' 0 c' := by cases r1 <;> exact ⟨_, _, rfl⟩
        obtain ⟨p', c', rfl⟩ := this
        exact (AnyF.slices_SortFunc_none srtLay p' c' _ w).mono fun e w' ⟨h1, h2⟩ => ⟨_, E, h1, by rw [h2]; exact Post.refl hR, VR.undef⟩
      · rename_i hn0
        have hn : 0 < n := Nat.pos_of_ne_zero hn0
        split at hv
        · rename_i b o
          split at hv
          · rename_i cs hcs
            split at hv
            · rename_i l hl
              obtain ⟨h1, hs, hq⟩ := Option.map_eq_some_iff.1 hv
              cases hq
              obtain ⟨x', y', rfl, r1, r2⟩ := two _ _ he
              rw [r2.func_inv hx hy]
              have hcse := e3Of_inv _ _ hl
              subst hcse
              have hlen := loadN_len hcs
              rw [entL_len] at hlen
              have hln : l.length = n := by omega
              cases r1 with
              | sliceEmpty => omega
              | @slice _ _ _ _ c' l0 hE _ _ _ =>
                have hst : ∃ cs0 ty, h.blks[b]? = some ⟨.cells cs0, ty, true⟩ ∧ o + n * 3 ≤ cs0.length := by
                  unfold Heap.storeN at hs
                  split at hs
                  · rename_i cs0 ty hk
                    refine ⟨cs0, ty, hk, ?_⟩
                    unfold Heap.loadN Heap.cells? at hcs
                    rw [hk] at hcs
                    simp only at hcs
                    split at hcs
                    · assumption
                    · cases hcs
                  · cases hs
                obtain ⟨cs0, ty, hk, hle⟩ := hst
                obtain ⟨oc, oe, lo, hi, hheap, hsz, _, hfz⟩ := (hR.blk b _ l0 hk hE).2.2 rfl
                obtain ⟨cs', hLr, hcell⟩ := loadN_read hR hcs hE
                have hcell' : ∀ (j : Nat) v, (entL l)[j]? = some v → w.cell? ⟨l0.cb, l0.s + o + j, none⟩ = some v := fun j v hj => by
                  obtain ⟨v', h2, h3⟩ := hLr.2 j v hj
                  have hg : ground v = true := by
                    have : ∀ (l : List E3) (j : Nat) v, (entL l)[j]? = some v → ground v = true := by
                      intro l
                      induction l with
                      | nil => intro j v h; simp [entL] at h
                      | cons e l ih =>
                        intro j v h
                        match j, h with
                        | 0, h => cases h; rfl
                        | 1, h => cases h; rfl
                        | 2, h => cases h; rfl
                        | j + 3, h => exact ih j v h
                    exact this l j v hj
                  rw [h3.ground_eq hg] at h2
                  rw [Nat.add_assoc]
                  exact hcell j v h2
                have hH : HoldsK entC 3 w l0.cb (l0.s + o) l.toArray := fun j hj => by
                  have hj' : j < (entL l).length := by rw [entL_len]; simpa using hj
                  have e1 : (flatK entC 3 l.toArray)[j]! = (entL l)[j] := by
                    rw [← getElem!_pos (entL l) j hj', ← flatK_ent l]; simp [getElem!_def]
                  have h2 := hcell' j _ (List.getElem?_eq_getElem hj')
                  refine ⟨by rw [h2]; simp only [id]; rw [e1], ?_⟩
                  have hlt : l0.s + o + j < oc.size := by
                    simp only [World.cell?, hheap] at h2
                    have := (Array.getElem?_eq_some_iff.1 (by simpa using h2)).1
                    exact this
                  simp only [World.frozen?, hheap]
                  simp
                  omega
                have hlt : l0.cb < w.heap.size := hR.bnd b l0 hE
                have hcon := AnyQ.slices_SortFunc_eq srtLay 3 aggE sizE entC (fun _ => rfl) (fun x v hv => by simp [entC] at hv; rcases hv with rfl | rfl | rfl <;> rfl) cmpE swo 55 #[] l0.cb (l0.s + o) c' l.toArray w enters_order (cmp_lays _ _ _ _) hH hlt (by simp; omega)
                rw [show l.toArray.size = n by simpa using hln] at hcon
                refine hcon.mono ?_
                rintro e w' ⟨h2, m, os, h3⟩
                refine ⟨_, E, h2, ?_, VR.undef⟩
                have hRn : Rel Tryd.prog base E h (w.drewN m) := Rel.drawn hR _
                have hHn : HoldsK entC 3 (w.drewN m) l0.cb (l0.s + o) l.toArray := hH
                obtain ⟨w2, hw2, hp2⟩ := storeN_run hRn hs hE (vs' := entL (srtE l)) ⟨rfl, fun i v hv => ⟨v, hv, by
                  have : ∀ (l : List E3) (j : Nat) v, (entL l)[j]? = some v → ground v = true := by
                    intro l
                    induction l with
                    | nil => intro j v h; simp [entL] at h
                    | cons e l ih =>
                      intro j v h
                      match j, h with
                      | 0, h => cases h; rfl
                      | 1, h => cases h; rfl
                      | 2, h => cases h; rfl
                      | j + 3, h => exact ih j v h
                  exact VR.of_ground (this _ i v hv)⟩⟩ (entL_one _)
                have hds : (pdq (ltOf cmpE) l.toArray 0 l.toArray.size (Lib.bitLen l.toArray.size) true true).size = l.length := pdq_size l
                have e2 := setCells_sort hHn (pdq (ltOf cmpE) l.toArray 0 l.toArray.size (Lib.bitLen l.toArray.size) true true) hds
                have hrun := stores_of_holds Tryd.prog hHn 0 (entL (srtE l)) (by rw [entL_len, size_flatK]; unfold srtE; rw [Array.length_toList]; exact Nat.le_of_eq (by rw [show (pdq (fun x y : E3 => decide (cmpE x y < 0)) l.toArray 0 l.toArray.size (Lib.bitLen l.toArray.size) true true).size = l.length from hds]; simp)) (fun v hv => by
                  have := List.all_eq_true.1 (entL_one (srtE l)) v hv
                  exact this)
                rw [Nat.add_zero] at hrun
                rw [show (storeCells ⟨l0.cb, l0.s + o, none⟩ (entL (srtE l))).run Tryd.prog (w.drewN m) = Sem.run Tryd.prog (storeCells ⟨l0.cb, l0.s + o, none⟩ (entL (srtE l)) 0) (w.drewN m) from rfl, hrun] at hw2
                cases hw2
                have e3 : w' = grow ((w.drewN m).setCells l0.cb (l0.s + o) (entL (srtE l))) os := by
                  rw [h3]
                  unfold sortWorldK
                  congr 1
                  rw [show n = l.toArray.size by simpa using hln.symm]
                  exact e2.symm
                rw [e3]
                exact (hp2.drewN m).grown os
            · cases hv
          · cases hv
        · cases hv
    · cases hv
  · cases hv
def tzRen : Go.Shelf.Ren := ⟨fun | 29 => 60 | n => n, fun | 0 => 0 | 3 => 3 | 4 => 4 | 5 => 5 | 22 => 23 | 25 => 57 | 54 => 144 | n => n, fun | 1 => 0 | n => n⟩
theorem tzLay : Go.Proofs.Lays7.n29 Tryd.prog tzRen := { mixed := by kernel_rfl, f29 := Tryd.func60.trans (congrArg some (by kernel_rfl)), t0 := Tryd.underlying0, a0 := Tryd.isAgg0, z0 := Tryd.sizeOf0, v0 := Tryd.zeroValue0, i0 := by kernel_rfl, t3 := Tryd.underlying3, a3 := Tryd.isAgg3, z3 := Tryd.sizeOf3, v3 := Tryd.zeroValue3, i3 := by kernel_rfl, t4 := Tryd.underlying4, a4 := Tryd.isAgg4, z4 := Tryd.sizeOf4, v4 := Tryd.zeroValue4, i4 := by kernel_rfl, t5 := Tryd.underlying5, a5 := Tryd.isAgg5, z5 := Tryd.sizeOf5, v5 := Tryd.zeroValue5, i5 := by kernel_rfl, t22 := Tryd.underlying23, a22 := Tryd.isAgg23, z22 := Tryd.sizeOf23, v22 := Tryd.zeroValue23, i22 := by kernel_rfl, t25 := Tryd.underlying57, a25 := Tryd.isAgg57, z25 := Tryd.sizeOf57, v25 := Tryd.zeroValue57, i25 := by kernel_rfl, t54 := Tryd.underlying144, a54 := Tryd.isAgg144, z54 := Tryd.sizeOf144, g1 := by kernel_rfl }
theorem tz_sound (base : Nat) (args : Array Value) (h : Heap) (v : Value) (h' : Heap) (E : Env) (w : World) (args' : Array Value) (hv : tzX args h = some (v, h')) (hR : Rel Tryd.prog base E h w) (ha : ARel E args args') :
    Calls Tryd.prog 60 args' w fun e w' => ∃ v' E', e = .returned v' ∧ Post Tryd.prog base E h w E' h' w' ∧ VR E' v v' := by
  obtain ⟨n, hn, h0, h1, rfl, rfl⟩ := tzX_h hv
  have hl := ha.list
  rw [hn] at hl
  obtain ⟨x', g1, r1⟩ := hl.2 0 _ rfl
  have h3 := hl.1
  have hargs : args' = #[.int .u64 n] := by
    obtain ⟨l⟩ := args'
    match l, h3, g1 with
    | [a], _, g1 => cases g1; cases r1; rfl
  subst hargs
  obtain ⟨k, rfl⟩ : ∃ k : Nat, n = k := ⟨n.toNat, by omega⟩
  have hT : TabAt (tzRen.g 1) Lib.deBruijn64tab w := fun j hj => by
    obtain ⟨_, gl⟩ := hR.glob 0 _ rfl
    have := gl j (.int .u8 (Lib.deBruijn64tab.getD j 0 : Nat)) (by rw [List.getElem?_map, List.getElem?_eq_getElem hj, List.getD_eq_getElem?_getD, List.getElem?_eq_getElem hj]; rfl)
    exact this
  refine (Any7.bits_TrailingZeros64 tzLay k (by omega) w fun _ => hT).mono ?_
  rintro e w' ⟨rfl, rfl⟩
  exact ⟨_, E, rfl, Post.refl hR, .int _ _⟩
instance : XtOk Tryd.prog := ⟨fun f g hX args h v h' hv => by
    rcases xt_inv hX with ⟨_, rfl⟩ | ⟨_, rfl⟩
    · exact sortX_grow _ _ _ _ _ hv
    · obtain ⟨_, _, _, _, _, rfl⟩ := tzX_h hv; exact Grow.refl _,
  fun base f g hX args h v h' E w args' hv hR ha _ => by
    rcases xt_inv hX with ⟨rfl, rfl⟩ | ⟨rfl, rfl⟩
    · exact sort_sound base args h v h' E w args' hv hR ha
    · exact tz_sound base args h v h' E w args' hv hR ha⟩

end Go.Am
