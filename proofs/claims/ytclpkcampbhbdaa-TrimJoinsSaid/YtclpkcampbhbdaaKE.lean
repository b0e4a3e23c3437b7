/- What the functions answer, in the machine. -/
import Derived.Test.YtclpkcampbhbdaaKD
import Derived.Shelf.SlSortCmp.NoneTotal
set_option linter.all false
namespace Go.Am
open Go.Proofs
set_option maxRecDepth 100000
set_option linter.all false
attribute [local congr] obind_congr obH_congr cnd_congr chk_congr retK_congr codeK_congr
def joinE (own hd : List E3) : List E3 := if goodE own = true ∧ goodE hd = true then srtE (newsE own hd ++ newsE hd own ++ bothE own hd) else own
theorem wide_news {a b : List E3} (w : wide a) : wide (newsE a b) := fun e he => w e (List.mem_filter.1 he).1
theorem wide_both {a b : List E3} (w : wide a) : wide (bothE a b) := fun e he => by
  obtain ⟨x, hx, h⟩ := List.mem_filterMap.1 he
  unfold bothF at h
  split at h
  · cases h
    exact ⟨(w x hx).1, Nat.lt_of_le_of_lt Nat.and_le_left (w x hx).2⟩
  · cases h
theorem wide_join {a b : List E3} (w : wide a) (w2 : wide b) : wide (joinE a b) := by
  unfold joinE
  split
  · intro e he
    have := (srtE_perm _).subset he
    rcases List.mem_append.1 this with h | h
    · rcases List.mem_append.1 h with h | h
      · exact wide_news w e h
      · exact wide_news w2 e h
    · exact wide_both w e h
  · exact w
theorem spec_Join {h : Heap} {v w : Value} {es fs : List E3} (s : SE h v es) (s2 : SE h w fs) (hw : wide es) (hw2 : wide fs) (hl : es.length < 2 ^ 36) (hl2 : fs.length < 2 ^ 36) :
    ∃ a c h', evC Try.prog 23 #[.agg #[v], .agg #[w]] h = some (.agg #[.slice a (joinE es fs).length c], h') ∧ HExt h h' ∧ AE h.blks.length h' (.slice a (joinE es fs).length c) (joinE es fs) := by
  rw [call23]
  have c1 := ((Cells.new (nm h) 47 [v]).keepNew (.cells [w]) 47).keepNew (.cells [.slice none 0 0]) 47
  have c2 := (Cells.new ((nm h).new (.cells [v]) 47) 47 [w]).keepNew (.cells [.slice none 0 0]) 47
  have c3 := Cells.new (((nm h).new (.cells [v]) 47).new (.cells [w]) 47) 47 [.slice none 0 0]
  have s1' : SE ((((nm h).new (.cells [v]) 47).new (.cells [w]) 47).new (.cells [.slice none 0 0]) 47) v es := ((s.nm.keepNew _ _).keepNew _ _).keepNew _ _
  have s2' : SE ((((nm h).new (.cells [v]) 47).new (.cells [w]) 47).new (.cells [.slice none 0 0]) 47) w fs := ((s2.nm.keepNew _ _).keepNew _ _).keepNew _ _
  have e0 : (nm h).blks.length = h.blks.length := rfl
  have e1 : ((nm h).new (.cells [v]) 47).blks.length = h.blks.length + 1 := by simp [Heap.new]
  have e2 : (((nm h).new (.cells [v]) 47).new (.cells [w]) 47).blks.length = h.blks.length + 2 := by simp [Heap.new]
  have k2 : In h.blks.length No (nm h) ((((nm h).new (.cells [v]) 47).new (.cells [w]) 47).new (.cells [.slice none 0 0]) 47) := ((In.new (h := nm h) (Nat.le_refl h.blks.length) _ _).trans (In.new (by omega) _ _)).trans (In.new (by omega) _ _)
  have hlen : ((((nm h).new (.cells [v]) 47).new (.cells [w]) 47).new (.cells [.slice none 0 0]) 47).blks.length = h.blks.length + 3 := by simp [Heap.new]
  rw [e0] at c1
  rw [e1] at c2
  rw [e2] at c3
  generalize hh : ((((nm h).new (.cells [v]) 47).new (.cells [w]) 47).new (.cells [.slice none 0 0]) 47) = h2 at c1 c2 c3 s1' s2' k2 hlen
  have lv : ∀ {h' : Heap}, Same h2 h' → (h'.loadN h.blks.length 0 1).map (fun cs => Value.agg cs.toArray) = some (.agg #[v]) := fun hs => by rw [(c1.same hs).loadN (n := 1) rfl]; rfl
  have lw : ∀ {h' : Heap}, Same h2 h' → (h'.loadN (h.blks.length + 1) 0 1).map (fun cs => Value.agg cs.toArray) = some (.agg #[w]) := fun hs => by rw [(c2.same hs).loadN (n := 1) rfl]; rfl
  obtain ⟨h3, q3,Ad⟩ := spec_Good s1' hw (by omega)
  have s3 := Ad.same
  have hx3 := Ad.len
  have k3 := k2.trans (Ad.inn (by omega))
  -- a log that may not be: its copy
  have bad : ∀ {h4 : Heap}, Same h2 h4 → In h.blks.length No (nm h) h4 → ∃ a c h5 h6, evC Try.prog 49 #[.agg #[v]] h4 = some (.agg #[.slice a es.length c], h5) ∧ storeV Try.prog 47 (.pointer (some ⟨h.blks.length + 2, 0, none⟩)) (.agg #[.slice a es.length c]) h5 = some h6 ∧ (h6.loadN (h.blks.length + 2) 0 1).map (fun cs => Value.agg cs.toArray) = some (.agg #[.slice a es.length c]) ∧ In h.blks.length No (nm h) h6 ∧ AE h.blks.length h6 (.slice a es.length c) es := fun {h4} hs hk => by
    obtain ⟨a, c, h5, g1, g2, g3⟩ := spec_clone (s1'.same hs) (by omega)
    have d5 := (c3.same hs).ext g2
    have d6 := d5.put [.slice a es.length c]
    have hs' := hs.1
    have hg2 := g2.len
    refine ⟨a, c, h5, h5.put (h.blks.length + 2) (.cells [.slice a es.length c]), g1, ?_, ?_, (hk.trans (g2.inn (by omega))).trans (In.put (by omega) (.inl (by omega)) _), (Acc.keepPut g3 (fun e => by have := Acc.ge g3 e; omega) _).up (by omega)⟩
    · rw [stL, storeN_blk d5 (by simp)]; rfl
    · rw [d6.loadN (n := 1) rfl]; rfl
  cases hg : goodE es with
  | false =>
    rw [hg] at q3
    obtain ⟨a, c, h5, h6, g1, g2, g3, g4, g5⟩ := bad s3 k3
    have hj : joinE es fs = es := by unfold joinE; rw [if_neg (by simp [hg])]
    rw [hj]
    refine ⟨a, c, _, ?_, done_ext' g4, g5.done⟩
    simp -implicitDefEqProofs (disch := omega) only [↓c23_0_eq, bxL, alL, e0, e1, e2, hh, ldL, lv (Same.refl _), q3, lv s3, g1, g2, g3, rvals, ↓ret23, ↓cnd_true, ↓cnd_false, ↓Option.bind_some, ↓obH_some', bin_add, bin_sub, bin_mul, bin_lss, bin_leq, bin_gtr, bin_geq, bin_eql, bin_neq, un_not, un_neg, Option.bind_some, Option.bind_none, Option.map_some, cnd_true, cnd_false, pickV_true, pickV_false, gd_true, gd_false, gdV_true, gdV_false, gdH_true, gdH_false, gdS_true, gdS_false, wt_ff, wt_tt, wt_ft, wt_tf, wt_undef, obH_some', extractV_tuple, nilCheckV_ptr, againK_normal, againK_exit, againK_ret, blockK_normal, blockK_same, blockK_ret, seqK_normal, seqK_exit, seqK_ret, fin_done, if_true', if_false', Bool.not_true, Bool.not_false, idx0, idx1, idx2, idx3, idx4, chk_nil_l, chk_nil_r, done_nm, up_cons, up_nil, cond_true, cond_false, Nat.reduceBEq]
  | true =>
    rw [hg] at q3
    obtain ⟨h4, q4,Ae⟩ := spec_Good (s2'.same s3) hw2 (by omega)
    have s4 := s3.trans Ae.same
    have hx4 := Ae.len
    have k4 := k3.trans (Ae.inn (by omega))
    cases hg2 : goodE fs with
    | false =>
      rw [hg2] at q4
      obtain ⟨a, c, h5, h6, g1, g2, g3, g4, g5⟩ := bad s4 k4
      have hj : joinE es fs = es := by unfold joinE; rw [if_neg (by simp [hg2])]
      rw [hj]
      refine ⟨a, c, _, ?_, done_ext' g4, g5.done⟩
      simp -implicitDefEqProofs (disch := omega) only [↓c23_0_eq, bxL, alL, e0, e1, e2, hh, ldL, lv (Same.refl _), q3, lw s3, q4, lv s4, g1, g2, g3, rvals, ↓ret23, ↓cnd_true, ↓cnd_false, ↓Option.bind_some, ↓obH_some', bin_add, bin_sub, bin_mul, bin_lss, bin_leq, bin_gtr, bin_geq, bin_eql, bin_neq, un_not, un_neg, Option.bind_some, Option.bind_none, Option.map_some, cnd_true, cnd_false, pickV_true, pickV_false, gd_true, gd_false, gdV_true, gdV_false, gdH_true, gdH_false, gdS_true, gdS_false, wt_ff, wt_tt, wt_ft, wt_tf, wt_undef, obH_some', extractV_tuple, nilCheckV_ptr, againK_normal, againK_exit, againK_ret, blockK_normal, blockK_same, blockK_ret, seqK_normal, seqK_exit, seqK_ret, fin_done, if_true', if_false', Bool.not_true, Bool.not_false, idx0, idx1, idx2, idx3, idx4, chk_nil_l, chk_nil_r, done_nm, up_cons, up_nil, cond_true, cond_false, Nat.reduceBEq]
    | true =>
      rw [hg2] at q4
      have g1 := ((goodE_iff es).1 hg).2
      have g2 := ((goodE_iff fs).1 hg2).2
      obtain ⟨a5, c5, h5, q5,Af, r5⟩ := spec_news (h := nm h4) (s1'.same s4).nm (s2'.same s4).nm g2 (by omega) (by omega)
      obtain ⟨Af', m5⟩ := Af.amx
      have r5' : AE h4.blks.length (am h5 h4) (.slice a5 (newsE es fs).length c5) (newsE es fs) := Acc.keep r5 fun _ _ _ => rfl
      have s5 := s4.trans Af'.same
      have hx5 := Af'.len
      obtain ⟨a6, c6, h6, q6,Ag, r6⟩ := spec_news (h := am h5 h4) (s2'.same s5) (s1'.same s5) g1 (by omega) (by omega)
      have s6 := s5.trans Ag.same
      have hx6 := Ag.len
      have nl : ∀ a b, (newsE a b).length ≤ a.length := fun a b => List.length_filter_le _ _
      have n1 := nl es fs
      have n2 := nl fs es
      obtain ⟨a7, c7, h7, q7, r7,Ah, o7, _⟩ := app_ents etE etE.under (n0 := h4.blks.length) (h := h6) (by omega) (Acc.same r5' Ag.same) (AE.se r6) (by omega)
      have k7 := (((k4.trans (Af'.inn (by omega))).trans (Ag.inn (by omega))).trans (Keeps.inn (S := No) (Ah.dn (by omega))))
      have s7 : Same h2 h7 := ⟨by have := Ah.len; omega, fun q hq => (o7 q (by omega) (Acc.off r5' (n1 := h2.blks.length) (by omega) hq)).trans (s6.2 q hq)⟩
      have l7 : h7.load1 h.blks.length 0 = some v := (c1.same s7).load 0
      have hj : joinE es fs = srtE (newsE es fs ++ newsE fs es ++ bothE es fs) := by unfold joinE; rw [if_pos ⟨hg, hg2⟩]
      rw [hj]
      obtain ⟨va, vc, rfl⟩ := s.shape
      have hlt7 := s7.1
      have r7' : AE h4.blks.length h7 (.slice a7 (newsE es fs ++ newsE fs es ++ bothE (es.take 0) fs).length c7) (newsE es fs ++ newsE fs es ++ bothE (es.take 0) fs) := by
        rw [List.take_zero]; show AE _ _ (.slice a7 (newsE es fs ++ newsE fs es ++ []).length c7) (newsE es fs ++ newsE fs es ++ []); rw [List.append_nil]; exact r7
      have lp := join_loop (h0 := h) (h1 := h7) (p1 := h.blks.length + 1) (p2 := h.blks.length + 2) (pre := newsE es fs ++ newsE fs es) (s1'.same s7) (s2'.same s7) g2 hw hw2 (by omega) (by omega) (by rw [List.length_append]; omega) (by omega) (c2.same s7) (c3.same s7) (by omega) (srtE_len _) h4.blks.length (by omega) (by have := Ah.len; omega) (fun b hb => by have := Sl.lt s1' hb; omega) (fun b hb => by have := Sl.lt s2' hb; omega) (by omega) (by omega) es.length 0 (by omega) (by omega)
      have fin' : ∀ {r : Option (Value × Heap)}, (∃ a c h', r = some (.agg #[.slice a (srtE (newsE es fs ++ newsE fs es ++ bothE es fs)).length c], done h h') ∧ In h.blks.length No (nm h) h' ∧ AE h4.blks.length h' (.slice a (srtE (newsE es fs ++ newsE fs es ++ bothE es fs)).length c) (srtE (newsE es fs ++ newsE fs es ++ bothE es fs))) → ∃ a c h', r = some (.agg #[.slice a (srtE (newsE es fs ++ newsE fs es ++ bothE es fs)).length c], h') ∧ HExt h h' ∧ AE h.blks.length h' (.slice a (srtE (newsE es fs ++ newsE fs es ++ bothE es fs)).length c) (srtE (newsE es fs ++ newsE fs es ++ bothE es fs)) := fun ⟨a, c, h', g1, g2, g3⟩ => ⟨a, c, _, g1, done_ext' g2, (Acc.up g3 (by omega)).done⟩
      simp -implicitDefEqProofs (disch := omega) only [↓c23_0_eq, bxL, alL, e0, e1, e2, hh, ldL, lv (Same.refl _), q3, lw s3, q4, lv s4, lw s4, q5, m5, lw s5, lv s5, q6, q7, List.nil_append, faL, ldEs, l7, lnEs, ↓cnd_true, ↓cnd_false, ↓Option.bind_some, ↓obH_some', bin_add, bin_sub, bin_mul, bin_lss, bin_leq, bin_gtr, bin_geq, bin_eql, bin_neq, un_not, un_neg, Option.bind_some, Option.bind_none, Option.map_some, cnd_true, cnd_false, pickV_true, pickV_false, gd_true, gd_false, gdV_true, gdV_false, gdH_true, gdH_false, gdS_true, gdS_false, wt_ff, wt_tt, wt_ft, wt_tf, wt_undef, obH_some', extractV_tuple, nilCheckV_ptr, againK_normal, againK_exit, againK_ret, blockK_normal, blockK_same, blockK_ret, seqK_normal, seqK_exit, seqK_ret, fin_done, if_true', if_false', Bool.not_true, Bool.not_false, idx0, idx1, idx2, idx3, idx4, chk_nil_l, chk_nil_r, done_nm, up_cons, up_nil, cond_true, cond_false, Nat.reduceBEq]
      refine fin' (lp _ _ a7 c7 k7 (fun _ _ => rfl) (Nat.le_refl _) r7' ?_ ?_ ?_ ?_ ?_ ?_)
      · rfl
      · rfl
      · rw [List.take_zero]; show Value.slice a7 (newsE es fs ++ newsE fs es).length c7 = Value.slice a7 (newsE es fs ++ newsE fs es ++ []).length c7; rw [List.append_nil]
      all_goals rfl
end Go.Am
namespace Go.Am
open Go.Proofs
set_option maxRecDepth 100000
set_option linter.all false
attribute [local congr] obind_congr obH_congr cnd_congr chk_congr retK_congr codeK_congr
def purgeL : List E3 → List E3
  | [] => []
  | [e] => [e]
  | e :: e' :: l => if e.t ≠ 0 ∨ e'.f ≠ e.f then e :: purgeL (e' :: l) else purgeL (e' :: l)
theorem purgeL_two (e e' : E3) (l : List E3) : purgeL (e :: e' :: l) = if e.t ≠ 0 ∨ e'.f ≠ e.f then e :: purgeL (e' :: l) else purgeL (e' :: l) := by rw [purgeL]
theorem purgeL_len : ∀ l : List E3, (purgeL l).length ≤ l.length
  | [] => Nat.le_refl _
  | [e] => Nat.le_refl _
  | e :: e' :: l => by
    have := purgeL_len (e' :: l)
    unfold purgeL
    split
    · simp at *; omega
    · simp at *; omega
def purgeE (es : List E3) : List E3 := if goodE es then purgeL es else es
theorem purge_loop {h0 h1 : Heap} {v : Value} {es : List E3} {p1 p2 : Nat} (s : SE h1 v es) (hl : es.length < 2 ^ 38) (c1 : Cells h1 p1 47 [v]) (c2 : Cells h1 p2 47 [.slice none 0 0]) (hp2 : h0.blks.length ≤ p2) (hn1 : p2 < h1.blks.length) (hn0 : h0.blks.length ≤ h1.blks.length) :
    ∀ (m i : Nat), es.length - i = m → i ≤ es.length → ∀ (x : Nat → Value) (h : Heap) (a : Option Addr) (c : Nat) (o : List E3),In h0.blks.length No (nm h0) h → Same h1 h → AE h1.blks.length h (.slice a o.length c) o → o ++ purgeL (es.drop i) = purgeL es →
    x 1 = .pointer (some ⟨p1, 0, none⟩) → x 2 = .pointer (some ⟨p2, 0, none⟩) → x 3 = .slice a o.length c → x 13 = v → x 14 = .int .i64 es.length → x 15 = .int .i64 i →
    ∃ a' c' h', lK c20_1 50 x h (blockK 0 (sK c20_2 (retK Try.f20 Try.prog h0))) = some (.agg #[.slice a' (purgeL es).length c'], done h0 h') ∧ In h0.blks.length No (nm h0) h' ∧ AE h1.blks.length h' (.slice a' (purgeL es).length c') (purgeL es) := by
  intro m
  have hpl := purgeL_len es
  induction m with
  | zero =>
    intro i e1 e2 x h a c o hin hs ha ho Ab Ac Ad Ao Ap Aq
    obtain rfl : i = es.length := by omega
    rw [List.drop_length] at ho
    simp only [purgeL, List.append_nil] at ho
    subst ho
    have c2' := c2.same hs
    have c5 := c2'.put [.slice a (purgeL es).length c]
    have hb : blockOf (.slice a (purgeL es).length c) ≠ some p2 := fun e => by have := Acc.ge ha e; omega
    have l5 : (Heap.loadN (h.put p2 (.cells [.slice a (purgeL es).length c])) p2 0 1).map (fun cs => Value.agg cs.toArray) = some (.agg #[.slice a (purgeL es).length c]) := by rw [c5.loadN (n := 1) rfl]; rfl
    have i5 := hin.trans (In.put (S := No) (Nat.le_trans hin.le hin.len) (p := p2) (.inl hp2) (.cells [.slice a (purgeL es).length c]))
    rw [lK_eq]
    refine ⟨a, c, _, ?_, i5, ha.keepPut hb _⟩
    simp -implicitDefEqProofs (disch := omega) only [↓c20_1_eq, ↓c20_2_eq,Ab,Ac,Ad,Ao,Ap,Aq, dcF, bdL, stL, storeN_blk c2' (o := 0) (vs := [.slice a (purgeL es).length c]) (by simp), List.take_zero, List.nil_append, List.append_nil, List.length_cons, List.length_nil, List.drop_succ_cons, List.drop_zero, Nat.zero_add, ldL, l5, rvals, ↓ret20, ↓cnd_true, ↓cnd_false, ↓Option.bind_some, ↓obH_some', bin_add, bin_sub, bin_mul, bin_lss, bin_leq, bin_gtr, bin_geq, bin_eql, bin_neq, un_not, un_neg, Option.bind_some, Option.bind_none, Option.map_some, cnd_true, cnd_false, pickV_true, pickV_false, gd_true, gd_false, gdV_true, gdV_false, gdH_true, gdH_false, gdS_true, gdS_false, wt_ff, wt_tt, wt_ft, wt_tf, wt_undef, obH_some', extractV_tuple, nilCheckV_ptr, againK_normal, againK_exit, againK_ret, blockK_normal, blockK_same, blockK_ret, seqK_normal, seqK_exit, seqK_ret, fin_done, if_true', if_false', Bool.not_true, Bool.not_false, idx0, idx1, idx2, idx3, idx4, chk_nil_l, chk_nil_r, done_nm, up_cons, up_nil, cond_true, cond_false, Nat.reduceBEq]
  | succ m ih =>
    intro i hm hi x h a c o hin hs ha ho Ab Ac Ad Ao Ap Aq
    have hil : i < es.length := by omega
    obtain ⟨b, of, hb, hbl, e1, e2⟩ := s.at' (t := 45) (el := 57) (by kernel_rfl) (by kernel_rfl) hil
    obtain ⟨f1, f2, f3, f4⟩ := e2 h (hs.2 b hbl)
    have hnh : h1.blks.length ≤ h.blks.length := hs.1
    obtain ⟨hA, hB, a1, a2, a3, a4, a5, a6⟩ := var_ent (n0 := h1.blks.length) hnh es[i]
    have hsB := hs.trans a5
    have hinB := hin.trans (In.dn (a4 No) hn0)
    have lB : hB.load1 p1 0 = some v := (c1.same hsB).load 0
    have lf : hB.load1 h.blks.length 0 = some (.int .i64 es[i].f) := a3.load 0
    have lt : hB.load1 h.blks.length (0 + 2) = some (.int .u64 es[i].t) := a3.load 2
    obtain ⟨va, vc, rfl⟩ := s.shape
    have wi : IntKind.i64.wrap ((i : Int) + 1) = ((i + 1 : Nat) : Int) := by rw [wrap_i64] <;> omega
    have wl : IntKind.i64.wrap ((es.length : Int) - 1) = ((es.length - 1 : Nat) : Int) := by rw [wrap_i64] <;> omega
    have hol : o.length < 2 ^ 39 := by
      have := congrArg List.length ho
      rw [List.length_append] at this; omega
    obtain ⟨a', c', hD, q1, q2, q3, q4⟩ := app_ent etE (n0 := h1.blks.length) (Nat.le_trans hnh a5.1) (ha.same a5) es[i] hol
    have hsD : Same h1 hD := ⟨Nat.le_trans hsB.1 q3.len, fun q hq => (q4 q (Nat.lt_of_lt_of_le hq hsB.1) (fun e => by have := Acc.ge ha e; omega)).trans (hsB.2 q hq)⟩
    have hinD := hinB.trans (Keeps.inn (S := No) (q3.dn hn0))
    by_cases hlast : i + 1 = es.length
    · have ho' : (o ++ [es[i]]) ++ purgeL (es.drop (i + 1)) = purgeL es := by
        rw [← ho, List.drop_eq_getElem_cons hil, hlast, List.drop_length]; simp [purgeL]
      have d1 : decide ((i : Int) = ((es.length - 1 : Nat) : Int)) = true := decide_eq_true (by omega)
      by_cases ht : es[i].t = 0
      · have d0 : decide ((es[i].t : Int) ≠ 0) = false := decide_eq_false (by omega)
        rw [lK_eq]
        simp -implicitDefEqProofs (disch := omega) only [↓c20_1_eq, ↓c20_2_eq,Ab,Ac,Ad,Ao,Ap,Aq, dcT, e1, ldE, f1, Option.map_some, entA, a1, a2, a6, faE0, faE2, ldS, lt, d0, faL, ldEs, lB, lnEs, wl, d1, bsE, q1, wi, ↓cnd_true, ↓cnd_false, ↓Option.bind_some, ↓obH_some', bin_add, bin_sub, bin_mul, bin_lss, bin_leq, bin_gtr, bin_geq, bin_eql, bin_neq, un_not, un_neg, Option.bind_some, Option.bind_none, Option.map_some, cnd_true, cnd_false, pickV_true, pickV_false, gd_true, gd_false, gdV_true, gdV_false, gdH_true, gdH_false, gdS_true, gdS_false, wt_ff, wt_tt, wt_ft, wt_tf, wt_undef, obH_some', extractV_tuple, nilCheckV_ptr, againK_normal, againK_exit, againK_ret, blockK_normal, blockK_same, blockK_ret, seqK_normal, seqK_exit, seqK_ret, fin_done, if_true', if_false', Bool.not_true, Bool.not_false, idx0, idx1, idx2, idx3, idx4, chk_nil_l, chk_nil_r, done_nm, up_cons, up_nil, cond_true, cond_false, Nat.reduceBEq]
        exact ih (i + 1) (by omega) (by omega) (up _ _) hD a' c' _ hinD hsD q2 ho' Ab Ac rfl Ao Ap rfl
      · have d0 : decide ((es[i].t : Int) ≠ 0) = true := decide_eq_true (by omega)
        rw [lK_eq]
        simp -implicitDefEqProofs (disch := omega) only [↓c20_1_eq, ↓c20_2_eq,Ab,Ac,Ad,Ao,Ap,Aq, dcT, e1, ldE, f1, Option.map_some, entA, a1, a2, a6, faE0, faE2, ldS, lt, d0, faL, ldEs, lB, lnEs, wl, d1, bsE, q1, wi, ↓cnd_true, ↓cnd_false, ↓Option.bind_some, ↓obH_some', bin_add, bin_sub, bin_mul, bin_lss, bin_leq, bin_gtr, bin_geq, bin_eql, bin_neq, un_not, un_neg, Option.bind_some, Option.bind_none, Option.map_some, cnd_true, cnd_false, pickV_true, pickV_false, gd_true, gd_false, gdV_true, gdV_false, gdH_true, gdH_false, gdS_true, gdS_false, wt_ff, wt_tt, wt_ft, wt_tf, wt_undef, obH_some', extractV_tuple, nilCheckV_ptr, againK_normal, againK_exit, againK_ret, blockK_normal, blockK_same, blockK_ret, seqK_normal, seqK_exit, seqK_ret, fin_done, if_true', if_false', Bool.not_true, Bool.not_false, idx0, idx1, idx2, idx3, idx4, chk_nil_l, chk_nil_r, done_nm, up_cons, up_nil, cond_true, cond_false, Nat.reduceBEq]
        exact ih (i + 1) (by omega) (by omega) (up _ _) hD a' c' _ hinD hsD q2 ho' Ab Ac rfl Ao Ap rfl
    · have hin1 : i + 1 < es.length := by omega
      have d1 : decide ((i : Int) = ((es.length - 1 : Nat) : Int)) = false := decide_eq_false (by omega)
      obtain ⟨b', of', hb', hbl', e1', e2'⟩ := s.at' (t := 45) (el := 57) (by kernel_rfl) (by kernel_rfl) hin1
      obtain ⟨_, f2', _⟩ := e2' hB (hsB.2 b' hbl')
      have hdr : es.drop i = es[i] :: es[i + 1] :: es.drop (i + 2) := by rw [List.drop_eq_getElem_cons hil, List.drop_eq_getElem_cons hin1]
      by_cases hk : es[i].t ≠ 0 ∨ es[i + 1].f ≠ es[i].f
      · have ho' : (o ++ [es[i]]) ++ purgeL (es.drop (i + 1)) = purgeL es := by
          rw [← ho, hdr, List.drop_eq_getElem_cons hin1, purgeL_two es[i], if_pos hk, List.append_assoc]; rfl
        by_cases ht : es[i].t = 0
        · have hf : es[i + 1].f ≠ es[i].f := hk.resolve_left (fun h => h ht)
          have d0 : decide ((es[i].t : Int) ≠ 0) = false := decide_eq_false (by omega)
          rw [lK_eq]
          simp -implicitDefEqProofs (disch := omega) only [↓c20_1_eq, ↓c20_2_eq,Ab,Ac,Ad,Ao,Ap,Aq, dcT, e1, ldE, f1, Option.map_some, entA, a1, a2, a6, faE0, faE2, ldS, lt, d0, faL, ldEs, lB, lnEs, wl, d1, wi, e1', ldI, f2', lf, decide_eq_true hf, bsE, q1, ↓cnd_true, ↓cnd_false, ↓Option.bind_some, ↓obH_some', bin_add, bin_sub, bin_mul, bin_lss, bin_leq, bin_gtr, bin_geq, bin_eql, bin_neq, un_not, un_neg, Option.bind_some, Option.bind_none, Option.map_some, cnd_true, cnd_false, pickV_true, pickV_false, gd_true, gd_false, gdV_true, gdV_false, gdH_true, gdH_false, gdS_true, gdS_false, wt_ff, wt_tt, wt_ft, wt_tf, wt_undef, obH_some', extractV_tuple, nilCheckV_ptr, againK_normal, againK_exit, againK_ret, blockK_normal, blockK_same, blockK_ret, seqK_normal, seqK_exit, seqK_ret, fin_done, if_true', if_false', Bool.not_true, Bool.not_false, idx0, idx1, idx2, idx3, idx4, chk_nil_l, chk_nil_r, done_nm, up_cons, up_nil, cond_true, cond_false, Nat.reduceBEq]
          exact ih (i + 1) (by omega) (by omega) (up _ _) hD a' c' _ hinD hsD q2 ho' Ab Ac rfl Ao Ap rfl
        · have d0 : decide ((es[i].t : Int) ≠ 0) = true := decide_eq_true (by omega)
          rw [lK_eq]
          simp -implicitDefEqProofs (disch := omega) only [↓c20_1_eq, ↓c20_2_eq,Ab,Ac,Ad,Ao,Ap,Aq, dcT, e1, ldE, f1, Option.map_some, entA, a1, a2, a6, faE0, faE2, ldS, lt, d0, bsE, q1, wi, ↓cnd_true, ↓cnd_false, ↓Option.bind_some, ↓obH_some', bin_add, bin_sub, bin_mul, bin_lss, bin_leq, bin_gtr, bin_geq, bin_eql, bin_neq, un_not, un_neg, Option.bind_some, Option.bind_none, Option.map_some, cnd_true, cnd_false, pickV_true, pickV_false, gd_true, gd_false, gdV_true, gdV_false, gdH_true, gdH_false, gdS_true, gdS_false, wt_ff, wt_tt, wt_ft, wt_tf, wt_undef, obH_some', extractV_tuple, nilCheckV_ptr, againK_normal, againK_exit, againK_ret, blockK_normal, blockK_same, blockK_ret, seqK_normal, seqK_exit, seqK_ret, fin_done, if_true', if_false', Bool.not_true, Bool.not_false, idx0, idx1, idx2, idx3, idx4, chk_nil_l, chk_nil_r, done_nm, up_cons, up_nil, cond_true, cond_false, Nat.reduceBEq]
          exact ih (i + 1) (by omega) (by omega) (up _ _) hD a' c' _ hinD hsD q2 ho' Ab Ac rfl Ao Ap rfl
      · have ht : es[i].t = 0 := Classical.byContradiction fun h => hk (.inl h)
        have hf : es[i + 1].f = es[i].f := Classical.byContradiction fun h => hk (.inr h)
        have d0 : decide ((es[i].t : Int) ≠ 0) = false := decide_eq_false (by omega)
        have d2 : decide (es[i + 1].f ≠ es[i].f) = false := decide_eq_false (fun h => h hf)
        have ho' : o ++ purgeL (es.drop (i + 1)) = purgeL es := by
          rw [← ho, hdr, List.drop_eq_getElem_cons hin1, purgeL_two es[i], if_neg hk]
        rw [lK_eq]
        simp -implicitDefEqProofs (disch := omega) only [↓c20_1_eq, ↓c20_2_eq,Ab,Ac,Ad,Ao,Ap,Aq, dcT, e1, ldE, f1, Option.map_some, entA, a1, a2, a6, faE0, faE2, ldS, lt, d0, faL, ldEs, lB, lnEs, wl, d1, wi, e1', ldI, f2', lf, d2, ↓cnd_true, ↓cnd_false, ↓Option.bind_some, ↓obH_some', bin_add, bin_sub, bin_mul, bin_lss, bin_leq, bin_gtr, bin_geq, bin_eql, bin_neq, un_not, un_neg, Option.bind_some, Option.bind_none, Option.map_some, cnd_true, cnd_false, pickV_true, pickV_false, gd_true, gd_false, gdV_true, gdV_false, gdH_true, gdH_false, gdS_true, gdS_false, wt_ff, wt_tt, wt_ft, wt_tf, wt_undef, obH_some', extractV_tuple, nilCheckV_ptr, againK_normal, againK_exit, againK_ret, blockK_normal, blockK_same, blockK_ret, seqK_normal, seqK_exit, seqK_ret, fin_done, if_true', if_false', Bool.not_true, Bool.not_false, idx0, idx1, idx2, idx3, idx4, chk_nil_l, chk_nil_r, done_nm, up_cons, up_nil, cond_true, cond_false, Nat.reduceBEq]
        exact ih (i + 1) (by omega) (by omega) (up _ _) hB a c _ hinB hsB (ha.same a5) ho' Ab Ac Ad Ao Ap rfl
theorem spec_Purge {h : Heap} {v : Value} {es : List E3} (s : SE h v es) (hw : wide es) (hl : es.length < 2 ^ 38) :
    ∃ a c h', evC Try.prog 20 #[.agg #[v]] h = some (.agg #[.slice a (purgeE es).length c], h') ∧ HExt h h' ∧ AE h.blks.length h' (.slice a (purgeE es).length c) (purgeE es) := by
  rw [call20]
  have c1 := (Cells.new (nm h) 47 [v]).keepNew (.cells [.slice none 0 0]) 47
  have c2 := Cells.new ((nm h).new (.cells [v]) 47) 47 [.slice none 0 0]
  have s2 : SE (((nm h).new (.cells [v]) 47).new (.cells [.slice none 0 0]) 47) v es := (s.nm.keepNew _ _).keepNew _ _
  have k2 : In h.blks.length No (nm h) (((nm h).new (.cells [v]) 47).new (.cells [.slice none 0 0]) 47) := (In.new (h := nm h) (Nat.le_refl h.blks.length) _ _).trans (In.new (by simp [Heap.new]) _ _)
  have e0 : (nm h).blks.length = h.blks.length := rfl
  have e1 : ((nm h).new (.cells [v]) 47).blks.length = h.blks.length + 1 := by simp [Heap.new]
  rw [e0] at c1
  rw [e1] at c2
  have hlen : (((nm h).new (.cells [v]) 47).new (.cells [.slice none 0 0]) 47).blks.length = h.blks.length + 2 := by simp [Heap.new]
  generalize hh : (((nm h).new (.cells [v]) 47).new (.cells [.slice none 0 0]) 47) = h2 at c1 c2 s2 k2 hlen
  have lA : (h2.loadN h.blks.length 0 1).map (fun cs => Value.agg cs.toArray) = some (.agg #[v]) := by rw [c1.loadN (n := 1) rfl]; rfl
  obtain ⟨a, c, h3, e3,Ad, a3⟩ := spec_clone s2 (by omega)
  have c3 := c1.ext Ad
  have d3 := c2.ext Ad
  have hx3 := Ad.len
  have b1 : blockOf (.slice a es.length c) ≠ some h.blks.length := fun e => by have := a3.ge e; omega
  have b2 : blockOf (.slice a es.length c) ≠ some (h.blks.length + 1) := fun e => by have := a3.ge e; omega
  have c4 := c3.put [.slice a es.length c]
  have d4 : Cells (h3.put h.blks.length (.cells [.slice a es.length c])) (h.blks.length + 1) 47 [.slice none 0 0] := d3.keepPut (by omega) _
  have a4 : AE h.blks.length (h3.put h.blks.length (.cells [.slice a es.length c])) (.slice a es.length c) es := (a3.keepPut b1 _).up (by omega)
  have k4 := (k2.trans (Ad.inn (by omega))).trans (In.put (S := No) (by omega) (p := h.blks.length) (.inl (by omega)) (.cells [.slice a es.length c]))
  have hs4 := storeN_blk c3 (o := 0) (vs := [.slice a es.length c]) (by simp)
  have hl4 : (h3.put h.blks.length (.cells [.slice a es.length c])).blks.length = h3.blks.length := Heap.put_len _ _ _
  simp only [List.take_zero, List.nil_append, List.append_nil, List.length_cons, List.length_nil, List.drop_succ_cons, List.drop_zero, Nat.zero_add] at hs4
  generalize hh4 : h3.put h.blks.length (.cells [.slice a es.length c]) = h4 at c4 d4 a4 k4 hs4 hl4
  have l4 : (h4.loadN h.blks.length 0 1).map (fun cs => Value.agg cs.toArray) = some (.agg #[.slice a es.length c]) := by rw [c4.loadN (n := 1) rfl]; rfl
  obtain ⟨h5, e5,Af⟩ := spec_Good a4.se hw (by omega)
  have c5 := c4.ext Af
  have d5 := d4.ext Af
  have hx5 := Af.len
  have a5 : AE h.blks.length h5 (.slice a es.length c) es := a4.same Af.same
  have k5 := k4.trans (Af.inn (Nat.le_trans k4.le k4.len))
  have l5 : (h5.loadN h.blks.length 0 1).map (fun cs => Value.agg cs.toArray) = some (.agg #[.slice a es.length c]) := by rw [c5.loadN (n := 1) rfl]; rfl
  have l5' : h5.load1 h.blks.length 0 = some (.slice a es.length c) := c5.load 0
  unfold purgeE
  cases hg : goodE es with
  | false =>
    rw [hg] at e5
    refine ⟨a, c, ?_⟩
    have d6 := d5.put [.slice a es.length c]
    have l6 : (Heap.loadN (h5.put (h.blks.length + 1) (.cells [.slice a es.length c])) (h.blks.length + 1) 0 1).map (fun cs => Value.agg cs.toArray) = some (.agg #[.slice a es.length c]) := by rw [d6.loadN (n := 1) rfl]; rfl
    have k6 := k5.trans (In.put (S := No) (Nat.le_trans k5.le k5.len) (p := h.blks.length + 1) (.inl (by omega)) (.cells [.slice a es.length c]))
    simp only [Bool.false_eq_true, if_false]
    refine ⟨_, ?_, done_ext' k6, (a5.keepPut b2 _).done⟩
    simp -implicitDefEqProofs (disch := omega) only [↓c20_0_eq, bxL, alL, e0, e1, hh, ldL, lA, e3, stL, hs4, l4, e5, l5, storeN_blk d5 (o := 0) (vs := [.slice a es.length c]) (by simp), List.take_zero, List.nil_append, List.append_nil, List.length_cons, List.length_nil, List.drop_succ_cons, List.drop_zero, Nat.zero_add, l6, rvals, ↓ret20, ↓cnd_true, ↓cnd_false, ↓Option.bind_some, ↓obH_some', bin_add, bin_sub, bin_mul, bin_lss, bin_leq, bin_gtr, bin_geq, bin_eql, bin_neq, un_not, un_neg, Option.bind_some, Option.bind_none, Option.map_some, cnd_true, cnd_false, pickV_true, pickV_false, gd_true, gd_false, gdV_true, gdV_false, gdH_true, gdH_false, gdS_true, gdS_false, wt_ff, wt_tt, wt_ft, wt_tf, wt_undef, obH_some', extractV_tuple, nilCheckV_ptr, againK_normal, againK_exit, againK_ret, blockK_normal, blockK_same, blockK_ret, seqK_normal, seqK_exit, seqK_ret, fin_done, if_true', if_false', Bool.not_true, Bool.not_false, idx0, idx1, idx2, idx3, idx4, chk_nil_l, chk_nil_r, done_nm, up_cons, up_nil, cond_true, cond_false, Nat.reduceBEq]
  | true =>
    rw [hg] at e5
    have lp := purge_loop (h0 := h) (h1 := h5) (p1 := h.blks.length) (p2 := h.blks.length + 1) a5.se hl c5 d5 (by omega) (by omega) (by omega) es.length 0 (by omega) (by omega)
    have fin' : ∀ {r : Option (Value × Heap)}, (∃ a c h', r = some (.agg #[.slice a (purgeL es).length c], done h h') ∧ In h.blks.length No (nm h) h' ∧ AE h5.blks.length h' (.slice a (purgeL es).length c) (purgeL es)) → ∃ a c h', r = some (.agg #[.slice a (purgeL es).length c], h') ∧ HExt h h' ∧ AE h.blks.length h' (.slice a (purgeL es).length c) (purgeL es) := fun ⟨a, c, h', q1, q2, q3⟩ => ⟨a, c, _, q1, done_ext' q2, (Acc.up q3 (by omega)).done⟩
    simp only [if_true]
    simp -implicitDefEqProofs (disch := omega) only [↓c20_0_eq, bxL, alL, e0, e1, hh, ldL, lA, e3, stL, hs4, l4, e5, faL, ldEs, l5', lnEs, ↓cnd_true, ↓cnd_false, ↓Option.bind_some, ↓obH_some', bin_add, bin_sub, bin_mul, bin_lss, bin_leq, bin_gtr, bin_geq, bin_eql, bin_neq, un_not, un_neg, Option.bind_some, Option.bind_none, Option.map_some, cnd_true, cnd_false, pickV_true, pickV_false, gd_true, gd_false, gdV_true, gdV_false, gdH_true, gdH_false, gdS_true, gdS_false, wt_ff, wt_tt, wt_ft, wt_tf, wt_undef, obH_some', extractV_tuple, nilCheckV_ptr, againK_normal, againK_exit, againK_ret, blockK_normal, blockK_same, blockK_ret, seqK_normal, seqK_exit, seqK_ret, fin_done, if_true', if_false', Bool.not_true, Bool.not_false, idx0, idx1, idx2, idx3, idx4, chk_nil_l, chk_nil_r, done_nm, up_cons, up_nil, cond_true, cond_false, Nat.reduceBEq]
    refine fin' (lp _ _ none 0 [] k5 (Same.refl _) (AE.nil _ _) (by rw [List.drop_zero]; rfl) ?_ ?_ ?_ ?_ ?_ ?_)
    all_goals rfl
end Go.Am
namespace Go.Am
open Go.Proofs
set_option maxRecDepth 100000
set_option linter.all false
attribute [local congr] obind_congr obH_congr cnd_congr chk_congr retK_congr codeK_congr
theorem bdE3 (a b c : Int) : buildV Try.prog 57 #[(0, .int .i64 a), (1, .int .u64 b), (2, .int .u64 c)] = some (.agg #[.int .i64 a, .int .u64 b, .int .u64 c]) := by kernel_rfl
theorem bsE3 (a b c : Int) (h : Heap) : buildSliceV Try.prog 45 1 #[(0, .agg #[.int .i64 a, .int .u64 b, .int .u64 c])] h = some (.slice (some ⟨h.blks.length, 0, none⟩) 1 1, h.new (.cells [.int .i64 a, .int .u64 b, .int .u64 c]) 57) := by kernel_rfl
theorem fvL (a : Option Addr) (n c : Nat) : fieldV Try.prog 47 (.agg #[.slice a n c]) 0 = some (.slice a n c) := by kernel_rfl
def aw1 : List E3 := [⟨0, 2, 2⟩]
def aw2 : List E3 := [⟨0, 1, 8⟩]
theorem aw_join : joinE aw1 aw2 = aw1 := by
  unfold joinE
  rw [if_pos (by decide), show newsE aw1 aw2 = aw1 by decide, show newsE aw2 aw1 = [] by decide, show bothE aw1 aw2 = [] by decide, List.append_nil, List.append_nil]
  exact srtE_id (List.pairwise_singleton _ _)
theorem spec_awake18 (h : Heap) : ∃ h', evC Try.prog 18 #[] h = some (.bool true, h') ∧ HExt h h' := by
  rw [call18]
  have e0 : (nm h).blks.length = h.blks.length := rfl
  obtain ⟨h6, hh6⟩ : ∃ h6, h6 = ((nm h).new (.cells [.int .i64 0, .int .u64 2, .int .u64 2]) 57).new (.cells [.int .i64 0, .int .u64 1, .int .u64 8]) 57 := ⟨_, rfl⟩
  have e1 : ((nm h).new (.cells [.int .i64 0, .int .u64 2, .int .u64 2]) 57).blks.length = h.blks.length + 1 := by simp [Heap.new]
  have s1 : SE h6 (.slice (some ⟨h.blks.length, 0, none⟩) 1 1) aw1 := by rw [hh6]; exact Sl.keepNew (lit_ent 57 etE.size ⟨0, 2, 2⟩ (nm h)) _ _
  have s2 : SE h6 (.slice (some ⟨h.blks.length + 1, 0, none⟩) 1 1) aw2 := by rw [hh6, ← e1]; exact lit_ent 57 etE.size ⟨0, 1, 8⟩ _
  have k6 : In h.blks.length No (nm h) h6 := by rw [hh6]; exact (In.new (h := nm h) (Nat.le_refl h.blks.length) _ _).trans (In.new (by omega) _ _)
  have e6 : h6.blks.length = h.blks.length + 2 := by rw [hh6]; simp [Heap.new]
  obtain ⟨h11, hh11⟩ : ∃ h11, h11 = (h6.new (.cells [.slice none 0 0]) 47).new (.cells [.slice none 0 0]) 47 := ⟨_, rfl⟩
  have e9 : (h6.new (.cells [.slice none 0 0]) 47).blks.length = h.blks.length + 3 := by simp [Heap.new, e6]
  have e11 : h11.blks.length = h.blks.length + 4 := by rw [hh11]; simp [Heap.new, e6]
  have c1 : Cells h11 (h.blks.length + 2) 47 [.slice none 0 0] := by rw [hh11, ← e6]; exact (Cells.new _ _ _).keepNew _ _
  have c2 : Cells h11 (h.blks.length + 3) 47 [.slice none 0 0] := by rw [hh11, ← e9]; exact Cells.new _ _ _
  have k11 : In h.blks.length No (nm h) h11 := by rw [hh11]; exact (k6.trans (In.new (by omega) _ _)).trans (In.new (by omega) _ _)
  have t1 : SE h11 (.slice (some ⟨h.blks.length, 0, none⟩) 1 1) aw1 := by rw [hh11]; exact (s1.keepNew _ _).keepNew _ _
  have t2 : SE h11 (.slice (some ⟨h.blks.length + 1, 0, none⟩) 1 1) aw2 := by rw [hh11]; exact (s2.keepNew _ _).keepNew _ _
  have st1 := storeN_blk c1 (o := 0) (vs := [.slice (some ⟨h.blks.length, 0, none⟩) 1 1]) (by simp)
  have d1 := c1.put [.slice (some ⟨h.blks.length, 0, none⟩) 1 1]
  have d2 : Cells (h11.put (h.blks.length + 2) (.cells [.slice (some ⟨h.blks.length, 0, none⟩) 1 1])) (h.blks.length + 3) 47 [.slice none 0 0] := c2.keepPut (by omega) _
  have st2 := storeN_blk d2 (o := 0) (vs := [.slice (some ⟨h.blks.length + 1, 0, none⟩) 1 1]) (by simp)
  simp only [List.take_zero, List.nil_append, List.append_nil, List.length_cons, List.length_nil, List.drop_succ_cons, List.drop_zero, Nat.zero_add] at st1 st2
  have f1 : Cells ((h11.put (h.blks.length + 2) (.cells [.slice (some ⟨h.blks.length, 0, none⟩) 1 1])).put (h.blks.length + 3) (.cells [.slice (some ⟨h.blks.length + 1, 0, none⟩) 1 1])) (h.blks.length + 2) 47 [.slice (some ⟨h.blks.length, 0, none⟩) 1 1] := d1.keepPut (by omega) _
  have f2 := d2.put [.slice (some ⟨h.blks.length + 1, 0, none⟩) 1 1]
  have k13 : In h.blks.length No (nm h) ((h11.put (h.blks.length + 2) (.cells [.slice (some ⟨h.blks.length, 0, none⟩) 1 1])).put (h.blks.length + 3) (.cells [.slice (some ⟨h.blks.length + 1, 0, none⟩) 1 1])) := (k11.trans (In.put (by omega) (.inl (by omega)) _)).trans (In.put (by rw [Heap.put_len]; omega) (.inl (by omega)) _)
  have u1 : SE ((h11.put (h.blks.length + 2) (.cells [.slice (some ⟨h.blks.length, 0, none⟩) 1 1])).put (h.blks.length + 3) (.cells [.slice (some ⟨h.blks.length + 1, 0, none⟩) 1 1])) (.slice (some ⟨h.blks.length, 0, none⟩) 1 1) aw1 := (t1.keepPut (by simp [blockOf]) _).keepPut (by simp [blockOf]) _
  have u2 : SE ((h11.put (h.blks.length + 2) (.cells [.slice (some ⟨h.blks.length, 0, none⟩) 1 1])).put (h.blks.length + 3) (.cells [.slice (some ⟨h.blks.length + 1, 0, none⟩) 1 1])) (.slice (some ⟨h.blks.length + 1, 0, none⟩) 1 1) aw2 := (t2.keepPut (by simp [blockOf]) _).keepPut (by simp [blockOf]) _
  generalize hh13 : (h11.put (h.blks.length + 2) (.cells [.slice (some ⟨h.blks.length, 0, none⟩) 1 1])).put (h.blks.length + 3) (.cells [.slice (some ⟨h.blks.length + 1, 0, none⟩) 1 1]) = h13 at f1 f2 k13 u1 u2 st2
  have l1 : ∀ {h' : Heap}, Same h13 h' → (h'.loadN (h.blks.length + 2) 0 1).map (fun cs => Value.agg cs.toArray) = some (.agg #[.slice (some ⟨h.blks.length, 0, none⟩) 1 1]) := fun hs => by rw [(f1.same hs).loadN (n := 1) rfl]; rfl
  have l2 : ∀ {h' : Heap}, Same h13 h' → (h'.loadN (h.blks.length + 3) 0 1).map (fun cs => Value.agg cs.toArray) = some (.agg #[.slice (some ⟨h.blks.length + 1, 0, none⟩) 1 1]) := fun hs => by rw [(f2.same hs).loadN (n := 1) rfl]; rfl
  have w1 : wide aw1 := by decide
  have w2 : wide aw2 := by decide
  obtain ⟨hA, q1,Ab⟩ := spec_Good u1 w1 (by decide)
  rw [show goodE aw1 = true by decide] at q1
  have sA := Ab.same
  obtain ⟨a2, c3, hB, q2,Ac, r2⟩ := spec_Join (h := nm hA) (u1.same sA).nm (u2.same sA).nm w1 w2 (by decide) (by decide)
  rw [aw_join] at q2 r2
  obtain ⟨Ac', m2⟩ := Ac.amx
  have sB := sA.trans Ac'.same
  have r2' : SE (am hB hA) (.slice a2 aw1.length c3) aw1 := Sl.keep (AE.se r2) fun _ _ _ => rfl
  obtain ⟨a4, c4, hC, q3,Ad, r3⟩ := spec_log1 (h := nm (am hB hA)) r2'.nm (by decide)
  obtain ⟨Ad', m3⟩ := Ad.amx
  have sC := sB.trans Ad'.same
  have r3' : SE (am hC (am hB hA)) (.slice a4 aw1.length c4) aw1 := Sl.keep (AR.se r3) fun _ _ _ => rfl
  have l3 : (am hC (am hB hA)).load1 (h.blks.length + 2) 0 = some (.slice (some ⟨h.blks.length, 0, none⟩) 1 1) := (f1.same sC).load 0
  obtain ⟨a5, c5, hD, q4,Ae, r4⟩ := spec_log1 (u1.same sC) (by decide)
  have q5 := spec_logs (r3'.ext Ae) (AR.se r4) (by decide) (by decide)
  rw [decide_eq_true rfl] at q5
  refine ⟨_, ?_, done_ext' ((((k13.trans (Ab.inn (Nat.le_trans k13.le k13.len))).trans (Ac'.inn (Nat.le_trans (Nat.le_trans k13.le k13.len) Ab.len))).trans (Ad'.inn (Nat.le_trans (Nat.le_trans (Nat.le_trans k13.le k13.len) Ab.len) Ac'.len))).trans (Ae.inn (Nat.le_trans (Nat.le_trans (Nat.le_trans (Nat.le_trans k13.le k13.len) Ab.len) Ac'.len) Ad'.len)))⟩
  simp -implicitDefEqProofs (disch := omega) only [↓c18_0_eq, ↓c18_1_eq, ↓c18_2_eq, ↓c18_3_eq, ↓c18_4_eq, ↓c18_5_eq, ↓c18_6_eq, ↓d18_0_0, ↓d18_0_1, ↓d18_0_2, ↓d18_0_3, ↓d18_0_4, ↓d18_0_5, ↓d18_0_6, ↓d18_0_7, ↓d18_0_8, ↓d18_0_9, ↓d18_0_10, ↓d18_0_11, ↓d18_0_12, ↓d18_0_13, ↓d18_0_14, bdE3, bsE3, e0, e1, ← hh6, bdL, alL, e6, e9, ← hh11, stL, st1, st2, ldL, l1 (Same.refl _), q1, l1 sA, l2 sA, q2, m2, fvL, q3, m3, faL, ldEs, l3, q4, q5, List.nil_append, List.append_nil, ↓ret18, ↓cnd_true, ↓cnd_false, ↓Option.bind_some, ↓obH_some', bin_add, bin_sub, bin_mul, bin_lss, bin_leq, bin_gtr, bin_geq, bin_eql, bin_neq, un_not, un_neg, Option.bind_some, Option.bind_none, Option.map_some, cnd_true, cnd_false, pickV_true, pickV_false, gd_true, gd_false, gdV_true, gdV_false, gdH_true, gdH_false, gdS_true, gdS_false, wt_ff, wt_tt, wt_ft, wt_tf, wt_undef, obH_some', extractV_tuple, nilCheckV_ptr, againK_normal, againK_exit, againK_ret, blockK_normal, blockK_same, blockK_ret, seqK_normal, seqK_exit, seqK_ret, fin_done, if_true', if_false', Bool.not_true, Bool.not_false, idx0, idx1, idx2, idx3, idx4, chk_nil_l, chk_nil_r, done_nm, up_cons, up_nil, cond_true, cond_false, Nat.reduceBEq]
theorem reads_ent {h : Heap} {f : Nat} {cs : List Value} {d : DT} (x : Reads Try.prog h f 57 cs d) : ∃ e : E3, cs = entC e ∧ e.n < 2 ^ 64 ∧ e.t < 2 ^ 64 ∧ -2 ^ 63 ≤ e.f ∧ e.f < 2 ^ 63 := by
  obtain ⟨g, l, rfl, hlen, ha⟩ := reads_struct Try.underlying57 x
  rw [show Try.prog.cellsOf 57 = 3 by kernel_rfl] at hlen
  obtain ⟨d0, m0, a0⟩ := ha.get (i := 0) rfl
  obtain ⟨d1, m1, a1⟩ := ha.get (i := 1) rfl
  obtain ⟨d2, m2, a2⟩ := ha.get (i := 2) rfl
  match cs, hlen with
  | [u, v, w], _ =>
    obtain ⟨n0, _, h0, w0⟩ := reads_int (k := .i64) Try.underlying3 a0
    obtain ⟨n1, _, h1, w1⟩ := reads_int (k := .u64) Try.underlying35 a1
    obtain ⟨n2, _, h2, w2⟩ := reads_int (k := .u64) Try.underlying55 a2
    simp [show Try.prog.cellsOf 3 = 1 by kernel_rfl] at h0
    simp [show Try.prog.cellsOf 35 = 1 by kernel_rfl] at h1
    simp [show Try.prog.cellsOf 55 = 1 by kernel_rfl] at h2
    have b0 := wf_i64 w0
    have b1 := wf_nat (k := .u64) rfl w1
    have b2 := wf_nat (k := .u64) rfl w2
    simp only [IntKind.bits] at b1 b2
    refine ⟨⟨n0, n1.toNat, n2.toNat⟩, ?_, by simp; omega, by simp; omega, b0.1, b0.2⟩
    simp only [entC]
    rw [h0, h1, h2, Int.toNat_of_nonneg b1.1, Int.toNat_of_nonneg b2.1]
theorem flat_ents {h : Heap} {f : Nat} {css : List (List Value)} {l : List DT} (a : All2 (fun c d => c.length = Try.prog.cellsOf 57 ∧ Reads Try.prog h f 57 c d) css l) : ∃ es : List E3, es.length = l.length ∧ css.flatten = entL es ∧ wide es := by
  induction a with
  | nil => exact ⟨[], rfl, rfl, fun e he => (List.not_mem_nil he).elim⟩
  | cons x _ ih =>
    obtain ⟨es, h1, h2, h3⟩ := ih
    obtain ⟨e, rfl, w1, w2, _⟩ := reads_ent x.2
    refine ⟨e :: es, by simp [h1], by rw [List.flatten_cons, h2]; rfl, fun z hz => ?_⟩
    rcases List.mem_cons.1 hz with rfl | hz
    · exact ⟨w1, w2⟩
    · exact h3 z hz
theorem Rd.ents {h : Heap} {v : Value} {d : DT} (r : Rd Try.prog h 45 v d) : ∃ es, SE h v es ∧ wide es := by
  obtain ⟨f, l, css, rfl, h1, h2, h3⟩ := r.slice Try.underlying45
  obtain ⟨es, g1, g2, g3⟩ := flat_ents h2
  rw [g2, show Try.prog.cellsOf 57 = 3 by kernel_rfl, ← g1] at h1
  exact ⟨es, h1, g3⟩
end Go.Am
namespace Go.Am
open Go.Proofs
set_option maxRecDepth 100000
set_option linter.all false
attribute [local congr] obind_congr obH_congr cnd_congr chk_congr retK_congr codeK_congr
theorem outB_bit (n w i : Nat) (hn : n < 2 ^ 64) (hw : w < 2 ^ 64) : (outB n w).testBit i = (n.testBit i && !w.testBit i) := by
  unfold outB
  rw [Nat.testBit_and, show 2 ^ 64 - 1 - w = 2 ^ 64 - (w + 1) by omega, Nat.testBit_two_pow_sub_succ hw]
  rcases Nat.lt_or_ge i 64 with h | h
  · simp [h]
  · rw [Nat.testBit_lt_two_pow (Nat.lt_of_lt_of_le hn (Nat.pow_le_pow_right (by omega) h))]; rfl
theorem less1 (t to : Nat) (ht : t < 2 ^ 64) (hto : to < 2 ^ 64) : outB t to &&& to = 0 := by
  apply Nat.eq_of_testBit_eq
  intro i
  rw [Nat.testBit_and, outB_bit t to i ht hto, Nat.zero_testBit]
  cases t.testBit i <;> cases to.testBit i <;> rfl
theorem less2 (t to d : Nat) (ht : t < 2 ^ 64) (hto : to < 2 ^ 64) (hd : d < 2 ^ 64) : outB (outB t (outB to d) &&& to) d = 0 := by
  apply Nat.eq_of_testBit_eq
  intro i
  have h1 := outB_lt (b := d) hto
  have h2 := outB_lt (b := outB to d) ht
  rw [outB_bit _ d i (Nat.lt_of_le_of_lt Nat.and_le_left h2) hd, Nat.testBit_and, outB_bit t _ i ht h1, outB_bit to d i hto hd, Nat.zero_testBit]
  cases t.testBit i <;> cases to.testBit i <;> cases d.testBit i <;> rfl
theorem less3 (t to d : Nat) (ht : t < 2 ^ 64) (hto : to < 2 ^ 64) (hd : d < 64) : hasB (outB t (outB to (2 ^ d))) d = hasB t d := by
  unfold hasB
  have h2 : 2 ^ d < 2 ^ 64 := Nat.pow_lt_pow_right (by omega) hd
  rw [Int.toNat_natCast, outB_bit t _ d ht (outB_lt hto), outB_bit to _ d hto h2, Nat.testBit_two_pow_self]
  cases t.testBit d <;> cases to.testBit d <;> rfl
theorem less4 (t to : Nat) (ht : t < 2 ^ 64) (hto : to < 2 ^ 64) : outB (outB t to) t = 0 := by
  apply Nat.eq_of_testBit_eq
  intro i
  rw [outB_bit _ t i (outB_lt ht) ht, outB_bit t to i ht hto, Nat.zero_testBit]
  cases t.testBit i <;> cases to.testBit i <;> rfl
theorem bnB (xo yo : Operand) (a b : Bool) : binV Try.prog .neq 4 xo yo (.bool a) (.bool b) = some (.bool (!(a == b))) := bin_bneq _ _ _ _ (by cases a <;> cases b <;> kernel_rfl)
theorem tl_loop {h0 h1 : Heap} {v w u : Value} {es : List E3} {p9 p10 to d : Nat} (s : SE h1 v es) (s2 : SE h1 w (es.map (lessF to))) (s3 : SE h1 u (es.map (lessF (outB to (2 ^ d))))) (hw : wide es) (hto : to < 2 ^ 64) (hd : d < 16) (hl : es.length ≤ 40) (hn : h0.blks.length ≤ h1.blks.length) (c1 : Cells h1 p9 47 [w]) (c2 : Cells h1 p10 47 [u]) :
    ∀ (m i : Nat), es.length - i = m → i ≤ es.length → ∀ (x : Nat → Value) (h : Heap),In h0.blks.length No (nm h0) h → Same h1 h → x 0 = v → x 2 = .int .i64 d → x 8 = .int .u64 to → x 9 = .pointer (some ⟨p9, 0, none⟩) → x 10 = .pointer (some ⟨p10, 0, none⟩) → x 11 = .int .i64 i →
    ∃ h', lK c6_1 117 x h (blockK 0 (sK c6_2 (retK Try.f6 Try.prog h0))) = some (.bool true, h') := by
  intro m
  obtain ⟨va, vc, rfl⟩ := s.shape
  induction m with
  | zero =>
    intro i e1 e2 x h hin hs Aa Ac Ai Aj Ak Al
    obtain rfl : i = es.length := by omega
    rw [lK_eq]
    simp -implicitDefEqProofs (disch := omega) only [↓c6_1_eq, ↓c6_2_eq, ↓c6_3_eq, ↓c6_4_eq, ↓c6_5_eq, ↓c6_6_eq, ↓c6_7_eq, ↓c6_8_eq, ↓c6_9_eq,Aa,Al, lnEs, dcF, ↓ret6, ↓cnd_true, ↓cnd_false, ↓Option.bind_some, ↓obH_some', bin_add, bin_sub, bin_mul, bin_lss, bin_leq, bin_gtr, bin_geq, bin_eql, bin_neq, un_not, un_neg, Option.bind_some, Option.bind_none, Option.map_some, cnd_true, cnd_false, pickV_true, pickV_false, gd_true, gd_false, gdV_true, gdV_false, gdH_true, gdH_false, gdS_true, gdS_false, wt_ff, wt_tt, wt_ft, wt_tf, wt_undef, obH_some', extractV_tuple, nilCheckV_ptr, againK_normal, againK_exit, againK_ret, blockK_normal, blockK_same, blockK_ret, seqK_normal, seqK_exit, seqK_ret, fin_done, if_true', if_false', Bool.not_true, Bool.not_false, idx0, idx1, idx2, idx3, idx4, chk_nil_l, chk_nil_r, done_nm, up_cons, up_nil, cond_true, cond_false, Nat.reduceBEq]
    exact ⟨_, rfl⟩
  | succ m ih =>
    intro i hm hi x h hin hs Aa Ac Ai Aj Ak Al
    have hil : i < es.length := by omega
    have hil2 : i < (es.map (lessF to)).length := by simpa using hil
    have hil3 : i < (es.map (lessF (outB to (2 ^ d)))).length := by simpa using hil
    obtain ⟨b, of, hb, hbl, e1, e2⟩ := s.at' (t := 45) (el := 57) (by kernel_rfl) (by kernel_rfl) hil
    obtain ⟨b2, of2, hb2, hbl2, e12, e22⟩ := s2.at' (t := 45) (el := 57) (by kernel_rfl) (by kernel_rfl) hil2
    obtain ⟨b3, of3, hb3, hbl3, e13, e23⟩ := s3.at' (t := 45) (el := 57) (by kernel_rfl) (by kernel_rfl) hil3
    have wt := (hw es[i] (List.getElem_mem hil)).2
    have hd2 : 2 ^ d < 2 ^ 64 := Nat.pow_lt_pow_right (by omega) (by omega)
    have hd3 := outB_lt (b := 2 ^ d) hto
    have g2 : (es.map (lessF to))[i].t = outB es[i].t to := by rw [List.getElem_map]; rfl
    have g3 : (es.map (lessF (outB to (2 ^ d))))[i].t = outB es[i].t (outB to (2 ^ d)) := by rw [List.getElem_map]; rfl
    have t2 := outB_lt (b := to) wt
    have t3 := outB_lt (b := outB to (2 ^ d)) wt
    have f2 := (e22 h (hs.2 b2 hbl2)).2.2.2
    rw [g2] at f2
    have f3 := (e23 h (hs.2 b3 hbl3)).2.2.2
    rw [g3] at f3
    have lw : h.load1 p9 0 = some w := (c1.same hs).load 0
    have lu : h.load1 p10 0 = some u := (c2.same hs).load 0
    have hsN := hs.trans (Same.new h (.cells [.int .i64 d]) 3)
    have hinN := hin.trans (In.new (S := No) (Nat.le_trans hin.le hin.len) (.cells [.int .i64 d]) 3)
    have eO := spec_Of1 (c := 1) (h := nm (h.new (.cells [.int .i64 (d : Int)]) 3)) (d := d) (Cells.new h 3 [.int .i64 (d : Int)])
    have ofd : ofN (d : Int) = 2 ^ d := by unfold ofN; rw [if_pos (by omega)]; rfl
    rw [ofd] at eO
    have f1' := (e2 (h.new (.cells [.int .i64 d]) 3) (hsN.2 b hbl)).2.2.2
    have f2' := (e22 (h.new (.cells [.int .i64 d]) 3) (hsN.2 b2 hbl2)).2.2.2
    rw [g2] at f2'
    have f3' := (e23 (h.new (.cells [.int .i64 d]) 3) (hsN.2 b3 hbl3)).2.2.2
    rw [g3] at f3'
    have lw' : (h.new (.cells [.int .i64 d]) 3).load1 p9 0 = some w := (c1.same hsN).load 0
    have lu' : (h.new (.cells [.int .i64 d]) 3).load1 p10 0 = some u := (c2.same hsN).load 0
    have a1 := fun t xo yo => anU t xo yo (outB es[i].t to) to t2 hto
    rw [less1 _ _ wt hto] at a1
    have a2 := fun t xo yo => anU t xo yo (outB es[i].t (outB to (2 ^ d))) to t3 hto
    have a3 := fun t xo yo => anS t xo yo (outB es[i].t (outB to (2 ^ d)) &&& to) (2 ^ d) (Nat.lt_of_le_of_lt Nat.and_le_left t3) hd2
    rw [less2 _ _ _ wt hto hd2] at a3
    have q1 := fun h => spec_Has (outB es[i].t (outB to (2 ^ d))) t3 d h
    have q2 := fun h => spec_Has es[i].t wt d h
    rw [less3 _ _ _ wt hto (by omega)] at q1
    have q3 := fun h => spec_Within (outB es[i].t to) es[i].t t2 wt h
    rw [less4 _ _ wt hto] at q3
    have bb : (!(hasB es[i].t (d : Int) == hasB es[i].t (d : Int))) = false := by cases hasB es[i].t (d : Int) <;> rfl
    have z0 : ((0 : Nat) : Int) = 0 := rfl
    have wi : IntKind.i64.wrap ((i : Int) + 1) = ((i + 1 : Nat) : Int) := by rw [wrap_i64] <;> omega
    rw [lK_eq]
    simp -implicitDefEqProofs (disch := omega) only [↓c6_1_eq, ↓c6_2_eq, ↓c6_3_eq, ↓c6_4_eq, ↓c6_5_eq, ↓c6_6_eq, ↓c6_7_eq, ↓c6_8_eq, ↓c6_9_eq, ↓d6_0_0, ↓d6_0_1, ↓d6_0_2, ↓d6_0_3, ↓d6_0_4, ↓d6_0_5, ↓d6_0_6, ↓d6_0_7, ↓d6_0_8, ↓d6_0_9, ↓d6_0_10, ↓d6_0_11, ↓d6_0_12, ↓d6_0_13, ↓d6_0_14, ↓d6_0_15, ↓d6_0_16, ↓d6_0_17, ↓d6_0_18, ↓d6_0_19, ↓d6_0_20, ↓d6_0_21, ↓d6_0_22, ↓d6_0_23, ↓d6_0_24, ↓d6_0_25, ↓d6_0_26, ↓d6_0_27, ↓d6_0_28, ↓d6_0_29, ↓d6_0_30, ↓d6_0_31, ↓d6_0_32, ↓d6_0_33, ↓d6_0_34, ↓d6_0_35, ↓d6_0_36, ↓d6_0_37, ↓d6_0_38, ↓d6_0_39, ↓d6_0_40, ↓d6_0_41, ↓d6_0_42, ↓d6_0_43, ↓d6_0_44, ↓d6_0_45, ↓d6_0_46, ↓d6_0_47, ↓d6_0_48, ↓d6_0_49, ↓d6_0_50, ↓d6_0_51, ↓d6_0_52, ↓d6_0_53, ↓d6_0_54, ↓d6_0_55, ↓d6_0_56, ↓d6_0_57,Aa,Ac,Ai,Aj,Ak,Al, lnEs, dcT, dcF, faL, ldEs, lw, lu, e12, e13, e1, faE2, ldS, f2, f3, a1, z0, ne_eq, not_true_eq_false, decide_false, a2, lsI1, eO, a3, lw', lu', f1', f2', f3', am_nm, nm_mods, List.nil_append, List.append_nil, q1, q2, bnB, bb, q3, decide_true, wi, ↓cnd_true, ↓cnd_false, ↓Option.bind_some, ↓obH_some', bin_add, bin_sub, bin_mul, bin_lss, bin_leq, bin_gtr, bin_geq, bin_eql, bin_neq, un_not, un_neg, Option.bind_some, Option.bind_none, Option.map_some, cnd_true, cnd_false, pickV_true, pickV_false, gd_true, gd_false, gdV_true, gdV_false, gdH_true, gdH_false, gdS_true, gdS_false, wt_ff, wt_tt, wt_ft, wt_tf, wt_undef, obH_some', extractV_tuple, nilCheckV_ptr, againK_normal, againK_exit, againK_ret, blockK_normal, blockK_same, blockK_ret, seqK_normal, seqK_exit, seqK_ret, fin_done, if_true', if_false', Bool.not_true, Bool.not_false, idx0, idx1, idx2, idx3, idx4, chk_nil_l, chk_nil_r, done_nm, up_cons, up_nil, cond_true, cond_false, Nat.reduceBEq]
    refine ih (i + 1) (by omega) (by omega) _ _ hinN hsN ?_ ?_ ?_ ?_ ?_ ?_
    · exact Aa
    · exact Ac
    · exact Ai
    · exact Aj
    · exact Ak
    · rfl
theorem law_TrimLess (h : Heap) (vs : List Value) (dd : List DT) (r : RdAll Try.prog h [45, 35, 3] vs dd) : ∃ h', evC Try.prog 6 vs.toArray h = some (.bool true, h') := by
  obtain ⟨v, d0, vs1, ds1, rfl, rfl, rv, r⟩ := r.cons_inv
  obtain ⟨tv, d1, vs2, ds2, rfl, rfl, rt, r⟩ := r.cons_inv
  obtain ⟨dv, d2, vs3, ds3, rfl, rfl, rd, r⟩ := r.cons_inv
  obtain ⟨rfl, rfl⟩ := r.nil_inv
  obtain ⟨es, s, hw⟩ := rv.ents
  obtain ⟨to, rfl, hto⟩ := rt.u64 Try.underlying35
  obtain ⟨d, rfl, hd1, hd2⟩ := rd.i64 Try.underlying3
  show ∃ h', evC Try.prog 6 #[v, .int .u64 to, .int .i64 d] h = _
  rw [call6]
  obtain ⟨va, vc, rfl⟩ := s.shape
  obtain ⟨h1, q1,Ab⟩ := spec_awake18 (nm h)
  have k1 : In h.blks.length No (nm h) h1 := Ab.inn (Nat.le_refl h.blks.length)
  have s1 : SE h1 (.slice va es.length vc) es := s.nm.ext Ab
  have hx1 : h.blks.length ≤ h1.blks.length := Ab.len
  have c2 := Cells.new h1 47 [.slice none 0 0]
  have st2 := storeN_blk c2 (o := 0) (vs := [.slice va es.length vc]) (by simp)
  simp only [List.take_zero, List.nil_append, List.append_nil, List.length_cons, List.length_nil, List.drop_succ_cons, List.drop_zero, Nat.zero_add] at st2
  have d2 := c2.put [.slice va es.length vc]
  have k2 : In h.blks.length No (nm h) ((h1.new (.cells [.slice none 0 0]) 47).put h1.blks.length (.cells [.slice va es.length vc])) := (k1.trans (In.new hx1 _ _)).trans (In.put (by simp [Heap.new]; omega) (.inl hx1) _)
  have s2 : SE ((h1.new (.cells [.slice none 0 0]) 47).put h1.blks.length (.cells [.slice va es.length vc])) (.slice va es.length vc) es := (s1.keepNew _ _).keepPut (fun e => by have := s1.lt e; omega) _
  generalize hh2 : (h1.new (.cells [.slice none 0 0]) 47).put h1.blks.length (.cells [.slice va es.length vc]) = h2 at d2 k2 s2 st2
  have l2 : ∀ {h' : Heap}, Same h2 h' → (h'.loadN h1.blks.length 0 1).map (fun cs => Value.agg cs.toArray) = some (.agg #[.slice va es.length vc]) := fun hs => by rw [(d2.same hs).loadN (n := 1) rfl]; rfl
  by_cases h40 : es.length ≤ 40
  · obtain ⟨h3, q3,Ad⟩ := spec_Good s2 hw (by omega)
    cases hg : goodE es with
    | false =>
      rw [hg] at q3
      simp -implicitDefEqProofs (disch := omega) only [↓c6_0_eq, q1, bdL, alL, stL, st2, lnEs, dcF, ldL, l2 (Same.refl _), q3, ↓ret6, ↓cnd_true, ↓cnd_false, ↓Option.bind_some, ↓obH_some', bin_add, bin_sub, bin_mul, bin_lss, bin_leq, bin_gtr, bin_geq, bin_eql, bin_neq, un_not, un_neg, Option.bind_some, Option.bind_none, Option.map_some, cnd_true, cnd_false, pickV_true, pickV_false, gd_true, gd_false, gdV_true, gdV_false, gdH_true, gdH_false, gdS_true, gdS_false, wt_ff, wt_tt, wt_ft, wt_tf, wt_undef, obH_some', extractV_tuple, nilCheckV_ptr, againK_normal, againK_exit, againK_ret, blockK_normal, blockK_same, blockK_ret, seqK_normal, seqK_exit, seqK_ret, fin_done, if_true', if_false', Bool.not_true, Bool.not_false, idx0, idx1, idx2, idx3, idx4, chk_nil_l, chk_nil_r, done_nm, up_cons, up_nil, cond_true, cond_false, Nat.reduceBEq]
      exact ⟨_, rfl⟩
    | true =>
      rw [hg] at q3
      by_cases hd0 : d < 0
      · simp -implicitDefEqProofs (disch := omega) only [↓c6_0_eq, q1, bdL, alL, stL, st2, lnEs, dcT, dcF, ldL, l2 (Same.refl _), q3, ↓ret6, ↓cnd_true, ↓cnd_false, ↓Option.bind_some, ↓obH_some', bin_add, bin_sub, bin_mul, bin_lss, bin_leq, bin_gtr, bin_geq, bin_eql, bin_neq, un_not, un_neg, Option.bind_some, Option.bind_none, Option.map_some, cnd_true, cnd_false, pickV_true, pickV_false, gd_true, gd_false, gdV_true, gdV_false, gdH_true, gdH_false, gdS_true, gdS_false, wt_ff, wt_tt, wt_ft, wt_tf, wt_undef, obH_some', extractV_tuple, nilCheckV_ptr, againK_normal, againK_exit, againK_ret, blockK_normal, blockK_same, blockK_ret, seqK_normal, seqK_exit, seqK_ret, fin_done, if_true', if_false', Bool.not_true, Bool.not_false, idx0, idx1, idx2, idx3, idx4, chk_nil_l, chk_nil_r, done_nm, up_cons, up_nil, cond_true, cond_false, Nat.reduceBEq]
        exact ⟨_, rfl⟩
      · by_cases hd3 : d > 15
        · simp -implicitDefEqProofs (disch := omega) only [↓c6_0_eq, q1, bdL, alL, stL, st2, lnEs, dcT, dcF, ldL, l2 (Same.refl _), q3, ↓ret6, ↓cnd_true, ↓cnd_false, ↓Option.bind_some, ↓obH_some', bin_add, bin_sub, bin_mul, bin_lss, bin_leq, bin_gtr, bin_geq, bin_eql, bin_neq, un_not, un_neg, Option.bind_some, Option.bind_none, Option.map_some, cnd_true, cnd_false, pickV_true, pickV_false, gd_true, gd_false, gdV_true, gdV_false, gdH_true, gdH_false, gdS_true, gdS_false, wt_ff, wt_tt, wt_ft, wt_tf, wt_undef, obH_some', extractV_tuple, nilCheckV_ptr, againK_normal, againK_exit, againK_ret, blockK_normal, blockK_same, blockK_ret, seqK_normal, seqK_exit, seqK_ret, fin_done, if_true', if_false', Bool.not_true, Bool.not_false, idx0, idx1, idx2, idx3, idx4, chk_nil_l, chk_nil_r, done_nm, up_cons, up_nil, cond_true, cond_false, Nat.reduceBEq]
          exact ⟨_, rfl⟩
        · obtain ⟨dn, rfl⟩ : ∃ n : Nat, d = n := ⟨d.toNat, by omega⟩
          have sm3 := Ad.same
          obtain ⟨a4, c4, h4, q4,Ae, r4⟩ := spec_Less (h := nm h3) (s2.same sm3).nm hw (by omega) to hto
          obtain ⟨Ae', m4⟩ := Ae.amx
          have sm4 := sm3.trans Ae'.same
          have le1 : lessE es to = es.map (lessF to) := by unfold lessE; rw [hg]; rfl
          have le2 : lessE es (outB to (ofN (dn : Int))) = es.map (lessF (outB to (2 ^ dn))) := by
            have : ofN (dn : Int) = 2 ^ dn := by unfold ofN; rw [if_pos (by omega)]; rfl
            rw [this]; unfold lessE; rw [hg]; rfl
          obtain ⟨a5, c5, h5, q5,Af, r5⟩ := spec_But (h := nm (am h4 h3)) (s2.same sm4).nm hw (by omega) to hto (dn : Int)
          obtain ⟨Af', m5⟩ := Af.amx
          have sm5 := sm4.trans Af'.same
          rw [le1] at r4
          rw [le2] at r5
          have e4 : SE (am h5 (am h4 h3)) (.slice a4 (es.map (lessF to)).length c4) (es.map (lessF to)) := by
            rw [List.length_map]
            have := AE.se r4
            rw [SE, List.length_map] at this
            rw [SE, List.length_map]
            exact Sl.ext (Sl.keep (h' := am h4 h3) this fun _ _ _ => rfl) Af'
          have e5 : SE (am h5 (am h4 h3)) (.slice a5 (es.map (lessF (outB to (2 ^ dn)))).length c5) (es.map (lessF (outB to (2 ^ dn)))) := by
            rw [List.length_map]
            have := AE.se r5
            rw [SE, List.length_map] at this
            rw [SE, List.length_map]
            exact Sl.keep this fun _ _ _ => rfl
          rw [List.length_map] at e4 e5
          have hl2 : h.blks.length ≤ h2.blks.length := Nat.le_trans k2.le k2.len
          have hx3 := Ad.len
          have hx4 := Ae'.len
          have hx5 := Af'.len
          have k5 := ((k2.trans (Ad.inn hl2)).trans (Ae'.inn (by omega))).trans (Af'.inn (by omega))
          have s5 := s2.same sm5
          generalize hh5 : am h5 (am h4 h3) = h6 at e4 e5 k5 s5 hx5 sm5
          have b4 := Sl.lo e4
          have b5 := Sl.lo e5
          have b0 := s5.lo
          have cA := (Cells.new h6 47 [.slice none 0 0]).keepNew (.cells [.slice none 0 0]) 47
          have cB := Cells.new (h6.new (.cells [.slice none 0 0]) 47) 47 [.slice none 0 0]
          have n7 : (h6.new (.cells [.slice none 0 0]) 47).blks.length = h6.blks.length + 1 := by simp [Heap.new]
          rw [n7] at cB
          have n8 : ((h6.new (.cells [.slice none 0 0]) 47).new (.cells [.slice none 0 0]) 47).blks.length = h6.blks.length + 2 := by simp [Heap.new]
          have k8 : In h.blks.length No (nm h) ((h6.new (.cells [.slice none 0 0]) 47).new (.cells [.slice none 0 0]) 47) := (k5.trans (In.new (by omega) _ _)).trans (In.new (by omega) _ _)
          have s8 := (s5.keepNew (.cells [.slice none 0 0]) 47).keepNew (.cells [.slice none 0 0]) 47
          have e48 := (Sl.keepNew e4 (.cells [.slice none 0 0]) 47).keepNew (.cells [.slice none 0 0]) 47
          have e58 := (Sl.keepNew e5 (.cells [.slice none 0 0]) 47).keepNew (.cells [.slice none 0 0]) 47
          generalize hh8 : (h6.new (.cells [.slice none 0 0]) 47).new (.cells [.slice none 0 0]) 47 = h8 at cA cB n8 k8 s8 e48 e58
          have stA := storeN_blk cA (o := 0) (vs := [.slice a4 es.length c4]) (by simp)
          have dA := cA.put [.slice a4 es.length c4]
          have dB : Cells (h8.put h6.blks.length (.cells [.slice a4 es.length c4])) (h6.blks.length + 1) 47 [.slice none 0 0] := cB.keepPut (by omega) _
          have stB := storeN_blk dB (o := 0) (vs := [.slice a5 es.length c5]) (by simp)
          simp only [List.take_zero, List.nil_append, List.append_nil, List.length_cons, List.length_nil, List.drop_succ_cons, List.drop_zero, Nat.zero_add] at stA stB
          have fA : Cells ((h8.put h6.blks.length (.cells [.slice a4 es.length c4])).put (h6.blks.length + 1) (.cells [.slice a5 es.length c5])) h6.blks.length 47 [.slice a4 es.length c4] := dA.keepPut (by omega) _
          have fB := dB.put [.slice a5 es.length c5]
          have k9 : In h.blks.length No (nm h) ((h8.put h6.blks.length (.cells [.slice a4 es.length c4])).put (h6.blks.length + 1) (.cells [.slice a5 es.length c5])) := (k8.trans (In.put (by omega) (.inl (by omega)) _)).trans (In.put (by rw [Heap.put_len]; omega) (.inl (by omega)) _)
          have s9 : SE ((h8.put h6.blks.length (.cells [.slice a4 es.length c4])).put (h6.blks.length + 1) (.cells [.slice a5 es.length c5])) (.slice va es.length vc) es := (Sl.keepPut s8 (fun e => by have := b0 _ e; omega) _).keepPut (fun e => by have := b0 _ e; omega) _
          have e49 : SE ((h8.put h6.blks.length (.cells [.slice a4 es.length c4])).put (h6.blks.length + 1) (.cells [.slice a5 es.length c5])) (.slice a4 es.length c4) (es.map (lessF to)) := (Sl.keepPut e48 (fun e => by have := b4 _ e; omega) _).keepPut (fun e => by have := b4 _ e; omega) _
          have e59 : SE ((h8.put h6.blks.length (.cells [.slice a4 es.length c4])).put (h6.blks.length + 1) (.cells [.slice a5 es.length c5])) (.slice a5 es.length c5) (es.map (lessF (outB to (2 ^ dn)))) := (Sl.keepPut e58 (fun e => by have := b5 _ e; omega) _).keepPut (fun e => by have := b5 _ e; omega) _
          have lA : ((h8.put h6.blks.length (.cells [.slice a4 es.length c4])).put (h6.blks.length + 1) (.cells [.slice a5 es.length c5])).load1 h6.blks.length 0 = some (.slice a4 es.length c4) := fA.load 0
          have lB : ((h8.put h6.blks.length (.cells [.slice a4 es.length c4])).put (h6.blks.length + 1) (.cells [.slice a5 es.length c5])).load1 (h6.blks.length + 1) 0 = some (.slice a5 es.length c5) := fB.load 0
          have lp := tl_loop (h0 := h) s9 e49 e59 hw hto (by omega) h40 (Nat.le_trans k9.le k9.len) fA fB es.length 0 (by omega) (by omega)
          have nn : decide ((es.length : Int) ≠ (es.length : Int)) = false := decide_eq_false (fun h => h rfl)
          simp -implicitDefEqProofs (disch := omega) only [↓c6_0_eq, q1, bdL, alL, stL, st2, lnEs, dcT, dcF, ldL, l2 (Same.refl _), q3, l2 sm3, q4, m4, l2 sm4, q5, m5, hh5, n7, hh8, stA, stB, faL, ldEs, lA, lB, nn, List.nil_append, List.append_nil, ↓cnd_true, ↓cnd_false, ↓Option.bind_some, ↓obH_some', bin_add, bin_sub, bin_mul, bin_lss, bin_leq, bin_gtr, bin_geq, bin_eql, bin_neq, un_not, un_neg, Option.bind_some, Option.bind_none, Option.map_some, cnd_true, cnd_false, pickV_true, pickV_false, gd_true, gd_false, gdV_true, gdV_false, gdH_true, gdH_false, gdS_true, gdS_false, wt_ff, wt_tt, wt_ft, wt_tf, wt_undef, obH_some', extractV_tuple, nilCheckV_ptr, againK_normal, againK_exit, againK_ret, blockK_normal, blockK_same, blockK_ret, seqK_normal, seqK_exit, seqK_ret, fin_done, if_true', if_false', Bool.not_true, Bool.not_false, idx0, idx1, idx2, idx3, idx4, chk_nil_l, chk_nil_r, done_nm, up_cons, up_nil, cond_true, cond_false, Nat.reduceBEq]
          refine lp _ _ k9 (Same.refl _) ?_ ?_ ?_ ?_ ?_ ?_
          all_goals rfl
  · simp -implicitDefEqProofs (disch := omega) only [↓c6_0_eq, q1, bdL, alL, stL, st2, lnEs, dcT, ↓ret6, ↓cnd_true, ↓cnd_false, ↓Option.bind_some, ↓obH_some', bin_add, bin_sub, bin_mul, bin_lss, bin_leq, bin_gtr, bin_geq, bin_eql, bin_neq, un_not, un_neg, Option.bind_some, Option.bind_none, Option.map_some, cnd_true, cnd_false, pickV_true, pickV_false, gd_true, gd_false, gdV_true, gdV_false, gdH_true, gdH_false, gdS_true, gdS_false, wt_ff, wt_tt, wt_ft, wt_tf, wt_undef, obH_some', extractV_tuple, nilCheckV_ptr, againK_normal, againK_exit, againK_ret, blockK_normal, blockK_same, blockK_ret, seqK_normal, seqK_exit, seqK_ret, fin_done, if_true', if_false', Bool.not_true, Bool.not_false, idx0, idx1, idx2, idx3, idx4, chk_nil_l, chk_nil_r, done_nm, up_cons, up_nil, cond_true, cond_false, Nat.reduceBEq]
    exact ⟨_, rfl⟩
end Go.Am
namespace Go.Am
theorem key_eq {x y : E3} (h1 : ¬ ltE x y) (h2 : ¬ ltE y x) : x.f = y.f ∧ x.n = y.n := by unfold ltE at *; omega
theorem srt_key {es : List E3} (h : Srt es) {x y : E3} (hx : x ∈ es) (hy : y ∈ es) (hf : x.f = y.f) (hn : x.n = y.n) : x = y := by
  obtain ⟨i, hi, rfl⟩ := List.getElem_of_mem hx
  obtain ⟨j, hj, rfl⟩ := List.getElem_of_mem hy
  rcases Nat.lt_trichotomy i j with h1 | h1 | h1
  · have := List.pairwise_iff_getElem.1 h i j hi hj h1; unfold ltE at this; omega
  · subst h1; rfl
  · have := List.pairwise_iff_getElem.1 h j i hj hi h1; unfold ltE at this; omega
theorem bsK_le (es : List E3) (t : E3) : bsK es t ≤ es.length := List.Sublist.length_le (List.takeWhile_sublist _)
theorem bs_true {es : List E3} {t : E3} (h : bsF es t = true) : ∃ z, es[bsK es t]? = some z ∧ z ∈ es ∧ z.f = t.f ∧ z.n = t.n := by
  unfold bsF at h
  split at h
  · rename_i z hz
    have := (cmpE_eq _ _).1 (of_decide_eq_true h)
    exact ⟨z, hz, List.mem_of_getElem? hz, this.1, this.2⟩
  · cases h
theorem bs_of : ∀ {es : List E3} {t z : E3}, Srt es → z ∈ es → z.f = t.f → z.n = t.n → es[bsK es t]? = some z ∧ bsF es t = true
  | [], t, z, _, hz, _, _ => by cases hz
  | e :: es, t, z, hs, hz, hf, hn => by
    obtain ⟨h1, h2⟩ := List.pairwise_cons.1 hs
    rcases List.mem_cons.1 hz with rfl | hz'
    · have hc : ¬ cmpE z t < 0 := fun h => by have := (cmpE_lt _ _).1 h; unfold ltE at this; omega
      have h0 : bsK (z :: es) t = 0 := by simp [bsK, hc]
      have he : cmpE z t = 0 := (cmpE_eq _ _).2 ⟨hf, hn⟩
      refine ⟨by rw [h0]; rfl, ?_⟩
      unfold bsF
      rw [h0]
      simp [he]
    · have hlt : ltE e z := h1 z hz'
      have hc : cmpE e t < 0 := (cmpE_lt _ _).2 (by unfold ltE at *; omega)
      have hk : bsK (e :: es) t = bsK es t + 1 := by simp [bsK, hc]
      obtain ⟨g1, g2⟩ := bs_of h2 hz' hf hn
      refine ⟨by rw [hk]; simpa using g1, ?_⟩
      unfold bsF at g2 ⊢
      rw [hk]
      simpa using g2
theorem bs_iff {es : List E3} (hs : Srt es) (t : E3) : bsF es t = true ↔ ∃ z ∈ es, z.f = t.f ∧ z.n = t.n :=
  ⟨fun h => let ⟨z, _, h1, h2, h3⟩ := bs_true h; ⟨z, h1, h2, h3⟩, fun ⟨_, h1, h2, h3⟩ => (bs_of hs h1 h2 h3).2⟩
theorem mem_both {es fs : List E3} (hf : Srt fs) (x : E3) : x ∈ bothE es fs ↔ ∃ y ∈ es, ∃ z ∈ fs, z.f = y.f ∧ z.n = y.n ∧ x = { y with t := y.t &&& z.t } := by
  unfold bothE
  rw [List.mem_filterMap]
  constructor
  · rintro ⟨y, hy, h⟩
    unfold bothF at h
    split at h
    · rename_i hb
      obtain ⟨z, h1, h2, h3, h4⟩ := bs_true hb
      rw [List.getD_eq_getElem?_getD, h1] at h
      cases h
      exact ⟨y, hy, z, h2, h3, h4, rfl⟩
    · cases h
  · rintro ⟨y, hy, z, hz, h1, h2, rfl⟩
    obtain ⟨g1, g2⟩ := bs_of hf hz h1 h2
    refine ⟨y, hy, ?_⟩
    unfold bothF
    rw [if_pos g2, List.getD_eq_getElem?_getD, g1]
    rfl
theorem mem_news {es fs : List E3} (hf : Srt fs) {x : E3} (h : x ∈ newsE es fs) : x ∈ es ∧ ¬ ∃ z ∈ fs, z.f = x.f ∧ z.n = x.n := by
  unfold newsE at h
  rw [List.mem_filter] at h
  obtain ⟨h1, h2⟩ := h
  simp only [Bool.and_eq_true, Bool.not_eq_true'] at h2
  exact ⟨h1, fun hz => by rw [(bs_iff hf x).2 hz] at h2; cases h2.1⟩
theorem srt_both {es fs : List E3} (he : Srt es) : Srt (bothE es fs) := by
  unfold bothE
  refine List.pairwise_filterMap.2 (he.imp fun {a b} hab x hx y hy => ?_)
  unfold bothF at hx hy
  split at hx
  · split at hy
    · cases hx; cases hy
      unfold ltE at *
      exact hab
    · cases hy
  · cases hx
theorem join_dist {es fs : List E3} (he : Srt es) (hf : Srt fs) : (newsE es fs ++ newsE fs es ++ bothE es fs).Pairwise fun a b => ltE a b ∨ ltE b a := by
  have dif : ∀ {a b : E3}, ¬ (a.f = b.f ∧ a.n = b.n) → ltE a b ∨ ltE b a := fun {a b} h => by
    refine Classical.byContradiction fun hn => h ?_
    exact key_eq (fun h1 => hn (.inl h1)) (fun h1 => hn (.inr h1))
  have n1 : (newsE es fs).Pairwise fun a b => ltE a b ∨ ltE b a := (he.sublist List.filter_sublist).imp fun h => .inl h
  have n2 : (newsE fs es).Pairwise fun a b => ltE a b ∨ ltE b a := (hf.sublist List.filter_sublist).imp fun h => .inl h
  have n3 : (bothE es fs).Pairwise fun a b => ltE a b ∨ ltE b a := (srt_both he).imp fun h => .inl h
  refine List.pairwise_append.2 ⟨List.pairwise_append.2 ⟨n1, n2, fun a ha b hb => dif fun ⟨h1, h2⟩ => ?_⟩, n3, fun a ha b hb => dif fun ⟨h1, h2⟩ => ?_⟩
  · have g1 := mem_news hf ha
    have g2 := mem_news he hb
    exact g1.2 ⟨b, g2.1, h1.symm, h2.symm⟩
  · obtain ⟨y, hy, z, hz, h3, h4, rfl⟩ := (mem_both hf b).1 hb
    simp only at h1 h2
    rcases List.mem_append.1 ha with h | h
    · exact (mem_news hf h).2 ⟨z, hz, by omega, by omega⟩
    · exact (mem_news he h).2 ⟨y, hy, by omega, by omega⟩
theorem srt_join {es fs : List E3} (hg : goodE es = true) (hg2 : goodE fs = true) : goodE (joinE es fs) = true := by
  have h1 := (goodE_iff es).1 hg
  have h2 := (goodE_iff fs).1 hg2
  unfold joinE
  rw [if_pos ⟨hg, hg2⟩, goodE_iff]
  refine ⟨fun e he => ?_, srtE_srt (join_dist h1.2 h2.2)⟩
  have := (srtE_perm _).subset he
  rcases List.mem_append.1 this with h | h
  · rcases List.mem_append.1 h with h | h
    · exact h1.1 e (mem_news h2.2 h).1
    · exact h2.1 e (mem_news h1.2 h).1
  · obtain ⟨y, hy, z, hz, h3, h4, rfl⟩ := (mem_both h2.2 e).1 h
    have := h1.1 y hy
    unfold mayE at this ⊢
    simp only [Bool.and_eq_true, decide_eq_true_eq] at this ⊢
    exact ⟨this.1, this.2.1, this.2.2.1, Nat.lt_of_le_of_lt Nat.and_le_left this.2.2.2⟩
theorem srt_mem {a b : List E3} (ha : Srt a) (hb : Srt b) (h : ∀ x, x ∈ a ↔ x ∈ b) : a = b := by
  have nd : ∀ {l : List E3}, Srt l → l.Nodup := fun h => h.imp fun {a b} hab e => by subst e; exact ltE_irr a hab
  exact srt_unique ha hb ((List.perm_ext_iff_of_nodup (nd ha) (nd hb)).2 h)
theorem join_comm {es fs : List E3} (hg : goodE es = true) (hg2 : goodE fs = true) : joinE es fs = joinE fs es := by
  have h1 := ((goodE_iff es).1 hg).2
  have h2 := ((goodE_iff fs).1 hg2).2
  unfold joinE
  rw [if_pos ⟨hg, hg2⟩, if_pos ⟨hg2, hg⟩]
  refine srt_mem (srtE_srt (join_dist h1 h2)) (srtE_srt (join_dist h2 h1)) fun x => ?_
  rw [(srtE_perm _).mem_iff, (srtE_perm _).mem_iff]
  simp only [List.mem_append, mem_both h1, mem_both h2]
  have key : ∀ {a b : List E3}, (∃ y ∈ a, ∃ z ∈ b, z.f = y.f ∧ z.n = y.n ∧ x = { y with t := y.t &&& z.t }) → ∃ y ∈ b, ∃ z ∈ a, z.f = y.f ∧ z.n = y.n ∧ x = { y with t := y.t &&& z.t } := by
    rintro a b ⟨y, hy, z, hz, g1, g2, rfl⟩
    refine ⟨z, hz, y, hy, g1.symm, g2.symm, ?_⟩
    simp only [E3.mk.injEq]
    exact ⟨g1.symm, g2.symm, Nat.and_comm _ _⟩
  constructor
  · rintro ((h | h) | h)
    · exact .inl (.inr h)
    · exact .inl (.inl h)
    · exact .inr (key h)
  · rintro ((h | h) | h)
    · exact .inl (.inr h)
    · exact .inl (.inl h)
    · exact .inr (key h)
theorem join_self {es : List E3} (hg : goodE es = true) : joinE es es = es := by
  have h1 := ((goodE_iff es).1 hg).2
  unfold joinE
  rw [if_pos ⟨hg, hg⟩]
  have n0 : newsE es es = [] := List.eq_nil_iff_forall_not_mem.2 fun x hx => (mem_news h1 hx).2 ⟨x, (mem_news h1 hx).1, rfl, rfl⟩
  have b0 : bothE es es = es := by
    refine srt_mem (srt_both h1) h1 fun x => ?_
    rw [mem_both h1]
    constructor
    · rintro ⟨y, hy, z, hz, g1, g2, rfl⟩
      rw [srt_key h1 hz hy g1 g2, Nat.and_self]
      exact hy
    · intro hx
      exact ⟨x, hx, x, hx, rfl, rfl, by rw [Nat.and_self]⟩
  rw [n0, b0]
  exact srtE_id h1
theorem purgeL_fix : ∀ (l : List E3), (∀ (i : Nat) (h : i + 1 < l.length), l[i].t = 0 → l[i + 1].f ≠ l[i].f) → purgeL l = l
  | [], _ => rfl
  | [e], _ => rfl
  | e :: e' :: l, h => by
    have h0 := h 0 (by simp)
    have ih := purgeL_fix (e' :: l) (fun i hi => by have := h (i + 1) (by simpa using hi); simpa using this)
    rw [purgeL_two, if_pos, ih]
    by_cases h1 : e.t = 0
    · exact .inr (h0 h1)
    · exact .inl h1
end Go.Am
namespace Go.Am
open Go.Proofs
set_option maxRecDepth 100000
set_option linter.all false
attribute [local congr] obind_congr obH_congr cnd_congr chk_congr retK_congr codeK_congr
theorem purgeL_head : ∀ (e : E3) (l : List E3), ∃ x r, purgeL (e :: l) = x :: r ∧ x.f = e.f
  | e, [] => ⟨e, [], rfl, rfl⟩
  | e, e' :: l => by
    rw [purgeL_two]
    split
    · exact ⟨e, _, rfl, rfl⟩
    · rename_i h
      obtain ⟨x, r, h1, h2⟩ := purgeL_head e' l
      exact ⟨x, r, h1, h2.trans (Classical.byContradiction fun hn => h (.inr hn))⟩
theorem purgeL_next : ∀ (l : List E3) (i : Nat) (h : i + 1 < (purgeL l).length), (purgeL l)[i].t = 0 → (purgeL l)[i + 1].f ≠ (purgeL l)[i].f
  | [], i, h => by simp [purgeL] at h
  | [e], i, h => by simp [purgeL] at h
  | e :: e' :: l, i, h => by
    have key : ∀ (q : List E3), q = purgeL (e :: e' :: l) → ∀ (h : i + 1 < q.length), q[i].t = 0 → q[i + 1].f ≠ q[i].f := by
      intro q hq h
      rw [purgeL_two] at hq
      split at hq
      · rename_i hk
        subst hq
        cases i with
        | zero =>
          intro h0
          simp only [List.getElem_cons_zero, List.getElem_cons_succ] at h0 ⊢
          obtain ⟨x, r, h1, h2⟩ := purgeL_head e' l
          simp only [h1, List.getElem_cons_zero]
          rw [h2]
          exact hk.resolve_left fun hn => hn h0
        | succ i =>
          intro h0
          simp only [List.getElem_cons_succ] at h0 ⊢
          exact purgeL_next (e' :: l) i (by simpa using h) h0
      · subst hq
        exact purgeL_next (e' :: l) i h
    exact key _ rfl h
theorem purgeL_sub : ∀ l : List E3, (purgeL l).Sublist l
  | [] => .slnil
  | [e] => List.Sublist.refl _
  | e :: e' :: l => by
    rw [purgeL_two]
    split
    · exact (purgeL_sub (e' :: l)).cons_cons e
    · exact (purgeL_sub (e' :: l)).cons e
def cntT (l : List E3) : Nat := l.countP fun e => decide (e.t ≠ 0)
theorem purgeL_cnt : ∀ l : List E3, cntT (purgeL l) = cntT l
  | [] => rfl
  | [e] => rfl
  | e :: e' :: l => by
    have ih := purgeL_cnt (e' :: l)
    rw [purgeL_two]
    split
    · unfold cntT at *; rw [List.countP_cons, ih, List.countP_cons (a := e)]
    · rename_i h
      have : e.t = 0 := Classical.byContradiction fun hn => h (.inl hn)
      rw [ih]; unfold cntT; rw [List.countP_cons (a := e)]; simp [this]
theorem good_purge {es : List E3} (h : goodE es = true) : goodE (purgeL es) = true := by
  rw [goodE_iff] at h ⊢
  exact ⟨fun e he => h.1 e ((purgeL_sub es).subset he), h.2.sublist (purgeL_sub es)⟩
theorem cntT_snoc (l : List E3) (e : E3) : cntT (l ++ [e]) = cntT l + (if e.t = 0 then 0 else 1) := by
  unfold cntT
  rw [List.countP_append]
  by_cases h : e.t = 0 <;> simp [h]
theorem cntT_le (l : List E3) : cntT l ≤ l.length := List.countP_le_length
theorem tp_loop2 {h0 h1 : Heap} {v w : Value} {es ps : List E3} {p4 : Nat} (s : SE h1 v es) (s2 : SE h1 w ps) (hw : wide ps) (hl : es.length ≤ 40) (hlp : ps.length ≤ 40) (hin : In h0.blks.length No (nm h0) h1) (c : Cells h1 p4 47 [w]) (hc : cntT ps = cntT es) (hg : goodE ps = true) :
    ∀ (m i : Nat), es.length - i = m → i ≤ es.length → ∀ (x : Nat → Value), x 0 = v → x 4 = .pointer (some ⟨p4, 0, none⟩) → x 5 = .int .i64 ((cntT ps : Int) - cntT (es.take i)) → x 7 = .int .i64 i →
    ∃ h', lK c5_5 89 x h1 (blockK 2 (sK c5_6 (retK Try.f5 Try.prog h0))) = some (.bool true, done h0 h') ∧ In h0.blks.length No (nm h0) h' := by
  intro m
  obtain ⟨va, vc, rfl⟩ := s.shape
  induction m with
  | zero =>
    intro i e1 e2 x Aa Ae Af Ah
    obtain rfl : i = es.length := by omega
    rw [List.take_length] at Af
    have d1 : decide (((cntT ps : Int) - (cntT es : Int)) = 0) = true := decide_eq_true (by omega)
    obtain ⟨hA, q1, q2⟩ := spec_Good s2 hw (by omega)
    rw [hg] at q1
    have l4 : (h1.loadN p4 0 1).map (fun cs => Value.agg cs.toArray) = some (.agg #[w]) := by rw [c.loadN (n := 1) rfl]; rfl
    rw [lK_eq]
    refine ⟨hA, ?_, hin.trans (q2.inn (Nat.le_trans hin.le hin.len))⟩
    simp -implicitDefEqProofs (disch := omega) only [↓c5_5_eq, ↓c5_6_eq,Aa,Ae,Af,Ah, lnEs, dcF, d1, ldL, l4, q1, ↓ret5, ↓cnd_true, ↓cnd_false, ↓Option.bind_some, ↓obH_some', bin_add, bin_sub, bin_mul, bin_lss, bin_leq, bin_gtr, bin_geq, bin_eql, bin_neq, un_not, un_neg, Option.bind_some, Option.bind_none, Option.map_some, cnd_true, cnd_false, pickV_true, pickV_false, gd_true, gd_false, gdV_true, gdV_false, gdH_true, gdH_false, gdS_true, gdS_false, wt_ff, wt_tt, wt_ft, wt_tf, wt_undef, obH_some', extractV_tuple, nilCheckV_ptr, againK_normal, againK_exit, againK_ret, blockK_normal, blockK_same, blockK_ret, seqK_normal, seqK_exit, seqK_ret, fin_done, if_true', if_false', Bool.not_true, Bool.not_false, idx0, idx1, idx2, idx3, idx4, chk_nil_l, chk_nil_r, done_nm, up_cons, up_nil, cond_true, cond_false, Nat.reduceBEq]
  | succ m ih =>
    intro i hm hi x Aa Ae Af Ah
    have hil : i < es.length := by omega
    obtain ⟨b, of, hb, hbl, e1, e2⟩ := s.at' (t := 45) (el := 57) (by kernel_rfl) (by kernel_rfl) hil
    obtain ⟨_, _, _, f4⟩ := e2 h1 rfl
    have wi : IntKind.i64.wrap ((i : Int) + 1) = ((i + 1 : Nat) : Int) := by rw [wrap_i64] <;> omega
    have ht : es.take i ++ [es[i]] = es.take (i + 1) := by rw [List.take_succ, List.getElem?_eq_getElem hil]; rfl
    have hsn := cntT_snoc (es.take i) es[i]
    rw [ht] at hsn
    have c1 := cntT_le ps
    have c2 := cntT_le (es.take i)
    rw [List.length_take] at c2
    rw [lK_eq]
    by_cases h0 : es[i].t = 0
    · rw [if_pos h0, Nat.add_zero] at hsn
      have d0 : decide ((es[i].t : Int) ≠ 0) = false := decide_eq_false (by omega)
      simp -implicitDefEqProofs (disch := omega) only [↓c5_5_eq, ↓c5_6_eq,Aa,Ae,Af,Ah, lnEs, dcT, e1, faE2, ldS, f4, d0, wi, ↓cnd_true, ↓cnd_false, ↓Option.bind_some, ↓obH_some', bin_add, bin_sub, bin_mul, bin_lss, bin_leq, bin_gtr, bin_geq, bin_eql, bin_neq, un_not, un_neg, Option.bind_some, Option.bind_none, Option.map_some, cnd_true, cnd_false, pickV_true, pickV_false, gd_true, gd_false, gdV_true, gdV_false, gdH_true, gdH_false, gdS_true, gdS_false, wt_ff, wt_tt, wt_ft, wt_tf, wt_undef, obH_some', extractV_tuple, nilCheckV_ptr, againK_normal, againK_exit, againK_ret, blockK_normal, blockK_same, blockK_ret, seqK_normal, seqK_exit, seqK_ret, fin_done, if_true', if_false', Bool.not_true, Bool.not_false, idx0, idx1, idx2, idx3, idx4, chk_nil_l, chk_nil_r, done_nm, up_cons, up_nil, cond_true, cond_false, Nat.reduceBEq]
      refine ih (i + 1) (by omega) (by omega) _ ?_ ?_ ?_ ?_
      · exact Aa
      · exact Ae
      · rw [hsn]; exact Af
      · rfl
    · rw [if_neg h0] at hsn
      have d0 : decide ((es[i].t : Int) ≠ 0) = true := decide_eq_true (by omega)
      have w2 : IntKind.i64.wrap (((cntT ps : Int) - cntT (es.take i)) - 1) = (cntT ps : Int) - cntT (es.take (i + 1)) := by rw [wrap_i64] <;> omega
      simp -implicitDefEqProofs (disch := omega) only [↓c5_5_eq, ↓c5_6_eq,Aa,Ae,Af,Ah, lnEs, dcT, e1, faE2, ldS, f4, d0, w2, wi, ↓cnd_true, ↓cnd_false, ↓Option.bind_some, ↓obH_some', bin_add, bin_sub, bin_mul, bin_lss, bin_leq, bin_gtr, bin_geq, bin_eql, bin_neq, un_not, un_neg, Option.bind_some, Option.bind_none, Option.map_some, cnd_true, cnd_false, pickV_true, pickV_false, gd_true, gd_false, gdV_true, gdV_false, gdH_true, gdH_false, gdS_true, gdS_false, wt_ff, wt_tt, wt_ft, wt_tf, wt_undef, obH_some', extractV_tuple, nilCheckV_ptr, againK_normal, againK_exit, againK_ret, blockK_normal, blockK_same, blockK_ret, seqK_normal, seqK_exit, seqK_ret, fin_done, if_true', if_false', Bool.not_true, Bool.not_false, idx0, idx1, idx2, idx3, idx4, chk_nil_l, chk_nil_r, done_nm, up_cons, up_nil, cond_true, cond_false, Nat.reduceBEq]
      refine ih (i + 1) (by omega) (by omega) _ ?_ ?_ ?_ ?_
      · exact Aa
      · exact Ae
      · rfl
      · rfl
theorem tp_loop1 {h0 h1 : Heap} {v w : Value} {es ps : List E3} {p4 : Nat} (s : SE h1 v es) (s2 : SE h1 w ps) (hw : wide ps) (hl : es.length ≤ 40) (hlp : ps.length ≤ 40) (hin : In h0.blks.length No (nm h0) h1) (c : Cells h1 p4 47 [w]) (hc : cntT ps = cntT es) (hg : goodE ps = true) (hnx : ∀ (i : Nat) (h : i + 1 < ps.length), ps[i].t = 0 → ps[i + 1].f ≠ ps[i].f) :
    ∀ (m i : Nat), ps.length - i = m → i ≤ ps.length → ∀ (x : Nat → Value), x 0 = v → x 4 = .pointer (some ⟨p4, 0, none⟩) → x 5 = .int .i64 (cntT (ps.take i) : Nat) → x 6 = .int .i64 i →
    ∃ h', lK c5_1 89 x h1 (blockK 0 (sK c5_2 (retK Try.f5 Try.prog h0))) = some (.bool true, done h0 h') ∧ In h0.blks.length No (nm h0) h' := by
  intro m
  obtain ⟨wa, wc, rfl⟩ := s2.shape
  have l4 : h1.load1 p4 0 = some (.slice wa ps.length wc) := c.load 0
  induction m with
  | zero =>
    intro i e1 e2 x Aa Ae Af Ag
    obtain rfl : i = ps.length := by omega
    rw [List.take_length] at Af
    rw [lK_eq]
    simp -implicitDefEqProofs (disch := omega) only [↓c5_1_eq, ↓c5_2_eq, ↓c5_3_eq, ↓c5_4_eq, ↓c5_7_eq, ↓c5_8_eq, ↓c5_9_eq, ↓c5_10_eq, ↓c5_11_eq, ↓c5_12_eq, ↓c5_13_eq,Aa,Ae,Af,Ag, faL, ldEs, l4, lnEs, dcF, ↓cnd_true, ↓cnd_false, ↓Option.bind_some, ↓obH_some', bin_add, bin_sub, bin_mul, bin_lss, bin_leq, bin_gtr, bin_geq, bin_eql, bin_neq, un_not, un_neg, Option.bind_some, Option.bind_none, Option.map_some, cnd_true, cnd_false, pickV_true, pickV_false, gd_true, gd_false, gdV_true, gdV_false, gdH_true, gdH_false, gdS_true, gdS_false, wt_ff, wt_tt, wt_ft, wt_tf, wt_undef, obH_some', extractV_tuple, nilCheckV_ptr, againK_normal, againK_exit, againK_ret, blockK_normal, blockK_same, blockK_ret, seqK_normal, seqK_exit, seqK_ret, fin_done, if_true', if_false', Bool.not_true, Bool.not_false, idx0, idx1, idx2, idx3, idx4, chk_nil_l, chk_nil_r, done_nm, up_cons, up_nil, cond_true, cond_false, Nat.reduceBEq]
    refine tp_loop2 s s2 hw hl hlp hin c hc hg es.length 0 (by omega) (by omega) _ ?_ ?_ ?_ ?_
    · exact Aa
    · exact Ae
    · rw [List.take_zero, show cntT [] = 0 from rfl, Int.natCast_zero, Int.sub_zero]; exact Af
    · rfl
  | succ m ih =>
    intro i hm hi x Aa Ae Af Ag
    have hil : i < ps.length := by omega
    obtain ⟨b, of, hb, hbl, e1, e2⟩ := s2.at' (t := 45) (el := 57) (by kernel_rfl) (by kernel_rfl) hil
    obtain ⟨_, f2, _, f4⟩ := e2 h1 rfl
    have wi : IntKind.i64.wrap ((i : Int) + 1) = ((i + 1 : Nat) : Int) := by rw [wrap_i64] <;> omega
    have ht : ps.take i ++ [ps[i]] = ps.take (i + 1) := by rw [List.take_succ, List.getElem?_eq_getElem hil]; rfl
    have hsn := cntT_snoc (ps.take i) ps[i]
    rw [ht] at hsn
    have c2 := cntT_le (ps.take i)
    rw [List.length_take] at c2
    rw [lK_eq]
    by_cases h0 : ps[i].t = 0
    · rw [if_pos h0, Nat.add_zero] at hsn
      have d0 : decide ((ps[i].t : Int) ≠ 0) = false := decide_eq_false (by omega)
      have d1 : decide ((ps[i].t : Int) = 0) = true := decide_eq_true (by omega)
      by_cases h1 : i + 1 < ps.length
      · obtain ⟨b', of', hb', hbl', e1', e2'⟩ := s2.at' (t := 45) (el := 57) (by kernel_rfl) (by kernel_rfl) h1
        obtain ⟨_, g2, _⟩ := e2' _ rfl
        have d2 : decide (ps[i + 1].f = ps[i].f) = false := decide_eq_false (hnx i h1 h0)
        simp -implicitDefEqProofs (disch := omega) only [↓c5_1_eq, ↓c5_2_eq, ↓c5_3_eq, ↓c5_4_eq, ↓c5_7_eq, ↓c5_8_eq, ↓c5_9_eq, ↓c5_10_eq, ↓c5_11_eq, ↓c5_12_eq, ↓c5_13_eq, ↓d5_0_0, ↓d5_0_1, ↓d5_0_2, ↓d5_0_3, ↓d5_0_4, ↓d5_0_5, ↓d5_0_6, ↓d5_0_7, ↓d5_0_8, ↓d5_0_9, ↓d5_0_10, ↓d5_0_11, ↓d5_0_12, ↓d5_0_13, ↓d5_0_14, ↓d5_0_15, ↓d5_0_16, ↓d5_0_17, ↓d5_0_18, ↓d5_0_19, ↓d5_0_20, ↓d5_0_21, ↓d5_0_22, ↓d5_0_23, ↓d5_0_24, ↓d5_0_25, ↓d5_0_26, ↓d5_0_27, ↓d5_0_28, ↓d5_0_29, ↓d5_0_30, ↓d5_0_31,Aa,Ae,Af,Ag, faL, ldEs, l4, lnEs, dcT, e1, faE0, faE2, ldS, ldI, f2, f4, e1', g2, d0, d1, d2, wi, List.append_nil, ↓cnd_true, ↓cnd_false, ↓Option.bind_some, ↓obH_some', bin_add, bin_sub, bin_mul, bin_lss, bin_leq, bin_gtr, bin_geq, bin_eql, bin_neq, un_not, un_neg, Option.bind_some, Option.bind_none, Option.map_some, cnd_true, cnd_false, pickV_true, pickV_false, gd_true, gd_false, gdV_true, gdV_false, gdH_true, gdH_false, gdS_true, gdS_false, wt_ff, wt_tt, wt_ft, wt_tf, wt_undef, obH_some', extractV_tuple, nilCheckV_ptr, againK_normal, againK_exit, againK_ret, blockK_normal, blockK_same, blockK_ret, seqK_normal, seqK_exit, seqK_ret, fin_done, if_true', if_false', Bool.not_true, Bool.not_false, idx0, idx1, idx2, idx3, idx4, chk_nil_l, chk_nil_r, done_nm, up_cons, up_nil, cond_true, cond_false, Nat.reduceBEq]
        refine ih (i + 1) (by omega) (by omega) _ ?_ ?_ ?_ ?_
        · exact Aa
        · exact Ae
        · rw [hsn]; exact Af
        · rfl
      · simp -implicitDefEqProofs (disch := omega) only [↓c5_1_eq, ↓c5_2_eq, ↓c5_3_eq, ↓c5_4_eq, ↓c5_7_eq, ↓c5_8_eq, ↓c5_9_eq, ↓c5_10_eq, ↓c5_11_eq, ↓c5_12_eq, ↓c5_13_eq, ↓d5_0_0, ↓d5_0_1, ↓d5_0_2, ↓d5_0_3, ↓d5_0_4, ↓d5_0_5, ↓d5_0_6, ↓d5_0_7, ↓d5_0_8, ↓d5_0_9, ↓d5_0_10, ↓d5_0_11, ↓d5_0_12, ↓d5_0_13, ↓d5_0_14, ↓d5_0_15, ↓d5_0_16, ↓d5_0_17, ↓d5_0_18, ↓d5_0_19, ↓d5_0_20, ↓d5_0_21, ↓d5_0_22, ↓d5_0_23, ↓d5_0_24, ↓d5_0_25, ↓d5_0_26, ↓d5_0_27, ↓d5_0_28, ↓d5_0_29, ↓d5_0_30, ↓d5_0_31,Aa,Ae,Af,Ag, faL, ldEs, l4, lnEs, dcT, dcF, e1, faE0, faE2, ldS, ldI, f2, f4, d0, d1, wi, List.append_nil, ↓cnd_true, ↓cnd_false, ↓Option.bind_some, ↓obH_some', bin_add, bin_sub, bin_mul, bin_lss, bin_leq, bin_gtr, bin_geq, bin_eql, bin_neq, un_not, un_neg, Option.bind_some, Option.bind_none, Option.map_some, cnd_true, cnd_false, pickV_true, pickV_false, gd_true, gd_false, gdV_true, gdV_false, gdH_true, gdH_false, gdS_true, gdS_false, wt_ff, wt_tt, wt_ft, wt_tf, wt_undef, obH_some', extractV_tuple, nilCheckV_ptr, againK_normal, againK_exit, againK_ret, blockK_normal, blockK_same, blockK_ret, seqK_normal, seqK_exit, seqK_ret, fin_done, if_true', if_false', Bool.not_true, Bool.not_false, idx0, idx1, idx2, idx3, idx4, chk_nil_l, chk_nil_r, done_nm, up_cons, up_nil, cond_true, cond_false, Nat.reduceBEq]
        refine ih (i + 1) (by omega) (by omega) _ ?_ ?_ ?_ ?_
        · exact Aa
        · exact Ae
        · rw [hsn]; exact Af
        · rfl
    · rw [if_neg h0] at hsn
      have d0 : decide ((ps[i].t : Int) ≠ 0) = true := decide_eq_true (by omega)
      have d1 : decide ((ps[i].t : Int) = 0) = false := decide_eq_false (by omega)
      have w2 : IntKind.i64.wrap ((cntT (ps.take i) : Int) + 1) = (cntT (ps.take (i + 1)) : Nat) := by rw [wrap_i64] <;> omega
      simp -implicitDefEqProofs (disch := omega) only [↓c5_1_eq, ↓c5_2_eq, ↓c5_3_eq, ↓c5_4_eq, ↓c5_7_eq, ↓c5_8_eq, ↓c5_9_eq, ↓c5_10_eq, ↓c5_11_eq, ↓c5_12_eq, ↓c5_13_eq, ↓d5_0_0, ↓d5_0_1, ↓d5_0_2, ↓d5_0_3, ↓d5_0_4, ↓d5_0_5, ↓d5_0_6, ↓d5_0_7, ↓d5_0_8, ↓d5_0_9, ↓d5_0_10, ↓d5_0_11, ↓d5_0_12, ↓d5_0_13, ↓d5_0_14, ↓d5_0_15, ↓d5_0_16, ↓d5_0_17, ↓d5_0_18, ↓d5_0_19, ↓d5_0_20, ↓d5_0_21, ↓d5_0_22, ↓d5_0_23, ↓d5_0_24, ↓d5_0_25, ↓d5_0_26, ↓d5_0_27, ↓d5_0_28, ↓d5_0_29, ↓d5_0_30, ↓d5_0_31,Aa,Ae,Af,Ag, faL, ldEs, l4, lnEs, dcT, e1, faE0, faE2, ldS, ldI, f2, f4, d0, d1, w2, wi, List.append_nil, ↓cnd_true, ↓cnd_false, ↓Option.bind_some, ↓obH_some', bin_add, bin_sub, bin_mul, bin_lss, bin_leq, bin_gtr, bin_geq, bin_eql, bin_neq, un_not, un_neg, Option.bind_some, Option.bind_none, Option.map_some, cnd_true, cnd_false, pickV_true, pickV_false, gd_true, gd_false, gdV_true, gdV_false, gdH_true, gdH_false, gdS_true, gdS_false, wt_ff, wt_tt, wt_ft, wt_tf, wt_undef, obH_some', extractV_tuple, nilCheckV_ptr, againK_normal, againK_exit, againK_ret, blockK_normal, blockK_same, blockK_ret, seqK_normal, seqK_exit, seqK_ret, fin_done, if_true', if_false', Bool.not_true, Bool.not_false, idx0, idx1, idx2, idx3, idx4, chk_nil_l, chk_nil_r, done_nm, up_cons, up_nil, cond_true, cond_false, Nat.reduceBEq]
      refine ih (i + 1) (by omega) (by omega) _ ?_ ?_ ?_ ?_
      · exact Aa
      · exact Ae
      · rfl
      · rfl
theorem law_TrimPurges (h : Heap) (vs : List Value) (dd : List DT) (r : RdAll Try.prog h [45] vs dd) : ∃ h', evC Try.prog 5 vs.toArray h = some (.bool true, h') := by
  obtain ⟨v, d, vs', ds', rfl, rfl, rv, r⟩ := r.cons_inv
  obtain ⟨rfl, rfl⟩ := r.nil_inv
  obtain ⟨es, s, hw⟩ := rv.ents
  show ∃ h', evC Try.prog 5 #[v] h = _
  rw [call5]
  obtain ⟨va, vc, rfl⟩ := s.shape
  obtain ⟨h1, q1,Ab⟩ := spec_awake18 (nm h)
  have k1 : In h.blks.length No (nm h) h1 := Ab.inn (Nat.le_refl h.blks.length)
  have s1 : SE h1 (.slice va es.length vc) es := s.nm.ext Ab
  have hx1 : h.blks.length ≤ h1.blks.length := Ab.len
  have c2 := Cells.new h1 47 [.slice none 0 0]
  have st2 := storeN_blk c2 (o := 0) (vs := [.slice va es.length vc]) (by simp)
  simp only [List.take_zero, List.nil_append, List.append_nil, List.length_cons, List.length_nil, List.drop_succ_cons, List.drop_zero, Nat.zero_add] at st2
  have d2 := c2.put [.slice va es.length vc]
  have k2 : In h.blks.length No (nm h) ((h1.new (.cells [.slice none 0 0]) 47).put h1.blks.length (.cells [.slice va es.length vc])) := (k1.trans (In.new hx1 _ _)).trans (In.put (by simp [Heap.new]; omega) (.inl hx1) _)
  have s2 : SE ((h1.new (.cells [.slice none 0 0]) 47).put h1.blks.length (.cells [.slice va es.length vc])) (.slice va es.length vc) es := (s1.keepNew _ _).keepPut (fun e => by have := s1.lt e; omega) _
  generalize hh2 : (h1.new (.cells [.slice none 0 0]) 47).put h1.blks.length (.cells [.slice va es.length vc]) = h2 at d2 k2 s2 st2
  have l2 : ∀ {h' : Heap}, Same h2 h' → (h'.loadN h1.blks.length 0 1).map (fun cs => Value.agg cs.toArray) = some (.agg #[.slice va es.length vc]) := fun hs => by rw [(d2.same hs).loadN (n := 1) rfl]; rfl
  by_cases h40 : es.length ≤ 40
  · obtain ⟨h3, q3,Ad⟩ := spec_Good s2 hw (by omega)
    cases hg : goodE es with
    | false =>
      rw [hg] at q3
      simp -implicitDefEqProofs (disch := omega) only [↓c5_0_eq, q1, bdL, alL, stL, st2, lnEs, dcF, ldL, l2 (Same.refl _), q3, ↓ret5, ↓cnd_true, ↓cnd_false, ↓Option.bind_some, ↓obH_some', bin_add, bin_sub, bin_mul, bin_lss, bin_leq, bin_gtr, bin_geq, bin_eql, bin_neq, un_not, un_neg, Option.bind_some, Option.bind_none, Option.map_some, cnd_true, cnd_false, pickV_true, pickV_false, gd_true, gd_false, gdV_true, gdV_false, gdH_true, gdH_false, gdS_true, gdS_false, wt_ff, wt_tt, wt_ft, wt_tf, wt_undef, obH_some', extractV_tuple, nilCheckV_ptr, againK_normal, againK_exit, againK_ret, blockK_normal, blockK_same, blockK_ret, seqK_normal, seqK_exit, seqK_ret, fin_done, if_true', if_false', Bool.not_true, Bool.not_false, idx0, idx1, idx2, idx3, idx4, chk_nil_l, chk_nil_r, done_nm, up_cons, up_nil, cond_true, cond_false, Nat.reduceBEq]
      exact ⟨_, rfl⟩
    | true =>
      rw [hg] at q3
      have sm3 := Ad.same
      obtain ⟨a, c, h4, q4,Ae, r4⟩ := spec_Purge (s2.same sm3) hw (by omega)
      have hp : purgeE es = purgeL es := by unfold purgeE; rw [hg]; rfl
      rw [hp] at q4 r4
      have hpl := purgeL_len es
      have hx3 := Ad.len
      have hx4 := Ae.len
      have hl2 : h.blks.length ≤ h2.blks.length := Nat.le_trans k2.le k2.len
      have k4 := (k2.trans (Ad.inn hl2)).trans (Ae.inn (by omega))
      have c5 := Cells.new h4 47 [.slice none 0 0]
      have st5 := storeN_blk c5 (o := 0) (vs := [.slice a (purgeL es).length c]) (by simp)
      simp only [List.take_zero, List.nil_append, List.append_nil, List.length_cons, List.length_nil, List.drop_succ_cons, List.drop_zero, Nat.zero_add] at st5
      have d5 := c5.put [.slice a (purgeL es).length c]
      have k5 : In h.blks.length No (nm h) ((h4.new (.cells [.slice none 0 0]) 47).put h4.blks.length (.cells [.slice a (purgeL es).length c])) := (k4.trans (In.new (by omega) _ _)).trans (In.put (by simp [Heap.new]; omega) (.inl (by omega)) _)
      have s5 : SE ((h4.new (.cells [.slice none 0 0]) 47).put h4.blks.length (.cells [.slice a (purgeL es).length c])) (.slice va es.length vc) es := ((((s2.same sm3).ext Ae)).keepNew _ _).keepPut (fun e => by have := ((s2.same sm3).ext Ae).lt e; omega) _
      have s6 : SE ((h4.new (.cells [.slice none 0 0]) 47).put h4.blks.length (.cells [.slice a (purgeL es).length c])) (.slice a (purgeL es).length c) (purgeL es) := ((AE.se r4).keepNew _ _).keepPut (fun e => by have := Sl.lt (AE.se r4) e; omega) _
      have hwp : wide (purgeL es) := fun e he => hw e ((purgeL_sub es).subset he)
      have lp := tp_loop1 (h0 := h) s5 s6 hwp h40 (by omega) k5 d5 (purgeL_cnt es) (good_purge hg) (fun i h h0 => purgeL_next es i h h0) (purgeL es).length 0 (by omega) (by omega)
      have fin' : ∀ {r : Option (Value × Heap)}, (∃ h', r = some (.bool true, done h h') ∧ In h.blks.length No (nm h) h') → ∃ h', r = some (.bool true, h') := fun ⟨h', g1, _⟩ => ⟨_, g1⟩
      simp -implicitDefEqProofs (disch := omega) only [↓c5_0_eq, q1, bdL, alL, stL, st2, lnEs, dcF, ldL, l2 (Same.refl _), q3, l2 sm3, q4, st5, ↓cnd_true, ↓cnd_false, ↓Option.bind_some, ↓obH_some', bin_add, bin_sub, bin_mul, bin_lss, bin_leq, bin_gtr, bin_geq, bin_eql, bin_neq, un_not, un_neg, Option.bind_some, Option.bind_none, Option.map_some, cnd_true, cnd_false, pickV_true, pickV_false, gd_true, gd_false, gdV_true, gdV_false, gdH_true, gdH_false, gdS_true, gdS_false, wt_ff, wt_tt, wt_ft, wt_tf, wt_undef, obH_some', extractV_tuple, nilCheckV_ptr, againK_normal, againK_exit, againK_ret, blockK_normal, blockK_same, blockK_ret, seqK_normal, seqK_exit, seqK_ret, fin_done, if_true', if_false', Bool.not_true, Bool.not_false, idx0, idx1, idx2, idx3, idx4, chk_nil_l, chk_nil_r, done_nm, up_cons, up_nil, cond_true, cond_false, Nat.reduceBEq]
      refine fin' (lp _ ?_ ?_ ?_ ?_)
      all_goals rfl
  · simp -implicitDefEqProofs (disch := omega) only [↓c5_0_eq, q1, bdL, alL, stL, st2, lnEs, dcT, ↓ret5, ↓cnd_true, ↓cnd_false, ↓Option.bind_some, ↓obH_some', bin_add, bin_sub, bin_mul, bin_lss, bin_leq, bin_gtr, bin_geq, bin_eql, bin_neq, un_not, un_neg, Option.bind_some, Option.bind_none, Option.map_some, cnd_true, cnd_false, pickV_true, pickV_false, gd_true, gd_false, gdV_true, gdV_false, gdH_true, gdH_false, gdS_true, gdS_false, wt_ff, wt_tt, wt_ft, wt_tf, wt_undef, obH_some', extractV_tuple, nilCheckV_ptr, againK_normal, againK_exit, againK_ret, blockK_normal, blockK_same, blockK_ret, seqK_normal, seqK_exit, seqK_ret, fin_done, if_true', if_false', Bool.not_true, Bool.not_false, idx0, idx1, idx2, idx3, idx4, chk_nil_l, chk_nil_r, done_nm, up_cons, up_nil, cond_true, cond_false, Nat.reduceBEq]
    exact ⟨_, rfl⟩
end Go.Am
namespace Go.Am
open Go.Proofs
set_option maxRecDepth 100000
set_option linter.all false
attribute [local congr] obind_congr obH_congr cnd_congr chk_congr retK_congr codeK_congr
theorem law_TrimJoins (h : Heap) (vs : List Value) (dd : List DT) (r : RdAll Try.prog h [45, 45] vs dd) : ∃ h', evC Try.prog 4 vs.toArray h = some (.bool true, h') := by
  obtain ⟨v, d0, vs1, ds1, rfl, rfl, rv, r⟩ := r.cons_inv
  obtain ⟨w, d1, vs2, ds2, rfl, rfl, rw', r⟩ := r.cons_inv
  obtain ⟨rfl, rfl⟩ := r.nil_inv
  obtain ⟨es, s, hw⟩ := rv.ents
  obtain ⟨fs, t, hwf⟩ := rw'.ents
  show ∃ h', evC Try.prog 4 #[v, w] h = _
  rw [call4]
  obtain ⟨va, vc, rfl⟩ := s.shape
  obtain ⟨wa, wc, rfl⟩ := t.shape
  obtain ⟨h1, q1,Ab⟩ := spec_awake18 (nm h)
  have hx1 : h.blks.length ≤ h1.blks.length := Ab.len
  have s1 : SE h1 (.slice va es.length vc) es := s.nm.ext Ab
  have t1 : SE h1 (.slice wa fs.length wc) fs := t.nm.ext Ab
  have k1 : In h.blks.length No (nm h) h1 := Ab.inn (Nat.le_refl h.blks.length)
  -- the two logs' variables
  have cA := (Cells.new h1 47 [.slice none 0 0]).keepNew (.cells [.slice none 0 0]) 47
  have cB := Cells.new (h1.new (.cells [.slice none 0 0]) 47) 47 [.slice none 0 0]
  have n7 : (h1.new (.cells [.slice none 0 0]) 47).blks.length = h1.blks.length + 1 := by simp [Heap.new]
  rw [n7] at cB
  have n8 : ((h1.new (.cells [.slice none 0 0]) 47).new (.cells [.slice none 0 0]) 47).blks.length = h1.blks.length + 2 := by simp [Heap.new]
  have s8 := (s1.keepNew (.cells [.slice none 0 0]) 47).keepNew (.cells [.slice none 0 0]) 47
  have t8 := (t1.keepNew (.cells [.slice none 0 0]) 47).keepNew (.cells [.slice none 0 0]) 47
  have k8 : In h.blks.length No (nm h) ((h1.new (.cells [.slice none 0 0]) 47).new (.cells [.slice none 0 0]) 47) := (k1.trans (In.new (by omega) _ _)).trans (In.new (by omega) _ _)
  generalize hh8 : (h1.new (.cells [.slice none 0 0]) 47).new (.cells [.slice none 0 0]) 47 = h8 at cA cB n8 s8 t8 k8
  have stA := storeN_blk cA (o := 0) (vs := [.slice va es.length vc]) (by simp)
  have dA := cA.put [.slice va es.length vc]
  have dB : Cells (h8.put h1.blks.length (.cells [.slice va es.length vc])) (h1.blks.length + 1) 47 [.slice none 0 0] := cB.keepPut (by omega) _
  have stB := storeN_blk dB (o := 0) (vs := [.slice wa fs.length wc]) (by simp)
  simp only [List.take_zero, List.nil_append, List.append_nil, List.length_cons, List.length_nil, List.drop_succ_cons, List.drop_zero, Nat.zero_add] at stA stB
  have fA : Cells ((h8.put h1.blks.length (.cells [.slice va es.length vc])).put (h1.blks.length + 1) (.cells [.slice wa fs.length wc])) h1.blks.length 47 [.slice va es.length vc] := dA.keepPut (by omega) _
  have fB := dB.put [.slice wa fs.length wc]
  have b0 := s1.lo
  have b1 := t1.lo
  have s9 : SE ((h8.put h1.blks.length (.cells [.slice va es.length vc])).put (h1.blks.length + 1) (.cells [.slice wa fs.length wc])) (.slice va es.length vc) es := (Sl.keepPut s8 (fun e => by have := b0 _ e; omega) _).keepPut (fun e => by have := b0 _ e; omega) _
  have t9 : SE ((h8.put h1.blks.length (.cells [.slice va es.length vc])).put (h1.blks.length + 1) (.cells [.slice wa fs.length wc])) (.slice wa fs.length wc) fs := (Sl.keepPut t8 (fun e => by have := b1 _ e; omega) _).keepPut (fun e => by have := b1 _ e; omega) _
  have n9 : ((h8.put h1.blks.length (.cells [.slice va es.length vc])).put (h1.blks.length + 1) (.cells [.slice wa fs.length wc])).blks.length = h1.blks.length + 2 := by rw [Heap.put_len, Heap.put_len, n8]
  have k9 : In h.blks.length No (nm h) ((h8.put h1.blks.length (.cells [.slice va es.length vc])).put (h1.blks.length + 1) (.cells [.slice wa fs.length wc])) := (k8.trans (In.put (by omega) (.inl (by omega)) _)).trans (In.put (by rw [Heap.put_len]; omega) (.inl (by omega)) _)
  generalize hh9 : (h8.put h1.blks.length (.cells [.slice va es.length vc])).put (h1.blks.length + 1) (.cells [.slice wa fs.length wc]) = h9 at fA fB s9 t9 n9 stB k9
  have lA : ∀ {h' : Heap}, Same h9 h' → (h'.loadN h1.blks.length 0 1).map (fun cs => Value.agg cs.toArray) = some (.agg #[.slice va es.length vc]) := fun hs => by rw [(fA.same hs).loadN (n := 1) rfl]; rfl
  have lB : ∀ {h' : Heap}, Same h9 h' → (h'.loadN (h1.blks.length + 1) 0 1).map (fun cs => Value.agg cs.toArray) = some (.agg #[.slice wa fs.length wc]) := fun hs => by rw [(fB.same hs).loadN (n := 1) rfl]; rfl
  by_cases h40 : es.length ≤ 40
  rotate_left
  · simp -implicitDefEqProofs (disch := omega) only [↓c4_0_eq, ↓c4_1_eq, ↓c4_2_eq, ↓c4_3_eq, ↓c4_4_eq, ↓c4_5_eq, ↓c4_6_eq, ↓c4_7_eq, ↓c4_8_eq, ↓c4_9_eq, ↓c4_10_eq, ↓c4_11_eq, ↓c4_12_eq, q1, bdL, alL, n7, hh8, stL, stA, stB, lnEs, dcT, ↓ret4, ↓cnd_true, ↓cnd_false, ↓Option.bind_some, ↓obH_some', bin_add, bin_sub, bin_mul, bin_lss, bin_leq, bin_gtr, bin_geq, bin_eql, bin_neq, un_not, un_neg, Option.bind_some, Option.bind_none, Option.map_some, cnd_true, cnd_false, pickV_true, pickV_false, gd_true, gd_false, gdV_true, gdV_false, gdH_true, gdH_false, gdS_true, gdS_false, wt_ff, wt_tt, wt_ft, wt_tf, wt_undef, obH_some', extractV_tuple, nilCheckV_ptr, againK_normal, againK_exit, againK_ret, blockK_normal, blockK_same, blockK_ret, seqK_normal, seqK_exit, seqK_ret, fin_done, if_true', if_false', Bool.not_true, Bool.not_false, idx0, idx1, idx2, idx3, idx4, chk_nil_l, chk_nil_r, done_nm, up_cons, up_nil, cond_true, cond_false, Nat.reduceBEq]
    exact ⟨_, rfl⟩
  by_cases f40 : fs.length ≤ 40
  rotate_left
  · simp -implicitDefEqProofs (disch := omega) only [↓c4_0_eq, ↓c4_1_eq, ↓c4_2_eq, ↓c4_3_eq, ↓c4_4_eq, ↓c4_5_eq, ↓c4_6_eq, ↓c4_7_eq, ↓c4_8_eq, ↓c4_9_eq, ↓c4_10_eq, ↓c4_11_eq, ↓c4_12_eq, q1, bdL, alL, n7, hh8, stL, stA, stB, lnEs, dcT, dcF, ↓ret4, ↓cnd_true, ↓cnd_false, ↓Option.bind_some, ↓obH_some', bin_add, bin_sub, bin_mul, bin_lss, bin_leq, bin_gtr, bin_geq, bin_eql, bin_neq, un_not, un_neg, Option.bind_some, Option.bind_none, Option.map_some, cnd_true, cnd_false, pickV_true, pickV_false, gd_true, gd_false, gdV_true, gdV_false, gdH_true, gdH_false, gdS_true, gdS_false, wt_ff, wt_tt, wt_ft, wt_tf, wt_undef, obH_some', extractV_tuple, nilCheckV_ptr, againK_normal, againK_exit, againK_ret, blockK_normal, blockK_same, blockK_ret, seqK_normal, seqK_exit, seqK_ret, fin_done, if_true', if_false', Bool.not_true, Bool.not_false, idx0, idx1, idx2, idx3, idx4, chk_nil_l, chk_nil_r, done_nm, up_cons, up_nil, cond_true, cond_false, Nat.reduceBEq]
    exact ⟨_, rfl⟩
  obtain ⟨h10, q10,Ak⟩ := spec_Good s9 hw (by omega)
  cases hg : goodE es with
  | false =>
    rw [hg] at q10
    simp -implicitDefEqProofs (disch := omega) only [↓c4_0_eq, ↓c4_1_eq, ↓c4_2_eq, ↓c4_3_eq, ↓c4_4_eq, ↓c4_5_eq, ↓c4_6_eq, ↓c4_7_eq, ↓c4_8_eq, ↓c4_9_eq, ↓c4_10_eq, ↓c4_11_eq, ↓c4_12_eq, q1, bdL, alL, n7, hh8, stL, stA, stB, lnEs, dcT, dcF, ldL, lA (Same.refl _), q10, ↓ret4, ↓cnd_true, ↓cnd_false, ↓Option.bind_some, ↓obH_some', bin_add, bin_sub, bin_mul, bin_lss, bin_leq, bin_gtr, bin_geq, bin_eql, bin_neq, un_not, un_neg, Option.bind_some, Option.bind_none, Option.map_some, cnd_true, cnd_false, pickV_true, pickV_false, gd_true, gd_false, gdV_true, gdV_false, gdH_true, gdH_false, gdS_true, gdS_false, wt_ff, wt_tt, wt_ft, wt_tf, wt_undef, obH_some', extractV_tuple, nilCheckV_ptr, againK_normal, againK_exit, againK_ret, blockK_normal, blockK_same, blockK_ret, seqK_normal, seqK_exit, seqK_ret, fin_done, if_true', if_false', Bool.not_true, Bool.not_false, idx0, idx1, idx2, idx3, idx4, chk_nil_l, chk_nil_r, done_nm, up_cons, up_nil, cond_true, cond_false, Nat.reduceBEq]
    exact ⟨_, rfl⟩
  | true =>
    rw [hg] at q10
    have m10 := Ak.same
    obtain ⟨h11, q11,Al⟩ := spec_Good (t9.same m10) hwf (by omega)
    cases hg2 : goodE fs with
    | false =>
      rw [hg2] at q11
      simp -implicitDefEqProofs (disch := omega) only [↓c4_0_eq, ↓c4_1_eq, ↓c4_2_eq, ↓c4_3_eq, ↓c4_4_eq, ↓c4_5_eq, ↓c4_6_eq, ↓c4_7_eq, ↓c4_8_eq, ↓c4_9_eq, ↓c4_10_eq, ↓c4_11_eq, ↓c4_12_eq, q1, bdL, alL, n7, hh8, stL, stA, stB, lnEs, dcT, dcF, ldL, lA (Same.refl _), q10, lB m10, q11, ↓ret4, ↓cnd_true, ↓cnd_false, ↓Option.bind_some, ↓obH_some', bin_add, bin_sub, bin_mul, bin_lss, bin_leq, bin_gtr, bin_geq, bin_eql, bin_neq, un_not, un_neg, Option.bind_some, Option.bind_none, Option.map_some, cnd_true, cnd_false, pickV_true, pickV_false, gd_true, gd_false, gdV_true, gdV_false, gdH_true, gdH_false, gdS_true, gdS_false, wt_ff, wt_tt, wt_ft, wt_tf, wt_undef, obH_some', extractV_tuple, nilCheckV_ptr, againK_normal, againK_exit, againK_ret, blockK_normal, blockK_same, blockK_ret, seqK_normal, seqK_exit, seqK_ret, fin_done, if_true', if_false', Bool.not_true, Bool.not_false, idx0, idx1, idx2, idx3, idx4, chk_nil_l, chk_nil_r, done_nm, up_cons, up_nil, cond_true, cond_false, Nat.reduceBEq]
      exact ⟨_, rfl⟩
    | true =>
      rw [hg2] at q11
      have m11 := m10.trans Al.same
      obtain ⟨aP, cP, h12, q12,An, r12⟩ := spec_Purge (s9.same m11) hw (by omega)
      have hp : purgeE es = purgeL es := by unfold purgeE; rw [hg]; rfl
      have hpg := good_purge hg
      have hpp : purgeE (purgeL es) = purgeL es := by unfold purgeE; rw [hpg]; exact purgeL_fix _ (fun i h h0 => purgeL_next es i h h0)
      rw [hp] at q12 r12
      have hwp : wide (purgeL es) := fun e he => hw e ((purgeL_sub es).subset he)
      have hpl := purgeL_len es
      have m12 := m11.trans An.same
      have c13 := Cells.new h12 47 [.slice none 0 0]
      have st13 := storeN_blk c13 (o := 0) (vs := [.slice aP (purgeL es).length cP]) (by simp)
      simp only [List.take_zero, List.nil_append, List.append_nil, List.length_cons, List.length_nil, List.drop_succ_cons, List.drop_zero, Nat.zero_add] at st13
      have d13 := c13.put [.slice aP (purgeL es).length cP]
      have m13 : Same h9 ((h12.new (.cells [.slice none 0 0]) 47).put h12.blks.length (.cells [.slice aP (purgeL es).length cP])) := (m12.trans (Same.new h12 _ _)).put m12.1 _
      have e13 : SE ((h12.new (.cells [.slice none 0 0]) 47).put h12.blks.length (.cells [.slice aP (purgeL es).length cP])) (.slice aP (purgeL es).length cP) (purgeL es) := ((AE.se r12).keepNew _ _).keepPut (fun e => by have := Sl.lt (AE.se r12) e; omega) _
      generalize hh13 : (h12.new (.cells [.slice none 0 0]) 47).put h12.blks.length (.cells [.slice aP (purgeL es).length cP]) = h13 at d13 m13 e13 st13
      have lP : ∀ {h' : Heap}, Same h13 h' → (h'.loadN h12.blks.length 0 1).map (fun cs => Value.agg cs.toArray) = some (.agg #[.slice aP (purgeL es).length cP]) := fun hs => by rw [(d13.same hs).loadN (n := 1) rfl]; rfl
      -- joined with itself
      obtain ⟨a14, c14, h14, q14,Ap, r14⟩ := spec_Join (s9.same m13) (s9.same m13) hw hw (by omega) (by omega)
      rw [join_self hg] at q14 r14
      have p14 := Ap.same
      obtain ⟨a15, c15, h15, q15,Aq, r15⟩ := spec_log1 (AE.se r14) (by omega)
      have p15 := p14.trans Aq.same
      obtain ⟨a16, c16, h16, q16,Ar, r16⟩ := spec_log1 ((s9.same m13).same p15) (by omega)
      have p16 := p15.trans Ar.same
      have q17 := spec_logs (Sl.ext (AR.se r15) Ar) (AR.se r16) (by omega) (by omega)
      rw [decide_eq_true rfl] at q17
      -- in either order
      have hj := join_comm hg hg2
      obtain ⟨a18, c18, h18, q18,At, r18⟩ := spec_Join (h := nm h16) (s9.same (m13.trans p16)).nm (t9.same (m13.trans p16)).nm hw hwf (by omega) (by omega)
      have jl : (joinE es fs).length < 2 ^ 37 := by
        unfold joinE
        rw [if_pos ⟨hg, hg2⟩, srtE_len]
        have g1 := List.length_filter_le (fun x => !bsF fs x && decide ((getM (lastM fs) x.f).getD 0 < x.n)) es
        have g2 := List.length_filter_le (fun x => !bsF es x && decide ((getM (lastM es) x.f).getD 0 < x.n)) fs
        have g3 := List.length_filterMap_le (bothF fs) es
        simp only [List.length_append]
        unfold newsE bothE
        omega
      obtain ⟨At', m18⟩ := At.amx
      have p18 := p16.trans At'.same
      have r18' : SE (am h18 h16) (.slice a18 (joinE es fs).length c18) (joinE es fs) := Sl.keep (h' := am h18 h16) (AE.se r18) fun _ _ _ => rfl
      obtain ⟨a19, c19, h19, q19,Au, r19⟩ := spec_log1 (h := nm (am h18 h16)) r18'.nm (by omega)
      obtain ⟨Au', m19⟩ := Au.amx
      have p19 := p18.trans Au'.same
      have r19' : SE (am h19 (am h18 h16)) (.slice a19 (joinE es fs).length c19) (joinE es fs) := Sl.keep (h' := am h19 (am h18 h16)) (AR.se r19) fun _ _ _ => rfl
      obtain ⟨a20, c20, h20, q20,Av, r20⟩ := spec_Join (t9.same (m13.trans p19)) (s9.same (m13.trans p19)) hwf hw (by omega) (by omega)
      rw [← hj] at q20 r20
      have p20 := p19.trans Av.same
      obtain ⟨a21, c21, h21, q21,Aw, r21⟩ := spec_log1 (AE.se r20) (by omega)
      have p21 := p20.trans Aw.same
      have q22 := spec_logs ((Sl.ext r19' Av).ext Aw) (AR.se r21) (by omega) (by omega)
      rw [decide_eq_true rfl] at q22
      -- what comes of it may be
      obtain ⟨a23, c23, h23, q23,Ay, r23⟩ := spec_Join (s9.same (m13.trans p21)) (t9.same (m13.trans p21)) hw hwf (by omega) (by omega)
      have p23 := p21.trans Ay.same
      obtain ⟨h24, q24,Az⟩ := spec_Good (AE.se r23) (wide_join hw hwf) (by omega)
      rw [srt_join hg hg2] at q24
      have p24 := p23.trans Az.same
      -- once and for all
      obtain ⟨a25, c25, h25, q25,Ba, r25⟩ := spec_Purge (h := nm h24) (e13.same p24).nm hwp (by omega)
      rw [hpp] at q25 r25
      obtain ⟨Ba', m25⟩ := Ba.amx
      have p25 := p24.trans Ba'.same
      have r25' : SE (am h25 h24) (.slice a25 (purgeL es).length c25) (purgeL es) := Sl.keep (h' := am h25 h24) (AE.se r25) fun _ _ _ => rfl
      obtain ⟨a26, c26, h26, q26,Bb, r26⟩ := spec_log1 (h := nm (am h25 h24)) r25'.nm (by omega)
      obtain ⟨Bb', m26⟩ := Bb.amx
      have p26 := p25.trans Bb'.same
      have r26' : SE (am h26 (am h25 h24)) (.slice a26 (purgeL es).length c26) (purgeL es) := Sl.keep (h' := am h26 (am h25 h24)) (AR.se r26) fun _ _ _ => rfl
      have lP1 : (am h26 (am h25 h24)).load1 h12.blks.length 0 = some (.slice aP (purgeL es).length cP) := (d13.same p26).load 0
      obtain ⟨a27, c27, h27, q27,Bc, r27⟩ := spec_log1 (e13.same p26) (by omega)
      have p27 := p26.trans Bc.same
      have q28 := spec_logs (Sl.ext r26' Bc) (AR.se r27) (by omega) (by omega)
      rw [decide_eq_true rfl] at q28
      have lP2 : h27.load1 h12.blks.length 0 = some (.slice aP (purgeL es).length cP) := (d13.same p27).load 0
      simp (maxSteps := 1000000) -implicitDefEqProofs (disch := omega) only [↓c4_0_eq, ↓c4_1_eq, ↓c4_2_eq, ↓c4_3_eq, ↓c4_4_eq, ↓c4_5_eq, ↓c4_6_eq, ↓c4_7_eq, ↓c4_8_eq, ↓c4_9_eq, ↓c4_10_eq, ↓c4_11_eq, ↓c4_12_eq, ↓d4_0_0, ↓d4_0_1, ↓d4_0_2, ↓d4_0_3, ↓d4_0_4, ↓d4_0_5, ↓d4_0_6, ↓d4_0_7, ↓d4_0_8, ↓d4_0_9, ↓d4_0_10, ↓d4_0_11, ↓d4_0_12, ↓d4_0_13, ↓d4_0_14, ↓d4_0_15, ↓d4_0_16, ↓d4_0_17, ↓d4_0_18, ↓d4_0_19, ↓d4_0_20, ↓d4_0_21, ↓d4_0_22, ↓d4_0_23, ↓d4_0_24, ↓d4_0_25, ↓d4_0_26, ↓d4_0_27, ↓d4_0_28, ↓d4_0_29, ↓d4_0_30, ↓d4_0_31, ↓d4_0_32, ↓d4_0_33, ↓d4_0_34, ↓d4_0_35, ↓d4_0_36, ↓d4_0_37, ↓d4_0_38, ↓d4_0_39, ↓d4_0_40, ↓d4_0_41, ↓d4_0_42, ↓d4_0_43, ↓d4_0_44, ↓d4_0_45, ↓d4_0_46, q1, bdL, alL, n7, hh8, stL, stA, stB, lnEs, dcT, dcF, ldL, lA (Same.refl _), q10, lB m10, q11, lA m11, q12, st13, lA m13, q14, fvL, q15, q16, q17, lA (m13.trans p16), lB (m13.trans p16), q18, m18, q19, m19, lA (m13.trans p19), lB (m13.trans p19), q20, q21, q22, lA (m13.trans p21), lB (m13.trans p21), q23, q24, lP p24, q25, m25, q26, m26, faL, ldEs, lP1, q27, q28, lP2, List.nil_append, List.append_nil, ↓ret4, ↓cnd_true, ↓cnd_false, ↓Option.bind_some, ↓obH_some', bin_add, bin_sub, bin_mul, bin_lss, bin_leq, bin_gtr, bin_geq, bin_eql, bin_neq, un_not, un_neg, Option.bind_some, Option.bind_none, Option.map_some, cnd_true, cnd_false, pickV_true, pickV_false, gd_true, gd_false, gdV_true, gdV_false, gdH_true, gdH_false, gdS_true, gdS_false, wt_ff, wt_tt, wt_ft, wt_tf, wt_undef, obH_some', extractV_tuple, nilCheckV_ptr, againK_normal, againK_exit, againK_ret, blockK_normal, blockK_same, blockK_ret, seqK_normal, seqK_exit, seqK_ret, fin_done, if_true', if_false', Bool.not_true, Bool.not_false, idx0, idx1, idx2, idx3, idx4, chk_nil_l, chk_nil_r, done_nm, up_cons, up_nil, cond_true, cond_false, Nat.reduceBEq]
      exact ⟨_, rfl⟩
end Go.Am
namespace Go.Am.Z
open Go.Proofs
set_option maxRecDepth 100000
set_option linter.all false
@[reducible] def xt0 : Xt Try.prog := ⟨fun _ => none⟩
attribute [local instance] xt0
theorem xm0 : XtM Try.prog := ⟨fun _ _ h => by cases h⟩
theorem xo0 : XtOk Try.prog := ⟨fun _ _ h => (by cases h), fun _ _ _ h => (by cases h)⟩
attribute [local instance] xm0 xo0
section
variable {β : Type}
noncomputable abbrev ev : Ev := evC Try.prog
noncomputable abbrev cK (c : Code) (n : Nat) (x : Nat → Value) (h : Heap) (k : Ex → St → Option β) : Option β := codeK Try.prog (evC Try.prog) loopL c ⟨ar n x, h⟩ k
noncomputable abbrev lK (c : Code) (n : Nat) (x : Nat → Value) (h : Heap) (k : Ex → St → Option β) : Option β := loopK Try.prog (evC Try.prog) c ⟨ar n x, h⟩ k
noncomputable abbrev sK (c : Code) (k : Ex → St → Option β) : Ex → St → Option β := seqK Try.prog (evC Try.prog) c k
noncomputable abbrev rD (ops : Array Oper) (j n : Nat) (x : Nat → Value) (h : Heap) (r m : List Nat) (k : St → Option β) : Option β := regD Try.prog (evC Try.prog) ops j ⟨ar n x, h⟩ r m k
variable (x : Nat → Value) (h : Heap) (k : Ex → St → Option β) (r m : List Nat) (g : Heap)
noncomputable def c85_0 : Code := bodyC Try.f85 []
theorem c85_0_eq : cK c85_0 6 x h k =
(bn .neq 3 (x 0) (x 0)).bind fun v0 =>
k .ret ⟨ar 6 (up x [(2,v0),(3,(x 0)),(4,(x 0)),(5,v0)]), h⟩ := by kernel_rfl
theorem call85 (a0 : Value) : evC Try.prog 85 #[a0] h = cK c85_0 6 (up un [(0,a0)]) (nm h) (retK Try.f85 Try.prog h) :=
  (evC_call 85 Try.f85 c85_0 Try.func85 (by kernel_rfl) #[a0] h).trans (by kernel_rfl)
theorem ret85 : retK Try.f85 Try.prog g .ret ⟨ar 6 x, h⟩ = fin g (some (x 2)) h := by kernel_rfl
theorem retn85 : retK Try.f85 Try.prog g .normal ⟨ar 6 x, h⟩ = fin g (some (x 2)) h := by kernel_rfl
noncomputable def c86_0 : Code := bodyC Try.f86 []
theorem c86_0_eq : cK c86_0 6 x h k =
(bn .neq 35 (x 0) (x 0)).bind fun v0 =>
k .ret ⟨ar 6 (up x [(2,v0),(3,(x 0)),(4,(x 0)),(5,v0)]), h⟩ := by kernel_rfl
theorem call86 (a0 : Value) : evC Try.prog 86 #[a0] h = cK c86_0 6 (up un [(0,a0)]) (nm h) (retK Try.f86 Try.prog h) :=
  (evC_call 86 Try.f86 c86_0 Try.func86 (by kernel_rfl) #[a0] h).trans (by kernel_rfl)
theorem ret86 : retK Try.f86 Try.prog g .ret ⟨ar 6 x, h⟩ = fin g (some (x 2)) h := by kernel_rfl
theorem retn86 : retK Try.f86 Try.prog g .normal ⟨ar 6 x, h⟩ = fin g (some (x 2)) h := by kernel_rfl
noncomputable def c71_0 : Code := bodyC Try.f71 []
theorem c71_0_eq : cK c71_0 20 x h k =
obH (ev 85 #[x 0] h) fun v0 h1 =>
obH (ev 85 #[x 1] h1) fun v2 h3 =>
cnd v0 (
cnd v2 (
k .ret ⟨ar 20 (up x [(4,(.int .i64 0)),(5,v0),(6,v2),(7,(x 0)),(8,v0),(9,(x 1)),(10,v2),(11,v0),(12,v2)]), h3⟩) (
k .ret ⟨ar 20 (up x [(4,(.int .i64 (-1))),(5,v0),(6,v2),(7,(x 0)),(8,v0),(9,(x 1)),(10,v2),(11,v0),(12,v2)]), h3⟩)) (
cnd v2 (
k .ret ⟨ar 20 (up x [(4,(.int .i64 1)),(5,v0),(6,v2),(7,(x 0)),(8,v0),(9,(x 1)),(10,v2),(11,v0),(13,v2)]), h3⟩) (
(bn .lss 3 (x 0) (x 1)).bind fun v4 =>
cnd v4 (
k .ret ⟨ar 20 (up x [(4,(.int .i64 (-1))),(5,v0),(6,v2),(7,(x 0)),(8,v0),(9,(x 1)),(10,v2),(11,v0),(13,v2),(14,(x 0)),(15,(x 1)),(16,v4)]), h3⟩) (
(bn .gtr 3 (x 0) (x 1)).bind fun v5 =>
cnd v5 (
k .ret ⟨ar 20 (up x [(4,(.int .i64 1)),(5,v0),(6,v2),(7,(x 0)),(8,v0),(9,(x 1)),(10,v2),(11,v0),(13,v2),(14,(x 0)),(15,(x 1)),(16,v4),(17,(x 0)),(18,(x 1)),(19,v5)]), h3⟩) (
k .ret ⟨ar 20 (up x [(4,(.int .i64 0)),(5,v0),(6,v2),(7,(x 0)),(8,v0),(9,(x 1)),(10,v2),(11,v0),(13,v2),(14,(x 0)),(15,(x 1)),(16,v4),(17,(x 0)),(18,(x 1)),(19,v5)]), h3⟩)))) := by kernel_rfl
theorem call71 (a0 a1 : Value) : evC Try.prog 71 #[a0,a1] h = cK c71_0 20 (up un [(0,a0),(1,a1)]) (nm h) (retK Try.f71 Try.prog h) :=
  (evC_call 71 Try.f71 c71_0 Try.func71 (by kernel_rfl) #[a0,a1] h).trans (by kernel_rfl)
theorem ret71 : retK Try.f71 Try.prog g .ret ⟨ar 20 x, h⟩ = fin g (some (x 4)) h := by kernel_rfl
theorem retn71 : retK Try.f71 Try.prog g .normal ⟨ar 20 x, h⟩ = fin g (some (x 4)) h := by kernel_rfl
noncomputable def c72_0 : Code := bodyC Try.f72 []
theorem c72_0_eq : cK c72_0 20 x h k =
obH (ev 86 #[x 0] h) fun v0 h1 =>
obH (ev 86 #[x 1] h1) fun v2 h3 =>
cnd v0 (
cnd v2 (
k .ret ⟨ar 20 (up x [(4,(.int .i64 0)),(5,v0),(6,v2),(7,(x 0)),(8,v0),(9,(x 1)),(10,v2),(11,v0),(12,v2)]), h3⟩) (
k .ret ⟨ar 20 (up x [(4,(.int .i64 (-1))),(5,v0),(6,v2),(7,(x 0)),(8,v0),(9,(x 1)),(10,v2),(11,v0),(12,v2)]), h3⟩)) (
cnd v2 (
k .ret ⟨ar 20 (up x [(4,(.int .i64 1)),(5,v0),(6,v2),(7,(x 0)),(8,v0),(9,(x 1)),(10,v2),(11,v0),(13,v2)]), h3⟩) (
(bn .lss 35 (x 0) (x 1)).bind fun v4 =>
cnd v4 (
k .ret ⟨ar 20 (up x [(4,(.int .i64 (-1))),(5,v0),(6,v2),(7,(x 0)),(8,v0),(9,(x 1)),(10,v2),(11,v0),(13,v2),(14,(x 0)),(15,(x 1)),(16,v4)]), h3⟩) (
(bn .gtr 35 (x 0) (x 1)).bind fun v5 =>
cnd v5 (
k .ret ⟨ar 20 (up x [(4,(.int .i64 1)),(5,v0),(6,v2),(7,(x 0)),(8,v0),(9,(x 1)),(10,v2),(11,v0),(13,v2),(14,(x 0)),(15,(x 1)),(16,v4),(17,(x 0)),(18,(x 1)),(19,v5)]), h3⟩) (
k .ret ⟨ar 20 (up x [(4,(.int .i64 0)),(5,v0),(6,v2),(7,(x 0)),(8,v0),(9,(x 1)),(10,v2),(11,v0),(13,v2),(14,(x 0)),(15,(x 1)),(16,v4),(17,(x 0)),(18,(x 1)),(19,v5)]), h3⟩)))) := by kernel_rfl
theorem call72 (a0 a1 : Value) : evC Try.prog 72 #[a0,a1] h = cK c72_0 20 (up un [(0,a0),(1,a1)]) (nm h) (retK Try.f72 Try.prog h) :=
  (evC_call 72 Try.f72 c72_0 Try.func72 (by kernel_rfl) #[a0,a1] h).trans (by kernel_rfl)
theorem ret72 : retK Try.f72 Try.prog g .ret ⟨ar 20 x, h⟩ = fin g (some (x 4)) h := by kernel_rfl
theorem retn72 : retK Try.f72 Try.prog g .normal ⟨ar 20 x, h⟩ = fin g (some (x 4)) h := by kernel_rfl
noncomputable def c70_0 : Code := bodyC Try.f70 []
noncomputable def c70_1 : Code := bodyC Try.f70 [true, true, false, true, false, false]
noncomputable def c70_2 : Code := bodyC Try.f70 [true, true, true]
theorem c70_0_eq : cK c70_0 18 x h k =
(ln 43 (x 0) h).bind fun v0 =>
lK c70_1 18 (up x [(2,(.int .i64 0)),(3,(.int .i64 0)),(6,(x 0)),(7,v0),(8,(.int .i64 0))]) h (blockK 0 (sK c70_2 k)) := by kernel_rfl
theorem c70_1_eq : cK c70_1 18 x h k =
(bn .lss 3 (x 8) (x 7)).bind fun v1 =>
cnd v1 (
(ia 43 (x 6) (x 8)).bind fun v2 =>
(ld 3 v2 h).bind fun v3 =>
(bn .neq 3 v3 (x 3)).bind fun v4 =>
cnd v4 (
k .ret ⟨ar 18 (up x [(2,v3),(5,v3),(9,v1),(10,v2),(11,v3),(12,v3),(13,(x 3)),(14,v4),(15,v3)]), h⟩) (
(bn .add 3 (x 8) (.int .i64 1)).bind fun v5 =>
k .normal ⟨ar 18 (up x [(5,v3),(8,v5),(9,v1),(10,v2),(11,v3),(12,v3),(13,(x 3)),(14,v4),(16,v5)]), h⟩)) (
k (.exit 0) ⟨ar 18 (up x [(9,v1)]), h⟩) := by kernel_rfl
theorem c70_2_eq : cK c70_2 18 x h k =
k .ret ⟨ar 18 (up x [(2,(x 3)),(17,(x 3))]), h⟩ := by kernel_rfl
theorem call70 (a0 : Value) : evC Try.prog 70 #[a0] h = cK c70_0 18 (up un [(0,a0)]) (nm h) (retK Try.f70 Try.prog h) :=
  (evC_call 70 Try.f70 c70_0 Try.func70 (by kernel_rfl) #[a0] h).trans (by kernel_rfl)
theorem ret70 : retK Try.f70 Try.prog g .ret ⟨ar 18 x, h⟩ = fin g (some (x 2)) h := by kernel_rfl
theorem retn70 : retK Try.f70 Try.prog g .normal ⟨ar 18 x, h⟩ = fin g (some (x 2)) h := by kernel_rfl
noncomputable def c48_0 : Code := bodyC Try.f48 []
theorem c48_0_eq : cK c48_0 17 x h k =
obH (boxV Try.prog 57 (x 0) h) fun v0 h1 =>
obH (boxV Try.prog 57 (x 1) h1) fun v2 h3 =>
(fa 57 v0 0).bind fun v4 =>
(ld 3 v4 h3).bind fun v5 =>
(fa 57 v2 0).bind fun v6 =>
(ld 3 v6 h3).bind fun v7 =>
obH (ev 71 #[v5,v7] (nm h3)) fun v8 h9 =>
(fa 57 v0 1).bind fun v10 =>
(ld 35 v10 (am h9 h3)).bind fun v11 =>
(fa 57 v2 1).bind fun v12 =>
(ld 35 v12 (am h9 h3)).bind fun v13 =>
obH (ev 72 #[v11,v13] (am h9 h3)) fun v14 h15 =>
obH (buildSliceV Try.prog 43 2 #[(0, v8), (1, v14)] h15) fun v16 h17 =>
obH (ev 70 #[v16] h17) fun v18 h19 =>
chk ((rb v12) ++ ((rb v10) ++ [])) (h9.mods ++ []) (
k .ret ⟨ar 17 (up x [(2,v0),(3,v2),(4,v18),(5,v4),(6,v5),(7,v6),(8,v7),(9,v8),(10,v10),(11,v11),(12,v12),(13,v13),(14,v14),(15,v16),(16,v18)]), h19⟩) := by kernel_rfl
theorem call48 (a0 a1 : Value) : evC Try.prog 48 #[a0,a1] h = cK c48_0 17 (up un [(0,a0),(1,a1)]) (nm h) (retK Try.f48 Try.prog h) :=
  (evC_call 48 Try.f48 c48_0 Try.func48 (by kernel_rfl) #[a0,a1] h).trans (by kernel_rfl)
theorem ret48 : retK Try.f48 Try.prog g .ret ⟨ar 17 x, h⟩ = fin g (some (x 4)) h := by kernel_rfl
theorem retn48 : retK Try.f48 Try.prog g .normal ⟨ar 17 x, h⟩ = fin g (some (x 4)) h := by kernel_rfl
end
attribute [local congr] obind_congr obH_congr cnd_congr chk_congr retK_congr codeK_congr
theorem spec_isNaNI (a : Int) (h : Heap) : evC Try.prog 85 #[.int .i64 a] h = some (.bool false, h) := by
  rw [call85]
  simp -implicitDefEqProofs only [↓c85_0_eq, eq_self, ne_eq, not_true_eq_false, decide_false, ↓ret85, ↓cnd_true, ↓cnd_false, ↓Option.bind_some, ↓obH_some', bin_add, bin_sub, bin_mul, bin_lss, bin_leq, bin_gtr, bin_geq, bin_eql, bin_neq, un_not, un_neg, Option.bind_some, Option.bind_none, Option.map_some, cnd_true, cnd_false, pickV_true, pickV_false, gd_true, gd_false, gdV_true, gdV_false, gdH_true, gdH_false, gdS_true, gdS_false, wt_ff, wt_tt, wt_ft, wt_tf, wt_undef, obH_some', extractV_tuple, nilCheckV_ptr, againK_normal, againK_exit, againK_ret, blockK_normal, blockK_same, blockK_ret, seqK_normal, seqK_exit, seqK_ret, fin_done, if_true', if_false', Bool.not_true, Bool.not_false, idx0, idx1, idx2, idx3, idx4, chk_nil_l, chk_nil_r, done_nm, up_cons, up_nil, cond_true, cond_false, Nat.reduceBEq]
theorem spec_isNaNW (a : Int) (h : Heap) : evC Try.prog 86 #[.int .u64 a] h = some (.bool false, h) := by
  rw [call86]
  simp -implicitDefEqProofs only [↓c86_0_eq, eq_self, ne_eq, not_true_eq_false, decide_false, ↓ret86, ↓cnd_true, ↓cnd_false, ↓Option.bind_some, ↓obH_some', bin_add, bin_sub, bin_mul, bin_lss, bin_leq, bin_gtr, bin_geq, bin_eql, bin_neq, un_not, un_neg, Option.bind_some, Option.bind_none, Option.map_some, cnd_true, cnd_false, pickV_true, pickV_false, gd_true, gd_false, gdV_true, gdV_false, gdH_true, gdH_false, gdS_true, gdS_false, wt_ff, wt_tt, wt_ft, wt_tf, wt_undef, obH_some', extractV_tuple, nilCheckV_ptr, againK_normal, againK_exit, againK_ret, blockK_normal, blockK_same, blockK_ret, seqK_normal, seqK_exit, seqK_ret, fin_done, if_true', if_false', Bool.not_true, Bool.not_false, idx0, idx1, idx2, idx3, idx4, chk_nil_l, chk_nil_r, done_nm, up_cons, up_nil, cond_true, cond_false, Nat.reduceBEq]
def cmpI (a b : Int) : Int := if a < b then -1 else if b < a then 1 else 0
theorem spec_CmpI (a b : Int) (h : Heap) : evC Try.prog 71 #[.int .i64 a, .int .i64 b] h = some (.int .i64 (cmpI a b), h) := by
  rw [call71]
  have e1 := fun h => spec_isNaNI a h
  have e2 := fun h => spec_isNaNI b h
  unfold cmpI
  by_cases h1 : a < b
  · rw [if_pos h1]
    simp -implicitDefEqProofs (disch := omega) only [↓c71_0_eq, dcT, dcF, e1, e2, ↓ret71, ↓cnd_true, ↓cnd_false, ↓Option.bind_some, ↓obH_some', bin_add, bin_sub, bin_mul, bin_lss, bin_leq, bin_gtr, bin_geq, bin_eql, bin_neq, un_not, un_neg, Option.bind_some, Option.bind_none, Option.map_some, cnd_true, cnd_false, pickV_true, pickV_false, gd_true, gd_false, gdV_true, gdV_false, gdH_true, gdH_false, gdS_true, gdS_false, wt_ff, wt_tt, wt_ft, wt_tf, wt_undef, obH_some', extractV_tuple, nilCheckV_ptr, againK_normal, againK_exit, againK_ret, blockK_normal, blockK_same, blockK_ret, seqK_normal, seqK_exit, seqK_ret, fin_done, if_true', if_false', Bool.not_true, Bool.not_false, idx0, idx1, idx2, idx3, idx4, chk_nil_l, chk_nil_r, done_nm, up_cons, up_nil, cond_true, cond_false, Nat.reduceBEq]
  · rw [if_neg h1]
    by_cases h2 : b < a
    · rw [if_pos h2]
      simp -implicitDefEqProofs (disch := omega) only [↓c71_0_eq, dcT, dcF, e1, e2, ↓ret71, ↓cnd_true, ↓cnd_false, ↓Option.bind_some, ↓obH_some', bin_add, bin_sub, bin_mul, bin_lss, bin_leq, bin_gtr, bin_geq, bin_eql, bin_neq, un_not, un_neg, Option.bind_some, Option.bind_none, Option.map_some, cnd_true, cnd_false, pickV_true, pickV_false, gd_true, gd_false, gdV_true, gdV_false, gdH_true, gdH_false, gdS_true, gdS_false, wt_ff, wt_tt, wt_ft, wt_tf, wt_undef, obH_some', extractV_tuple, nilCheckV_ptr, againK_normal, againK_exit, againK_ret, blockK_normal, blockK_same, blockK_ret, seqK_normal, seqK_exit, seqK_ret, fin_done, if_true', if_false', Bool.not_true, Bool.not_false, idx0, idx1, idx2, idx3, idx4, chk_nil_l, chk_nil_r, done_nm, up_cons, up_nil, cond_true, cond_false, Nat.reduceBEq]
    · rw [if_neg h2]
      simp -implicitDefEqProofs (disch := omega) only [↓c71_0_eq, dcT, dcF, e1, e2, ↓ret71, ↓cnd_true, ↓cnd_false, ↓Option.bind_some, ↓obH_some', bin_add, bin_sub, bin_mul, bin_lss, bin_leq, bin_gtr, bin_geq, bin_eql, bin_neq, un_not, un_neg, Option.bind_some, Option.bind_none, Option.map_some, cnd_true, cnd_false, pickV_true, pickV_false, gd_true, gd_false, gdV_true, gdV_false, gdH_true, gdH_false, gdS_true, gdS_false, wt_ff, wt_tt, wt_ft, wt_tf, wt_undef, obH_some', extractV_tuple, nilCheckV_ptr, againK_normal, againK_exit, againK_ret, blockK_normal, blockK_same, blockK_ret, seqK_normal, seqK_exit, seqK_ret, fin_done, if_true', if_false', Bool.not_true, Bool.not_false, idx0, idx1, idx2, idx3, idx4, chk_nil_l, chk_nil_r, done_nm, up_cons, up_nil, cond_true, cond_false, Nat.reduceBEq]
theorem spec_CmpW (a b : Int) (h : Heap) : evC Try.prog 72 #[.int .u64 a, .int .u64 b] h = some (.int .i64 (cmpI a b), h) := by
  rw [call72]
  have e1 := fun h => spec_isNaNW a h
  have e2 := fun h => spec_isNaNW b h
  unfold cmpI
  by_cases h1 : a < b
  · rw [if_pos h1]
    simp -implicitDefEqProofs (disch := omega) only [↓c72_0_eq, dcT, dcF, e1, e2, ↓ret72, ↓cnd_true, ↓cnd_false, ↓Option.bind_some, ↓obH_some', bin_add, bin_sub, bin_mul, bin_lss, bin_leq, bin_gtr, bin_geq, bin_eql, bin_neq, un_not, un_neg, Option.bind_some, Option.bind_none, Option.map_some, cnd_true, cnd_false, pickV_true, pickV_false, gd_true, gd_false, gdV_true, gdV_false, gdH_true, gdH_false, gdS_true, gdS_false, wt_ff, wt_tt, wt_ft, wt_tf, wt_undef, obH_some', extractV_tuple, nilCheckV_ptr, againK_normal, againK_exit, againK_ret, blockK_normal, blockK_same, blockK_ret, seqK_normal, seqK_exit, seqK_ret, fin_done, if_true', if_false', Bool.not_true, Bool.not_false, idx0, idx1, idx2, idx3, idx4, chk_nil_l, chk_nil_r, done_nm, up_cons, up_nil, cond_true, cond_false, Nat.reduceBEq]
  · rw [if_neg h1]
    by_cases h2 : b < a
    · rw [if_pos h2]
      simp -implicitDefEqProofs (disch := omega) only [↓c72_0_eq, dcT, dcF, e1, e2, ↓ret72, ↓cnd_true, ↓cnd_false, ↓Option.bind_some, ↓obH_some', bin_add, bin_sub, bin_mul, bin_lss, bin_leq, bin_gtr, bin_geq, bin_eql, bin_neq, un_not, un_neg, Option.bind_some, Option.bind_none, Option.map_some, cnd_true, cnd_false, pickV_true, pickV_false, gd_true, gd_false, gdV_true, gdV_false, gdH_true, gdH_false, gdS_true, gdS_false, wt_ff, wt_tt, wt_ft, wt_tf, wt_undef, obH_some', extractV_tuple, nilCheckV_ptr, againK_normal, againK_exit, againK_ret, blockK_normal, blockK_same, blockK_ret, seqK_normal, seqK_exit, seqK_ret, fin_done, if_true', if_false', Bool.not_true, Bool.not_false, idx0, idx1, idx2, idx3, idx4, chk_nil_l, chk_nil_r, done_nm, up_cons, up_nil, cond_true, cond_false, Nat.reduceBEq]
    · rw [if_neg h2]
      simp -implicitDefEqProofs (disch := omega) only [↓c72_0_eq, dcT, dcF, e1, e2, ↓ret72, ↓cnd_true, ↓cnd_false, ↓Option.bind_some, ↓obH_some', bin_add, bin_sub, bin_mul, bin_lss, bin_leq, bin_gtr, bin_geq, bin_eql, bin_neq, un_not, un_neg, Option.bind_some, Option.bind_none, Option.map_some, cnd_true, cnd_false, pickV_true, pickV_false, gd_true, gd_false, gdV_true, gdV_false, gdH_true, gdH_false, gdS_true, gdS_false, wt_ff, wt_tt, wt_ft, wt_tf, wt_undef, obH_some', extractV_tuple, nilCheckV_ptr, againK_normal, againK_exit, againK_ret, blockK_normal, blockK_same, blockK_ret, seqK_normal, seqK_exit, seqK_ret, fin_done, if_true', if_false', Bool.not_true, Bool.not_false, idx0, idx1, idx2, idx3, idx4, chk_nil_l, chk_nil_r, done_nm, up_cons, up_nil, cond_true, cond_false, Nat.reduceBEq]
theorem spec_Or {h : Heap} {p c : Nat} (a b : Int) (hc : Cells h p 3 [.int .i64 a, .int .i64 b]) : evC Try.prog 70 #[.slice (some ⟨p, 0, none⟩) 2 c] h = some (.int .i64 (if a = 0 then b else a), h) := by
  rw [call70]
  have l0 : (nm h).load1 p 0 = some (.int .i64 a) := hc.nm.load 0
  have l1 : (nm h).load1 p 1 = some (.int .i64 b) := hc.nm.load 1
  have w1 : IntKind.i64.wrap (0 + 1) = 1 := rfl
  have w2 : IntKind.i64.wrap (1 + 1) = 2 := rfl
  by_cases h1 : a = 0
  · rw [if_pos h1]
    by_cases h2 : b = 0
    · simp -implicitDefEqProofs (disch := omega) only [↓c70_0_eq, ↓c70_1_eq, ↓c70_2_eq, ↓loopK_eq evC_m, dcT, dcF, lnI, iaI0, iaI1, ldI, l0, l1, w1, w2, ↓ret70, ↓cnd_true, ↓cnd_false, ↓Option.bind_some, ↓obH_some', bin_add, bin_sub, bin_mul, bin_lss, bin_leq, bin_gtr, bin_geq, bin_eql, bin_neq, un_not, un_neg, Option.bind_some, Option.bind_none, Option.map_some, cnd_true, cnd_false, pickV_true, pickV_false, gd_true, gd_false, gdV_true, gdV_false, gdH_true, gdH_false, gdS_true, gdS_false, wt_ff, wt_tt, wt_ft, wt_tf, wt_undef, obH_some', extractV_tuple, nilCheckV_ptr, againK_normal, againK_exit, againK_ret, blockK_normal, blockK_same, blockK_ret, seqK_normal, seqK_exit, seqK_ret, fin_done, if_true', if_false', Bool.not_true, Bool.not_false, idx0, idx1, idx2, idx3, idx4, chk_nil_l, chk_nil_r, done_nm, up_cons, up_nil, cond_true, cond_false, Nat.reduceBEq]
      rw [h2]
    · simp -implicitDefEqProofs (disch := omega) only [↓c70_0_eq, ↓c70_1_eq, ↓c70_2_eq, ↓loopK_eq evC_m, dcT, dcF, lnI, iaI0, iaI1, ldI, l0, l1, w1, w2, ↓ret70, ↓cnd_true, ↓cnd_false, ↓Option.bind_some, ↓obH_some', bin_add, bin_sub, bin_mul, bin_lss, bin_leq, bin_gtr, bin_geq, bin_eql, bin_neq, un_not, un_neg, Option.bind_some, Option.bind_none, Option.map_some, cnd_true, cnd_false, pickV_true, pickV_false, gd_true, gd_false, gdV_true, gdV_false, gdH_true, gdH_false, gdS_true, gdS_false, wt_ff, wt_tt, wt_ft, wt_tf, wt_undef, obH_some', extractV_tuple, nilCheckV_ptr, againK_normal, againK_exit, againK_ret, blockK_normal, blockK_same, blockK_ret, seqK_normal, seqK_exit, seqK_ret, fin_done, if_true', if_false', Bool.not_true, Bool.not_false, idx0, idx1, idx2, idx3, idx4, chk_nil_l, chk_nil_r, done_nm, up_cons, up_nil, cond_true, cond_false, Nat.reduceBEq]
  · rw [if_neg h1]
    simp -implicitDefEqProofs (disch := omega) only [↓c70_0_eq, ↓c70_1_eq, ↓c70_2_eq, ↓loopK_eq evC_m, dcT, dcF, lnI, iaI0, iaI1, ldI, l0, l1, w1, w2, ↓ret70, ↓cnd_true, ↓cnd_false, ↓Option.bind_some, ↓obH_some', bin_add, bin_sub, bin_mul, bin_lss, bin_leq, bin_gtr, bin_geq, bin_eql, bin_neq, un_not, un_neg, Option.bind_some, Option.bind_none, Option.map_some, cnd_true, cnd_false, pickV_true, pickV_false, gd_true, gd_false, gdV_true, gdV_false, gdH_true, gdH_false, gdS_true, gdS_false, wt_ff, wt_tt, wt_ft, wt_tf, wt_undef, obH_some', extractV_tuple, nilCheckV_ptr, againK_normal, againK_exit, againK_ret, blockK_normal, blockK_same, blockK_ret, seqK_normal, seqK_exit, seqK_ret, fin_done, if_true', if_false', Bool.not_true, Bool.not_false, idx0, idx1, idx2, idx3, idx4, chk_nil_l, chk_nil_r, done_nm, up_cons, up_nil, cond_true, cond_false, Nat.reduceBEq]
theorem cmpE_or (x y : E3) : (if cmpI x.f y.f = 0 then cmpI x.n y.n else cmpI x.f y.f) = cmpE x y := by
  unfold cmpE cmpI
  by_cases h1 : x.f < y.f
  · simp [h1]
  · by_cases h2 : y.f < x.f
    · simp [h1, h2]
    · have : (x.n : Int) < y.n ↔ x.n < y.n := Int.ofNat_lt
      have : (y.n : Int) < x.n ↔ y.n < x.n := Int.ofNat_lt
      simp [h1, h2]
theorem spec_order (x y : E3) (h : Heap) : ∃ h', evC Try.prog 48 #[entV x, entV y] h = some (.int .i64 (cmpE x y), h') ∧ HExt h h' := by
  rw [call48]
  have c1 : Cells (((nm h).new (.cells [.int .i64 x.f, .int .u64 x.n, .int .u64 x.t]) 57).new (.cells [.int .i64 y.f, .int .u64 y.n, .int .u64 y.t]) 57) (nm h).blks.length 57 [.int .i64 x.f, .int .u64 x.n, .int .u64 x.t] := (Cells.new _ _ _).keepNew _ _
  have c2 := Cells.new ((nm h).new (.cells [.int .i64 x.f, .int .u64 x.n, .int .u64 x.t]) 57) 57 [.int .i64 y.f, .int .u64 y.n, .int .u64 y.t]
  have k2 : In h.blks.length No (nm h) (((nm h).new (.cells [.int .i64 x.f, .int .u64 x.n, .int .u64 x.t]) 57).new (.cells [.int .i64 y.f, .int .u64 y.n, .int .u64 y.t]) 57) :=
    In.trans (In.new (h := nm h) (Nat.le_refl h.blks.length) _ _) (In.new (by simp [Heap.new]) _ _)
  generalize hp1 : ((nm h).new (.cells [.int .i64 x.f, .int .u64 x.n, .int .u64 x.t]) 57).blks.length = p1 at c2
  generalize hp0 : (nm h).blks.length = p0 at c1
  generalize hh2 : ((nm h).new (.cells [.int .i64 x.f, .int .u64 x.n, .int .u64 x.t]) 57).new (.cells [.int .i64 y.f, .int .u64 y.n, .int .u64 y.t]) 57 = h2 at c1 c2 k2
  have la : h2.load1 p0 0 = some (.int .i64 x.f) := c1.load 0
  have lb : h2.load1 p0 1 = some (.int .u64 x.n) := c1.load 1
  have lc : h2.load1 p1 0 = some (.int .i64 y.f) := c2.load 0
  have ld : h2.load1 p1 1 = some (.int .u64 y.n) := c2.load 1
  have k3 := k2.trans (In.new (Nat.le_trans k2.le k2.len) (.cells [.int .i64 (cmpI x.f y.f), .int .i64 (cmpI x.n y.n)]) 3)
  have e3 := spec_Or (c := 2) _ _ (Cells.new h2 3 [.int .i64 (cmpI x.f y.f), .int .i64 (cmpI x.n y.n)])
  rw [cmpE_or] at e3
  refine ⟨_, ?_, done_ext' k3⟩
  simp -implicitDefEqProofs (disch := omega) only [↓c48_0_eq, entV, bxE, hp0, hp1, hh2, faE0, faE1, ldI, ldU, la, lb, lc, ld, spec_CmpI, spec_CmpW, am_nm, nm_load1, nm_mods, List.nil_append, List.append_nil, lsI2', e3, ↓ret48, ↓cnd_true, ↓cnd_false, ↓Option.bind_some, ↓obH_some', bin_add, bin_sub, bin_mul, bin_lss, bin_leq, bin_gtr, bin_geq, bin_eql, bin_neq, un_not, un_neg, Option.bind_some, Option.bind_none, Option.map_some, cnd_true, cnd_false, pickV_true, pickV_false, gd_true, gd_false, gdV_true, gdV_false, gdH_true, gdH_false, gdS_true, gdS_false, wt_ff, wt_tt, wt_ft, wt_tf, wt_undef, obH_some', extractV_tuple, nilCheckV_ptr, againK_normal, againK_exit, againK_ret, blockK_normal, blockK_same, blockK_ret, seqK_normal, seqK_exit, seqK_ret, fin_done, if_true', if_false', Bool.not_true, Bool.not_false, idx0, idx1, idx2, idx3, idx4, chk_nil_l, chk_nil_r, done_nm, up_cons, up_nil, cond_true, cond_false, Nat.reduceBEq]
end Go.Am.Z
namespace Go.Proofs
open Go.Shelf
def srtLay_ren : Go.Shelf.Ren := ⟨fun | 6 => 52 | 15 => 76 | 14 => 75 | 28 => 95 | 29 => 96 | 20 => 87 | 21 => 88 | 22 => 89 | 23 => 90 | 24 => 91 | 25 => 92 | 26 => 93 | 27 => 94 | 46 => 99 | 47 => 100 | 48 => 101 | 49 => 102 | 50 => 103 | 57 => 105 | n => n, fun | 22 => 45 | 24 => 57 | 25 => 98 | 3 => 3 | 39 => 114 | 0 => 0 | 53 => 154 | 55 => 35 | 4 => 4 | 46 => 148 | 45 => 147 | 50 => 39 | 5 => 5 | 9 => 9 | 66 => 156 | 70 => 160 | 76 => 163 | 77 => 164 | n => n, fun | n => n⟩
theorem srtLay : Go.Proofs.SlLaysF0.n6 Try.prog srtLay_ren := { mixed := by kernel_rfl, f6 := ⟨Try.f52.name, by decide, Try.func52.trans (congrArg some (by kernel_rfl))⟩, f14 := ⟨Try.f75.name, by decide, Try.func75.trans (congrArg some (by kernel_rfl))⟩, f15 := Try.func76.trans (congrArg some (by kernel_rfl)), f20 := ⟨Try.f87.name, by decide, Try.func87.trans (congrArg some (by kernel_rfl))⟩, f21 := ⟨Try.f88.name, by decide, Try.func88.trans (congrArg some (by kernel_rfl))⟩, f22 := ⟨Try.f89.name, by decide, Try.func89.trans (congrArg some (by kernel_rfl))⟩, f23 := ⟨Try.f90.name, by decide, Try.func90.trans (congrArg some (by kernel_rfl))⟩, f24 := ⟨Try.f91.name, by decide, Try.func91.trans (congrArg some (by kernel_rfl))⟩, f25 := ⟨Try.f92.name, by decide, Try.func92.trans (congrArg some (by kernel_rfl))⟩, f26 := ⟨Try.f93.name, by decide, Try.func93.trans (congrArg some (by kernel_rfl))⟩, f27 := ⟨Try.f94.name, by decide, Try.func94.trans (congrArg some (by kernel_rfl))⟩, f28 := Try.func95.trans (congrArg some (by kernel_rfl)), f29 := Try.func96.trans (congrArg some (by kernel_rfl)), f46 := ⟨Try.f99.name, by decide, Try.func99.trans (congrArg some (by kernel_rfl))⟩, f47 := Try.func100.trans (congrArg some (by kernel_rfl)), f48 := Try.func101.trans (congrArg some (by kernel_rfl)), f49 := ⟨Try.f102.name, by decide, Try.func102.trans (congrArg some (by kernel_rfl))⟩, f50 := ⟨Try.f103.name, by decide, Try.func103.trans (congrArg some (by kernel_rfl))⟩, f57 := ⟨Try.f105.name, by decide, Try.func105.trans (congrArg some (by kernel_rfl))⟩, t0 := Try.underlying0, a0 := Try.isAgg0, z0 := Try.sizeOf0, v0 := Try.zeroValue0, t3 := Try.underlying3, a3 := Try.isAgg3, z3 := Try.sizeOf3, v3 := Try.zeroValue3, t4 := Try.underlying4, a4 := Try.isAgg4, z4 := Try.sizeOf4, v4 := Try.zeroValue4, t5 := Try.underlying5, a5 := Try.isAgg5, z5 := Try.sizeOf5, v5 := Try.zeroValue5, t9 := Try.underlying9, a9 := Try.isAgg9, z9 := Try.sizeOf9, v9 := Try.zeroValue9, t22 := Try.underlying45, a22 := Try.isAgg45, z22 := Try.sizeOf45, v22 := Try.zeroValue45, t25 := Try.underlying98, a25 := Try.isAgg98, z25 := Try.sizeOf98, v25 := Try.zeroValue98, t39 := Try.underlying114, a39 := Try.isAgg114, z39 := Try.sizeOf114, v39 := Try.zeroValue114, t45 := Try.underlying147, a45 := Try.isAgg147, z45 := Try.sizeOf147, v45 := Try.zeroValue147, t46 := Try.underlying148, a46 := Try.isAgg148, z46 := Try.sizeOf148, v46 := Try.zeroValue148, t50 := Try.underlying39, a50 := Try.isAgg39, z50 := Try.sizeOf39, v50 := Try.zeroValue39, t53 := Try.underlying154, a53 := Try.isAgg154, z53 := Try.sizeOf154, v53 := Try.zeroValue154, t55 := Try.underlying35, a55 := Try.isAgg35, z55 := Try.sizeOf35, v55 := Try.zeroValue35, t66 := Try.underlying156, a66 := Try.isAgg156, z66 := Try.sizeOf156, v66 := Try.zeroValue156, t70 := Try.underlying160, a70 := Try.isAgg160, z70 := Try.sizeOf160, v70 := Try.zeroValue160, t76 := Try.underlying163, a76 := Try.isAgg163, z76 := Try.sizeOf163, v76 := Try.zeroValue163, t77 := Try.underlying164, a77 := Try.isAgg164, z77 := Try.sizeOf164, v77 := Try.zeroValue164 }
end Go.Proofs
namespace Go.Am
open Go.Proofs Go.Sort
set_option maxRecDepth 100000
set_option linter.all false
theorem mixedT : Try.prog.follows .mixedOrders = true := by kernel_rfl
theorem grown_of {h : Heap} {W W' : World} (fr : Fr noE h W W') : ∃ q os', W' = grow (W.drewN q) os' := by
  have hb : ∀ c, c < W.heap.size → W'.heap[c]? = W.heap[c]? := fun c hc => fr.blk c hc fun ⟨b, k, l, _, h1, _⟩ => by cases h1
  have ho := fr.os
  have ht := fr.tape
  have hu := fr.output
  have hs := fr.size
  have hd := fr.drawn
  obtain ⟨heap, tape, drawn, os, output⟩ := W
  obtain ⟨heap', tape', drawn', os', output'⟩ := W'
  simp only at ho ht hu hs hd hb
  subst ho ht hu
  refine ⟨drawn' - drawn, heap'.extract heap.size heap'.size, ?_⟩
  unfold grow World.drewN
  simp only
  congr 1
  · apply Array.ext_getElem?
    intro c
    rcases Nat.lt_or_ge c heap.size with h1 | h1
    · rw [Array.getElem?_append_left h1, ← hb c h1]
    · rw [Array.getElem?_append_right h1, Array.getElem?_extract]
      split
      · rename_i h2; rw [show heap.size + (c - heap.size) = c by omega]
      · rename_i h2; rw [Array.getElem?_eq_none (by omega)]
  · omega
theorem ent_list (x : E3) : (entC x).toArray = #[.int .i64 x.f, .int .u64 x.n, .int .u64 x.t] := rfl
theorem cmp_lays (blk off size : Nat) (w : World) : CmpLays Try.prog 48 #[] entC 3 cmpE blk off size w := fun m os dk _ x y => by
  obtain ⟨h', he, _⟩ := Z.spec_order x y ⟨[], []⟩
  have hA : ARel noE #[entV x, entV y] #[.agg (entC x).toArray, .agg (entC y).toArray] := ⟨rfl, fun i h1 h2 => by
    have : i = 0 ∨ i = 1 := by simp at h1; omega
    rcases this with rfl | rfl
    · exact VR.of_ground (v := entV x) (by simp [ground, entV, ground0])
    · exact VR.of_ground (v := entV y) (by simp [ground, entV, ground0])⟩
  rw [Array.append_empty]
  refine (@evC_sound _ Z.xt0 Z.xo0 mixedT (sortWorldK entC 3 w blk off m dk os).heap.size 48 #[entV x, entV y] ⟨[], []⟩ _ h' noE _ _ he (rel_none _) hA (fun b _ _ => rfl)).mono ?_
  rintro e W' ⟨v', E', h1, h2, h3⟩
  cases h3
  exact ⟨h1, grown_of h2.fr⟩
theorem swo : SWO (ltOf cmpE) := by
  have key : ∀ x y : E3, ltOf cmpE x y = decide (x.f < y.f ∨ x.f = y.f ∧ x.n < y.n) := fun x y => by
    unfold ltOf cmpE
    by_cases h1 : x.f < y.f
    · simp [h1]
    · by_cases h2 : y.f < x.f
      · have : ¬ (x.f = y.f) := by omega
        simp [h1, h2, this]
      · have : x.f = y.f := by omega
        by_cases h3 : x.n < y.n
        · simp [h1, h2, h3, this]
        · by_cases h4 : y.n < x.n <;> simp [h1, h2, h3, h4, this]
  constructor
  · intro x; rw [key]; simp
  · intro x y z h1 h2; rw [key] at *; simp at *; omega
  · intro x y z h1 h2; rw [key] at *; simp at *; omega
theorem flatK_ent (l : List E3) : (flatK entC 3 l.toArray).toList = entL l := by
  have key : ∀ (l : List E3) (t : Nat), t < l.length * 3 → (entC (l.getD (t / 3) default))[t % 3]! = (entL l)[t]! := by
    intro l
    induction l with
    | nil => intro t ht; simp at ht
    | cons e l ih =>
      intro t ht
      rcases Nat.lt_or_ge t 3 with h | h
      · have : t = 0 ∨ t = 1 ∨ t = 2 := by omega
        rcases this with rfl | rfl | rfl <;> rfl
      · obtain ⟨u, rfl⟩ : ∃ u, t = u + 3 := ⟨t - 3, by omega⟩
        rw [show (u + 3) / 3 = u / 3 + 1 by omega, show (u + 3) % 3 = u % 3 by omega]
        simp only [List.getD_cons_succ]
        rw [ih u (by simp at ht; omega)]
        rfl
  apply List.ext_getElem
  · simp [entL_len]
  · intro t h1 h2
    have ht : t < l.length * 3 := by rw [entL_len] at h2; exact h2
    have := key l t ht
    rw [getElem!_pos (entL l) t h2] at this
    rw [← this]
    simp only [flatK, Array.toList_map, Array.toList_range, List.getElem_map, List.getElem_range]
    congr 1
    simp [getElem!_def, List.getD_eq_getElem?_getD]
    cases l[t / 3]? <;> rfl
theorem setCells_sort {w : World} {blk off : Nat} {l : List E3} (hH : HoldsK entC 3 w blk off l.toArray) (d : Array E3) (hd : d.size = l.length) : w.setCells blk off (entL d.toList) = putRowK entC 3 w blk off d := by
  have e0 := putRow_self id w blk off _ hH
  have e1 := setCells_putRow w blk off (entL d.toList) 0 (flatK entC 3 l.toArray) (by rw [entL_len, size_flatK]; simp [hd])
  rw [e0, Nat.add_zero] at e1
  rw [e1]
  unfold putRowK
  congr 1
  refine ext_get! (by simp [hd]) fun t ht => ?_
  have ht' : t < (flatK entC 3 l.toArray).size := by simpa using ht
  have hlen : (entL d.toList).length = (flatK entC 3 l.toArray).size := by rw [entL_len, size_flatK]; simp [hd]
  rw [get_setMany _ _ _ _ ht', if_pos (by omega), Nat.sub_zero]
  have := flatK_ent d.toList
  simp only [Array.toArray_toList] at this
  rw [← this]
  simp [getElem!_def]
theorem Post.grown {P : Program} {base : Nat} {E : Env} {h h' : Heap} {w w1 : World} (p : Post P base E h w E h' w1) (os : Array Obj) : Post P base E h w E h' (grow w1 os) := by
  have hb : ∀ c, c < w1.heap.size → (grow w1 os).heap[c]? = w1.heap[c]? := fun c hc => by
    unfold grow
    exact Array.getElem?_append_left hc
  refine ⟨p.ext, p.dom, ⟨fun b k l hk hl => (p.rel.blk b k l hk hl).congr (Ext.refl _) (hb _ (p.rel.bnd b l hl)), p.rel.low, p.rel.ro, fun b l hl => ?_, p.rel.inj, ?_⟩, ⟨p.fr.os, p.fr.tape, p.fr.output, ?_, fun c hc hm => ?_, p.fr.drawn⟩, p.orig⟩
  · have := p.rel.bnd b l hl
    simp [grow]; omega
  · have := p.rel.base
    simp [grow]; omega
  · have := p.fr.size
    simp [grow]; omega
  · rw [hb c (Nat.lt_of_lt_of_le hc p.fr.size)]; exact p.fr.blk c hc hm
theorem Post.drewN {P : Program} {base : Nat} {E : Env} {h h' : Heap} {w w1 : World} (n : Nat) (p : Post P base E h (w.drewN n) E h' w1) : Post P base E h w E h' w1 :=
  ⟨p.ext, p.dom, p.rel, ⟨p.fr.os, p.fr.tape, p.fr.output, p.fr.size, p.fr.blk, Nat.le_trans (Nat.le_add_right _ _) p.fr.drawn⟩, p.orig⟩
theorem VR.func_inv {E : Env} {fn : Fn} {f c : Array Value} {x : Value} (h : VR E (.func fn f c) x) (hf : f.size = 0) (hc : c.size = 0) : x = .func fn #[] #[] := by
  cases h with
  | func h1 _ h2 _ =>
    rw [hf] at h1
    rw [hc] at h2
    congr 1
    · exact Array.eq_empty_of_size_eq_zero h1.symm
    · exact Array.eq_empty_of_size_eq_zero h2.symm
theorem enters_order : ∀ args w, (callFunc 48 args).run Try.prog w = .ok (.enter 48 args) w := enters_of Try.func48 (by kernel_rfl) rfl
theorem aggE : ∀ w, (isAgg 57).run Try.prog w = .ok true w := fun w => by simpa using run_isAggT (P := Try.prog) (t := 57) (b := true) (by kernel_rfl) w
theorem sizE : ∀ w, (Go.sizeOf 57).run Try.prog w = .ok 3 w := fun w => run_sizeT (P := Try.prog) (t := 57) (by kernel_rfl) w
theorem pdq_size (l : List E3) : (pdq (ltOf cmpE) l.toArray 0 l.toArray.size (Lib.bitLen l.toArray.size) true true).size = l.length := by
  have h := pdq_sorts (ltOf cmpE) swo l.toArray 0 l.toArray.size (Lib.bitLen l.toArray.size) true true (Nat.zero_le _) (Nat.le_refl _) (Or.inl rfl)
  rw [h.1.1]; simp
theorem sort_sound (base : Nat) (args : Array Value) (h : Heap) (v : Value) (h' : Heap) (E : Env) (w : World) (args' : Array Value) (hv : sortX 48 args h = some (v, h')) (hR : Rel Try.prog base E h w) (ha : ARel E args args') :
    Calls Try.prog 52 args' w fun e w' => ∃ v' E', e = .returned v' ∧ Post Try.prog base E h w E' h' w' ∧ VR E' v v' := by
  have two : ∀ x y, args.toList = [x, y] → ∃ x' y', args' = #[x', y'] ∧ VR E x x' ∧ VR E y y' := fun x y he => by
    have hl := ha.list
    rw [he] at hl
    obtain ⟨x', h1, r1⟩ := hl.2 0 x rfl
    obtain ⟨y', h2, r2⟩ := hl.2 1 y rfl
    have h3 := hl.1
    refine ⟨x', y', ?_, r1, r2⟩
    obtain ⟨l⟩ := args'
    match l, h3, h1, h2 with
    | [a, b], _, h1, h2 => cases h1; cases h2; rfl
  unfold sortX at hv
  split at hv
  · rename_i ad n c f x y he
    split at hv
    · rename_i hc
      obtain ⟨rfl, hx, hy, hn2⟩ := hc
      split at hv
      · rename_i hn0
        subst hn0
        cases hv
        obtain ⟨x', y', rfl, r1, r2⟩ := two _ _ he
        rw [r2.func_inv hx hy]
        have : ∃ p' c', x' = .slice p' 0 c' := by cases r1 <;> exact ⟨_, _, rfl⟩
        obtain ⟨p', c', rfl⟩ := this
        exact (AnyF.slices_SortFunc_none srtLay p' c' _ w).mono fun e w' ⟨h1, h2⟩ => ⟨_, E, h1, by rw [h2]; exact Post.refl hR, VR.undef⟩
      · rename_i hn0
        have hn : 0 < n := Nat.pos_of_ne_zero hn0
        split at hv
        · rename_i b o
          split at hv
          · rename_i cs hcs
            split at hv
            · rename_i l hl
              obtain ⟨h1, hs, hq⟩ := Option.map_eq_some_iff.1 hv
              cases hq
              obtain ⟨x', y', rfl, r1, r2⟩ := two _ _ he
              rw [r2.func_inv hx hy]
              have hcse := e3Of_inv _ _ hl
              subst hcse
              have hlen := loadN_len hcs
              rw [entL_len] at hlen
              have hln : l.length = n := by omega
              cases r1 with
              | sliceEmpty => omega
              | @slice _ _ _ _ c' l0 hE _ _ _ =>
                have hst : ∃ cs0 ty, h.blks[b]? = some ⟨.cells cs0, ty, true⟩ ∧ o + n * 3 ≤ cs0.length := by
                  unfold Heap.storeN at hs
                  split at hs
                  · rename_i cs0 ty hk
                    refine ⟨cs0, ty, hk, ?_⟩
                    unfold Heap.loadN Heap.cells? at hcs
                    rw [hk] at hcs
                    simp only at hcs
                    split at hcs
                    · assumption
                    · cases hcs
                  · cases hs
                obtain ⟨cs0, ty, hk, hle⟩ := hst
                obtain ⟨oc, oe, lo, hi, hheap, hsz, _, hfz⟩ := (hR.blk b _ l0 hk hE).2.2 rfl
                obtain ⟨cs', hLr, hcell⟩ := loadN_read hR hcs hE
                have hcell' : ∀ (j : Nat) v, (entL l)[j]? = some v → w.cell? ⟨l0.cb, l0.s + o + j, none⟩ = some v := fun j v hj => by
                  obtain ⟨v', h2, h3⟩ := hLr.2 j v hj
                  have hg : ground v = true := by
                    have : ∀ (l : List E3) (j : Nat) v, (entL l)[j]? = some v → ground v = true := by
                      intro l
                      induction l with
                      | nil => intro j v h; simp [entL] at h
                      | cons e l ih =>
                        intro j v h
                        match j, h with
                        | 0, h => cases h; rfl
                        | 1, h => cases h; rfl
                        | 2, h => cases h; rfl
                        | j + 3, h => exact ih j v h
                    exact this l j v hj
                  rw [h3.ground_eq hg] at h2
                  rw [Nat.add_assoc]
                  exact hcell j v h2
                have hH : HoldsK entC 3 w l0.cb (l0.s + o) l.toArray := fun j hj => by
                  have hj' : j < (entL l).length := by rw [entL_len]; simpa using hj
                  have e1 : (flatK entC 3 l.toArray)[j]! = (entL l)[j] := by
                    rw [← getElem!_pos (entL l) j hj', ← flatK_ent l]; simp [getElem!_def]
                  have h2 := hcell' j _ (List.getElem?_eq_getElem hj')
                  refine ⟨by rw [h2]; simp only [id]; rw [e1], ?_⟩
                  have hlt : l0.s + o + j < oc.size := by
                    simp only [World.cell?, hheap] at h2
                    have := (Array.getElem?_eq_some_iff.1 (by simpa using h2)).1
                    exact this
                  simp only [World.frozen?, hheap]
                  simp
                  omega
                have hlt : l0.cb < w.heap.size := hR.bnd b l0 hE
                have hcon := AnyQ.slices_SortFunc_eq srtLay 3 aggE sizE entC (fun _ => rfl) (fun x v hv => by simp [entC] at hv; rcases hv with rfl | rfl | rfl <;> rfl) cmpE swo 48 #[] l0.cb (l0.s + o) c' l.toArray w enters_order (cmp_lays _ _ _ _) hH hlt (by simp; omega)
                rw [show l.toArray.size = n by simpa using hln] at hcon
                refine hcon.mono ?_
                rintro e w' ⟨h2, m, os, h3⟩
                refine ⟨_, E, h2, ?_, VR.undef⟩
                have hRn : Rel Try.prog base E h (w.drewN m) := Rel.drawn hR _
                have hHn : HoldsK entC 3 (w.drewN m) l0.cb (l0.s + o) l.toArray := hH
                obtain ⟨w2, hw2, hp2⟩ := storeN_run hRn hs hE (vs' := entL (srtE l)) ⟨rfl, fun i v hv => ⟨v, hv, by
                  have : ∀ (l : List E3) (j : Nat) v, (entL l)[j]? = some v → ground v = true := by
                    intro l
                    induction l with
                    | nil => intro j v h; simp [entL] at h
                    | cons e l ih =>
                      intro j v h
                      match j, h with
                      | 0, h => cases h; rfl
                      | 1, h => cases h; rfl
                      | 2, h => cases h; rfl
                      | j + 3, h => exact ih j v h
                  exact VR.of_ground (this _ i v hv)⟩⟩ (entL_one _)
                have hds : (pdq (ltOf cmpE) l.toArray 0 l.toArray.size (Lib.bitLen l.toArray.size) true true).size = l.length := pdq_size l
                have e2 := setCells_sort hHn (pdq (ltOf cmpE) l.toArray 0 l.toArray.size (Lib.bitLen l.toArray.size) true true) hds
                have hrun := stores_of_holds Try.prog hHn 0 (entL (srtE l)) (by rw [entL_len, size_flatK]; unfold srtE; rw [Array.length_toList]; exact Nat.le_of_eq (by rw [show (pdq (fun x y : E3 => decide (cmpE x y < 0)) l.toArray 0 l.toArray.size (Lib.bitLen l.toArray.size) true true).size = l.length from hds]; simp)) (fun v hv => by
                  have := List.all_eq_true.1 (entL_one (srtE l)) v hv
                  exact this)
                rw [Nat.add_zero] at hrun
                rw [show (storeCells ⟨l0.cb, l0.s + o, none⟩ (entL (srtE l))).run Try.prog (w.drewN m) = Sem.run Try.prog (storeCells ⟨l0.cb, l0.s + o, none⟩ (entL (srtE l)) 0) (w.drewN m) from rfl, hrun] at hw2
                cases hw2
                have e3 : w' = grow ((w.drewN m).setCells l0.cb (l0.s + o) (entL (srtE l))) os := by
                  rw [h3]
                  unfold sortWorldK
                  congr 1
                  rw [show n = l.toArray.size by simpa using hln.symm]
                  exact e2.symm
                rw [e3]
                exact (hp2.drewN m).grown os
            · cases hv
          · cases hv
        · cases hv
    · cases hv
  · cases hv
instance : XtOk Try.prog := ⟨fun f g hX args h v h' hv => by obtain ⟨_, rfl⟩ := xt_inv hX; exact sortX_grow _ _ _ _ _ hv, fun base f g hX args h v h' E w args' hv hR ha _ => by obtain ⟨rfl, rfl⟩ := xt_inv hX; exact sort_sound base args h v h' E w args' hv hR ha⟩
end Go.Am
