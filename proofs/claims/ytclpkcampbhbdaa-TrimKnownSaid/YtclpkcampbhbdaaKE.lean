/- What the functions answer, in the machine. -/
import Derived.Test.YtclpkcampbhbdaaKD
import Derived.Shelf.SlSortCmp.NoneTotal
set_option linter.all false
namespace Go.Am
open Go.Proofs
set_option maxRecDepth 100000
set_option linter.all false
attribute [local congr] obind_congr obH_congr cnd_congr chk_congr retK_congr codeK_congr
def joinE (own hd : List E3) : List E3 := if goodE own = true ∧ goodE hd = true then srtE (newsE own hd ++ newsE hd own ++ bothE own hd) else own
theorem wide_news {a b : List E3} (w : wide a) : wide (newsE a b) := fun e he => w e (List.mem_filter.1 he).1
theorem wide_both {a b : List E3} (w : wide a) : wide (bothE a b) := fun e he => by
  obtain ⟨x, hx, h⟩ := List.mem_filterMap.1 he
  unfold bothF at h
  split at h
  · cases h
    exact ⟨(w x hx).1, Nat.lt_of_le_of_lt Nat.and_le_left (w x hx).2⟩
  · cases h
theorem wide_join {a b : List E3} (w : wide a) (w2 : wide b) : wide (joinE a b) := by
  unfold joinE
  split
  · intro e he
    have := (srtE_perm _).subset he
    rcases List.mem_append.1 this with h | h
    · rcases List.mem_append.1 h with h | h
      · exact wide_news w e h
      · exact wide_news w2 e h
    · exact wide_both w e h
  · exact w
theorem spec_Join {h : Heap} {v w : Value} {es fs : List E3} (s : SE h v es) (s2 : SE h w fs) (hw : wide es) (hw2 : wide fs) (hl : es.length < 2 ^ 36) (hl2 : fs.length < 2 ^ 36) :
    ∃ a c h', evC Try.prog 23 #[.agg #[v], .agg #[w]] h = some (.agg #[.slice a (joinE es fs).length c], h') ∧ HExt h h' ∧ AE h.blks.length h' (.slice a (joinE es fs).length c) (joinE es fs) := by
  rw [call23]
  have c1 := ((Cells.new (nm h) 47 [v]).keepNew (.cells [w]) 47).keepNew (.cells [.slice none 0 0]) 47
  have c2 := (Cells.new ((nm h).new (.cells [v]) 47) 47 [w]).keepNew (.cells [.slice none 0 0]) 47
  have c3 := Cells.new (((nm h).new (.cells [v]) 47).new (.cells [w]) 47) 47 [.slice none 0 0]
  have s1' : SE ((((nm h).new (.cells [v]) 47).new (.cells [w]) 47).new (.cells [.slice none 0 0]) 47) v es := ((s.nm.keepNew _ _).keepNew _ _).keepNew _ _
  have s2' : SE ((((nm h).new (.cells [v]) 47).new (.cells [w]) 47).new (.cells [.slice none 0 0]) 47) w fs := ((s2.nm.keepNew _ _).keepNew _ _).keepNew _ _
  have e0 : (nm h).blks.length = h.blks.length := rfl
  have e1 : ((nm h).new (.cells [v]) 47).blks.length = h.blks.length + 1 := by simp [Heap.new]
  have e2 : (((nm h).new (.cells [v]) 47).new (.cells [w]) 47).blks.length = h.blks.length + 2 := by simp [Heap.new]
  have k2 : In h.blks.length No (nm h) ((((nm h).new (.cells [v]) 47).new (.cells [w]) 47).new (.cells [.slice none 0 0]) 47) := ((In.new (h := nm h) (Nat.le_refl h.blks.length) _ _).trans (In.new (by omega) _ _)).trans (In.new (by omega) _ _)
  have hlen : ((((nm h).new (.cells [v]) 47).new (.cells [w]) 47).new (.cells [.slice none 0 0]) 47).blks.length = h.blks.length + 3 := by simp [Heap.new]
  rw [e0] at c1
  rw [e1] at c2
  rw [e2] at c3
  generalize hh : ((((nm h).new (.cells [v]) 47).new (.cells [w]) 47).new (.cells [.slice none 0 0]) 47) = h2 at c1 c2 c3 s1' s2' k2 hlen
  have lv : ∀ {h' : Heap}, Same h2 h' → (h'.loadN h.blks.length 0 1).map (fun cs => Value.agg cs.toArray) = some (.agg #[v]) := fun hs => by rw [(c1.same hs).loadN (n := 1) rfl]; rfl
  have lw : ∀ {h' : Heap}, Same h2 h' → (h'.loadN (h.blks.length + 1) 0 1).map (fun cs => Value.agg cs.toArray) = some (.agg #[w]) := fun hs => by rw [(c2.same hs).loadN (n := 1) rfl]; rfl
  obtain ⟨h3, q3,Ad⟩ := spec_Good s1' hw (by omega)
  have s3 := Ad.same
  have hx3 := Ad.len
  have k3 := k2.trans (Ad.inn (by omega))
  -- a log that may not be: its copy
  have bad : ∀ {h4 : Heap}, Same h2 h4 → In h.blks.length No (nm h) h4 → ∃ a c h5 h6, evC Try.prog 49 #[.agg #[v]] h4 = some (.agg #[.slice a es.length c], h5) ∧ storeV Try.prog 47 (.pointer (some ⟨h.blks.length + 2, 0, none⟩)) (.agg #[.slice a es.length c]) h5 = some h6 ∧ (h6.loadN (h.blks.length + 2) 0 1).map (fun cs => Value.agg cs.toArray) = some (.agg #[.slice a es.length c]) ∧ In h.blks.length No (nm h) h6 ∧ AE h.blks.length h6 (.slice a es.length c) es := fun {h4} hs hk => by
    obtain ⟨a, c, h5, g1, g2, g3⟩ := spec_clone (s1'.same hs) (by omega)
    have d5 := (c3.same hs).ext g2
    have d6 := d5.put [.slice a es.length c]
    have hs' := hs.1
    have hg2 := g2.len
    refine ⟨a, c, h5, h5.put (h.blks.length + 2) (.cells [.slice a es.length c]), g1, ?_, ?_, (hk.trans (g2.inn (by omega))).trans (In.put (by omega) (.inl (by omega)) _), (Acc.keepPut g3 (fun e => by have := Acc.ge g3 e; omega) _).up (by omega)⟩
    · rw [stL, storeN_blk d5 (by simp)]; rfl
    · rw [d6.loadN (n := 1) rfl]; rfl
  cases hg : goodE es with
  | false =>
    rw [hg] at q3
    obtain ⟨a, c, h5, h6, g1, g2, g3, g4, g5⟩ := bad s3 k3
    have hj : joinE es fs = es := by unfold joinE; rw [if_neg (by simp [hg])]
    rw [hj]
    refine ⟨a, c, _, ?_, done_ext' g4, g5.done⟩
    simp -implicitDefEqProofs (disch := omega) only [↓c23_0_eq, bxL, alL, e0, e1, e2, hh, ldL, lv (Same.refl _), q3, lv s3, g1, g2, g3, rvals, ↓ret23, ↓cnd_true, ↓cnd_false, ↓Option.bind_some, ↓obH_some', bin_add, bin_sub, bin_mul, bin_lss, bin_leq, bin_gtr, bin_geq, bin_eql, bin_neq, un_not, un_neg, Option.bind_some, Option.bind_none, Option.map_some, cnd_true, cnd_false, pickV_true, pickV_false, gd_true, gd_false, gdV_true, gdV_false, gdH_true, gdH_false, gdS_true, gdS_false, wt_ff, wt_tt, wt_ft, wt_tf, wt_undef, obH_some', extractV_tuple, nilCheckV_ptr, againK_normal, againK_exit, againK_ret, blockK_normal, blockK_same, blockK_ret, seqK_normal, seqK_exit, seqK_ret, fin_done, if_true', if_false', Bool.not_true, Bool.not_false, idx0, idx1, idx2, idx3, idx4, chk_nil_l, chk_nil_r, done_nm, up_cons, up_nil, cond_true, cond_false, Nat.reduceBEq]
  | true =>
    rw [hg] at q3
    obtain ⟨h4, q4,Ae⟩ := spec_Good (s2'.same s3) hw2 (by omega)
    have s4 := s3.trans Ae.same
    have hx4 := Ae.len
    have k4 := k3.trans (Ae.inn (by omega))
    cases hg2 : goodE fs with
    | false =>
      rw [hg2] at q4
      obtain ⟨a, c, h5, h6, g1, g2, g3, g4, g5⟩ := bad s4 k4
      have hj : joinE es fs = es := by unfold joinE; rw [if_neg (by simp [hg2])]
      rw [hj]
      refine ⟨a, c, _, ?_, done_ext' g4, g5.done⟩
      simp -implicitDefEqProofs (disch := omega) only [↓c23_0_eq, bxL, alL, e0, e1, e2, hh, ldL, lv (Same.refl _), q3, lw s3, q4, lv s4, g1, g2, g3, rvals, ↓ret23, ↓cnd_true, ↓cnd_false, ↓Option.bind_some, ↓obH_some', bin_add, bin_sub, bin_mul, bin_lss, bin_leq, bin_gtr, bin_geq, bin_eql, bin_neq, un_not, un_neg, Option.bind_some, Option.bind_none, Option.map_some, cnd_true, cnd_false, pickV_true, pickV_false, gd_true, gd_false, gdV_true, gdV_false, gdH_true, gdH_false, gdS_true, gdS_false, wt_ff, wt_tt, wt_ft, wt_tf, wt_undef, obH_some', extractV_tuple, nilCheckV_ptr, againK_normal, againK_exit, againK_ret, blockK_normal, blockK_same, blockK_ret, seqK_normal, seqK_exit, seqK_ret, fin_done, if_true', if_false', Bool.not_true, Bool.not_false, idx0, idx1, idx2, idx3, idx4, chk_nil_l, chk_nil_r, done_nm, up_cons, up_nil, cond_true, cond_false, Nat.reduceBEq]
    | true =>
      rw [hg2] at q4
      have g1 := ((goodE_iff es).1 hg).2
      have g2 := ((goodE_iff fs).1 hg2).2
      obtain ⟨a5, c5, h5, q5,Af, r5⟩ := spec_news (h := nm h4) (s1'.same s4).nm (s2'.same s4).nm g2 (by omega) (by omega)
      obtain ⟨Af', m5⟩ := Af.amx
      have r5' : AE h4.blks.length (am h5 h4) (.slice a5 (newsE es fs).length c5) (newsE es fs) := Acc.keep r5 fun _ _ _ => rfl
      have s5 := s4.trans Af'.same
      have hx5 := Af'.len
      obtain ⟨a6, c6, h6, q6,Ag, r6⟩ := spec_news (h := am h5 h4) (s2'.same s5) (s1'.same s5) g1 (by omega) (by omega)
      have s6 := s5.trans Ag.same
      have hx6 := Ag.len
      have nl : ∀ a b, (newsE a b).length ≤ a.length := fun a b => List.length_filter_le _ _
      have n1 := nl es fs
      have n2 := nl fs es
      obtain ⟨a7, c7, h7, q7, r7,Ah, o7, _⟩ := app_ents etE etE.under (n0 := h4.blks.length) (h := h6) (by omega) (Acc.same r5' Ag.same) (AE.se r6) (by omega)
      have k7 := (((k4.trans (Af'.inn (by omega))).trans (Ag.inn (by omega))).trans (Keeps.inn (S := No) (Ah.dn (by omega))))
      have s7 : Same h2 h7 := ⟨by have := Ah.len; omega, fun q hq => (o7 q (by omega) (Acc.off r5' (n1 := h2.blks.length) (by omega) hq)).trans (s6.2 q hq)⟩
      have l7 : h7.load1 h.blks.length 0 = some v := (c1.same s7).load 0
      have hj : joinE es fs = srtE (newsE es fs ++ newsE fs es ++ bothE es fs) := by unfold joinE; rw [if_pos ⟨hg, hg2⟩]
      rw [hj]
      obtain ⟨va, vc, rfl⟩ := s.shape
      have hlt7 := s7.1
      have r7' : AE h4.blks.length h7 (.slice a7 (newsE es fs ++ newsE fs es ++ bothE (es.take 0) fs).length c7) (newsE es fs ++ newsE fs es ++ bothE (es.take 0) fs) := by
        rw [List.take_zero]; show AE _ _ (.slice a7 (newsE es fs ++ newsE fs es ++ []).length c7) (newsE es fs ++ newsE fs es ++ []); rw [List.append_nil]; exact r7
      have lp := join_loop (h0 := h) (h1 := h7) (p1 := h.blks.length + 1) (p2 := h.blks.length + 2) (pre := newsE es fs ++ newsE fs es) (s1'.same s7) (s2'.same s7) g2 hw hw2 (by omega) (by omega) (by rw [List.length_append]; omega) (by omega) (c2.same s7) (c3.same s7) (by omega) (srtE_len _) h4.blks.length (by omega) (by have := Ah.len; omega) (fun b hb => by have := Sl.lt s1' hb; omega) (fun b hb => by have := Sl.lt s2' hb; omega) (by omega) (by omega) es.length 0 (by omega) (by omega)
      have fin' : ∀ {r : Option (Value × Heap)}, (∃ a c h', r = some (.agg #[.slice a (srtE (newsE es fs ++ newsE fs es ++ bothE es fs)).length c], done h h') ∧ In h.blks.length No (nm h) h' ∧ AE h4.blks.length h' (.slice a (srtE (newsE es fs ++ newsE fs es ++ bothE es fs)).length c) (srtE (newsE es fs ++ newsE fs es ++ bothE es fs))) → ∃ a c h', r = some (.agg #[.slice a (srtE (newsE es fs ++ newsE fs es ++ bothE es fs)).length c], h') ∧ HExt h h' ∧ AE h.blks.length h' (.slice a (srtE (newsE es fs ++ newsE fs es ++ bothE es fs)).length c) (srtE (newsE es fs ++ newsE fs es ++ bothE es fs)) := fun ⟨a, c, h', g1, g2, g3⟩ => ⟨a, c, _, g1, done_ext' g2, (Acc.up g3 (by omega)).done⟩
      simp -implicitDefEqProofs (disch := omega) only [↓c23_0_eq, bxL, alL, e0, e1, e2, hh, ldL, lv (Same.refl _), q3, lw s3, q4, lv s4, lw s4, q5, m5, lw s5, lv s5, q6, q7, List.nil_append, faL, ldEs, l7, lnEs, ↓cnd_true, ↓cnd_false, ↓Option.bind_some, ↓obH_some', bin_add, bin_sub, bin_mul, bin_lss, bin_leq, bin_gtr, bin_geq, bin_eql, bin_neq, un_not, un_neg, Option.bind_some, Option.bind_none, Option.map_some, cnd_true, cnd_false, pickV_true, pickV_false, gd_true, gd_false, gdV_true, gdV_false, gdH_true, gdH_false, gdS_true, gdS_false, wt_ff, wt_tt, wt_ft, wt_tf, wt_undef, obH_some', extractV_tuple, nilCheckV_ptr, againK_normal, againK_exit, againK_ret, blockK_normal, blockK_same, blockK_ret, seqK_normal, seqK_exit, seqK_ret, fin_done, if_true', if_false', Bool.not_true, Bool.not_false, idx0, idx1, idx2, idx3, idx4, chk_nil_l, chk_nil_r, done_nm, up_cons, up_nil, cond_true, cond_false, Nat.reduceBEq]
      refine fin' (lp _ _ a7 c7 k7 (fun _ _ => rfl) (Nat.le_refl _) r7' ?_ ?_ ?_ ?_ ?_ ?_)
      · rfl
      · rfl
      · rw [List.take_zero]; show Value.slice a7 (newsE es fs ++ newsE fs es).length c7 = Value.slice a7 (newsE es fs ++ newsE fs es ++ []).length c7; rw [List.append_nil]
      all_goals rfl
end Go.Am
namespace Go.Am
open Go.Proofs
set_option maxRecDepth 100000
set_option linter.all false
attribute [local congr] obind_congr obH_congr cnd_congr chk_congr retK_congr codeK_congr
def purgeL : List E3 → List E3
  | [] => []
  | [e] => [e]
  | e :: e' :: l => if e.t ≠ 0 ∨ e'.f ≠ e.f then e :: purgeL (e' :: l) else purgeL (e' :: l)
theorem purgeL_two (e e' : E3) (l : List E3) : purgeL (e :: e' :: l) = if e.t ≠ 0 ∨ e'.f ≠ e.f then e :: purgeL (e' :: l) else purgeL (e' :: l) := by rw [purgeL]
theorem purgeL_len : ∀ l : List E3, (purgeL l).length ≤ l.length
  | [] => Nat.le_refl _
  | [e] => Nat.le_refl _
  | e :: e' :: l => by
    have := purgeL_len (e' :: l)
    unfold purgeL
    split
    · simp at *; omega
    · simp at *; omega
def purgeE (es : List E3) : List E3 := if goodE es then purgeL es else es
theorem purge_loop {h0 h1 : Heap} {v : Value} {es : List E3} {p1 p2 : Nat} (s : SE h1 v es) (hl : es.length < 2 ^ 38) (c1 : Cells h1 p1 47 [v]) (c2 : Cells h1 p2 47 [.slice none 0 0]) (hp2 : h0.blks.length ≤ p2) (hn1 : p2 < h1.blks.length) (hn0 : h0.blks.length ≤ h1.blks.length) :
    ∀ (m i : Nat), es.length - i = m → i ≤ es.length → ∀ (x : Nat → Value) (h : Heap) (a : Option Addr) (c : Nat) (o : List E3),In h0.blks.length No (nm h0) h → Same h1 h → AE h1.blks.length h (.slice a o.length c) o → o ++ purgeL (es.drop i) = purgeL es →
    x 1 = .pointer (some ⟨p1, 0, none⟩) → x 2 = .pointer (some ⟨p2, 0, none⟩) → x 3 = .slice a o.length c → x 13 = v → x 14 = .int .i64 es.length → x 15 = .int .i64 i →
    ∃ a' c' h', lK c20_1 50 x h (blockK 0 (sK c20_2 (retK Try.f20 Try.prog h0))) = some (.agg #[.slice a' (purgeL es).length c'], done h0 h') ∧ In h0.blks.length No (nm h0) h' ∧ AE h1.blks.length h' (.slice a' (purgeL es).length c') (purgeL es) := by
  intro m
  have hpl := purgeL_len es
  induction m with
  | zero =>
    intro i e1 e2 x h a c o hin hs ha ho Ab Ac Ad Ao Ap Aq
    obtain rfl : i = es.length := by omega
    rw [List.drop_length] at ho
    simp only [purgeL, List.append_nil] at ho
    subst ho
    have c2' := c2.same hs
    have c5 := c2'.put [.slice a (purgeL es).length c]
    have hb : blockOf (.slice a (purgeL es).length c) ≠ some p2 := fun e => by have := Acc.ge ha e; omega
    have l5 : (Heap.loadN (h.put p2 (.cells [.slice a (purgeL es).length c])) p2 0 1).map (fun cs => Value.agg cs.toArray) = some (.agg #[.slice a (purgeL es).length c]) := by rw [c5.loadN (n := 1) rfl]; rfl
    have i5 := hin.trans (In.put (S := No) (Nat.le_trans hin.le hin.len) (p := p2) (.inl hp2) (.cells [.slice a (purgeL es).length c]))
    rw [lK_eq]
    refine ⟨a, c, _, ?_, i5, ha.keepPut hb _⟩
    simp -implicitDefEqProofs (disch := omega) only [↓c20_1_eq, ↓c20_2_eq,Ab,Ac,Ad,Ao,Ap,Aq, dcF, bdL, stL, storeN_blk c2' (o := 0) (vs := [.slice a (purgeL es).length c]) (by simp), List.take_zero, List.nil_append, List.append_nil, List.length_cons, List.length_nil, List.drop_succ_cons, List.drop_zero, Nat.zero_add, ldL, l5, rvals, ↓ret20, ↓cnd_true, ↓cnd_false, ↓Option.bind_some, ↓obH_some', bin_add, bin_sub, bin_mul, bin_lss, bin_leq, bin_gtr, bin_geq, bin_eql, bin_neq, un_not, un_neg, Option.bind_some, Option.bind_none, Option.map_some, cnd_true, cnd_false, pickV_true, pickV_false, gd_true, gd_false, gdV_true, gdV_false, gdH_true, gdH_false, gdS_true, gdS_false, wt_ff, wt_tt, wt_ft, wt_tf, wt_undef, obH_some', extractV_tuple, nilCheckV_ptr, againK_normal, againK_exit, againK_ret, blockK_normal, blockK_same, blockK_ret, seqK_normal, seqK_exit, seqK_ret, fin_done, if_true', if_false', Bool.not_true, Bool.not_false, idx0, idx1, idx2, idx3, idx4, chk_nil_l, chk_nil_r, done_nm, up_cons, up_nil, cond_true, cond_false, Nat.reduceBEq]
  | succ m ih =>
    intro i hm hi x h a c o hin hs ha ho Ab Ac Ad Ao Ap Aq
    have hil : i < es.length := by omega
    obtain ⟨b, of, hb, hbl, e1, e2⟩ := s.at' (t := 45) (el := 57) (by kernel_rfl) (by kernel_rfl) hil
    obtain ⟨f1, f2, f3, f4⟩ := e2 h (hs.2 b hbl)
    have hnh : h1.blks.length ≤ h.blks.length := hs.1
    obtain ⟨hA, hB, a1, a2, a3, a4, a5, a6⟩ := var_ent (n0 := h1.blks.length) hnh es[i]
    have hsB := hs.trans a5
    have hinB := hin.trans (In.dn (a4 No) hn0)
    have lB : hB.load1 p1 0 = some v := (c1.same hsB).load 0
    have lf : hB.load1 h.blks.length 0 = some (.int .i64 es[i].f) := a3.load 0
    have lt : hB.load1 h.blks.length (0 + 2) = some (.int .u64 es[i].t) := a3.load 2
    obtain ⟨va, vc, rfl⟩ := s.shape
    have wi : IntKind.i64.wrap ((i : Int) + 1) = ((i + 1 : Nat) : Int) := by rw [wrap_i64] <;> omega
    have wl : IntKind.i64.wrap ((es.length : Int) - 1) = ((es.length - 1 : Nat) : Int) := by rw [wrap_i64] <;> omega
    have hol : o.length < 2 ^ 39 := by
      have := congrArg List.length ho
      rw [List.length_append] at this; omega
    obtain ⟨a', c', hD, q1, q2, q3, q4⟩ := app_ent etE (n0 := h1.blks.length) (Nat.le_trans hnh a5.1) (ha.same a5) es[i] hol
    have hsD : Same h1 hD := ⟨Nat.le_trans hsB.1 q3.len, fun q hq => (q4 q (Nat.lt_of_lt_of_le hq hsB.1) (fun e => by have := Acc.ge ha e; omega)).trans (hsB.2 q hq)⟩
    have hinD := hinB.trans (Keeps.inn (S := No) (q3.dn hn0))
    by_cases hlast : i + 1 = es.length
    · have ho' : (o ++ [es[i]]) ++ purgeL (es.drop (i + 1)) = purgeL es := by
        rw [← ho, List.drop_eq_getElem_cons hil, hlast, List.drop_length]; simp [purgeL]
      have d1 : decide ((i : Int) = ((es.length - 1 : Nat) : Int)) = true := decide_eq_true (by omega)
      by_cases ht : es[i].t = 0
      · have d0 : decide ((es[i].t : Int) ≠ 0) = false := decide_eq_false (by omega)
        rw [lK_eq]
        simp -implicitDefEqProofs (disch := omega) only [↓c20_1_eq, ↓c20_2_eq,Ab,Ac,Ad,Ao,Ap,Aq, dcT, e1, ldE, f1, Option.map_some, entA, a1, a2, a6, faE0, faE2, ldS, lt, d0, faL, ldEs, lB, lnEs, wl, d1, bsE, q1, wi, ↓cnd_true, ↓cnd_false, ↓Option.bind_some, ↓obH_some', bin_add, bin_sub, bin_mul, bin_lss, bin_leq, bin_gtr, bin_geq, bin_eql, bin_neq, un_not, un_neg, Option.bind_some, Option.bind_none, Option.map_some, cnd_true, cnd_false, pickV_true, pickV_false, gd_true, gd_false, gdV_true, gdV_false, gdH_true, gdH_false, gdS_true, gdS_false, wt_ff, wt_tt, wt_ft, wt_tf, wt_undef, obH_some', extractV_tuple, nilCheckV_ptr, againK_normal, againK_exit, againK_ret, blockK_normal, blockK_same, blockK_ret, seqK_normal, seqK_exit, seqK_ret, fin_done, if_true', if_false', Bool.not_true, Bool.not_false, idx0, idx1, idx2, idx3, idx4, chk_nil_l, chk_nil_r, done_nm, up_cons, up_nil, cond_true, cond_false, Nat.reduceBEq]
        exact ih (i + 1) (by omega) (by omega) (up _ _) hD a' c' _ hinD hsD q2 ho' Ab Ac rfl Ao Ap rfl
      · have d0 : decide ((es[i].t : Int) ≠ 0) = true := decide_eq_true (by omega)
        rw [lK_eq]
        simp -implicitDefEqProofs (disch := omega) only [↓c20_1_eq, ↓c20_2_eq,Ab,Ac,Ad,Ao,Ap,Aq, dcT, e1, ldE, f1, Option.map_some, entA, a1, a2, a6, faE0, faE2, ldS, lt, d0, faL, ldEs, lB, lnEs, wl, d1, bsE, q1, wi, ↓cnd_true, ↓cnd_false, ↓Option.bind_some, ↓obH_some', bin_add, bin_sub, bin_mul, bin_lss, bin_leq, bin_gtr, bin_geq, bin_eql, bin_neq, un_not, un_neg, Option.bind_some, Option.bind_none, Option.map_some, cnd_true, cnd_false, pickV_true, pickV_false, gd_true, gd_false, gdV_true, gdV_false, gdH_true, gdH_false, gdS_true, gdS_false, wt_ff, wt_tt, wt_ft, wt_tf, wt_undef, obH_some', extractV_tuple, nilCheckV_ptr, againK_normal, againK_exit, againK_ret, blockK_normal, blockK_same, blockK_ret, seqK_normal, seqK_exit, seqK_ret, fin_done, if_true', if_false', Bool.not_true, Bool.not_false, idx0, idx1, idx2, idx3, idx4, chk_nil_l, chk_nil_r, done_nm, up_cons, up_nil, cond_true, cond_false, Nat.reduceBEq]
        exact ih (i + 1) (by omega) (by omega) (up _ _) hD a' c' _ hinD hsD q2 ho' Ab Ac rfl Ao Ap rfl
    · have hin1 : i + 1 < es.length := by omega
      have d1 : decide ((i : Int) = ((es.length - 1 : Nat) : Int)) = false := decide_eq_false (by omega)
      obtain ⟨b', of', hb', hbl', e1', e2'⟩ := s.at' (t := 45) (el := 57) (by kernel_rfl) (by kernel_rfl) hin1
      obtain ⟨_, f2', _⟩ := e2' hB (hsB.2 b' hbl')
      have hdr : es.drop i = es[i] :: es[i + 1] :: es.drop (i + 2) := by rw [List.drop_eq_getElem_cons hil, List.drop_eq_getElem_cons hin1]
      by_cases hk : es[i].t ≠ 0 ∨ es[i + 1].f ≠ es[i].f
      · have ho' : (o ++ [es[i]]) ++ purgeL (es.drop (i + 1)) = purgeL es := by
          rw [← ho, hdr, List.drop_eq_getElem_cons hin1, purgeL_two es[i], if_pos hk, List.append_assoc]; rfl
        by_cases ht : es[i].t = 0
        · have hf : es[i + 1].f ≠ es[i].f := hk.resolve_left (fun h => h ht)
          have d0 : decide ((es[i].t : Int) ≠ 0) = false := decide_eq_false (by omega)
          rw [lK_eq]
          simp -implicitDefEqProofs (disch := omega) only [↓c20_1_eq, ↓c20_2_eq,Ab,Ac,Ad,Ao,Ap,Aq, dcT, e1, ldE, f1, Option.map_some, entA, a1, a2, a6, faE0, faE2, ldS, lt, d0, faL, ldEs, lB, lnEs, wl, d1, wi, e1', ldI, f2', lf, decide_eq_true hf, bsE, q1, ↓cnd_true, ↓cnd_false, ↓Option.bind_some, ↓obH_some', bin_add, bin_sub, bin_mul, bin_lss, bin_leq, bin_gtr, bin_geq, bin_eql, bin_neq, un_not, un_neg, Option.bind_some, Option.bind_none, Option.map_some, cnd_true, cnd_false, pickV_true, pickV_false, gd_true, gd_false, gdV_true, gdV_false, gdH_true, gdH_false, gdS_true, gdS_false, wt_ff, wt_tt, wt_ft, wt_tf, wt_undef, obH_some', extractV_tuple, nilCheckV_ptr, againK_normal, againK_exit, againK_ret, blockK_normal, blockK_same, blockK_ret, seqK_normal, seqK_exit, seqK_ret, fin_done, if_true', if_false', Bool.not_true, Bool.not_false, idx0, idx1, idx2, idx3, idx4, chk_nil_l, chk_nil_r, done_nm, up_cons, up_nil, cond_true, cond_false, Nat.reduceBEq]
          exact ih (i + 1) (by omega) (by omega) (up _ _) hD a' c' _ hinD hsD q2 ho' Ab Ac rfl Ao Ap rfl
        · have d0 : decide ((es[i].t : Int) ≠ 0) = true := decide_eq_true (by omega)
          rw [lK_eq]
          simp -implicitDefEqProofs (disch := omega) only [↓c20_1_eq, ↓c20_2_eq,Ab,Ac,Ad,Ao,Ap,Aq, dcT, e1, ldE, f1, Option.map_some, entA, a1, a2, a6, faE0, faE2, ldS, lt, d0, bsE, q1, wi, ↓cnd_true, ↓cnd_false, ↓Option.bind_some, ↓obH_some', bin_add, bin_sub, bin_mul, bin_lss, bin_leq, bin_gtr, bin_geq, bin_eql, bin_neq, un_not, un_neg, Option.bind_some, Option.bind_none, Option.map_some, cnd_true, cnd_false, pickV_true, pickV_false, gd_true, gd_false, gdV_true, gdV_false, gdH_true, gdH_false, gdS_true, gdS_false, wt_ff, wt_tt, wt_ft, wt_tf, wt_undef, obH_some', extractV_tuple, nilCheckV_ptr, againK_normal, againK_exit, againK_ret, blockK_normal, blockK_same, blockK_ret, seqK_normal, seqK_exit, seqK_ret, fin_done, if_true', if_false', Bool.not_true, Bool.not_false, idx0, idx1, idx2, idx3, idx4, chk_nil_l, chk_nil_r, done_nm, up_cons, up_nil, cond_true, cond_false, Nat.reduceBEq]
          exact ih (i + 1) (by omega) (by omega) (up _ _) hD a' c' _ hinD hsD q2 ho' Ab Ac rfl Ao Ap rfl
      · have ht : es[i].t = 0 := Classical.byContradiction fun h => hk (.inl h)
        have hf : es[i + 1].f = es[i].f := Classical.byContradiction fun h => hk (.inr h)
        have d0 : decide ((es[i].t : Int) ≠ 0) = false := decide_eq_false (by omega)
        have d2 : decide (es[i + 1].f ≠ es[i].f) = false := decide_eq_false (fun h => h hf)
        have ho' : o ++ purgeL (es.drop (i + 1)) = purgeL es := by
          rw [← ho, hdr, List.drop_eq_getElem_cons hin1, purgeL_two es[i], if_neg hk]
        rw [lK_eq]
        simp -implicitDefEqProofs (disch := omega) only [↓c20_1_eq, ↓c20_2_eq,Ab,Ac,Ad,Ao,Ap,Aq, dcT, e1, ldE, f1, Option.map_some, entA, a1, a2, a6, faE0, faE2, ldS, lt, d0, faL, ldEs, lB, lnEs, wl, d1, wi, e1', ldI, f2', lf, d2, ↓cnd_true, ↓cnd_false, ↓Option.bind_some, ↓obH_some', bin_add, bin_sub, bin_mul, bin_lss, bin_leq, bin_gtr, bin_geq, bin_eql, bin_neq, un_not, un_neg, Option.bind_some, Option.bind_none, Option.map_some, cnd_true, cnd_false, pickV_true, pickV_false, gd_true, gd_false, gdV_true, gdV_false, gdH_true, gdH_false, gdS_true, gdS_false, wt_ff, wt_tt, wt_ft, wt_tf, wt_undef, obH_some', extractV_tuple, nilCheckV_ptr, againK_normal, againK_exit, againK_ret, blockK_normal, blockK_same, blockK_ret, seqK_normal, seqK_exit, seqK_ret, fin_done, if_true', if_false', Bool.not_true, Bool.not_false, idx0, idx1, idx2, idx3, idx4, chk_nil_l, chk_nil_r, done_nm, up_cons, up_nil, cond_true, cond_false, Nat.reduceBEq]
        exact ih (i + 1) (by omega) (by omega) (up _ _) hB a c _ hinB hsB (ha.same a5) ho' Ab Ac Ad Ao Ap rfl
theorem spec_Purge {h : Heap} {v : Value} {es : List E3} (s : SE h v es) (hw : wide es) (hl : es.length < 2 ^ 38) :
    ∃ a c h', evC Try.prog 20 #[.agg #[v]] h = some (.agg #[.slice a (purgeE es).length c], h') ∧ HExt h h' ∧ AE h.blks.length h' (.slice a (purgeE es).length c) (purgeE es) := by
  rw [call20]
  have c1 := (Cells.new (nm h) 47 [v]).keepNew (.cells [.slice none 0 0]) 47
  have c2 := Cells.new ((nm h).new (.cells [v]) 47) 47 [.slice none 0 0]
  have s2 : SE (((nm h).new (.cells [v]) 47).new (.cells [.slice none 0 0]) 47) v es := (s.nm.keepNew _ _).keepNew _ _
  have k2 : In h.blks.length No (nm h) (((nm h).new (.cells [v]) 47).new (.cells [.slice none 0 0]) 47) := (In.new (h := nm h) (Nat.le_refl h.blks.length) _ _).trans (In.new (by simp [Heap.new]) _ _)
  have e0 : (nm h).blks.length = h.blks.length := rfl
  have e1 : ((nm h).new (.cells [v]) 47).blks.length = h.blks.length + 1 := by simp [Heap.new]
  rw [e0] at c1
  rw [e1] at c2
  have hlen : (((nm h).new (.cells [v]) 47).new (.cells [.slice none 0 0]) 47).blks.length = h.blks.length + 2 := by simp [Heap.new]
  generalize hh : (((nm h).new (.cells [v]) 47).new (.cells [.slice none 0 0]) 47) = h2 at c1 c2 s2 k2 hlen
  have lA : (h2.loadN h.blks.length 0 1).map (fun cs => Value.agg cs.toArray) = some (.agg #[v]) := by rw [c1.loadN (n := 1) rfl]; rfl
  obtain ⟨a, c, h3, e3,Ad, a3⟩ := spec_clone s2 (by omega)
  have c3 := c1.ext Ad
  have d3 := c2.ext Ad
  have hx3 := Ad.len
  have b1 : blockOf (.slice a es.length c) ≠ some h.blks.length := fun e => by have := a3.ge e; omega
  have b2 : blockOf (.slice a es.length c) ≠ some (h.blks.length + 1) := fun e => by have := a3.ge e; omega
  have c4 := c3.put [.slice a es.length c]
  have d4 : Cells (h3.put h.blks.length (.cells [.slice a es.length c])) (h.blks.length + 1) 47 [.slice none 0 0] := d3.keepPut (by omega) _
  have a4 : AE h.blks.length (h3.put h.blks.length (.cells [.slice a es.length c])) (.slice a es.length c) es := (a3.keepPut b1 _).up (by omega)
  have k4 := (k2.trans (Ad.inn (by omega))).trans (In.put (S := No) (by omega) (p := h.blks.length) (.inl (by omega)) (.cells [.slice a es.length c]))
  have hs4 := storeN_blk c3 (o := 0) (vs := [.slice a es.length c]) (by simp)
  have hl4 : (h3.put h.blks.length (.cells [.slice a es.length c])).blks.length = h3.blks.length := Heap.put_len _ _ _
  simp only [List.take_zero, List.nil_append, List.append_nil, List.length_cons, List.length_nil, List.drop_succ_cons, List.drop_zero, Nat.zero_add] at hs4
  generalize hh4 : h3.put h.blks.length (.cells [.slice a es.length c]) = h4 at c4 d4 a4 k4 hs4 hl4
  have l4 : (h4.loadN h.blks.length 0 1).map (fun cs => Value.agg cs.toArray) = some (.agg #[.slice a es.length c]) := by rw [c4.loadN (n := 1) rfl]; rfl
  obtain ⟨h5, e5,Af⟩ := spec_Good a4.se hw (by omega)
  have c5 := c4.ext Af
  have d5 := d4.ext Af
  have hx5 := Af.len
  have a5 : AE h.blks.length h5 (.slice a es.length c) es := a4.same Af.same
  have k5 := k4.trans (Af.inn (Nat.le_trans k4.le k4.len))
  have l5 : (h5.loadN h.blks.length 0 1).map (fun cs => Value.agg cs.toArray) = some (.agg #[.slice a es.length c]) := by rw [c5.loadN (n := 1) rfl]; rfl
  have l5' : h5.load1 h.blks.length 0 = some (.slice a es.length c) := c5.load 0
  unfold purgeE
  cases hg : goodE es with
  | false =>
    rw [hg] at e5
    refine ⟨a, c, ?_⟩
    have d6 := d5.put [.slice a es.length c]
    have l6 : (Heap.loadN (h5.put (h.blks.length + 1) (.cells [.slice a es.length c])) (h.blks.length + 1) 0 1).map (fun cs => Value.agg cs.toArray) = some (.agg #[.slice a es.length c]) := by rw [d6.loadN (n := 1) rfl]; rfl
    have k6 := k5.trans (In.put (S := No) (Nat.le_trans k5.le k5.len) (p := h.blks.length + 1) (.inl (by omega)) (.cells [.slice a es.length c]))
    simp only [Bool.false_eq_true, if_false]
    refine ⟨_, ?_, done_ext' k6, (a5.keepPut b2 _).done⟩
    simp -implicitDefEqProofs (disch := omega) only [↓c20_0_eq, bxL, alL, e0, e1, hh, ldL, lA, e3, stL, hs4, l4, e5, l5, storeN_blk d5 (o := 0) (vs := [.slice a es.length c]) (by simp), List.take_zero, List.nil_append, List.append_nil, List.length_cons, List.length_nil, List.drop_succ_cons, List.drop_zero, Nat.zero_add, l6, rvals, ↓ret20, ↓cnd_true, ↓cnd_false, ↓Option.bind_some, ↓obH_some', bin_add, bin_sub, bin_mul, bin_lss, bin_leq, bin_gtr, bin_geq, bin_eql, bin_neq, un_not, un_neg, Option.bind_some, Option.bind_none, Option.map_some, cnd_true, cnd_false, pickV_true, pickV_false, gd_true, gd_false, gdV_true, gdV_false, gdH_true, gdH_false, gdS_true, gdS_false, wt_ff, wt_tt, wt_ft, wt_tf, wt_undef, obH_some', extractV_tuple, nilCheckV_ptr, againK_normal, againK_exit, againK_ret, blockK_normal, blockK_same, blockK_ret, seqK_normal, seqK_exit, seqK_ret, fin_done, if_true', if_false', Bool.not_true, Bool.not_false, idx0, idx1, idx2, idx3, idx4, chk_nil_l, chk_nil_r, done_nm, up_cons, up_nil, cond_true, cond_false, Nat.reduceBEq]
  | true =>
    rw [hg] at e5
    have lp := purge_loop (h0 := h) (h1 := h5) (p1 := h.blks.length) (p2 := h.blks.length + 1) a5.se hl c5 d5 (by omega) (by omega) (by omega) es.length 0 (by omega) (by omega)
    have fin' : ∀ {r : Option (Value × Heap)}, (∃ a c h', r = some (.agg #[.slice a (purgeL es).length c], done h h') ∧ In h.blks.length No (nm h) h' ∧ AE h5.blks.length h' (.slice a (purgeL es).length c) (purgeL es)) → ∃ a c h', r = some (.agg #[.slice a (purgeL es).length c], h') ∧ HExt h h' ∧ AE h.blks.length h' (.slice a (purgeL es).length c) (purgeL es) := fun ⟨a, c, h', q1, q2, q3⟩ => ⟨a, c, _, q1, done_ext' q2, (Acc.up q3 (by omega)).done⟩
    simp only [if_true]
    simp -implicitDefEqProofs (disch := omega) only [↓c20_0_eq, bxL, alL, e0, e1, hh, ldL, lA, e3, stL, hs4, l4, e5, faL, ldEs, l5', lnEs, ↓cnd_true, ↓cnd_false, ↓Option.bind_some, ↓obH_some', bin_add, bin_sub, bin_mul, bin_lss, bin_leq, bin_gtr, bin_geq, bin_eql, bin_neq, un_not, un_neg, Option.bind_some, Option.bind_none, Option.map_some, cnd_true, cnd_false, pickV_true, pickV_false, gd_true, gd_false, gdV_true, gdV_false, gdH_true, gdH_false, gdS_true, gdS_false, wt_ff, wt_tt, wt_ft, wt_tf, wt_undef, obH_some', extractV_tuple, nilCheckV_ptr, againK_normal, againK_exit, againK_ret, blockK_normal, blockK_same, blockK_ret, seqK_normal, seqK_exit, seqK_ret, fin_done, if_true', if_false', Bool.not_true, Bool.not_false, idx0, idx1, idx2, idx3, idx4, chk_nil_l, chk_nil_r, done_nm, up_cons, up_nil, cond_true, cond_false, Nat.reduceBEq]
    refine fin' (lp _ _ none 0 [] k5 (Same.refl _) (AE.nil _ _) (by rw [List.drop_zero]; rfl) ?_ ?_ ?_ ?_ ?_ ?_)
    all_goals rfl
end Go.Am
namespace Go.Am
open Go.Proofs
set_option maxRecDepth 100000
set_option linter.all false
attribute [local congr] obind_congr obH_congr cnd_congr chk_congr retK_congr codeK_congr
theorem bdE3 (a b c : Int) : buildV Try.prog 57 #[(0, .int .i64 a), (1, .int .u64 b), (2, .int .u64 c)] = some (.agg #[.int .i64 a, .int .u64 b, .int .u64 c]) := by kernel_rfl
theorem bsE3 (a b c : Int) (h : Heap) : buildSliceV Try.prog 45 1 #[(0, .agg #[.int .i64 a, .int .u64 b, .int .u64 c])] h = some (.slice (some ⟨h.blks.length, 0, none⟩) 1 1, h.new (.cells [.int .i64 a, .int .u64 b, .int .u64 c]) 57) := by kernel_rfl
theorem fvL (a : Option Addr) (n c : Nat) : fieldV Try.prog 47 (.agg #[.slice a n c]) 0 = some (.slice a n c) := by kernel_rfl
def aw1 : List E3 := [⟨0, 2, 2⟩]
def aw2 : List E3 := [⟨0, 1, 8⟩]
theorem aw_join : joinE aw1 aw2 = aw1 := by
  unfold joinE
  rw [if_pos (by decide), show newsE aw1 aw2 = aw1 by decide, show newsE aw2 aw1 = [] by decide, show bothE aw1 aw2 = [] by decide, List.append_nil, List.append_nil]
  exact srtE_id (List.pairwise_singleton _ _)
theorem spec_awake18 (h : Heap) : ∃ h', evC Try.prog 18 #[] h = some (.bool true, h') ∧ HExt h h' := by
  rw [call18]
  have e0 : (nm h).blks.length = h.blks.length := rfl
  obtain ⟨h6, hh6⟩ : ∃ h6, h6 = ((nm h).new (.cells [.int .i64 0, .int .u64 2, .int .u64 2]) 57).new (.cells [.int .i64 0, .int .u64 1, .int .u64 8]) 57 := ⟨_, rfl⟩
  have e1 : ((nm h).new (.cells [.int .i64 0, .int .u64 2, .int .u64 2]) 57).blks.length = h.blks.length + 1 := by simp [Heap.new]
  have s1 : SE h6 (.slice (some ⟨h.blks.length, 0, none⟩) 1 1) aw1 := by rw [hh6]; exact Sl.keepNew (lit_ent 57 etE.size ⟨0, 2, 2⟩ (nm h)) _ _
  have s2 : SE h6 (.slice (some ⟨h.blks.length + 1, 0, none⟩) 1 1) aw2 := by rw [hh6, ← e1]; exact lit_ent 57 etE.size ⟨0, 1, 8⟩ _
  have k6 : In h.blks.length No (nm h) h6 := by rw [hh6]; exact (In.new (h := nm h) (Nat.le_refl h.blks.length) _ _).trans (In.new (by omega) _ _)
  have e6 : h6.blks.length = h.blks.length + 2 := by rw [hh6]; simp [Heap.new]
  obtain ⟨h11, hh11⟩ : ∃ h11, h11 = (h6.new (.cells [.slice none 0 0]) 47).new (.cells [.slice none 0 0]) 47 := ⟨_, rfl⟩
  have e9 : (h6.new (.cells [.slice none 0 0]) 47).blks.length = h.blks.length + 3 := by simp [Heap.new, e6]
  have e11 : h11.blks.length = h.blks.length + 4 := by rw [hh11]; simp [Heap.new, e6]
  have c1 : Cells h11 (h.blks.length + 2) 47 [.slice none 0 0] := by rw [hh11, ← e6]; exact (Cells.new _ _ _).keepNew _ _
  have c2 : Cells h11 (h.blks.length + 3) 47 [.slice none 0 0] := by rw [hh11, ← e9]; exact Cells.new _ _ _
  have k11 : In h.blks.length No (nm h) h11 := by rw [hh11]; exact (k6.trans (In.new (by omega) _ _)).trans (In.new (by omega) _ _)
  have t1 : SE h11 (.slice (some ⟨h.blks.length, 0, none⟩) 1 1) aw1 := by rw [hh11]; exact (s1.keepNew _ _).keepNew _ _
  have t2 : SE h11 (.slice (some ⟨h.blks.length + 1, 0, none⟩) 1 1) aw2 := by rw [hh11]; exact (s2.keepNew _ _).keepNew _ _
  have st1 := storeN_blk c1 (o := 0) (vs := [.slice (some ⟨h.blks.length, 0, none⟩) 1 1]) (by simp)
  have d1 := c1.put [.slice (some ⟨h.blks.length, 0, none⟩) 1 1]
  have d2 : Cells (h11.put (h.blks.length + 2) (.cells [.slice (some ⟨h.blks.length, 0, none⟩) 1 1])) (h.blks.length + 3) 47 [.slice none 0 0] := c2.keepPut (by omega) _
  have st2 := storeN_blk d2 (o := 0) (vs := [.slice (some ⟨h.blks.length + 1, 0, none⟩) 1 1]) (by simp)
  simp only [List.take_zero, List.nil_append, List.append_nil, List.length_cons, List.length_nil, List.drop_succ_cons, List.drop_zero, Nat.zero_add] at st1 st2
  have f1 : Cells ((h11.put (h.blks.length + 2) (.cells [.slice (some ⟨h.blks.length, 0, none⟩) 1 1])).put (h.blks.length + 3) (.cells [.slice (some ⟨h.blks.length + 1, 0, none⟩) 1 1])) (h.blks.length + 2) 47 [.slice (some ⟨h.blks.length, 0, none⟩) 1 1] := d1.keepPut (by omega) _
  have f2 := d2.put [.slice (some ⟨h.blks.length + 1, 0, none⟩) 1 1]
  have k13 : In h.blks.length No (nm h) ((h11.put (h.blks.length + 2) (.cells [.slice (some ⟨h.blks.length, 0, none⟩) 1 1])).put (h.blks.length + 3) (.cells [.slice (some ⟨h.blks.length + 1, 0, none⟩) 1 1])) := (k11.trans (In.put (by omega) (.inl (by omega)) _)).trans (In.put (by rw [Heap.put_len]; omega) (.inl (by omega)) _)
  have u1 : SE ((h11.put (h.blks.length + 2) (.cells [.slice (some ⟨h.blks.length, 0, none⟩) 1 1])).put (h.blks.length + 3) (.cells [.slice (some ⟨h.blks.length + 1, 0, none⟩) 1 1])) (.slice (some ⟨h.blks.length, 0, none⟩) 1 1) aw1 := (t1.keepPut (by simp [blockOf]) _).keepPut (by simp [blockOf]) _
  have u2 : SE ((h11.put (h.blks.length + 2) (.cells [.slice (some ⟨h.blks.length, 0, none⟩) 1 1])).put (h.blks.length + 3) (.cells [.slice (some ⟨h.blks.length + 1, 0, none⟩) 1 1])) (.slice (some ⟨h.blks.length + 1, 0, none⟩) 1 1) aw2 := (t2.keepPut (by simp [blockOf]) _).keepPut (by simp [blockOf]) _
  generalize hh13 : (h11.put (h.blks.length + 2) (.cells [.slice (some ⟨h.blks.length, 0, none⟩) 1 1])).put (h.blks.length + 3) (.cells [.slice (some ⟨h.blks.length + 1, 0, none⟩) 1 1]) = h13 at f1 f2 k13 u1 u2 st2
  have l1 : ∀ {h' : Heap}, Same h13 h' → (h'.loadN (h.blks.length + 2) 0 1).map (fun cs => Value.agg cs.toArray) = some (.agg #[.slice (some ⟨h.blks.length, 0, none⟩) 1 1]) := fun hs => by rw [(f1.same hs).loadN (n := 1) rfl]; rfl
  have l2 : ∀ {h' : Heap}, Same h13 h' → (h'.loadN (h.blks.length + 3) 0 1).map (fun cs => Value.agg cs.toArray) = some (.agg #[.slice (some ⟨h.blks.length + 1, 0, none⟩) 1 1]) := fun hs => by rw [(f2.same hs).loadN (n := 1) rfl]; rfl
  have w1 : wide aw1 := by decide
  have w2 : wide aw2 := by decide
  obtain ⟨hA, q1,Ab⟩ := spec_Good u1 w1 (by decide)
  rw [show goodE aw1 = true by decide] at q1
  have sA := Ab.same
  obtain ⟨a2, c3, hB, q2,Ac, r2⟩ := spec_Join (h := nm hA) (u1.same sA).nm (u2.same sA).nm w1 w2 (by decide) (by decide)
  rw [aw_join] at q2 r2
  obtain ⟨Ac', m2⟩ := Ac.amx
  have sB := sA.trans Ac'.same
  have r2' : SE (am hB hA) (.slice a2 aw1.length c3) aw1 := Sl.keep (AE.se r2) fun _ _ _ => rfl
  obtain ⟨a4, c4, hC, q3,Ad, r3⟩ := spec_log1 (h := nm (am hB hA)) r2'.nm (by decide)
  obtain ⟨Ad', m3⟩ := Ad.amx
  have sC := sB.trans Ad'.same
  have r3' : SE (am hC (am hB hA)) (.slice a4 aw1.length c4) aw1 := Sl.keep (AR.se r3) fun _ _ _ => rfl
  have l3 : (am hC (am hB hA)).load1 (h.blks.length + 2) 0 = some (.slice (some ⟨h.blks.length, 0, none⟩) 1 1) := (f1.same sC).load 0
  obtain ⟨a5, c5, hD, q4,Ae, r4⟩ := spec_log1 (u1.same sC) (by decide)
  have q5 := spec_logs (r3'.ext Ae) (AR.se r4) (by decide) (by decide)
  rw [decide_eq_true rfl] at q5
  refine ⟨_, ?_, done_ext' ((((k13.trans (Ab.inn (Nat.le_trans k13.le k13.len))).trans (Ac'.inn (Nat.le_trans (Nat.le_trans k13.le k13.len) Ab.len))).trans (Ad'.inn (Nat.le_trans (Nat.le_trans (Nat.le_trans k13.le k13.len) Ab.len) Ac'.len))).trans (Ae.inn (Nat.le_trans (Nat.le_trans (Nat.le_trans (Nat.le_trans k13.le k13.len) Ab.len) Ac'.len) Ad'.len)))⟩
  simp -implicitDefEqProofs (disch := omega) only [↓c18_0_eq, ↓c18_1_eq, ↓c18_2_eq, ↓c18_3_eq, ↓c18_4_eq, ↓c18_5_eq, ↓c18_6_eq, ↓d18_0_0, ↓d18_0_1, ↓d18_0_2, ↓d18_0_3, ↓d18_0_4, ↓d18_0_5, ↓d18_0_6, ↓d18_0_7, ↓d18_0_8, ↓d18_0_9, ↓d18_0_10, ↓d18_0_11, ↓d18_0_12, ↓d18_0_13, ↓d18_0_14, bdE3, bsE3, e0, e1, ← hh6, bdL, alL, e6, e9, ← hh11, stL, st1, st2, ldL, l1 (Same.refl _), q1, l1 sA, l2 sA, q2, m2, fvL, q3, m3, faL, ldEs, l3, q4, q5, List.nil_append, List.append_nil, ↓ret18, ↓cnd_true, ↓cnd_false, ↓Option.bind_some, ↓obH_some', bin_add, bin_sub, bin_mul, bin_lss, bin_leq, bin_gtr, bin_geq, bin_eql, bin_neq, un_not, un_neg, Option.bind_some, Option.bind_none, Option.map_some, cnd_true, cnd_false, pickV_true, pickV_false, gd_true, gd_false, gdV_true, gdV_false, gdH_true, gdH_false, gdS_true, gdS_false, wt_ff, wt_tt, wt_ft, wt_tf, wt_undef, obH_some', extractV_tuple, nilCheckV_ptr, againK_normal, againK_exit, againK_ret, blockK_normal, blockK_same, blockK_ret, seqK_normal, seqK_exit, seqK_ret, fin_done, if_true', if_false', Bool.not_true, Bool.not_false, idx0, idx1, idx2, idx3, idx4, chk_nil_l, chk_nil_r, done_nm, up_cons, up_nil, cond_true, cond_false, Nat.reduceBEq]
theorem reads_ent {h : Heap} {f : Nat} {cs : List Value} {d : DT} (x : Reads Try.prog h f 57 cs d) : ∃ e : E3, cs = entC e ∧ e.n < 2 ^ 64 ∧ e.t < 2 ^ 64 ∧ -2 ^ 63 ≤ e.f ∧ e.f < 2 ^ 63 := by
  obtain ⟨g, l, rfl, hlen, ha⟩ := reads_struct Try.underlying57 x
  rw [show Try.prog.cellsOf 57 = 3 by kernel_rfl] at hlen
  obtain ⟨d0, m0, a0⟩ := ha.get (i := 0) rfl
  obtain ⟨d1, m1, a1⟩ := ha.get (i := 1) rfl
  obtain ⟨d2, m2, a2⟩ := ha.get (i := 2) rfl
  match cs, hlen with
  | [u, v, w], _ =>
    obtain ⟨n0, _, h0, w0⟩ := reads_int (k := .i64) Try.underlying3 a0
    obtain ⟨n1, _, h1, w1⟩ := reads_int (k := .u64) Try.underlying35 a1
    obtain ⟨n2, _, h2, w2⟩ := reads_int (k := .u64) Try.underlying55 a2
    simp [show Try.prog.cellsOf 3 = 1 by kernel_rfl] at h0
    simp [show Try.prog.cellsOf 35 = 1 by kernel_rfl] at h1
    simp [show Try.prog.cellsOf 55 = 1 by kernel_rfl] at h2
    have b0 := wf_i64 w0
    have b1 := wf_nat (k := .u64) rfl w1
    have b2 := wf_nat (k := .u64) rfl w2
    simp only [IntKind.bits] at b1 b2
    refine ⟨⟨n0, n1.toNat, n2.toNat⟩, ?_, by simp; omega, by simp; omega, b0.1, b0.2⟩
    simp only [entC]
    rw [h0, h1, h2, Int.toNat_of_nonneg b1.1, Int.toNat_of_nonneg b2.1]
theorem flat_ents {h : Heap} {f : Nat} {css : List (List Value)} {l : List DT} (a : All2 (fun c d => c.length = Try.prog.cellsOf 57 ∧ Reads Try.prog h f 57 c d) css l) : ∃ es : List E3, es.length = l.length ∧ css.flatten = entL es ∧ wide es := by
  induction a with
  | nil => exact ⟨[], rfl, rfl, fun e he => (List.not_mem_nil he).elim⟩
  | cons x _ ih =>
    obtain ⟨es, h1, h2, h3⟩ := ih
    obtain ⟨e, rfl, w1, w2, _⟩ := reads_ent x.2
    refine ⟨e :: es, by simp [h1], by rw [List.flatten_cons, h2]; rfl, fun z hz => ?_⟩
    rcases List.mem_cons.1 hz with rfl | hz
    · exact ⟨w1, w2⟩
    · exact h3 z hz
theorem Rd.ents {h : Heap} {v : Value} {d : DT} (r : Rd Try.prog h 45 v d) : ∃ es, SE h v es ∧ wide es := by
  obtain ⟨f, l, css, rfl, h1, h2, h3⟩ := r.slice Try.underlying45
  obtain ⟨es, g1, g2, g3⟩ := flat_ents h2
  rw [g2, show Try.prog.cellsOf 57 = 3 by kernel_rfl, ← g1] at h1
  exact ⟨es, h1, g3⟩
end Go.Am
namespace Go.Am
open Go.Proofs
set_option maxRecDepth 100000
set_option linter.all false
attribute [local congr] obind_congr obH_congr cnd_congr chk_congr retK_congr codeK_congr
def Old (n : Nat) (h h' : Heap) : Prop := h.blks.length ≤ h'.blks.length ∧ ∀ b, b < n → h'.blks[b]? = h.blks[b]?
theorem Old.refl (n : Nat) (h : Heap) : Old n h h := ⟨Nat.le_refl _, fun _ _ => rfl⟩
theorem Old.trans {n : Nat} {a b c : Heap} (h : Old n a b) (k : Old n b c) : Old n a c := ⟨Nat.le_trans h.1 k.1, fun i hi => (k.2 i hi).trans (h.2 i hi)⟩
theorem Same.to {n : Nat} {h h' : Heap} (s : Same h h') (hn : n ≤ h.blks.length) : Old n h h' := ⟨s.1, fun b hb => s.2 b (Nat.lt_of_lt_of_le hb hn)⟩
theorem HMod.to {n p : Nat} {h h' : Heap} (m : HMod (Just p) h h') (hp : n ≤ p) (hn : n ≤ h.blks.length) : Old n h h' := ⟨m.len, fun b hb => m.old b (Nat.lt_of_lt_of_le hb hn) (fun e => by have : b = p := e; omega)⟩
theorem Sl.old {P : Program} {k : Nat} {h h' : Heap} {es n : Nat} {v : Value} {cs : List Value} (r : Sl P h es v n cs) (o : Old k h h') (hv : Lo v k) : Sl P h' es v n cs := r.keep fun b _ hb => o.2 b (hv b hb)
theorem Cells.old {k : Nat} {h h' : Heap} {p : Nat} {ty : TypeId} {cs : List Value} (c : Cells h p ty cs) (o : Old k h h') (hp : p < k) : Cells h' p ty cs := (o.2 p hp).trans c
def encE (e : E3) : List UInt8 := putL e.f.toNat ++ (putL e.n ++ putL e.t)
def encL (es : List E3) : List UInt8 := (es.map encE).flatten
def logB (es : List E3) : List UInt8 := putL es.length ++ encL es
theorem encL_snoc (es : List E3) (e : E3) : encL (es ++ [e]) = encL es ++ encE e := by simp [encL]
theorem putL_le (n : Nat) (h : n < 2 ^ 64) : (putL n).length ≤ 10 := by
  rw [putL_len]; exact sizeN_le n 10 (Nat.lt_of_lt_of_le h (by decide)) (by omega)
theorem encE_le (e : E3) (h0 : e.f < 2 ^ 63) (h1 : e.n < 2 ^ 64) (h2 : e.t < 2 ^ 64) : (encE e).length ≤ 30 := by
  have a := putL_le e.f.toNat (by omega)
  have b := putL_le e.n h1
  have c := putL_le e.t h2
  simp only [encE, List.length_append]; omega
theorem encL_le : ∀ (es : List E3), (∀ e ∈ es, e.f < 2 ^ 63) → wide es → (encL es).length ≤ 30 * es.length
  | [], _, _ => Nat.le_refl _
  | e :: es, h, w => by
    have a := encL_le es (fun x hx => h x (by simp [hx])) (fun x hx => w x (by simp [hx]))
    have b := encE_le e (h e (by simp)) (w e (by simp)).1 (w e (by simp)).2
    simp only [encL, List.map_cons, List.flatten_cons, List.length_append, List.length_cons] at a ⊢
    omega
theorem put_loop18 {h0 h1 : Heap} {v : Value} {es : List E3} {p : Nat} (s : SE h1 v es) (hv : Lo v p) (hw : wide es) (hf : ∀ e ∈ es, 0 ≤ e.f ∧ e.f < 2 ^ 63) (hl : es.length < 2 ^ 32) (hn : h0.blks.length ≤ p) (hp1 : p ≤ h1.blks.length) :
    ∀ (m i : Nat), es.length - i = m → i ≤ es.length → ∀ (x : Nat → Value) (h : Heap),In h0.blks.length No (nm h0) h → Old p h1 h → Wr p h p (putL es.length ++ encL (es.take i)) →
    x 3 = .pointer (some ⟨p, 0, none⟩) → x 17 = v → x 18 = .int .i64 es.length → x 19 = .int .i64 i →
    ∃ a c h', lK c31_1 39 x h (blockK 0 (sK c31_2 (retK Try.f31 Try.prog h0))) = some (.slice a (logB es).length c, done h0 h') ∧ In h0.blks.length No (nm h0) h' ∧ AB h0.blks.length h' (.slice a (logB es).length c) (logB es) := by
  intro m
  have ll : ∀ i, (encL (es.take i)).length ≤ 30 * es.length := fun i => by
    have := encL_le (es.take i) (fun e he => (hf e (List.mem_of_mem_take he)).2) (fun e he => hw e (List.mem_of_mem_take he))
    have h2 : (es.take i).length ≤ es.length := by rw [List.length_take]; omega
    omega
  have l0 := putL_le es.length (by omega)
  induction m with
  | zero =>
    intro i e1 e2 x h hin ho w Ad As At Au
    obtain rfl : i = es.length := by omega
    have := ll es.length
    rw [List.take_length] at w this
    obtain ⟨a, c, h2, q1, q2, q3⟩ := spec_WDone w (by rw [List.length_append]; omega)
    rw [lK_eq]
    refine ⟨a, c, h2, ?_, hin.trans (q2.inn (Nat.le_trans hin.le hin.len)), Acc.up q3 (Nat.le_trans hin.le hin.len)⟩
    simp -implicitDefEqProofs (disch := omega) only [↓c31_1_eq, ↓c31_2_eq,Ad,As,At,Au, dcF, q1, ↓ret31, ↓cnd_true, ↓cnd_false, ↓Option.bind_some, ↓obH_some', bin_add, bin_sub, bin_mul, bin_lss, bin_leq, bin_gtr, bin_geq, bin_eql, bin_neq, un_not, un_neg, Option.bind_some, Option.bind_none, Option.map_some, cnd_true, cnd_false, pickV_true, pickV_false, gd_true, gd_false, gdV_true, gdV_false, gdH_true, gdH_false, gdS_true, gdS_false, wt_ff, wt_tt, wt_ft, wt_tf, wt_undef, obH_some', extractV_tuple, nilCheckV_ptr, againK_normal, againK_exit, againK_ret, blockK_normal, blockK_same, blockK_ret, seqK_normal, seqK_exit, seqK_ret, fin_done, if_true', if_false', Bool.not_true, Bool.not_false, idx0, idx1, idx2, idx3, idx4, chk_nil_l, chk_nil_r, done_nm, up_cons, up_nil, cond_true, cond_false, Nat.reduceBEq]
    rfl
  | succ m ih =>
    intro i hm hi x h hin ho w Ad As At Au
    have hil : i < es.length := by omega
    have hph : p ≤ h.blks.length := Nat.le_trans hp1 ho.1
    obtain ⟨b, of, hb, hbl, e1, e2⟩ := s.at' (t := 45) (el := 57) (by kernel_rfl) (by kernel_rfl) hil
    obtain ⟨f1, _⟩ := e2 h (ho.2 b (hv b hb))
    obtain ⟨hA, hB, a1, a2, a3, a4, a5, a6⟩ := var_ent (n0 := p) hph es[i]
    have wd := hw es[i] (List.getElem_mem hil)
    have fd := hf es[i] (List.getElem_mem hil)
    have wlt := w.lt
    have bl := ll i
    have lt1 : ∀ {h' : Heap}, Cells h' h.blks.length 57 (entC es[i]) → h'.load1 h.blks.length 0 = some (.int .i64 es[i].f) ∧ h'.load1 h.blks.length (0 + 1) = some (.int .u64 es[i].n) ∧ h'.load1 h.blks.length (0 + 2) = some (.int .u64 es[i].t) := fun c => ⟨c.load 0, c.load 1, c.load 2⟩
    obtain ⟨l1, _, _⟩ := lt1 a3
    have wB := w.same a5
    have p1 := putL_le es[i].f.toNat (by omega)
    have p2 := putL_le es[i].n wd.1
    have p3 := putL_le es[i].t wd.2
    obtain ⟨hC, q1, q2, q3⟩ := spec_WNum wB (by have := a5.1; omega) es[i].f.toNat (by omega) (by rw [List.length_append]; omega)
    rw [Int.toNat_of_nonneg fd.1] at q1
    have hab := a5.1
    have a3C : Cells hC h.blks.length 57 (entC es[i]) := a3.mod q2 (fun e => by have : h.blks.length = p := e; omega)
    obtain ⟨_, l2, _⟩ := lt1 a3C
    have lC := q2.len
    obtain ⟨hD, r1, r2, r3⟩ := spec_WNum (q3.up (n1 := p) (by omega)) (by omega) es[i].n wd.1 (by simp only [List.length_append]; omega)
    have a3D : Cells hD h.blks.length 57 (entC es[i]) := a3C.mod r2 (fun e => by have : h.blks.length = p := e; omega)
    obtain ⟨_, _, l3⟩ := lt1 a3D
    have lD := r2.len
    obtain ⟨hE, s1, s2, s3⟩ := spec_WSet (r3.up (n1 := p) (by omega)) (by omega) es[i].t wd.2 (by simp only [List.length_append]; omega)
    have lE := s2.len
    have cv := fun h => cvI64 es[i].f h fd.1 fd.2
    have wi : IntKind.i64.wrap ((i : Int) + 1) = ((i + 1 : Nat) : Int) := by rw [wrap_i64] <;> omega
    have ht : es.take i ++ [es[i]] = es.take (i + 1) := by rw [List.take_succ, List.getElem?_eq_getElem hil]; rfl
    have hsn := encL_snoc (es.take i) es[i]
    rw [ht] at hsn
    have w2 : Wr p hE p (putL es.length ++ encL (es.take (i + 1))) := by
      have := s3.up (n1 := p) (by omega)
      rw [hsn]
      simpa [encE, List.append_assoc] using this
    have hb0 : ∀ b, b < h0.blks.length → Just p b → No b := fun b hb e => by have : b = p := e; omega
    have hin2 := (((hin.trans (In.dn (a4 No) hn)).trans (q2.inn (by omega) hb0)).trans (r2.inn (by omega) hb0)).trans (s2.inn (by omega) hb0)
    have ho2 := (((ho.trans (a5.to hph)).trans (q2.to (Nat.le_refl _) (by omega))).trans (r2.to (Nat.le_refl _) (by omega))).trans (s2.to (Nat.le_refl _) (by omega))
    rw [lK_eq]
    simp -implicitDefEqProofs (disch := omega) only [↓c31_1_eq, ↓c31_2_eq,Ad,As,At,Au, dcT, e1, ldE, f1, Option.map_some, entA, a1, a2, faE0, faE1, faE2, ldI, ldU, ldS, l1, cv, q1, l2, r1, l3, s1, wi, ↓cnd_true, ↓cnd_false, ↓Option.bind_some, ↓obH_some', bin_add, bin_sub, bin_mul, bin_lss, bin_leq, bin_gtr, bin_geq, bin_eql, bin_neq, un_not, un_neg, Option.bind_some, Option.bind_none, Option.map_some, cnd_true, cnd_false, pickV_true, pickV_false, gd_true, gd_false, gdV_true, gdV_false, gdH_true, gdH_false, gdS_true, gdS_false, wt_ff, wt_tt, wt_ft, wt_tf, wt_undef, obH_some', extractV_tuple, nilCheckV_ptr, againK_normal, againK_exit, againK_ret, blockK_normal, blockK_same, blockK_ret, seqK_normal, seqK_exit, seqK_ret, fin_done, if_true', if_false', Bool.not_true, Bool.not_false, idx0, idx1, idx2, idx3, idx4, chk_nil_l, chk_nil_r, done_nm, up_cons, up_nil, cond_true, cond_false, Nat.reduceBEq]
    refine ih (i + 1) (by omega) (by omega) _ hE hin2 ho2 w2 ?_ ?_ ?_ ?_
    · exact Ad
    · exact As
    · exact At
    · rfl
def putE (es : List E3) : List UInt8 := if goodE es then logB es else []
theorem good_f {es : List E3} (h : goodE es = true) : ∀ e ∈ es, 0 ≤ e.f ∧ e.f < 16 ∧ 0 < e.n ∧ e.t < 65536 := fun e he => by
  have := ((goodE_iff es).1 h).1 e he
  unfold mayE at this
  simpa [Bool.and_eq_true] using this
theorem spec_Put18 {h : Heap} {v : Value} {es : List E3} (s : SE h v es) (hw : wide es) (hl : es.length < 2 ^ 32) : ∃ a c h', evC Try.prog 31 #[.agg #[v]] h = some (.slice a (putE es).length c, h') ∧ HExt h h' ∧ AB h.blks.length h' (.slice a (putE es).length c) (putE es) := by
  rw [call31]
  have c1 := Cells.new (nm h) 47 [v]
  have s1 : SE ((nm h).new (.cells [v]) 47) v es := s.nm.keepNew _ _
  have k1 : In h.blks.length No (nm h) ((nm h).new (.cells [v]) 47) := In.new (h := nm h) (Nat.le_refl h.blks.length) _ _
  have e0 : (nm h).blks.length = h.blks.length := rfl
  have e1 : ((nm h).new (.cells [v]) 47).blks.length = h.blks.length + 1 := by simp [Heap.new]
  generalize hh : (nm h).new (.cells [v]) 47 = h1 at c1 s1 k1 e1
  rw [e0] at c1
  have lA : (h1.loadN h.blks.length 0 1).map (fun cs => Value.agg cs.toArray) = some (.agg #[v]) := by rw [c1.loadN (n := 1) rfl]; rfl
  obtain ⟨h2, q2,Ac⟩ := spec_Good s1 hw (by omega)
  have hx2 := Ac.len
  unfold putE
  cases hg : goodE es with
  | false =>
    rw [hg] at q2
    refine ⟨none, 0, _, ?_, done_ext' (k1.trans (Ac.inn (by omega))), Acc.done .nil⟩
    simp -implicitDefEqProofs (disch := omega) only [↓c31_0_eq, bxL, e0, hh, ldL, lA, q2, ↓ret31, ↓cnd_true, ↓cnd_false, ↓Option.bind_some, ↓obH_some', bin_add, bin_sub, bin_mul, bin_lss, bin_leq, bin_gtr, bin_geq, bin_eql, bin_neq, un_not, un_neg, Option.bind_some, Option.bind_none, Option.map_some, cnd_true, cnd_false, pickV_true, pickV_false, gd_true, gd_false, gdV_true, gdV_false, gdH_true, gdH_false, gdS_true, gdS_false, wt_ff, wt_tt, wt_ft, wt_tf, wt_undef, obH_some', extractV_tuple, nilCheckV_ptr, againK_normal, againK_exit, againK_ret, blockK_normal, blockK_same, blockK_ret, seqK_normal, seqK_exit, seqK_ret, fin_done, if_true', if_false', Bool.not_true, Bool.not_false, idx0, idx1, idx2, idx3, idx4, chk_nil_l, chk_nil_r, done_nm, up_cons, up_nil, cond_true, cond_false, Nat.reduceBEq]
    rfl
  | true =>
    rw [hg] at q2
    have hf := good_f hg
    obtain ⟨h3, q3,Ad, w3, n3⟩ := spec_NewWriter h2
    have s3 := (s1.ext Ac).ext Ad
    have c3 := (c1.ext Ac).ext Ad
    have l3 : h3.load1 h.blks.length 0 = some v := c3.load 0
    have hx3 := Ad.len
    obtain ⟨a, c, rfl⟩ := s.shape
    have cv := fun h => cvI64 (es.length : Int) h (by omega) (by omega)
    obtain ⟨h4, q4,Ae, w4⟩ := spec_WNum w3 (by omega) es.length (by omega) (by simp)
    have hx4 := Ae.len
    have lo : Lo (.slice a es.length c) h2.blks.length := (s1.ext Ac).lo
    have o4 : Old h2.blks.length h3 h4 := Ae.to (Nat.le_refl _) (by omega)
    have s4 : SE h4 (.slice a es.length c) es := Sl.old s3 o4 lo
    have l4 : h4.load1 h.blks.length 0 = some (.slice a es.length c) := (c3.old o4 (by omega)).load 0
    have k4 := ((k1.trans (Ac.inn (by omega))).trans (Ad.inn (by omega))).trans (Ae.inn (by omega) (fun b hb e => by have : b = h2.blks.length := e; omega))
    have lp := put_loop18 (h0 := h) s4 lo hw (fun e he => ⟨(hf e he).1, by have := (hf e he).2.1; omega⟩) hl (by omega) (by omega) es.length 0 (by omega) (by omega)
    have fin' : ∀ {r : Option (Value × Heap)}, (∃ a c h', r = some (.slice a (logB es).length c, done h h') ∧ In h.blks.length No (nm h) h' ∧ AB h.blks.length h' (.slice a (logB es).length c) (logB es)) → ∃ a c h', r = some (.slice a (logB es).length c, h') ∧ HExt h h' ∧ AB h.blks.length h' (.slice a (logB es).length c) (logB es) := fun ⟨a, c, h', g1, g2, g3⟩ => ⟨a, c, _, g1, done_ext' g2, Acc.done g3⟩
    simp only [if_true]
    simp -implicitDefEqProofs (disch := omega) only [↓c31_0_eq, bxL, e0, hh, ldL, lA, q2, q3, faL, ldEs, l3, lnEs, cv, q4, l4, ↓cnd_true, ↓cnd_false, ↓Option.bind_some, ↓obH_some', bin_add, bin_sub, bin_mul, bin_lss, bin_leq, bin_gtr, bin_geq, bin_eql, bin_neq, un_not, un_neg, Option.bind_some, Option.bind_none, Option.map_some, cnd_true, cnd_false, pickV_true, pickV_false, gd_true, gd_false, gdV_true, gdV_false, gdH_true, gdH_false, gdS_true, gdS_false, wt_ff, wt_tt, wt_ft, wt_tf, wt_undef, obH_some', extractV_tuple, nilCheckV_ptr, againK_normal, againK_exit, againK_ret, blockK_normal, blockK_same, blockK_ret, seqK_normal, seqK_exit, seqK_ret, fin_done, if_true', if_false', Bool.not_true, Bool.not_false, idx0, idx1, idx2, idx3, idx4, chk_nil_l, chk_nil_r, done_nm, up_cons, up_nil, cond_true, cond_false, Nat.reduceBEq]
    refine fin' (lp _ _ k4 (Old.refl _ _) ?_ ?_ ?_ ?_ ?_)
    · rw [List.take_zero, show encL [] = [] from rfl, List.append_nil, ← List.nil_append (putL es.length)]; exact w4.up (by omega)
    all_goals rfl
end Go.Am
namespace Go.Am
theorem chk_ne {β : Type} {r m : List Nat} (h : ∀ b ∈ r, ∀ x ∈ m, b ≠ x) (x : Option β) : chk r m x = x := by
  have : (r.all fun b => !m.contains b) = true := by
    rw [List.all_eq_true]
    intro b hb
    rw [Bool.not_eq_true', ← Bool.not_eq_true, List.contains_iff_mem]
    exact fun hm => h b hb b hm rfl
  unfold chk; rw [this]
theorem HMod.mods_nm {S : Nat → Prop} {h h' : Heap} (e : HMod S (Am.nm h) h') : ∀ m ∈ h'.mods, S m := by
  obtain ⟨d, e1, e2⟩ := e.mods
  intro m hm
  rw [e1] at hm
  rcases List.mem_append.1 hm with hm | hm
  · exact (e2 m hm).1
  · cases hm
theorem HMod.amx {S : Nat → Prop} {h h' : Heap} (e : HMod S (Am.nm h) h') : HMod S h (Am.am h' h) := by
  obtain ⟨d, e1, e2⟩ := e.mods
  refine ⟨e.len, e.old, d, ?_, e2⟩
  show h'.mods ++ h.mods = d ++ h.mods
  rw [e1]; simp
theorem rb_ptr (b o : Nat) : rb (.pointer (some ⟨b, o, Option.none⟩)) = [b] := rfl
end Go.Am
namespace Go.Am
theorem same_np (h : Heap) (b c : Body) (ty : TypeId) : Same h ((h.new b ty).put h.blks.length c) := by
  refine ⟨by rw [Heap.put_len]; simp [Heap.new], fun i hi => ?_⟩
  rw [Heap.put_other (by omega), Heap.new_old hi]
def rdE (most : Nat) (r : Option (List UInt8)) : E3 × Option (List UInt8) :=
  (⟨(numP r most).1, (numP (numP r most).2 (2 ^ 64 - 1)).1, (numP (numP (numP r most).2 (2 ^ 64 - 1)).2 65535).1⟩, (numP (numP (numP r most).2 (2 ^ 64 - 1)).2 65535).2)
def rdN : Nat → Option (List UInt8) → List E3 × Option (List UInt8)
  | 0, r => ([], r)
  | n + 1, r => ((rdE 16 r).1 :: (rdN n (rdE 16 r).2).1, (rdN n (rdE 16 r).2).2)
def rdR : Nat → Option (List UInt8) → List E3 × Option (List UInt8)
  | 0, r => ([], r)
  | _ + 1, none => ([], none)
  | n + 1, some bs => ((rdE 15 (some bs)).1 :: (rdR n (rdE 15 (some bs)).2).1, (rdR n (rdE 15 (some bs)).2).2)
def logOf (x : List E3 × Option (List UInt8)) : Option (List E3) := if endP x.2 = true ∧ goodE x.1 = true then some x.1 else none
def getP (bs : List UInt8) : Option (List E3) := logOf (rdN (numP (some bs) bs.length).1 (numP (some bs) bs.length).2)
def getR (bs : List UInt8) : Option (List E3) := logOf (rdR (numP (some bs) (2 ^ 32)).1 (numP (some bs) (2 ^ 32)).2)
theorem numP_some {r : Option (List UInt8)} {m : Nat} {q : List UInt8} (h : (numP r m).2 = some q) : ∃ bs, r = some bs ∧ (numP r m).1 ≤ m ∧ q.length < bs.length ∧ ∀ m', (numP r m).1 ≤ m' → numP r m' = numP r m := by
  cases r with
  | none => cases h
  | some bs =>
    simp only [numP] at h ⊢
    split at h
    · cases h
    · rename_i hc
      have h1 : ¬ (getL bs).2 = 0 := fun e => hc (.inl e)
      have h2 : ¬ m < (getL bs).1 := fun e => hc (.inr e)
      rw [if_neg hc]
      simp only [Option.some.injEq] at h
      refine ⟨bs, rfl, by simpa using h2, ?_, fun m' hm' => ?_⟩
      · rw [← h, List.length_drop]
        have := getL_len bs
        omega
      · simp only at hm'
        rw [if_neg (by omega)]
theorem rdE_some {m : Nat} {r : Option (List UInt8)} {q : List UInt8} (h : (rdE m r).2 = some q) : ∃ bs, r = some bs ∧ q.length < bs.length ∧ (rdE m r).1.f ≤ m ∧ ∀ m' : Nat, (rdE m r).1.f ≤ m' → rdE m' r = rdE m r := by
  unfold rdE at h ⊢
  simp only at h ⊢
  obtain ⟨q2, h2, _, l2, _⟩ := numP_some h
  obtain ⟨q1, h1, _, l1, _⟩ := numP_some h2
  obtain ⟨bs, h0, b0, l0, e0⟩ := numP_some h1
  refine ⟨bs, h0, by omega, by omega, fun m' hm' => ?_⟩
  rw [e0 m' (by omega)]
theorem rdN_none (n : Nat) : (rdN n none).2 = none := by
  induction n with
  | zero => rfl
  | succ n ih => simp only [rdN]; exact ih
theorem rdN_some {n : Nat} {r : Option (List UInt8)} {q : List UInt8} (h : (rdN n r).2 = some q) : ∃ bs, r = some bs := by
  cases r with
  | none => rw [rdN_none] at h; cases h
  | some bs => exact ⟨bs, rfl⟩
theorem rdR_some : ∀ {n : Nat} {r : Option (List UInt8)} {q : List UInt8}, (rdR n r).2 = some q → ∃ bs, r = some bs ∧ q.length + n ≤ bs.length
  | 0, r, q, h => ⟨q, h, by omega⟩
  | n + 1, none, q, h => by cases h
  | n + 1, some bs, q, h => by
    simp only [rdR] at h
    obtain ⟨b1, h1, l1⟩ := rdR_some h
    obtain ⟨b0, h0, l0, _⟩ := rdE_some h1
    cases h0
    exact ⟨bs, rfl, by omega⟩
theorem good_tail {e : E3} {l : List E3} (h : goodE (e :: l) = true) : goodE l = true ∧ e.f < 16 := by
  rw [goodE_iff] at h ⊢
  refine ⟨⟨fun x hx => h.1 x (by simp [hx]), (List.pairwise_cons.1 h.2).2⟩, ?_⟩
  have := h.1 e (by simp)
  unfold mayE at this
  simp only [Bool.and_eq_true, decide_eq_true_eq] at this
  exact this.2.1
theorem rd_same1 : ∀ (n : Nat) (r : Option (List UInt8)) (q : List UInt8), (rdN n r).2 = some q → goodE (rdN n r).1 = true → rdR n r = rdN n r
  | 0, r, q, _, _ => rfl
  | n + 1, r, q, h, hg => by
    simp only [rdN] at h hg
    obtain ⟨b1, h1⟩ := rdN_some h
    obtain ⟨b0, h0, _, _, e0⟩ := rdE_some h1
    subst h0
    obtain ⟨g1, g2⟩ := good_tail hg
    have he := e0 15 (by omega)
    simp only [rdR, rdN, he]
    rw [rd_same1 n _ q h g1]
theorem rd_same2 : ∀ (n : Nat) (r : Option (List UInt8)) (q : List UInt8), (rdR n r).2 = some q → rdN n r = rdR n r
  | 0, r, q, _ => rfl
  | n + 1, none, q, h => by cases h
  | n + 1, some bs, q, h => by
    simp only [rdR] at h
    obtain ⟨b1, h1, _⟩ := rdR_some h
    obtain ⟨b0, h0, _, f0, e0⟩ := rdE_some h1
    have he := e0 16 (by omega)
    simp only [rdR, rdN, he]
    rw [rd_same2 n _ q h]
theorem endP_some {r : Option (List UInt8)} (h : endP r = true) : r = some [] := by
  cases r with
  | none => cases h
  | some l => cases l with
    | nil => rfl
    | cons a l => cases h
theorem logOf_none {x : List E3 × Option (List UInt8)} (h : x.2 = none) : logOf x = none := by
  unfold logOf; rw [h]; rfl
theorem get_same (bs : List UInt8) (hl : bs.length < 2 ^ 31) : getP bs = getR bs := by
  have same : ∀ n r, logOf (rdN n r) = logOf (rdR n r) := fun n r => by
    by_cases h1 : endP (rdN n r).2 = true ∧ goodE (rdN n r).1 = true
    · rw [rd_same1 n r [] (endP_some h1.1) h1.2]
    · by_cases h2 : endP (rdR n r).2 = true ∧ goodE (rdR n r).1 = true
      · rw [rd_same2 n r [] (endP_some h2.1)]
      · unfold logOf; rw [if_neg h1, if_neg h2]
  unfold getP getR
  by_cases hb : (getL bs).2 = 0
  · simp only [numP, hb, true_or, if_true]
    rw [same]
  · by_cases h1 : bs.length < (getL bs).1
    · have e1 : numP (some bs) bs.length = (0, none) := by simp only [numP]; rw [if_pos (.inr h1)]
      rw [e1]
      rw [logOf_none (rdN_none 0)]
      by_cases h2 : 2 ^ 32 < (getL bs).1
      · have e2 : numP (some bs) (2 ^ 32) = (0, none) := by simp only [numP]; rw [if_pos (.inr h2)]
        rw [e2]; rfl
      · have e2 : numP (some bs) (2 ^ 32) = ((getL bs).1, some (bs.drop (getL bs).2)) := by simp only [numP]; rw [if_neg (by omega)]
        rw [e2]
        unfold logOf
        rw [if_neg]
        rintro ⟨h3, _⟩
        obtain ⟨b, h4, h5⟩ := rdR_some (endP_some h3)
        cases h4
        rw [List.length_drop] at h5
        omega
    · have e1 : numP (some bs) bs.length = ((getL bs).1, some (bs.drop (getL bs).2)) := by simp only [numP]; rw [if_neg (by omega)]
      have e2 : numP (some bs) (2 ^ 32) = ((getL bs).1, some (bs.drop (getL bs).2)) := by simp only [numP]; rw [if_neg (by omega)]
      rw [e1, e2, same]
theorem rdE_enc (e : E3) (h0 : 0 ≤ e.f) (h1 : e.f < 16) (h2 : e.n < 2 ^ 64) (h3 : e.t < 65536) (rest : List UInt8) : rdE 16 (some (encE e ++ rest)) = (e, some rest) := by
  unfold rdE encE
  simp only [List.append_assoc]
  rw [numP_putL e.f.toNat (by omega) _ 16 (by omega)]
  simp only []
  rw [numP_putL e.n h2 _ (2 ^ 64 - 1) (by omega)]
  simp only []
  rw [numP_putL e.t (by omega) _ 65535 (by omega)]
  simp only [Int.toNat_of_nonneg h0]
theorem rdN_enc : ∀ (es : List E3) (rest : List UInt8), (∀ e ∈ es, 0 ≤ e.f ∧ e.f < 16 ∧ 0 < e.n ∧ e.t < 65536) → wide es → rdN es.length (some (encL es ++ rest)) = (es, some rest)
  | [], rest, _, _ => rfl
  | e :: es, rest, h, w => by
    have h0 := h e (by simp)
    have e1 : encL (e :: es) ++ rest = encE e ++ (encL es ++ rest) := by simp [encL]
    simp only [List.length_cons, rdN]
    rw [e1, rdE_enc e h0.1 h0.2.1 (w e (by simp)).1 h0.2.2.2, rdN_enc es rest (fun x hx => h x (by simp [hx])) (fun x hx => w x (by simp [hx]))]
theorem encL_ge : ∀ es : List E3, es.length ≤ (encL es).length
  | [] => Nat.le_refl _
  | e :: es => by
    have := encL_ge es
    have h1 : 1 ≤ (encE e).length := by
      have h1 := putL_pos e.n
      simp only [encE, List.length_append]; omega
    simp only [encL, List.map_cons, List.flatten_cons, List.length_append, List.length_cons] at this ⊢
    omega
theorem get_put {es : List E3} (hg : goodE es = true) (w : wide es) (hl : es.length < 2 ^ 64) : getP (logB es) = some es := by
  unfold getP logB
  have h1 := encL_ge es
  have e1 := numP_putL es.length hl (encL es) (putL es.length ++ encL es).length (by rw [List.length_append]; omega)
  rw [e1]
  simp only []
  have e2 := rdN_enc es [] (good_f hg) w
  rw [List.append_nil] at e2
  rw [e2]
  unfold logOf
  rw [if_pos ⟨rfl, hg⟩]
theorem rdN_len : ∀ (n : Nat) (r : Option (List UInt8)), (rdN n r).1.length = n
  | 0, _ => rfl
  | n + 1, r => by simp only [rdN, List.length_cons, rdN_len n]
theorem rdE_wide (m : Nat) (r : Option (List UInt8)) : (rdE m r).1.n < 2 ^ 64 ∧ (rdE m r).1.t < 2 ^ 64 := ⟨(numP_le _ _).2.1, (numP_le _ _).2.1⟩
theorem rdN_wide : ∀ (n : Nat) (r : Option (List UInt8)), wide (rdN n r).1
  | 0, _ => fun e he => (List.not_mem_nil he).elim
  | n + 1, r => fun e he => by
    simp only [rdN] at he
    rcases List.mem_cons.1 he with rfl | he
    · exact rdE_wide 16 r
    · exact rdN_wide n _ e he
theorem rdR_wide : ∀ (n : Nat) (r : Option (List UInt8)), wide (rdR n r).1
  | 0, _ => fun e he => (List.not_mem_nil he).elim
  | n + 1, none => fun e he => (List.not_mem_nil he).elim
  | n + 1, some bs => fun e he => by
    simp only [rdR] at he
    rcases List.mem_cons.1 he with rfl | he
    · exact rdE_wide 15 (some bs)
    · exact rdR_wide n _ e he
end Go.Am
namespace Go.Am
open Go.Proofs
set_option maxRecDepth 100000
set_option linter.all false
attribute [local congr] obind_congr obH_congr cnd_congr chk_congr retK_congr codeK_congr
theorem stEs (p : Nat) (a : Option Addr) (n c : Nat) (h : Heap) : storeV Try.prog 45 (.pointer (some ⟨p, 0, none⟩)) (.slice a n c) h = h.storeN p 0 [.slice a n c] := by kernel_rfl
theorem bdL0 : buildV Try.prog 47 #[] = some (.agg #[.slice none 0 0]) := by kernel_rfl
theorem lnB8 (a : Option Addr) (n c : Nat) (h : Heap) : lenV Try.prog 33 (.slice a n c) h = some (.int .i64 n) := by kernel_rfl
theorem setP_num (r : Option (List UInt8)) : setP r (allN 16) = numP r 65535 := by
  cases r with
  | none => rfl
  | some bs =>
    have h := getL_lt bs
    have o := out16 (getL bs).1 h
    simp only [setP, numP]
    have : (outB (getL bs).1 (allN 16) ≠ 0) ↔ 65535 < (getL bs).1 := by
      have := decide_eq_decide.1 o
      constructor
      · intro h1; refine Classical.byContradiction fun h2 => h1 (this.2 (by omega))
      · intro h1 h2; have := this.1 h2; omega
    simp only [this]
theorem RdrL.old {L k : Nat} {h h' : Heap} {p : Nat} {r : Option (List UInt8)} (w : RdrL L h p r) (o : Old k h h') (hp : p < k) : RdrL L h' p r :=
  let ⟨a, c, x, y, z⟩ := w
  ⟨a, c, x.old o hp, y.old o fun b hb => by have := (z b hb).2; omega, z⟩
theorem amSame (h' h : Heap) : Same h' (am h' h) := ⟨Nat.le_refl _, fun _ _ => rfl⟩
theorem get_loop18 {h0 h1 : Heap} {p0 p p2 : Nat} (hn : h0.blks.length ≤ p0) (hp : p0 < p) (hp2 : p < p2) (hp3 : p2 < h1.blks.length) :
    ∀ (n : Nat) (r : Option (List UInt8)) (acc : List E3), (rbs r).length < 2 ^ 30 → acc.length + n < 2 ^ 32 → wide acc → ∀ (x : Nat → Value) (h : Heap) (a : Option Addr) (c : Nat),In h0.blks.length No (nm h0) h → h1.blks.length ≤ h.blks.length → Cells h p0 47 [.slice none 0 0] → Rdr h p r → Cells h p2 47 [.slice a acc.length c] → AE h1.blks.length h (.slice a acc.length c) acc →
    x 2 = .pointer (some ⟨p0, 0, none⟩) → x 4 = .pointer (some ⟨p, 0, none⟩) → x 5 = .pointer (some ⟨p2, 0, none⟩) → x 6 = .int .u64 n →
    ∃ a' c' h', lK c29_1 42 x h (blockK 0 (sK c29_2 (retK Try.f29 Try.prog h0))) = some (.tuple #[.agg #[.slice a' ((logOf (acc ++ (rdN n r).1, (rdN n r).2)).getD []).length c'], .bool (logOf (acc ++ (rdN n r).1, (rdN n r).2)).isSome], done h0 h') ∧ In h0.blks.length No (nm h0) h' ∧ AE h1.blks.length h' (.slice a' ((logOf (acc ++ (rdN n r).1, (rdN n r).2)).getD []).length c') ((logOf (acc ++ (rdN n r).1, (rdN n r).2)).getD []) := by
  intro n
  induction n with
  | zero =>
    intro r acc hr hl hw x h a c hin hlen c0 w c2 ha Ac Ae Af Ag
    have e1 := spec_REnd w
    simp only [rdN, List.append_nil]
    rw [lK_eq]
    have hz : ((0 : Nat) : Int) = 0 := rfl
    have bad : ∀ {h2 : Heap}, Old h1.blks.length h h2 → In h0.blks.length No (nm h0) h2 → ∃ h3, storeV Try.prog 47 (.pointer (some ⟨p0, 0, none⟩)) (.agg #[.slice none 0 0]) h2 = some h3 ∧ (h3.loadN p0 0 1).map (fun cs => Value.agg cs.toArray) = some (.agg #[.slice none 0 0]) ∧ In h0.blks.length No (nm h0) h3 := fun {h2} o k => by
      have d := c0.old o (by omega)
      have d2 := d.put [.slice none 0 0]
      refine ⟨h2.put p0 (.cells [.slice none 0 0]), ?_, ?_, k.trans (In.put (Nat.le_trans k.le k.len) (.inl hn) _)⟩
      · rw [stL, storeN_blk d (by simp)]; rfl
      · rw [d2.loadN (n := 1) rfl]; rfl
    cases hE : endP r with
    | false =>
      rw [hE] at e1
      obtain ⟨h3, g1, g2, g3⟩ := bad (Old.refl _ h) hin
      have hlo : logOf (acc, r) = none := by unfold logOf; rw [if_neg (by simp [hE])]
      rw [hlo]
      refine ⟨none, 0, h3, ?_, g3, AE.nil _ _⟩
      simp -implicitDefEqProofs (disch := omega) only [↓c29_1_eq, ↓c29_2_eq,Ac,Ae,Af,Ag, hz, dcF, e1, bdL0, g1, ldL, g2, Option.bind_some, rvals, ↓ret29, ↓cnd_true, ↓cnd_false, ↓Option.bind_some, ↓obH_some', bin_add, bin_sub, bin_mul, bin_lss, bin_leq, bin_gtr, bin_geq, bin_eql, bin_neq, un_not, un_neg, Option.bind_some, Option.bind_none, Option.map_some, cnd_true, cnd_false, pickV_true, pickV_false, gd_true, gd_false, gdV_true, gdV_false, gdH_true, gdH_false, gdS_true, gdS_false, wt_ff, wt_tt, wt_ft, wt_tf, wt_undef, obH_some', extractV_tuple, nilCheckV_ptr, againK_normal, againK_exit, againK_ret, blockK_normal, blockK_same, blockK_ret, seqK_normal, seqK_exit, seqK_ret, fin_done, if_true', if_false', Bool.not_true, Bool.not_false, idx0, idx1, idx2, idx3, idx4, chk_nil_l, chk_nil_r, done_nm, up_cons, up_nil, cond_true, cond_false, Nat.reduceBEq]
      rfl
    | true =>
      rw [hE] at e1
      obtain ⟨h2, q2, y2⟩ := spec_Good ha.se hw (by omega)
      have lA : (h.loadN p2 0 1).map (fun cs => Value.agg cs.toArray) = some (.agg #[.slice a acc.length c]) := by rw [c2.loadN (n := 1) rfl]; rfl
      have k2 := hin.trans (y2.inn (Nat.le_trans hin.le hin.len))
      have o2 : Old h1.blks.length h h2 := y2.same.to hlen
      cases hg : goodE acc with
      | false =>
        rw [hg] at q2
        obtain ⟨h3, g1, g2, g3⟩ := bad o2 k2
        have hlo : logOf (acc, r) = none := by unfold logOf; rw [if_neg (by simp [hg])]
        rw [hlo]
        refine ⟨none, 0, h3, ?_, g3, AE.nil _ _⟩
        simp -implicitDefEqProofs (disch := omega) only [↓c29_1_eq, ↓c29_2_eq,Ac,Ae,Af,Ag, hz, dcF, e1, ldL, lA, q2, bdL0, g1, g2, Option.bind_some, rvals, ↓ret29, ↓cnd_true, ↓cnd_false, ↓Option.bind_some, ↓obH_some', bin_add, bin_sub, bin_mul, bin_lss, bin_leq, bin_gtr, bin_geq, bin_eql, bin_neq, un_not, un_neg, Option.bind_some, Option.bind_none, Option.map_some, cnd_true, cnd_false, pickV_true, pickV_false, gd_true, gd_false, gdV_true, gdV_false, gdH_true, gdH_false, gdS_true, gdS_false, wt_ff, wt_tt, wt_ft, wt_tf, wt_undef, obH_some', extractV_tuple, nilCheckV_ptr, againK_normal, againK_exit, againK_ret, blockK_normal, blockK_same, blockK_ret, seqK_normal, seqK_exit, seqK_ret, fin_done, if_true', if_false', Bool.not_true, Bool.not_false, idx0, idx1, idx2, idx3, idx4, chk_nil_l, chk_nil_r, done_nm, up_cons, up_nil, cond_true, cond_false, Nat.reduceBEq]
        rfl
      | true =>
        rw [hg] at q2
        have hlo : logOf (acc, r) = some acc := by unfold logOf; rw [if_pos ⟨hE, hg⟩]
        rw [hlo]
        have d := c0.old o2 (by omega)
        have d2 := d.put [.slice a acc.length c]
        have lB : (h2.loadN p2 0 1).map (fun cs => Value.agg cs.toArray) = some (.agg #[.slice a acc.length c]) := by rw [(c2.old o2 hp3).loadN (n := 1) rfl]; rfl
        have lD : (Heap.loadN (h2.put p0 (.cells [.slice a acc.length c])) p0 0 1).map (fun cs => Value.agg cs.toArray) = some (.agg #[.slice a acc.length c]) := by rw [d2.loadN (n := 1) rfl]; rfl
        refine ⟨a, c, h2.put p0 (.cells [.slice a acc.length c]), ?_, k2.trans (In.put (Nat.le_trans k2.le k2.len) (.inl hn) _), (ha.same y2.same).keepPut (fun e => by have := ha.ge e; omega) _⟩
        simp -implicitDefEqProofs (disch := omega) only [↓c29_1_eq, ↓c29_2_eq,Ac,Ae,Af,Ag, hz, dcF, e1, ldL, lA, q2, lB, stL, storeN_blk d (o := 0) (vs := [.slice a acc.length c]) (by simp), List.take_zero, List.nil_append, List.append_nil, List.length_cons, List.length_nil, List.drop_succ_cons, List.drop_zero, Nat.zero_add, lD, Option.bind_some, rvals, Option.getD_some, Option.isSome_some, ↓ret29, ↓cnd_true, ↓cnd_false, ↓Option.bind_some, ↓obH_some', bin_add, bin_sub, bin_mul, bin_lss, bin_leq, bin_gtr, bin_geq, bin_eql, bin_neq, un_not, un_neg, Option.bind_some, Option.bind_none, Option.map_some, cnd_true, cnd_false, pickV_true, pickV_false, gd_true, gd_false, gdV_true, gdV_false, gdH_true, gdH_false, gdS_true, gdS_false, wt_ff, wt_tt, wt_ft, wt_tf, wt_undef, obH_some', extractV_tuple, nilCheckV_ptr, againK_normal, againK_exit, againK_ret, blockK_normal, blockK_same, blockK_ret, seqK_normal, seqK_exit, seqK_ret, fin_done, if_true', if_false', Bool.not_true, Bool.not_false, idx0, idx1, idx2, idx3, idx4, chk_nil_l, chk_nil_r, done_nm, up_cons, up_nil, cond_true, cond_false, Nat.reduceBEq]
  | succ n ih =>
    intro r acc hr hl hw x h a c hin hlen c0 w c2 ha Ac Ae Af Ag
    have l2 : h.load1 p2 0 = some (.slice a acc.length c) := c2.load 0
    have n1 := numP_le r 16
    obtain ⟨hA, q1, y1, w1⟩ := spec_RNum w.nm 16 (by omega) (by omega)
    have m1 := y1.mods_nm
    have z1 := y1.amx
    have w1' := w1.same (amSame hA h)
    have n2 := numP_le (numP r 16).2 (2 ^ 64 - 1)
    obtain ⟨hB, q2, y2, w2⟩ := spec_RNum (h := nm (am hA h)) w1'.nm (2 ^ 64 - 1) (by omega) (by omega)
    have m2 := y2.mods_nm
    have z2 := y2.amx
    have w2' := w2.same (amSame hB (am hA h))
    have q3 := spec_All 16 (by omega) (nm (am hB (am hA h)))
    have n3 := numP_le (numP (numP r 16).2 (2 ^ 64 - 1)).2 65535
    obtain ⟨hC, q4, y4, w4⟩ := spec_RSet (h := nm (am hB (am hA h))) w2'.nm (allN 16) (by unfold allN; omega) (by omega)
    rw [setP_num] at q4 w4
    have m4 := y4.mods_nm
    have z4 := y4.amx
    have w4' := w4.same (amSame hC (am hB (am hA h)))
    have zz : HMod (Just p) h (am hC (am hB (am hA h))) := by
      refine ⟨Nat.le_trans (Nat.le_trans z1.len z2.len) z4.len, fun b hb hs => ((z4.old b (Nat.lt_of_lt_of_le hb (Nat.le_trans z1.len z2.len)) hs).trans (z2.old b (Nat.lt_of_lt_of_le hb z1.len) hs)).trans (z1.old b hb hs), ?_⟩
      obtain ⟨d1, g1, k1⟩ := z1.mods
      obtain ⟨d2, g2, k2⟩ := z2.mods
      obtain ⟨d3, g3, k3⟩ := z4.mods
      have hph := w.lt
      refine ⟨d3 ++ (d2 ++ d1), by rw [g3, g2, g1]; simp, fun m hm => ?_⟩
      have : Just p m := by
        rcases List.mem_append.1 hm with hm | hm
        · exact (k3 m hm).1
        · rcases List.mem_append.1 hm with hm | hm
          · exact (k2 m hm).1
          · exact (k1 m hm).1
      exact ⟨this, by have : m = p := this; omega⟩
    have cvv := fun h => cvU64 ((numP r 16).1 : Int) h (by omega) (by omega)
    have nb : ∀ b, Just p b → b < h0.blks.length → False := fun b e hb => by have : b = p := e; omega
    have hE : (rdE 16 r).1 = ⟨(numP r 16).1, (numP (numP r 16).2 (2 ^ 64 - 1)).1, (numP (numP (numP r 16).2 (2 ^ 64 - 1)).2 65535).1⟩ := rfl
    have kX := hin.trans (zz.inn (Nat.le_trans hin.le hin.len) fun b hb e => (nb b e hb).elim)
    have haX : AE h1.blks.length (am hC (am hB (am hA h))) (.slice a acc.length c) acc := ha.mod zz fun b hb e => by have := ha.ge hb; have : b = p := e; omega
    have cX2 := c2.mod zz (fun e => by have : p2 = p := e; omega)
    have cX0 := c0.mod zz (fun e => by have : p0 = p := e; omega)
    have lX := zz.len
    generalize hX : am hC (am hB (am hA h)) = hx at kX haX cX2 cX0 lX w4'
    obtain ⟨a', c', hD, g1, g2, g3, g4⟩ := app_ent etE (n0 := h1.blks.length) (by omega) haX (rdE 16 r).1 (by omega)
    have bs := bsE (rdE 16 r).1 hx
    rw [hE] at g1 bs
    have oD : Old h1.blks.length hx hD := ⟨g3.len, fun q hq => g4 q (by omega) (Acc.off haX (Nat.le_refl _) hq)⟩
    have dD2 := cX2.old oD hp3
    have dD0 := cX0.old oD (by omega)
    have wD := w4'.old oD (by omega)
    have cF := dD2.put [.slice a' (acc ++ [(rdE 16 r).1]).length c']
    have cF0 : Cells (hD.put p2 (.cells [.slice a' (acc ++ [(rdE 16 r).1]).length c'])) p0 47 [.slice none 0 0] := dD0.keepPut (by omega) _
    have wF := RdrL.keepPut wD hp2 (.cells [.slice a' (acc ++ [(rdE 16 r).1]).length c'])
    have aF : AE h1.blks.length (hD.put p2 (.cells [.slice a' (acc ++ [(rdE 16 r).1]).length c'])) (.slice a' (acc ++ [(rdE 16 r).1]).length c') (acc ++ [(rdE 16 r).1]) := Acc.keepPut g2 (fun e => by have := Acc.ge g2 e; omega) _
    have kD := kX.trans (Keeps.inn (S := No) (g3.dn (by omega)))
    have kF := kD.trans (In.put (S := No) (Nat.le_trans kD.le kD.len) (p := p2) (.inl (by omega)) (.cells [.slice a' (acc ++ [(rdE 16 r).1]).length c']))
    have hst := storeN_blk dD2 (o := 0) (vs := [.slice a' (acc ++ [(rdE 16 r).1]).length c']) (by simp)
    simp only [List.take_zero, List.nil_append, List.append_nil, List.length_cons, List.length_nil, List.drop_succ_cons, List.drop_zero, Nat.zero_add] at hst
    rw [hE] at hst
    have hlF : (hD.put p2 (.cells [.slice a' (acc ++ [(rdE 16 r).1]).length c'])).blks.length = hD.blks.length := Heap.put_len _ _ _
    have lD := g3.len
    have dn : decide (((n + 1 : Nat) : Int) > 0) = true := decide_eq_true (by omega)
    have wn : IntKind.u64.wrap (((n + 1 : Nat) : Int) - 1) = ((n : Nat) : Int) := by rw [wrap_u64] <;> omega
    have hrw : acc ++ (rdN (n + 1) r).1 = (acc ++ [(rdE 16 r).1]) ++ (rdN n (rdE 16 r).2).1 := by simp [rdN]
    have hr2 : (rdN (n + 1) r).2 = (rdN n (rdE 16 r).2).2 := rfl
    rw [show ((16 : Nat) : Int) = 16 from rfl] at q1 q3
    rw [show ((2 ^ 64 - 1 : Nat) : Int) = 18446744073709551615 from rfl] at q2
    have mall : ∀ b ∈ [p2], ∀ x ∈ hC.mods ++ (hB.mods ++ hA.mods), b ≠ x := fun b hb x hx e => by
      rw [List.mem_singleton] at hb
      have : Just p x := by
        rcases List.mem_append.1 hx with hx | hx
        · exact m4 x hx
        · rcases List.mem_append.1 hx with hx | hx
          · exact m2 x hx
          · exact m1 x hx
      have : x = p := this
      omega
    rw [lK_eq, hrw, hr2]
    simp -implicitDefEqProofs (disch := omega) only [↓c29_1_eq, ↓c29_2_eq,Ac,Ae,Af,Ag, dn, faL, ldEs, l2, q1, cvv, q2, q3, am_nm, nm_mods, List.nil_append, q4, hX, bdE3, show ([.int .i64 ((numP r 16).1 : Int), .int .u64 ((numP (numP r 16).2 (2 ^ 64 - 1)).1 : Int), .int .u64 ((numP (numP (numP r 16).2 (2 ^ 64 - 1)).2 65535).1 : Int)] : List Value) = entC ⟨(numP r 16).1, (numP (numP r 16).2 (2 ^ 64 - 1)).1, (numP (numP (numP r 16).2 (2 ^ 64 - 1)).2 65535).1⟩ from rfl, entA, bs, g1, stEs, hst, rb_ptr, List.append_nil, wn, ↓cnd_true, ↓cnd_false, ↓Option.bind_some, ↓obH_some', bin_add, bin_sub, bin_mul, bin_lss, bin_leq, bin_gtr, bin_geq, bin_eql, bin_neq, un_not, un_neg, Option.bind_some, Option.bind_none, Option.map_some, cnd_true, cnd_false, pickV_true, pickV_false, gd_true, gd_false, gdV_true, gdV_false, gdH_true, gdH_false, gdS_true, gdS_false, wt_ff, wt_tt, wt_ft, wt_tf, wt_undef, obH_some', extractV_tuple, nilCheckV_ptr, againK_normal, againK_exit, againK_ret, blockK_normal, blockK_same, blockK_ret, seqK_normal, seqK_exit, seqK_ret, fin_done, if_true', if_false', Bool.not_true, Bool.not_false, idx0, idx1, idx2, idx3, idx4, chk_nil_l, chk_nil_r, done_nm, up_cons, up_nil, cond_true, cond_false, Nat.reduceBEq]
    rw [chk_ne mall]
    refine ih (rdE 16 r).2 _ ?_ ?_ ?_ _ _ a' c' kF (by rw [Heap.put_len]; omega) cF0 wF cF aF ?_ ?_ ?_ ?_
    · unfold rdE; simp only; omega
    · rw [List.length_append, List.length_singleton]; omega
    · intro e he
      rcases List.mem_append.1 he with he | he
      · exact hw e he
      · rw [List.mem_singleton] at he; subst he; exact rdE_wide 16 r
    · exact Ac
    · exact Ae
    · exact Af
    · rfl
end Go.Am
namespace Go.Am
open Go.Proofs
set_option maxRecDepth 100000
set_option linter.all false
attribute [local congr] obind_congr obH_congr cnd_congr chk_congr retK_congr codeK_congr
theorem spec_Get18 {h : Heap} {v : Value} {bs : List UInt8} (s : SB h v bs) (hl : bs.length < 2 ^ 30) : ∃ a c h', evC Try.prog 29 #[v] h = some (.tuple #[.agg #[.slice a ((getP bs).getD []).length c], .bool (getP bs).isSome], h') ∧ HExt h h' ∧ AE h.blks.length h' (.slice a ((getP bs).getD []).length c) ((getP bs).getD []) := by
  rw [call29]
  have c1 := Cells.new (nm h) 47 [.slice none 0 0]
  have s1 : SB ((nm h).new (.cells [.slice none 0 0]) 47) v bs := s.nm.keepNew _ _
  have k1 : In h.blks.length No (nm h) ((nm h).new (.cells [.slice none 0 0]) 47) := In.new (h := nm h) (Nat.le_refl h.blks.length) _ _
  have e0 : (nm h).blks.length = h.blks.length := rfl
  have e1 : ((nm h).new (.cells [.slice none 0 0]) 47).blks.length = h.blks.length + 1 := by simp [Heap.new]
  generalize hh : (nm h).new (.cells [.slice none 0 0]) 47 = h1 at c1 s1 k1 e1
  rw [e0] at c1
  obtain ⟨h2, p, q2,Ac, w2, hp⟩ := spec_NewReader s1 (by omega)
  have hx2 := Ac.len
  have c2 := c1.ext Ac
  have k2 := k1.trans (Ac.inn (by omega))
  have c3 := c2.keepNew (.cells [.slice none 0 0]) 47
  have w3 := w2.same (Same.new h2 (.cells [.slice none 0 0]) 47)
  have k3 := k2.trans (In.new (S := No) (by omega) (.cells [.slice none 0 0]) 47)
  have d3 := Cells.new h2 47 [.slice none 0 0]
  have hp2 := w2.lt
  have n3 : (h2.new (.cells [.slice none 0 0]) 47).blks.length = h2.blks.length + 1 := by simp [Heap.new]
  generalize hh3 : h2.new (.cells [.slice none 0 0]) 47 = h3 at c3 w3 k3 d3 n3
  obtain ⟨va, vc, rfl⟩ := s.shape
  have n1 := numP_le (some bs) bs.length
  have hrb : (rbs (some bs)).length = bs.length := rfl
  rw [hrb] at n1
  obtain ⟨h4, q4, y4, w4⟩ := spec_RNum w3 bs.length (by omega) (by rw [hrb]; omega)
  have cv := fun h => cvI64 (bs.length : Int) h (by omega) (by omega)
  have k4 := k3.trans (y4.inn (by omega) (fun b hb e => by have : b = p := e; omega))
  have hy4 := y4.len
  have c4 := c3.mod y4 (fun e => by have : h.blks.length = p := e; omega)
  have d4 := d3.mod y4 (fun e => by have : h2.blks.length = p := e; omega)
  have lp := get_loop18 (h0 := h) (h1 := h4) (p0 := h.blks.length) (p := p) (p2 := h2.blks.length) (by omega) (by omega) (by omega) (by omega) (numP (some bs) bs.length).1 (numP (some bs) bs.length).2 [] (by omega) (by simp; omega) (fun e he => (List.not_mem_nil he).elim)
  have fin' : ∀ {r : Option (Value × Heap)}, (∃ a c h', r = some (.tuple #[.agg #[.slice a ((getP bs).getD []).length c], .bool (getP bs).isSome], done h h') ∧ In h.blks.length No (nm h) h' ∧ AE h4.blks.length h' (.slice a ((getP bs).getD []).length c) ((getP bs).getD [])) → ∃ a c h', r = some (.tuple #[.agg #[.slice a ((getP bs).getD []).length c], .bool (getP bs).isSome], h') ∧ HExt h h' ∧ AE h.blks.length h' (.slice a ((getP bs).getD []).length c) ((getP bs).getD []) := fun ⟨a, c, h', g1, g2, g3⟩ => ⟨a, c, _, g1, done_ext' g2, (Acc.up g3 (by omega)).done⟩
  simp -implicitDefEqProofs (disch := omega) only [↓c29_0_eq, alL, e0, hh, q2, hh3, lnB8, cv, q4, ↓cnd_true, ↓cnd_false, ↓Option.bind_some, ↓obH_some', bin_add, bin_sub, bin_mul, bin_lss, bin_leq, bin_gtr, bin_geq, bin_eql, bin_neq, un_not, un_neg, Option.bind_some, Option.bind_none, Option.map_some, cnd_true, cnd_false, pickV_true, pickV_false, gd_true, gd_false, gdV_true, gdV_false, gdH_true, gdH_false, gdS_true, gdS_false, wt_ff, wt_tt, wt_ft, wt_tf, wt_undef, obH_some', extractV_tuple, nilCheckV_ptr, againK_normal, againK_exit, againK_ret, blockK_normal, blockK_same, blockK_ret, seqK_normal, seqK_exit, seqK_ret, fin_done, if_true', if_false', Bool.not_true, Bool.not_false, idx0, idx1, idx2, idx3, idx4, chk_nil_l, chk_nil_r, done_nm, up_cons, up_nil, cond_true, cond_false, Nat.reduceBEq]
  refine fin' (lp _ _ none 0 k4 (Nat.le_refl _) c4 w4 d4 (AE.nil _ _) ?_ ?_ ?_ ?_)
  all_goals rfl
end Go.Am
namespace Go.Am
open Go.Proofs
set_option maxRecDepth 100000
set_option linter.all false
attribute [local congr] obind_congr obH_congr cnd_congr chk_congr retK_congr codeK_congr
theorem entL_setE : ∀ (es : List E3) (i : Nat) (hi : i < es.length) (x : E3), (entL es).take (i * 3) ++ entC x ++ (entL es).drop (i * 3 + 3) = entL (es.set i x)
  | e :: es, 0, _, x => rfl
  | e :: es, i + 1, hi, x => by
    rw [show (i + 1) * 3 = (i * 3) + 1 + 1 + 1 by omega, show (i * 3) + 1 + 1 + 1 + 3 = (i * 3 + 3) + 1 + 1 + 1 by omega]
    simp only [entL, List.take_succ_cons, List.drop_succ_cons, List.cons_append, List.set_cons_succ]
    rw [← entL_setE es i (by simpa using hi) x]
theorem AE.setE {n0 : Nat} {h : Heap} {v : Value} {es : List E3} (a : AE n0 h v es) {i : Nat} (hi : i < es.length) (x : E3) :
    ∃ b o h', blockOf v = some b ∧ n0 ≤ b ∧ b < h.blks.length ∧ (∀ k, indexAddrV Try.prog 45 v (.int k i) = some (.pointer (some ⟨b, o, none⟩))) ∧
      h.storeN b o (entC x) = some h' ∧ AE n0 h' v (es.set i x) ∧ (∀ S,In n0 S h h') ∧ h'.blks.length = h.blks.length ∧ (∀ q, q ≠ b → h'.blks[q]? = h.blks[q]?) := by
  obtain ⟨b, o, e1, e2, e3, e4, e5⟩ := Acc.store (P := Try.prog) a (by omega)
  obtain ⟨h', g1, g2, g3, g4, g5⟩ := e5 (i * 3) (entC x) (by simp [entC]; omega)
  refine ⟨b, o + i * 3, h', e1, e2, e3, fun k => e4 (by kernel_rfl) (by kernel_rfl) k i hi, g1, ?_, g3, g4, g5⟩
  rw [show (entC x).length = 3 from rfl, entL_setE es i hi x] at g2
  show Acc n0 h' _ 3 v (es.set i _).length _
  rw [List.length_set]
  exact g2
theorem stEo (p o : Nat) (e : E3) (h : Heap) : storeV Try.prog 57 (.pointer (some ⟨p, o, none⟩)) (entV e) h = h.storeN p o (entC e) := by kernel_rfl
theorem stEsl (p : Nat) (a : Option Addr) (n c : Nat) (h : Heap) : storeV Try.prog 45 (.pointer (some ⟨p, 0, none⟩)) (.slice a n c) h = h.storeN p 0 [.slice a n c] := by kernel_rfl
theorem bxEe (e : E3) (h : Heap) : boxV Try.prog 57 (entV e) h = some (.pointer (some ⟨h.blks.length, 0, none⟩), h.new (.cells (entC e)) 57) := by kernel_rfl
def insE (es : List E3) (x : E3) : List E3 := es.take (bsK es x) ++ x :: es.drop (bsK es x)
def addE (es : List E3) (x : E3) : List E3 := if goodE es = true ∧ mayE x = true then (if bsF es x = true then es.set (bsK es x) x else insE es x) else es
def InsOk (es : List E3) (x : E3) : Prop := goodE es = true → mayE x = true → bsF es x = false → ∀ (n0 : Nat) (h : Heap) (a : Option Addr) (c : Nat), n0 ≤ h.blks.length → AE n0 h (.slice a es.length c) es →
  ∃ a' c' h', evC Try.prog 63 #[.slice a es.length c, .int .i64 (bsK es x : Nat), .slice (some ⟨h.blks.length, 0, none⟩) 1 1] (h.new (.cells (entC x)) 57) = some (.slice a' (insE es x).length c', h') ∧
    AE n0 h' (.slice a' (insE es x).length c') (insE es x) ∧ Keeps n0 h h' ∧ (∀ q, q < h.blks.length → blockOf (.slice a es.length c) ≠ some q → h'.blks[q]? = h.blks[q]?)
theorem bsF_lt {es : List E3} {x : E3} (h : bsF es x = true) : bsK es x < es.length := by
  unfold bsF at h
  split at h
  · rename_i e he; exact (List.getElem?_eq_some_iff.1 he).1
  · cases h
theorem spec_Add {h : Heap} {v : Value} {es : List E3} (s : SE h v es) (hw : wide es) (hl : es.length < 2 ^ 38) (x : E3) (hx : x.t < 2 ^ 64) (hins : InsOk es x) :
    ∃ a c h', evC Try.prog 33 #[.agg #[v], entV x] h = some (.agg #[.slice a (addE es x).length c], h') ∧ HExt h h' ∧ AE h.blks.length h' (.slice a (addE es x).length c) (addE es x) := by
  rw [call33]
  have c1 := ((Cells.new (nm h) 47 [v]).keepNew (.cells (entC x)) 57).keepNew (.cells [.slice none 0 0]) 47
  have c2 := (Cells.new ((nm h).new (.cells [v]) 47) 57 (entC x)).keepNew (.cells [.slice none 0 0]) 47
  have c3 := Cells.new (((nm h).new (.cells [v]) 47).new (.cells (entC x)) 57) 47 [.slice none 0 0]
  have s1 : SE ((((nm h).new (.cells [v]) 47).new (.cells (entC x)) 57).new (.cells [.slice none 0 0]) 47) v es := ((s.nm.keepNew _ _).keepNew _ _).keepNew _ _
  have k1 : In h.blks.length No (nm h) ((((nm h).new (.cells [v]) 47).new (.cells (entC x)) 57).new (.cells [.slice none 0 0]) 47) := ((In.new (h := nm h) (Nat.le_refl h.blks.length) _ _).trans (In.new (by simp [Heap.new]) _ _)).trans (In.new (by simp [Heap.new, Nat.add_assoc]) _ _)
  have e0 : (nm h).blks.length = h.blks.length := rfl
  have e1 : ((nm h).new (.cells [v]) 47).blks.length = h.blks.length + 1 := by simp [Heap.new]
  have e2 : (((nm h).new (.cells [v]) 47).new (.cells (entC x)) 57).blks.length = h.blks.length + 2 := by simp [Heap.new]
  rw [e0] at c1
  rw [e1] at c2
  rw [e2] at c3
  have hlen : ((((nm h).new (.cells [v]) 47).new (.cells (entC x)) 57).new (.cells [.slice none 0 0]) 47).blks.length = h.blks.length + 3 := by simp [Heap.new]
  generalize hh : (((nm h).new (.cells [v]) 47).new (.cells (entC x)) 57).new (.cells [.slice none 0 0]) 47 = h1 at c1 c2 c3 s1 k1 hlen
  have lA : (h1.loadN h.blks.length 0 1).map (fun cs => Value.agg cs.toArray) = some (.agg #[v]) := by rw [c1.loadN (n := 1) rfl]; rfl
  obtain ⟨a, c, h3, e3,Ad, a3⟩ := spec_clone s1 (by omega)
  have c13 := c1.ext Ad
  have c23 := c2.ext Ad
  have c33 := c3.ext Ad
  have hx3 := Ad.len
  have b0 : ∀ i, i < h.blks.length + 3 → blockOf (.slice a es.length c) ≠ some i := fun i hi e => by have := a3.ge e; omega
  have c14 := c13.put [.slice a es.length c]
  have c24 := c23.keepPut (q := h.blks.length) (by omega) (.cells [.slice a es.length c])
  have c34 := c33.keepPut (q := h.blks.length) (by omega) (.cells [.slice a es.length c])
  have a4 : AE (h.blks.length + 3) (h3.put h.blks.length (.cells [.slice a es.length c])) (.slice a es.length c) es := (a3.keepPut (b0 _ (by omega)) _).up (by omega)
  have k4 := (k1.trans (Ad.inn (by omega))).trans (In.put (S := No) (by omega) (p := h.blks.length) (.inl (by omega)) (.cells [.slice a es.length c]))
  have hs4 := storeN_blk c13 (o := 0) (vs := [.slice a es.length c]) (by simp)
  have hl4 : (h3.put h.blks.length (.cells [.slice a es.length c])).blks.length = h3.blks.length := Heap.put_len _ _ _
  simp only [List.take_zero, List.nil_append, List.append_nil, List.length_cons, List.length_nil, List.drop_succ_cons, List.drop_zero, Nat.zero_add] at hs4
  generalize hh4 : h3.put h.blks.length (.cells [.slice a es.length c]) = h4 at c14 c24 c34 a4 k4 hs4 hl4
  have l4 : (h4.loadN h.blks.length 0 1).map (fun cs => Value.agg cs.toArray) = some (.agg #[.slice a es.length c]) := by rw [c14.loadN (n := 1) rfl]; rfl
  obtain ⟨h5, e5,Af⟩ := spec_Good a4.se hw (by omega)
  have hx5 := Af.len
  have c15 := c14.ext Af
  have c25 := c24.ext Af
  have c35 := c34.ext Af
  have a5 : AE (h.blks.length + 3) h5 (.slice a es.length c) es := a4.same Af.same
  have k5 := k4.trans (Af.inn (Nat.le_trans k4.le k4.len))
  -- what is answered where nothing is added
  have out : ∀ {h6 : Heap} {es' : List E3} {a' c'}, In h.blks.length No (nm h) h6 → Cells h6 h.blks.length 47 [.slice a' es'.length c'] → Cells h6 (h.blks.length + 2) 47 [.slice none 0 0] → AE (h.blks.length + 3) h6 (.slice a' es'.length c') es' →
      ∃ h7, (h6.loadN h.blks.length 0 1).map (fun cs => Value.agg cs.toArray) = some (.agg #[.slice a' es'.length c']) ∧ h6.storeN (h.blks.length + 2) 0 [.slice a' es'.length c'] = some h7 ∧ (h7.loadN (h.blks.length + 2) 0 1).map (fun cs => Value.agg cs.toArray) = some (.agg #[.slice a' es'.length c']) ∧ HExt h (done h h7) ∧ AE h.blks.length (done h h7) (.slice a' es'.length c') es' := fun {h6 es' a' c'} k g1 g2 ha => by
    have d := g2.put [.slice a' es'.length c']
    refine ⟨h6.put (h.blks.length + 2) (.cells [.slice a' es'.length c']), by rw [g1.loadN (n := 1) rfl]; rfl, ?_, by rw [d.loadN (n := 1) rfl]; rfl, done_ext' (k.trans (In.put (S := No) (Nat.le_trans k.le k.len) (p := h.blks.length + 2) (.inl (by omega)) _)), ((ha.keepPut (fun e => by have := ha.ge e; omega) _).up (by omega)).done⟩
    rw [storeN_blk g2 (by simp)]; rfl
  unfold addE
  cases hg : goodE es with
  | false =>
    rw [hg] at e5
    obtain ⟨h7, o1, o2, o3, o4, o5⟩ := out k5 c15 c35 a5
    rw [if_neg (by simp)]
    refine ⟨a, c, _, ?_, o4, o5⟩
    simp -implicitDefEqProofs (disch := omega) only [↓c33_0_eq, bxL, bxEe, alL, e0, e1, e2, hh, ldL, lA, e3, stL, hs4, l4, e5, o1, o2, o3, rvals, ↓ret33, ↓cnd_true, ↓cnd_false, ↓Option.bind_some, ↓obH_some', bin_add, bin_sub, bin_mul, bin_lss, bin_leq, bin_gtr, bin_geq, bin_eql, bin_neq, un_not, un_neg, Option.bind_some, Option.bind_none, Option.map_some, cnd_true, cnd_false, pickV_true, pickV_false, gd_true, gd_false, gdV_true, gdV_false, gdH_true, gdH_false, gdS_true, gdS_false, wt_ff, wt_tt, wt_ft, wt_tf, wt_undef, obH_some', extractV_tuple, nilCheckV_ptr, againK_normal, againK_exit, againK_ret, blockK_normal, blockK_same, blockK_ret, seqK_normal, seqK_exit, seqK_ret, fin_done, if_true', if_false', Bool.not_true, Bool.not_false, idx0, idx1, idx2, idx3, idx4, chk_nil_l, chk_nil_r, done_nm, up_cons, up_nil, cond_true, cond_false, Nat.reduceBEq]
  | true =>
    rw [hg] at e5
    have lx : ∀ {h' : Heap}, Cells h' (h.blks.length + 1) 57 (entC x) → (h'.loadN (h.blks.length + 1) 0 3).map (fun cs => Value.agg cs.toArray) = some (entV x) := fun g => by rw [g.loadN (n := 3) rfl]; rfl
    obtain ⟨h6, e6,Ag⟩ := spec_may x hx h5
    have hx6 := Ag.len
    have c16 := c15.ext Ag
    have c26 := c25.ext Ag
    have c36 := c35.ext Ag
    have a6 : AE (h.blks.length + 3) h6 (.slice a es.length c) es := a5.same Ag.same
    have k6 := k5.trans (Ag.inn (Nat.le_trans k5.le k5.len))
    cases hm : mayE x with
    | false =>
      rw [hm] at e6
      obtain ⟨h7, o1, o2, o3, o4, o5⟩ := out k6 c16 c36 a6
      rw [if_neg (by simp)]
      refine ⟨a, c, _, ?_, o4, o5⟩
      simp -implicitDefEqProofs (disch := omega) only [↓c33_0_eq, bxL, bxEe, alL, e0, e1, e2, hh, ldL, lA, e3, stL, hs4, l4, e5, ldE, lx c25, e6, o1, o2, o3, rvals, ↓ret33, ↓cnd_true, ↓cnd_false, ↓Option.bind_some, ↓obH_some', bin_add, bin_sub, bin_mul, bin_lss, bin_leq, bin_gtr, bin_geq, bin_eql, bin_neq, un_not, un_neg, Option.bind_some, Option.bind_none, Option.map_some, cnd_true, cnd_false, pickV_true, pickV_false, gd_true, gd_false, gdV_true, gdV_false, gdH_true, gdH_false, gdS_true, gdS_false, wt_ff, wt_tt, wt_ft, wt_tf, wt_undef, obH_some', extractV_tuple, nilCheckV_ptr, againK_normal, againK_exit, againK_ret, blockK_normal, blockK_same, blockK_ret, seqK_normal, seqK_exit, seqK_ret, fin_done, if_true', if_false', Bool.not_true, Bool.not_false, idx0, idx1, idx2, idx3, idx4, chk_nil_l, chk_nil_r, done_nm, up_cons, up_nil, cond_true, cond_false, Nat.reduceBEq]
    | true =>
      rw [hm] at e6
      have ls6 : h6.load1 h.blks.length 0 = some (.slice a es.length c) := c16.load 0
      obtain ⟨h7, e7,Ah⟩ := spec_BS a6.se ((goodE_iff es).1 hg).2 (by omega) x
      have hx7 := Ah.len
      have c17 := c16.ext Ah
      have c27 := c26.ext Ah
      have c37 := c36.ext Ah
      have a7 : AE (h.blks.length + 3) h7 (.slice a es.length c) es := a6.same Ah.same
      have k7 := k6.trans (Ah.inn (Nat.le_trans k6.le k6.len))
      have ls7 : h7.load1 h.blks.length 0 = some (.slice a es.length c) := c17.load 0
      rw [if_pos ⟨rfl, rfl⟩]
      cases hb : bsF es x with
      | true =>
        rw [hb] at e7
        obtain ⟨b, o, h8, f1, f2, f3, f4, f5, f6, f7, f8, f9⟩ := a7.setE (bsF_lt hb) x
        have e9 : (es.set (bsK es x) x).length = es.length := List.length_set ..
        rw [← e9] at f6
        have g1 : Cells h8 h.blks.length 47 [.slice a (es.set (bsK es x) x).length c] := by rw [e9]; exact (f9 _ (by omega)).trans c17
        have g2 : Cells h8 (h.blks.length + 2) 47 [.slice none 0 0] := (f9 _ (by omega)).trans c37
        obtain ⟨h9, o1, o2, o3, o4, o5⟩ := out (k7.trans ((f7 No).dn (by omega))) g1 g2 f6
        rw [e9] at o1 o2 o3 o5
        simp only [if_true]
        rw [e9]
        refine ⟨a, c, _, ?_, o4, o5⟩
        simp -implicitDefEqProofs (disch := omega) only [↓c33_0_eq, bxL, bxEe, alL, e0, e1, e2, hh, ldL, lA, e3, stL, hs4, l4, e5, ldE, lx c25, lx c26, e6, faL, ldEs, ls6, e7, extractV_tuple, ls7, lx c27, f4, stEo, f5, o1, o2, o3, rvals, ↓ret33, ↓cnd_true, ↓cnd_false, ↓Option.bind_some, ↓obH_some', bin_add, bin_sub, bin_mul, bin_lss, bin_leq, bin_gtr, bin_geq, bin_eql, bin_neq, un_not, un_neg, Option.bind_some, Option.bind_none, Option.map_some, cnd_true, cnd_false, pickV_true, pickV_false, gd_true, gd_false, gdV_true, gdV_false, gdH_true, gdH_false, gdS_true, gdS_false, wt_ff, wt_tt, wt_ft, wt_tf, wt_undef, obH_some', extractV_tuple, nilCheckV_ptr, againK_normal, againK_exit, againK_ret, blockK_normal, blockK_same, blockK_ret, seqK_normal, seqK_exit, seqK_ret, fin_done, if_true', if_false', Bool.not_true, Bool.not_false, idx0, idx1, idx2, idx3, idx4, chk_nil_l, chk_nil_r, done_nm, up_cons, up_nil, cond_true, cond_false, Nat.reduceBEq]
      | false =>
        rw [hb] at e7
        obtain ⟨a', c', h8, f1, f2, f3, f4⟩ := hins hg hm hb (h.blks.length + 3) h7 a c (by omega) a7
        have bs := bsE x h7
        have g1 : Cells h8 h.blks.length 47 [.slice a es.length c] := (f4 _ (by omega) (b0 _ (by omega))).trans c17
        have g2 : Cells h8 (h.blks.length + 2) 47 [.slice none 0 0] := (f4 _ (by omega) (b0 _ (by omega))).trans c37
        have hs8 := storeN_blk g1 (o := 0) (vs := [.slice a' (insE es x).length c']) (by simp)
        simp only [List.take_zero, List.nil_append, List.append_nil, List.length_cons, List.length_nil, List.drop_succ_cons, List.drop_zero, Nat.zero_add] at hs8
        have g3 := g1.put [.slice a' (insE es x).length c']
        have g4 := g2.keepPut (q := h.blks.length) (by omega) (.cells [.slice a' (insE es x).length c'])
        have kk := k7.trans (Keeps.inn (S := No) (f3.dn (by omega)))
        have k8 := kk.trans (In.put (S := No) (Nat.le_trans kk.le kk.len) (p := h.blks.length) (.inl (by omega)) (.cells [.slice a' (insE es x).length c']))
        have a8 := Acc.keepPut f2 (p := h.blks.length) (fun e => by have := Acc.ge f2 e; omega) (.cells [.slice a' (insE es x).length c'])
        obtain ⟨h9, o1, o2, o3, o4, o5⟩ := out k8 g3 g4 a8
        simp only [if_false, Bool.false_eq_true]
        refine ⟨a', c', _, ?_, o4, o5⟩
        simp -implicitDefEqProofs (disch := omega) only [↓c33_0_eq, bxL, bxEe, alL, e0, e1, e2, hh, ldL, lA, e3, stL, hs4, l4, e5, ldE, lx c25, lx c26, e6, faL, ldEs, ls6, e7, extractV_tuple, ls7, lx c27, bs, f1, stEsl, hs8, o1, o2, o3, rvals, ↓ret33, ↓cnd_true, ↓cnd_false, ↓Option.bind_some, ↓obH_some', bin_add, bin_sub, bin_mul, bin_lss, bin_leq, bin_gtr, bin_geq, bin_eql, bin_neq, un_not, un_neg, Option.bind_some, Option.bind_none, Option.map_some, cnd_true, cnd_false, pickV_true, pickV_false, gd_true, gd_false, gdV_true, gdV_false, gdH_true, gdH_false, gdS_true, gdS_false, wt_ff, wt_tt, wt_ft, wt_tf, wt_undef, obH_some', extractV_tuple, nilCheckV_ptr, againK_normal, againK_exit, againK_ret, blockK_normal, blockK_same, blockK_ret, seqK_normal, seqK_exit, seqK_ret, fin_done, if_true', if_false', Bool.not_true, Bool.not_false, idx0, idx1, idx2, idx3, idx4, chk_nil_l, chk_nil_r, done_nm, up_cons, up_nil, cond_true, cond_false, Nat.reduceBEq]
end Go.Am
namespace Go.Am
open Go.Proofs
set_option maxRecDepth 100000
set_option linter.all false
attribute [local congr] obind_congr obH_congr cnd_congr chk_congr retK_congr codeK_congr
def knG : List E3 := [⟨0, 1, 6⟩, ⟨0, 2, 2⟩, ⟨1, 5, 0⟩]
def knA : List E3 := [⟨0, 1, 4⟩, ⟨0, 2, 0⟩, ⟨1, 5, 0⟩]
def knB : List E3 := [⟨0, 2, 0⟩, ⟨1, 5, 0⟩]
def knD : List E3 := [⟨0, 1, 6⟩, ⟨0, 2, 4⟩, ⟨1, 5, 0⟩]
def knF : List E3 := [⟨0, 1, 4⟩, ⟨0, 3, 1⟩, ⟨1, 4, 1⟩, ⟨2, 1, 1⟩]
def knJ : List E3 := [⟨0, 1, 4⟩, ⟨0, 3, 1⟩, ⟨1, 5, 0⟩, ⟨2, 1, 1⟩]
def knX : List E3 := [⟨1, 1, 0⟩, ⟨0, 1, 0⟩]
theorem kn_a : lessE knG 2 = knA := by decide
theorem kn_b1 : lessE knG 6 = [⟨0, 1, 0⟩, ⟨0, 2, 0⟩, ⟨1, 5, 0⟩] := by decide
theorem kn_b : purgeE (lessE knG 6) = knB := by decide
theorem kn_c : lessE knG (outB 6 (ofN 2)) = knA := by decide
theorem kn_d : addE knG ⟨0, 2, 4⟩ = knD := by decide
theorem kn_e : addE knG ⟨16, 1, 0⟩ = knG := by decide
theorem kn_f : joinE knG knF = knJ := by
  unfold joinE
  rw [if_pos (by decide), show newsE knG knF ++ newsE knF knG ++ bothE knG knF = [⟨1, 5, 0⟩, ⟨0, 3, 1⟩, ⟨2, 1, 1⟩, ⟨0, 1, 4⟩] by decide]
  refine srt_unique (srtE_srt ?_) ?_ ((srtE_perm _).trans (by decide))
  · unfold ltE; decide
  · unfold Srt ltE; decide
theorem kn_x : goodE knX = false := by decide
theorem get_more {es : List E3} (hg : goodE es = true) (w : wide es) (hl : es.length < 2 ^ 64) (b : UInt8) : getP (logB es ++ [b]) = none := by
  unfold getP logB
  have h1 := encL_ge es
  have e1 := numP_putL es.length hl (encL es ++ [b]) (putL es.length ++ encL es ++ [b]).length (by simp only [List.length_append]; omega)
  rw [List.append_assoc] at e1 ⊢
  rw [e1]
  simp only []
  rw [rdN_enc es [b] (good_f hg) w]
  unfold logOf
  rw [if_neg]
  rintro ⟨h2, _⟩
  cases h2
structure LG (h : Heap) (p : Nat) (a : Option Addr) (c n : Nat) (es : List E3) : Prop where
  cells : Cells h p 47 [.slice a n c]
  se : SE h (.slice a n c) es
theorem LG.same {h h' : Heap} {p : Nat} {a : Option Addr} {c n : Nat} {es : List E3} (g : LG h p a c n es) (s : Same h h') : LG h' p a c n es := ⟨g.cells.same s,Sl.same g.se s⟩
theorem LG.ld {h : Heap} {p : Nat} {a : Option Addr} {c n : Nat} {es : List E3} (g : LG h p a c n es) : (h.loadN p 0 1).map (fun cs => Value.agg cs.toArray) = some (.agg #[.slice a n c]) := by rw [g.cells.loadN (n := 1) rfl]; rfl
theorem LG.lf {h : Heap} {p : Nat} {a : Option Addr} {c n : Nat} {es : List E3} (g : LG h p a c n es) : h.load1 p 0 = some (.slice a n c) := g.cells.load 0
theorem newLog {h : Heap} {a : Option Addr} {c n : Nat} {es : List E3} (s : SE h (.slice a n c) es) : ∃ hB, (h.new (.cells [.slice none 0 0]) 47).storeN h.blks.length 0 [.slice a n c] = some hB ∧ Same h hB ∧ LG hB h.blks.length a c n es := by
  have d := Cells.new h 47 [.slice none 0 0]
  have st := storeN_blk d (o := 0) (vs := [.slice a n c]) (by simp)
  simp only [List.take_zero, List.nil_append, List.append_nil, List.length_cons, List.length_nil, List.drop_succ_cons, List.drop_zero, Nat.zero_add] at st
  exact ⟨_, st, same_np _ _ _ _, d.put _, (Sl.keepNew s _ _).keepPut (fun e => by have := Sl.lo s _ e; omega) _⟩
theorem lit_ents (el : TypeId) (hs : sizeT Try.prog el = some 3) (es : List E3) (hl : es.length < 2 ^ 38) (h : Heap) : SE (h.new (.cells (entL es)) el) (.slice (some ⟨h.blks.length, 0, none⟩) es.length es.length) es := by
  refine .mk ?_ (.inr ⟨Nat.le_refl _, ?_⟩)
  · simp only [Heap.loadN, Heap.cells?, blk_new_self]
    simp [entL_len]
    rw [List.take_of_length_le (by rw [entL_len]; omega)]
  · unfold UNK; omega

theorem cmp_lit {h : Heap} {v : Value} {es : List E3} (s : SE h v es) (hl : es.length < 2 ^ 38) : ∃ a c h1, evC Try.prog 22 #[v] (nm h) = some (.slice a es.length c, h1) ∧ Same h (am h1 h) ∧ h1.mods = [] ∧
    evC Try.prog 21 #[.slice a es.length c, .slice (some ⟨(am h1 h).blks.length, 0, none⟩) es.length es.length] ((am h1 h).new (.cells (entL es)) 72) = some (.bool true, (am h1 h).new (.cells (entL es)) 72) := by
  obtain ⟨a, c, h1, e1,Ab, r1⟩ := spec_log1 s.nm hl
  obtain ⟨y1, m1⟩ := Ab.amx
  refine ⟨a, c, h1, e1, y1.same, m1, ?_⟩
  have s1 : SE ((am h1 h).new (.cells (entL es)) 72) (.slice a es.length c) es := Sl.keepNew (Sl.keep (h' := am h1 h) (AR.se r1) fun _ _ _ => rfl) _ _
  rw [spec_logs s1 (lit_ents 72 etR.size es hl _) hl hl, decide_eq_true rfl]
theorem kb0 : buildV Try.prog 57 #[(0, .int .i64 0), (1, .int .u64 1), (2, .int .u64 6)] = some (entV ⟨0, 1, 6⟩) := by kernel_rfl
theorem kb1 : buildV Try.prog 57 #[(0, .int .i64 0), (1, .int .u64 2), (2, .int .u64 2)] = some (entV ⟨0, 2, 2⟩) := by kernel_rfl
theorem kb2 : buildV Try.prog 57 #[(0, .int .i64 1), (1, .int .u64 5)] = some (entV ⟨1, 5, 0⟩) := by kernel_rfl
theorem kb3 : buildV Try.prog 57 #[(0, .int .i64 0), (1, .int .u64 2), (2, .int .u64 4)] = some (entV ⟨0, 2, 4⟩) := by kernel_rfl
theorem kb4 : buildV Try.prog 57 #[(0, .int .i64 16), (1, .int .u64 1)] = some (entV ⟨16, 1, 0⟩) := by kernel_rfl
theorem kb5 : buildV Try.prog 57 #[(0, .int .i64 0), (1, .int .u64 1), (2, .int .u64 4)] = some (entV ⟨0, 1, 4⟩) := by kernel_rfl
theorem kb6 : buildV Try.prog 57 #[(0, .int .i64 0), (1, .int .u64 3), (2, .int .u64 1)] = some (entV ⟨0, 3, 1⟩) := by kernel_rfl
theorem kb7 : buildV Try.prog 57 #[(0, .int .i64 1), (1, .int .u64 4), (2, .int .u64 1)] = some (entV ⟨1, 4, 1⟩) := by kernel_rfl
theorem kb8 : buildV Try.prog 57 #[(0, .int .i64 2), (1, .int .u64 1), (2, .int .u64 1)] = some (entV ⟨2, 1, 1⟩) := by kernel_rfl
theorem kb9 : buildV Try.prog 57 #[(0, .int .i64 1), (1, .int .u64 1)] = some (entV ⟨1, 1, 0⟩) := by kernel_rfl
theorem kb10 : buildV Try.prog 57 #[(0, .int .i64 0), (1, .int .u64 1)] = some (entV ⟨0, 1, 0⟩) := by kernel_rfl
theorem kb11 : buildV Try.prog 72 #[(0, .int .i64 0), (1, .int .u64 1), (2, .int .u64 4)] = some (entV ⟨0, 1, 4⟩) := by kernel_rfl
theorem kb12 : buildV Try.prog 72 #[(0, .int .i64 0), (1, .int .u64 2)] = some (entV ⟨0, 2, 0⟩) := by kernel_rfl
theorem kb13 : buildV Try.prog 72 #[(0, .int .i64 1), (1, .int .u64 5)] = some (entV ⟨1, 5, 0⟩) := by kernel_rfl
theorem kb14 : buildV Try.prog 72 #[(0, .int .i64 0), (1, .int .u64 3), (2, .int .u64 1)] = some (entV ⟨0, 3, 1⟩) := by kernel_rfl
theorem kb15 : buildV Try.prog 72 #[(0, .int .i64 2), (1, .int .u64 1), (2, .int .u64 1)] = some (entV ⟨2, 1, 1⟩) := by kernel_rfl
theorem ksG (h : Heap) : buildSliceV Try.prog 45 3 #[(0, entV ⟨0, 1, 6⟩), (1, entV ⟨0, 2, 2⟩), (2, entV ⟨1, 5, 0⟩)] h = some (.slice (some ⟨h.blks.length, 0, none⟩) knG.length knG.length, h.new (.cells (entL knG)) 57) := by kernel_rfl
theorem ksF (h : Heap) : buildSliceV Try.prog 45 4 #[(0, entV ⟨0, 1, 4⟩), (1, entV ⟨0, 3, 1⟩), (2, entV ⟨1, 4, 1⟩), (3, entV ⟨2, 1, 1⟩)] h = some (.slice (some ⟨h.blks.length, 0, none⟩) knF.length knF.length, h.new (.cells (entL knF)) 57) := by kernel_rfl
theorem ksX (h : Heap) : buildSliceV Try.prog 45 2 #[(0, entV ⟨1, 1, 0⟩), (1, entV ⟨0, 1, 0⟩)] h = some (.slice (some ⟨h.blks.length, 0, none⟩) knX.length knX.length, h.new (.cells (entL knX)) 57) := by kernel_rfl
theorem ksA (h : Heap) : buildSliceV Try.prog 51 3 #[(0, entV ⟨0, 1, 4⟩), (1, entV ⟨0, 2, 0⟩), (2, entV ⟨1, 5, 0⟩)] h = some (.slice (some ⟨h.blks.length, 0, none⟩) knA.length knA.length, h.new (.cells (entL knA)) 72) := by kernel_rfl
theorem ksB (h : Heap) : buildSliceV Try.prog 51 2 #[(0, entV ⟨0, 2, 0⟩), (1, entV ⟨1, 5, 0⟩)] h = some (.slice (some ⟨h.blks.length, 0, none⟩) knB.length knB.length, h.new (.cells (entL knB)) 72) := by kernel_rfl
theorem ksJ (h : Heap) : buildSliceV Try.prog 51 4 #[(0, entV ⟨0, 1, 4⟩), (1, entV ⟨0, 3, 1⟩), (2, entV ⟨1, 5, 0⟩), (3, entV ⟨2, 1, 1⟩)] h = some (.slice (some ⟨h.blks.length, 0, none⟩) knJ.length knJ.length, h.new (.cells (entL knJ)) 72) := by kernel_rfl
set_option maxHeartbeats 4000000 in
theorem law_TrimKnown (h : Heap) (vs : List Value) (dd : List DT) (r : RdAll Try.prog h [] vs dd) : ∃ h', evC Try.prog 9 vs.toArray h = some (.bool true, h') := by
  obtain ⟨rfl, rfl⟩ := r.nil_inv
  show ∃ h', evC Try.prog 9 #[] h = _
  rw [show evC Try.prog 9 #[] h = _ from call9 h]
  have wG : wide knG := by decide
  have wF : wide knF := by decide
  have wX : wide knX := by decide
  obtain ⟨h1, q1,Ab⟩ := spec_awake18 (nm h)
  have s2 := lit_ents 57 etE.size knG (by decide) h1
  generalize hh2 : h1.new (.cells (entL knG)) 57 = h2 at s2
  obtain ⟨h3, t3, y3, g3⟩ := newLog s2
  -- a
  obtain ⟨aA, cA, h4, q4,Ae, r4⟩ := spec_Less (to := 2) g3.se wG (by decide) (by decide)
  rw [kn_a] at r4
  obtain ⟨h5, t5, y5, gA5⟩ := newLog (AE.se r4)
  have g5 := (g3.same Ae.same).same y5
  -- b
  obtain ⟨a6, c6, h6, q6,Ag, r6⟩ := spec_Less (to := 6) g5.se wG (by decide) (by decide)
  rw [kn_b1] at r6
  obtain ⟨aB, cB, h7, q7,Ah, r7⟩ := spec_Purge (AE.se r6) (by decide) (by decide)
  rw [← kn_b1, kn_b] at r7 q7
  obtain ⟨h8, t8, y8, gB8⟩ := newLog (AE.se r7)
  have z8 := (Ag.same.trans Ah.same).trans y8
  have g8 := g5.same z8
  have gA8 := gA5.same z8
  -- c
  obtain ⟨aC, cC, h9, q9,Aj, r9⟩ := spec_But (to := 6) g8.se wG (by decide) (by decide) 2
  rw [kn_c] at r9
  obtain ⟨h10, t10, y10, gC10⟩ := newLog (AE.se r9)
  have z10 := Aj.same.trans y10
  have g10 := g8.same z10
  -- d
  obtain ⟨aD, cD, h11, q11,Al, r11⟩ := spec_Add g10.se wG (by decide) ⟨0, 2, 4⟩ (by decide) (fun _ _ h => absurd h (by decide))
  rw [kn_d] at r11 q11
  obtain ⟨h12, t12, y12, gD12⟩ := newLog (AE.se r11)
  have z12 := Al.same.trans y12
  have g12 := g10.same z12
  -- e
  obtain ⟨aE, cE, h13, q13,Ao, r13⟩ := spec_Add g12.se wG (by decide) ⟨16, 1, 0⟩ (by decide) (fun _ h => absurd h (by decide))
  rw [kn_e] at r13 q13
  obtain ⟨h14, t14, y14, gE14⟩ := newLog (AE.se r13)
  have z14 := Ao.same.trans y14
  have g14 := g12.same z14
  -- f
  have y15 := Same.new h14 (.cells (entL knF)) 57
  have s15 := lit_ents 57 etE.size knF (by decide) h14
  generalize hh15 : h14.new (.cells (entL knF)) 57 = h15 at y15 s15
  have g15 := g12.same (z14.trans y15)
  obtain ⟨aF, cF, h16, q16,Ar, r16⟩ := spec_Join g15.se s15 wG wF (by decide) (by decide)
  rw [kn_f] at r16 q16
  obtain ⟨h17, t17, y17, gF17⟩ := newLog (AE.se r16)
  have z17 := (y15.trans Ar.same).trans y17
  -- bad
  have y18 := Same.new h17 (.cells (entL knX)) 57
  have s18 := lit_ents 57 etE.size knX (by decide) h17
  generalize hh18 : h17.new (.cells (entL knX)) 57 = h18 at y18 s18
  obtain ⟨h19, t19, y19, gX19⟩ := newLog s18
  have z19 := y18.trans y19
  have g19 := g15.same ((Ar.same.trans y17).trans z19)
  -- h, i
  obtain ⟨aP, cP, h20, q20,Av, r20⟩ := spec_Put18 g19.se wG (by decide)
  rw [show putE knG = logB knG from rfl] at q20 r20
  have ll : (logB knG).length < 2 ^ 20 := by
    have h1 := encL_le knG (by decide) wG
    have h2 := putL_le knG.length (by decide)
    have h3 : knG.length = 3 := rfl
    unfold logB; rw [List.length_append]; omega
  obtain ⟨aH, cH, h21, q21,Aw, r21⟩ := spec_Get18 (AB.sb r20) (by omega)
  rw [get_put (by decide) wG (by decide)] at q21 r21
  simp only [Option.getD_some, Option.isSome_some] at q21 r21
  obtain ⟨h22, t22, y22, gH22⟩ := newLog (AE.se r21)
  have z22 := (Av.same.trans Aw.same).trans y22
  have g22 := g19.same z22
  -- j
  obtain ⟨aQ, cQ, h23, q23,Ay, r23⟩ := spec_Put18 g22.se wG (by decide)
  rw [show putE knG = logB knG from rfl] at q23 r23
  have bs24 := mkBb 0 h23
  obtain ⟨aR, cR, h25, q25, r25, k25, o25⟩ := app_b (n0 := h22.blks.length) Ay.len r23 0 (by omega)
  have z25 : Same h22 h25 := ⟨Nat.le_trans Ay.len k25.len, fun b hb => (o25 b (Nat.lt_of_lt_of_le hb Ay.len) (fun e => by have := Acc.ge r23 e; omega)).trans (Ay.old b hb)⟩
  have ll2 : (logB knG ++ [0]).length < 2 ^ 30 := by rw [List.length_append]; simp; omega
  obtain ⟨aJ, cJ, h26, q26,Bb, r26⟩ := spec_Get18 (AB.sb r25) ll2
  rw [get_more (by decide) wG (by decide)] at q26 r26
  simp only [Option.getD_none, Option.isSome_none] at q26 r26
  obtain ⟨h27, t27, y27, gJ27⟩ := newLog (AE.se r26)
  have z27 := (z25.trans Bb.same).trans y27
  -- all of them at the end
  have gA := (((((gA8.same z10).same (z12.trans z14)).same z17).same z19).same z22).same z27
  have gB := (((((gB8.same z10).same (z12.trans z14)).same z17).same z19).same z22).same z27
  have gC := ((((gC10.same (z12.trans z14)).same z17).same z19).same z22).same z27
  have gD := ((((gD12.same z14).same z17).same z19).same z22).same z27
  have gE := (((gE14.same z17).same z19).same z22).same z27
  have gF := ((gF17.same z19).same z22).same z27
  have gX := (gX19.same z22).same z27
  have gH := gH22.same z27
  have gg := g22.same z27
  obtain ⟨a1, c1, k1, u1, v1, m1, w1⟩ := cmp_lit gA.se (by decide)
  have y1 := v1.trans (Same.new (am k1 h27) (.cells (entL knA)) 72)
  obtain ⟨a2, c2, k2, u2, v2, m2, w2⟩ := cmp_lit (gB.same y1).se (by decide)
  have yB := y1.trans (v2.trans (Same.new (am k2 _) (.cells (entL knB)) 72))
  obtain ⟨a3, c3, k3, u3, v3, m3, w3⟩ := cmp_lit (gC.same yB).se (by decide)
  have yC := yB.trans (v3.trans (Same.new (am k3 _) (.cells (entL knA)) 72))
  have gD' := gD.same yC
  have gE' := gE.same yC
  have gF' := gF.same yC
  obtain ⟨bD, oD, hbD, hblD, eD1, eD2⟩ := gD'.se.at' (t := 45) (el := 57) (by kernel_rfl) (by kernel_rfl) (i := 1) (by decide)
  have iD := eD1 .i64
  rw [show ((1 : Nat) : Int) = 1 from rfl] at iD
  have fD := (eD2 _ rfl).2.2.2
  rw [show ((knD[1].t : Nat) : Int) = 4 from rfl] at fD
  obtain ⟨a4, c4, k4, u4, v4, m4, w4⟩ := cmp_lit gF'.se (by decide)
  have yD := yC.trans (v4.trans (Same.new (am k4 _) (.cells (entL knJ)) 72))
  have gX' := gX.same yD
  obtain ⟨k5, q5', Af'⟩ := spec_Good gX'.se wX (by decide)
  rw [kn_x] at q5'
  have gX5 := gX'.same Af'.same
  obtain ⟨aS, cS, k6, q6', Ag', _⟩ := spec_Put18 gX5.se wX (by decide)
  have gX6 := gX5.same Ag'.same
  obtain ⟨aT, cT, k7, q7', Ah', _⟩ := spec_Purge gX6.se wX (by decide)
  have gX7 := gX6.same Ah'.same
  have yG := yD.trans ((Af'.same.trans Ag'.same).trans Ah'.same)
  obtain ⟨aU, cU, k8, q8', Ai', _⟩ := spec_Join (gg.same yG).se gX7.se wG wX (by decide) (by decide)
  have yH := yG.trans Ai'.same
  have gH8 := gH.same yH
  obtain ⟨aV, cV, k9, q9', Aj', r9'⟩ := spec_log1 gH8.se.nm (by decide)
  obtain ⟨y9', m9'⟩ := Aj'.amx
  have g9 := gg.same (yH.trans y9'.same)
  obtain ⟨aW, cW, k10, q10', Ak', r10'⟩ := spec_log1 g9.se (by decide)
  have q11' := spec_logs (Sl.same (Sl.keep (h' := am k9 k8) (AR.se r9') fun _ _ _ => rfl) Ak'.same) (AR.se r10') (by decide) (by decide)
  rw [decide_eq_true rfl] at q11'
  have n1 : decide ((knD.length : Int) = 3) = true := by decide
  have n2 : decide ((knG.length : Int) = 3) = true := by decide
  have n3 : decide (((putE knX).length : Int) = 0) = true := by decide
  have n4 : decide (((purgeE knX).length : Int) = 2) = true := by decide
  have n5 : decide (((joinE knG knX).length : Int) = 3) = true := by
    unfold joinE; rw [if_neg (by decide)]; decide

  rw [show ((2 : Nat) : Int) = 2 from rfl] at q4
  rw [show ((6 : Nat) : Int) = 6 from rfl] at q6 q9
  have z8 : byteV 0 = .int .u8 0 := rfl
  rw [z8] at bs24 q25
  simp -implicitDefEqProofs (maxSteps := 2000000) (disch := omega) only [↓c9_0_eq, ↓c9_1_eq, ↓c9_2_eq, ↓c9_3_eq, q1, ↓cnd_true, ↓cnd_false, ↓Option.bind_some, ↓obH_some', bin_add, bin_sub, bin_mul, bin_lss, bin_leq, bin_gtr, bin_geq, bin_eql, bin_neq, un_not, un_neg, Option.bind_some, Option.bind_none, Option.map_some, cnd_true, cnd_false, pickV_true, pickV_false, gd_true, gd_false, gdV_true, gdV_false, gdH_true, gdH_false, gdS_true, gdS_false, wt_ff, wt_tt, wt_ft, wt_tf, wt_undef, obH_some', extractV_tuple, nilCheckV_ptr, againK_normal, againK_exit, againK_ret, blockK_normal, blockK_same, blockK_ret, seqK_normal, seqK_exit, seqK_ret, fin_done, if_true', if_false', Bool.not_true, Bool.not_false, idx0, idx1, idx2, idx3, idx4, chk_nil_l, chk_nil_r, done_nm, up_cons, up_nil, cond_true, cond_false, Nat.reduceBEq]
  simp -implicitDefEqProofs (maxSteps := 2000000) (disch := omega) only [↓c9_4_eq, ↓c9_5_eq, kb0, kb1, kb2, kb3, kb4, kb5, kb6, kb7, kb8, kb9, kb10, kb11, kb12, kb13, kb14, kb15, ksG, hh2, bdL, alL, stL, t3, ↓cnd_true, ↓cnd_false, ↓Option.bind_some, ↓obH_some', bin_add, bin_sub, bin_mul, bin_lss, bin_leq, bin_gtr, bin_geq, bin_eql, bin_neq, un_not, un_neg, Option.bind_some, Option.bind_none, Option.map_some, cnd_true, cnd_false, pickV_true, pickV_false, gd_true, gd_false, gdV_true, gdV_false, gdH_true, gdH_false, gdS_true, gdS_false, wt_ff, wt_tt, wt_ft, wt_tf, wt_undef, obH_some', extractV_tuple, nilCheckV_ptr, againK_normal, againK_exit, againK_ret, blockK_normal, blockK_same, blockK_ret, seqK_normal, seqK_exit, seqK_ret, fin_done, if_true', if_false', Bool.not_true, Bool.not_false, idx0, idx1, idx2, idx3, idx4, chk_nil_l, chk_nil_r, done_nm, up_cons, up_nil, cond_true, cond_false, Nat.reduceBEq]
  simp -implicitDefEqProofs (maxSteps := 2000000) (disch := omega) only [↓c9_6_eq, ↓c9_7_eq, ldL, g3.ld, q4, alL, stL, t5, ↓cnd_true, ↓cnd_false, ↓Option.bind_some, ↓obH_some', bin_add, bin_sub, bin_mul, bin_lss, bin_leq, bin_gtr, bin_geq, bin_eql, bin_neq, un_not, un_neg, Option.bind_some, Option.bind_none, Option.map_some, cnd_true, cnd_false, pickV_true, pickV_false, gd_true, gd_false, gdV_true, gdV_false, gdH_true, gdH_false, gdS_true, gdS_false, wt_ff, wt_tt, wt_ft, wt_tf, wt_undef, obH_some', extractV_tuple, nilCheckV_ptr, againK_normal, againK_exit, againK_ret, blockK_normal, blockK_same, blockK_ret, seqK_normal, seqK_exit, seqK_ret, fin_done, if_true', if_false', Bool.not_true, Bool.not_false, idx0, idx1, idx2, idx3, idx4, chk_nil_l, chk_nil_r, done_nm, up_cons, up_nil, cond_true, cond_false, Nat.reduceBEq]
  simp -implicitDefEqProofs (maxSteps := 2000000) (disch := omega) only [↓c9_8_eq, ↓c9_9_eq, ldL, g5.ld, q6, q7, alL, stL, t8, ↓cnd_true, ↓cnd_false, ↓Option.bind_some, ↓obH_some', bin_add, bin_sub, bin_mul, bin_lss, bin_leq, bin_gtr, bin_geq, bin_eql, bin_neq, un_not, un_neg, Option.bind_some, Option.bind_none, Option.map_some, cnd_true, cnd_false, pickV_true, pickV_false, gd_true, gd_false, gdV_true, gdV_false, gdH_true, gdH_false, gdS_true, gdS_false, wt_ff, wt_tt, wt_ft, wt_tf, wt_undef, obH_some', extractV_tuple, nilCheckV_ptr, againK_normal, againK_exit, againK_ret, blockK_normal, blockK_same, blockK_ret, seqK_normal, seqK_exit, seqK_ret, fin_done, if_true', if_false', Bool.not_true, Bool.not_false, idx0, idx1, idx2, idx3, idx4, chk_nil_l, chk_nil_r, done_nm, up_cons, up_nil, cond_true, cond_false, Nat.reduceBEq]
  simp -implicitDefEqProofs (maxSteps := 2000000) (disch := omega) only [↓c9_10_eq, ↓c9_11_eq, ldL, g8.ld, q9, alL, stL, t10, ↓cnd_true, ↓cnd_false, ↓Option.bind_some, ↓obH_some', bin_add, bin_sub, bin_mul, bin_lss, bin_leq, bin_gtr, bin_geq, bin_eql, bin_neq, un_not, un_neg, Option.bind_some, Option.bind_none, Option.map_some, cnd_true, cnd_false, pickV_true, pickV_false, gd_true, gd_false, gdV_true, gdV_false, gdH_true, gdH_false, gdS_true, gdS_false, wt_ff, wt_tt, wt_ft, wt_tf, wt_undef, obH_some', extractV_tuple, nilCheckV_ptr, againK_normal, againK_exit, againK_ret, blockK_normal, blockK_same, blockK_ret, seqK_normal, seqK_exit, seqK_ret, fin_done, if_true', if_false', Bool.not_true, Bool.not_false, idx0, idx1, idx2, idx3, idx4, chk_nil_l, chk_nil_r, done_nm, up_cons, up_nil, cond_true, cond_false, Nat.reduceBEq]
  simp -implicitDefEqProofs (maxSteps := 2000000) (disch := omega) only [↓c9_12_eq, ↓c9_13_eq, ldL, g10.ld, kb0, kb1, kb2, kb3, kb4, kb5, kb6, kb7, kb8, kb9, kb10, kb11, kb12, kb13, kb14, kb15, q11, alL, stL, t12, ↓cnd_true, ↓cnd_false, ↓Option.bind_some, ↓obH_some', bin_add, bin_sub, bin_mul, bin_lss, bin_leq, bin_gtr, bin_geq, bin_eql, bin_neq, un_not, un_neg, Option.bind_some, Option.bind_none, Option.map_some, cnd_true, cnd_false, pickV_true, pickV_false, gd_true, gd_false, gdV_true, gdV_false, gdH_true, gdH_false, gdS_true, gdS_false, wt_ff, wt_tt, wt_ft, wt_tf, wt_undef, obH_some', extractV_tuple, nilCheckV_ptr, againK_normal, againK_exit, againK_ret, blockK_normal, blockK_same, blockK_ret, seqK_normal, seqK_exit, seqK_ret, fin_done, if_true', if_false', Bool.not_true, Bool.not_false, idx0, idx1, idx2, idx3, idx4, chk_nil_l, chk_nil_r, done_nm, up_cons, up_nil, cond_true, cond_false, Nat.reduceBEq]
  simp -implicitDefEqProofs (maxSteps := 2000000) (disch := omega) only [↓c9_14_eq, ↓c9_15_eq, ldL, g12.ld, kb0, kb1, kb2, kb3, kb4, kb5, kb6, kb7, kb8, kb9, kb10, kb11, kb12, kb13, kb14, kb15, q13, alL, stL, t14, ↓cnd_true, ↓cnd_false, ↓Option.bind_some, ↓obH_some', bin_add, bin_sub, bin_mul, bin_lss, bin_leq, bin_gtr, bin_geq, bin_eql, bin_neq, un_not, un_neg, Option.bind_some, Option.bind_none, Option.map_some, cnd_true, cnd_false, pickV_true, pickV_false, gd_true, gd_false, gdV_true, gdV_false, gdH_true, gdH_false, gdS_true, gdS_false, wt_ff, wt_tt, wt_ft, wt_tf, wt_undef, obH_some', extractV_tuple, nilCheckV_ptr, againK_normal, againK_exit, againK_ret, blockK_normal, blockK_same, blockK_ret, seqK_normal, seqK_exit, seqK_ret, fin_done, if_true', if_false', Bool.not_true, Bool.not_false, idx0, idx1, idx2, idx3, idx4, chk_nil_l, chk_nil_r, done_nm, up_cons, up_nil, cond_true, cond_false, Nat.reduceBEq]
  simp -implicitDefEqProofs (maxSteps := 2000000) (disch := omega) only [↓c9_16_eq, ↓c9_17_eq, ldL, g14.ld, kb0, kb1, kb2, kb3, kb4, kb5, kb6, kb7, kb8, kb9, kb10, kb11, kb12, kb13, kb14, kb15, ksF, bdL, hh15, q16, alL, stL, t17, ↓cnd_true, ↓cnd_false, ↓Option.bind_some, ↓obH_some', bin_add, bin_sub, bin_mul, bin_lss, bin_leq, bin_gtr, bin_geq, bin_eql, bin_neq, un_not, un_neg, Option.bind_some, Option.bind_none, Option.map_some, cnd_true, cnd_false, pickV_true, pickV_false, gd_true, gd_false, gdV_true, gdV_false, gdH_true, gdH_false, gdS_true, gdS_false, wt_ff, wt_tt, wt_ft, wt_tf, wt_undef, obH_some', extractV_tuple, nilCheckV_ptr, againK_normal, againK_exit, againK_ret, blockK_normal, blockK_same, blockK_ret, seqK_normal, seqK_exit, seqK_ret, fin_done, if_true', if_false', Bool.not_true, Bool.not_false, idx0, idx1, idx2, idx3, idx4, chk_nil_l, chk_nil_r, done_nm, up_cons, up_nil, cond_true, cond_false, Nat.reduceBEq]
  simp -implicitDefEqProofs (maxSteps := 2000000) (disch := omega) only [↓c9_18_eq, ↓c9_19_eq, kb0, kb1, kb2, kb3, kb4, kb5, kb6, kb7, kb8, kb9, kb10, kb11, kb12, kb13, kb14, kb15, ksX, hh18, bdL, alL, stL, t19, ↓cnd_true, ↓cnd_false, ↓Option.bind_some, ↓obH_some', bin_add, bin_sub, bin_mul, bin_lss, bin_leq, bin_gtr, bin_geq, bin_eql, bin_neq, un_not, un_neg, Option.bind_some, Option.bind_none, Option.map_some, cnd_true, cnd_false, pickV_true, pickV_false, gd_true, gd_false, gdV_true, gdV_false, gdH_true, gdH_false, gdS_true, gdS_false, wt_ff, wt_tt, wt_ft, wt_tf, wt_undef, obH_some', extractV_tuple, nilCheckV_ptr, againK_normal, againK_exit, againK_ret, blockK_normal, blockK_same, blockK_ret, seqK_normal, seqK_exit, seqK_ret, fin_done, if_true', if_false', Bool.not_true, Bool.not_false, idx0, idx1, idx2, idx3, idx4, chk_nil_l, chk_nil_r, done_nm, up_cons, up_nil, cond_true, cond_false, Nat.reduceBEq]
  simp -implicitDefEqProofs (maxSteps := 2000000) (disch := omega) only [↓c9_20_eq, ↓c9_21_eq, ldL, g19.ld, q20, q21, extractV_tuple, alL, stL, t22, ↓cnd_true, ↓cnd_false, ↓Option.bind_some, ↓obH_some', bin_add, bin_sub, bin_mul, bin_lss, bin_leq, bin_gtr, bin_geq, bin_eql, bin_neq, un_not, un_neg, Option.bind_some, Option.bind_none, Option.map_some, cnd_true, cnd_false, pickV_true, pickV_false, gd_true, gd_false, gdV_true, gdV_false, gdH_true, gdH_false, gdS_true, gdS_false, wt_ff, wt_tt, wt_ft, wt_tf, wt_undef, obH_some', extractV_tuple, nilCheckV_ptr, againK_normal, againK_exit, againK_ret, blockK_normal, blockK_same, blockK_ret, seqK_normal, seqK_exit, seqK_ret, fin_done, if_true', if_false', Bool.not_true, Bool.not_false, idx0, idx1, idx2, idx3, idx4, chk_nil_l, chk_nil_r, done_nm, up_cons, up_nil, cond_true, cond_false, Nat.reduceBEq]
  simp -implicitDefEqProofs (maxSteps := 2000000) (disch := omega) only [↓c9_22_eq, ↓c9_23_eq, ldL, g22.ld, q23, bs24, q25, q26, extractV_tuple, alL, stL, t27, ↓cnd_true, ↓cnd_false, ↓Option.bind_some, ↓obH_some', bin_add, bin_sub, bin_mul, bin_lss, bin_leq, bin_gtr, bin_geq, bin_eql, bin_neq, un_not, un_neg, Option.bind_some, Option.bind_none, Option.map_some, cnd_true, cnd_false, pickV_true, pickV_false, gd_true, gd_false, gdV_true, gdV_false, gdH_true, gdH_false, gdS_true, gdS_false, wt_ff, wt_tt, wt_ft, wt_tf, wt_undef, obH_some', extractV_tuple, nilCheckV_ptr, againK_normal, againK_exit, againK_ret, blockK_normal, blockK_same, blockK_ret, seqK_normal, seqK_exit, seqK_ret, fin_done, if_true', if_false', Bool.not_true, Bool.not_false, idx0, idx1, idx2, idx3, idx4, chk_nil_l, chk_nil_r, done_nm, up_cons, up_nil, cond_true, cond_false, Nat.reduceBEq]
  simp -implicitDefEqProofs (maxSteps := 2000000) (disch := omega) only [↓c9_24_eq, ↓c9_25_eq, q1, ↓cnd_true, ↓cnd_false, ↓Option.bind_some, ↓obH_some', bin_add, bin_sub, bin_mul, bin_lss, bin_leq, bin_gtr, bin_geq, bin_eql, bin_neq, un_not, un_neg, Option.bind_some, Option.bind_none, Option.map_some, cnd_true, cnd_false, pickV_true, pickV_false, gd_true, gd_false, gdV_true, gdV_false, gdH_true, gdH_false, gdS_true, gdS_false, wt_ff, wt_tt, wt_ft, wt_tf, wt_undef, obH_some', extractV_tuple, nilCheckV_ptr, againK_normal, againK_exit, againK_ret, blockK_normal, blockK_same, blockK_ret, seqK_normal, seqK_exit, seqK_ret, fin_done, if_true', if_false', Bool.not_true, Bool.not_false, idx0, idx1, idx2, idx3, idx4, chk_nil_l, chk_nil_r, done_nm, up_cons, up_nil, cond_true, cond_false, Nat.reduceBEq]
  simp -implicitDefEqProofs (maxSteps := 4000000) (disch := omega) only [↓d9_0_0, ↓d9_0_1, ↓d9_0_2, ↓d9_0_3, ↓d9_0_4, ↓d9_0_5, ↓d9_0_6, ↓d9_0_7, ↓d9_0_8, ↓d9_0_9, ↓d9_0_10, ↓d9_0_11, ↓d9_0_12, ↓d9_0_13, ↓d9_0_14, ↓d9_0_15, ↓d9_0_16, ↓d9_0_17, ↓d9_0_18, ↓d9_0_19, ↓d9_0_20, ↓d9_0_21, ↓d9_0_22, ↓d9_0_23, ↓d9_0_24, ↓d9_0_25, ↓d9_0_26, ↓d9_0_27, ↓d9_0_28, ↓d9_0_29, ↓d9_0_30, ↓d9_0_31, ↓d9_0_32, ↓d9_0_33, ↓d9_0_34, ↓d9_0_35, ↓d9_0_36, ↓d9_0_37, ↓d9_0_38, ↓d9_0_39, ↓d9_0_40, ↓d9_0_41, ↓d9_0_42, ↓d9_0_43, ↓d9_0_44, ↓d9_0_45, ↓d9_0_46, ↓d9_0_47, ↓d9_0_48, ↓d9_0_49, ↓d9_0_50, ↓d9_0_51, ↓d9_0_52, ↓d9_0_53, ↓d9_0_54, ↓d9_0_55, ↓d9_0_56, ↓d9_0_57, ↓d9_0_58, ↓d9_0_59, ↓d9_0_60, ↓d9_0_61, ↓d9_0_62, ↓d9_0_63, ↓d9_0_64, ↓d9_0_65, ↓d9_0_66, ↓d9_0_67, ↓d9_0_68, ↓d9_0_69, ↓d9_0_70, ↓d9_0_71, ↓d9_0_72, ↓d9_0_73, ↓d9_0_74, ↓d9_0_75, ↓d9_0_76, ↓d9_0_77, ↓d9_0_78, ↓d9_0_79, ↓d9_0_80, ↓d9_0_81, ↓d9_0_82, ↓d9_0_83, ↓d9_0_84, ↓d9_0_85, ↓d9_0_86, ↓d9_0_87, ↓d9_0_88, ↓d9_0_89, ↓d9_0_90, ↓d9_0_91, ↓d9_0_92, ↓d9_0_93, ↓d9_0_94, ↓d9_0_95, ↓d9_0_96, ↓d9_0_97, ↓d9_0_98, ↓d9_0_99, ↓d9_0_100, ↓d9_0_101, ↓c9_26_eq, faL, ldEs, gA.lf, u1, m1, kb0, kb1, kb2, kb3, kb4, kb5, kb6, kb7, kb8, kb9, kb10, kb11, kb12, kb13, kb14, kb15, ksA, ksB, ksJ, w1, (gB.same y1).lf, u2, m2, w2, (gC.same yB).lf, u3, m3, w3, gD'.lf, gE'.lf, gF'.lf, lnEs, n1, n2, iD, faE2, ldS, fD, decide_true, u4, m4, w4, ldL, gX'.ld, q5', gX5.ld, q6', lnB8, n3, gX6.ld, q7', fvL, n4, (gg.same yG).ld, gX7.ld, q8', n5, gH8.lf, q9', m9', g9.lf, q10', q11', List.append_nil, List.nil_append, ↓ret9, ↓cnd_true, ↓cnd_false, ↓Option.bind_some, ↓obH_some', bin_add, bin_sub, bin_mul, bin_lss, bin_leq, bin_gtr, bin_geq, bin_eql, bin_neq, un_not, un_neg, Option.bind_some, Option.bind_none, Option.map_some, cnd_true, cnd_false, pickV_true, pickV_false, gd_true, gd_false, gdV_true, gdV_false, gdH_true, gdH_false, gdS_true, gdS_false, wt_ff, wt_tt, wt_ft, wt_tf, wt_undef, obH_some', extractV_tuple, nilCheckV_ptr, againK_normal, againK_exit, againK_ret, blockK_normal, blockK_same, blockK_ret, seqK_normal, seqK_exit, seqK_ret, fin_done, if_true', if_false', Bool.not_true, Bool.not_false, idx0, idx1, idx2, idx3, idx4, chk_nil_l, chk_nil_r, done_nm, up_cons, up_nil, cond_true, cond_false, Nat.reduceBEq]
  exact ⟨_, rfl⟩
end Go.Am
namespace Go.Am.Z
open Go.Proofs
set_option maxRecDepth 100000
set_option linter.all false
@[reducible] def xt0 : Xt Try.prog := ⟨fun _ => none⟩
attribute [local instance] xt0
theorem xm0 : XtM Try.prog := ⟨fun _ _ h => by cases h⟩
theorem xo0 : XtOk Try.prog := ⟨fun _ _ h => (by cases h), fun _ _ _ h => (by cases h)⟩
attribute [local instance] xm0 xo0
section
variable {β : Type}
noncomputable abbrev ev : Ev := evC Try.prog
noncomputable abbrev cK (c : Code) (n : Nat) (x : Nat → Value) (h : Heap) (k : Ex → St → Option β) : Option β := codeK Try.prog (evC Try.prog) loopL c ⟨ar n x, h⟩ k
noncomputable abbrev lK (c : Code) (n : Nat) (x : Nat → Value) (h : Heap) (k : Ex → St → Option β) : Option β := loopK Try.prog (evC Try.prog) c ⟨ar n x, h⟩ k
noncomputable abbrev sK (c : Code) (k : Ex → St → Option β) : Ex → St → Option β := seqK Try.prog (evC Try.prog) c k
noncomputable abbrev rD (ops : Array Oper) (j n : Nat) (x : Nat → Value) (h : Heap) (r m : List Nat) (k : St → Option β) : Option β := regD Try.prog (evC Try.prog) ops j ⟨ar n x, h⟩ r m k
variable (x : Nat → Value) (h : Heap) (k : Ex → St → Option β) (r m : List Nat) (g : Heap)
noncomputable def c85_0 : Code := bodyC Try.f85 []
theorem c85_0_eq : cK c85_0 6 x h k =
(bn .neq 3 (x 0) (x 0)).bind fun v0 =>
k .ret ⟨ar 6 (up x [(2,v0),(3,(x 0)),(4,(x 0)),(5,v0)]), h⟩ := by kernel_rfl
theorem call85 (a0 : Value) : evC Try.prog 85 #[a0] h = cK c85_0 6 (up un [(0,a0)]) (nm h) (retK Try.f85 Try.prog h) :=
  (evC_call 85 Try.f85 c85_0 Try.func85 (by kernel_rfl) #[a0] h).trans (by kernel_rfl)
theorem ret85 : retK Try.f85 Try.prog g .ret ⟨ar 6 x, h⟩ = fin g (some (x 2)) h := by kernel_rfl
theorem retn85 : retK Try.f85 Try.prog g .normal ⟨ar 6 x, h⟩ = fin g (some (x 2)) h := by kernel_rfl
noncomputable def c86_0 : Code := bodyC Try.f86 []
theorem c86_0_eq : cK c86_0 6 x h k =
(bn .neq 35 (x 0) (x 0)).bind fun v0 =>
k .ret ⟨ar 6 (up x [(2,v0),(3,(x 0)),(4,(x 0)),(5,v0)]), h⟩ := by kernel_rfl
theorem call86 (a0 : Value) : evC Try.prog 86 #[a0] h = cK c86_0 6 (up un [(0,a0)]) (nm h) (retK Try.f86 Try.prog h) :=
  (evC_call 86 Try.f86 c86_0 Try.func86 (by kernel_rfl) #[a0] h).trans (by kernel_rfl)
theorem ret86 : retK Try.f86 Try.prog g .ret ⟨ar 6 x, h⟩ = fin g (some (x 2)) h := by kernel_rfl
theorem retn86 : retK Try.f86 Try.prog g .normal ⟨ar 6 x, h⟩ = fin g (some (x 2)) h := by kernel_rfl
noncomputable def c71_0 : Code := bodyC Try.f71 []
theorem c71_0_eq : cK c71_0 20 x h k =
obH (ev 85 #[x 0] h) fun v0 h1 =>
obH (ev 85 #[x 1] h1) fun v2 h3 =>
cnd v0 (
cnd v2 (
k .ret ⟨ar 20 (up x [(4,(.int .i64 0)),(5,v0),(6,v2),(7,(x 0)),(8,v0),(9,(x 1)),(10,v2),(11,v0),(12,v2)]), h3⟩) (
k .ret ⟨ar 20 (up x [(4,(.int .i64 (-1))),(5,v0),(6,v2),(7,(x 0)),(8,v0),(9,(x 1)),(10,v2),(11,v0),(12,v2)]), h3⟩)) (
cnd v2 (
k .ret ⟨ar 20 (up x [(4,(.int .i64 1)),(5,v0),(6,v2),(7,(x 0)),(8,v0),(9,(x 1)),(10,v2),(11,v0),(13,v2)]), h3⟩) (
(bn .lss 3 (x 0) (x 1)).bind fun v4 =>
cnd v4 (
k .ret ⟨ar 20 (up x [(4,(.int .i64 (-1))),(5,v0),(6,v2),(7,(x 0)),(8,v0),(9,(x 1)),(10,v2),(11,v0),(13,v2),(14,(x 0)),(15,(x 1)),(16,v4)]), h3⟩) (
(bn .gtr 3 (x 0) (x 1)).bind fun v5 =>
cnd v5 (
k .ret ⟨ar 20 (up x [(4,(.int .i64 1)),(5,v0),(6,v2),(7,(x 0)),(8,v0),(9,(x 1)),(10,v2),(11,v0),(13,v2),(14,(x 0)),(15,(x 1)),(16,v4),(17,(x 0)),(18,(x 1)),(19,v5)]), h3⟩) (
k .ret ⟨ar 20 (up x [(4,(.int .i64 0)),(5,v0),(6,v2),(7,(x 0)),(8,v0),(9,(x 1)),(10,v2),(11,v0),(13,v2),(14,(x 0)),(15,(x 1)),(16,v4),(17,(x 0)),(18,(x 1)),(19,v5)]), h3⟩)))) := by kernel_rfl
theorem call71 (a0 a1 : Value) : evC Try.prog 71 #[a0,a1] h = cK c71_0 20 (up un [(0,a0),(1,a1)]) (nm h) (retK Try.f71 Try.prog h) :=
  (evC_call 71 Try.f71 c71_0 Try.func71 (by kernel_rfl) #[a0,a1] h).trans (by kernel_rfl)
theorem ret71 : retK Try.f71 Try.prog g .ret ⟨ar 20 x, h⟩ = fin g (some (x 4)) h := by kernel_rfl
theorem retn71 : retK Try.f71 Try.prog g .normal ⟨ar 20 x, h⟩ = fin g (some (x 4)) h := by kernel_rfl
noncomputable def c72_0 : Code := bodyC Try.f72 []
theorem c72_0_eq : cK c72_0 20 x h k =
obH (ev 86 #[x 0] h) fun v0 h1 =>
obH (ev 86 #[x 1] h1) fun v2 h3 =>
cnd v0 (
cnd v2 (
k .ret ⟨ar 20 (up x [(4,(.int .i64 0)),(5,v0),(6,v2),(7,(x 0)),(8,v0),(9,(x 1)),(10,v2),(11,v0),(12,v2)]), h3⟩) (
k .ret ⟨ar 20 (up x [(4,(.int .i64 (-1))),(5,v0),(6,v2),(7,(x 0)),(8,v0),(9,(x 1)),(10,v2),(11,v0),(12,v2)]), h3⟩)) (
cnd v2 (
k .ret ⟨ar 20 (up x [(4,(.int .i64 1)),(5,v0),(6,v2),(7,(x 0)),(8,v0),(9,(x 1)),(10,v2),(11,v0),(13,v2)]), h3⟩) (
(bn .lss 35 (x 0) (x 1)).bind fun v4 =>
cnd v4 (
k .ret ⟨ar 20 (up x [(4,(.int .i64 (-1))),(5,v0),(6,v2),(7,(x 0)),(8,v0),(9,(x 1)),(10,v2),(11,v0),(13,v2),(14,(x 0)),(15,(x 1)),(16,v4)]), h3⟩) (
(bn .gtr 35 (x 0) (x 1)).bind fun v5 =>
cnd v5 (
k .ret ⟨ar 20 (up x [(4,(.int .i64 1)),(5,v0),(6,v2),(7,(x 0)),(8,v0),(9,(x 1)),(10,v2),(11,v0),(13,v2),(14,(x 0)),(15,(x 1)),(16,v4),(17,(x 0)),(18,(x 1)),(19,v5)]), h3⟩) (
k .ret ⟨ar 20 (up x [(4,(.int .i64 0)),(5,v0),(6,v2),(7,(x 0)),(8,v0),(9,(x 1)),(10,v2),(11,v0),(13,v2),(14,(x 0)),(15,(x 1)),(16,v4),(17,(x 0)),(18,(x 1)),(19,v5)]), h3⟩)))) := by kernel_rfl
theorem call72 (a0 a1 : Value) : evC Try.prog 72 #[a0,a1] h = cK c72_0 20 (up un [(0,a0),(1,a1)]) (nm h) (retK Try.f72 Try.prog h) :=
  (evC_call 72 Try.f72 c72_0 Try.func72 (by kernel_rfl) #[a0,a1] h).trans (by kernel_rfl)
theorem ret72 : retK Try.f72 Try.prog g .ret ⟨ar 20 x, h⟩ = fin g (some (x 4)) h := by kernel_rfl
theorem retn72 : retK Try.f72 Try.prog g .normal ⟨ar 20 x, h⟩ = fin g (some (x 4)) h := by kernel_rfl
noncomputable def c70_0 : Code := bodyC Try.f70 []
noncomputable def c70_1 : Code := bodyC Try.f70 [true, true, false, true, false, false]
noncomputable def c70_2 : Code := bodyC Try.f70 [true, true, true]
theorem c70_0_eq : cK c70_0 18 x h k =
(ln 43 (x 0) h).bind fun v0 =>
lK c70_1 18 (up x [(2,(.int .i64 0)),(3,(.int .i64 0)),(6,(x 0)),(7,v0),(8,(.int .i64 0))]) h (blockK 0 (sK c70_2 k)) := by kernel_rfl
theorem c70_1_eq : cK c70_1 18 x h k =
(bn .lss 3 (x 8) (x 7)).bind fun v1 =>
cnd v1 (
(ia 43 (x 6) (x 8)).bind fun v2 =>
(ld 3 v2 h).bind fun v3 =>
(bn .neq 3 v3 (x 3)).bind fun v4 =>
cnd v4 (
k .ret ⟨ar 18 (up x [(2,v3),(5,v3),(9,v1),(10,v2),(11,v3),(12,v3),(13,(x 3)),(14,v4),(15,v3)]), h⟩) (
(bn .add 3 (x 8) (.int .i64 1)).bind fun v5 =>
k .normal ⟨ar 18 (up x [(5,v3),(8,v5),(9,v1),(10,v2),(11,v3),(12,v3),(13,(x 3)),(14,v4),(16,v5)]), h⟩)) (
k (.exit 0) ⟨ar 18 (up x [(9,v1)]), h⟩) := by kernel_rfl
theorem c70_2_eq : cK c70_2 18 x h k =
k .ret ⟨ar 18 (up x [(2,(x 3)),(17,(x 3))]), h⟩ := by kernel_rfl
theorem call70 (a0 : Value) : evC Try.prog 70 #[a0] h = cK c70_0 18 (up un [(0,a0)]) (nm h) (retK Try.f70 Try.prog h) :=
  (evC_call 70 Try.f70 c70_0 Try.func70 (by kernel_rfl) #[a0] h).trans (by kernel_rfl)
theorem ret70 : retK Try.f70 Try.prog g .ret ⟨ar 18 x, h⟩ = fin g (some (x 2)) h := by kernel_rfl
theorem retn70 : retK Try.f70 Try.prog g .normal ⟨ar 18 x, h⟩ = fin g (some (x 2)) h := by kernel_rfl
noncomputable def c48_0 : Code := bodyC Try.f48 []
theorem c48_0_eq : cK c48_0 17 x h k =
obH (boxV Try.prog 57 (x 0) h) fun v0 h1 =>
obH (boxV Try.prog 57 (x 1) h1) fun v2 h3 =>
(fa 57 v0 0).bind fun v4 =>
(ld 3 v4 h3).bind fun v5 =>
(fa 57 v2 0).bind fun v6 =>
(ld 3 v6 h3).bind fun v7 =>
obH (ev 71 #[v5,v7] (nm h3)) fun v8 h9 =>
(fa 57 v0 1).bind fun v10 =>
(ld 35 v10 (am h9 h3)).bind fun v11 =>
(fa 57 v2 1).bind fun v12 =>
(ld 35 v12 (am h9 h3)).bind fun v13 =>
obH (ev 72 #[v11,v13] (am h9 h3)) fun v14 h15 =>
obH (buildSliceV Try.prog 43 2 #[(0, v8), (1, v14)] h15) fun v16 h17 =>
obH (ev 70 #[v16] h17) fun v18 h19 =>
chk ((rb v12) ++ ((rb v10) ++ [])) (h9.mods ++ []) (
k .ret ⟨ar 17 (up x [(2,v0),(3,v2),(4,v18),(5,v4),(6,v5),(7,v6),(8,v7),(9,v8),(10,v10),(11,v11),(12,v12),(13,v13),(14,v14),(15,v16),(16,v18)]), h19⟩) := by kernel_rfl
theorem call48 (a0 a1 : Value) : evC Try.prog 48 #[a0,a1] h = cK c48_0 17 (up un [(0,a0),(1,a1)]) (nm h) (retK Try.f48 Try.prog h) :=
  (evC_call 48 Try.f48 c48_0 Try.func48 (by kernel_rfl) #[a0,a1] h).trans (by kernel_rfl)
theorem ret48 : retK Try.f48 Try.prog g .ret ⟨ar 17 x, h⟩ = fin g (some (x 4)) h := by kernel_rfl
theorem retn48 : retK Try.f48 Try.prog g .normal ⟨ar 17 x, h⟩ = fin g (some (x 4)) h := by kernel_rfl
end
attribute [local congr] obind_congr obH_congr cnd_congr chk_congr retK_congr codeK_congr
theorem spec_isNaNI (a : Int) (h : Heap) : evC Try.prog 85 #[.int .i64 a] h = some (.bool false, h) := by
  rw [call85]
  simp -implicitDefEqProofs only [↓c85_0_eq, eq_self, ne_eq, not_true_eq_false, decide_false, ↓ret85, ↓cnd_true, ↓cnd_false, ↓Option.bind_some, ↓obH_some', bin_add, bin_sub, bin_mul, bin_lss, bin_leq, bin_gtr, bin_geq, bin_eql, bin_neq, un_not, un_neg, Option.bind_some, Option.bind_none, Option.map_some, cnd_true, cnd_false, pickV_true, pickV_false, gd_true, gd_false, gdV_true, gdV_false, gdH_true, gdH_false, gdS_true, gdS_false, wt_ff, wt_tt, wt_ft, wt_tf, wt_undef, obH_some', extractV_tuple, nilCheckV_ptr, againK_normal, againK_exit, againK_ret, blockK_normal, blockK_same, blockK_ret, seqK_normal, seqK_exit, seqK_ret, fin_done, if_true', if_false', Bool.not_true, Bool.not_false, idx0, idx1, idx2, idx3, idx4, chk_nil_l, chk_nil_r, done_nm, up_cons, up_nil, cond_true, cond_false, Nat.reduceBEq]
theorem spec_isNaNW (a : Int) (h : Heap) : evC Try.prog 86 #[.int .u64 a] h = some (.bool false, h) := by
  rw [call86]
  simp -implicitDefEqProofs only [↓c86_0_eq, eq_self, ne_eq, not_true_eq_false, decide_false, ↓ret86, ↓cnd_true, ↓cnd_false, ↓Option.bind_some, ↓obH_some', bin_add, bin_sub, bin_mul, bin_lss, bin_leq, bin_gtr, bin_geq, bin_eql, bin_neq, un_not, un_neg, Option.bind_some, Option.bind_none, Option.map_some, cnd_true, cnd_false, pickV_true, pickV_false, gd_true, gd_false, gdV_true, gdV_false, gdH_true, gdH_false, gdS_true, gdS_false, wt_ff, wt_tt, wt_ft, wt_tf, wt_undef, obH_some', extractV_tuple, nilCheckV_ptr, againK_normal, againK_exit, againK_ret, blockK_normal, blockK_same, blockK_ret, seqK_normal, seqK_exit, seqK_ret, fin_done, if_true', if_false', Bool.not_true, Bool.not_false, idx0, idx1, idx2, idx3, idx4, chk_nil_l, chk_nil_r, done_nm, up_cons, up_nil, cond_true, cond_false, Nat.reduceBEq]
def cmpI (a b : Int) : Int := if a < b then -1 else if b < a then 1 else 0
theorem spec_CmpI (a b : Int) (h : Heap) : evC Try.prog 71 #[.int .i64 a, .int .i64 b] h = some (.int .i64 (cmpI a b), h) := by
  rw [call71]
  have e1 := fun h => spec_isNaNI a h
  have e2 := fun h => spec_isNaNI b h
  unfold cmpI
  by_cases h1 : a < b
  · rw [if_pos h1]
    simp -implicitDefEqProofs (disch := omega) only [↓c71_0_eq, dcT, dcF, e1, e2, ↓ret71, ↓cnd_true, ↓cnd_false, ↓Option.bind_some, ↓obH_some', bin_add, bin_sub, bin_mul, bin_lss, bin_leq, bin_gtr, bin_geq, bin_eql, bin_neq, un_not, un_neg, Option.bind_some, Option.bind_none, Option.map_some, cnd_true, cnd_false, pickV_true, pickV_false, gd_true, gd_false, gdV_true, gdV_false, gdH_true, gdH_false, gdS_true, gdS_false, wt_ff, wt_tt, wt_ft, wt_tf, wt_undef, obH_some', extractV_tuple, nilCheckV_ptr, againK_normal, againK_exit, againK_ret, blockK_normal, blockK_same, blockK_ret, seqK_normal, seqK_exit, seqK_ret, fin_done, if_true', if_false', Bool.not_true, Bool.not_false, idx0, idx1, idx2, idx3, idx4, chk_nil_l, chk_nil_r, done_nm, up_cons, up_nil, cond_true, cond_false, Nat.reduceBEq]
  · rw [if_neg h1]
    by_cases h2 : b < a
    · rw [if_pos h2]
      simp -implicitDefEqProofs (disch := omega) only [↓c71_0_eq, dcT, dcF, e1, e2, ↓ret71, ↓cnd_true, ↓cnd_false, ↓Option.bind_some, ↓obH_some', bin_add, bin_sub, bin_mul, bin_lss, bin_leq, bin_gtr, bin_geq, bin_eql, bin_neq, un_not, un_neg, Option.bind_some, Option.bind_none, Option.map_some, cnd_true, cnd_false, pickV_true, pickV_false, gd_true, gd_false, gdV_true, gdV_false, gdH_true, gdH_false, gdS_true, gdS_false, wt_ff, wt_tt, wt_ft, wt_tf, wt_undef, obH_some', extractV_tuple, nilCheckV_ptr, againK_normal, againK_exit, againK_ret, blockK_normal, blockK_same, blockK_ret, seqK_normal, seqK_exit, seqK_ret, fin_done, if_true', if_false', Bool.not_true, Bool.not_false, idx0, idx1, idx2, idx3, idx4, chk_nil_l, chk_nil_r, done_nm, up_cons, up_nil, cond_true, cond_false, Nat.reduceBEq]
    · rw [if_neg h2]
      simp -implicitDefEqProofs (disch := omega) only [↓c71_0_eq, dcT, dcF, e1, e2, ↓ret71, ↓cnd_true, ↓cnd_false, ↓Option.bind_some, ↓obH_some', bin_add, bin_sub, bin_mul, bin_lss, bin_leq, bin_gtr, bin_geq, bin_eql, bin_neq, un_not, un_neg, Option.bind_some, Option.bind_none, Option.map_some, cnd_true, cnd_false, pickV_true, pickV_false, gd_true, gd_false, gdV_true, gdV_false, gdH_true, gdH_false, gdS_true, gdS_false, wt_ff, wt_tt, wt_ft, wt_tf, wt_undef, obH_some', extractV_tuple, nilCheckV_ptr, againK_normal, againK_exit, againK_ret, blockK_normal, blockK_same, blockK_ret, seqK_normal, seqK_exit, seqK_ret, fin_done, if_true', if_false', Bool.not_true, Bool.not_false, idx0, idx1, idx2, idx3, idx4, chk_nil_l, chk_nil_r, done_nm, up_cons, up_nil, cond_true, cond_false, Nat.reduceBEq]
theorem spec_CmpW (a b : Int) (h : Heap) : evC Try.prog 72 #[.int .u64 a, .int .u64 b] h = some (.int .i64 (cmpI a b), h) := by
  rw [call72]
  have e1 := fun h => spec_isNaNW a h
  have e2 := fun h => spec_isNaNW b h
  unfold cmpI
  by_cases h1 : a < b
  · rw [if_pos h1]
    simp -implicitDefEqProofs (disch := omega) only [↓c72_0_eq, dcT, dcF, e1, e2, ↓ret72, ↓cnd_true, ↓cnd_false, ↓Option.bind_some, ↓obH_some', bin_add, bin_sub, bin_mul, bin_lss, bin_leq, bin_gtr, bin_geq, bin_eql, bin_neq, un_not, un_neg, Option.bind_some, Option.bind_none, Option.map_some, cnd_true, cnd_false, pickV_true, pickV_false, gd_true, gd_false, gdV_true, gdV_false, gdH_true, gdH_false, gdS_true, gdS_false, wt_ff, wt_tt, wt_ft, wt_tf, wt_undef, obH_some', extractV_tuple, nilCheckV_ptr, againK_normal, againK_exit, againK_ret, blockK_normal, blockK_same, blockK_ret, seqK_normal, seqK_exit, seqK_ret, fin_done, if_true', if_false', Bool.not_true, Bool.not_false, idx0, idx1, idx2, idx3, idx4, chk_nil_l, chk_nil_r, done_nm, up_cons, up_nil, cond_true, cond_false, Nat.reduceBEq]
  · rw [if_neg h1]
    by_cases h2 : b < a
    · rw [if_pos h2]
      simp -implicitDefEqProofs (disch := omega) only [↓c72_0_eq, dcT, dcF, e1, e2, ↓ret72, ↓cnd_true, ↓cnd_false, ↓Option.bind_some, ↓obH_some', bin_add, bin_sub, bin_mul, bin_lss, bin_leq, bin_gtr, bin_geq, bin_eql, bin_neq, un_not, un_neg, Option.bind_some, Option.bind_none, Option.map_some, cnd_true, cnd_false, pickV_true, pickV_false, gd_true, gd_false, gdV_true, gdV_false, gdH_true, gdH_false, gdS_true, gdS_false, wt_ff, wt_tt, wt_ft, wt_tf, wt_undef, obH_some', extractV_tuple, nilCheckV_ptr, againK_normal, againK_exit, againK_ret, blockK_normal, blockK_same, blockK_ret, seqK_normal, seqK_exit, seqK_ret, fin_done, if_true', if_false', Bool.not_true, Bool.not_false, idx0, idx1, idx2, idx3, idx4, chk_nil_l, chk_nil_r, done_nm, up_cons, up_nil, cond_true, cond_false, Nat.reduceBEq]
    · rw [if_neg h2]
      simp -implicitDefEqProofs (disch := omega) only [↓c72_0_eq, dcT, dcF, e1, e2, ↓ret72, ↓cnd_true, ↓cnd_false, ↓Option.bind_some, ↓obH_some', bin_add, bin_sub, bin_mul, bin_lss, bin_leq, bin_gtr, bin_geq, bin_eql, bin_neq, un_not, un_neg, Option.bind_some, Option.bind_none, Option.map_some, cnd_true, cnd_false, pickV_true, pickV_false, gd_true, gd_false, gdV_true, gdV_false, gdH_true, gdH_false, gdS_true, gdS_false, wt_ff, wt_tt, wt_ft, wt_tf, wt_undef, obH_some', extractV_tuple, nilCheckV_ptr, againK_normal, againK_exit, againK_ret, blockK_normal, blockK_same, blockK_ret, seqK_normal, seqK_exit, seqK_ret, fin_done, if_true', if_false', Bool.not_true, Bool.not_false, idx0, idx1, idx2, idx3, idx4, chk_nil_l, chk_nil_r, done_nm, up_cons, up_nil, cond_true, cond_false, Nat.reduceBEq]
theorem spec_Or {h : Heap} {p c : Nat} (a b : Int) (hc : Cells h p 3 [.int .i64 a, .int .i64 b]) : evC Try.prog 70 #[.slice (some ⟨p, 0, none⟩) 2 c] h = some (.int .i64 (if a = 0 then b else a), h) := by
  rw [call70]
  have l0 : (nm h).load1 p 0 = some (.int .i64 a) := hc.nm.load 0
  have l1 : (nm h).load1 p 1 = some (.int .i64 b) := hc.nm.load 1
  have w1 : IntKind.i64.wrap (0 + 1) = 1 := rfl
  have w2 : IntKind.i64.wrap (1 + 1) = 2 := rfl
  by_cases h1 : a = 0
  · rw [if_pos h1]
    by_cases h2 : b = 0
    · simp -implicitDefEqProofs (disch := omega) only [↓c70_0_eq, ↓c70_1_eq, ↓c70_2_eq, ↓loopK_eq evC_m, dcT, dcF, lnI, iaI0, iaI1, ldI, l0, l1, w1, w2, ↓ret70, ↓cnd_true, ↓cnd_false, ↓Option.bind_some, ↓obH_some', bin_add, bin_sub, bin_mul, bin_lss, bin_leq, bin_gtr, bin_geq, bin_eql, bin_neq, un_not, un_neg, Option.bind_some, Option.bind_none, Option.map_some, cnd_true, cnd_false, pickV_true, pickV_false, gd_true, gd_false, gdV_true, gdV_false, gdH_true, gdH_false, gdS_true, gdS_false, wt_ff, wt_tt, wt_ft, wt_tf, wt_undef, obH_some', extractV_tuple, nilCheckV_ptr, againK_normal, againK_exit, againK_ret, blockK_normal, blockK_same, blockK_ret, seqK_normal, seqK_exit, seqK_ret, fin_done, if_true', if_false', Bool.not_true, Bool.not_false, idx0, idx1, idx2, idx3, idx4, chk_nil_l, chk_nil_r, done_nm, up_cons, up_nil, cond_true, cond_false, Nat.reduceBEq]
      rw [h2]
    · simp -implicitDefEqProofs (disch := omega) only [↓c70_0_eq, ↓c70_1_eq, ↓c70_2_eq, ↓loopK_eq evC_m, dcT, dcF, lnI, iaI0, iaI1, ldI, l0, l1, w1, w2, ↓ret70, ↓cnd_true, ↓cnd_false, ↓Option.bind_some, ↓obH_some', bin_add, bin_sub, bin_mul, bin_lss, bin_leq, bin_gtr, bin_geq, bin_eql, bin_neq, un_not, un_neg, Option.bind_some, Option.bind_none, Option.map_some, cnd_true, cnd_false, pickV_true, pickV_false, gd_true, gd_false, gdV_true, gdV_false, gdH_true, gdH_false, gdS_true, gdS_false, wt_ff, wt_tt, wt_ft, wt_tf, wt_undef, obH_some', extractV_tuple, nilCheckV_ptr, againK_normal, againK_exit, againK_ret, blockK_normal, blockK_same, blockK_ret, seqK_normal, seqK_exit, seqK_ret, fin_done, if_true', if_false', Bool.not_true, Bool.not_false, idx0, idx1, idx2, idx3, idx4, chk_nil_l, chk_nil_r, done_nm, up_cons, up_nil, cond_true, cond_false, Nat.reduceBEq]
  · rw [if_neg h1]
    simp -implicitDefEqProofs (disch := omega) only [↓c70_0_eq, ↓c70_1_eq, ↓c70_2_eq, ↓loopK_eq evC_m, dcT, dcF, lnI, iaI0, iaI1, ldI, l0, l1, w1, w2, ↓ret70, ↓cnd_true, ↓cnd_false, ↓Option.bind_some, ↓obH_some', bin_add, bin_sub, bin_mul, bin_lss, bin_leq, bin_gtr, bin_geq, bin_eql, bin_neq, un_not, un_neg, Option.bind_some, Option.bind_none, Option.map_some, cnd_true, cnd_false, pickV_true, pickV_false, gd_true, gd_false, gdV_true, gdV_false, gdH_true, gdH_false, gdS_true, gdS_false, wt_ff, wt_tt, wt_ft, wt_tf, wt_undef, obH_some', extractV_tuple, nilCheckV_ptr, againK_normal, againK_exit, againK_ret, blockK_normal, blockK_same, blockK_ret, seqK_normal, seqK_exit, seqK_ret, fin_done, if_true', if_false', Bool.not_true, Bool.not_false, idx0, idx1, idx2, idx3, idx4, chk_nil_l, chk_nil_r, done_nm, up_cons, up_nil, cond_true, cond_false, Nat.reduceBEq]
theorem cmpE_or (x y : E3) : (if cmpI x.f y.f = 0 then cmpI x.n y.n else cmpI x.f y.f) = cmpE x y := by
  unfold cmpE cmpI
  by_cases h1 : x.f < y.f
  · simp [h1]
  · by_cases h2 : y.f < x.f
    · simp [h1, h2]
    · have : (x.n : Int) < y.n ↔ x.n < y.n := Int.ofNat_lt
      have : (y.n : Int) < x.n ↔ y.n < x.n := Int.ofNat_lt
      simp [h1, h2]
theorem spec_order (x y : E3) (h : Heap) : ∃ h', evC Try.prog 48 #[entV x, entV y] h = some (.int .i64 (cmpE x y), h') ∧ HExt h h' := by
  rw [call48]
  have c1 : Cells (((nm h).new (.cells [.int .i64 x.f, .int .u64 x.n, .int .u64 x.t]) 57).new (.cells [.int .i64 y.f, .int .u64 y.n, .int .u64 y.t]) 57) (nm h).blks.length 57 [.int .i64 x.f, .int .u64 x.n, .int .u64 x.t] := (Cells.new _ _ _).keepNew _ _
  have c2 := Cells.new ((nm h).new (.cells [.int .i64 x.f, .int .u64 x.n, .int .u64 x.t]) 57) 57 [.int .i64 y.f, .int .u64 y.n, .int .u64 y.t]
  have k2 : In h.blks.length No (nm h) (((nm h).new (.cells [.int .i64 x.f, .int .u64 x.n, .int .u64 x.t]) 57).new (.cells [.int .i64 y.f, .int .u64 y.n, .int .u64 y.t]) 57) :=
    In.trans (In.new (h := nm h) (Nat.le_refl h.blks.length) _ _) (In.new (by simp [Heap.new]) _ _)
  generalize hp1 : ((nm h).new (.cells [.int .i64 x.f, .int .u64 x.n, .int .u64 x.t]) 57).blks.length = p1 at c2
  generalize hp0 : (nm h).blks.length = p0 at c1
  generalize hh2 : ((nm h).new (.cells [.int .i64 x.f, .int .u64 x.n, .int .u64 x.t]) 57).new (.cells [.int .i64 y.f, .int .u64 y.n, .int .u64 y.t]) 57 = h2 at c1 c2 k2
  have la : h2.load1 p0 0 = some (.int .i64 x.f) := c1.load 0
  have lb : h2.load1 p0 1 = some (.int .u64 x.n) := c1.load 1
  have lc : h2.load1 p1 0 = some (.int .i64 y.f) := c2.load 0
  have ld : h2.load1 p1 1 = some (.int .u64 y.n) := c2.load 1
  have k3 := k2.trans (In.new (Nat.le_trans k2.le k2.len) (.cells [.int .i64 (cmpI x.f y.f), .int .i64 (cmpI x.n y.n)]) 3)
  have e3 := spec_Or (c := 2) _ _ (Cells.new h2 3 [.int .i64 (cmpI x.f y.f), .int .i64 (cmpI x.n y.n)])
  rw [cmpE_or] at e3
  refine ⟨_, ?_, done_ext' k3⟩
  simp -implicitDefEqProofs (disch := omega) only [↓c48_0_eq, entV, bxE, hp0, hp1, hh2, faE0, faE1, ldI, ldU, la, lb, lc, ld, spec_CmpI, spec_CmpW, am_nm, nm_load1, nm_mods, List.nil_append, List.append_nil, lsI2', e3, ↓ret48, ↓cnd_true, ↓cnd_false, ↓Option.bind_some, ↓obH_some', bin_add, bin_sub, bin_mul, bin_lss, bin_leq, bin_gtr, bin_geq, bin_eql, bin_neq, un_not, un_neg, Option.bind_some, Option.bind_none, Option.map_some, cnd_true, cnd_false, pickV_true, pickV_false, gd_true, gd_false, gdV_true, gdV_false, gdH_true, gdH_false, gdS_true, gdS_false, wt_ff, wt_tt, wt_ft, wt_tf, wt_undef, obH_some', extractV_tuple, nilCheckV_ptr, againK_normal, againK_exit, againK_ret, blockK_normal, blockK_same, blockK_ret, seqK_normal, seqK_exit, seqK_ret, fin_done, if_true', if_false', Bool.not_true, Bool.not_false, idx0, idx1, idx2, idx3, idx4, chk_nil_l, chk_nil_r, done_nm, up_cons, up_nil, cond_true, cond_false, Nat.reduceBEq]
end Go.Am.Z
namespace Go.Proofs
open Go.Shelf
def srtLay_ren : Go.Shelf.Ren := ⟨fun | 6 => 52 | 15 => 76 | 14 => 75 | 28 => 95 | 29 => 96 | 20 => 87 | 21 => 88 | 22 => 89 | 23 => 90 | 24 => 91 | 25 => 92 | 26 => 93 | 27 => 94 | 46 => 99 | 47 => 100 | 48 => 101 | 49 => 102 | 50 => 103 | 57 => 105 | n => n, fun | 22 => 45 | 24 => 57 | 25 => 98 | 3 => 3 | 39 => 114 | 0 => 0 | 53 => 154 | 55 => 35 | 4 => 4 | 46 => 148 | 45 => 147 | 50 => 39 | 5 => 5 | 9 => 9 | 66 => 156 | 70 => 160 | 76 => 163 | 77 => 164 | n => n, fun | n => n⟩
theorem srtLay : Go.Proofs.SlLaysF0.n6 Try.prog srtLay_ren := { mixed := by kernel_rfl, f6 := ⟨Try.f52.name, by decide, Try.func52.trans (congrArg some (by kernel_rfl))⟩, f14 := ⟨Try.f75.name, by decide, Try.func75.trans (congrArg some (by kernel_rfl))⟩, f15 := Try.func76.trans (congrArg some (by kernel_rfl)), f20 := ⟨Try.f87.name, by decide, Try.func87.trans (congrArg some (by kernel_rfl))⟩, f21 := ⟨Try.f88.name, by decide, Try.func88.trans (congrArg some (by kernel_rfl))⟩, f22 := ⟨Try.f89.name, by decide, Try.func89.trans (congrArg some (by kernel_rfl))⟩, f23 := ⟨Try.f90.name, by decide, Try.func90.trans (congrArg some (by kernel_rfl))⟩, f24 := ⟨Try.f91.name, by decide, Try.func91.trans (congrArg some (by kernel_rfl))⟩, f25 := ⟨Try.f92.name, by decide, Try.func92.trans (congrArg some (by kernel_rfl))⟩, f26 := ⟨Try.f93.name, by decide, Try.func93.trans (congrArg some (by kernel_rfl))⟩, f27 := ⟨Try.f94.name, by decide, Try.func94.trans (congrArg some (by kernel_rfl))⟩, f28 := Try.func95.trans (congrArg some (by kernel_rfl)), f29 := Try.func96.trans (congrArg some (by kernel_rfl)), f46 := ⟨Try.f99.name, by decide, Try.func99.trans (congrArg some (by kernel_rfl))⟩, f47 := Try.func100.trans (congrArg some (by kernel_rfl)), f48 := Try.func101.trans (congrArg some (by kernel_rfl)), f49 := ⟨Try.f102.name, by decide, Try.func102.trans (congrArg some (by kernel_rfl))⟩, f50 := ⟨Try.f103.name, by decide, Try.func103.trans (congrArg some (by kernel_rfl))⟩, f57 := ⟨Try.f105.name, by decide, Try.func105.trans (congrArg some (by kernel_rfl))⟩, t0 := Try.underlying0, a0 := Try.isAgg0, z0 := Try.sizeOf0, v0 := Try.zeroValue0, t3 := Try.underlying3, a3 := Try.isAgg3, z3 := Try.sizeOf3, v3 := Try.zeroValue3, t4 := Try.underlying4, a4 := Try.isAgg4, z4 := Try.sizeOf4, v4 := Try.zeroValue4, t5 := Try.underlying5, a5 := Try.isAgg5, z5 := Try.sizeOf5, v5 := Try.zeroValue5, t9 := Try.underlying9, a9 := Try.isAgg9, z9 := Try.sizeOf9, v9 := Try.zeroValue9, t22 := Try.underlying45, a22 := Try.isAgg45, z22 := Try.sizeOf45, v22 := Try.zeroValue45, t25 := Try.underlying98, a25 := Try.isAgg98, z25 := Try.sizeOf98, v25 := Try.zeroValue98, t39 := Try.underlying114, a39 := Try.isAgg114, z39 := Try.sizeOf114, v39 := Try.zeroValue114, t45 := Try.underlying147, a45 := Try.isAgg147, z45 := Try.sizeOf147, v45 := Try.zeroValue147, t46 := Try.underlying148, a46 := Try.isAgg148, z46 := Try.sizeOf148, v46 := Try.zeroValue148, t50 := Try.underlying39, a50 := Try.isAgg39, z50 := Try.sizeOf39, v50 := Try.zeroValue39, t53 := Try.underlying154, a53 := Try.isAgg154, z53 := Try.sizeOf154, v53 := Try.zeroValue154, t55 := Try.underlying35, a55 := Try.isAgg35, z55 := Try.sizeOf35, v55 := Try.zeroValue35, t66 := Try.underlying156, a66 := Try.isAgg156, z66 := Try.sizeOf156, v66 := Try.zeroValue156, t70 := Try.underlying160, a70 := Try.isAgg160, z70 := Try.sizeOf160, v70 := Try.zeroValue160, t76 := Try.underlying163, a76 := Try.isAgg163, z76 := Try.sizeOf163, v76 := Try.zeroValue163, t77 := Try.underlying164, a77 := Try.isAgg164, z77 := Try.sizeOf164, v77 := Try.zeroValue164 }
end Go.Proofs
namespace Go.Am
open Go.Proofs Go.Sort
set_option maxRecDepth 100000
set_option linter.all false
theorem mixedT : Try.prog.follows .mixedOrders = true := by kernel_rfl
theorem grown_of {h : Heap} {W W' : World} (fr : Fr noE h W W') : ∃ q os', W' = grow (W.drewN q) os' := by
  have hb : ∀ c, c < W.heap.size → W'.heap[c]? = W.heap[c]? := fun c hc => fr.blk c hc fun ⟨b, k, l, _, h1, _⟩ => by cases h1
  have ho := fr.os
  have ht := fr.tape
  have hu := fr.output
  have hs := fr.size
  have hd := fr.drawn
  obtain ⟨heap, tape, drawn, os, output⟩ := W
  obtain ⟨heap', tape', drawn', os', output'⟩ := W'
  simp only at ho ht hu hs hd hb
  subst ho ht hu
  refine ⟨drawn' - drawn, heap'.extract heap.size heap'.size, ?_⟩
  unfold grow World.drewN
  simp only
  congr 1
  · apply Array.ext_getElem?
    intro c
    rcases Nat.lt_or_ge c heap.size with h1 | h1
    · rw [Array.getElem?_append_left h1, ← hb c h1]
    · rw [Array.getElem?_append_right h1, Array.getElem?_extract]
      split
      · rename_i h2; rw [show heap.size + (c - heap.size) = c by omega]
      · rename_i h2; rw [Array.getElem?_eq_none (by omega)]
  · omega
theorem ent_list (x : E3) : (entC x).toArray = #[.int .i64 x.f, .int .u64 x.n, .int .u64 x.t] := rfl
theorem cmp_lays (blk off size : Nat) (w : World) : CmpLays Try.prog 48 #[] entC 3 cmpE blk off size w := fun m os dk _ x y => by
  obtain ⟨h', he, _⟩ := Z.spec_order x y ⟨[], []⟩
  have hA : ARel noE #[entV x, entV y] #[.agg (entC x).toArray, .agg (entC y).toArray] := ⟨rfl, fun i h1 h2 => by
    have : i = 0 ∨ i = 1 := by simp at h1; omega
    rcases this with rfl | rfl
    · exact VR.of_ground (v := entV x) (by simp [ground, entV, ground0])
    · exact VR.of_ground (v := entV y) (by simp [ground, entV, ground0])⟩
  rw [Array.append_empty]
  refine (@evC_sound _ Z.xt0 Z.xo0 mixedT (sortWorldK entC 3 w blk off m dk os).heap.size 48 #[entV x, entV y] ⟨[], []⟩ _ h' noE _ _ he (rel_none _) hA (fun b _ _ => rfl)).mono ?_
  rintro e W' ⟨v', E', h1, h2, h3⟩
  cases h3
  exact ⟨h1, grown_of h2.fr⟩
theorem swo : SWO (ltOf cmpE) := by
  have key : ∀ x y : E3, ltOf cmpE x y = decide (x.f < y.f ∨ x.f = y.f ∧ x.n < y.n) := fun x y => by
    unfold ltOf cmpE
    by_cases h1 : x.f < y.f
    · simp [h1]
    · by_cases h2 : y.f < x.f
      · have : ¬ (x.f = y.f) := by omega
        simp [h1, h2, this]
      · have : x.f = y.f := by omega
        by_cases h3 : x.n < y.n
        · simp [h1, h2, h3, this]
        · by_cases h4 : y.n < x.n <;> simp [h1, h2, h3, h4, this]
  constructor
  · intro x; rw [key]; simp
  · intro x y z h1 h2; rw [key] at *; simp at *; omega
  · intro x y z h1 h2; rw [key] at *; simp at *; omega
theorem flatK_ent (l : List E3) : (flatK entC 3 l.toArray).toList = entL l := by
  have key : ∀ (l : List E3) (t : Nat), t < l.length * 3 → (entC (l.getD (t / 3) default))[t % 3]! = (entL l)[t]! := by
    intro l
    induction l with
    | nil => intro t ht; simp at ht
    | cons e l ih =>
      intro t ht
      rcases Nat.lt_or_ge t 3 with h | h
      · have : t = 0 ∨ t = 1 ∨ t = 2 := by omega
        rcases this with rfl | rfl | rfl <;> rfl
      · obtain ⟨u, rfl⟩ : ∃ u, t = u + 3 := ⟨t - 3, by omega⟩
        rw [show (u + 3) / 3 = u / 3 + 1 by omega, show (u + 3) % 3 = u % 3 by omega]
        simp only [List.getD_cons_succ]
        rw [ih u (by simp at ht; omega)]
        rfl
  apply List.ext_getElem
  · simp [entL_len]
  · intro t h1 h2
    have ht : t < l.length * 3 := by rw [entL_len] at h2; exact h2
    have := key l t ht
    rw [getElem!_pos (entL l) t h2] at this
    rw [← this]
    simp only [flatK, Array.toList_map, Array.toList_range, List.getElem_map, List.getElem_range]
    congr 1
    simp [getElem!_def, List.getD_eq_getElem?_getD]
    cases l[t / 3]? <;> rfl
theorem setCells_sort {w : World} {blk off : Nat} {l : List E3} (hH : HoldsK entC 3 w blk off l.toArray) (d : Array E3) (hd : d.size = l.length) : w.setCells blk off (entL d.toList) = putRowK entC 3 w blk off d := by
  have e0 := putRow_self id w blk off _ hH
  have e1 := setCells_putRow w blk off (entL d.toList) 0 (flatK entC 3 l.toArray) (by rw [entL_len, size_flatK]; simp [hd])
  rw [e0, Nat.add_zero] at e1
  rw [e1]
  unfold putRowK
  congr 1
  refine ext_get! (by simp [hd]) fun t ht => ?_
  have ht' : t < (flatK entC 3 l.toArray).size := by simpa using ht
  have hlen : (entL d.toList).length = (flatK entC 3 l.toArray).size := by rw [entL_len, size_flatK]; simp [hd]
  rw [get_setMany _ _ _ _ ht', if_pos (by omega), Nat.sub_zero]
  have := flatK_ent d.toList
  simp only [Array.toArray_toList] at this
  rw [← this]
  simp [getElem!_def]
theorem Post.grown {P : Program} {base : Nat} {E : Env} {h h' : Heap} {w w1 : World} (p : Post P base E h w E h' w1) (os : Array Obj) : Post P base E h w E h' (grow w1 os) := by
  have hb : ∀ c, c < w1.heap.size → (grow w1 os).heap[c]? = w1.heap[c]? := fun c hc => by
    unfold grow
    exact Array.getElem?_append_left hc
  refine ⟨p.ext, p.dom, ⟨fun b k l hk hl => (p.rel.blk b k l hk hl).congr (Ext.refl _) (hb _ (p.rel.bnd b l hl)), p.rel.low, p.rel.ro, fun b l hl => ?_, p.rel.inj, ?_⟩, ⟨p.fr.os, p.fr.tape, p.fr.output, ?_, fun c hc hm => ?_, p.fr.drawn⟩, p.orig⟩
  · have := p.rel.bnd b l hl
    simp [grow]; omega
  · have := p.rel.base
    simp [grow]; omega
  · have := p.fr.size
    simp [grow]; omega
  · rw [hb c (Nat.lt_of_lt_of_le hc p.fr.size)]; exact p.fr.blk c hc hm
theorem Post.drewN {P : Program} {base : Nat} {E : Env} {h h' : Heap} {w w1 : World} (n : Nat) (p : Post P base E h (w.drewN n) E h' w1) : Post P base E h w E h' w1 :=
  ⟨p.ext, p.dom, p.rel, ⟨p.fr.os, p.fr.tape, p.fr.output, p.fr.size, p.fr.blk, Nat.le_trans (Nat.le_add_right _ _) p.fr.drawn⟩, p.orig⟩
theorem VR.func_inv {E : Env} {fn : Fn} {f c : Array Value} {x : Value} (h : VR E (.func fn f c) x) (hf : f.size = 0) (hc : c.size = 0) : x = .func fn #[] #[] := by
  cases h with
  | func h1 _ h2 _ =>
    rw [hf] at h1
    rw [hc] at h2
    congr 1
    · exact Array.eq_empty_of_size_eq_zero h1.symm
    · exact Array.eq_empty_of_size_eq_zero h2.symm
theorem enters_order : ∀ args w, (callFunc 48 args).run Try.prog w = .ok (.enter 48 args) w := enters_of Try.func48 (by kernel_rfl) rfl
theorem aggE : ∀ w, (isAgg 57).run Try.prog w = .ok true w := fun w => by simpa using run_isAggT (P := Try.prog) (t := 57) (b := true) (by kernel_rfl) w
theorem sizE : ∀ w, (Go.sizeOf 57).run Try.prog w = .ok 3 w := fun w => run_sizeT (P := Try.prog) (t := 57) (by kernel_rfl) w
theorem pdq_size (l : List E3) : (pdq (ltOf cmpE) l.toArray 0 l.toArray.size (Lib.bitLen l.toArray.size) true true).size = l.length := by
  have h := pdq_sorts (ltOf cmpE) swo l.toArray 0 l.toArray.size (Lib.bitLen l.toArray.size) true true (Nat.zero_le _) (Nat.le_refl _) (Or.inl rfl)
  rw [h.1.1]; simp
theorem sort_sound (base : Nat) (args : Array Value) (h : Heap) (v : Value) (h' : Heap) (E : Env) (w : World) (args' : Array Value) (hv : sortX 48 args h = some (v, h')) (hR : Rel Try.prog base E h w) (ha : ARel E args args') :
    Calls Try.prog 52 args' w fun e w' => ∃ v' E', e = .returned v' ∧ Post Try.prog base E h w E' h' w' ∧ VR E' v v' := by
  have two : ∀ x y, args.toList = [x, y] → ∃ x' y', args' = #[x', y'] ∧ VR E x x' ∧ VR E y y' := fun x y he => by
    have hl := ha.list
    rw [he] at hl
    obtain ⟨x', h1, r1⟩ := hl.2 0 x rfl
    obtain ⟨y', h2, r2⟩ := hl.2 1 y rfl
    have h3 := hl.1
    refine ⟨x', y', ?_, r1, r2⟩
    obtain ⟨l⟩ := args'
    match l, h3, h1, h2 with
    | [a, b], _, h1, h2 => cases h1; cases h2; rfl
  unfold sortX at hv
  split at hv
  · rename_i ad n c f x y he
    split at hv
    · rename_i hc
      obtain ⟨rfl, hx, hy, hn2⟩ := hc
      split at hv
      · rename_i hn0
        subst hn0
        cases hv
        obtain ⟨x', y', rfl, r1, r2⟩ := two _ _ he
        rw [r2.func_inv hx hy]
        have : ∃ p' c', x' = .slice p' 0 c' := by cases r1 <;> exact ⟨_, _, rfl⟩
        obtain ⟨p', c', rfl⟩ := this
        exact (AnyF.slices_SortFunc_none srtLay p' c' _ w).mono fun e w' ⟨h1, h2⟩ => ⟨_, E, h1, by rw [h2]; exact Post.refl hR, VR.undef⟩
      · rename_i hn0
        have hn : 0 < n := Nat.pos_of_ne_zero hn0
        split at hv
        · rename_i b o
          split at hv
          · rename_i cs hcs
            split at hv
            · rename_i l hl
              obtain ⟨h1, hs, hq⟩ := Option.map_eq_some_iff.1 hv
              cases hq
              obtain ⟨x', y', rfl, r1, r2⟩ := two _ _ he
              rw [r2.func_inv hx hy]
              have hcse := e3Of_inv _ _ hl
              subst hcse
              have hlen := loadN_len hcs
              rw [entL_len] at hlen
              have hln : l.length = n := by omega
              cases r1 with
              | sliceEmpty => omega
              | @slice _ _ _ _ c' l0 hE _ _ _ =>
                have hst : ∃ cs0 ty, h.blks[b]? = some ⟨.cells cs0, ty, true⟩ ∧ o + n * 3 ≤ cs0.length := by
                  unfold Heap.storeN at hs
                  split at hs
                  · rename_i cs0 ty hk
                    refine ⟨cs0, ty, hk, ?_⟩
                    unfold Heap.loadN Heap.cells? at hcs
                    rw [hk] at hcs
                    simp only at hcs
                    split at hcs
                    · assumption
                    · cases hcs
                  · cases hs
                obtain ⟨cs0, ty, hk, hle⟩ := hst
                obtain ⟨oc, oe, lo, hi, hheap, hsz, _, hfz⟩ := (hR.blk b _ l0 hk hE).2.2 rfl
                obtain ⟨cs', hLr, hcell⟩ := loadN_read hR hcs hE
                have hcell' : ∀ (j : Nat) v, (entL l)[j]? = some v → w.cell? ⟨l0.cb, l0.s + o + j, none⟩ = some v := fun j v hj => by
                  obtain ⟨v', h2, h3⟩ := hLr.2 j v hj
                  have hg : ground v = true := by
                    have : ∀ (l : List E3) (j : Nat) v, (entL l)[j]? = some v → ground v = true := by
                      intro l
                      induction l with
                      | nil => intro j v h; simp [entL] at h
                      | cons e l ih =>
                        intro j v h
                        match j, h with
                        | 0, h => cases h; rfl
                        | 1, h => cases h; rfl
                        | 2, h => cases h; rfl
                        | j + 3, h => exact ih j v h
                    exact this l j v hj
                  rw [h3.ground_eq hg] at h2
                  rw [Nat.add_assoc]
                  exact hcell j v h2
                have hH : HoldsK entC 3 w l0.cb (l0.s + o) l.toArray := fun j hj => by
                  have hj' : j < (entL l).length := by rw [entL_len]; simpa using hj
                  have e1 : (flatK entC 3 l.toArray)[j]! = (entL l)[j] := by
                    rw [← getElem!_pos (entL l) j hj', ← flatK_ent l]; simp [getElem!_def]
                  have h2 := hcell' j _ (List.getElem?_eq_getElem hj')
                  refine ⟨by rw [h2]; simp only [id]; rw [e1], ?_⟩
                  have hlt : l0.s + o + j < oc.size := by
                    simp only [World.cell?, hheap] at h2
                    have := (Array.getElem?_eq_some_iff.1 (by simpa using h2)).1
                    exact this
                  simp only [World.frozen?, hheap]
                  simp
                  omega
                have hlt : l0.cb < w.heap.size := hR.bnd b l0 hE
                have hcon := AnyQ.slices_SortFunc_eq srtLay 3 aggE sizE entC (fun _ => rfl) (fun x v hv => by simp [entC] at hv; rcases hv with rfl | rfl | rfl <;> rfl) cmpE swo 48 #[] l0.cb (l0.s + o) c' l.toArray w enters_order (cmp_lays _ _ _ _) hH hlt (by simp; omega)
                rw [show l.toArray.size = n by simpa using hln] at hcon
                refine hcon.mono ?_
                rintro e w' ⟨h2, m, os, h3⟩
                refine ⟨_, E, h2, ?_, VR.undef⟩
                have hRn : Rel Try.prog base E h (w.drewN m) := Rel.drawn hR _
                have hHn : HoldsK entC 3 (w.drewN m) l0.cb (l0.s + o) l.toArray := hH
                obtain ⟨w2, hw2, hp2⟩ := storeN_run hRn hs hE (vs' := entL (srtE l)) ⟨rfl, fun i v hv => ⟨v, hv, by
                  have : ∀ (l : List E3) (j : Nat) v, (entL l)[j]? = some v → ground v = true := by
                    intro l
                    induction l with
                    | nil => intro j v h; simp [entL] at h
                    | cons e l ih =>
                      intro j v h
                      match j, h with
                      | 0, h => cases h; rfl
                      | 1, h => cases h; rfl
                      | 2, h => cases h; rfl
                      | j + 3, h => exact ih j v h
                  exact VR.of_ground (this _ i v hv)⟩⟩ (entL_one _)
                have hds : (pdq (ltOf cmpE) l.toArray 0 l.toArray.size (Lib.bitLen l.toArray.size) true true).size = l.length := pdq_size l
                have e2 := setCells_sort hHn (pdq (ltOf cmpE) l.toArray 0 l.toArray.size (Lib.bitLen l.toArray.size) true true) hds
                have hrun := stores_of_holds Try.prog hHn 0 (entL (srtE l)) (by rw [entL_len, size_flatK]; unfold srtE; rw [Array.length_toList]; exact Nat.le_of_eq (by rw [show (pdq (fun x y : E3 => decide (cmpE x y < 0)) l.toArray 0 l.toArray.size (Lib.bitLen l.toArray.size) true true).size = l.length from hds]; simp)) (fun v hv => by
                  have := List.all_eq_true.1 (entL_one (srtE l)) v hv
                  exact this)
                rw [Nat.add_zero] at hrun
                rw [show (storeCells ⟨l0.cb, l0.s + o, none⟩ (entL (srtE l))).run Try.prog (w.drewN m) = Sem.run Try.prog (storeCells ⟨l0.cb, l0.s + o, none⟩ (entL (srtE l)) 0) (w.drewN m) from rfl, hrun] at hw2
                cases hw2
                have e3 : w' = grow ((w.drewN m).setCells l0.cb (l0.s + o) (entL (srtE l))) os := by
                  rw [h3]
                  unfold sortWorldK
                  congr 1
                  rw [show n = l.toArray.size by simpa using hln.symm]
                  exact e2.symm
                rw [e3]
                exact (hp2.drewN m).grown os
            · cases hv
          · cases hv
        · cases hv
    · cases hv
  · cases hv
instance : XtOk Try.prog := ⟨fun f g hX args h v h' hv => by obtain ⟨_, rfl⟩ := xt_inv hX; exact sortX_grow _ _ _ _ _ hv, fun base f g hX args h v h' E w args' hv hR ha _ => by obtain ⟨rfl, rfl⟩ := xt_inv hX; exact sort_sound base args h v h' E w args' hv hR ha⟩
end Go.Am
