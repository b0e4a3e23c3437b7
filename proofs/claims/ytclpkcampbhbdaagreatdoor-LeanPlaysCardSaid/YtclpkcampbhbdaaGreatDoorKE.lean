/- What the functions answer, in the machine. -/
import Derived.Test.YtclpkcampbhbdaaGreatDoorKD
set_option linter.all false
namespace Go.Am
open Go.Proofs
set_option maxRecDepth 100000
set_option linter.all false
attribute [local congr] zCc zCn zCp zCo zCg zCd
def joinE (own hd : List E3) : List E3 := if goodE own = true ∧ goodE hd = true then srtE (zDg own hd ++ zDg hd own ++ bothE own hd) else own
theorem wide_news {a b : List E3} (w : wide a) : wide (zDg a b) := fun e he => w e (List.mem_filter.1 he).1
theorem wide_both {a b : List E3} (w : wide a) : wide (bothE a b) := fun e he => by
  obtain ⟨x, hx, h⟩ := List.mem_filterMap.1 he
  unfold bothF at h
  split at h
  · cases h
    exact ⟨(w x hx).1, Nat.lt_of_le_of_lt Nat.and_le_left (w x hx).2⟩
  · cases h
theorem wide_join {a b : List E3} (w : wide a) (w2 : wide b) : wide (joinE a b) := by
  unfold joinE
  split
  · intro e he
    have := (srtE_perm _).subset he
    rcases List.mem_append.1 this with h | h
    · rcases List.mem_append.1 h with h | h
      · exact wide_news w e h
      · exact wide_news w2 e h
    · exact wide_both w e h
  · exact w
theorem spec_Join {h : Heap} {v w : Value} {es fs : List E3} (s : SE h v es) (s2 : SE h w fs) (hw : wide es) (hw2 : wide fs) (hl : es.length < 2 ^ 36) (hl2 : fs.length < 2 ^ 36) :
    ∃ a c h', evC Tryz.prog 43 #[.agg #[v], .agg #[w]] h = some (.agg #[.slice a (joinE es fs).length c], h') ∧ HExt h h' ∧ AE h.blks.length h' (.slice a (joinE es fs).length c) (joinE es fs) := by
  rw [call43]
  have c1 := ((Cells.new (nm h) 51 [v]).keepNew (.cells [w]) 51).keepNew (.cells [.slice none 0 0]) 51
  have c2 := (Cells.new ((nm h).new (.cells [v]) 51) 51 [w]).keepNew (.cells [.slice none 0 0]) 51
  have c3 := Cells.new (((nm h).new (.cells [v]) 51).new (.cells [w]) 51) 51 [.slice none 0 0]
  have s1' : SE ((((nm h).new (.cells [v]) 51).new (.cells [w]) 51).new (.cells [.slice none 0 0]) 51) v es := ((s.nm.keepNew _ _).keepNew _ _).keepNew _ _
  have s2' : SE ((((nm h).new (.cells [v]) 51).new (.cells [w]) 51).new (.cells [.slice none 0 0]) 51) w fs := ((s2.nm.keepNew _ _).keepNew _ _).keepNew _ _
  have e0 : (nm h).blks.length = h.blks.length := rfl
  have e1 : ((nm h).new (.cells [v]) 51).blks.length = h.blks.length + 1 := by simp [Heap.new]
  have e2 : (((nm h).new (.cells [v]) 51).new (.cells [w]) 51).blks.length = h.blks.length + 2 := by simp [Heap.new]
  have k2 : In h.blks.length No (nm h) ((((nm h).new (.cells [v]) 51).new (.cells [w]) 51).new (.cells [.slice none 0 0]) 51) := ((In.new (h := nm h) (Nat.le_refl h.blks.length) _ _).trans (In.new (by omega) _ _)).trans (In.new (by omega) _ _)
  have hlen : ((((nm h).new (.cells [v]) 51).new (.cells [w]) 51).new (.cells [.slice none 0 0]) 51).blks.length = h.blks.length + 3 := by simp [Heap.new]
  rw [e0] at c1
  rw [e1] at c2
  rw [e2] at c3
  generalize hh : ((((nm h).new (.cells [v]) 51).new (.cells [w]) 51).new (.cells [.slice none 0 0]) 51) = h2 at c1 c2 c3 s1' s2' k2 hlen
  have lv : ∀ {h' : Heap}, Same h2 h' → (h'.loadN h.blks.length 0 1).map (fun cs => Value.agg cs.toArray) = some (.agg #[v]) := fun hs => by rw [(c1.same hs).loadN (n := 1) rfl]; rfl
  have lw : ∀ {h' : Heap}, Same h2 h' → (h'.loadN (h.blks.length + 1) 0 1).map (fun cs => Value.agg cs.toArray) = some (.agg #[w]) := fun hs => by rw [(c2.same hs).loadN (n := 1) rfl]; rfl
  obtain ⟨h3, q3,Ad⟩ := spec_Good s1' hw (by omega)
  have s3 := Ad.same
  have hx3 := Ad.len
  have k3 := k2.trans (Ad.inn (by omega))
  -- a log that may not be: its copy
  have bad : ∀ {h4 : Heap}, Same h2 h4 → In h.blks.length No (nm h) h4 → ∃ a c h5 h6, evC Tryz.prog 75 #[.agg #[v]] h4 = some (.agg #[.slice a es.length c], h5) ∧ storeV Tryz.prog 51 (.pointer (some ⟨h.blks.length + 2, 0, none⟩)) (.agg #[.slice a es.length c]) h5 = some h6 ∧ (h6.loadN (h.blks.length + 2) 0 1).map (fun cs => Value.agg cs.toArray) = some (.agg #[.slice a es.length c]) ∧ In h.blks.length No (nm h) h6 ∧ AE h.blks.length h6 (.slice a es.length c) es := fun {h4} hs hk => by
    obtain ⟨a, c, h5, g1, g2, g3⟩ := spec_clone (s1'.same hs) (by omega)
    have d5 := (c3.same hs).ext g2
    have d6 := d5.put [.slice a es.length c]
    have hs' := hs.1
    have hg2 := g2.len
    refine ⟨a, c, h5, h5.put (h.blks.length + 2) (.cells [.slice a es.length c]), g1, ?_, ?_, (hk.trans (g2.inn (by omega))).trans (In.put (by omega) (.inl (by omega)) _), (Acc.keepPut g3 (fun e => by have := Acc.ge g3 e; omega) _).up (by omega)⟩
    · rw [stL, zCh d5 (by simp)]; rfl
    · rw [d6.loadN (n := 1) rfl]; rfl
  cases hg : goodE es with
  | false =>
    rw [hg] at q3
    obtain ⟨a, c, h5, h6, g1, g2, g3, g4, g5⟩ := bad s3 k3
    have hj : joinE es fs = es := by unfold joinE; rw [if_neg (by simp [hg])]
    rw [hj]
    refine ⟨a, c, _, ?_, zCf g4, g5.done⟩
    simp -implicitDefEqProofs (disch := omega) only [↓c43_0_eq, bxL, alL, e0, e1, e2, hh, ldL, lv (Same.refl _), q3, lv s3, g1, g2, g3, rvals, ↓ret43, ↓zAf, ↓zAb, ↓Option.bind_some, ↓zAa, zBd, zBm, zBl, zBe, zBn, zBk, zBi, zBf, zBj, zBq, zBp, Option.bind_some, Option.bind_none, Option.map_some, zAf, zAb, zAl, zAk, zBh, zAw, zAy, zAp, zBc, zAs, zBa, zAr, zBt, zBu, zBv, zBs, zAz, zAa, zAc, zAd, zAe, zAh, zAm, zAg, zAj, zAn, zAi, zAu, zAx, zAv, zBb, zAt, Bool.not_true, Bool.not_false, zCk, zCj, zCl, zCi, zCm, zAq, zAo, zBg, zBo, zBr, cond_true, cond_false, Nat.reduceBEq]
  | true =>
    rw [hg] at q3
    obtain ⟨h4, q4,Ae⟩ := spec_Good (s2'.same s3) hw2 (by omega)
    have s4 := s3.trans Ae.same
    have hx4 := Ae.len
    have k4 := k3.trans (Ae.inn (by omega))
    cases hg2 : goodE fs with
    | false =>
      rw [hg2] at q4
      obtain ⟨a, c, h5, h6, g1, g2, g3, g4, g5⟩ := bad s4 k4
      have hj : joinE es fs = es := by unfold joinE; rw [if_neg (by simp [hg2])]
      rw [hj]
      refine ⟨a, c, _, ?_, zCf g4, g5.done⟩
      simp -implicitDefEqProofs (disch := omega) only [↓c43_0_eq, bxL, alL, e0, e1, e2, hh, ldL, lv (Same.refl _), q3, lw s3, q4, lv s4, g1, g2, g3, rvals, ↓ret43, ↓zAf, ↓zAb, ↓Option.bind_some, ↓zAa, zBd, zBm, zBl, zBe, zBn, zBk, zBi, zBf, zBj, zBq, zBp, Option.bind_some, Option.bind_none, Option.map_some, zAf, zAb, zAl, zAk, zBh, zAw, zAy, zAp, zBc, zAs, zBa, zAr, zBt, zBu, zBv, zBs, zAz, zAa, zAc, zAd, zAe, zAh, zAm, zAg, zAj, zAn, zAi, zAu, zAx, zAv, zBb, zAt, Bool.not_true, Bool.not_false, zCk, zCj, zCl, zCi, zCm, zAq, zAo, zBg, zBo, zBr, cond_true, cond_false, Nat.reduceBEq]
    | true =>
      rw [hg2] at q4
      have g1 := ((zCx es).1 hg).2
      have g2 := ((zCx fs).1 hg2).2
      obtain ⟨a5, c5, h5, q5,Af, r5⟩ := spec_news (h := nm h4) (s1'.same s4).nm (s2'.same s4).nm g2 (by omega) (by omega)
      obtain ⟨Af', m5⟩ := Af.amx
      have r5' : AE h4.blks.length (am h5 h4) (.slice a5 (zDg es fs).length c5) (zDg es fs) := Acc.keep r5 fun _ _ _ => rfl
      have s5 := s4.trans Af'.same
      have hx5 := Af'.len
      obtain ⟨a6, c6, h6, q6,Ag, r6⟩ := spec_news (h := am h5 h4) (s2'.same s5) (s1'.same s5) g1 (by omega) (by omega)
      have s6 := s5.trans Ag.same
      have hx6 := Ag.len
      have nl : ∀ a b, (zDg a b).length ≤ a.length := fun a b => List.length_filter_le _ _
      have n1 := nl es fs
      have n2 := nl fs es
      obtain ⟨a7, c7, h7, q7, r7,Ah, o7, _⟩ := app_ents etE etE.under (n0 := h4.blks.length) (h := h6) (by omega) (Acc.same r5' Ag.same) (AE.se r6) (by omega)
      have k7 := (((k4.trans (Af'.inn (by omega))).trans (Ag.inn (by omega))).trans (Keeps.inn (S := No) (Ah.dn (by omega))))
      have s7 : Same h2 h7 := ⟨by have := Ah.len; omega, fun q hq => (o7 q (by omega) (Acc.off r5' (n1 := h2.blks.length) (by omega) hq)).trans (s6.2 q hq)⟩
      have l7 : h7.load1 h.blks.length 0 = some v := (c1.same s7).load 0
      have hj : joinE es fs = srtE (zDg es fs ++ zDg fs es ++ bothE es fs) := by unfold joinE; rw [if_pos ⟨hg, hg2⟩]
      rw [hj]
      obtain ⟨va, vc, rfl⟩ := s.shape
      have hlt7 := s7.1
      have r7' : AE h4.blks.length h7 (.slice a7 (zDg es fs ++ zDg fs es ++ bothE (es.take 0) fs).length c7) (zDg es fs ++ zDg fs es ++ bothE (es.take 0) fs) := by
        rw [List.take_zero]; show AE _ _ (.slice a7 (zDg es fs ++ zDg fs es ++ []).length c7) (zDg es fs ++ zDg fs es ++ []); rw [List.append_nil]; exact r7
      have lp := join_loop (h0 := h) (h1 := h7) (p1 := h.blks.length + 1) (p2 := h.blks.length + 2) (pre := zDg es fs ++ zDg fs es) (s1'.same s7) (s2'.same s7) g2 hw hw2 (by omega) (by omega) (by rw [List.length_append]; omega) (by omega) (c2.same s7) (c3.same s7) (by omega) (srtE_len _) h4.blks.length (by omega) (by have := Ah.len; omega) (fun b hb => by have := Sl.lt s1' hb; omega) (fun b hb => by have := Sl.lt s2' hb; omega) (by omega) (by omega) es.length 0 (by omega) (by omega)
      have fin' : ∀ {r : Option (Value × Heap)}, (∃ a c h', r = some (.agg #[.slice a (srtE (zDg es fs ++ zDg fs es ++ bothE es fs)).length c], done h h') ∧ In h.blks.length No (nm h) h' ∧ AE h4.blks.length h' (.slice a (srtE (zDg es fs ++ zDg fs es ++ bothE es fs)).length c) (srtE (zDg es fs ++ zDg fs es ++ bothE es fs))) → ∃ a c h', r = some (.agg #[.slice a (srtE (zDg es fs ++ zDg fs es ++ bothE es fs)).length c], h') ∧ HExt h h' ∧ AE h.blks.length h' (.slice a (srtE (zDg es fs ++ zDg fs es ++ bothE es fs)).length c) (srtE (zDg es fs ++ zDg fs es ++ bothE es fs)) := fun ⟨a, c, h', g1, g2, g3⟩ => ⟨a, c, _, g1, zCf g2, (Acc.up g3 (by omega)).done⟩
      simp -implicitDefEqProofs (disch := omega) only [↓c43_0_eq, bxL, alL, e0, e1, e2, hh, ldL, lv (Same.refl _), q3, lw s3, q4, lv s4, lw s4, q5, m5, lw s5, lv s5, q6, q7, List.nil_append, faL, ldEs, l7, lnEs, ↓zAf, ↓zAb, ↓Option.bind_some, ↓zAa, zBd, zBm, zBl, zBe, zBn, zBk, zBi, zBf, zBj, zBq, zBp, Option.bind_some, Option.bind_none, Option.map_some, zAf, zAb, zAl, zAk, zBh, zAw, zAy, zAp, zBc, zAs, zBa, zAr, zBt, zBu, zBv, zBs, zAz, zAa, zAc, zAd, zAe, zAh, zAm, zAg, zAj, zAn, zAi, zAu, zAx, zAv, zBb, zAt, Bool.not_true, Bool.not_false, zCk, zCj, zCl, zCi, zCm, zAq, zAo, zBg, zBo, zBr, cond_true, cond_false, Nat.reduceBEq]
      refine fin' (lp _ _ a7 c7 k7 (fun _ _ => rfl) (Nat.le_refl _) r7' ?_ ?_ ?_ ?_ ?_ ?_)
      · rfl
      · rfl
      · rw [List.take_zero]; show Value.slice a7 (zDg es fs ++ zDg fs es).length c7 = Value.slice a7 (zDg es fs ++ zDg fs es ++ []).length c7; rw [List.append_nil]
      all_goals rfl
end Go.Am
namespace Go.Am
open Go.Proofs
set_option maxRecDepth 100000
set_option linter.all false
attribute [local congr] zCc zCn zCp zCo zCg zCd
def zCv : List E3 → List E3
  | [] => []
  | [e] => [e]
  | e :: e' :: l => if e.t ≠ 0 ∨ e'.f ≠ e.f then e :: zCv (e' :: l) else zCv (e' :: l)
theorem purgeL_two (e e' : E3) (l : List E3) : zCv (e :: e' :: l) = if e.t ≠ 0 ∨ e'.f ≠ e.f then e :: zCv (e' :: l) else zCv (e' :: l) := by rw [zCv]
theorem purgeL_len : ∀ l : List E3, (zCv l).length ≤ l.length
  | [] => Nat.le_refl _
  | [e] => Nat.le_refl _
  | e :: e' :: l => by
    have := purgeL_len (e' :: l)
    unfold zCv
    split
    · simp at *; omega
    · simp at *; omega
def purgeE (es : List E3) : List E3 := if goodE es then zCv es else es
theorem purge_loop {h0 h1 : Heap} {v : Value} {es : List E3} {p1 p2 : Nat} (s : SE h1 v es) (hl : es.length < 2 ^ 38) (c1 : Cells h1 p1 51 [v]) (c2 : Cells h1 p2 51 [.slice none 0 0]) (hp2 : h0.blks.length ≤ p2) (hn1 : p2 < h1.blks.length) (hn0 : h0.blks.length ≤ h1.blks.length) :
    ∀ (m i : Nat), es.length - i = m → i ≤ es.length → ∀ (x : Nat → Value) (h : Heap) (a : Option Addr) (c : Nat) (o : List E3),In h0.blks.length No (nm h0) h → Same h1 h → AE h1.blks.length h (.slice a o.length c) o → o ++ zCv (es.drop i) = zCv es →
    x 1 = .pointer (some ⟨p1, 0, none⟩) → x 2 = .pointer (some ⟨p2, 0, none⟩) → x 3 = .slice a o.length c → x 13 = v → x 14 = .int .i64 es.length → x 15 = .int .i64 i →
    ∃ a' c' h', lK c34_1 50 x h (zCr 0 (sK c34_2 (zCw Tryz.f34 Tryz.prog h0))) = some (.agg #[.slice a' (zCv es).length c'], done h0 h') ∧ In h0.blks.length No (nm h0) h' ∧ AE h1.blks.length h' (.slice a' (zCv es).length c') (zCv es) := by
  intro m
  have hpl := purgeL_len es
  induction m with
  | zero =>
    intro i e1 e2 x h a c o hin hs ha ho Ab Ac Ad Ao Ap Aq
    obtain rfl : i = es.length := by omega
    rw [List.drop_length] at ho
    simp only [zCv, List.append_nil] at ho
    subst ho
    have c2' := c2.same hs
    have c5 := c2'.put [.slice a (zCv es).length c]
    have hb : zBz (.slice a (zCv es).length c) ≠ some p2 := fun e => by have := Acc.ge ha e; omega
    have l5 : (Heap.loadN (h.put p2 (.cells [.slice a (zCv es).length c])) p2 0 1).map (fun cs => Value.agg cs.toArray) = some (.agg #[.slice a (zCv es).length c]) := by rw [c5.loadN (n := 1) rfl]; rfl
    have i5 := hin.trans (In.put (S := No) (Nat.le_trans hin.le hin.len) (p := p2) (.inl hp2) (.cells [.slice a (zCv es).length c]))
    rw [lK_eq]
    refine ⟨a, c, _, ?_, i5, ha.keepPut hb _⟩
    simp -implicitDefEqProofs (disch := omega) only [↓c34_1_eq, ↓c34_2_eq,Ab,Ac,Ad,Ao,Ap,Aq, dcF, bdL, stL, zCh c2' (o := 0) (vs := [.slice a (zCv es).length c]) (by simp), List.take_zero, List.nil_append, List.append_nil, List.length_cons, List.length_nil, List.drop_succ_cons, List.drop_zero, Nat.zero_add, ldL, l5, rvals, ↓ret34, ↓zAf, ↓zAb, ↓Option.bind_some, ↓zAa, zBd, zBm, zBl, zBe, zBn, zBk, zBi, zBf, zBj, zBq, zBp, Option.bind_some, Option.bind_none, Option.map_some, zAf, zAb, zAl, zAk, zBh, zAw, zAy, zAp, zBc, zAs, zBa, zAr, zBt, zBu, zBv, zBs, zAz, zAa, zAc, zAd, zAe, zAh, zAm, zAg, zAj, zAn, zAi, zAu, zAx, zAv, zBb, zAt, Bool.not_true, Bool.not_false, zCk, zCj, zCl, zCi, zCm, zAq, zAo, zBg, zBo, zBr, cond_true, cond_false, Nat.reduceBEq]
  | succ m ih =>
    intro i hm hi x h a c o hin hs ha ho Ab Ac Ad Ao Ap Aq
    have hil : i < es.length := by omega
    obtain ⟨b, of, hb, hbl, e1, e2⟩ := s.at' (t := 49) (el := 99) (by kernel_rfl) (by kernel_rfl) hil
    obtain ⟨f1, f2, f3, f4⟩ := e2 h (hs.2 b hbl)
    have hnh : h1.blks.length ≤ h.blks.length := hs.1
    obtain ⟨hA, hB, a1, a2, a3, a4, a5, a6⟩ := var_ent (n0 := h1.blks.length) hnh es[i]
    have hsB := hs.trans a5
    have hinB := hin.trans (In.dn (a4 No) hn0)
    have lB : hB.load1 p1 0 = some v := (c1.same hsB).load 0
    have lf : hB.load1 h.blks.length 0 = some (.int .i64 es[i].f) := a3.load 0
    have lt : hB.load1 h.blks.length (0 + 2) = some (.int .u64 es[i].t) := a3.load 2
    obtain ⟨va, vc, rfl⟩ := s.shape
    have wi : IntKind.i64.wrap ((i : Int) + 1) = ((i + 1 : Nat) : Int) := by rw [wrap_i64] <;> omega
    have wl : IntKind.i64.wrap ((es.length : Int) - 1) = ((es.length - 1 : Nat) : Int) := by rw [wrap_i64] <;> omega
    have hol : o.length < 2 ^ 39 := by
      have := congrArg List.length ho
      rw [List.length_append] at this; omega
    obtain ⟨a', c', hD, q1, q2, q3, q4⟩ := app_ent etE (n0 := h1.blks.length) (Nat.le_trans hnh a5.1) (ha.same a5) es[i] hol
    have hsD : Same h1 hD := ⟨Nat.le_trans hsB.1 q3.len, fun q hq => (q4 q (Nat.lt_of_lt_of_le hq hsB.1) (fun e => by have := Acc.ge ha e; omega)).trans (hsB.2 q hq)⟩
    have hinD := hinB.trans (Keeps.inn (S := No) (q3.dn hn0))
    by_cases hlast : i + 1 = es.length
    · have ho' : (o ++ [es[i]]) ++ zCv (es.drop (i + 1)) = zCv es := by
        rw [← ho, List.drop_eq_getElem_cons hil, hlast, List.drop_length]; simp [zCv]
      have d1 : decide ((i : Int) = ((es.length - 1 : Nat) : Int)) = true := decide_eq_true (by omega)
      by_cases ht : es[i].t = 0
      · have d0 : decide ((es[i].t : Int) ≠ 0) = false := decide_eq_false (by omega)
        rw [lK_eq]
        simp -implicitDefEqProofs (disch := omega) only [↓c34_1_eq, ↓c34_2_eq,Ab,Ac,Ad,Ao,Ap,Aq, dcT, e1, ldE, f1, Option.map_some, entA, a1, a2, a6, faE0, faE2, ldS, lt, d0, faL, ldEs, lB, lnEs, wl, d1, bsE, q1, wi, ↓zAf, ↓zAb, ↓Option.bind_some, ↓zAa, zBd, zBm, zBl, zBe, zBn, zBk, zBi, zBf, zBj, zBq, zBp, Option.bind_some, Option.bind_none, Option.map_some, zAf, zAb, zAl, zAk, zBh, zAw, zAy, zAp, zBc, zAs, zBa, zAr, zBt, zBu, zBv, zBs, zAz, zAa, zAc, zAd, zAe, zAh, zAm, zAg, zAj, zAn, zAi, zAu, zAx, zAv, zBb, zAt, Bool.not_true, Bool.not_false, zCk, zCj, zCl, zCi, zCm, zAq, zAo, zBg, zBo, zBr, cond_true, cond_false, Nat.reduceBEq]
        exact ih (i + 1) (by omega) (by omega) (up _ _) hD a' c' _ hinD hsD q2 ho' Ab Ac rfl Ao Ap rfl
      · have d0 : decide ((es[i].t : Int) ≠ 0) = true := decide_eq_true (by omega)
        rw [lK_eq]
        simp -implicitDefEqProofs (disch := omega) only [↓c34_1_eq, ↓c34_2_eq,Ab,Ac,Ad,Ao,Ap,Aq, dcT, e1, ldE, f1, Option.map_some, entA, a1, a2, a6, faE0, faE2, ldS, lt, d0, faL, ldEs, lB, lnEs, wl, d1, bsE, q1, wi, ↓zAf, ↓zAb, ↓Option.bind_some, ↓zAa, zBd, zBm, zBl, zBe, zBn, zBk, zBi, zBf, zBj, zBq, zBp, Option.bind_some, Option.bind_none, Option.map_some, zAf, zAb, zAl, zAk, zBh, zAw, zAy, zAp, zBc, zAs, zBa, zAr, zBt, zBu, zBv, zBs, zAz, zAa, zAc, zAd, zAe, zAh, zAm, zAg, zAj, zAn, zAi, zAu, zAx, zAv, zBb, zAt, Bool.not_true, Bool.not_false, zCk, zCj, zCl, zCi, zCm, zAq, zAo, zBg, zBo, zBr, cond_true, cond_false, Nat.reduceBEq]
        exact ih (i + 1) (by omega) (by omega) (up _ _) hD a' c' _ hinD hsD q2 ho' Ab Ac rfl Ao Ap rfl
    · have hin1 : i + 1 < es.length := by omega
      have d1 : decide ((i : Int) = ((es.length - 1 : Nat) : Int)) = false := decide_eq_false (by omega)
      obtain ⟨b', of', hb', hbl', e1', e2'⟩ := s.at' (t := 49) (el := 99) (by kernel_rfl) (by kernel_rfl) hin1
      obtain ⟨_, f2', _⟩ := e2' hB (hsB.2 b' hbl')
      have hdr : es.drop i = es[i] :: es[i + 1] :: es.drop (i + 2) := by rw [List.drop_eq_getElem_cons hil, List.drop_eq_getElem_cons hin1]
      by_cases hk : es[i].t ≠ 0 ∨ es[i + 1].f ≠ es[i].f
      · have ho' : (o ++ [es[i]]) ++ zCv (es.drop (i + 1)) = zCv es := by
          rw [← ho, hdr, List.drop_eq_getElem_cons hin1, purgeL_two es[i], if_pos hk, List.append_assoc]; rfl
        by_cases ht : es[i].t = 0
        · have hf : es[i + 1].f ≠ es[i].f := hk.resolve_left (fun h => h ht)
          have d0 : decide ((es[i].t : Int) ≠ 0) = false := decide_eq_false (by omega)
          rw [lK_eq]
          simp -implicitDefEqProofs (disch := omega) only [↓c34_1_eq, ↓c34_2_eq,Ab,Ac,Ad,Ao,Ap,Aq, dcT, e1, ldE, f1, Option.map_some, entA, a1, a2, a6, faE0, faE2, ldS, lt, d0, faL, ldEs, lB, lnEs, wl, d1, wi, e1', ldI, f2', lf, decide_eq_true hf, bsE, q1, ↓zAf, ↓zAb, ↓Option.bind_some, ↓zAa, zBd, zBm, zBl, zBe, zBn, zBk, zBi, zBf, zBj, zBq, zBp, Option.bind_some, Option.bind_none, Option.map_some, zAf, zAb, zAl, zAk, zBh, zAw, zAy, zAp, zBc, zAs, zBa, zAr, zBt, zBu, zBv, zBs, zAz, zAa, zAc, zAd, zAe, zAh, zAm, zAg, zAj, zAn, zAi, zAu, zAx, zAv, zBb, zAt, Bool.not_true, Bool.not_false, zCk, zCj, zCl, zCi, zCm, zAq, zAo, zBg, zBo, zBr, cond_true, cond_false, Nat.reduceBEq]
          exact ih (i + 1) (by omega) (by omega) (up _ _) hD a' c' _ hinD hsD q2 ho' Ab Ac rfl Ao Ap rfl
        · have d0 : decide ((es[i].t : Int) ≠ 0) = true := decide_eq_true (by omega)
          rw [lK_eq]
          simp -implicitDefEqProofs (disch := omega) only [↓c34_1_eq, ↓c34_2_eq,Ab,Ac,Ad,Ao,Ap,Aq, dcT, e1, ldE, f1, Option.map_some, entA, a1, a2, a6, faE0, faE2, ldS, lt, d0, bsE, q1, wi, ↓zAf, ↓zAb, ↓Option.bind_some, ↓zAa, zBd, zBm, zBl, zBe, zBn, zBk, zBi, zBf, zBj, zBq, zBp, Option.bind_some, Option.bind_none, Option.map_some, zAf, zAb, zAl, zAk, zBh, zAw, zAy, zAp, zBc, zAs, zBa, zAr, zBt, zBu, zBv, zBs, zAz, zAa, zAc, zAd, zAe, zAh, zAm, zAg, zAj, zAn, zAi, zAu, zAx, zAv, zBb, zAt, Bool.not_true, Bool.not_false, zCk, zCj, zCl, zCi, zCm, zAq, zAo, zBg, zBo, zBr, cond_true, cond_false, Nat.reduceBEq]
          exact ih (i + 1) (by omega) (by omega) (up _ _) hD a' c' _ hinD hsD q2 ho' Ab Ac rfl Ao Ap rfl
      · have ht : es[i].t = 0 := Classical.byContradiction fun h => hk (.inl h)
        have hf : es[i + 1].f = es[i].f := Classical.byContradiction fun h => hk (.inr h)
        have d0 : decide ((es[i].t : Int) ≠ 0) = false := decide_eq_false (by omega)
        have d2 : decide (es[i + 1].f ≠ es[i].f) = false := decide_eq_false (fun h => h hf)
        have ho' : o ++ zCv (es.drop (i + 1)) = zCv es := by
          rw [← ho, hdr, List.drop_eq_getElem_cons hin1, purgeL_two es[i], if_neg hk]
        rw [lK_eq]
        simp -implicitDefEqProofs (disch := omega) only [↓c34_1_eq, ↓c34_2_eq,Ab,Ac,Ad,Ao,Ap,Aq, dcT, e1, ldE, f1, Option.map_some, entA, a1, a2, a6, faE0, faE2, ldS, lt, d0, faL, ldEs, lB, lnEs, wl, d1, wi, e1', ldI, f2', lf, d2, ↓zAf, ↓zAb, ↓Option.bind_some, ↓zAa, zBd, zBm, zBl, zBe, zBn, zBk, zBi, zBf, zBj, zBq, zBp, Option.bind_some, Option.bind_none, Option.map_some, zAf, zAb, zAl, zAk, zBh, zAw, zAy, zAp, zBc, zAs, zBa, zAr, zBt, zBu, zBv, zBs, zAz, zAa, zAc, zAd, zAe, zAh, zAm, zAg, zAj, zAn, zAi, zAu, zAx, zAv, zBb, zAt, Bool.not_true, Bool.not_false, zCk, zCj, zCl, zCi, zCm, zAq, zAo, zBg, zBo, zBr, cond_true, cond_false, Nat.reduceBEq]
        exact ih (i + 1) (by omega) (by omega) (up _ _) hB a c _ hinB hsB (ha.same a5) ho' Ab Ac Ad Ao Ap rfl
theorem spec_Purge {h : Heap} {v : Value} {es : List E3} (s : SE h v es) (hw : wide es) (hl : es.length < 2 ^ 38) :
    ∃ a c h', evC Tryz.prog 34 #[.agg #[v]] h = some (.agg #[.slice a (purgeE es).length c], h') ∧ HExt h h' ∧ AE h.blks.length h' (.slice a (purgeE es).length c) (purgeE es) := by
  rw [call34]
  have c1 := (Cells.new (nm h) 51 [v]).keepNew (.cells [.slice none 0 0]) 51
  have c2 := Cells.new ((nm h).new (.cells [v]) 51) 51 [.slice none 0 0]
  have s2 : SE (((nm h).new (.cells [v]) 51).new (.cells [.slice none 0 0]) 51) v es := (s.nm.keepNew _ _).keepNew _ _
  have k2 : In h.blks.length No (nm h) (((nm h).new (.cells [v]) 51).new (.cells [.slice none 0 0]) 51) := (In.new (h := nm h) (Nat.le_refl h.blks.length) _ _).trans (In.new (by simp [Heap.new]) _ _)
  have e0 : (nm h).blks.length = h.blks.length := rfl
  have e1 : ((nm h).new (.cells [v]) 51).blks.length = h.blks.length + 1 := by simp [Heap.new]
  rw [e0] at c1
  rw [e1] at c2
  have hlen : (((nm h).new (.cells [v]) 51).new (.cells [.slice none 0 0]) 51).blks.length = h.blks.length + 2 := by simp [Heap.new]
  generalize hh : (((nm h).new (.cells [v]) 51).new (.cells [.slice none 0 0]) 51) = h2 at c1 c2 s2 k2 hlen
  have lA : (h2.loadN h.blks.length 0 1).map (fun cs => Value.agg cs.toArray) = some (.agg #[v]) := by rw [c1.loadN (n := 1) rfl]; rfl
  obtain ⟨a, c, h3, e3,Ad, a3⟩ := spec_clone s2 (by omega)
  have c3 := c1.ext Ad
  have d3 := c2.ext Ad
  have hx3 := Ad.len
  have b1 : zBz (.slice a es.length c) ≠ some h.blks.length := fun e => by have := a3.ge e; omega
  have b2 : zBz (.slice a es.length c) ≠ some (h.blks.length + 1) := fun e => by have := a3.ge e; omega
  have c4 := c3.put [.slice a es.length c]
  have d4 : Cells (h3.put h.blks.length (.cells [.slice a es.length c])) (h.blks.length + 1) 51 [.slice none 0 0] := d3.keepPut (by omega) _
  have a4 : AE h.blks.length (h3.put h.blks.length (.cells [.slice a es.length c])) (.slice a es.length c) es := (a3.keepPut b1 _).up (by omega)
  have k4 := (k2.trans (Ad.inn (by omega))).trans (In.put (S := No) (by omega) (p := h.blks.length) (.inl (by omega)) (.cells [.slice a es.length c]))
  have hs4 := zCh c3 (o := 0) (vs := [.slice a es.length c]) (by simp)
  have hl4 : (h3.put h.blks.length (.cells [.slice a es.length c])).blks.length = h3.blks.length := Heap.put_len _ _ _
  simp only [List.take_zero, List.nil_append, List.append_nil, List.length_cons, List.length_nil, List.drop_succ_cons, List.drop_zero, Nat.zero_add] at hs4
  generalize hh4 : h3.put h.blks.length (.cells [.slice a es.length c]) = h4 at c4 d4 a4 k4 hs4 hl4
  have l4 : (h4.loadN h.blks.length 0 1).map (fun cs => Value.agg cs.toArray) = some (.agg #[.slice a es.length c]) := by rw [c4.loadN (n := 1) rfl]; rfl
  obtain ⟨h5, e5,Af⟩ := spec_Good a4.se hw (by omega)
  have c5 := c4.ext Af
  have d5 := d4.ext Af
  have hx5 := Af.len
  have a5 : AE h.blks.length h5 (.slice a es.length c) es := a4.same Af.same
  have k5 := k4.trans (Af.inn (Nat.le_trans k4.le k4.len))
  have l5 : (h5.loadN h.blks.length 0 1).map (fun cs => Value.agg cs.toArray) = some (.agg #[.slice a es.length c]) := by rw [c5.loadN (n := 1) rfl]; rfl
  have l5' : h5.load1 h.blks.length 0 = some (.slice a es.length c) := c5.load 0
  unfold purgeE
  cases hg : goodE es with
  | false =>
    rw [hg] at e5
    refine ⟨a, c, ?_⟩
    have d6 := d5.put [.slice a es.length c]
    have l6 : (Heap.loadN (h5.put (h.blks.length + 1) (.cells [.slice a es.length c])) (h.blks.length + 1) 0 1).map (fun cs => Value.agg cs.toArray) = some (.agg #[.slice a es.length c]) := by rw [d6.loadN (n := 1) rfl]; rfl
    have k6 := k5.trans (In.put (S := No) (Nat.le_trans k5.le k5.len) (p := h.blks.length + 1) (.inl (by omega)) (.cells [.slice a es.length c]))
    simp only [Bool.false_eq_true, if_false]
    refine ⟨_, ?_, zCf k6, (a5.keepPut b2 _).done⟩
    simp -implicitDefEqProofs (disch := omega) only [↓c34_0_eq, bxL, alL, e0, e1, hh, ldL, lA, e3, stL, hs4, l4, e5, l5, zCh d5 (o := 0) (vs := [.slice a es.length c]) (by simp), List.take_zero, List.nil_append, List.append_nil, List.length_cons, List.length_nil, List.drop_succ_cons, List.drop_zero, Nat.zero_add, l6, rvals, ↓ret34, ↓zAf, ↓zAb, ↓Option.bind_some, ↓zAa, zBd, zBm, zBl, zBe, zBn, zBk, zBi, zBf, zBj, zBq, zBp, Option.bind_some, Option.bind_none, Option.map_some, zAf, zAb, zAl, zAk, zBh, zAw, zAy, zAp, zBc, zAs, zBa, zAr, zBt, zBu, zBv, zBs, zAz, zAa, zAc, zAd, zAe, zAh, zAm, zAg, zAj, zAn, zAi, zAu, zAx, zAv, zBb, zAt, Bool.not_true, Bool.not_false, zCk, zCj, zCl, zCi, zCm, zAq, zAo, zBg, zBo, zBr, cond_true, cond_false, Nat.reduceBEq]
  | true =>
    rw [hg] at e5
    have lp := purge_loop (h0 := h) (h1 := h5) (p1 := h.blks.length) (p2 := h.blks.length + 1) a5.se hl c5 d5 (by omega) (by omega) (by omega) es.length 0 (by omega) (by omega)
    have fin' : ∀ {r : Option (Value × Heap)}, (∃ a c h', r = some (.agg #[.slice a (zCv es).length c], done h h') ∧ In h.blks.length No (nm h) h' ∧ AE h5.blks.length h' (.slice a (zCv es).length c) (zCv es)) → ∃ a c h', r = some (.agg #[.slice a (zCv es).length c], h') ∧ HExt h h' ∧ AE h.blks.length h' (.slice a (zCv es).length c) (zCv es) := fun ⟨a, c, h', q1, q2, q3⟩ => ⟨a, c, _, q1, zCf q2, (Acc.up q3 (by omega)).done⟩
    simp only [if_true]
    simp -implicitDefEqProofs (disch := omega) only [↓c34_0_eq, bxL, alL, e0, e1, hh, ldL, lA, e3, stL, hs4, l4, e5, faL, ldEs, l5', lnEs, ↓zAf, ↓zAb, ↓Option.bind_some, ↓zAa, zBd, zBm, zBl, zBe, zBn, zBk, zBi, zBf, zBj, zBq, zBp, Option.bind_some, Option.bind_none, Option.map_some, zAf, zAb, zAl, zAk, zBh, zAw, zAy, zAp, zBc, zAs, zBa, zAr, zBt, zBu, zBv, zBs, zAz, zAa, zAc, zAd, zAe, zAh, zAm, zAg, zAj, zAn, zAi, zAu, zAx, zAv, zBb, zAt, Bool.not_true, Bool.not_false, zCk, zCj, zCl, zCi, zCm, zAq, zAo, zBg, zBo, zBr, cond_true, cond_false, Nat.reduceBEq]
    refine fin' (lp _ _ none 0 [] k5 (Same.refl _) (AE.nil _ _) (by rw [List.drop_zero]; rfl) ?_ ?_ ?_ ?_ ?_ ?_)
    all_goals rfl
end Go.Am
namespace Go.Am
open Go.Proofs
set_option maxRecDepth 100000
set_option linter.all false
attribute [local congr] zCc zCn zCp zCo zCg zCd
theorem bdE3 (a b c : Int) : buildV Tryz.prog 99 #[(0, .int .i64 a), (1, .int .u64 b), (2, .int .u64 c)] = some (.agg #[.int .i64 a, .int .u64 b, .int .u64 c]) := by kernel_rfl
theorem fvL (a : Option Addr) (n c : Nat) : fieldV Tryz.prog 51 (.agg #[.slice a n c]) 0 = some (.slice a n c) := by kernel_rfl
end Go.Am
namespace Go.Am
open Go.Proofs
set_option maxRecDepth 100000
set_option linter.all false
attribute [local congr] zCc zCn zCp zCo zCg zCd
def Old (n : Nat) (h h' : Heap) : Prop := h.blks.length ≤ h'.blks.length ∧ ∀ b, b < n → h'.blks[b]? = h.blks[b]?
theorem Old.refl (n : Nat) (h : Heap) : Old n h h := ⟨Nat.le_refl _, fun _ _ => rfl⟩
theorem Old.trans {n : Nat} {a b c : Heap} (h : Old n a b) (k : Old n b c) : Old n a c := ⟨Nat.le_trans h.1 k.1, fun i hi => (k.2 i hi).trans (h.2 i hi)⟩
theorem Same.to {n : Nat} {h h' : Heap} (s : Same h h') (hn : n ≤ h.blks.length) : Old n h h' := ⟨s.1, fun b hb => s.2 b (Nat.lt_of_lt_of_le hb hn)⟩
theorem HMod.to {n p : Nat} {h h' : Heap} (m : HMod (Just p) h h') (hp : n ≤ p) (hn : n ≤ h.blks.length) : Old n h h' := ⟨m.len, fun b hb => m.old b (Nat.lt_of_lt_of_le hb hn) (fun e => by have : b = p := e; omega)⟩
theorem Sl.old {P : Program} {k : Nat} {h h' : Heap} {es n : Nat} {v : Value} {cs : List Value} (r : Sl P h es v n cs) (o : Old k h h') (hv : Lo v k) : Sl P h' es v n cs := r.keep fun b _ hb => o.2 b (hv b hb)
theorem Cells.old {k : Nat} {h h' : Heap} {p : Nat} {ty : TypeId} {cs : List Value} (c : Cells h p ty cs) (o : Old k h h') (hp : p < k) : Cells h' p ty cs := (o.2 p hp).trans c
def encE (e : E3) : List UInt8 := putL e.f.toNat ++ (putL e.n ++ putL e.t)
def encL (es : List E3) : List UInt8 := (es.map encE).flatten
def logB (es : List E3) : List UInt8 := putL es.length ++ encL es
theorem encL_snoc (es : List E3) (e : E3) : encL (es ++ [e]) = encL es ++ encE e := by simp [encL]
theorem putL_le (n : Nat) (h : n < 2 ^ 64) : (putL n).length ≤ 10 := by
  rw [putL_len]; exact sizeN_le n 10 (Nat.lt_of_lt_of_le h (by decide)) (by omega)
theorem encE_le (e : E3) (h0 : e.f < 2 ^ 63) (h1 : e.n < 2 ^ 64) (h2 : e.t < 2 ^ 64) : (encE e).length ≤ 30 := by
  have a := putL_le e.f.toNat (by omega)
  have b := putL_le e.n h1
  have c := putL_le e.t h2
  simp only [encE, List.length_append]; omega
theorem encL_le : ∀ (es : List E3), (∀ e ∈ es, e.f < 2 ^ 63) → wide es → (encL es).length ≤ 30 * es.length
  | [], _, _ => Nat.le_refl _
  | e :: es, h, w => by
    have a := encL_le es (fun x hx => h x (by simp [hx])) (fun x hx => w x (by simp [hx]))
    have b := encE_le e (h e (by simp)) (w e (by simp)).1 (w e (by simp)).2
    simp only [encL, List.map_cons, List.flatten_cons, List.length_append, List.length_cons] at a ⊢
    omega
theorem put_loop18 {h0 h1 : Heap} {v : Value} {es : List E3} {p : Nat} (s : SE h1 v es) (hv : Lo v p) (hw : wide es) (hf : ∀ e ∈ es, 0 ≤ e.f ∧ e.f < 2 ^ 63) (hl : es.length < 2 ^ 32) (hn : h0.blks.length ≤ p) (hp1 : p ≤ h1.blks.length) :
    ∀ (m i : Nat), es.length - i = m → i ≤ es.length → ∀ (x : Nat → Value) (h : Heap),In h0.blks.length No (nm h0) h → Old p h1 h → Wr p h p (putL es.length ++ encL (es.take i)) →
    x 3 = .pointer (some ⟨p, 0, none⟩) → x 17 = v → x 18 = .int .i64 es.length → x 19 = .int .i64 i →
    ∃ a c h', lK c33_1 39 x h (zCr 0 (sK c33_2 (zCw Tryz.f33 Tryz.prog h0))) = some (.slice a (logB es).length c, done h0 h') ∧ In h0.blks.length No (nm h0) h' ∧ AB h0.blks.length h' (.slice a (logB es).length c) (logB es) := by
  intro m
  have ll : ∀ i, (encL (es.take i)).length ≤ 30 * es.length := fun i => by
    have := encL_le (es.take i) (fun e he => (hf e (List.mem_of_mem_take he)).2) (fun e he => hw e (List.mem_of_mem_take he))
    have h2 : (es.take i).length ≤ es.length := by rw [List.length_take]; omega
    omega
  have l0 := putL_le es.length (by omega)
  induction m with
  | zero =>
    intro i e1 e2 x h hin ho w Ad As Au Av
    obtain rfl : i = es.length := by omega
    have := ll es.length
    rw [List.take_length] at w this
    obtain ⟨a, c, h2, q1, q2, q3⟩ := spec_WDone w (by rw [List.length_append]; omega)
    rw [lK_eq]
    refine ⟨a, c, h2, ?_, hin.trans (q2.inn (Nat.le_trans hin.le hin.len)), Acc.up q3 (Nat.le_trans hin.le hin.len)⟩
    simp -implicitDefEqProofs (disch := omega) only [↓c33_1_eq, ↓c33_2_eq,Ad,As,Au,Av, dcF, q1, ↓ret33, ↓zAf, ↓zAb, ↓Option.bind_some, ↓zAa, zBd, zBm, zBl, zBe, zBn, zBk, zBi, zBf, zBj, zBq, zBp, Option.bind_some, Option.bind_none, Option.map_some, zAf, zAb, zAl, zAk, zBh, zAw, zAy, zAp, zBc, zAs, zBa, zAr, zBt, zBu, zBv, zBs, zAz, zAa, zAc, zAd, zAe, zAh, zAm, zAg, zAj, zAn, zAi, zAu, zAx, zAv, zBb, zAt, Bool.not_true, Bool.not_false, zCk, zCj, zCl, zCi, zCm, zAq, zAo, zBg, zBo, zBr, cond_true, cond_false, Nat.reduceBEq]
    rfl
  | succ m ih =>
    intro i hm hi x h hin ho w Ad As Au Av
    have hil : i < es.length := by omega
    have hph : p ≤ h.blks.length := Nat.le_trans hp1 ho.1
    obtain ⟨b, of, hb, hbl, e1, e2⟩ := s.at' (t := 49) (el := 99) (by kernel_rfl) (by kernel_rfl) hil
    obtain ⟨f1, _⟩ := e2 h (ho.2 b (hv b hb))
    obtain ⟨hA, hB, a1, a2, a3, a4, a5, a6⟩ := var_ent (n0 := p) hph es[i]
    have wd := hw es[i] (List.getElem_mem hil)
    have fd := hf es[i] (List.getElem_mem hil)
    have wlt := w.lt
    have bl := ll i
    have lt1 : ∀ {h' : Heap}, Cells h' h.blks.length 99 (entC es[i]) → h'.load1 h.blks.length 0 = some (.int .i64 es[i].f) ∧ h'.load1 h.blks.length (0 + 1) = some (.int .u64 es[i].n) ∧ h'.load1 h.blks.length (0 + 2) = some (.int .u64 es[i].t) := fun c => ⟨c.load 0, c.load 1, c.load 2⟩
    obtain ⟨l1, _, _⟩ := lt1 a3
    have wB := w.same a5
    have p1 := putL_le es[i].f.toNat (by omega)
    have p2 := putL_le es[i].n wd.1
    have p3 := putL_le es[i].t wd.2
    obtain ⟨hC, q1, q2, q3⟩ := spec_WNum wB (by have := a5.1; omega) es[i].f.toNat (by omega) (by rw [List.length_append]; omega)
    rw [Int.toNat_of_nonneg fd.1] at q1
    have hab := a5.1
    have a3C : Cells hC h.blks.length 99 (entC es[i]) := a3.mod q2 (fun e => by have : h.blks.length = p := e; omega)
    obtain ⟨_, l2, _⟩ := lt1 a3C
    have lC := q2.len
    obtain ⟨hD, r1, r2, r3⟩ := spec_WNum (q3.up (n1 := p) (by omega)) (by omega) es[i].n wd.1 (by simp only [List.length_append]; omega)
    have a3D : Cells hD h.blks.length 99 (entC es[i]) := a3C.mod r2 (fun e => by have : h.blks.length = p := e; omega)
    obtain ⟨_, _, l3⟩ := lt1 a3D
    have lD := r2.len
    obtain ⟨hE, s1, s2, s3⟩ := spec_WSet (r3.up (n1 := p) (by omega)) (by omega) es[i].t wd.2 (by simp only [List.length_append]; omega)
    have lE := s2.len
    have cv := fun h => cvI64 es[i].f h fd.1 fd.2
    have wi : IntKind.i64.wrap ((i : Int) + 1) = ((i + 1 : Nat) : Int) := by rw [wrap_i64] <;> omega
    have ht : es.take i ++ [es[i]] = es.take (i + 1) := by rw [List.take_succ, List.getElem?_eq_getElem hil]; rfl
    have hsn := encL_snoc (es.take i) es[i]
    rw [ht] at hsn
    have w2 : Wr p hE p (putL es.length ++ encL (es.take (i + 1))) := by
      have := s3.up (n1 := p) (by omega)
      rw [hsn]
      simpa [encE, List.append_assoc] using this
    have hb0 : ∀ b, b < h0.blks.length → Just p b → No b := fun b hb e => by have : b = p := e; omega
    have hin2 := (((hin.trans (In.dn (a4 No) hn)).trans (q2.inn (by omega) hb0)).trans (r2.inn (by omega) hb0)).trans (s2.inn (by omega) hb0)
    have ho2 := (((ho.trans (a5.to hph)).trans (q2.to (Nat.le_refl _) (by omega))).trans (r2.to (Nat.le_refl _) (by omega))).trans (s2.to (Nat.le_refl _) (by omega))
    rw [lK_eq]
    simp -implicitDefEqProofs (disch := omega) only [↓c33_1_eq, ↓c33_2_eq,Ad,As,Au,Av, dcT, e1, ldE, f1, Option.map_some, entA, a1, a2, faE0, faE1, faE2, ldI, ldU, ldS, l1, cv, q1, l2, r1, l3, s1, wi, ↓zAf, ↓zAb, ↓Option.bind_some, ↓zAa, zBd, zBm, zBl, zBe, zBn, zBk, zBi, zBf, zBj, zBq, zBp, Option.bind_some, Option.bind_none, Option.map_some, zAf, zAb, zAl, zAk, zBh, zAw, zAy, zAp, zBc, zAs, zBa, zAr, zBt, zBu, zBv, zBs, zAz, zAa, zAc, zAd, zAe, zAh, zAm, zAg, zAj, zAn, zAi, zAu, zAx, zAv, zBb, zAt, Bool.not_true, Bool.not_false, zCk, zCj, zCl, zCi, zCm, zAq, zAo, zBg, zBo, zBr, cond_true, cond_false, Nat.reduceBEq]
    refine ih (i + 1) (by omega) (by omega) _ hE hin2 ho2 w2 ?_ ?_ ?_ ?_
    · exact Ad
    · exact As
    · exact Au
    · rfl
def putE (es : List E3) : List UInt8 := if goodE es then logB es else []
theorem good_f {es : List E3} (h : goodE es = true) : ∀ e ∈ es, 0 ≤ e.f ∧ e.f < 16 ∧ 0 < e.n ∧ e.t < 65536 := fun e he => by
  have := ((zCx es).1 h).1 e he
  unfold mayE at this
  simpa [Bool.and_eq_true] using this
theorem spec_Put18 {h : Heap} {v : Value} {es : List E3} (s : SE h v es) (hw : wide es) (hl : es.length < 2 ^ 32) : ∃ a c h', evC Tryz.prog 33 #[.agg #[v]] h = some (.slice a (putE es).length c, h') ∧ HExt h h' ∧ AB h.blks.length h' (.slice a (putE es).length c) (putE es) := by
  rw [call33]
  have c1 := Cells.new (nm h) 51 [v]
  have s1 : SE ((nm h).new (.cells [v]) 51) v es := s.nm.keepNew _ _
  have k1 : In h.blks.length No (nm h) ((nm h).new (.cells [v]) 51) := In.new (h := nm h) (Nat.le_refl h.blks.length) _ _
  have e0 : (nm h).blks.length = h.blks.length := rfl
  have e1 : ((nm h).new (.cells [v]) 51).blks.length = h.blks.length + 1 := by simp [Heap.new]
  generalize hh : (nm h).new (.cells [v]) 51 = h1 at c1 s1 k1 e1
  rw [e0] at c1
  have lA : (h1.loadN h.blks.length 0 1).map (fun cs => Value.agg cs.toArray) = some (.agg #[v]) := by rw [c1.loadN (n := 1) rfl]; rfl
  obtain ⟨h2, q2,Ac⟩ := spec_Good s1 hw (by omega)
  have hx2 := Ac.len
  unfold putE
  cases hg : goodE es with
  | false =>
    rw [hg] at q2
    refine ⟨none, 0, _, ?_, zCf (k1.trans (Ac.inn (by omega))), Acc.done .nil⟩
    simp -implicitDefEqProofs (disch := omega) only [↓c33_0_eq, bxL, e0, hh, ldL, lA, q2, ↓ret33, ↓zAf, ↓zAb, ↓Option.bind_some, ↓zAa, zBd, zBm, zBl, zBe, zBn, zBk, zBi, zBf, zBj, zBq, zBp, Option.bind_some, Option.bind_none, Option.map_some, zAf, zAb, zAl, zAk, zBh, zAw, zAy, zAp, zBc, zAs, zBa, zAr, zBt, zBu, zBv, zBs, zAz, zAa, zAc, zAd, zAe, zAh, zAm, zAg, zAj, zAn, zAi, zAu, zAx, zAv, zBb, zAt, Bool.not_true, Bool.not_false, zCk, zCj, zCl, zCi, zCm, zAq, zAo, zBg, zBo, zBr, cond_true, cond_false, Nat.reduceBEq]
    rfl
  | true =>
    rw [hg] at q2
    have hf := good_f hg
    obtain ⟨h3, q3,Ad, w3, n3⟩ := spec_NewWriter h2
    have s3 := (s1.ext Ac).ext Ad
    have c3 := (c1.ext Ac).ext Ad
    have l3 : h3.load1 h.blks.length 0 = some v := c3.load 0
    have hx3 := Ad.len
    obtain ⟨a, c, rfl⟩ := s.shape
    have cv := fun h => cvI64 (es.length : Int) h (by omega) (by omega)
    obtain ⟨h4, q4,Ae, w4⟩ := spec_WNum w3 (by omega) es.length (by omega) (by simp)
    have hx4 := Ae.len
    have lo : Lo (.slice a es.length c) h2.blks.length := (s1.ext Ac).lo
    have o4 : Old h2.blks.length h3 h4 := Ae.to (Nat.le_refl _) (by omega)
    have s4 : SE h4 (.slice a es.length c) es := Sl.old s3 o4 lo
    have l4 : h4.load1 h.blks.length 0 = some (.slice a es.length c) := (c3.old o4 (by omega)).load 0
    have k4 := ((k1.trans (Ac.inn (by omega))).trans (Ad.inn (by omega))).trans (Ae.inn (by omega) (fun b hb e => by have : b = h2.blks.length := e; omega))
    have lp := put_loop18 (h0 := h) s4 lo hw (fun e he => ⟨(hf e he).1, by have := (hf e he).2.1; omega⟩) hl (by omega) (by omega) es.length 0 (by omega) (by omega)
    have fin' : ∀ {r : Option (Value × Heap)}, (∃ a c h', r = some (.slice a (logB es).length c, done h h') ∧ In h.blks.length No (nm h) h' ∧ AB h.blks.length h' (.slice a (logB es).length c) (logB es)) → ∃ a c h', r = some (.slice a (logB es).length c, h') ∧ HExt h h' ∧ AB h.blks.length h' (.slice a (logB es).length c) (logB es) := fun ⟨a, c, h', g1, g2, g3⟩ => ⟨a, c, _, g1, zCf g2, Acc.done g3⟩
    simp only [if_true]
    simp -implicitDefEqProofs (disch := omega) only [↓c33_0_eq, bxL, e0, hh, ldL, lA, q2, q3, faL, ldEs, l3, lnEs, cv, q4, l4, ↓zAf, ↓zAb, ↓Option.bind_some, ↓zAa, zBd, zBm, zBl, zBe, zBn, zBk, zBi, zBf, zBj, zBq, zBp, Option.bind_some, Option.bind_none, Option.map_some, zAf, zAb, zAl, zAk, zBh, zAw, zAy, zAp, zBc, zAs, zBa, zAr, zBt, zBu, zBv, zBs, zAz, zAa, zAc, zAd, zAe, zAh, zAm, zAg, zAj, zAn, zAi, zAu, zAx, zAv, zBb, zAt, Bool.not_true, Bool.not_false, zCk, zCj, zCl, zCi, zCm, zAq, zAo, zBg, zBo, zBr, cond_true, cond_false, Nat.reduceBEq]
    refine fin' (lp _ _ k4 (Old.refl _ _) ?_ ?_ ?_ ?_ ?_)
    · rw [List.take_zero, show encL [] = [] from rfl, List.append_nil, ← List.nil_append (putL es.length)]; exact w4.up (by omega)
    all_goals rfl
end Go.Am
namespace Go.Am
theorem chk_ne {β : Type} {r m : List Nat} (h : ∀ b ∈ r, ∀ x ∈ m, b ≠ x) (x : Option β) : chk r m x = x := by
  have : (r.all fun b => !m.contains b) = true := by
    rw [List.all_eq_true]
    intro b hb
    rw [Bool.not_eq_true', ← Bool.not_eq_true, List.contains_iff_mem]
    exact fun hm => h b hb b hm rfl
  unfold chk; rw [this]
theorem HMod.mods_nm {S : Nat → Prop} {h h' : Heap} (e : HMod S (Am.nm h) h') : ∀ m ∈ h'.mods, S m := by
  obtain ⟨d, e1, e2⟩ := e.mods
  intro m hm
  rw [e1] at hm
  rcases List.mem_append.1 hm with hm | hm
  · exact (e2 m hm).1
  · cases hm
theorem HMod.amx {S : Nat → Prop} {h h' : Heap} (e : HMod S (Am.nm h) h') : HMod S h (Am.am h' h) := by
  obtain ⟨d, e1, e2⟩ := e.mods
  refine ⟨e.len, e.old, d, ?_, e2⟩
  show h'.mods ++ h.mods = d ++ h.mods
  rw [e1]; simp
theorem rb_ptr (b o : Nat) : rb (.pointer (some ⟨b, o, Option.none⟩)) = [b] := rfl
end Go.Am
namespace Go.Am
theorem same_np (h : Heap) (b c : Body) (ty : TypeId) : Same h ((h.new b ty).put h.blks.length c) := by
  refine ⟨by rw [Heap.put_len]; simp [Heap.new], fun i hi => ?_⟩
  rw [Heap.put_other (by omega), Heap.new_old hi]
def rdE (most : Nat) (r : Option (List UInt8)) : E3 × Option (List UInt8) :=
  (⟨(numP r most).1, (numP (numP r most).2 (2 ^ 64 - 1)).1, (numP (numP (numP r most).2 (2 ^ 64 - 1)).2 65535).1⟩, (numP (numP (numP r most).2 (2 ^ 64 - 1)).2 65535).2)
def rdN : Nat → Option (List UInt8) → List E3 × Option (List UInt8)
  | 0, r => ([], r)
  | n + 1, r => ((rdE 16 r).1 :: (rdN n (rdE 16 r).2).1, (rdN n (rdE 16 r).2).2)
def rdR : Nat → Option (List UInt8) → List E3 × Option (List UInt8)
  | 0, r => ([], r)
  | _ + 1, none => ([], none)
  | n + 1, some bs => ((rdE 15 (some bs)).1 :: (rdR n (rdE 15 (some bs)).2).1, (rdR n (rdE 15 (some bs)).2).2)
def logOf (x : List E3 × Option (List UInt8)) : Option (List E3) := if endP x.2 = true ∧ goodE x.1 = true then some x.1 else none
def getP (bs : List UInt8) : Option (List E3) := logOf (rdN (numP (some bs) bs.length).1 (numP (some bs) bs.length).2)
def getR (bs : List UInt8) : Option (List E3) := logOf (rdR (numP (some bs) (2 ^ 32)).1 (numP (some bs) (2 ^ 32)).2)
theorem numP_some {r : Option (List UInt8)} {m : Nat} {q : List UInt8} (h : (numP r m).2 = some q) : ∃ bs, r = some bs ∧ (numP r m).1 ≤ m ∧ q.length < bs.length ∧ ∀ m', (numP r m).1 ≤ m' → numP r m' = numP r m := by
  cases r with
  | none => cases h
  | some bs =>
    simp only [numP] at h ⊢
    split at h
    · cases h
    · rename_i hc
      have h1 : ¬ (getL bs).2 = 0 := fun e => hc (.inl e)
      have h2 : ¬ m < (getL bs).1 := fun e => hc (.inr e)
      rw [if_neg hc]
      simp only [Option.some.injEq] at h
      refine ⟨bs, rfl, by simpa using h2, ?_, fun m' hm' => ?_⟩
      · rw [← h, List.length_drop]
        have := getL_len bs
        omega
      · simp only at hm'
        rw [if_neg (by omega)]
theorem rdE_some {m : Nat} {r : Option (List UInt8)} {q : List UInt8} (h : (rdE m r).2 = some q) : ∃ bs, r = some bs ∧ q.length < bs.length ∧ (rdE m r).1.f ≤ m ∧ ∀ m' : Nat, (rdE m r).1.f ≤ m' → rdE m' r = rdE m r := by
  unfold rdE at h ⊢
  simp only at h ⊢
  obtain ⟨q2, h2, _, l2, _⟩ := numP_some h
  obtain ⟨q1, h1, _, l1, _⟩ := numP_some h2
  obtain ⟨bs, h0, b0, l0, e0⟩ := numP_some h1
  refine ⟨bs, h0, by omega, by omega, fun m' hm' => ?_⟩
  rw [e0 m' (by omega)]
theorem rdN_none (n : Nat) : (rdN n none).2 = none := by
  induction n with
  | zero => rfl
  | succ n ih => simp only [rdN]; exact ih
theorem rdN_some {n : Nat} {r : Option (List UInt8)} {q : List UInt8} (h : (rdN n r).2 = some q) : ∃ bs, r = some bs := by
  cases r with
  | none => rw [rdN_none] at h; cases h
  | some bs => exact ⟨bs, rfl⟩
theorem rdR_some : ∀ {n : Nat} {r : Option (List UInt8)} {q : List UInt8}, (rdR n r).2 = some q → ∃ bs, r = some bs ∧ q.length + n ≤ bs.length
  | 0, r, q, h => ⟨q, h, by omega⟩
  | n + 1, none, q, h => by cases h
  | n + 1, some bs, q, h => by
    simp only [rdR] at h
    obtain ⟨b1, h1, l1⟩ := rdR_some h
    obtain ⟨b0, h0, l0, _⟩ := rdE_some h1
    cases h0
    exact ⟨bs, rfl, by omega⟩
theorem good_tail {e : E3} {l : List E3} (h : goodE (e :: l) = true) : goodE l = true ∧ e.f < 16 := by
  rw [zCx] at h ⊢
  refine ⟨⟨fun x hx => h.1 x (by simp [hx]), (List.pairwise_cons.1 h.2).2⟩, ?_⟩
  have := h.1 e (by simp)
  unfold mayE at this
  simp only [Bool.and_eq_true, decide_eq_true_eq] at this
  exact this.2.1
theorem rd_same1 : ∀ (n : Nat) (r : Option (List UInt8)) (q : List UInt8), (rdN n r).2 = some q → goodE (rdN n r).1 = true → rdR n r = rdN n r
  | 0, r, q, _, _ => rfl
  | n + 1, r, q, h, hg => by
    simp only [rdN] at h hg
    obtain ⟨b1, h1⟩ := rdN_some h
    obtain ⟨b0, h0, _, _, e0⟩ := rdE_some h1
    subst h0
    obtain ⟨g1, g2⟩ := good_tail hg
    have he := e0 15 (by omega)
    simp only [rdR, rdN, he]
    rw [rd_same1 n _ q h g1]
theorem rd_same2 : ∀ (n : Nat) (r : Option (List UInt8)) (q : List UInt8), (rdR n r).2 = some q → rdN n r = rdR n r
  | 0, r, q, _ => rfl
  | n + 1, none, q, h => by cases h
  | n + 1, some bs, q, h => by
    simp only [rdR] at h
    obtain ⟨b1, h1, _⟩ := rdR_some h
    obtain ⟨b0, h0, _, f0, e0⟩ := rdE_some h1
    have he := e0 16 (by omega)
    simp only [rdR, rdN, he]
    rw [rd_same2 n _ q h]
theorem endP_some {r : Option (List UInt8)} (h : endP r = true) : r = some [] := by
  cases r with
  | none => cases h
  | some l => cases l with
    | nil => rfl
    | cons a l => cases h
theorem logOf_none {x : List E3 × Option (List UInt8)} (h : x.2 = none) : logOf x = none := by
  unfold logOf; rw [h]; rfl
theorem get_same (bs : List UInt8) (hl : bs.length < 2 ^ 31) : getP bs = getR bs := by
  have same : ∀ n r, logOf (rdN n r) = logOf (rdR n r) := fun n r => by
    by_cases h1 : endP (rdN n r).2 = true ∧ goodE (rdN n r).1 = true
    · rw [rd_same1 n r [] (endP_some h1.1) h1.2]
    · by_cases h2 : endP (rdR n r).2 = true ∧ goodE (rdR n r).1 = true
      · rw [rd_same2 n r [] (endP_some h2.1)]
      · unfold logOf; rw [if_neg h1, if_neg h2]
  unfold getP getR
  by_cases hb : (getL bs).2 = 0
  · simp only [numP, hb, true_or, if_true]
    rw [same]
  · by_cases h1 : bs.length < (getL bs).1
    · have e1 : numP (some bs) bs.length = (0, none) := by simp only [numP]; rw [if_pos (.inr h1)]
      rw [e1]
      rw [logOf_none (rdN_none 0)]
      by_cases h2 : 2 ^ 32 < (getL bs).1
      · have e2 : numP (some bs) (2 ^ 32) = (0, none) := by simp only [numP]; rw [if_pos (.inr h2)]
        rw [e2]; rfl
      · have e2 : numP (some bs) (2 ^ 32) = ((getL bs).1, some (bs.drop (getL bs).2)) := by simp only [numP]; rw [if_neg (by omega)]
        rw [e2]
        unfold logOf
        rw [if_neg]
        rintro ⟨h3, _⟩
        obtain ⟨b, h4, h5⟩ := rdR_some (endP_some h3)
        cases h4
        rw [List.length_drop] at h5
        omega
    · have e1 : numP (some bs) bs.length = ((getL bs).1, some (bs.drop (getL bs).2)) := by simp only [numP]; rw [if_neg (by omega)]
      have e2 : numP (some bs) (2 ^ 32) = ((getL bs).1, some (bs.drop (getL bs).2)) := by simp only [numP]; rw [if_neg (by omega)]
      rw [e1, e2, same]
theorem rdE_enc (e : E3) (h0 : 0 ≤ e.f) (h1 : e.f < 16) (h2 : e.n < 2 ^ 64) (h3 : e.t < 65536) (rest : List UInt8) : rdE 16 (some (encE e ++ rest)) = (e, some rest) := by
  unfold rdE encE
  simp only [List.append_assoc]
  rw [numP_putL e.f.toNat (by omega) _ 16 (by omega)]
  simp only []
  rw [numP_putL e.n h2 _ (2 ^ 64 - 1) (by omega)]
  simp only []
  rw [numP_putL e.t (by omega) _ 65535 (by omega)]
  simp only [Int.toNat_of_nonneg h0]
theorem rdN_enc : ∀ (es : List E3) (rest : List UInt8), (∀ e ∈ es, 0 ≤ e.f ∧ e.f < 16 ∧ 0 < e.n ∧ e.t < 65536) → wide es → rdN es.length (some (encL es ++ rest)) = (es, some rest)
  | [], rest, _, _ => rfl
  | e :: es, rest, h, w => by
    have h0 := h e (by simp)
    have e1 : encL (e :: es) ++ rest = encE e ++ (encL es ++ rest) := by simp [encL]
    simp only [List.length_cons, rdN]
    rw [e1, rdE_enc e h0.1 h0.2.1 (w e (by simp)).1 h0.2.2.2, rdN_enc es rest (fun x hx => h x (by simp [hx])) (fun x hx => w x (by simp [hx]))]
theorem encL_ge : ∀ es : List E3, es.length ≤ (encL es).length
  | [] => Nat.le_refl _
  | e :: es => by
    have := encL_ge es
    have h1 : 1 ≤ (encE e).length := by
      have h1 := putL_pos e.n
      simp only [encE, List.length_append]; omega
    simp only [encL, List.map_cons, List.flatten_cons, List.length_append, List.length_cons] at this ⊢
    omega
theorem get_put {es : List E3} (hg : goodE es = true) (w : wide es) (hl : es.length < 2 ^ 64) : getP (logB es) = some es := by
  unfold getP logB
  have h1 := encL_ge es
  have e1 := numP_putL es.length hl (encL es) (putL es.length ++ encL es).length (by rw [List.length_append]; omega)
  rw [e1]
  simp only []
  have e2 := rdN_enc es [] (good_f hg) w
  rw [List.append_nil] at e2
  rw [e2]
  unfold logOf
  rw [if_pos ⟨rfl, hg⟩]
theorem rdN_len : ∀ (n : Nat) (r : Option (List UInt8)), (rdN n r).1.length = n
  | 0, _ => rfl
  | n + 1, r => by simp only [rdN, List.length_cons, rdN_len n]
theorem rdE_wide (m : Nat) (r : Option (List UInt8)) : (rdE m r).1.n < 2 ^ 64 ∧ (rdE m r).1.t < 2 ^ 64 := ⟨(numP_le _ _).2.1, (numP_le _ _).2.1⟩
theorem rdN_wide : ∀ (n : Nat) (r : Option (List UInt8)), wide (rdN n r).1
  | 0, _ => fun e he => (List.not_mem_nil he).elim
  | n + 1, r => fun e he => by
    simp only [rdN] at he
    rcases List.mem_cons.1 he with rfl | he
    · exact rdE_wide 16 r
    · exact rdN_wide n _ e he
theorem getP_len (bs : List UInt8) : ((getP bs).getD []).length ≤ bs.length := by
  unfold getP logOf
  have n1 := (numP_le (some bs) bs.length).1
  split
  · rw [Option.getD_some, rdN_len]; exact n1
  · exact Nat.zero_le _
end Go.Am
namespace Go.Am
open Go.Proofs
set_option maxRecDepth 100000
set_option linter.all false
attribute [local congr] zCc zCn zCp zCo zCg zCd
theorem stEs (p : Nat) (a : Option Addr) (n c : Nat) (h : Heap) : storeV Tryz.prog 49 (.pointer (some ⟨p, 0, none⟩)) (.slice a n c) h = h.storeN p 0 [.slice a n c] := by kernel_rfl
theorem bdL0 : buildV Tryz.prog 51 #[] = some (.agg #[.slice none 0 0]) := by kernel_rfl
theorem lnB8 (a : Option Addr) (n c : Nat) (h : Heap) : lenV Tryz.prog 35 (.slice a n c) h = some (.int .i64 n) := by kernel_rfl
theorem setP_num (r : Option (List UInt8)) : setP r (allN 16) = numP r 65535 := by
  cases r with
  | none => rfl
  | some bs =>
    have h := getL_lt bs
    have o := out16 (getL bs).1 h
    simp only [setP, numP]
    have : (outB (getL bs).1 (allN 16) ≠ 0) ↔ 65535 < (getL bs).1 := by
      have := decide_eq_decide.1 o
      constructor
      · intro h1; refine Classical.byContradiction fun h2 => h1 (this.2 (by omega))
      · intro h1 h2; have := this.1 h2; omega
    simp only [this]
theorem RdrL.old {L k : Nat} {h h' : Heap} {p : Nat} {r : Option (List UInt8)} (w : RdrL L h p r) (o : Old k h h') (hp : p < k) : RdrL L h' p r :=
  let ⟨a, c, x, y, z⟩ := w
  ⟨a, c, x.old o hp, y.old o fun b hb => by have := (z b hb).2; omega, z⟩
theorem amSame (h' h : Heap) : Same h' (am h' h) := ⟨Nat.le_refl _, fun _ _ => rfl⟩
theorem get_loop18 {h0 h1 : Heap} {p0 p p2 : Nat} (hn : h0.blks.length ≤ p0) (hp : p0 < p) (hp2 : p < p2) (hp3 : p2 < h1.blks.length) :
    ∀ (n : Nat) (r : Option (List UInt8)) (acc : List E3), (rbs r).length < 2 ^ 30 → acc.length + n < 2 ^ 32 → wide acc → ∀ (x : Nat → Value) (h : Heap) (a : Option Addr) (c : Nat),In h0.blks.length No (nm h0) h → h1.blks.length ≤ h.blks.length → Cells h p0 51 [.slice none 0 0] → Rdr h p r → Cells h p2 51 [.slice a acc.length c] → AE h1.blks.length h (.slice a acc.length c) acc →
    x 2 = .pointer (some ⟨p0, 0, none⟩) → x 4 = .pointer (some ⟨p, 0, none⟩) → x 5 = .pointer (some ⟨p2, 0, none⟩) → x 6 = .int .u64 n →
    ∃ a' c' h', lK c29_1 42 x h (zCr 0 (sK c29_2 (zCw Tryz.f29 Tryz.prog h0))) = some (.tuple #[.agg #[.slice a' ((logOf (acc ++ (rdN n r).1, (rdN n r).2)).getD []).length c'], .bool (logOf (acc ++ (rdN n r).1, (rdN n r).2)).isSome], done h0 h') ∧ In h0.blks.length No (nm h0) h' ∧ AE h1.blks.length h' (.slice a' ((logOf (acc ++ (rdN n r).1, (rdN n r).2)).getD []).length c') ((logOf (acc ++ (rdN n r).1, (rdN n r).2)).getD []) := by
  intro n
  induction n with
  | zero =>
    intro r acc hr hl hw x h a c hin hlen c0 w c2 ha Ac Ae Af Ag
    have e1 := spec_REnd w
    simp only [rdN, List.append_nil]
    rw [lK_eq]
    have hz : ((0 : Nat) : Int) = 0 := rfl
    have bad : ∀ {h2 : Heap}, Old h1.blks.length h h2 → In h0.blks.length No (nm h0) h2 → ∃ h3, storeV Tryz.prog 51 (.pointer (some ⟨p0, 0, none⟩)) (.agg #[.slice none 0 0]) h2 = some h3 ∧ (h3.loadN p0 0 1).map (fun cs => Value.agg cs.toArray) = some (.agg #[.slice none 0 0]) ∧ In h0.blks.length No (nm h0) h3 := fun {h2} o k => by
      have d := c0.old o (by omega)
      have d2 := d.put [.slice none 0 0]
      refine ⟨h2.put p0 (.cells [.slice none 0 0]), ?_, ?_, k.trans (In.put (Nat.le_trans k.le k.len) (.inl hn) _)⟩
      · rw [stL, zCh d (by simp)]; rfl
      · rw [d2.loadN (n := 1) rfl]; rfl
    cases hE : endP r with
    | false =>
      rw [hE] at e1
      obtain ⟨h3, g1, g2, g3⟩ := bad (Old.refl _ h) hin
      have hlo : logOf (acc, r) = none := by unfold logOf; rw [if_neg (by simp [hE])]
      rw [hlo]
      refine ⟨none, 0, h3, ?_, g3, AE.nil _ _⟩
      simp -implicitDefEqProofs (disch := omega) only [↓c29_1_eq, ↓c29_2_eq,Ac,Ae,Af,Ag, hz, dcF, e1, bdL0, g1, ldL, g2, Option.bind_some, rvals, ↓ret29, ↓zAf, ↓zAb, ↓Option.bind_some, ↓zAa, zBd, zBm, zBl, zBe, zBn, zBk, zBi, zBf, zBj, zBq, zBp, Option.bind_some, Option.bind_none, Option.map_some, zAf, zAb, zAl, zAk, zBh, zAw, zAy, zAp, zBc, zAs, zBa, zAr, zBt, zBu, zBv, zBs, zAz, zAa, zAc, zAd, zAe, zAh, zAm, zAg, zAj, zAn, zAi, zAu, zAx, zAv, zBb, zAt, Bool.not_true, Bool.not_false, zCk, zCj, zCl, zCi, zCm, zAq, zAo, zBg, zBo, zBr, cond_true, cond_false, Nat.reduceBEq]
      rfl
    | true =>
      rw [hE] at e1
      obtain ⟨h2, q2, y2⟩ := spec_Good ha.se hw (by omega)
      have lA : (h.loadN p2 0 1).map (fun cs => Value.agg cs.toArray) = some (.agg #[.slice a acc.length c]) := by rw [c2.loadN (n := 1) rfl]; rfl
      have k2 := hin.trans (y2.inn (Nat.le_trans hin.le hin.len))
      have o2 : Old h1.blks.length h h2 := y2.same.to hlen
      cases hg : goodE acc with
      | false =>
        rw [hg] at q2
        obtain ⟨h3, g1, g2, g3⟩ := bad o2 k2
        have hlo : logOf (acc, r) = none := by unfold logOf; rw [if_neg (by simp [hg])]
        rw [hlo]
        refine ⟨none, 0, h3, ?_, g3, AE.nil _ _⟩
        simp -implicitDefEqProofs (disch := omega) only [↓c29_1_eq, ↓c29_2_eq,Ac,Ae,Af,Ag, hz, dcF, e1, ldL, lA, q2, bdL0, g1, g2, Option.bind_some, rvals, ↓ret29, ↓zAf, ↓zAb, ↓Option.bind_some, ↓zAa, zBd, zBm, zBl, zBe, zBn, zBk, zBi, zBf, zBj, zBq, zBp, Option.bind_some, Option.bind_none, Option.map_some, zAf, zAb, zAl, zAk, zBh, zAw, zAy, zAp, zBc, zAs, zBa, zAr, zBt, zBu, zBv, zBs, zAz, zAa, zAc, zAd, zAe, zAh, zAm, zAg, zAj, zAn, zAi, zAu, zAx, zAv, zBb, zAt, Bool.not_true, Bool.not_false, zCk, zCj, zCl, zCi, zCm, zAq, zAo, zBg, zBo, zBr, cond_true, cond_false, Nat.reduceBEq]
        rfl
      | true =>
        rw [hg] at q2
        have hlo : logOf (acc, r) = some acc := by unfold logOf; rw [if_pos ⟨hE, hg⟩]
        rw [hlo]
        have d := c0.old o2 (by omega)
        have d2 := d.put [.slice a acc.length c]
        have lB : (h2.loadN p2 0 1).map (fun cs => Value.agg cs.toArray) = some (.agg #[.slice a acc.length c]) := by rw [(c2.old o2 hp3).loadN (n := 1) rfl]; rfl
        have lD : (Heap.loadN (h2.put p0 (.cells [.slice a acc.length c])) p0 0 1).map (fun cs => Value.agg cs.toArray) = some (.agg #[.slice a acc.length c]) := by rw [d2.loadN (n := 1) rfl]; rfl
        refine ⟨a, c, h2.put p0 (.cells [.slice a acc.length c]), ?_, k2.trans (In.put (Nat.le_trans k2.le k2.len) (.inl hn) _), (ha.same y2.same).keepPut (fun e => by have := ha.ge e; omega) _⟩
        simp -implicitDefEqProofs (disch := omega) only [↓c29_1_eq, ↓c29_2_eq,Ac,Ae,Af,Ag, hz, dcF, e1, ldL, lA, q2, lB, stL, zCh d (o := 0) (vs := [.slice a acc.length c]) (by simp), List.take_zero, List.nil_append, List.append_nil, List.length_cons, List.length_nil, List.drop_succ_cons, List.drop_zero, Nat.zero_add, lD, Option.bind_some, rvals, Option.getD_some, Option.isSome_some, ↓ret29, ↓zAf, ↓zAb, ↓Option.bind_some, ↓zAa, zBd, zBm, zBl, zBe, zBn, zBk, zBi, zBf, zBj, zBq, zBp, Option.bind_some, Option.bind_none, Option.map_some, zAf, zAb, zAl, zAk, zBh, zAw, zAy, zAp, zBc, zAs, zBa, zAr, zBt, zBu, zBv, zBs, zAz, zAa, zAc, zAd, zAe, zAh, zAm, zAg, zAj, zAn, zAi, zAu, zAx, zAv, zBb, zAt, Bool.not_true, Bool.not_false, zCk, zCj, zCl, zCi, zCm, zAq, zAo, zBg, zBo, zBr, cond_true, cond_false, Nat.reduceBEq]
  | succ n ih =>
    intro r acc hr hl hw x h a c hin hlen c0 w c2 ha Ac Ae Af Ag
    have l2 : h.load1 p2 0 = some (.slice a acc.length c) := c2.load 0
    have n1 := numP_le r 16
    obtain ⟨hA, q1, y1, w1⟩ := spec_RNum w.nm 16 (by omega) (by omega)
    have m1 := y1.mods_nm
    have z1 := y1.amx
    have w1' := w1.same (amSame hA h)
    have n2 := numP_le (numP r 16).2 (2 ^ 64 - 1)
    obtain ⟨hB, q2, y2, w2⟩ := spec_RNum (h := nm (am hA h)) w1'.nm (2 ^ 64 - 1) (by omega) (by omega)
    have m2 := y2.mods_nm
    have z2 := y2.amx
    have w2' := w2.same (amSame hB (am hA h))
    have q3 := spec_All 16 (by omega) (nm (am hB (am hA h)))
    have n3 := numP_le (numP (numP r 16).2 (2 ^ 64 - 1)).2 65535
    obtain ⟨hC, q4, y4, w4⟩ := spec_RSet (h := nm (am hB (am hA h))) w2'.nm (allN 16) (by unfold allN; omega) (by omega)
    rw [setP_num] at q4 w4
    have m4 := y4.mods_nm
    have z4 := y4.amx
    have w4' := w4.same (amSame hC (am hB (am hA h)))
    have zz : HMod (Just p) h (am hC (am hB (am hA h))) := by
      refine ⟨Nat.le_trans (Nat.le_trans z1.len z2.len) z4.len, fun b hb hs => ((z4.old b (Nat.lt_of_lt_of_le hb (Nat.le_trans z1.len z2.len)) hs).trans (z2.old b (Nat.lt_of_lt_of_le hb z1.len) hs)).trans (z1.old b hb hs), ?_⟩
      obtain ⟨d1, g1, k1⟩ := z1.mods
      obtain ⟨d2, g2, k2⟩ := z2.mods
      obtain ⟨d3, g3, k3⟩ := z4.mods
      have hph := w.lt
      refine ⟨d3 ++ (d2 ++ d1), by rw [g3, g2, g1]; simp, fun m hm => ?_⟩
      have : Just p m := by
        rcases List.mem_append.1 hm with hm | hm
        · exact (k3 m hm).1
        · rcases List.mem_append.1 hm with hm | hm
          · exact (k2 m hm).1
          · exact (k1 m hm).1
      exact ⟨this, by have : m = p := this; omega⟩
    have cvv := fun h => cvU64 ((numP r 16).1 : Int) h (by omega) (by omega)
    have nb : ∀ b, Just p b → b < h0.blks.length → False := fun b e hb => by have : b = p := e; omega
    have hE : (rdE 16 r).1 = ⟨(numP r 16).1, (numP (numP r 16).2 (2 ^ 64 - 1)).1, (numP (numP (numP r 16).2 (2 ^ 64 - 1)).2 65535).1⟩ := rfl
    have kX := hin.trans (zz.inn (Nat.le_trans hin.le hin.len) fun b hb e => (nb b e hb).elim)
    have haX : AE h1.blks.length (am hC (am hB (am hA h))) (.slice a acc.length c) acc := ha.mod zz fun b hb e => by have := ha.ge hb; have : b = p := e; omega
    have cX2 := c2.mod zz (fun e => by have : p2 = p := e; omega)
    have cX0 := c0.mod zz (fun e => by have : p0 = p := e; omega)
    have lX := zz.len
    generalize hX : am hC (am hB (am hA h)) = hx at kX haX cX2 cX0 lX w4'
    obtain ⟨a', c', hD, g1, g2, g3, g4⟩ := app_ent etE (n0 := h1.blks.length) (by omega) haX (rdE 16 r).1 (by omega)
    have bs := bsE (rdE 16 r).1 hx
    rw [hE] at g1 bs
    have oD : Old h1.blks.length hx hD := ⟨g3.len, fun q hq => g4 q (by omega) (Acc.off haX (Nat.le_refl _) hq)⟩
    have dD2 := cX2.old oD hp3
    have dD0 := cX0.old oD (by omega)
    have wD := w4'.old oD (by omega)
    have cF := dD2.put [.slice a' (acc ++ [(rdE 16 r).1]).length c']
    have cF0 : Cells (hD.put p2 (.cells [.slice a' (acc ++ [(rdE 16 r).1]).length c'])) p0 51 [.slice none 0 0] := dD0.keepPut (by omega) _
    have wF := RdrL.keepPut wD hp2 (.cells [.slice a' (acc ++ [(rdE 16 r).1]).length c'])
    have aF : AE h1.blks.length (hD.put p2 (.cells [.slice a' (acc ++ [(rdE 16 r).1]).length c'])) (.slice a' (acc ++ [(rdE 16 r).1]).length c') (acc ++ [(rdE 16 r).1]) := Acc.keepPut g2 (fun e => by have := Acc.ge g2 e; omega) _
    have kD := kX.trans (Keeps.inn (S := No) (g3.dn (by omega)))
    have kF := kD.trans (In.put (S := No) (Nat.le_trans kD.le kD.len) (p := p2) (.inl (by omega)) (.cells [.slice a' (acc ++ [(rdE 16 r).1]).length c']))
    have hst := zCh dD2 (o := 0) (vs := [.slice a' (acc ++ [(rdE 16 r).1]).length c']) (by simp)
    simp only [List.take_zero, List.nil_append, List.append_nil, List.length_cons, List.length_nil, List.drop_succ_cons, List.drop_zero, Nat.zero_add] at hst
    rw [hE] at hst
    have hlF : (hD.put p2 (.cells [.slice a' (acc ++ [(rdE 16 r).1]).length c'])).blks.length = hD.blks.length := Heap.put_len _ _ _
    have lD := g3.len
    have dn : decide (((n + 1 : Nat) : Int) > 0) = true := decide_eq_true (by omega)
    have wn : IntKind.u64.wrap (((n + 1 : Nat) : Int) - 1) = ((n : Nat) : Int) := by rw [wrap_u64] <;> omega
    have hrw : acc ++ (rdN (n + 1) r).1 = (acc ++ [(rdE 16 r).1]) ++ (rdN n (rdE 16 r).2).1 := by simp [rdN]
    have hr2 : (rdN (n + 1) r).2 = (rdN n (rdE 16 r).2).2 := rfl
    rw [show ((16 : Nat) : Int) = 16 from rfl] at q1 q3
    rw [show ((2 ^ 64 - 1 : Nat) : Int) = 18446744073709551615 from rfl] at q2
    have mall : ∀ b ∈ [p2], ∀ x ∈ hC.mods ++ (hB.mods ++ hA.mods), b ≠ x := fun b hb x hx e => by
      rw [List.mem_singleton] at hb
      have : Just p x := by
        rcases List.mem_append.1 hx with hx | hx
        · exact m4 x hx
        · rcases List.mem_append.1 hx with hx | hx
          · exact m2 x hx
          · exact m1 x hx
      have : x = p := this
      omega
    rw [lK_eq, hrw, hr2]
    simp -implicitDefEqProofs (disch := omega) only [↓c29_1_eq, ↓c29_2_eq,Ac,Ae,Af,Ag, dn, faL, ldEs, l2, q1, cvv, q2, q3, am_nm, nm_mods, List.nil_append, q4, hX, bdE3, show ([.int .i64 ((numP r 16).1 : Int), .int .u64 ((numP (numP r 16).2 (2 ^ 64 - 1)).1 : Int), .int .u64 ((numP (numP (numP r 16).2 (2 ^ 64 - 1)).2 65535).1 : Int)] : List Value) = entC ⟨(numP r 16).1, (numP (numP r 16).2 (2 ^ 64 - 1)).1, (numP (numP (numP r 16).2 (2 ^ 64 - 1)).2 65535).1⟩ from rfl, entA, bs, g1, stEs, hst, rb_ptr, List.append_nil, wn, ↓zAf, ↓zAb, ↓Option.bind_some, ↓zAa, zBd, zBm, zBl, zBe, zBn, zBk, zBi, zBf, zBj, zBq, zBp, Option.bind_some, Option.bind_none, Option.map_some, zAf, zAb, zAl, zAk, zBh, zAw, zAy, zAp, zBc, zAs, zBa, zAr, zBt, zBu, zBv, zBs, zAz, zAa, zAc, zAd, zAe, zAh, zAm, zAg, zAj, zAn, zAi, zAu, zAx, zAv, zBb, zAt, Bool.not_true, Bool.not_false, zCk, zCj, zCl, zCi, zCm, zAq, zAo, zBg, zBo, zBr, cond_true, cond_false, Nat.reduceBEq]
    rw [chk_ne mall]
    refine ih (rdE 16 r).2 _ ?_ ?_ ?_ _ _ a' c' kF (by rw [Heap.put_len]; omega) cF0 wF cF aF ?_ ?_ ?_ ?_
    · unfold rdE; simp only; omega
    · rw [List.length_append, List.length_singleton]; omega
    · intro e he
      rcases List.mem_append.1 he with he | he
      · exact hw e he
      · rw [List.mem_singleton] at he; subst he; exact rdE_wide 16 r
    · exact Ac
    · exact Ae
    · exact Af
    · rfl
end Go.Am
namespace Go.Am
open Go.Proofs
set_option maxRecDepth 100000
set_option linter.all false
attribute [local congr] zCc zCn zCp zCo zCg zCd
theorem spec_Get18 {h : Heap} {v : Value} {bs : List UInt8} (s : SB h v bs) (hl : bs.length < 2 ^ 30) : ∃ a c h', evC Tryz.prog 29 #[v] h = some (.tuple #[.agg #[.slice a ((getP bs).getD []).length c], .bool (getP bs).isSome], h') ∧ HExt h h' ∧ AE h.blks.length h' (.slice a ((getP bs).getD []).length c) ((getP bs).getD []) := by
  rw [call29]
  have c1 := Cells.new (nm h) 51 [.slice none 0 0]
  have s1 : SB ((nm h).new (.cells [.slice none 0 0]) 51) v bs := s.nm.keepNew _ _
  have k1 : In h.blks.length No (nm h) ((nm h).new (.cells [.slice none 0 0]) 51) := In.new (h := nm h) (Nat.le_refl h.blks.length) _ _
  have e0 : (nm h).blks.length = h.blks.length := rfl
  have e1 : ((nm h).new (.cells [.slice none 0 0]) 51).blks.length = h.blks.length + 1 := by simp [Heap.new]
  generalize hh : (nm h).new (.cells [.slice none 0 0]) 51 = h1 at c1 s1 k1 e1
  rw [e0] at c1
  obtain ⟨h2, p, q2,Ac, w2, hp⟩ := spec_NewReader s1 (by omega)
  have hx2 := Ac.len
  have c2 := c1.ext Ac
  have k2 := k1.trans (Ac.inn (by omega))
  have c3 := c2.keepNew (.cells [.slice none 0 0]) 51
  have w3 := w2.same (Same.new h2 (.cells [.slice none 0 0]) 51)
  have k3 := k2.trans (In.new (S := No) (by omega) (.cells [.slice none 0 0]) 51)
  have d3 := Cells.new h2 51 [.slice none 0 0]
  have hp2 := w2.lt
  have n3 : (h2.new (.cells [.slice none 0 0]) 51).blks.length = h2.blks.length + 1 := by simp [Heap.new]
  generalize hh3 : h2.new (.cells [.slice none 0 0]) 51 = h3 at c3 w3 k3 d3 n3
  obtain ⟨va, vc, rfl⟩ := s.shape
  have n1 := numP_le (some bs) bs.length
  have hrb : (rbs (some bs)).length = bs.length := rfl
  rw [hrb] at n1
  obtain ⟨h4, q4, y4, w4⟩ := spec_RNum w3 bs.length (by omega) (by rw [hrb]; omega)
  have cv := fun h => cvI64 (bs.length : Int) h (by omega) (by omega)
  have k4 := k3.trans (y4.inn (by omega) (fun b hb e => by have : b = p := e; omega))
  have hy4 := y4.len
  have c4 := c3.mod y4 (fun e => by have : h.blks.length = p := e; omega)
  have d4 := d3.mod y4 (fun e => by have : h2.blks.length = p := e; omega)
  have lp := get_loop18 (h0 := h) (h1 := h4) (p0 := h.blks.length) (p := p) (p2 := h2.blks.length) (by omega) (by omega) (by omega) (by omega) (numP (some bs) bs.length).1 (numP (some bs) bs.length).2 [] (by omega) (by simp; omega) (fun e he => (List.not_mem_nil he).elim)
  have fin' : ∀ {r : Option (Value × Heap)}, (∃ a c h', r = some (.tuple #[.agg #[.slice a ((getP bs).getD []).length c], .bool (getP bs).isSome], done h h') ∧ In h.blks.length No (nm h) h' ∧ AE h4.blks.length h' (.slice a ((getP bs).getD []).length c) ((getP bs).getD [])) → ∃ a c h', r = some (.tuple #[.agg #[.slice a ((getP bs).getD []).length c], .bool (getP bs).isSome], h') ∧ HExt h h' ∧ AE h.blks.length h' (.slice a ((getP bs).getD []).length c) ((getP bs).getD []) := fun ⟨a, c, h', g1, g2, g3⟩ => ⟨a, c, _, g1, zCf g2, (Acc.up g3 (by omega)).done⟩
  simp -implicitDefEqProofs (disch := omega) only [↓c29_0_eq, alL, e0, hh, q2, hh3, lnB8, cv, q4, ↓zAf, ↓zAb, ↓Option.bind_some, ↓zAa, zBd, zBm, zBl, zBe, zBn, zBk, zBi, zBf, zBj, zBq, zBp, Option.bind_some, Option.bind_none, Option.map_some, zAf, zAb, zAl, zAk, zBh, zAw, zAy, zAp, zBc, zAs, zBa, zAr, zBt, zBu, zBv, zBs, zAz, zAa, zAc, zAd, zAe, zAh, zAm, zAg, zAj, zAn, zAi, zAu, zAx, zAv, zBb, zAt, Bool.not_true, Bool.not_false, zCk, zCj, zCl, zCi, zCm, zAq, zAo, zBg, zBo, zBr, cond_true, cond_false, Nat.reduceBEq]
  refine fin' (lp _ _ none 0 k4 (Nat.le_refl _) c4 w4 d4 (AE.nil _ _) ?_ ?_ ?_ ?_)
  all_goals rfl
end Go.Am
namespace Go.Am
open Go.Proofs
set_option maxRecDepth 100000
set_option linter.all false
attribute [local congr] zCc zCn zCp zCo zCg zCd
theorem etV : ElemT Tryz.prog 45 30 1 8 (.int .u64 0) := ⟨by kernel_rfl, by kernel_rfl, by kernel_rfl, by kernel_rfl, by omega, rfl, rfl⟩
theorem zeros_list (z : Value) (n : Nat) : ((Array.range (n * #[z].size)).map fun i => #[z][i % #[z].size]!).toList = List.replicate n z := by
  have e : (fun i : Nat => #[z][i % #[z].size]!) = fun _ => z := by
    funext i
    have : i % #[z].size = 0 := Nat.mod_one i
    rw [this]; rfl
  rw [e]
  simp [List.map_const']
theorem mkV (m : Nat) (hm : m ≤ 64) (h : Heap) : makeSliceV Tryz.prog 45 (.int .i64 m) (.int .i64 m) h = some (.slice (some ⟨h.blks.length, 0, none⟩) m m, h.new (.cells ((List.replicate m 0).map u64V)) 30) := by
  unfold makeSliceV
  simp only [etV.under, natOf_int, etV.size, etV.bytes, etV.zero]
  rw [if_pos ⟨Nat.le_refl _, by omega, by omega, by omega, etV.zs, etV.zg⟩]
  have := zeros_list (.int .u64 0) m
  rw [show ((Array.range (m * 1)).map fun x => (Value.int .u64 0).cells[x % (Value.int .u64 0).cells.size]!).toList = List.replicate m (.int .u64 0) from this, List.map_replicate]
  rfl
theorem spec_vecNew (m : Nat) (hm : m ≤ 64) (h : Heap) : ∃ h', evC Tryz.prog 30 #[.int .i64 m] h = some (.slice (some ⟨h.blks.length, 0, none⟩) m m, h') ∧ HExt h h' ∧ h'.blks.length = h.blks.length + 1 ∧ Cells h' h.blks.length 30 ((List.replicate m 0).map u64V) := by
  rw [call30]
  have e1 : max (m : Int) 0 = m := by omega
  have e2 : min (m : Int) 64 = m := by omega
  refine ⟨_, ?_, zCf (In.new (h := nm h) (Nat.le_refl _) (.cells ((List.replicate m 0).map u64V)) 30), ?_, (Cells.new (nm h) _ _).done⟩
  · simp -implicitDefEqProofs (disch := omega) only [↓c30_0_eq, vmaxI, vminI, e1, e2, mkV m hm, ↓ret30, ↓zAf, ↓zAb, ↓Option.bind_some, ↓zAa, zBd, zBm, zBl, zBe, zBn, zBk, zBi, zBf, zBj, zBq, zBp, Option.bind_some, Option.bind_none, Option.map_some, zAf, zAb, zAl, zAk, zBh, zAw, zAy, zAp, zBc, zAs, zBa, zAr, zBt, zBu, zBv, zBs, zAz, zAa, zAc, zAd, zAe, zAh, zAm, zAg, zAj, zAn, zAi, zAu, zAx, zAv, zBb, zAt, Bool.not_true, Bool.not_false, zCk, zCj, zCl, zCi, zCm, zAq, zAo, zBg, zBo, zBr, cond_true, cond_false, Nat.reduceBEq]
    rfl
  · simp [Heap.new, nm]
structure LEn (h : Heap) (p s : Nat) (n me : Int) (num : Nat) (es : List E3) (ns : List Nat) : Prop where
  eng : ∃ la lc, Cells h p 90 [.int .i64 n, .int .i64 me, .slice la es.length lc, .int .u64 num, .slice (some ⟨s, 0, none⟩) ns.length ns.length] ∧ AE 0 h (.slice la es.length lc) es
  seen : Cells h s 30 (ns.map u64V)
  len : ns.length ≤ 64
theorem bdLn (n me : Int) (m : Nat) (s : Nat) : buildV Tryz.prog 90 #[(0, .int .i64 n), (1, .int .i64 me), (4, .slice (some ⟨s, 0, none⟩) m m)] = some (.agg #[.int .i64 n, .int .i64 me, .slice none 0 0, .int .u64 0, .slice (some ⟨s, 0, none⟩) m m]) := by kernel_rfl
theorem bxLn (a b c d e : Value) (h : Heap) : boxV Tryz.prog 90 (.agg #[a, b, c, d, e]) h = some (.pointer (some ⟨h.blks.length, 0, none⟩), h.new (.cells [a, b, c, d, e]) 90) := by kernel_rfl
def badNew (n me : Int) : Prop := n < 1 ∨ 16 < n ∨ me < 0 ∨ n ≤ me
theorem spec_leanNewBad (n me : Int) (hb : badNew n me) (h : Heap) : ∃ h', evC Tryz.prog 6 #[.int .i64 n, .int .i64 me] h = some (.tuple #[.pointer none, .int .i64 1], h') ∧ HExt h h' := by
  rw [call6]
  refine ⟨_, ?_, zCf (In.refl (h := nm h) (Nat.le_refl _))⟩
  unfold badNew at hb
  by_cases h1 : n < 1
  · simp -implicitDefEqProofs (disch := omega) only [↓c6_0_eq, dcT, dcF, ↓ret6, ↓zAf, ↓zAb, ↓Option.bind_some, ↓zAa, zBd, zBm, zBl, zBe, zBn, zBk, zBi, zBf, zBj, zBq, zBp, Option.bind_some, Option.bind_none, Option.map_some, zAf, zAb, zAl, zAk, zBh, zAw, zAy, zAp, zBc, zAs, zBa, zAr, zBt, zBu, zBv, zBs, zAz, zAa, zAc, zAd, zAe, zAh, zAm, zAg, zAj, zAn, zAi, zAu, zAx, zAv, zBb, zAt, Bool.not_true, Bool.not_false, zCk, zCj, zCl, zCi, zCm, zAq, zAo, zBg, zBo, zBr, cond_true, cond_false, Nat.reduceBEq]
  · by_cases h2 : n > 16
    · simp -implicitDefEqProofs (disch := omega) only [↓c6_0_eq, dcT, dcF, ↓ret6, ↓zAf, ↓zAb, ↓Option.bind_some, ↓zAa, zBd, zBm, zBl, zBe, zBn, zBk, zBi, zBf, zBj, zBq, zBp, Option.bind_some, Option.bind_none, Option.map_some, zAf, zAb, zAl, zAk, zBh, zAw, zAy, zAp, zBc, zAs, zBa, zAr, zBt, zBu, zBv, zBs, zAz, zAa, zAc, zAd, zAe, zAh, zAm, zAg, zAj, zAn, zAi, zAu, zAx, zAv, zBb, zAt, Bool.not_true, Bool.not_false, zCk, zCj, zCl, zCi, zCm, zAq, zAo, zBg, zBo, zBr, cond_true, cond_false, Nat.reduceBEq]
    · by_cases h3 : me < 0
      · simp -implicitDefEqProofs (disch := omega) only [↓c6_0_eq, dcT, dcF, ↓ret6, ↓zAf, ↓zAb, ↓Option.bind_some, ↓zAa, zBd, zBm, zBl, zBe, zBn, zBk, zBi, zBf, zBj, zBq, zBp, Option.bind_some, Option.bind_none, Option.map_some, zAf, zAb, zAl, zAk, zBh, zAw, zAy, zAp, zBc, zAs, zBa, zAr, zBt, zBu, zBv, zBs, zAz, zAa, zAc, zAd, zAe, zAh, zAm, zAg, zAj, zAn, zAi, zAu, zAx, zAv, zBb, zAt, Bool.not_true, Bool.not_false, zCk, zCj, zCl, zCi, zCm, zAq, zAo, zBg, zBo, zBr, cond_true, cond_false, Nat.reduceBEq]
      · have h4 : me ≥ n := by omega
        simp -implicitDefEqProofs (disch := omega) only [↓c6_0_eq, dcT, dcF, ↓ret6, ↓zAf, ↓zAb, ↓Option.bind_some, ↓zAa, zBd, zBm, zBl, zBe, zBn, zBk, zBi, zBf, zBj, zBq, zBp, Option.bind_some, Option.bind_none, Option.map_some, zAf, zAb, zAl, zAk, zBh, zAw, zAy, zAp, zBc, zAs, zBa, zAr, zBt, zBu, zBv, zBs, zAz, zAa, zAc, zAd, zAe, zAh, zAm, zAg, zAj, zAn, zAi, zAu, zAx, zAv, zBb, zAt, Bool.not_true, Bool.not_false, zCk, zCj, zCl, zCi, zCm, zAq, zAo, zBg, zBo, zBr, cond_true, cond_false, Nat.reduceBEq]
theorem spec_leanNew (n : Nat) (me : Int) (h1 : 1 ≤ n) (h2 : n ≤ 16) (h3 : 0 ≤ me) (h4 : me < n) (h : Heap) : ∃ h', evC Tryz.prog 6 #[.int .i64 n, .int .i64 me] h = some (.tuple #[.pointer (some ⟨h.blks.length + 1, 0, none⟩), .int .i64 0], h') ∧ HExt h h' ∧ LEn h' (h.blks.length + 1) h.blks.length n me 0 [] (List.replicate n 0) := by
  rw [call6]
  obtain ⟨h2', q2,Ac, l2, c2⟩ := spec_vecNew n (by omega) (nm h)
  have e0 : (nm h).blks.length = h.blks.length := rfl
  rw [e0] at q2 l2 c2
  have k2 : In h.blks.length No (nm h) h2' := Ac.inn (Nat.le_refl h.blks.length)
  have d3 := Cells.new h2' 90 [.int .i64 n, .int .i64 me, .slice none 0 0, .int .u64 0, .slice (some ⟨h.blks.length, 0, none⟩) n n]
  have k3 := k2.trans (In.new (S := No) (by omega) (.cells [.int .i64 n, .int .i64 me, .slice none 0 0, .int .u64 0, .slice (some ⟨h.blks.length, 0, none⟩) n n]) 90)
  have c3 := c2.keepNew (.cells [.int .i64 n, .int .i64 me, .slice none 0 0, .int .u64 0, .slice (some ⟨h.blks.length, 0, none⟩) n n]) 90
  rw [l2] at d3
  refine ⟨_, ?_, zCf k3, ⟨⟨none, 0, ?_, AE.nil _ _⟩, c3.done, by rw [List.length_replicate]; omega⟩⟩
  · simp -implicitDefEqProofs (disch := omega) only [↓c6_0_eq, dcT, dcF, q2, bdLn, bxLn, l2, ↓ret6, ↓zAf, ↓zAb, ↓Option.bind_some, ↓zAa, zBd, zBm, zBl, zBe, zBn, zBk, zBi, zBf, zBj, zBq, zBp, Option.bind_some, Option.bind_none, Option.map_some, zAf, zAb, zAl, zAk, zBh, zAw, zAy, zAp, zBc, zAs, zBa, zAr, zBt, zBu, zBv, zBs, zAz, zAa, zAc, zAd, zAe, zAh, zAm, zAg, zAj, zAn, zAi, zAu, zAx, zAv, zBb, zAt, Bool.not_true, Bool.not_false, zCk, zCj, zCl, zCi, zCm, zAq, zAo, zBg, zBo, zBr, cond_true, cond_false, Nat.reduceBEq]
  · rw [List.length_replicate]; exact d3.done
end Go.Am
namespace Go.Am
open Go.Proofs
set_option maxRecDepth 100000
set_option linter.all false
attribute [local congr] zCc zCn zCp zCo zCg zCd
theorem callCan1 (a0 a1 : Value) (h : Heap) : evC Tryz.prog 47 #[a0, a1] h = cK c47_0 32 (up un [(0, a0), (1, a1)]) (nm h) (zCw Tryz.f47 Tryz.prog h) :=
  (zCa 47 Tryz.f47 c47_0 Tryz.func47 (by kernel_rfl) #[a0, a1] h).trans (by kernel_rfl)
theorem faLn0 (p : Nat) : zCb Tryz.prog 90 (.pointer (some ⟨p, 0, none⟩)) 0 = some (.pointer (some ⟨p, 0, none⟩)) := by kernel_rfl
theorem faLn1 (p : Nat) : zCb Tryz.prog 90 (.pointer (some ⟨p, 0, none⟩)) 1 = some (.pointer (some ⟨p, 1, none⟩)) := by kernel_rfl
theorem faLn2 (p : Nat) : zCb Tryz.prog 90 (.pointer (some ⟨p, 0, none⟩)) 2 = some (.pointer (some ⟨p, 2, none⟩)) := by kernel_rfl
theorem faLn3 (p : Nat) : zCb Tryz.prog 90 (.pointer (some ⟨p, 0, none⟩)) 3 = some (.pointer (some ⟨p, 3, none⟩)) := by kernel_rfl
theorem faLn4 (p : Nat) : zCb Tryz.prog 90 (.pointer (some ⟨p, 0, none⟩)) 4 = some (.pointer (some ⟨p, 4, none⟩)) := by kernel_rfl
theorem ldLnP (p o : Nat) (h : Heap) : loadV Tryz.prog 24 (.pointer (some ⟨p, o, none⟩)) h = h.load1 p o := by kernel_rfl
theorem ldVec (p o : Nat) (h : Heap) : loadV Tryz.prog 45 (.pointer (some ⟨p, o, none⟩)) h = h.load1 p o := by kernel_rfl
theorem ldU64 (p o : Nat) (h : Heap) : loadV Tryz.prog 30 (.pointer (some ⟨p, o, none⟩)) h = h.load1 p o := by kernel_rfl
theorem lnVec (a : Option Addr) (n c : Nat) (h : Heap) : lenV Tryz.prog 45 (.slice a n c) h = some (.int .i64 n) := by kernel_rfl
def atN (ns : List Nat) (i : Int) : Nat := if i < 0 ∨ (ns.length : Int) ≤ i then 0 else ns.getD i.toNat 0
theorem spec_vecAt {h : Heap} {v : Value} {ns : List Nat} (s : SU h v ns) (i : Int) : evC Tryz.prog 49 #[v, .int .i64 i] h = some (.int .u64 (atN ns i), h) := by
  rw [call49]
  obtain ⟨a, c, rfl⟩ := s.shape
  unfold atN
  by_cases h1 : i < 0
  · rw [if_pos (.inl h1)]
    simp -implicitDefEqProofs (disch := omega) only [↓c49_0_eq, dcT, ↓ret49, ↓zAf, ↓zAb, ↓Option.bind_some, ↓zAa, zBd, zBm, zBl, zBe, zBn, zBk, zBi, zBf, zBj, zBq, zBp, Option.bind_some, Option.bind_none, Option.map_some, zAf, zAb, zAl, zAk, zBh, zAw, zAy, zAp, zBc, zAs, zBa, zAr, zBt, zBu, zBv, zBs, zAz, zAa, zAc, zAd, zAe, zAh, zAm, zAg, zAj, zAn, zAi, zAu, zAx, zAv, zBb, zAt, Bool.not_true, Bool.not_false, zCk, zCj, zCl, zCi, zCm, zAq, zAo, zBg, zBo, zBr, cond_true, cond_false, Nat.reduceBEq]
    rfl
  · by_cases h2 : (ns.length : Int) ≤ i
    · rw [if_pos (.inr h2)]
      have g : i ≥ (ns.length : Int) := h2
      simp -implicitDefEqProofs (disch := omega) only [↓c49_0_eq, dcT, dcF, lnVec, ↓ret49, ↓zAf, ↓zAb, ↓Option.bind_some, ↓zAa, zBd, zBm, zBl, zBe, zBn, zBk, zBi, zBf, zBj, zBq, zBp, Option.bind_some, Option.bind_none, Option.map_some, zAf, zAb, zAl, zAk, zBh, zAw, zAy, zAp, zBc, zAs, zBa, zAr, zBt, zBu, zBv, zBs, zAz, zAa, zAc, zAd, zAe, zAh, zAm, zAg, zAj, zAn, zAi, zAu, zAx, zAv, zBb, zAt, Bool.not_true, Bool.not_false, zCk, zCj, zCl, zCi, zCm, zAq, zAo, zBg, zBo, zBr, cond_true, cond_false, Nat.reduceBEq]
      rfl
    · rw [if_neg (by omega)]
      obtain ⟨k, rfl⟩ : ∃ k : Nat, i = k := ⟨i.toNat, by omega⟩
      rw [Int.toNat_natCast]
      obtain ⟨ad, e1, e2⟩ := su_at (Sl.nm s) (t := 45) (by kernel_rfl) (i := k) (by omega)
      simp -implicitDefEqProofs (disch := omega) only [↓c49_0_eq, dcT, dcF, lnVec, e1, e2, ↓ret49, ↓zAf, ↓zAb, ↓Option.bind_some, ↓zAa, zBd, zBm, zBl, zBe, zBn, zBk, zBi, zBf, zBj, zBq, zBp, Option.bind_some, Option.bind_none, Option.map_some, zAf, zAb, zAl, zAk, zBh, zAw, zAy, zAp, zBc, zAs, zBa, zAr, zBt, zBu, zBv, zBs, zAz, zAa, zAc, zAd, zAe, zAh, zAm, zAg, zAj, zAn, zAi, zAu, zAx, zAv, zBb, zAt, Bool.not_true, Bool.not_false, zCk, zCj, zCl, zCi, zCm, zAq, zAo, zBg, zBo, zBr, cond_true, cond_false, Nat.reduceBEq]
def stopE (me : Int) (ns : List Nat) (x : E3) : Bool := hasB x.t me && (decide (x.f ≠ me) && decide ((atN ns x.f : Int) < x.n))
theorem LEn.seenS {h : Heap} {p s : Nat} {n me : Int} {num : Nat} {es : List E3} {ns : List Nat} (l : LEn h p s n me num es ns) : SU h (.slice (some ⟨s, 0, none⟩) ns.length ns.length) ns :=
  .mk (l.seen.loadN (n := ns.length * 1) (by simp)) (.inr ⟨Nat.le_refl _, by have := l.len; unfold UNK; omega⟩)
theorem LEn.same {h h' : Heap} {p s : Nat} {n me : Int} {num : Nat} {es : List E3} {ns : List Nat} (l : LEn h p s n me num es ns) (e : Same h h') : LEn h' p s n me num es ns :=
  let ⟨la, lc, a, b⟩ := l.eng
  ⟨⟨la, lc, a.same e, b.same e⟩, l.seen.same e, l.len⟩
theorem spec_Can1 {h : Heap} {pb p s : Nat} {n me : Int} {num : Nat} {es : List E3} {ns : List Nat} (cb : Cells h pb 24 [.pointer (some ⟨p, 0, none⟩)]) (l : LEn h p s n me num es ns) (x : E3) (hx : x.t < 2 ^ 64) :
    ∃ h', evC Tryz.prog 47 #[entV x, .pointer (some ⟨pb, 0, none⟩)] h = some (.bool (stopE me ns x), h') ∧ HExt h h' := by
  rw [callCan1]
  have c1 := Cells.new (nm h) 99 (entC x)
  have k1 : In h.blks.length No (nm h) ((nm h).new (.cells (entC x)) 99) := In.new (h := nm h) (Nat.le_refl h.blks.length) _ _
  have sm : Same h ((nm h).new (.cells (entC x)) 99) := Same.new (nm h) _ _
  have e0 : (nm h).blks.length = h.blks.length := rfl
  rw [e0] at c1
  generalize hh : (nm h).new (.cells (entC x)) 99 = h1 at c1 k1 sm
  have l1 := l.same sm
  obtain ⟨la, lc, ce, _⟩ := l1.eng
  have Aa : h1.load1 h.blks.length 0 = some (.int .i64 x.f) := c1.load 0
  have Ab : h1.load1 h.blks.length (0 + 1) = some (.int .u64 x.n) := c1.load 1
  have Ac : h1.load1 h.blks.length (0 + 2) = some (.int .u64 x.t) := c1.load 2
  have p0 : h1.load1 pb 0 = some (.pointer (some ⟨p, 0, none⟩)) := (cb.same sm).load 0
  have m1 : h1.load1 p 1 = some (.int .i64 me) := ce.load 1
  have m4 : h1.load1 p 4 = some (.slice (some ⟨s, 0, none⟩) ns.length ns.length) := ce.load 4
  have q1 := spec_Has x.t hx me h1
  have q2 := spec_vecAt (Sl.nm l1.seenS) x.f
  unfold stopE
  refine ⟨_, ?_, zCf k1⟩
  cases hb : hasB x.t me with
  | false =>
    rw [hb] at q1
    simp -implicitDefEqProofs (disch := omega) only [↓c47_0_eq, ↓c47_1_eq, ↓c47_2_eq, ↓c47_3_eq, ↓c47_4_eq, ↓d47_0_0, ↓d47_0_1, ↓d47_0_2, ↓d47_0_3, ↓d47_0_4, ↓d47_0_5, ↓d47_0_6, ↓d47_0_7, ↓d47_0_8, ↓d47_0_9, ↓d47_0_10, ↓d47_0_11, ↓d47_0_12, ↓d47_0_13, ↓d47_0_14, ↓d47_0_15, ↓d47_0_16, ↓d47_0_17, ↓d47_0_18, ↓d47_0_19, ↓d47_0_20, ↓d47_0_21, ↓d47_0_22, ↓d47_0_23, ↓d47_0_24, ↓d47_0_25, ↓d47_0_26, ↓d47_0_27, ↓d47_0_28, ↓d47_0_29, bxEe, e0, hh, faE0, faE1, faE2, ldS, ldInt, ldU64, ldLnP, ldVec,Aa,Ab,Ac, p0, zAd, faLn1, faLn4, m1, m4, q1, Bool.false_and, am_nm, nm_mods, List.nil_append, List.append_nil, zAo, ↓ret47, ↓zAf, ↓zAb, ↓Option.bind_some, ↓zAa, zBd, zBm, zBl, zBe, zBn, zBk, zBi, zBf, zBj, zBq, zBp, Option.bind_some, Option.bind_none, Option.map_some, zAf, zAb, zAl, zAk, zBh, zAw, zAy, zAp, zBc, zAs, zBa, zAr, zBt, zBu, zBv, zBs, zAz, zAa, zAc, zAd, zAe, zAh, zAm, zAg, zAj, zAn, zAi, zAu, zAx, zAv, zBb, zAt, Bool.not_true, Bool.not_false, zCk, zCj, zCl, zCi, zCm, zAq, zAo, zBg, zBo, zBr, cond_true, cond_false, Nat.reduceBEq]
  | true =>
    rw [hb] at q1
    by_cases hf : x.f = me
    · have d1 : decide (x.f ≠ me) = false := decide_eq_false (fun h => h hf)
      simp -implicitDefEqProofs (disch := omega) only [↓c47_0_eq, ↓c47_1_eq, ↓c47_2_eq, ↓c47_3_eq, ↓c47_4_eq, ↓d47_0_0, ↓d47_0_1, ↓d47_0_2, ↓d47_0_3, ↓d47_0_4, ↓d47_0_5, ↓d47_0_6, ↓d47_0_7, ↓d47_0_8, ↓d47_0_9, ↓d47_0_10, ↓d47_0_11, ↓d47_0_12, ↓d47_0_13, ↓d47_0_14, ↓d47_0_15, ↓d47_0_16, ↓d47_0_17, ↓d47_0_18, ↓d47_0_19, ↓d47_0_20, ↓d47_0_21, ↓d47_0_22, ↓d47_0_23, ↓d47_0_24, ↓d47_0_25, ↓d47_0_26, ↓d47_0_27, ↓d47_0_28, ↓d47_0_29, bxEe, e0, hh, faE0, faE1, faE2, ldS, ldInt, ldU64, ldLnP, ldVec,Aa,Ab,Ac, p0, zAd, faLn1, faLn4, m1, m4, q1, d1, Bool.false_and, Bool.true_and, am_nm, nm_mods, List.nil_append, List.append_nil, zAo, ↓ret47, ↓zAf, ↓zAb, ↓Option.bind_some, ↓zAa, zBd, zBm, zBl, zBe, zBn, zBk, zBi, zBf, zBj, zBq, zBp, Option.bind_some, Option.bind_none, Option.map_some, zAf, zAb, zAl, zAk, zBh, zAw, zAy, zAp, zBc, zAs, zBa, zAr, zBt, zBu, zBv, zBs, zAz, zAa, zAc, zAd, zAe, zAh, zAm, zAg, zAj, zAn, zAi, zAu, zAx, zAv, zBb, zAt, Bool.not_true, Bool.not_false, zCk, zCj, zCl, zCi, zCm, zAq, zAo, zBg, zBo, zBr, cond_true, cond_false, Nat.reduceBEq]
    · have d1 : decide (x.f ≠ me) = true := decide_eq_true hf
      simp -implicitDefEqProofs (disch := omega) only [↓c47_0_eq, ↓c47_1_eq, ↓c47_2_eq, ↓c47_3_eq, ↓c47_4_eq, ↓d47_0_0, ↓d47_0_1, ↓d47_0_2, ↓d47_0_3, ↓d47_0_4, ↓d47_0_5, ↓d47_0_6, ↓d47_0_7, ↓d47_0_8, ↓d47_0_9, ↓d47_0_10, ↓d47_0_11, ↓d47_0_12, ↓d47_0_13, ↓d47_0_14, ↓d47_0_15, ↓d47_0_16, ↓d47_0_17, ↓d47_0_18, ↓d47_0_19, ↓d47_0_20, ↓d47_0_21, ↓d47_0_22, ↓d47_0_23, ↓d47_0_24, ↓d47_0_25, ↓d47_0_26, ↓d47_0_27, ↓d47_0_28, ↓d47_0_29, bxEe, e0, hh, faE0, faE1, faE2, ldS, ldInt, ldU64, ldLnP, ldVec,Aa,Ab,Ac, p0, zAd, faLn1, faLn4, m1, m4, q1, d1, q2, am_nm, nm_mods, List.nil_append, List.append_nil, zAo, Bool.true_and, ↓ret47, ↓zAf, ↓zAb, ↓Option.bind_some, ↓zAa, zBd, zBm, zBl, zBe, zBn, zBk, zBi, zBf, zBj, zBq, zBp, Option.bind_some, Option.bind_none, Option.map_some, zAf, zAb, zAl, zAk, zBh, zAw, zAy, zAp, zBc, zAs, zBa, zAr, zBt, zBu, zBv, zBs, zAz, zAa, zAc, zAd, zAe, zAh, zAm, zAg, zAj, zAn, zAi, zAu, zAx, zAv, zBb, zAt, Bool.not_true, Bool.not_false, zCk, zCj, zCl, zCi, zCm, zAq, zAo, zBg, zBo, zBr, cond_true, cond_false, Nat.reduceBEq]
end Go.Am
namespace Go.Am
open Go.Proofs
set_option maxRecDepth 100000
set_option linter.all false
attribute [local congr] zCc zCn zCp zCo zCg zCd
theorem sameNm (h : Heap) : Same h (nm h) := ⟨Nat.le_refl _, fun _ _ => rfl⟩
theorem callClos (a b : Value) (h : Heap) : callV Tryz.prog (evC Tryz.prog) (.func (.func 47) #[] #[b]) #[a] h = evC Tryz.prog 47 #[a, b] h := by kernel_rfl
theorem idx_loop {h0 h1 : Heap} {v : Value} {g : List E3} {pb p s : Nat} {n me : Int} {num : Nat} {es : List E3} {ns : List Nat} (sv : SE h1 v g) (hw : wide g) (hl : g.length < 2 ^ 40) (cb : Cells h1 pb 24 [.pointer (some ⟨p, 0, none⟩)]) (l : LEn h1 p s n me num es ns) :
    ∀ (m i : Nat), g.length - i = m → i ≤ g.length → ∀ (x : Nat → Value) (h : Heap),In h0.blks.length No (nm h0) h → Same h1 h → x 0 = v → x 1 = .func (.func 47) #[] #[.pointer (some ⟨pb, 0, none⟩)] → x 7 = .int .i64 g.length → x 8 = .int .i64 i →
    ∃ (k : Int) (h' : Heap), lK c89_1 19 x h (zCr 0 (sK c89_2 (zCw Tryz.f89 Tryz.prog h0))) = some (.int .i64 k, done h0 h') ∧ In h0.blks.length No (nm h0) h' ∧ decide (k ≥ 0) = (g.drop i).any (stopE me ns) := by
  intro m
  induction m with
  | zero =>
    intro i e1 e2 x h hin hs Aa Ab Ah Ai
    obtain rfl : i = g.length := by omega
    rw [lK_eq, List.drop_length]
    refine ⟨-1, h, ?_, hin, rfl⟩
    simp -implicitDefEqProofs (disch := omega) only [↓c89_1_eq, ↓c89_2_eq,Ah,Ai, dcF, ↓ret89, ↓zAf, ↓zAb, ↓Option.bind_some, ↓zAa, zBd, zBm, zBl, zBe, zBn, zBk, zBi, zBf, zBj, zBq, zBp, Option.bind_some, Option.bind_none, Option.map_some, zAf, zAb, zAl, zAk, zBh, zAw, zAy, zAp, zBc, zAs, zBa, zAr, zBt, zBu, zBv, zBs, zAz, zAa, zAc, zAd, zAe, zAh, zAm, zAg, zAj, zAn, zAi, zAu, zAx, zAv, zBb, zAt, Bool.not_true, Bool.not_false, zCk, zCj, zCl, zCi, zCm, zAq, zAo, zBg, zBo, zBr, cond_true, cond_false, Nat.reduceBEq]
  | succ m ih =>
    intro i hm hi x h hin hs Aa Ab Ah Ai
    have hil : i < g.length := by omega
    obtain ⟨b, o, hb, hbl, e1, e2⟩ := sv.at' (t := 49) (el := 99) (by kernel_rfl) (by kernel_rfl) hil
    obtain ⟨f1, _⟩ := e2 h (hs.2 b hbl)
    obtain ⟨h2, q2, y2⟩ := spec_Can1 (cb.same hs) (l.same hs) g[i] (hw _ (List.getElem_mem hil)).2
    have hin2 := hin.trans (y2.inn (Nat.le_trans hin.le hin.len))
    have wi : IntKind.i64.wrap ((i : Int) + 1) = ((i + 1 : Nat) : Int) := by rw [wrap_i64] <;> omega
    rw [lK_eq, List.drop_eq_getElem_cons hil, List.any_cons]
    cases hst : stopE me ns g[i] with
    | true =>
      rw [hst] at q2
      refine ⟨i, h2, ?_, hin2, by simp⟩
      simp -implicitDefEqProofs (disch := omega) only [↓c89_1_eq, ↓c89_2_eq,Aa,Ab,Ah,Ai, dcT, e1, ldE, f1, Option.map_some, entA, callClos, q2, ↓ret89, ↓zAf, ↓zAb, ↓Option.bind_some, ↓zAa, zBd, zBm, zBl, zBe, zBn, zBk, zBi, zBf, zBj, zBq, zBp, Option.bind_some, Option.bind_none, Option.map_some, zAf, zAb, zAl, zAk, zBh, zAw, zAy, zAp, zBc, zAs, zBa, zAr, zBt, zBu, zBv, zBs, zAz, zAa, zAc, zAd, zAe, zAh, zAm, zAg, zAj, zAn, zAi, zAu, zAx, zAv, zBb, zAt, Bool.not_true, Bool.not_false, zCk, zCj, zCl, zCi, zCm, zAq, zAo, zBg, zBo, zBr, cond_true, cond_false, Nat.reduceBEq]
    | false =>
      rw [hst] at q2
      rw [Bool.false_or]
      simp -implicitDefEqProofs (disch := omega) only [↓c89_1_eq, ↓c89_2_eq,Aa,Ab,Ah,Ai, dcT, e1, ldE, f1, Option.map_some, entA, callClos, q2, wi, ↓zAf, ↓zAb, ↓Option.bind_some, ↓zAa, zBd, zBm, zBl, zBe, zBn, zBk, zBi, zBf, zBj, zBq, zBp, Option.bind_some, Option.bind_none, Option.map_some, zAf, zAb, zAl, zAk, zBh, zAw, zAy, zAp, zBc, zAs, zBa, zAr, zBt, zBu, zBv, zBs, zAz, zAa, zAc, zAd, zAe, zAh, zAm, zAg, zAj, zAn, zAi, zAu, zAx, zAv, zBb, zAt, Bool.not_true, Bool.not_false, zCk, zCj, zCl, zCi, zCm, zAq, zAo, zBg, zBo, zBr, cond_true, cond_false, Nat.reduceBEq]
      refine ih (i + 1) (by omega) (by omega) _ h2 hin2 (hs.trans y2.same) ?_ ?_ ?_ ?_
      · exact Aa
      · exact Ab
      · exact Ah
      · rfl
theorem spec_Contains {h : Heap} {v : Value} {g : List E3} {pb p s : Nat} {n me : Int} {num : Nat} {es : List E3} {ns : List Nat} (sv : SE h v g) (hw : wide g) (hl : g.length < 2 ^ 40) (cb : Cells h pb 24 [.pointer (some ⟨p, 0, none⟩)]) (l : LEn h p s n me num es ns) :
    ∃ h', evC Tryz.prog 46 #[v, .func (.func 47) #[] #[.pointer (some ⟨pb, 0, none⟩)]] h = some (.bool (g.any (stopE me ns)), h') ∧ HExt h h' := by
  have ix : ∀ h, SE h v g → Cells h pb 24 [.pointer (some ⟨p, 0, none⟩)] → LEn h p s n me num es ns → ∃ (k : Int) (h' : Heap), evC Tryz.prog 89 #[v, .func (.func 47) #[] #[.pointer (some ⟨pb, 0, none⟩)]] h = some (.int .i64 k, h') ∧ HExt h h' ∧ decide (k ≥ 0) = g.any (stopE me ns) := fun h sv cb l => by
    rw [call89]
    have lp := idx_loop (h0 := h) (h1 := nm h) sv.nm hw hl cb (l.same (sameNm h)) g.length 0 (by omega) (by omega)
    obtain ⟨a, c, rfl⟩ := sv.shape
    have fin' : ∀ {r : Option (Value × Heap)}, (∃ (k : Int) (h' : Heap), r = some (.int .i64 k, done h h') ∧ In h.blks.length No (nm h) h' ∧ decide (k ≥ 0) = (g.drop 0).any (stopE me ns)) → ∃ (k : Int) (h' : Heap), r = some (.int .i64 k, h') ∧ HExt h h' ∧ decide (k ≥ 0) = g.any (stopE me ns) := fun ⟨k, h', q1, q2, q3⟩ => ⟨k, _, q1, zCf q2, q3⟩
    simp -implicitDefEqProofs (disch := omega) only [↓c89_0_eq, lnEs, ↓zAf, ↓zAb, ↓Option.bind_some, ↓zAa, zBd, zBm, zBl, zBe, zBn, zBk, zBi, zBf, zBj, zBq, zBp, Option.bind_some, Option.bind_none, Option.map_some, zAf, zAb, zAl, zAk, zBh, zAw, zAy, zAp, zBc, zAs, zBa, zAr, zBt, zBu, zBv, zBs, zAz, zAa, zAc, zAd, zAe, zAh, zAm, zAg, zAj, zAn, zAi, zAu, zAx, zAv, zBb, zAt, Bool.not_true, Bool.not_false, zCk, zCj, zCl, zCi, zCm, zAq, zAo, zBg, zBo, zBr, cond_true, cond_false, Nat.reduceBEq]
    refine fin' (lp _ _ (In.refl (Nat.le_refl _)) (Same.refl _) ?_ ?_ ?_ ?_)
    all_goals rfl
  rw [call46]
  obtain ⟨k, h2, q2,Ac, hk⟩ := ix (nm h) sv.nm cb (l.same (sameNm h))
  refine ⟨_, ?_, zCf (Ac.inn (Nat.le_refl h.blks.length))⟩
  simp -implicitDefEqProofs (disch := omega) only [↓c46_0_eq, q2, hk, ↓ret46, ↓zAf, ↓zAb, ↓Option.bind_some, ↓zAa, zBd, zBm, zBl, zBe, zBn, zBk, zBi, zBf, zBj, zBq, zBp, Option.bind_some, Option.bind_none, Option.map_some, zAf, zAb, zAl, zAk, zBh, zAw, zAy, zAp, zBc, zAs, zBa, zAr, zBt, zBu, zBv, zBs, zAz, zAa, zAc, zAd, zAe, zAh, zAm, zAg, zAj, zAn, zAi, zAu, zAx, zAv, zBb, zAt, Bool.not_true, Bool.not_false, zCk, zCj, zCl, zCi, zCm, zAq, zAo, zBg, zBo, zBr, cond_true, cond_false, Nat.reduceBEq]
def canE (n me : Int) (ns : List Nat) (fr : Int) (num : Nat) (bs : List UInt8) : Bool := match getP bs with
  | none => false
  | some g => if fr < 0 ∨ n ≤ fr ∨ fr = me ∨ num < 1 then false else !g.any (stopE me ns)
theorem bxLnP (p : Nat) (h : Heap) : boxV Tryz.prog 24 (.pointer (some ⟨p, 0, none⟩)) h = some (.pointer (some ⟨h.blks.length, 0, none⟩), h.new (.cells [.pointer (some ⟨p, 0, none⟩)]) 24) := by kernel_rfl
theorem getP_wide {bs : List UInt8} {g : List E3} (h : getP bs = some g) : wide g := by
  unfold getP logOf at h
  split at h
  · cases h; exact rdN_wide _ _
  · cases h
theorem spec_Can {h : Heap} {p s : Nat} {n me : Int} {num : Nat} {es : List E3} {ns : List Nat} (l : LEn h p s n me num es ns) (fr : Int) (k : Nat) {v : Value} {bs : List UInt8} (sb : SB h v bs) (hl : bs.length < 2 ^ 30) :
    ∃ h', evC Tryz.prog 11 #[.pointer (some ⟨p, 0, none⟩), .int .i64 fr, .int .u64 k, v] h = some (.bool (canE n me ns fr k bs), h') ∧ HExt h h' := by
  rw [call11]
  have c1 := Cells.new (nm h) 24 [.pointer (some ⟨p, 0, none⟩)]
  have k1 : In h.blks.length No (nm h) ((nm h).new (.cells [.pointer (some ⟨p, 0, none⟩)]) 24) := In.new (h := nm h) (Nat.le_refl h.blks.length) _ _
  have sm : Same h ((nm h).new (.cells [.pointer (some ⟨p, 0, none⟩)]) 24) := Same.new (nm h) _ _
  have e0 : (nm h).blks.length = h.blks.length := rfl
  have e1 : ((nm h).new (.cells [.pointer (some ⟨p, 0, none⟩)]) 24).blks.length = h.blks.length + 1 := by simp [Heap.new]
  rw [e0] at c1
  generalize hh : (nm h).new (.cells [.pointer (some ⟨p, 0, none⟩)]) 24 = h1 at c1 k1 sm e1
  obtain ⟨a2, c2, h2, q2,Ac, r2⟩ := spec_Get18 (Sl.same sb sm) hl
  have hx2 := Ac.len
  have d3 := Cells.new h2 51 [.slice none 0 0]
  have st := zCh d3 (o := 0) (vs := [.slice a2 ((getP bs).getD []).length c2]) (by simp)
  simp only [List.take_zero, List.nil_append, List.append_nil, List.length_cons, List.length_nil, List.drop_succ_cons, List.drop_zero, Nat.zero_add] at st
  have k2 := k1.trans (Ac.inn (by omega))
  have k3 := (k2.trans (In.new (S := No) (by omega) (.cells [.slice none 0 0]) 51)).trans (In.put (S := No) (by simp [Heap.new]; omega) (p := h2.blks.length) (.inl (by omega)) (.cells [.slice a2 ((getP bs).getD []).length c2]))
  have y3 := same_np h2 (.cells [.slice none 0 0]) (.cells [.slice a2 ((getP bs).getD []).length c2]) 51
  have g3 := d3.put [.slice a2 ((getP bs).getD []).length c2]
  have s3 : SE ((h2.new (.cells [.slice none 0 0]) 51).put h2.blks.length (.cells [.slice a2 ((getP bs).getD []).length c2])) (.slice a2 ((getP bs).getD []).length c2) ((getP bs).getD []) := Sl.same (AE.se r2) y3
  generalize hh3 : (h2.new (.cells [.slice none 0 0]) 51).put h2.blks.length (.cells [.slice a2 ((getP bs).getD []).length c2]) = h3 at st k3 y3 g3 s3
  have sm3 := (sm.trans Ac.same).trans y3
  have l3 := l.same sm3
  obtain ⟨la, lc, ce, _⟩ := l3.eng
  have p0 : h3.load1 h.blks.length 0 = some (.pointer (some ⟨p, 0, none⟩)) := ((c1.ext Ac).same y3).load 0
  have m0 : h3.load1 p 0 = some (.int .i64 n) := ce.load 0
  have m1 : h3.load1 p 1 = some (.int .i64 me) := ce.load 1
  have lg : h3.load1 h2.blks.length 0 = some (.slice a2 ((getP bs).getD []).length c2) := g3.load 0
  unfold canE
  cases hg : getP bs with
  | none =>
    rw [hg] at q2 st
    simp only [Option.getD_none, Option.isSome_none] at q2 st
    refine ⟨_, ?_, zCf k3⟩
    simp -implicitDefEqProofs (disch := omega) only [↓c11_0_eq, bxLnP, e0, hh, q2, zAc, alL, stL, st, ↓ret11, ↓zAf, ↓zAb, ↓Option.bind_some, ↓zAa, zBd, zBm, zBl, zBe, zBn, zBk, zBi, zBf, zBj, zBq, zBp, Option.bind_some, Option.bind_none, Option.map_some, zAf, zAb, zAl, zAk, zBh, zAw, zAy, zAp, zBc, zAs, zBa, zAr, zBt, zBu, zBv, zBs, zAz, zAa, zAc, zAd, zAe, zAh, zAm, zAg, zAj, zAn, zAi, zAu, zAx, zAv, zBb, zAt, Bool.not_true, Bool.not_false, zCk, zCj, zCl, zCi, zCm, zAq, zAo, zBg, zBo, zBr, cond_true, cond_false, Nat.reduceBEq]
  | some g =>
    rw [hg] at q2 st s3 lg
    simp only [Option.getD_some, Option.isSome_some] at q2 st s3 lg
    by_cases hbad : fr < 0 ∨ n ≤ fr ∨ fr = me ∨ k < 1
    · refine ⟨_, ?_, zCf k3⟩
      simp only [if_pos hbad]
      by_cases b1 : fr < 0
      · simp -implicitDefEqProofs (disch := omega) only [↓c11_0_eq, bxLnP, e0, hh, q2, zAc, alL, stL, st, dcT, ↓ret11, ↓zAf, ↓zAb, ↓Option.bind_some, ↓zAa, zBd, zBm, zBl, zBe, zBn, zBk, zBi, zBf, zBj, zBq, zBp, Option.bind_some, Option.bind_none, Option.map_some, zAf, zAb, zAl, zAk, zBh, zAw, zAy, zAp, zBc, zAs, zBa, zAr, zBt, zBu, zBv, zBs, zAz, zAa, zAc, zAd, zAe, zAh, zAm, zAg, zAj, zAn, zAi, zAu, zAx, zAv, zBb, zAt, Bool.not_true, Bool.not_false, zCk, zCj, zCl, zCi, zCm, zAq, zAo, zBg, zBo, zBr, cond_true, cond_false, Nat.reduceBEq]
      · by_cases b2 : fr ≥ n
        · simp -implicitDefEqProofs (disch := omega) only [↓c11_0_eq, bxLnP, e0, hh, q2, zAc, alL, stL, st, dcT, dcF, ldLnP, p0, zAd, faLn0, ldI, m0, ↓ret11, ↓zAf, ↓zAb, ↓Option.bind_some, ↓zAa, zBd, zBm, zBl, zBe, zBn, zBk, zBi, zBf, zBj, zBq, zBp, Option.bind_some, Option.bind_none, Option.map_some, zAf, zAb, zAl, zAk, zBh, zAw, zAy, zAp, zBc, zAs, zBa, zAr, zBt, zBu, zBv, zBs, zAz, zAa, zAc, zAd, zAe, zAh, zAm, zAg, zAj, zAn, zAi, zAu, zAx, zAv, zBb, zAt, Bool.not_true, Bool.not_false, zCk, zCj, zCl, zCi, zCm, zAq, zAo, zBg, zBo, zBr, cond_true, cond_false, Nat.reduceBEq]
        · by_cases b3 : fr = me
          · have d3 : decide (fr = me) = true := decide_eq_true b3
            simp -implicitDefEqProofs (disch := omega) only [↓c11_0_eq, bxLnP, e0, hh, q2, zAc, alL, stL, st, dcT, dcF, ldLnP, p0, zAd, faLn0, faLn1, ldI, m0, m1, d3, ↓ret11, ↓zAf, ↓zAb, ↓Option.bind_some, ↓zAa, zBd, zBm, zBl, zBe, zBn, zBk, zBi, zBf, zBj, zBq, zBp, Option.bind_some, Option.bind_none, Option.map_some, zAf, zAb, zAl, zAk, zBh, zAw, zAy, zAp, zBc, zAs, zBa, zAr, zBt, zBu, zBv, zBs, zAz, zAa, zAc, zAd, zAe, zAh, zAm, zAg, zAj, zAn, zAi, zAu, zAx, zAv, zBb, zAt, Bool.not_true, Bool.not_false, zCk, zCj, zCl, zCi, zCm, zAq, zAo, zBg, zBo, zBr, cond_true, cond_false, Nat.reduceBEq]
          · have d3 : decide (fr = me) = false := decide_eq_false b3
            have b4 : (k : Int) < 1 := by omega
            simp -implicitDefEqProofs (disch := omega) only [↓c11_0_eq, bxLnP, e0, hh, q2, zAc, alL, stL, st, dcT, dcF, ldLnP, p0, zAd, faLn0, faLn1, ldI, m0, m1, d3, ↓ret11, ↓zAf, ↓zAb, ↓Option.bind_some, ↓zAa, zBd, zBm, zBl, zBe, zBn, zBk, zBi, zBf, zBj, zBq, zBp, Option.bind_some, Option.bind_none, Option.map_some, zAf, zAb, zAl, zAk, zBh, zAw, zAy, zAp, zBc, zAs, zBa, zAr, zBt, zBu, zBv, zBs, zAz, zAa, zAc, zAd, zAe, zAh, zAm, zAg, zAj, zAn, zAi, zAu, zAx, zAv, zBb, zAt, Bool.not_true, Bool.not_false, zCk, zCj, zCl, zCi, zCm, zAq, zAo, zBg, zBo, zBr, cond_true, cond_false, Nat.reduceBEq]
    · simp only [if_neg hbad]
      have gl : g.length < 2 ^ 40 := by
        have := getP_len bs
        rw [hg] at this
        simp only [Option.getD_some] at this
        omega
      obtain ⟨h4, q4,Ae⟩ := spec_Contains s3 (getP_wide hg) gl ((c1.ext Ac).same y3) l3
      refine ⟨_, ?_, zCf (k3.trans (Ae.inn (Nat.le_trans k3.le k3.len)))⟩
      have d3 : decide (fr = me) = false := decide_eq_false (by omega)
      simp -implicitDefEqProofs (disch := omega) only [↓c11_0_eq, bxLnP, e0, hh, q2, zAc, alL, stL, st, dcT, dcF, ldLnP, p0, zAd, faLn0, faLn1, ldI, m0, m1, d3, faL, ldEs, lg, q4, ↓ret11, ↓zAf, ↓zAb, ↓Option.bind_some, ↓zAa, zBd, zBm, zBl, zBe, zBn, zBk, zBi, zBf, zBj, zBq, zBp, Option.bind_some, Option.bind_none, Option.map_some, zAf, zAb, zAl, zAk, zBh, zAw, zAy, zAp, zBc, zAs, zBa, zAr, zBt, zBu, zBv, zBs, zAz, zAa, zAc, zAd, zAe, zAh, zAm, zAg, zAj, zAn, zAi, zAu, zAx, zAv, zBb, zAt, Bool.not_true, Bool.not_false, zCk, zCj, zCl, zCi, zCm, zAq, zAo, zBg, zBo, zBr, cond_true, cond_false, Nat.reduceBEq]
end Go.Am
namespace Go.Am
open Go.Proofs
set_option maxRecDepth 100000
set_option linter.all false
attribute [local congr] zCc zCn zCp zCo zCg zCd
theorem faLo (p o : Nat) : zCb Tryz.prog 51 (.pointer (some ⟨p, o, none⟩)) 0 = some (.pointer (some ⟨p, o, none⟩)) := by kernel_rfl
theorem ldLo (p o : Nat) (h : Heap) : loadV Tryz.prog 51 (.pointer (some ⟨p, o, none⟩)) h = (h.loadN p o 1).map fun cs => .agg cs.toArray := by kernel_rfl
theorem stLo (p o : Nat) (a : Option Addr) (n c : Nat) (h : Heap) : storeV Tryz.prog 51 (.pointer (some ⟨p, o, none⟩)) (.agg #[.slice a n c]) h = h.storeN p o [.slice a n c] := by kernel_rfl
theorem spec_Log {h : Heap} {p s : Nat} {n me : Int} {num : Nat} {es : List E3} {ns : List Nat} (l : LEn h p s n me num es ns) (hl : es.length < 2 ^ 39) :
    ∃ a c h', evC Tryz.prog 17 #[.pointer (some ⟨p, 0, none⟩)] h = some (.agg #[.slice a es.length c], h') ∧ HExt h h' ∧ SE h' (.slice a es.length c) es := by
  rw [call17]
  have c1 := Cells.new (nm h) 51 [.slice none 0 0]
  have k1 : In h.blks.length No (nm h) ((nm h).new (.cells [.slice none 0 0]) 51) := In.new (h := nm h) (Nat.le_refl h.blks.length) _ _
  have sm : Same h ((nm h).new (.cells [.slice none 0 0]) 51) := Same.new (nm h) _ _
  have e0 : (nm h).blks.length = h.blks.length := rfl
  have e1 : ((nm h).new (.cells [.slice none 0 0]) 51).blks.length = h.blks.length + 1 := by simp [Heap.new]
  rw [e0] at c1
  generalize hh : (nm h).new (.cells [.slice none 0 0]) 51 = h1 at c1 k1 sm e1
  obtain ⟨la, lc, ce, ae⟩ := (l.same sm).eng
  have m2 : h1.load1 p 2 = some (.slice la es.length lc) := ce.load 2
  obtain ⟨a, c, h2, q2,Ac, r2⟩ := spec_CloneE ae.se hl
  have d2 := c1.ext Ac
  have st := zCh d2 (o := 0) (vs := [.slice a es.length c]) (by simp)
  simp only [List.take_zero, List.nil_append, List.append_nil, List.length_cons, List.length_nil, List.drop_succ_cons, List.drop_zero, Nat.zero_add] at st
  have g := d2.put [.slice a es.length c]
  have k2 := k1.trans (Ac.inn (by omega))
  have k3 := k2.trans (In.put (S := No) (Nat.le_trans k2.le k2.len) (p := h.blks.length) (.inl (Nat.le_refl _)) (.cells [.slice a es.length c]))
  have lg : (Heap.loadN (h2.put h.blks.length (.cells [.slice a es.length c])) h.blks.length 0 1).map (fun cs => Value.agg cs.toArray) = some (.agg #[.slice a es.length c]) := by rw [g.loadN (n := 1) rfl]; rfl
  refine ⟨a, c, _, ?_, zCf k3,Sl.done ((AE.se r2).keepPut (fun e => by have := Acc.ge r2 e; omega) _)⟩
  simp -implicitDefEqProofs (disch := omega) only [↓c17_0_eq, alL, e0, hh, zAd, faLn2, faLo, ldEs, m2, q2, bdL, stL, st, ldL, lg, rvals, ↓ret17, ↓zAf, ↓zAb, ↓Option.bind_some, ↓zAa, zBd, zBm, zBl, zBe, zBn, zBk, zBi, zBf, zBj, zBq, zBp, Option.bind_some, Option.bind_none, Option.map_some, zAf, zAb, zAl, zAk, zBh, zAw, zAy, zAp, zBc, zAs, zBa, zAr, zBt, zBu, zBv, zBs, zAz, zAa, zAc, zAd, zAe, zAh, zAm, zAg, zAj, zAn, zAi, zAu, zAx, zAv, zBb, zAt, Bool.not_true, Bool.not_false, zCk, zCj, zCl, zCi, zCm, zAq, zAo, zBg, zBo, zBr, cond_true, cond_false, Nat.reduceBEq]
theorem mkV0 (h : Heap) : zBw Tryz.prog 45 0 #[] h = some (.slice (some ⟨h.blks.length, 0, none⟩) 0 0, h.new (.cells []) 30) := by kernel_rfl
theorem spec_Seen {h : Heap} {p s : Nat} {n me : Int} {num : Nat} {es : List E3} {ns : List Nat} (l : LEn h p s n me num es ns) :
    ∃ a c h', evC Tryz.prog 14 #[.pointer (some ⟨p, 0, none⟩)] h = some (.slice a ns.length c, h') ∧ HExt h h' ∧ SU h' (.slice a ns.length c) ns := by
  have cl : ∀ h, LEn h p s n me num es ns → ∃ a c h', evC Tryz.prog 52 #[.slice (some ⟨s, 0, none⟩) ns.length ns.length] h = some (.slice a ns.length c, h') ∧ HExt h h' ∧ SU h' (.slice a ns.length c) ns := fun h l => by
    rw [call52]
    have e0 := fun xo yo => bin_nil_some (P := Tryz.prog) (t := 45) (e := 30) (by kernel_rfl) xo yo ⟨s, 0, none⟩ ns.length ns.length
    have hn : h.blks.length ≤ (nm h).blks.length := Nat.le_refl _
    have hll := l.len
    have l1 := (l.same (sameNm h)).same (Same.new (nm h) (.cells []) 30)
    have em : AU h.blks.length ((nm h).new (.cells []) 30) (.slice (some ⟨h.blks.length, 0, none⟩) 0 0) [] := .full (all := []) hn (by omega) (blk_new_self _ _ _) (by simp) rfl
    obtain ⟨a2, c2, h2, e2, a3, k2, _⟩ := app_nums etV etV.under (n0 := h.blks.length) (h := (nm h).new (.cells []) 30) (by simp [Heap.new]) em l1.seenS (by simp; omega)
    simp only [List.nil_append] at e2 a3
    refine ⟨a2, c2, done h h2, ?_, zCf ((In.new (h := nm h) hn _ _).trans k2.inn), (AU.su a3).done⟩
    simp -implicitDefEqProofs (disch := omega) only [↓c52_0_eq, e0, mkV0, show (nm h).blks.length = h.blks.length from rfl, e2, ↓ret52, ↓zAf, ↓zAb, ↓Option.bind_some, ↓zAa, zBd, zBm, zBl, zBe, zBn, zBk, zBi, zBf, zBj, zBq, zBp, Option.bind_some, Option.bind_none, Option.map_some, zAf, zAb, zAl, zAk, zBh, zAw, zAy, zAp, zBc, zAs, zBa, zAr, zBt, zBu, zBv, zBs, zAz, zAa, zAc, zAd, zAe, zAh, zAm, zAg, zAj, zAn, zAi, zAu, zAx, zAv, zBb, zAt, Bool.not_true, Bool.not_false, zCk, zCj, zCl, zCi, zCm, zAq, zAo, zBg, zBo, zBr, cond_true, cond_false, Nat.reduceBEq]
  rw [call14]
  obtain ⟨la, lc, ce, ae⟩ := (l.same (sameNm h)).eng
  have m4 : (nm h).load1 p 4 = some (.slice (some ⟨s, 0, none⟩) ns.length ns.length) := ce.load 4
  obtain ⟨a, c, h2, q2,Ac, r2⟩ := cl (nm h) (l.same (sameNm h))
  refine ⟨a, c, _, ?_, zCf (Ac.inn (Nat.le_refl h.blks.length)), r2.done⟩
  simp -implicitDefEqProofs (disch := omega) only [↓c14_0_eq, zAd, faLn4, ldVec, m4, q2, ↓ret14, ↓zAf, ↓zAb, ↓Option.bind_some, ↓zAa, zBd, zBm, zBl, zBe, zBn, zBk, zBi, zBf, zBj, zBq, zBp, Option.bind_some, Option.bind_none, Option.map_some, zAf, zAb, zAl, zAk, zBh, zAw, zAy, zAp, zBc, zAs, zBa, zAr, zBt, zBu, zBv, zBs, zAz, zAa, zAc, zAd, zAe, zAh, zAm, zAg, zAj, zAn, zAi, zAu, zAx, zAv, zBb, zAt, Bool.not_true, Bool.not_false, zCk, zCj, zCl, zCi, zCm, zAq, zAo, zBg, zBo, zBr, cond_true, cond_false, Nat.reduceBEq]
end Go.Am
namespace Go.Am
open Go.Proofs
set_option maxRecDepth 100000
set_option linter.all false
attribute [local congr] zCc zCn zCp zCo zCg zCd
def KpB (h h' : Heap) : Prop := h.blks.length ≤ h'.blks.length ∧ ∀ p ty cs, Cells h p ty cs → ty ≠ 35 → Cells h' p ty cs
theorem KpB.acc {h h' : Heap} {n0 : Nat} {elem : TypeId} {es n : Nat} {v : Value} {cs : List Value} (k : KpB h h') (a : Acc n0 h elem es v n cs) (ht : elem ≠ 35) : Acc n0 h' elem es v n cs := a.keep fun b _ hb => by
  obtain ⟨all, h1⟩ := a.blk hb
  exact (k.2 b elem all h1 ht).trans h1.symm
theorem Same.kp {h h' : Heap} (s : Same h h') : KpB h h' := ⟨s.1, fun _ _ _ c _ => c.same s⟩
theorem KpB.trans {a b c : Heap} (h : KpB a b) (k : KpB b c) : KpB a c := ⟨Nat.le_trans h.1 k.1, fun p ty cs x ht => k.2 p ty cs (h.2 p ty cs x ht) ht⟩
theorem LEn.kp {h h' : Heap} {p s : Nat} {n me : Int} {num : Nat} {es : List E3} {ns : List Nat} (l : LEn h p s n me num es ns) (k : KpB h h') : LEn h' p s n me num es ns :=
  let ⟨la, lc, a, b⟩ := l.eng
  ⟨⟨la, lc, k.2 _ _ _ a (by decide), k.acc b (by decide)⟩, k.2 _ _ _ l.seen (by decide), l.len⟩
def rowF (es : List E3) (t : Nat) (d : Nat) : List UInt8 := putE (purgeE (zDe es (outB t (ofN (d : Int)))))
theorem purgeL_sub' : ∀ l : List E3, (zCv l).Sublist l
  | [] => .slnil
  | [e] => List.Sublist.refl _
  | e :: e' :: l => by
    rw [purgeL_two]
    split
    · exact (purgeL_sub' (e' :: l)).cons_cons e
    · exact (purgeL_sub' (e' :: l)).cons e
theorem purgeE_sub (l : List E3) : (purgeE l).Sublist l := by
  unfold purgeE
  split
  · exact purgeL_sub' l
  · exact List.Sublist.refl _
theorem wide_purge {l : List E3} (w : wide l) : wide (purgeE l) := fun e he => w e ((purgeE_sub l).subset he)
theorem logN {h : Heap} {p : Nat} {ty : TypeId} {a b c d e : Value} (g : Cells h p ty [a, b, c, d, e]) : (h.loadN p 2 1).map (fun cs => Value.agg cs.toArray) = some (.agg #[c]) := by
  rw [loadN_own g (by simp)]; rfl
theorem si_at {h : Heap} {v : Value} {ns : List Nat} (s : SI h v ns) {i : Nat} (hi : i < ns.length) :
    ∃ a, zCt Tryz.prog 68 v (.int .i64 i) = some (.pointer (some a)) ∧ loadV Tryz.prog 3 (.pointer (some a)) h = some (.int .i64 (ns[i] : Nat)) := by
  obtain ⟨a, e1, e2, _⟩ := s.row.at1 etI.under etI.size (by kernel_rfl) hi .i64
  rw [List.getElem?_map, List.getElem?_eq_getElem hi] at e2
  exact ⟨a, e1, e2⟩
theorem send_loopL {h0 : Heap} {p s : Nat} {n me : Int} {num : Nat} {es : List E3} {ns : List Nat} {ds : List Nat} {dv : Value} {t : Nat} (hw : wide es) (hl : es.length < 2 ^ 30) (ht : t < 2 ^ 64) (hd : ds.length ≤ 64) {S : Nat → Prop} {Q : Option (Value × Heap) → Prop}
    (hk : ∀ (x' : Nat → Value) (h' : Heap) (ov' : Value),In h0.blks.length S (nm h0) h' → LEn h' p s n me num es ns → ABs h0.blks.length h' ov' (ds.map (rowF es t)) → x' 0 = .pointer (some ⟨p, 0, none⟩) → x' 1 = .int .u64 t → x' 5 = ov' → Q (cK c7_2 71 x' h' (zCw Tryz.f7 Tryz.prog h0))) :
    ∀ (m i : Nat), ds.length - i = m → i ≤ ds.length → ∀ (x : Nat → Value) (h : Heap) (ov : Value),In h0.blks.length S (nm h0) h → LEn h p s n me num es ns → AI h0.blks.length h dv ds → ABs h0.blks.length h ov ((ds.take i).map (rowF es t)) →
    x 0 = .pointer (some ⟨p, 0, none⟩) → x 1 = .int .u64 t → x 5 = ov → x 30 = dv → x 31 = .int .i64 ds.length → x 32 = .int .i64 i →
    Q (lK c7_1 71 x h (zCr 0 (sK c7_2 (zCw Tryz.f7 Tryz.prog h0)))) := by
  intro m
  induction m with
  | zero =>
    intro i e1 e2 x h ov hin l ad ab Aa Ab Af Bg Bh Bi
    obtain rfl : i = ds.length := by omega
    rw [List.take_length] at ab
    rw [lK_eq]
    have dl : decide (((ds.length : Nat) : Int) < ds.length) = false := decide_eq_false (by omega)
    simp -implicitDefEqProofs (disch := omega) only [↓c7_1_eq,Bh,Bi, dl, ↓zAf, ↓zAb, ↓Option.bind_some, ↓zAa, zBd, zBm, zBl, zBe, zBn, zBk, zBi, zBf, zBj, zBq, zBp, Option.bind_some, Option.bind_none, Option.map_some, zAf, zAb, zAl, zAk, zBh, zAw, zAy, zAp, zBc, zAs, zBa, zAr, zBt, zBu, zBv, zBs, zAz, zAa, zAc, zAd, zAe, zAh, zAm, zAg, zAj, zAn, zAi, zAu, zAx, zAv, zBb, zAt, Bool.not_true, Bool.not_false, zCk, zCj, zCl, zCi, zCm, zAq, zAo, zBg, zBo, zBr, cond_true, cond_false, Nat.reduceBEq]
    exact hk _ h ov hin l ab Aa Ab Af
  | succ m ih =>
    intro i hm hi x h ov hin l ad ab Aa Ab Af Bg Bh Bi
    have hil : i < ds.length := by omega
    have dl : decide (((i : Nat) : Int) < ds.length) = true := decide_eq_true (by omega)
    obtain ⟨da, f1, f2⟩ := si_at (ad.sl etI.size) hil
    obtain ⟨la, lc, ce, ae⟩ := l.eng
    have lA := logN ce
    obtain ⟨a2, c2, h2, q2, y2, r2⟩ := spec_But ae.se hw (by omega) t ht (ds[i] : Int)
    have ll : (zDe es (outB t (ofN (ds[i] : Int)))).length = es.length := lessE_len _ _
    have q2' : evC Tryz.prog 35 #[.agg #[.slice la es.length lc], .int .u64 t, .int .i64 (ds[i] : Int)] h = some (.agg #[.slice a2 (zDe es (outB t (ofN (ds[i] : Int)))).length c2], h2) := by rw [ll]; exact q2
    have r2' : AE h.blks.length h2 (.slice a2 (zDe es (outB t (ofN (ds[i] : Int)))).length c2) (zDe es (outB t (ofN (ds[i] : Int)))) := by
      rw [show (Value.slice a2 (zDe es (outB t (ofN (ds[i] : Int)))).length c2) = .slice a2 es.length c2 by rw [ll]]; exact r2
    obtain ⟨a3, c3, h3, q3, y3, r3⟩ := spec_Purge r2'.se (wide_lessE hw) (by omega)
    have pl : (purgeE (zDe es (outB t (ofN (ds[i] : Int))))).length ≤ es.length := by
      have := (purgeE_sub (zDe es (outB t (ofN (ds[i] : Int))))).length_le
      omega
    obtain ⟨a4, c4, h4, q4, y4, r4⟩ := spec_Put18 (AE.se r3) (wide_purge (wide_lessE hw)) (by omega)
    have z4 := (y2.same.trans y3.same).trans y4.same
    have hlen4 := z4.1
    have ab4 := ab.same z4
    have hn : h0.blks.length ≤ h.blks.length := Nat.le_trans hin.le hin.len
    have r4' : AB h0.blks.length h4 (.slice a4 (rowF es t ds[i]).length c4) (rowF es t ds[i]) := Acc.up r4 (by have := y2.len; have := y3.len; omega)
    obtain ⟨vs, abv⟩ := ab4
    have bs := mkBs1 a4 (rowF es t ds[i]).length c4 h4
    obtain ⟨a5, c5, h5, q5, ab5, k5, o5⟩ := abv.app (by omega) r4' (by rw [List.length_map, List.length_take]; omega)
    have kb : KpB h4 h5 := ⟨k5.len, o5⟩
    have hin5 := (((hin.trans (y2.inn hn)).trans (y3.inn (by have := y2.len; omega))).trans (y4.inn (by have := y2.len; have := y3.len; omega))).trans (Keeps.inn (S := S) k5)
    have hmap : (ds.take i).map (rowF es t) ++ [rowF es t ds[i]] = (ds.take (i + 1)).map (rowF es t) := by
      rw [List.take_succ, List.getElem?_eq_getElem hil, List.map_append]; rfl
    rw [hmap] at q5 ab5
    have wi : IntKind.i64.wrap ((i : Int) + 1) = ((i + 1 : Nat) : Int) := by rw [wrap_i64] <;> omega
    rw [lK_eq]
    have q4' : evC Tryz.prog 33 #[.agg #[.slice a3 (purgeE (zDe es (outB t (ofN (ds[i] : Int))))).length c3]] h3 = some (.slice a4 (rowF es t ds[i]).length c4, h4) := q4
    simp -implicitDefEqProofs (disch := omega) only [↓c7_1_eq,Aa,Ab,Af,Bg,Bh,Bi, dl, f1, f2, zAd, faLn2, ldLo, lA, q2', q3, q4', bs, q5, wi, ↓zAf, ↓zAb, ↓Option.bind_some, ↓zAa, zBd, zBm, zBl, zBe, zBn, zBk, zBi, zBf, zBj, zBq, zBp, Option.bind_some, Option.bind_none, Option.map_some, zAf, zAb, zAl, zAk, zBh, zAw, zAy, zAp, zBc, zAs, zBa, zAr, zBt, zBu, zBv, zBs, zAz, zAa, zAc, zAd, zAe, zAh, zAm, zAg, zAj, zAn, zAi, zAu, zAx, zAv, zBb, zAt, Bool.not_true, Bool.not_false, zCk, zCj, zCl, zCi, zCm, zAq, zAo, zBg, zBo, zBr, cond_true, cond_false, Nat.reduceBEq]
    refine ih (i + 1) (by omega) (by omega) _ h5 _ hin5 ((l.same z4).kp kb) (kb.acc (ad.same z4) (by decide)) ab5 ?_ ?_ ?_ ?_ ?_ ?_
    · exact Aa
    · exact Ab
    · rfl
    · exact Bg
    · exact Bh
    · rfl
def sendT (n : Nat) (me : Int) (to : Nat) : Nat := to &&& outB (allN n) (ofN me)
def sendLog (es : List E3) (me : Int) (num t : Nat) : List E3 := purgeE (addE (zDe es t) ⟨me, num + 1, t⟩)
theorem allN_lt (n : Nat) (hn : n < 64) : allN n < 2 ^ 64 := by
  unfold allN
  have : 2 ^ n < 2 ^ 64 := Nat.pow_lt_pow_right (by omega) hn
  omega
theorem mem_addE {es : List E3} {x e : E3} (h : e ∈ addE es x) : e ∈ es ∨ e = x := by
  unfold addE at h
  split at h
  · split at h
    · exact (List.mem_or_eq_of_mem_set h)
    · unfold insE at h
      rcases List.mem_append.1 h with h | h
      · exact .inl (List.mem_of_mem_take h)
      · rcases List.mem_cons.1 h with h | h
        · exact .inr h
        · exact .inl (List.mem_of_mem_drop h)
  · exact .inl h
theorem addE_len (es : List E3) (x : E3) : (addE es x).length ≤ es.length + 1 := by
  unfold addE
  split
  · split
    · rw [List.length_set]; omega
    · unfold insE
      rw [List.length_append, List.length_cons, List.length_take, List.length_drop]; omega
  · omega
theorem spec_Send {h : Heap} {p s : Nat} {n : Nat} {me : Int} {num : Nat} {es : List E3} {ns : List Nat} (l : LEn h p s n me num es ns) (hn : n ≤ 16) (hw : wide es) (hl : es.length < 2 ^ 29) (hnum : num + 1 < 2 ^ 64) (to : Nat) (hto : to < 2 ^ 64) (hps : p ≠ s)
    (hins : InsOk (zDe es (sendT n me to)) ⟨me, num + 1, sendT n me to⟩) :
    ∃ v h', evC Tryz.prog 7 #[.pointer (some ⟨p, 0, none⟩), .int .u64 to] h = some (v, h') ∧ HMod (Just p) h h' ∧ LEn h' p s n me (num + 1) (sendLog es me num (sendT n me to)) ns ∧ ABs h.blks.length h' v ((listW (sendT n me to)).map (rowF es (sendT n me to))) := by
  rw [call7]
  have l0 := l.same (sameNm h)
  obtain ⟨la, lc, ce, ae⟩ := l0.eng
  have hph : p < h.blks.length := ce.lt
  have m0 : (nm h).load1 p 0 = some (.int .i64 n) := ce.load 0
  have m1 : (nm h).load1 p 1 = some (.int .i64 me) := ce.load 1
  have w1 := fun h => spec_All n (by omega) h
  have c9 := Cells.new (nm h) 3 [.int .i64 me]
  have q9 := spec_Of1 (c := 1) c9
  have e9 := ce.keepNew (.cells [.int .i64 me]) 3
  have k9 : In h.blks.length (Just p) (nm h) ((nm h).new (.cells [.int .i64 me]) 3) := In.new (h := nm h) (Nat.le_refl h.blks.length) _ _
  have l9 := l0.same (Same.new (nm h) (.cells [.int .i64 me]) 3)
  have b9 := mkI1 me (nm h)
  generalize hh9 : (nm h).new (.cells [.int .i64 me]) 3 = h9 at c9 q9 e9 k9 l9 b9
  have m3 : h9.load1 p 3 = some (.int .u64 num) := e9.load 3
  have st := zCh e9 (o := 3) (vs := [.int .u64 ((num + 1 : Nat) : Int)]) (by simp)
  simp only [List.take_succ_cons, List.take_zero, List.nil_append, List.append_nil, List.length_cons, List.length_nil, List.drop_succ_cons, List.drop_zero, Nat.zero_add, Nat.reduceAdd, List.drop_nil, List.cons_append, List.singleton_append] at st
  have k10 := k9.trans (In.put (S := Just p) (Nat.le_trans k9.le k9.len) (p := p) (.inr rfl) (.cells [.int .i64 n, .int .i64 me, .slice la es.length lc, .int .u64 ((num + 1 : Nat) : Int), .slice (some ⟨s, 0, none⟩) ns.length ns.length]))
  have d10 := e9.put [.int .i64 n, .int .i64 me, .slice la es.length lc, .int .u64 ((num + 1 : Nat) : Int), .slice (some ⟨s, 0, none⟩) ns.length ns.length]
  have ae9 : AE 0 h9 (.slice la es.length lc) es := by rw [← hh9]; exact ae.keep fun b hb _ => Heap.new_old hb
  have hb : zBz (.slice la es.length lc) ≠ some p := fun e => by
    obtain ⟨all, h1⟩ := Acc.blk ae9 e
    unfold Cells at e9
    rw [e9] at h1
    simp only [Option.some.injEq, Blk.mk.injEq] at h1
    exact absurd h1.2.1 (by decide)
  have l10 : LEn (h9.put p (.cells [.int .i64 n, .int .i64 me, .slice la es.length lc, .int .u64 ((num + 1 : Nat) : Int), .slice (some ⟨s, 0, none⟩) ns.length ns.length])) p s n me (num + 1) es ns :=
    ⟨⟨la, lc, d10, ae9.keepPut hb _⟩, l9.seen.keepPut (by omega) _, l.len⟩
  generalize hh10 : h9.put p (.cells [.int .i64 n, .int .i64 me, .slice la es.length lc, .int .u64 ((num + 1 : Nat) : Int), .slice (some ⟨s, 0, none⟩) ns.length ns.length]) = h10 at st k10 l10
  have ht : sendT n me to < 2 ^ 64 := Nat.lt_of_le_of_lt Nat.and_le_left hto
  obtain ⟨a11, c11, h11, q11,Al, r11⟩ := spec_List (sendT n me to) ht h10
  have n10 : h.blks.length ≤ h10.blks.length := Nat.le_trans k10.le k10.len
  have k11 := k10.trans (Al.inn (S := Just p) n10)
  have an := fun t xo yo => anS t xo yo (allN n) (ofN me) (allN_lt n (by omega)) (ofN_lt me)
  have aa := fun t xo yo => anU t xo yo to (outB (allN n) (ofN me)) hto (outB_lt (allN_lt n (by omega)))
  have wn : IntKind.u64.wrap ((num : Int) + 1) = ((num + 1 : Nat) : Int) := by rw [wrap_u64] <;> omega
  have lnI : ∀ h, lenV Tryz.prog 68 (.slice a11 (listW (sendT n me to)).length c11) h = some (.int .i64 (listW (sendT n me to)).length) := fun h => by kernel_rfl
  have e0 : (nm h).blks.length = h.blks.length := rfl
  rw [e0] at b9 q9
  have aa' : ∀ t xo yo, binV Tryz.prog .and t xo yo (.int .u64 to) (.int .u64 ((outB (allN n) (ofN me) : Nat) : Int)) = some (.int .u64 ((sendT n me to : Nat) : Int)) := aa
  simp -implicitDefEqProofs (disch := omega) only [↓c7_0_eq, zAd, faLn0, faLn1, faLn3, ldI, m0, w1, am_nm, nm_mods, List.nil_append, List.append_nil, m1, b9, q9, an, aa', zAo, ldU, m3, wn, vst64, st, q11, lnI, ↓zAf, ↓zAb, ↓Option.bind_some, ↓zAa, zBd, zBm, zBl, zBe, zBn, zBk, zBi, zBf, zBj, zBq, zBp, Option.bind_some, Option.bind_none, Option.map_some, zAf, zAb, zAl, zAk, zBh, zAw, zAy, zAp, zBc, zAs, zBa, zAr, zBt, zBu, zBv, zBs, zAz, zAa, zAc, zAd, zAe, zAh, zAm, zAg, zAj, zAn, zAi, zAu, zAx, zAv, zBb, zAt, Bool.not_true, Bool.not_false, zCk, zCj, zCl, zCi, zCm, zAq, zAo, zBg, zBo, zBr, cond_true, cond_false, Nat.reduceBEq]
  refine send_loopL (h0 := h) (S := Just p) (Q := fun r => ∃ v h', r = some (v, h') ∧ HMod (Just p) h h' ∧ LEn h' p s n me (num + 1) (sendLog es me num (sendT n me to)) ns ∧ ABs h.blks.length h' v ((listW (sendT n me to)).map (rowF es (sendT n me to)))) (t := sendT n me to) hw (by omega) ht (listW_len _ ht) ?_ (listW (sendT n me to)).length 0 (by omega) (by omega) _ h11 _ k11 (l10.same Al.same) (Acc.up r11 n10) ⟨[], .nil, .nil⟩ ?_ ?_ ?_ ?_ ?_ ?_
  · intro x h12 ov k12 l12 ab12 y0 y1 y5
    have h12n : h.blks.length ≤ h12.blks.length := Nat.le_trans k12.le k12.len
    obtain ⟨la', lc', ce', ae'⟩ := l12.eng
    have lA := logN ce'
    obtain ⟨a13, c13, h13, q13,Ao, r13⟩ := spec_Less (h := nm h12) (to := sendT n me to) (Sl.nm ae'.se) hw (by omega) ht
    obtain ⟨Ao', m13⟩ := Ao.amx
    have k13 := k12.trans (Ao'.inn (S := Just p) h12n)
    have n13 := Ao'.len
    have ce13 := ce'.ext Ao'
    have m1' : (am h13 h12).load1 p 1 = some (.int .i64 me) := ce13.load 1
    have m3' : (am h13 h12).load1 p 3 = some (.int .u64 ((num + 1 : Nat) : Int)) := ce13.load 3
    have s13 : SE (am h13 h12) (.slice a13 es.length c13) (zDe es (sendT n me to)) := Sl.keep (h' := am h13 h12) (AE.se r13) fun _ _ _ => rfl
    have wl := wide_lessE (to := sendT n me to) hw
    have ll : (zDe es (sendT n me to)).length = es.length := lessE_len _ _
    obtain ⟨a14, c14, h14, q14,Ap, r14⟩ := spec_Add s13 wl (by omega) ⟨me, num + 1, sendT n me to⟩ ht hins
    have wa : wide (addE (zDe es (sendT n me to)) ⟨me, num + 1, sendT n me to⟩) := fun e he => by
      rcases mem_addE he with he | rfl
      · exact wl e he
      · exact ⟨hnum, ht⟩
    have al := addE_len (zDe es (sendT n me to)) ⟨me, num + 1, sendT n me to⟩
    obtain ⟨a15, c15, h15, q15,Aq, r15⟩ := spec_Purge r14.se wa (by omega)
    have n14 := Ap.len
    have n15 := Aq.len
    have k15 := (k13.trans (Ap.inn (S := Just p) (by omega))).trans (Aq.inn (S := Just p) (by omega))
    have ce15 := (ce13.ext Ap).ext Aq
    have st16 := zCh ce15 (o := 2) (vs := [.slice a15 (sendLog es me num (sendT n me to)).length c15]) (by simp)
    simp only [List.take_succ_cons, List.take_zero, List.nil_append, List.append_nil, List.length_cons, List.length_nil, List.drop_succ_cons, List.drop_zero, Nat.zero_add, Nat.reduceAdd, List.drop_nil, List.cons_append, List.singleton_append] at st16
    have d16 := ce15.put [.int .i64 n, .int .i64 me, .slice a15 (sendLog es me num (sendT n me to)).length c15, .int .u64 ((num + 1 : Nat) : Int), .slice (some ⟨s, 0, none⟩) ns.length ns.length]
    have k16 := k15.trans (In.put (S := Just p) (Nat.le_trans k15.le k15.len) (p := p) (.inr rfl) (.cells [.int .i64 n, .int .i64 me, .slice a15 (sendLog es me num (sendT n me to)).length c15, .int .u64 ((num + 1 : Nat) : Int), .slice (some ⟨s, 0, none⟩) ns.length ns.length]))
    have sm := (Ao'.same.trans Ap.same).trans Aq.same
    have rl : AE 0 (h15.put p (.cells [.int .i64 n, .int .i64 me, .slice a15 (sendLog es me num (sendT n me to)).length c15, .int .u64 ((num + 1 : Nat) : Int), .slice (some ⟨s, 0, none⟩) ns.length ns.length])) (.slice a15 (sendLog es me num (sendT n me to)).length c15) (sendLog es me num (sendT n me to)) :=
      Acc.keepPut (Acc.up r15 (Nat.zero_le _)) (fun e => by have := Acc.ge r15 e; omega) _
    have q14' : evC Tryz.prog 36 #[.agg #[.slice a13 es.length c13], .agg #[.int .i64 me, .int .u64 ((num + 1 : Nat) : Int), .int .u64 ((sendT n me to : Nat) : Int)]] (am h13 h12) = some (.agg #[.slice a14 (addE (zDe es (sendT n me to)) ⟨me, num + 1, sendT n me to⟩).length c14], h14) := q14
    have q15' : evC Tryz.prog 34 #[.agg #[.slice a14 (addE (zDe es (sendT n me to)) ⟨me, num + 1, sendT n me to⟩).length c14]] h14 = some (.agg #[.slice a15 (sendLog es me num (sendT n me to)).length c15], h15) := q15
    refine ⟨ov, _, ?_, done_mod k16, ⟨⟨a15, c15, d16.done, rl.done⟩, ((l12.seen.same sm).keepPut (by omega) _).done, l.len⟩, ((ab12.same sm).put ce15 (by decide) (by decide) _).same ⟨Nat.le_refl _, fun _ _ => rfl⟩⟩
    simp -implicitDefEqProofs (disch := omega) only [↓c7_2_eq, y0, y1, y5, zAd, faLn1, faLn2, faLn3, ldLo, lA, q13, m13, ldI, ldU, m1', m3', bdE3, q14', q15', stLo, st16, List.nil_append, List.append_nil, zAo, ↓ret7, ↓zAf, ↓zAb, ↓Option.bind_some, ↓zAa, zBd, zBm, zBl, zBe, zBn, zBk, zBi, zBf, zBj, zBq, zBp, Option.bind_some, Option.bind_none, Option.map_some, zAf, zAb, zAl, zAk, zBh, zAw, zAy, zAp, zBc, zAs, zBa, zAr, zBt, zBu, zBv, zBs, zAz, zAa, zAc, zAd, zAe, zAh, zAm, zAg, zAj, zAn, zAi, zAu, zAx, zAv, zBb, zAt, Bool.not_true, Bool.not_false, zCk, zCj, zCl, zCi, zCm, zAq, zAo, zBg, zBo, zBr, cond_true, cond_false, Nat.reduceBEq]
  all_goals rfl
end Go.Am
namespace Go.Am
open Go.Proofs
set_option maxRecDepth 100000
set_option linter.all false
attribute [local congr] zCc zCn zCp zCo zCg zCd
theorem iaV (s n c j : Nat) (hj : j < n) : zCt Tryz.prog 45 (.slice (some ⟨s, 0, none⟩) n c) (.int .i64 j) = some (.pointer (some ⟨s, j, none⟩)) := by
  unfold zCt
  simp only [etV.under, natOf_int, etV.size, if_pos hj, Nat.zero_add, Nat.mul_one]
theorem map_set (ns : List Nat) (j : Nat) (hj : j < ns.length) (k : Nat) : (ns.map u64V).take j ++ [.int .u64 (k : Int)] ++ (ns.map u64V).drop (j + 1) = (ns.set j k).map u64V := by
  apply List.ext_getElem?
  intro i
  simp only [List.getElem?_append, List.length_append, List.length_take, List.length_map, List.length_singleton, List.getElem?_take, List.getElem?_map, List.getElem?_drop, List.getElem?_set]
  rw [Nat.min_eq_left (by omega)]
  by_cases h1 : i < j
  · rw [if_pos (by omega), if_pos h1, if_pos h1, if_neg (by omega)]
  · by_cases h2 : i = j
    · subst h2
      rw [if_pos (by omega), if_neg (by omega), if_pos rfl, if_pos hj, Nat.sub_self]
      rfl
    · rw [if_neg (by omega), if_neg (by omega), show j + 1 + (i - (j + 1)) = i by omega]
theorem joinE_len (es fs : List E3) : (joinE es fs).length ≤ es.length + fs.length + es.length := by
  unfold joinE
  split
  · rw [srtE_len, List.length_append, List.length_append]
    have a := List.length_filter_le (fun x => !bsF fs x && decide ((getM (lastM fs) x.f).getD 0 < x.n)) es
    have b := List.length_filter_le (fun x => !bsF es x && decide ((getM (lastM es) x.f).getD 0 < x.n)) fs
    have c := List.length_filterMap_le (bothF fs) es
    unfold zDg bothE
    omega
  · omega
def takeLog (es : List E3) (me fr : Int) (k to : Nat) (g : List E3) : List E3 := purgeE (zDe (joinE es (zDe (addE g ⟨fr, k, to⟩) (ofN me))) (ofN me))
theorem newLogT {h : Heap} {a : Option Addr} {c n : Nat} {es : List E3} (s : SE h (.slice a n c) es) : ∃ hB, (h.new (.cells [.slice none 0 0]) 51).storeN h.blks.length 0 [.slice a n c] = some hB ∧ Same h hB ∧ (∀ {h' : Heap}, Same hB h' → (h'.loadN h.blks.length 0 1).map (fun cs => Value.agg cs.toArray) = some (.agg #[.slice a n c])) ∧ SE hB (.slice a n c) es ∧ (∀ S n0, n0 ≤ h.blks.length → In n0 S h hB) ∧ hB.load1 h.blks.length 0 = some (.slice a n c) := by
  have d := Cells.new h 51 [.slice none 0 0]
  have st := zCh d (o := 0) (vs := [.slice a n c]) (by simp)
  simp only [List.take_zero, List.nil_append, List.append_nil, List.length_cons, List.length_nil, List.drop_succ_cons, List.drop_zero, Nat.zero_add] at st
  have g := d.put [.slice a n c]
  exact ⟨_, st, same_np _ _ _ _, fun hs => by rw [(g.same hs).loadN (n := 1) rfl]; rfl, (Sl.keepNew s _ _).keepPut (fun e => by have := Sl.lo s _ e; omega) _, fun S n0 hn => (In.new hn _ _).trans (In.put (by simp [Heap.new]; omega) (.inl hn) _), g.load 0⟩
theorem spec_Take {h : Heap} {p s : Nat} {n : Nat} {me : Int} {num : Nat} {es : List E3} {ns : List Nat} (l : LEn h p s n me num es ns) (hn : n ≤ 16) (hnl : ns.length = n) (hw : wide es) (hl : es.length < 2 ^ 28) (hps : p ≠ s) (fr : Int) (k to : Nat) (hk : k < 2 ^ 64) (hto : to < 2 ^ 64) {v : Value} {bs : List UInt8} (sb : SB h v bs) (hbs : bs.length < 2 ^ 26)
    (hbp : zBz v ≠ some p) (hbs' : zBz v ≠ some s) {g : List E3} (hg : getP bs = some g) (hc : canE n me ns fr k bs = true) (hins : InsOk g ⟨fr, k, to⟩) :
    ∃ h', evC Tryz.prog 9 #[.pointer (some ⟨p, 0, none⟩), .int .i64 fr, .int .u64 k, .int .u64 to, v] h = some (.bool true, h') ∧ HMod (fun b => b = p ∨ b = s) h h' ∧ LEn h' p s n me num (takeLog es me fr k to g) (ns.set fr.toNat k) := by
  rw [call9]
  have hfr : 0 ≤ fr ∧ fr < n := by
    unfold canE at hc
    rw [hg] at hc
    simp only at hc
    split at hc
    · cases hc
    · omega
  obtain ⟨j, rfl⟩ : ∃ j : Nat, fr = j := ⟨fr.toNat, by omega⟩
  rw [Int.toNat_natCast]
  have l0 := l.same (sameNm h)
  obtain ⟨h1, q1,Ab⟩ := spec_Can l0 (j : Int) k sb.nm (by omega)
  rw [hc] at q1
  have l1 := l0.same Ab.same
  have sb1 := sb.nm.ext Ab
  have kk1 : In h.blks.length (fun b => b = p ∨ b = s) (nm h) h1 := Ab.inn (Nat.le_refl h.blks.length)
  obtain ⟨la, lc, ce, ae⟩ := l1.eng
  have m4 : h1.load1 p 4 = some (.slice (some ⟨s, 0, none⟩) ns.length ns.length) := ce.load 4
  have st2 := zCh l1.seen (o := j) (vs := [.int .u64 (k : Int)]) (by simp; omega)
  rw [List.length_singleton, map_set ns j (by omega) k] at st2
  have d2 := l1.seen.put ((ns.set j k).map u64V)
  have ce2 := ce.keepPut (q := s) hps.symm (.cells ((ns.set j k).map u64V))
  have hbl : zBz (.slice la es.length lc) ≠ some s := fun e => by
    obtain ⟨all, h1'⟩ := Acc.blk ae e
    have := l1.seen
    unfold Cells at this
    rw [this] at h1'
    simp only [Option.some.injEq, Blk.mk.injEq] at h1'
    exact absurd h1'.2.1 (by decide)
  have ae2 := ae.keepPut hbl (.cells ((ns.set j k).map u64V))
  have sb2 := Sl.keepPut sb1 hbs' (.cells ((ns.set j k).map u64V))
  have kk2 := kk1.trans (In.put (S := fun b => b = p ∨ b = s) (Nat.le_trans kk1.le kk1.len) (p := s) (.inr (.inr rfl)) (.cells ((ns.set j k).map u64V)))
  generalize hh2 : h1.put s (.cells ((ns.set j k).map u64V)) = h2 at st2 d2 ce2 ae2 sb2 kk2
  have n2 : h.blks.length ≤ h2.blks.length := Nat.le_trans kk2.le kk2.len
  have m1 : h2.load1 p 1 = some (.int .i64 me) := ce2.load 1
  have q3 := spec_Of1 (c := 1) (Cells.new h2 3 [.int .i64 me])
  have b3 := mkI1 me h2
  have y3 := Same.new h2 (.cells [.int .i64 me]) 3
  have kk3 := kk2.trans (In.new (S := fun b => b = p ∨ b = s) n2 (.cells [.int .i64 me]) 3)
  generalize hh3 : h2.new (.cells [.int .i64 me]) 3 = h3 at q3 b3 y3 kk3
  obtain ⟨a4, c4, h4, q4,Ae, r4⟩ := spec_Get18 (Sl.same sb2 y3) (by omega)
  have gl := getP_len bs
  rw [hg] at q4 r4 gl
  simp only [Option.getD_some, Option.isSome_some] at q4 r4 gl
  obtain ⟨h5, t5, y5, g5, s5, i5, _⟩ := newLogT (AE.se r4)
  have n3 := y3.1
  have n4 := Ae.len
  have n5 := y5.1
  have kk5 := (kk3.trans (Ae.inn (S := fun b => b = p ∨ b = s) (by omega))).trans (i5 (fun b => b = p ∨ b = s) h.blks.length (by omega))
  obtain ⟨a6, c6, h6, q6,Ag, r6⟩ := spec_Add s5 (getP_wide hg) (by omega) ⟨(j : Int), k, to⟩ hto hins
  have q6' : evC Tryz.prog 36 #[.agg #[.slice a4 g.length c4], .agg #[.int .i64 (j : Int), .int .u64 (k : Int), .int .u64 (to : Int)]] h5 = some (.agg #[.slice a6 (addE g ⟨(j : Int), k, to⟩).length c6], h6) := q6
  have al := addE_len g ⟨(j : Int), k, to⟩
  have wa : wide (addE g ⟨(j : Int), k, to⟩) := fun e he => by
    rcases mem_addE he with he | rfl
    · exact getP_wide hg e he
    · exact ⟨hk, hto⟩
  obtain ⟨a7, c7, h7, q7,Ah, r7⟩ := spec_Less (to := ofN me) r6.se wa (by omega) (ofN_lt me)
  have ll7 : (zDe (addE g ⟨(j : Int), k, to⟩) (ofN me)).length = (addE g ⟨(j : Int), k, to⟩).length := lessE_len _ _
  obtain ⟨h8, t8, y8, g8, s8, i8, _⟩ := newLogT (AE.se r7)
  have n6 := Ag.len
  have n7 := Ah.len
  have n8 := y8.1
  have kk8 := ((kk5.trans (Ag.inn (S := fun b => b = p ∨ b = s) (by omega))).trans (Ah.inn (S := fun b => b = p ∨ b = s) (by omega))).trans (i8 (fun b => b = p ∨ b = s) h.blks.length (by omega))
  have sm8 : Same h2 h8 := ((((y3.trans Ae.same).trans y5).trans Ag.same).trans Ah.same).trans y8
  have ce8 := ce2.same sm8
  have lA := logN ce8
  have ae8 : AE 0 h8 (.slice la es.length lc) es := ae2.same sm8
  have wl7 := wide_lessE (to := ofN me) wa
  obtain ⟨a9, c9, h9, q9,Aj, r9⟩ := spec_Join ae8.se s8 hw wl7 (by omega) (by omega)
  have jl := joinE_len es (zDe (addE g ⟨(j : Int), k, to⟩) (ofN me))
  obtain ⟨a10, c10, h10, q10,Ak, r10⟩ := spec_Less (to := ofN me) r9.se (wide_join hw wl7) (by omega) (ofN_lt me)
  have ll10 : (zDe (joinE es (zDe (addE g ⟨(j : Int), k, to⟩) (ofN me))) (ofN me)).length = (joinE es (zDe (addE g ⟨(j : Int), k, to⟩) (ofN me))).length := lessE_len _ _
  obtain ⟨a11, c11, h11, q11,Al, r11⟩ := spec_Purge r10.se (wide_lessE (wide_join hw wl7)) (by omega)
  have q11' : evC Tryz.prog 34 #[.agg #[.slice a10 (joinE es (zDe (addE g ⟨(j : Int), k, to⟩) (ofN me))).length c10]] h10 = some (.agg #[.slice a11 (takeLog es me (j : Int) k to g).length c11], h11) := q11
  have n9 := Aj.len
  have n10 := Ak.len
  have n11 := Al.len
  have kk11 := ((kk8.trans (Aj.inn (S := fun b => b = p ∨ b = s) (by omega))).trans (Ak.inn (S := fun b => b = p ∨ b = s) (by omega))).trans (Al.inn (S := fun b => b = p ∨ b = s) (by omega))
  have sm11 := ((sm8.trans Aj.same).trans Ak.same).trans Al.same
  have ce11 := ce2.same sm11
  have hpl : p < h2.blks.length := ce2.lt
  have st12 := zCh ce11 (o := 2) (vs := [.slice a11 (takeLog es me (j : Int) k to g).length c11]) (by simp)
  simp only [List.take_succ_cons, List.take_zero, List.nil_append, List.append_nil, List.length_cons, List.length_nil, List.drop_succ_cons, List.drop_zero, Nat.zero_add, Nat.reduceAdd, List.drop_nil, List.cons_append, List.singleton_append] at st12
  have d12 := ce11.put [.int .i64 n, .int .i64 me, .slice a11 (takeLog es me (j : Int) k to g).length c11, .int .u64 (num : Int), .slice (some ⟨s, 0, none⟩) ns.length ns.length]
  have kk12 := kk11.trans (In.put (S := fun b => b = p ∨ b = s) (Nat.le_trans kk11.le kk11.len) (p := p) (.inr (.inl rfl)) (.cells [.int .i64 n, .int .i64 me, .slice a11 (takeLog es me (j : Int) k to g).length c11, .int .u64 (num : Int), .slice (some ⟨s, 0, none⟩) ns.length ns.length]))
  have rl : AE 0 (h11.put p (.cells [.int .i64 n, .int .i64 me, .slice a11 (takeLog es me (j : Int) k to g).length c11, .int .u64 (num : Int), .slice (some ⟨s, 0, none⟩) ns.length ns.length])) (.slice a11 (takeLog es me (j : Int) k to g).length c11) (takeLog es me (j : Int) k to g) :=
    Acc.keepPut (Acc.up r11 (Nat.zero_le _)) (fun e => by have := Acc.ge r11 e; omega) _
  have seenL : (ns.set j k).length = ns.length := List.length_set ..
  refine ⟨_, ?_, done_mod kk12, ⟨⟨a11, c11, ?_, rl.done⟩, ((d2.same sm11).keepPut (by omega) _).done, by rw [seenL]; exact l.len⟩⟩
  · simp -implicitDefEqProofs (disch := omega) only [↓c9_0_eq, q1, zAd, faLn1, faLn2, faLn4, ldVec, m4, iaV s ns.length ns.length j (by omega), vst64, st2, ldI, m1, b3, q3, q4, zAc, alL, stL, t5, ldL, g5 (Same.refl _), bdE3, q6', q7, t8, ldLo, lA, g8 (Same.refl _), q9, q10, q11', stLo, st12, ↓ret9, ↓zAf, ↓zAb, ↓Option.bind_some, ↓zAa, zBd, zBm, zBl, zBe, zBn, zBk, zBi, zBf, zBj, zBq, zBp, Option.bind_some, Option.bind_none, Option.map_some, zAf, zAb, zAl, zAk, zBh, zAw, zAy, zAp, zBc, zAs, zBa, zAr, zBt, zBu, zBv, zBs, zAz, zAa, zAc, zAd, zAe, zAh, zAm, zAg, zAj, zAn, zAi, zAu, zAx, zAv, zBb, zAt, Bool.not_true, Bool.not_false, zCk, zCj, zCl, zCi, zCm, zAq, zAo, zBg, zBo, zBr, cond_true, cond_false, Nat.reduceBEq]
  · rw [seenL]; exact d12.done
end Go.Am
namespace Go.Am
open Go.Proofs
set_option maxRecDepth 100000
set_option linter.all false
attribute [local congr] zCc zCn zCp zCo zCg zCd
theorem pnn (p : Nat) (xo yo : Operand) : binV Tryz.prog .eql 24 xo yo (.pointer (some ⟨p, 0, none⟩)) (.pointer none) = some (.bool false) := by kernel_rfl
theorem lit_ents (el : TypeId) (hs : sizeT Tryz.prog el = some 3) (es : List E3) (hl : es.length < 2 ^ 38) (h : Heap) : SE (h.new (.cells (entL es)) el) (.slice (some ⟨h.blks.length, 0, none⟩) es.length es.length) es := by
  refine .mk ?_ (.inr ⟨Nat.le_refl _, ?_⟩)
  · simp only [Heap.loadN, Heap.cells?, blk_new_self]
    simp [entL_len]
    rw [List.take_of_length_le (by rw [entL_len]; omega)]
  · unfold UNK; omega
theorem cmp_litN {h : Heap} {v : Value} {es : List E3} (s : SE h v es) (hl : es.length < 2 ^ 38) : ∃ a c h1, evC Tryz.prog 16 #[v] h = some (.slice a es.length c, h1) ∧ HExt h h1 ∧
    evC Tryz.prog 15 #[.slice a es.length c, .slice (some ⟨h1.blks.length, 0, none⟩) es.length es.length] (h1.new (.cells (entL es)) 87) = some (.bool true, h1.new (.cells (entL es)) 87) := by
  obtain ⟨a, c, h1, e1,Ab, r1⟩ := spec_log1 s hl
  refine ⟨a, c, h1, e1,Ab, ?_⟩
  have s1 : SE (h1.new (.cells (entL es)) 87) (.slice a es.length c) es := Sl.keepNew (AR.se r1) _ _
  rw [spec_logs s1 (lit_ents 87 etR.size es hl _) hl hl, decide_eq_true rfl]
def ak1 : List E3 := [⟨0, 1, 2⟩]
def ak2 : List E3 := [⟨0, 2, 2⟩]
theorem ak_t : sendT 2 0 2 = 2 := by decide
theorem ak_l1 : sendLog [] 0 0 2 = ak1 := by decide
theorem ak_l2 : sendLog ak1 0 1 2 = ak2 := by decide
theorem ak_w : listW 2 = [1] := by rw [listW_bits 2 (by omega)]; decide
theorem ak_r : rowF ak1 2 1 = logB ak1 := by
  unfold rowF
  rw [show purgeE (zDe ak1 (outB 2 (ofN ((1 : Nat) : Int)))) = ak1 by decide]
  rfl
theorem bdR3' : buildV Tryz.prog 87 #[(0, .int .i64 0), (1, .int .u64 1), (2, .int .u64 2)] = some (entV ⟨0, 1, 2⟩) := by kernel_rfl
theorem bdR4' : buildV Tryz.prog 87 #[(0, .int .i64 0), (1, .int .u64 2), (2, .int .u64 2)] = some (entV ⟨0, 2, 2⟩) := by kernel_rfl
theorem bsA1 (h : Heap) : zBw Tryz.prog 31 1 #[(0, entV ⟨0, 1, 2⟩)] h = some (.slice (some ⟨h.blks.length, 0, none⟩) ak1.length ak1.length, h.new (.cells (entL ak1)) 87) := by kernel_rfl
theorem bsA2 (h : Heap) : zBw Tryz.prog 31 1 #[(0, entV ⟨0, 2, 2⟩)] h = some (.slice (some ⟨h.blks.length, 0, none⟩) ak2.length ak2.length, h.new (.cells (entL ak2)) 87) := by kernel_rfl
theorem lnBs2 {n0 : Nat} {h : Heap} {v : Value} {l : List (List UInt8)} (a : ABs n0 h v l) : lenV Tryz.prog 34 v h = some (.int .i64 l.length) := a.len
theorem spec_awake19 (h : Heap) : ∃ h', evC Tryz.prog 5 #[] h = some (.bool true, h') ∧ HExt h h' := by
  rw [show evC Tryz.prog 5 #[] h = _ from call5 h]
  obtain ⟨h1, q1,Ab, l1⟩ := spec_leanNew 2 0 (by omega) (by omega) (by omega) (by omega) (nm h)
  have e0 : (nm h).blks.length = h.blks.length := rfl
  rw [e0] at q1 l1
  have n1 : h.blks.length ≤ h1.blks.length := Ab.len
  have k1 : In h.blks.length No (nm h) h1 := Ab.inn (Nat.le_refl h.blks.length)
  have b2 := mkI1 1 h1
  have o2 := spec_Of1 (c := 1) (Cells.new h1 3 [.int .i64 1])
  have k2 := k1.trans (In.new (S := No) n1 (.cells [.int .i64 1]) 3)
  have l2 := l1.same (Same.new h1 (.cells [.int .i64 1]) 3)
  have n2 := (Same.new h1 (.cells [.int .i64 1]) 3).1
  generalize hh2 : h1.new (.cells [.int .i64 1]) 3 = h2 at b2 o2 k2 l2 n2
  rw [show ((ofN 1 : Nat) : Int) = 2 by decide] at o2
  obtain ⟨v3, h3, q3, y3, l3, r3⟩ := spec_Send l2 (by omega) (by intro e he; cases he) (by simp) (by omega) 2 (by omega) (by omega) (insOk_end (by decide) (by decide))
  have nb : ∀ b, b < h.blks.length → Just (h.blks.length + 1) b → No b := fun b hb e => by have : b = h.blks.length + 1 := e; omega
  have k3 := k2.trans (y3.inn (by omega) nb)
  rw [show sendT 2 0 2 = 2 from ak_t, show sendLog [] 0 0 2 = ak1 from ak_l1] at l3
  have n3 := y3.len
  have b4 := mkI1 1 h3
  have o4 := spec_Of1 (c := 1) (Cells.new h3 3 [.int .i64 1])
  have k4 := k3.trans (In.new (S := No) (by omega) (.cells [.int .i64 1]) 3)
  have l4 := l3.same (Same.new h3 (.cells [.int .i64 1]) 3)
  have n4 := (Same.new h3 (.cells [.int .i64 1]) 3).1
  generalize hh4 : h3.new (.cells [.int .i64 1]) 3 = h4 at b4 o4 k4 l4 n4
  rw [show ((ofN 1 : Nat) : Int) = 2 by decide] at o4
  obtain ⟨v5, h5, q5, y5, l5, r5⟩ := spec_Send l4 (by omega) (by decide) (by decide) (by omega) 2 (by omega) (by omega) (insOk_end (by decide) (by decide))
  have k5 := k4.trans (y5.inn (by omega) nb)
  rw [show sendT 2 0 2 = 2 from ak_t] at l5 r5
  rw [show sendLog ak1 0 (0 + 1) 2 = ak2 from ak_l2] at l5
  rw [ak_w, show [1].map (rowF ak1 2) = [logB ak1] by rw [List.map_cons, List.map_nil, ak_r]] at r5
  have n5 := y5.len
  have len5 := lnBs2 r5
  obtain ⟨ad, xv, f1, f2, f3⟩ := r5.at (i := 0) (by simp)
  rw [show ((0 : Nat) : Int) = 0 from rfl] at f1
  rw [show ([logB ak1] : List (List UInt8)).getD 0 [] = logB ak1 from rfl] at f3
  have lb : (logB ak1).length < 2 ^ 26 := by
    have h1 := encL_le ak1 (by decide) (by decide)
    have h2 := putL_le ak1.length (by decide)
    have h3 : ak1.length = 1 := rfl
    unfold logB; rw [List.length_append]; omega
  obtain ⟨a6, c6, h6, q6,Ag, r6⟩ := spec_Get18 f3 (by omega)
  rw [get_put (by decide) (by decide) (by decide)] at q6 r6
  simp only [Option.getD_some, Option.isSome_some] at q6 r6
  have n6 := Ag.len
  obtain ⟨h7, t7, y7, g7, s7, i7, g7'⟩ := newLogT (AE.se r6)
  have k7 := (k5.trans (Ag.inn (S := No) (by omega))).trans (i7 No h.blks.length (by omega))
  have n7 := y7.1
  obtain ⟨a8, c8, h8, q8,Ai, w8⟩ := cmp_litN s7 (by decide)
  have n8 := Ai.len
  have y9 := Same.new h8 (.cells (entL ak1)) 87
  have k9 := (k7.trans (Ai.inn (S := No) (by omega))).trans (In.new (S := No) (by omega) (.cells (entL ak1)) 87)
  have l9 := (((l5.same Ag.same).same y7).same Ai.same).same y9
  generalize hh9 : h8.new (.cells (entL ak1)) 87 = h9 at y9 k9 l9 w8
  have n9 := y9.1
  obtain ⟨a10, c10, h10, q10,Ak, s10⟩ := spec_Log l9 (by decide)
  have n10 := Ak.len
  obtain ⟨a11, c11, h11, q11,Al, w11⟩ := cmp_litN s10 (by decide)
  have n11 := Al.len
  have k12 := ((k9.trans (Ak.inn (S := No) (by omega))).trans (Al.inn (S := No) (by omega))).trans (In.new (S := No) (by omega) (.cells (entL ak2)) 87)
  have z1 : decide ((([logB ak1] : List (List UInt8)).length : Int) ≠ 1) = false := by decide
  rw [show ((2 : Nat) : Int) = 2 from rfl] at q1 q3 q5
  refine ⟨_, ?_, zCf k12⟩
  have b9 := bsA1 h8
  rw [hh9] at b9
  simp -implicitDefEqProofs (disch := omega) only [↓c5_0_eq, q1, zAc, pnn, b2, o2, q3, b4, o4, q5, len5, z1, ne_eq, not_true_eq_false, decide_false, f1, f2, q6, alL, stL, t7, faL, ldEs, g7', q8, bdR3', b9, w8, q10, fvL, q11, bdR4', bsA2, w11, ↓ret5, ↓zAf, ↓zAb, ↓Option.bind_some, ↓zAa, zBd, zBm, zBl, zBe, zBn, zBk, zBi, zBf, zBj, zBq, zBp, Option.bind_some, Option.bind_none, Option.map_some, zAf, zAb, zAl, zAk, zBh, zAw, zAy, zAp, zBc, zAs, zBa, zAr, zBt, zBu, zBv, zBs, zAz, zAa, zAc, zAd, zAe, zAh, zAm, zAg, zAj, zAn, zAi, zAu, zAx, zAv, zBb, zAt, Bool.not_true, Bool.not_false, zCk, zCj, zCl, zCi, zCm, zAq, zAo, zBg, zBo, zBr, cond_true, cond_false, Nat.reduceBEq]
end Go.Am
namespace Go.Am
open Go.Proofs
set_option maxRecDepth 100000
set_option linter.all false
attribute [local congr] zCc zCn zCp zCo zCg zCd
theorem lnUs (a : Option Addr) (n c : Nat) (h : Heap) : lenV Tryz.prog 29 (.slice a n c) h = some (.int .i64 n) := by kernel_rfl
theorem longs_loop {h0 h1 : Heap} {v w : Value} {a b : List Nat} (s : SU h1 v a) (s2 : SU h1 w b) (hl : a.length < 2 ^ 40) (he : a.length = b.length) :
    ∀ (m i : Nat), a.length - i = m → i ≤ a.length → ∀ (x : Nat → Value), x 0 = v → x 1 = w → x 5 = .int .i64 i →
    lK c13_1 26 x h1 (zCr 0 (sK c13_2 (zCw Tryz.f13 Tryz.prog h0))) = some (.bool (decide (a.drop i = b.drop i)), done h0 h1) := by
  intro m
  obtain ⟨va, vc, rfl⟩ := s.shape
  induction m with
  | zero =>
    intro i e1 e2 x Aa Ab Af
    obtain rfl : i = a.length := by omega
    have e3 : decide (a.drop a.length = b.drop a.length) = true := decide_eq_true (by rw [List.drop_length, he, List.drop_length])
    rw [lK_eq, e3]
    simp -implicitDefEqProofs (disch := omega) only [↓c13_1_eq, ↓c13_2_eq,Aa,Ab,Af, lnUs, dcF, ↓ret13, ↓zAf, ↓zAb, ↓Option.bind_some, ↓zAa, zBd, zBm, zBl, zBe, zBn, zBk, zBi, zBf, zBj, zBq, zBp, Option.bind_some, Option.bind_none, Option.map_some, zAf, zAb, zAl, zAk, zBh, zAw, zAy, zAp, zBc, zAs, zBa, zAr, zBt, zBu, zBv, zBs, zAz, zAa, zAc, zAd, zAe, zAh, zAm, zAg, zAj, zAn, zAi, zAu, zAx, zAv, zBb, zAt, Bool.not_true, Bool.not_false, zCk, zCj, zCl, zCi, zCm, zAq, zAo, zBg, zBo, zBr, cond_true, cond_false, Nat.reduceBEq]
  | succ m ih =>
    intro i hm hi x Aa Ab Af
    have hil : i < a.length := by omega
    have hil2 : i < b.length := by omega
    obtain ⟨ad, e1, e2⟩ := su_at s (t := 29) etU.under hil
    obtain ⟨bd, f1, f2⟩ := su_at s2 (t := 29) etU.under hil2
    have g1 : a.getD i 0 = a[i] := by rw [List.getD_eq_getElem?_getD, List.getElem?_eq_getElem hil]; rfl
    have g2 : b.getD i 0 = b[i] := by rw [List.getD_eq_getElem?_getD, List.getElem?_eq_getElem hil2]; rfl
    have wi : IntKind.i64.wrap ((i : Int) + 1) = ((i + 1 : Nat) : Int) := by rw [wrap_i64] <;> omega
    have hd : decide (a.drop i = b.drop i) = (decide (a[i] = b[i]) && decide (a.drop (i + 1) = b.drop (i + 1))) := by
      rw [List.drop_eq_getElem_cons hil, List.drop_eq_getElem_cons hil2]
      simp only [List.cons.injEq, Bool.decide_and]
    rw [g1] at e2
    rw [g2] at f2
    rw [lK_eq, hd]
    by_cases hc : a[i] = b[i]
    · have d1 : decide ((a[i] : Int) ≠ b[i]) = false := decide_eq_false (by omega)
      rw [decide_eq_true hc, Bool.true_and]
      simp -implicitDefEqProofs (disch := omega) only [↓c13_1_eq, ↓c13_2_eq,Aa,Ab,Af, lnUs, dcT, e1, f1, e2, f2, d1, wi, ↓zAf, ↓zAb, ↓Option.bind_some, ↓zAa, zBd, zBm, zBl, zBe, zBn, zBk, zBi, zBf, zBj, zBq, zBp, Option.bind_some, Option.bind_none, Option.map_some, zAf, zAb, zAl, zAk, zBh, zAw, zAy, zAp, zBc, zAs, zBa, zAr, zBt, zBu, zBv, zBs, zAz, zAa, zAc, zAd, zAe, zAh, zAm, zAg, zAj, zAn, zAi, zAu, zAx, zAv, zBb, zAt, Bool.not_true, Bool.not_false, zCk, zCj, zCl, zCi, zCm, zAq, zAo, zBg, zBo, zBr, cond_true, cond_false, Nat.reduceBEq]
      refine ih (i + 1) (by omega) (by omega) _ ?_ ?_ ?_
      · exact Aa
      · exact Ab
      · rfl
    · have d1 : decide ((a[i] : Int) ≠ b[i]) = true := decide_eq_true (by omega)
      rw [decide_eq_false hc, Bool.false_and]
      simp -implicitDefEqProofs (disch := omega) only [↓c13_1_eq, ↓c13_2_eq,Aa,Ab,Af, lnUs, dcT, e1, f1, e2, f2, d1, ↓ret13, ↓zAf, ↓zAb, ↓Option.bind_some, ↓zAa, zBd, zBm, zBl, zBe, zBn, zBk, zBi, zBf, zBj, zBq, zBp, Option.bind_some, Option.bind_none, Option.map_some, zAf, zAb, zAl, zAk, zBh, zAw, zAy, zAp, zBc, zAs, zBa, zAr, zBt, zBu, zBv, zBs, zAz, zAa, zAc, zAd, zAe, zAh, zAm, zAg, zAj, zAn, zAi, zAu, zAx, zAv, zBb, zAt, Bool.not_true, Bool.not_false, zCk, zCj, zCl, zCi, zCm, zAq, zAo, zBg, zBo, zBr, cond_true, cond_false, Nat.reduceBEq]
theorem spec_longs {h : Heap} {v w : Value} {a b : List Nat} (s : SU h v a) (s2 : SU h w b) (hl : a.length < 2 ^ 40) (he : a.length = b.length) : evC Tryz.prog 13 #[v, w] h = some (.bool (decide (a = b)), h) := by
  rw [call13]
  obtain ⟨va, vc, rfl⟩ := s.shape
  obtain ⟨wa, wc, rfl⟩ := s2.shape
  have lp := longs_loop (h0 := h) s.nm s2.nm hl he a.length 0 (by omega) (by omega)
  rw [List.drop_zero, List.drop_zero] at lp
  have d1 : decide ((a.length : Int) ≠ b.length) = false := decide_eq_false (by omega)
  simp -implicitDefEqProofs (disch := omega) only [↓c13_0_eq, lnUs, d1, ↓zAf, ↓zAb, ↓Option.bind_some, ↓zAa, zBd, zBm, zBl, zBe, zBn, zBk, zBi, zBf, zBj, zBq, zBp, Option.bind_some, Option.bind_none, Option.map_some, zAf, zAb, zAl, zAk, zBh, zAw, zAy, zAp, zBc, zAs, zBa, zAr, zBt, zBu, zBv, zBs, zAz, zAa, zAc, zAd, zAe, zAh, zAm, zAg, zAj, zAn, zAi, zAu, zAx, zAv, zBb, zAt, Bool.not_true, Bool.not_false, zCk, zCj, zCl, zCi, zCm, zAq, zAo, zBg, zBo, zBr, cond_true, cond_false, Nat.reduceBEq]
  refine Eq.trans (lp _ ?_ ?_ ?_) (by rw [zBg])
  all_goals rfl
end Go.Am
namespace Go.Am
open Go.Proofs
set_option maxRecDepth 100000
set_option linter.all false
attribute [local congr] zCc zCn zCp zCo zCg zCd
end Go.Am
namespace Go.Am
open Go.Proofs
set_option maxRecDepth 100000
set_option linter.all false
attribute [local congr] zCc zCn zCp zCo zCg zCd
theorem Cells.ty {h : Heap} {p : Nat} {t1 t2 : TypeId} {cs all : List Value} (c : Cells h p t1 cs) (e : h.blks[p]? = some ⟨.cells all, t2, true⟩) : t1 = t2 := by
  unfold Cells at c
  rw [c] at e
  simp only [Option.some.injEq, Blk.mk.injEq] at e
  exact e.2.1
theorem LEn.rows {S : Nat → Prop} {h h' : Heap} {p s : Nat} {n me : Int} {num : Nat} {es : List E3} {ns : List Nat} (l : LEn h p s n me num es ns) (m : HMod S h h') (hS : ∀ b, S b → b = p ∨ b = s) {n0 : Nat} {v : Value} {r : List (List UInt8)} (a : ABs n0 h v r) : ABs n0 h' v r := by
  obtain ⟨vs, x⟩ := a
  obtain ⟨la, lc, ce, _⟩ := l.eng
  refine ⟨vs, x.kp fun b all ty hb ht _ => m.old b (List.getElem?_eq_some_iff.1 hb).1 fun hs => ?_⟩
  rcases hS b hs with rfl | rfl
  · have := ce.ty hb
    rcases ht with ht | ht
    · exact absurd (this.trans ht) (by decide)
    · exact absurd (this.trans ht) (by decide)
  · have := l.seen.ty hb
    rcases ht with ht | ht
    · exact absurd (this.trans ht) (by decide)
    · exact absurd (this.trans ht) (by decide)
end Go.Am
namespace Go.Am
open Go.Proofs
set_option maxRecDepth 100000
set_option linter.all false
attribute [local congr] zCc zCn zCp zCo zCg zCd
theorem bsK_leM (es : List E3) (t : E3) : bsK es t ≤ es.length := List.Sublist.length_le (List.takeWhile_sublist _)
theorem entL_takeM : ∀ (es : List E3) (i : Nat), (entL es).take (i * 3) = entL (es.take i)
  | [], i => by simp [entL]
  | e :: es, 0 => rfl
  | e :: es, i + 1 => by
    rw [show (i + 1) * 3 = (i * 3) + 1 + 1 + 1 by omega]
    simp only [entL, List.take_succ_cons]
    rw [entL_takeM es i]
theorem entL_dropM : ∀ (es : List E3) (i : Nat), (entL es).drop (i * 3) = entL (es.drop i)
  | [], i => by simp [entL]
  | e :: es, 0 => rfl
  | e :: es, i + 1 => by
    rw [show (i + 1) * 3 = (i * 3) + 1 + 1 + 1 by omega]
    simp only [entL, List.drop_succ_cons]
    exact entL_dropM es i
theorem AE.blkM {n0 : Nat} {h : Heap} {a : Option Addr} {c : Nat} {es : List E3} (ha : AE n0 h (.slice a es.length c) es) (h0 : 0 < es.length) :
    ∃ b o all, a = some ⟨b, o, none⟩ ∧ n0 ≤ b ∧ h.blks[b]? = some ⟨.cells all, 99, true⟩ ∧ o + es.length * 3 ≤ all.length ∧ (all.drop o).take (es.length * 3) = entL es ∧ (c = UNK ∨ c = es.length) := by
  have key : ∀ {v : Value} {n : Nat} {cs : List Value}, Acc n0 h 99 3 v n cs → 0 < n → v = .slice a n c → ∃ b o all, a = some ⟨b, o, none⟩ ∧ n0 ≤ b ∧ h.blks[b]? = some ⟨.cells all, 99, true⟩ ∧ o + n * 3 ≤ all.length ∧ (all.drop o).take (n * 3) = cs ∧ (c = UNK ∨ c = n) := by
    intro v n cs x hn hv
    cases x with
    | nil => omega
    | full h1 h2 h3 h4 h5 => injection hv with e1 e2 e3; subst e1; exact ⟨_, _, _, rfl, h1, h3, h4, h5, .inr e3.symm⟩
    | unk h1 h2 h3 h4 => injection hv with e1 e2 e3; subst e1; exact ⟨_, _, _, rfl, h1, h2, h3, h4, .inl e3.symm⟩
  exact key ha h0 rfl
theorem insOk_all {es : List E3} {x : E3} (hl : es.length < 2 ^ 38) : InsOk es x := by
  by_cases hk : bsK es x = es.length
  · exact insOk_end hk hl
  intro hg hm hb n0 h a c hn ha
  have hlt : bsK es x < es.length := by have := bsK_leM es x; omega
  obtain ⟨b, o, all, rfl, hb0, hbk, hle, he, hc⟩ := AE.blkM ha (by omega)
  have hbl : b < h.blks.length := (List.getElem?_eq_some_iff.1 hbk).1
  have hk1 : (h.new (.cells (entC x)) 99).blks[b]? = some ⟨.cells all, 99, true⟩ := (Heap.new_old hbl).trans hbk
  have hk2 : (h.new (.cells (entC x)) 99).blks[h.blks.length]? = some ⟨.cells (entC x), 99, true⟩ := blk_new_self _ _ _
  have hone : ((all.drop o).take (es.length * 3)).all Value.oneCell' = true := by rw [he]; exact entL_one es
  have hL : ((all.drop o).take (bsK es x * 3) ++ (entC x ++ ((all.drop o).take (es.length * 3)).drop (bsK es x * 3))) = entL (insE es x) := by
    have h1 : (all.drop o).take (bsK es x * 3) = entL (es.take (bsK es x)) := by
      rw [← entL_takeM, ← he, List.take_take, Nat.min_eq_left (by omega)]
    rw [h1, he, entL_dropM]
    unfold insE
    rw [entL_app]
    rfl
  have hlen : (insE es x).length = es.length + 1 := by unfold insE; rw [List.length_append, List.length_cons, List.length_take, List.length_drop]; omega
  have hpl : ((h.new (.cells (entC x)) 99).put b .dead).blks.length = h.blks.length + 1 := by rw [Heap.put_len]; simp [Heap.new]
  refine ⟨some ⟨h.blks.length + 1, 0, none⟩, UNK, ((h.new (.cells (entC x)) 99).put b .dead).new (.cells (entL (insE es x))) 99, ?_, ?_, ⟨hn, ?_, fun q hq => ?_, fun m hm' => ?_⟩, fun q hq hne => ?_⟩
  · rw [evC_ext xt_ins]
    unfold insX
    simp only []
    rw [if_neg (by omega), if_pos ⟨by omega, by omega, by omega, hc⟩]
    simp only [hk1, hk2]
    rw [if_pos ⟨trivial, trivial, by omega, hle, rfl, rfl, hone⟩, Int.toNat_natCast, hL, hlen]
    rw [show (h.new (.cells (entC x)) 99).blks.length = h.blks.length + 1 by simp [Heap.new]]
  · have := blk_new_self ((h.new (.cells (entC x)) 99).put b .dead) (.cells (entL (insE es x))) 99
    rw [hpl] at this
    exact .unk (by omega) this (by rw [entL_len]; omega) (by rw [List.drop_zero, ← entL_len, List.take_length])
  · rw [Heap.new_len, hpl]; omega
  · rw [Heap.new_old (by rw [hpl]; omega), Heap.put_other (by omega), Heap.new_old (by omega)]
  · have : (((h.new (.cells (entC x)) 99).put b .dead).new (.cells (entL (insE es x))) 99).mods = b :: h.mods := by rw [Heap.put_eq hk1]; rfl
    rw [this] at hm'
    rcases List.mem_cons.1 hm' with rfl | hm'
    · exact .inr hb0
    · exact .inl hm'
  · rw [Heap.new_old (by rw [hpl]; omega), Heap.put_other (fun e => hne (by rw [e]; rfl)), Heap.new_old hq]
theorem spec_TakeNo {h : Heap} {p s : Nat} {n : Nat} {me : Int} {num : Nat} {es : List E3} {ns : List Nat} (l : LEn h p s n me num es ns) (fr : Int) (k to : Nat) {v : Value} {bs : List UInt8} (sb : SB h v bs) (hbs : bs.length < 2 ^ 26) (hc : canE n me ns fr k bs = false) :
    ∃ h', evC Tryz.prog 9 #[.pointer (some ⟨p, 0, none⟩), .int .i64 fr, .int .u64 k, .int .u64 to, v] h = some (.bool false, h') ∧ HExt h h' := by
  rw [call9]
  obtain ⟨h1, q1,Ab⟩ := spec_Can (l.same (sameNm h)) fr k sb.nm (by omega)
  rw [hc] at q1
  refine ⟨done h h1, ?_, zCf (Ab.inn (Nat.le_refl _))⟩
  simp -implicitDefEqProofs (disch := omega) only [↓c9_0_eq, q1, ↓ret9, ↓zAf, ↓zAb, ↓Option.bind_some, ↓zAa, zBd, zBm, zBl, zBe, zBn, zBk, zBi, zBf, zBj, zBq, zBp, Option.bind_some, Option.bind_none, Option.map_some, zAf, zAb, zAl, zAk, zBh, zAw, zAy, zAp, zBc, zAs, zBa, zAr, zBt, zBu, zBv, zBs, zAz, zAa, zAc, zAd, zAe, zAh, zAm, zAg, zAj, zAn, zAi, zAu, zAx, zAv, zBb, zAt, Bool.not_true, Bool.not_false, zCk, zCj, zCl, zCi, zCm, zAq, zAo, zBg, zBo, zBr, cond_true, cond_false, Nat.reduceBEq]
end Go.Am
namespace Go.Am
theorem key_eq {x y : E3} (h1 : ¬ ltE x y) (h2 : ¬ ltE y x) : x.f = y.f ∧ x.n = y.n := by unfold ltE at *; omega
theorem bsK_le (es : List E3) (t : E3) : bsK es t ≤ es.length := List.Sublist.length_le (List.takeWhile_sublist _)
theorem bs_true {es : List E3} {t : E3} (h : bsF es t = true) : ∃ z, es[bsK es t]? = some z ∧ z ∈ es ∧ z.f = t.f ∧ z.n = t.n := by
  unfold bsF at h
  split at h
  · rename_i z hz
    have := (cmpE_eq _ _).1 (of_decide_eq_true h)
    exact ⟨z, hz, List.mem_of_getElem? hz, this.1, this.2⟩
  · cases h
theorem bs_of : ∀ {es : List E3} {t z : E3}, Srt es → z ∈ es → z.f = t.f → z.n = t.n → es[bsK es t]? = some z ∧ bsF es t = true
  | [], t, z, _, hz, _, _ => by cases hz
  | e :: es, t, z, hs, hz, hf, hn => by
    obtain ⟨h1, h2⟩ := List.pairwise_cons.1 hs
    rcases List.mem_cons.1 hz with rfl | hz'
    · have hc : ¬ cmpE z t < 0 := fun h => by have := (cmpE_lt _ _).1 h; unfold ltE at this; omega
      have h0 : bsK (z :: es) t = 0 := by simp [bsK, hc]
      have he : cmpE z t = 0 := (cmpE_eq _ _).2 ⟨hf, hn⟩
      refine ⟨by rw [h0]; rfl, ?_⟩
      unfold bsF
      rw [h0]
      simp [he]
    · have hlt : ltE e z := h1 z hz'
      have hc : cmpE e t < 0 := (cmpE_lt _ _).2 (by unfold ltE at *; omega)
      have hk : bsK (e :: es) t = bsK es t + 1 := by simp [bsK, hc]
      obtain ⟨g1, g2⟩ := bs_of h2 hz' hf hn
      refine ⟨by rw [hk]; simpa using g1, ?_⟩
      unfold bsF at g2 ⊢
      rw [hk]
      simpa using g2
theorem bs_iff {es : List E3} (hs : Srt es) (t : E3) : bsF es t = true ↔ ∃ z ∈ es, z.f = t.f ∧ z.n = t.n :=
  ⟨fun h => let ⟨z, _, h1, h2, h3⟩ := bs_true h; ⟨z, h1, h2, h3⟩, fun ⟨_, h1, h2, h3⟩ => (bs_of hs h1 h2 h3).2⟩
theorem mem_both {es fs : List E3} (hf : Srt fs) (x : E3) : x ∈ bothE es fs ↔ ∃ y ∈ es, ∃ z ∈ fs, z.f = y.f ∧ z.n = y.n ∧ x = { y with t := y.t &&& z.t } := by
  unfold bothE
  rw [List.mem_filterMap]
  constructor
  · rintro ⟨y, hy, h⟩
    unfold bothF at h
    split at h
    · rename_i hb
      obtain ⟨z, h1, h2, h3, h4⟩ := bs_true hb
      rw [List.getD_eq_getElem?_getD, h1] at h
      cases h
      exact ⟨y, hy, z, h2, h3, h4, rfl⟩
    · cases h
  · rintro ⟨y, hy, z, hz, h1, h2, rfl⟩
    obtain ⟨g1, g2⟩ := bs_of hf hz h1 h2
    refine ⟨y, hy, ?_⟩
    unfold bothF
    rw [if_pos g2, List.getD_eq_getElem?_getD, g1]
    rfl
theorem mem_news {es fs : List E3} (hf : Srt fs) {x : E3} (h : x ∈ zDg es fs) : x ∈ es ∧ ¬ ∃ z ∈ fs, z.f = x.f ∧ z.n = x.n := by
  unfold zDg at h
  rw [List.mem_filter] at h
  obtain ⟨h1, h2⟩ := h
  simp only [Bool.and_eq_true, Bool.not_eq_true'] at h2
  exact ⟨h1, fun hz => by rw [(bs_iff hf x).2 hz] at h2; cases h2.1⟩
theorem srt_both {es fs : List E3} (he : Srt es) : Srt (bothE es fs) := by
  unfold bothE
  refine List.pairwise_filterMap.2 (he.imp fun {a b} hab x hx y hy => ?_)
  unfold bothF at hx hy
  split at hx
  · split at hy
    · cases hx; cases hy
      unfold ltE at *
      exact hab
    · cases hy
  · cases hx
theorem join_dist {es fs : List E3} (he : Srt es) (hf : Srt fs) : (zDg es fs ++ zDg fs es ++ bothE es fs).Pairwise fun a b => ltE a b ∨ ltE b a := by
  have dif : ∀ {a b : E3}, ¬ (a.f = b.f ∧ a.n = b.n) → ltE a b ∨ ltE b a := fun {a b} h => by
    refine Classical.byContradiction fun hn => h ?_
    exact key_eq (fun h1 => hn (.inl h1)) (fun h1 => hn (.inr h1))
  have n1 : (zDg es fs).Pairwise fun a b => ltE a b ∨ ltE b a := (he.sublist List.filter_sublist).imp fun h => .inl h
  have n2 : (zDg fs es).Pairwise fun a b => ltE a b ∨ ltE b a := (hf.sublist List.filter_sublist).imp fun h => .inl h
  have n3 : (bothE es fs).Pairwise fun a b => ltE a b ∨ ltE b a := (srt_both he).imp fun h => .inl h
  refine List.pairwise_append.2 ⟨List.pairwise_append.2 ⟨n1, n2, fun a ha b hb => dif fun ⟨h1, h2⟩ => ?_⟩, n3, fun a ha b hb => dif fun ⟨h1, h2⟩ => ?_⟩
  · have g1 := mem_news hf ha
    have g2 := mem_news he hb
    exact g1.2 ⟨b, g2.1, h1.symm, h2.symm⟩
  · obtain ⟨y, hy, z, hz, h3, h4, rfl⟩ := (mem_both hf b).1 hb
    simp only at h1 h2
    rcases List.mem_append.1 ha with h | h
    · exact (mem_news hf h).2 ⟨z, hz, by omega, by omega⟩
    · exact (mem_news he h).2 ⟨y, hy, by omega, by omega⟩
theorem srt_join {es fs : List E3} (hg : goodE es = true) (hg2 : goodE fs = true) : goodE (joinE es fs) = true := by
  have h1 := (zCx es).1 hg
  have h2 := (zCx fs).1 hg2
  unfold joinE
  rw [if_pos ⟨hg, hg2⟩, zCx]
  refine ⟨fun e he => ?_, srtE_srt (join_dist h1.2 h2.2)⟩
  have := (srtE_perm _).subset he
  rcases List.mem_append.1 this with h | h
  · rcases List.mem_append.1 h with h | h
    · exact h1.1 e (mem_news h2.2 h).1
    · exact h2.1 e (mem_news h1.2 h).1
  · obtain ⟨y, hy, z, hz, h3, h4, rfl⟩ := (mem_both h2.2 e).1 h
    have := h1.1 y hy
    unfold mayE at this ⊢
    simp only [Bool.and_eq_true, decide_eq_true_eq] at this ⊢
    exact ⟨this.1, this.2.1, this.2.2.1, Nat.lt_of_le_of_lt Nat.and_le_left this.2.2.2⟩
theorem srt_mem {a b : List E3} (ha : Srt a) (hb : Srt b) (h : ∀ x, x ∈ a ↔ x ∈ b) : a = b := by
  have nd : ∀ {l : List E3}, Srt l → l.Nodup := fun h => h.imp fun {a b} hab e => by subst e; exact ltE_irr a hab
  exact srt_unique ha hb ((List.perm_ext_iff_of_nodup (nd ha) (nd hb)).2 h)
end Go.Am
namespace Go.Am
set_option maxRecDepth 100000
set_option linter.all false
theorem purgeL_head : ∀ (e : E3) (l : List E3), ∃ x r, zCv (e :: l) = x :: r ∧ x.f = e.f
  | e, [] => ⟨e, [], rfl, rfl⟩
  | e, e' :: l => by
    rw [purgeL_two]
    split
    · exact ⟨e, _, rfl, rfl⟩
    · rename_i h
      obtain ⟨x, r, h1, h2⟩ := purgeL_head e' l
      exact ⟨x, r, h1, h2.trans (Classical.byContradiction fun hn => h (.inr hn))⟩
theorem purgeL_next : ∀ (l : List E3) (i : Nat) (h : i + 1 < (zCv l).length), (zCv l)[i].t = 0 → (zCv l)[i + 1].f ≠ (zCv l)[i].f
  | [], i, h => by simp [zCv] at h
  | [e], i, h => by simp [zCv] at h
  | e :: e' :: l, i, h => by
    have key : ∀ (q : List E3), q = zCv (e :: e' :: l) → ∀ (h : i + 1 < q.length), q[i].t = 0 → q[i + 1].f ≠ q[i].f := by
      intro q hq h
      rw [purgeL_two] at hq
      split at hq
      · rename_i hk
        subst hq
        cases i with
        | zero =>
          intro h0
          simp only [List.getElem_cons_zero, List.getElem_cons_succ] at h0 ⊢
          obtain ⟨x, r, h1, h2⟩ := purgeL_head e' l
          simp only [h1, List.getElem_cons_zero]
          rw [h2]
          exact hk.resolve_left fun hn => hn h0
        | succ i =>
          intro h0
          simp only [List.getElem_cons_succ] at h0 ⊢
          exact purgeL_next (e' :: l) i (by simpa using h) h0
      · subst hq
        exact purgeL_next (e' :: l) i h
    exact key _ rfl h
theorem purgeL_sub : ∀ l : List E3, (zCv l).Sublist l
  | [] => .slnil
  | [e] => List.Sublist.refl _
  | e :: e' :: l => by
    rw [purgeL_two]
    split
    · exact (purgeL_sub (e' :: l)).cons_cons e
    · exact (purgeL_sub (e' :: l)).cons e
theorem good_purge {es : List E3} (h : goodE es = true) : goodE (zCv es) = true := by
  rw [zCx] at h ⊢
  exact ⟨fun e he => h.1 e ((purgeL_sub es).subset he), h.2.sublist (purgeL_sub es)⟩

theorem may_less {e : E3} (to : Nat) (h : mayE e = true) : mayE (lessF to e) = true := by
  unfold mayE lessF at *
  simp only [Bool.and_eq_true, decide_eq_true_eq] at h ⊢
  have : outB e.t to ≤ e.t := Nat.and_le_left
  exact ⟨h.1, h.2.1, h.2.2.1, by omega⟩
theorem good_less {es : List E3} (to : Nat) (h : goodE es = true) : goodE (zDe es to) = true := by
  unfold zDe
  rw [if_pos h]
  rw [zCx] at h ⊢
  refine ⟨fun e he => ?_, ?_⟩
  · obtain ⟨x, hx, rfl⟩ := List.mem_map.1 he
    exact may_less to (h.1 x hx)
  · exact List.pairwise_map.2 (h.2.imp fun k => k)
theorem bsK_lo {es : List E3} {x : E3} (i : Nat) (hi : i < bsK es x) (hl : i < es.length) : ltE es[i] x := by
  have key : ∀ (l : List E3) (i : Nat) (hi : i < (l.takeWhile fun e => decide (cmpE e x < 0)).length) (hl : i < l.length), ltE l[i] x := by
    intro l
    induction l with
    | nil => intro i hi hl; simp at hl
    | cons e l ih =>
      intro i hi hl
      rw [List.takeWhile_cons] at hi
      split at hi
      · rename_i h
        cases i with
        | zero => exact (cmpE_lt e x).1 (of_decide_eq_true h)
        | succ i => exact ih i (by simpa using hi) (by simpa using hl)
      · simp at hi
  exact key es i hi hl
theorem bsK_ge {es : List E3} {x : E3} (hl : bsK es x < es.length) : ¬ ltE es[bsK es x] x := by
  have key : ∀ (l : List E3) (hl : (l.takeWhile fun e => decide (cmpE e x < 0)).length < l.length), ¬ ltE l[(l.takeWhile fun e => decide (cmpE e x < 0)).length] x := by
    intro l
    induction l with
    | nil => intro hl; simp at hl
    | cons e l ih =>
      intro hl
      by_cases h : cmpE e x < 0
      · have e1 : (List.takeWhile (fun e => decide (cmpE e x < 0)) (e :: l)) = e :: l.takeWhile fun e => decide (cmpE e x < 0) := by rw [List.takeWhile_cons, if_pos (decide_eq_true h)]
        simp only [e1, List.length_cons] at hl ⊢
        exact ih (by omega)
      · have e1 : (List.takeWhile (fun e => decide (cmpE e x < 0)) (e :: l)) = [] := by rw [List.takeWhile_cons, if_neg (by rw [decide_eq_false h]; decide)]
        simp only [e1, List.length_nil, List.getElem_cons_zero]
        exact fun k => h ((cmpE_lt e x).2 k)
  exact key es hl
theorem good_add {es : List E3} {x : E3} (h : goodE es = true) (hm : mayE x = true) : goodE (addE es x) = true := by
  unfold addE
  rw [if_pos ⟨h, hm⟩]
  have hh := (zCx es).1 h
  split
  · rename_i hb
    have hlt := bsF_lt hb
    have hz : cmpE es[bsK es x] x = 0 := by
      unfold bsF at hb
      rw [List.getElem?_eq_getElem hlt] at hb
      exact of_decide_eq_true hb
    have hfn : es[bsK es x].f = x.f ∧ es[bsK es x].n = x.n := by
      have h1 : ¬ ltE es[bsK es x] x := fun k => by have := (cmpE_lt _ _).2 k; omega
      refine key_eq h1 fun k => ?_
      unfold ltE at k
      unfold cmpE at hz
      split at hz
      · omega
      · split at hz
        · omega
        · split at hz
          · omega
          · split at hz
            · omega
            · omega
    rw [zCx]
    refine ⟨fun e he => ?_, ?_⟩
    · rcases List.mem_or_eq_of_mem_set he with he | rfl
      · exact hh.1 e he
      · exact hm
    · refine List.pairwise_iff_getElem.2 fun i j hi hj hij => ?_
      have hi' : i < es.length := by simpa using hi
      have hj' : j < es.length := by simpa using hj
      have base := List.pairwise_iff_getElem.1 hh.2 i j hi' hj' hij
      rw [List.getElem_set, List.getElem_set]
      split
      · rename_i e1
        subst e1
        rw [if_neg (by omega)]
        unfold ltE at base ⊢
        rw [← hfn.1, ← hfn.2]
        exact base
      · split
        · rename_i e2
          subst e2
          unfold ltE at base ⊢
          rw [← hfn.1, ← hfn.2]
          exact base
        · exact base
  · rename_i hb
    rw [zCx]
    unfold insE
    refine ⟨fun e he => ?_, ?_⟩
    · rcases List.mem_append.1 he with he | he
      · exact hh.1 e (List.mem_of_mem_take he)
      · rcases List.mem_cons.1 he with rfl | he
        · exact hm
        · exact hh.1 e (List.mem_of_mem_drop he)
    · have hlo : ∀ y ∈ es.take (bsK es x), ltE y x := fun y hy => by
        obtain ⟨i, hi, rfl⟩ := List.getElem_of_mem hy
        rw [List.length_take] at hi
        rw [List.getElem_take]
        exact bsK_lo i (by omega) (by omega)
      have hhi : ∀ y ∈ es.drop (bsK es x), ltE x y := fun y hy => by
        have hlt : bsK es x < es.length := by
          rcases Nat.lt_or_ge (bsK es x) es.length with h1 | h1
          · exact h1
          · rw [List.drop_of_length_le h1] at hy; cases hy
        have h1 := bsK_ge hlt
        have h2 : ltE x es[bsK es x] := by
          refine Classical.byContradiction fun h2 => hb ?_
          obtain ⟨h3, h4⟩ := key_eq h1 h2
          unfold bsF
          rw [List.getElem?_eq_getElem hlt]
          simp only
          refine decide_eq_true ?_
          unfold cmpE
          rw [if_neg (by omega), if_neg (by omega), if_neg (by omega), if_neg (by omega)]
        obtain ⟨j, hj, rfl⟩ := List.getElem_of_mem hy
        rw [List.getElem_drop]
        rw [List.length_drop] at hj
        rcases Nat.eq_zero_or_pos j with h0 | h0
        · subst h0; exact h2
        · exact ltE_trans h2 (List.pairwise_iff_getElem.1 hh.2 _ _ hlt (by omega) (by omega))
      refine List.pairwise_append.2 ⟨hh.2.sublist (List.take_sublist _ _), List.pairwise_cons.2 ⟨hhi, hh.2.sublist (List.drop_sublist _ _)⟩, fun a ha b hb' => ?_⟩
      rcases List.mem_cons.1 hb' with rfl | hb'
      · exact hlo a ha
      · exact ltE_trans (hlo a ha) (hhi b hb')
structure LInv (me : Int) (es : List E3) : Prop where
  good : goodE es = true
  here : ∀ e ∈ es, hasB e.t me = false
  next : ∀ (i : Nat) (h : i + 1 < es.length), es[i].t = 0 → es[i + 1].f ≠ es[i].f
theorem mem_purgeE {es : List E3} {e : E3} (h : e ∈ purgeE es) : e ∈ es := (purgeE_sub es).subset h
theorem inv_purge {me : Int} {es : List E3} (h : goodE es = true) (hh : ∀ e ∈ es, hasB e.t me = false) : LInv me (purgeE es) := by
  refine ⟨?_, fun e he => hh e (mem_purgeE he), ?_⟩
  · unfold purgeE; rw [if_pos h]; exact good_purge h
  · unfold purgeE; rw [if_pos h]; exact fun i hi => purgeL_next es i hi
theorem hasB_out (t to : Nat) (me : Int) (h : hasB t me = false) : hasB (outB t to) me = false := by
  unfold hasB outB at *
  rw [Nat.testBit_and]
  cases hb : t.testBit me.toNat with
  | false => simp
  | true =>
    rw [hb, Bool.and_true] at h
    rw [h]; rfl
theorem hasB_outMe (t : Nat) (me : Int) (ht : t < 2 ^ 64) (h0 : 0 ≤ me) (h1 : me < 16) : hasB (outB t (ofN me)) me = false := by
  obtain ⟨m, rfl⟩ : ∃ m : Nat, me = m := ⟨me.toNat, by omega⟩
  have ho : ofN (m : Int) = 2 ^ m := by unfold ofN; rw [if_pos (by omega), Int.toNat_natCast]
  unfold hasB outB
  rw [ho, Int.toNat_natCast, Nat.testBit_and, show (2 ^ 64 - 1 - 2 ^ m : Nat) = 2 ^ 64 - (2 ^ m + 1) by omega, Nat.testBit_two_pow_sub_succ (Nat.pow_lt_pow_right (by omega) (by omega)), Nat.testBit_two_pow_self]
  simp
theorem here_less {me : Int} {es : List E3} (to : Nat) (h : ∀ e ∈ es, hasB e.t me = false) : ∀ e ∈ zDe es to, hasB e.t me = false := fun e he => by
  unfold zDe at he
  split at he
  · obtain ⟨x, hx, rfl⟩ := List.mem_map.1 he
    exact hasB_out _ _ _ (h x hx)
  · exact h e he
theorem inv_send {me : Int} {es : List E3} (I : LInv me es) (num t : Nat) (hme : 0 ≤ me) (hme2 : me < 16) (ht : t < 65536) (htm : hasB t me = false) : LInv me (sendLog es me num t) := by
  unfold sendLog
  have hm : mayE ⟨me, num + 1, t⟩ = true := by
    unfold mayE
    simp only [Bool.and_eq_true, decide_eq_true_eq]
    exact ⟨hme, hme2, by omega, ht⟩
  refine inv_purge (good_add (good_less t I.good) hm) fun e he => ?_
  rcases mem_addE he with he | rfl
  · exact here_less t I.here e he
  · exact htm
theorem inv_take {me : Int} {es g : List E3} (I : LInv me es) (hg : goodE g = true) (fr : Int) (k to : Nat) (hx : mayE ⟨fr, k, to⟩ = true) (hme : 0 ≤ me) (hme2 : me < 16) : LInv me (takeLog es me fr k to g) := by
  unfold takeLog
  have h1 := good_less (ofN me) (good_add hg hx)
  have h2 := srt_join I.good h1
  generalize joinE es (zDe (addE g ⟨fr, k, to⟩) (ofN me)) = J at *
  refine inv_purge (good_less _ h2) fun e he => ?_
  unfold zDe at he
  rw [if_pos h2] at he
  obtain ⟨x, hx', rfl⟩ := List.mem_map.1 he
  have := (zCx _).1 h2
  have hm := this.1 x hx'
  unfold mayE at hm
  simp only [Bool.and_eq_true, decide_eq_true_eq] at hm
  exact hasB_outMe x.t me (by omega) hme hme2
theorem getP_good {bs : List UInt8} {g : List E3} (h : getP bs = some g) : goodE g = true := by
  unfold getP logOf at h
  split at h
  · rename_i hc
    cases h
    exact hc.2
  · cases h
theorem LInv.wide {me : Int} {es : List E3} (I : LInv me es) (hn : ∀ e ∈ es, e.n < 2 ^ 64) : wide es := fun e he => by
  have hm := ((zCx es).1 I.good).1 e he
  unfold mayE at hm
  simp only [Bool.and_eq_true, decide_eq_true_eq] at hm
  exact ⟨hn e he, by omega⟩
end Go.Am
namespace Go.Am
set_option maxRecDepth 100000
set_option linter.all false
theorem filter_split {α : Type} (p : α → Bool) : ∀ l : List α, l.length = (l.filter p).length + (l.filter fun x => !p x).length
  | [] => rfl
  | x :: l => by
    have := filter_split p l
    rw [List.filter_cons, List.filter_cons]
    cases p x <;> simp <;> omega
theorem dis_len : ∀ (n : Nat) (l : List Nat), (∀ a ∈ l, 0 < a ∧ a < 2 ^ n) → l.Pairwise (fun a b => a &&& b = 0) → l.length ≤ n
  | 0, l, h, _ => by
    cases l with
    | nil => simp
    | cons a l => have := h a (by simp); omega
  | n + 1, l, h, hp => by
    have h1 := filter_split (fun a : Nat => a.testBit n) l
    have h2 : (l.filter fun a : Nat => !a.testBit n).length ≤ n := by
      refine dis_len n _ (fun a ha => ?_) (hp.sublist List.filter_sublist)
      obtain ⟨ha1, ha2⟩ := List.mem_filter.1 ha
      have hb := h a ha1
      refine ⟨hb.1, ?_⟩
      rw [Bool.not_eq_true'] at ha2
      refine Nat.lt_of_not_le fun hge => ?_
      have : a.testBit n = true := by
        rw [Nat.testBit_eq_decide_div_mod_eq]
        have e : a / 2 ^ n = 1 := by
          have hlt : a < 2 ^ n * 2 := by rw [← Nat.pow_succ]; exact hb.2
          have u : a / 2 ^ n < 2 := Nat.div_lt_of_lt_mul hlt
          have v : 1 ≤ a / 2 ^ n := (Nat.le_div_iff_mul_le (Nat.two_pow_pos n)).2 (by omega)
          omega
        rw [e]; rfl
      rw [this] at ha2; cases ha2
    have h3 : (l.filter fun a : Nat => a.testBit n).length ≤ 1 := by
      have hq := hp.sublist (List.filter_sublist (p := fun a : Nat => a.testBit n) (l := l))
      have hm : ∀ a ∈ l.filter (fun a : Nat => a.testBit n), a.testBit n = true := fun a ha => (List.mem_filter.1 ha).2
      revert hq hm
      generalize l.filter (fun a : Nat => a.testBit n) = q
      intro hq hm
      match q, hq, hm with
      | [], _, _ => simp
      | [a], _, _ => simp
      | a :: b :: q, hq, hm =>
        have e := (List.pairwise_cons.1 hq).1 b (by simp)
        have := congrArg (fun x => Nat.testBit x n) e
        simp only [Nat.testBit_and, hm a (by simp), hm b (by simp), Nat.zero_testBit] at this
        cases this
    omega
theorem count_f (c : Nat) : ∀ (m : Nat) (es : List E3), (∀ e ∈ es, 0 ≤ e.f ∧ e.f < m) → (∀ f : Int, (es.filter fun e => decide (e.f = f)).length ≤ c) → es.length ≤ m * c
  | 0, es, h, _ => by
    cases es with
    | nil => simp
    | cons a l => have := h a (by simp); omega
  | m + 1, es, h, hc => by
    have h1 := filter_split (fun e : E3 => decide (e.f = (m : Int))) es
    have h2 := hc (m : Int)
    have h3 : (es.filter fun e => !decide (e.f = (m : Int))).length ≤ m * c := by
      refine count_f c m _ (fun e he => ?_) (fun f => ?_)
      · obtain ⟨a, b⟩ := List.mem_filter.1 he
        have := h e a
        simp only [Bool.not_eq_true', decide_eq_false_iff_not] at b
        omega
      · refine Nat.le_trans ?_ (hc f)
        exact (List.Sublist.filter _ List.filter_sublist).length_le
    rw [Nat.succ_mul]
    omega
structure SInv (n : Nat) (es : List E3) : Prop where
  good : goodE es = true
  frm : ∀ e ∈ es, e.f < n
  wid : ∀ e ∈ es, e.t < 2 ^ n
  dis : es.Pairwise fun a b => a.f = b.f → a.t &&& b.t = 0
theorem SInv.f0 {n : Nat} {es : List E3} (s : SInv n es) : ∀ e ∈ es, 0 ≤ e.f := fun e he => by
  have := ((zCx es).1 s.good).1 e he
  unfold mayE at this
  simp only [Bool.and_eq_true, decide_eq_true_eq] at this
  exact this.1
theorem zero_one {es : List E3} (hs : Srt es) (nx : ∀ (i : Nat) (h : i + 1 < es.length), es[i].t = 0 → es[i + 1].f ≠ es[i].f) (f : Int) : (es.filter fun e => decide (e.f = f ∧ e.t = 0)).length ≤ 1 := by
  have key : (es.filter fun e => decide (e.f = f ∧ e.t = 0)).Pairwise fun a b => False := by
    refine List.pairwise_filter.2 (List.pairwise_iff_getElem.2 fun i j hi hj hij h1 h2 => ?_)
    simp only [decide_eq_true_eq] at h1 h2
    have n1 := nx i (by omega) h1.2
    have o1 := List.pairwise_iff_getElem.1 hs i (i + 1) hi (by omega) (by omega)
    rcases Nat.eq_or_lt_of_le (show i + 1 ≤ j by omega) with e | e
    · subst e; exact n1 (h2.1.trans h1.1.symm)
    · have o2 := List.pairwise_iff_getElem.1 hs (i + 1) j (by omega) hj e
      unfold ltE at o1 o2
      omega
  revert key
  generalize es.filter (fun e => decide (e.f = f ∧ e.t = 0)) = q
  intro key
  match q, key with
  | [], _ => simp
  | [a], _ => simp
  | a :: b :: q, k => exact False.elim ((List.pairwise_cons.1 k).1 b (by simp))
theorem SInv.len {n : Nat} {es : List E3} (s : SInv n es) (nx : ∀ (i : Nat) (h : i + 1 < es.length), es[i].t = 0 → es[i + 1].f ≠ es[i].f) : es.length ≤ n * n + n := by
  have h := count_f (n + 1) n es (fun e he => ⟨s.f0 e he, s.frm e he⟩) fun f => ?_
  · rw [Nat.mul_succ] at h; exact h
  · have hs := ((zCx es).1 s.good).2
    have z := zero_one hs nx f
    have sp := filter_split (fun e : E3 => decide (e.t = 0)) (es.filter fun e => decide (e.f = f))
    have e1 : (es.filter fun e => decide (e.f = f)).filter (fun e : E3 => decide (e.t = 0)) = es.filter fun e => decide (e.f = f ∧ e.t = 0) := by
      rw [List.filter_filter]
      refine List.filter_congr fun e _ => ?_
      by_cases a : e.f = f <;> by_cases b : e.t = 0 <;> simp [a, b]
    rw [e1] at sp
    have d : (((es.filter fun e => decide (e.f = f)).filter fun e : E3 => !decide (e.t = 0)).map fun e => e.t).length ≤ n := by
      refine dis_len n _ (fun a ha => ?_) (List.pairwise_map.2 ?_)
      · obtain ⟨e, he, rfl⟩ := List.mem_map.1 ha
        obtain ⟨he1, he2⟩ := List.mem_filter.1 he
        obtain ⟨he3, _⟩ := List.mem_filter.1 he1
        simp only [Bool.not_eq_true', decide_eq_false_iff_not] at he2
        exact ⟨by omega, s.wid e he3⟩
      · have p2 : (es.filter fun e => decide (e.f = f)).Pairwise fun a b => a.t &&& b.t = 0 := by
          refine List.pairwise_filter.2 (s.dis.imp fun {a b} hab ha hb => ?_)
          simp only [decide_eq_true_eq] at ha hb
          exact hab (ha.trans hb.symm)
        exact p2.sublist List.filter_sublist
    rw [List.length_map] at d
    omega
theorem SInv.sub {n : Nat} {es fs : List E3} (s : SInv n es) (h : fs.Sublist es) (g : goodE fs = true) : SInv n fs :=
  ⟨g, fun e he => s.frm e (h.subset he), fun e he => s.wid e (h.subset he), s.dis.sublist h⟩
theorem SInv.purge {n : Nat} {es : List E3} (s : SInv n es) : SInv n (purgeE es) := by
  refine s.sub (purgeE_sub es) ?_
  unfold purgeE
  rw [if_pos s.good]
  exact good_purge s.good
theorem SInv.less {n : Nat} {es : List E3} (s : SInv n es) (to : Nat) : SInv n (zDe es to) := by
  refine ⟨good_less to s.good, ?_, ?_, ?_⟩
  all_goals unfold zDe
  all_goals rw [if_pos s.good]
  · intro e he
    obtain ⟨x, hx, rfl⟩ := List.mem_map.1 he
    exact s.frm x hx
  · intro e he
    obtain ⟨x, hx, rfl⟩ := List.mem_map.1 he
    exact Nat.lt_of_le_of_lt Nat.and_le_left (s.wid x hx)
  · refine List.pairwise_map.2 (s.dis.imp fun {a b} hab hf => ?_)
    have := hab hf
    show (a.t &&& _) &&& (b.t &&& _) = 0
    apply Nat.eq_of_testBit_eq
    intro i
    have hi := congrArg (fun x => Nat.testBit x i) this
    simp only [Nat.testBit_and, Nat.zero_testBit] at hi ⊢
    cases ha : a.t.testBit i <;> cases hb : b.t.testBit i <;> simp_all
end Go.Am
namespace Go.Am
set_option maxRecDepth 100000
set_option linter.all false
theorem bsK_loR {es : List E3} {x : E3} (i : Nat) (hi : i < bsK es x) (hl : i < es.length) : ltE es[i] x := by
  have key : ∀ (l : List E3) (i : Nat) (hi : i < (l.takeWhile fun e => decide (cmpE e x < 0)).length) (hl : i < l.length), ltE l[i] x := by
    intro l
    induction l with
    | nil => intro i hi hl; simp at hl
    | cons e l ih =>
      intro i hi hl
      rw [List.takeWhile_cons] at hi
      split at hi
      · rename_i h
        cases i with
        | zero => exact (cmpE_lt e x).1 (of_decide_eq_true h)
        | succ i => exact ih i (by simpa using hi) (by simpa using hl)
      · simp at hi
  exact key es i hi hl
theorem bsK_geR {es : List E3} {x : E3} (hl : bsK es x < es.length) : ¬ ltE es[bsK es x] x := by
  have key : ∀ (l : List E3) (hl : (l.takeWhile fun e => decide (cmpE e x < 0)).length < l.length), ¬ ltE l[(l.takeWhile fun e => decide (cmpE e x < 0)).length] x := by
    intro l
    induction l with
    | nil => intro hl; simp at hl
    | cons e l ih =>
      intro hl
      by_cases h : cmpE e x < 0
      · have e1 : (List.takeWhile (fun e => decide (cmpE e x < 0)) (e :: l)) = e :: l.takeWhile fun e => decide (cmpE e x < 0) := by rw [List.takeWhile_cons, if_pos (decide_eq_true h)]
        simp only [e1, List.length_cons] at hl ⊢
        exact ih (by omega)
      · have e1 : (List.takeWhile (fun e => decide (cmpE e x < 0)) (e :: l)) = [] := by rw [List.takeWhile_cons, if_neg (by rw [decide_eq_false h]; decide)]
        simp only [e1, List.length_nil, List.getElem_cons_zero]
        exact fun k => h ((cmpE_lt e x).2 k)
  exact key es hl
theorem good_addR {es : List E3} {x : E3} (h : goodE es = true) (hm : mayE x = true) : goodE (addE es x) = true := by
  unfold addE
  rw [if_pos ⟨h, hm⟩]
  have hh := (zCx es).1 h
  split
  · rename_i hb
    have hlt := bsF_lt hb
    have hz : cmpE es[bsK es x] x = 0 := by
      unfold bsF at hb
      rw [List.getElem?_eq_getElem hlt] at hb
      exact of_decide_eq_true hb
    have hfn : es[bsK es x].f = x.f ∧ es[bsK es x].n = x.n := by
      have h1 : ¬ ltE es[bsK es x] x := fun k => by have := (cmpE_lt _ _).2 k; omega
      refine key_eq h1 fun k => ?_
      unfold ltE at k
      unfold cmpE at hz
      split at hz
      · omega
      · split at hz
        · omega
        · split at hz
          · omega
          · split at hz
            · omega
            · omega
    rw [zCx]
    refine ⟨fun e he => ?_, ?_⟩
    · rcases List.mem_or_eq_of_mem_set he with he | rfl
      · exact hh.1 e he
      · exact hm
    · refine List.pairwise_iff_getElem.2 fun i j hi hj hij => ?_
      have hi' : i < es.length := by simpa using hi
      have hj' : j < es.length := by simpa using hj
      have base := List.pairwise_iff_getElem.1 hh.2 i j hi' hj' hij
      rw [List.getElem_set, List.getElem_set]
      split
      · rename_i e1
        subst e1
        rw [if_neg (by omega)]
        unfold ltE at base ⊢
        rw [← hfn.1, ← hfn.2]
        exact base
      · split
        · rename_i e2
          subst e2
          unfold ltE at base ⊢
          rw [← hfn.1, ← hfn.2]
          exact base
        · exact base
  · rename_i hb
    rw [zCx]
    unfold insE
    refine ⟨fun e he => ?_, ?_⟩
    · rcases List.mem_append.1 he with he | he
      · exact hh.1 e (List.mem_of_mem_take he)
      · rcases List.mem_cons.1 he with rfl | he
        · exact hm
        · exact hh.1 e (List.mem_of_mem_drop he)
    · have hlo : ∀ y ∈ es.take (bsK es x), ltE y x := fun y hy => by
        obtain ⟨i, hi, rfl⟩ := List.getElem_of_mem hy
        rw [List.length_take] at hi
        rw [List.getElem_take]
        exact bsK_loR i (by omega) (by omega)
      have hhi : ∀ y ∈ es.drop (bsK es x), ltE x y := fun y hy => by
        have hlt : bsK es x < es.length := by
          rcases Nat.lt_or_ge (bsK es x) es.length with h1 | h1
          · exact h1
          · rw [List.drop_of_length_le h1] at hy; cases hy
        have h1 := bsK_geR hlt
        have h2 : ltE x es[bsK es x] := by
          refine Classical.byContradiction fun h2 => hb ?_
          obtain ⟨h3, h4⟩ := key_eq h1 h2
          unfold bsF
          rw [List.getElem?_eq_getElem hlt]
          simp only
          refine decide_eq_true ?_
          unfold cmpE
          rw [if_neg (by omega), if_neg (by omega), if_neg (by omega), if_neg (by omega)]
        obtain ⟨j, hj, rfl⟩ := List.getElem_of_mem hy
        rw [List.getElem_drop]
        rw [List.length_drop] at hj
        rcases Nat.eq_zero_or_pos j with h0 | h0
        · subst h0; exact h2
        · exact ltE_trans h2 (List.pairwise_iff_getElem.1 hh.2 _ _ hlt (by omega) (by omega))
      refine List.pairwise_append.2 ⟨hh.2.sublist (List.take_sublist _ _), List.pairwise_cons.2 ⟨hhi, hh.2.sublist (List.drop_sublist _ _)⟩, fun a ha b hb' => ?_⟩
      rcases List.mem_cons.1 hb' with rfl | hb'
      · exact hlo a ha
      · exact ltE_trans (hlo a ha) (hhi b hb')

theorem addE_perm {es : List E3} {x : E3} (hg : goodE es = true) (hm : mayE x = true) (hb : bsF es x = false) : (addE es x).Perm (x :: es) := by
  unfold addE
  rw [if_pos ⟨hg, hm⟩, if_neg (by rw [hb]; decide)]
  unfold insE
  refine List.perm_middle.trans ?_
  rw [List.take_append_drop]
theorem fold_add : ∀ (L r : List E3), goodE r = true → (∀ x ∈ L, mayE x = true) → (r ++ L).Pairwise (fun a b => ltE a b ∨ ltE b a) → goodE (L.foldl addE r) = true ∧ (L.foldl addE r).Perm (r ++ L)
  | [], r, hg, _, _ => ⟨hg, by simp⟩
  | x :: L, r, hg, hm, hp => by
    have hmx := hm x (by simp)
    have hb : bsF r x = false := by
      cases h : bsF r x with
      | false => rfl
      | true =>
        obtain ⟨z, _, hz, h1, h2⟩ := bs_true h
        have := (List.pairwise_append.1 hp).2.2 z hz x (by simp)
        unfold ltE at this
        omega
    have p := addE_perm hg hmx hb
    have p2 : (addE r x ++ L).Perm (r ++ x :: L) := (p.append_right L).trans (List.perm_middle (a := x) (l₁ := r) (l₂ := L)).symm
    obtain ⟨g1, g2⟩ := fold_add L (addE r x) (good_addR hg hmx) (fun y hy => hm y (by simp [hy])) (p2.symm.pairwise hp (fun h => h.symm))
    exact ⟨g1, g2.trans p2⟩
def moreF (l : List E3) (x : E3) : Bool := l.any fun e => decide (e.f = x.f ∧ x.n < e.n)
theorem last_take (es : List E3) (hs : Srt es) (f : Int) : ∀ i, i ≤ es.length → (getM (lastM (es.take i)) f = none → ∀ e ∈ es.take i, e.f ≠ f) ∧ ∀ n, getM (lastM (es.take i)) f = some n → (∃ e ∈ es.take i, e.f = f ∧ e.n = n) ∧ ∀ e ∈ es.take i, e.f = f → e.n ≤ n
  | 0, _ => by simp [lastM, getM]
  | i + 1, hi => by
    have ih := last_take es hs f i (by omega)
    have hlt : i < es.length := by omega
    have ht : es.take (i + 1) = es.take i ++ [es[i]] := by rw [List.take_succ, List.getElem?_eq_getElem hlt]; rfl
    have hlo : ∀ e ∈ es.take i, ltE e es[i] := fun e he => by
      obtain ⟨j, hj, rfl⟩ := List.getElem_of_mem he
      rw [List.length_take] at hj
      rw [List.getElem_take]
      exact List.pairwise_iff_getElem.1 hs j i (by omega) hlt (by omega)
    rw [ht, lastM_snoc, getM_put]
    by_cases hf : f = es[i].f
    · rw [if_pos hf]
      refine ⟨fun h => (by cases h), fun n hn => ?_⟩
      cases hn
      refine ⟨⟨es[i], (List.mem_append_right _ (List.mem_singleton.2 rfl)), hf.symm, rfl⟩, fun e he hef => ?_⟩
      rcases List.mem_append.1 he with he | he
      · have := hlo e he; unfold ltE at this; omega
      · rw [List.mem_singleton.1 he]; exact Nat.le_refl _
    · rw [if_neg hf]
      refine ⟨fun h e he => ?_, fun n hn => ?_⟩
      · rcases List.mem_append.1 he with he | he
        · exact ih.1 h e he
        · rw [List.mem_singleton.1 he]; exact fun h => hf h.symm
      · obtain ⟨⟨e, he, h1, h2⟩, h3⟩ := ih.2 n hn
        refine ⟨⟨e, List.mem_append_left _ he, h1, h2⟩, fun e' he' hf' => ?_⟩
        rcases List.mem_append.1 he' with he' | he'
        · exact h3 e' he' hf'
        · rw [List.mem_singleton.1 he'] at hf'; exact absurd hf'.symm hf
theorem more_last {es : List E3} {x : E3} (hs : Srt es) (hm : mayE x = true) (hb : bsF es x = false) : (!moreF es x) = decide ((getM (lastM es) x.f).getD 0 < x.n) := by
  have hx : 0 < x.n := by
    unfold mayE at hm
    simp only [Bool.and_eq_true, decide_eq_true_eq] at hm
    exact hm.2.2.1
  obtain ⟨h1, h2⟩ := last_take es hs x.f es.length (Nat.le_refl _)
  rw [List.take_length] at h1 h2
  have hne : ∀ e ∈ es, e.f = x.f → e.n ≠ x.n := fun e he hf hn => by rw [(bs_iff hs x).2 ⟨e, he, hf, hn⟩] at hb; cases hb
  unfold moreF
  cases hg : getM (lastM es) x.f with
  | none =>
    rw [Option.getD_none, decide_eq_true hx, Bool.not_eq_true']
    rw [List.any_eq_false]
    intro e he
    have := h1 hg e he
    simp [this]
  | some n =>
    obtain ⟨⟨e, he, e1, e2⟩, h3⟩ := h2 n hg
    rw [Option.getD_some]
    by_cases hn : n < x.n
    · rw [decide_eq_true hn, Bool.not_eq_true', List.any_eq_false]
      intro e' he'
      simp only [decide_eq_true_eq]
      rintro ⟨g1, g2⟩
      have := h3 e' he' g1
      omega
    · rw [decide_eq_false hn, Bool.not_eq_false', List.any_eq_true]
      have := hne e he e1
      exact ⟨e, he, decide_eq_true ⟨e1, by omega⟩⟩
def gA (heard : List E3) (e : E3) : Option E3 := if bsF heard e = true then bothF heard e else if moreF heard e = true then none else some e
def gB (own : List E3) (e : E3) : Bool := !bsF own e && !moreF own e
def joinR (own heard : List E3) : List E3 := (heard.filter (gB own)).foldl addE ((own.filterMap (gA heard)).foldl addE [])
theorem gA_perm {heard : List E3} (hs : Srt heard) : ∀ own : List E3, (∀ x ∈ own, mayE x = true) → (own.filterMap (gA heard)).Perm (zDg own heard ++ bothE own heard)
  | [], _ => .nil
  | x :: own, hm => by
    have ih := gA_perm hs own fun y hy => hm y (by simp [hy])
    unfold zDg bothE at ih ⊢
    cases hb : bsF heard x with
    | true =>
      have e1 : bothF heard x = some { x with t := x.t &&& (heard.getD (bsK heard x) default).t } := by unfold bothF; rw [if_pos hb]
      have e2 : gA heard x = some { x with t := x.t &&& (heard.getD (bsK heard x) default).t } := by unfold gA; rw [if_pos hb, e1]
      rw [List.filterMap_cons, e2, List.filter_cons, hb, List.filterMap_cons, e1]
      simp only [Bool.not_true, Bool.false_and, Bool.false_eq_true, if_false]
      exact (ih.cons _).trans List.perm_middle.symm
    | false =>
      have e1 : bothF heard x = none := by unfold bothF; rw [if_neg (by rw [hb]; decide)]
      have hl := more_last hs (hm x (by simp)) hb
      rw [List.filterMap_cons, List.filter_cons, hb, List.filterMap_cons, e1, ← hl]
      cases hmo : moreF heard x with
      | true =>
        have e2 : gA heard x = none := by unfold gA; rw [if_neg (by rw [hb]; decide), if_pos hmo]
        rw [e2]
        simpa using ih
      | false =>
        have e2 : gA heard x = some x := by unfold gA; rw [if_neg (by rw [hb]; decide), if_neg (by rw [hmo]; decide)]
        rw [e2]
        simpa using ih
theorem gB_news {own : List E3} (hs : Srt own) (heard : List E3) (hm : ∀ x ∈ heard, mayE x = true) : heard.filter (gB own) = zDg heard own := by
  unfold zDg
  refine List.filter_congr fun x hx => ?_
  unfold gB
  cases hb : bsF own x with
  | true => rfl
  | false => rw [more_last hs (hm x hx) hb]
theorem joinR_eq {own heard : List E3} (hg : goodE own = true) (hg2 : goodE heard = true) : joinR own heard = joinE own heard := by
  have h1 := (zCx own).1 hg
  have h2 := (zCx heard).1 hg2
  have hd := join_dist h1.2 h2.2
  have pA := gA_perm h2.2 own h1.1
  have eB := gB_news h1.2 heard h2.1
  have pAll : (own.filterMap (gA heard) ++ heard.filter (gB own)).Perm (zDg own heard ++ zDg heard own ++ bothE own heard) := by
    rw [eB]
    refine (pA.append_right _).trans ?_
    rw [List.append_assoc, List.append_assoc]
    exact (List.perm_append_comm).append_left _
  have hp : (own.filterMap (gA heard) ++ heard.filter (gB own)).Pairwise (fun a b => ltE a b ∨ ltE b a) := pAll.symm.pairwise hd (fun h => h.symm)
  have may : ∀ x ∈ own.filterMap (gA heard) ++ heard.filter (gB own), mayE x = true := fun x hx => by
    have hx := pAll.subset hx
    rcases List.mem_append.1 hx with h | h
    · rcases List.mem_append.1 h with h | h
      · exact h1.1 x (mem_news h2.2 h).1
      · exact h2.1 x (mem_news h1.2 h).1
    · obtain ⟨y, hy, z, hz, h3, h4, rfl⟩ := (mem_both h2.2 x).1 h
      have := h1.1 y hy
      unfold mayE at this ⊢
      simp only [Bool.and_eq_true, decide_eq_true_eq] at this ⊢
      exact ⟨this.1, this.2.1, this.2.2.1, Nat.lt_of_le_of_lt Nat.and_le_left this.2.2.2⟩
  obtain ⟨a1, a2⟩ := fold_add (own.filterMap (gA heard)) [] (by decide) (fun x hx => may x (List.mem_append_left _ hx)) ((List.pairwise_append.1 hp).1)
  rw [List.nil_append] at a2
  obtain ⟨b1, b2⟩ := fold_add (heard.filter (gB own)) _ a1 (fun x hx => may x (List.mem_append_right _ hx)) ((a2.append_right _).symm.pairwise hp (fun h => h.symm))
  unfold joinR joinE
  rw [if_pos ⟨hg, hg2⟩]
  refine srt_mem ((zCx _).1 b1).2 (srtE_srt hd) fun x => ?_
  rw [(srtE_perm _).mem_iff, ← pAll.mem_iff, b2.mem_iff, (a2.append_right _).mem_iff]
theorem key_at {l : List E3} (hs : Srt l) {x : E3} {j : Nat} (hj : j < l.length) (h1 : l[j].f = x.f) (h2 : l[j].n = x.n) : bsF l x = true ∧ bsK l x = j := by
  obtain ⟨g1, g2⟩ := bs_of hs (List.getElem_mem hj) h1 h2
  refine ⟨g2, ?_⟩
  obtain ⟨hk, g3⟩ := List.getElem?_eq_some_iff.1 g1
  rcases Nat.lt_trichotomy (bsK l x) j with h | h | h
  · have := List.pairwise_iff_getElem.1 hs _ _ hk hj h
    rw [g3] at this; exact absurd this (ltE_irr _)
  · exact h
  · have := List.pairwise_iff_getElem.1 hs _ _ hj hk h
    rw [g3] at this; exact absurd this (ltE_irr _)
theorem key_bs {l : List E3} {x : E3} (h : bsF l x = true) : ∃ hk : bsK l x < l.length, l[bsK l x].f = x.f ∧ l[bsK l x].n = x.n := by
  obtain ⟨z, h1, _, h2, h3⟩ := bs_true h
  obtain ⟨hk, g⟩ := List.getElem?_eq_some_iff.1 h1
  exact ⟨hk, by rw [g]; exact h2, by rw [g]; exact h3⟩
def findI (l : List E3) (x : E3) (i : Nat) : Int := if bsF l x = true ∧ bsK l x < i then (bsK l x : Nat) else -1
end Go.Am
namespace Go.Am
set_option maxRecDepth 100000
set_option linter.all false
def disR (a b : E3) : Prop := a.f = b.f → a.t &&& b.t = 0
theorem disR_symm {a b : E3} (h : disR a b) : disR b a := fun e => by rw [Nat.and_comm]; exact h e.symm
theorem pair_mem {α : Type} {R : α → α → Prop} (sy : ∀ {a b}, R a b → R b a) : ∀ {l : List α}, l.Pairwise R → ∀ {a b}, a ∈ l → b ∈ l → a ≠ b → R a b
  | [], _, a, _, ha, _, _ => by cases ha
  | x :: l, h, a, b, ha, hb, hn => by
    obtain ⟨h1, h2⟩ := List.pairwise_cons.1 h
    rcases List.mem_cons.1 ha with e1 | ha2
    · rcases List.mem_cons.1 hb with e2 | hb2
      · exact absurd (e1.trans e2.symm) hn
      · rw [e1]; exact h1 b hb2
    · rcases List.mem_cons.1 hb with e2 | hb2
      · rw [e2]; exact sy (h1 a ha2)
      · exact pair_mem sy h2 ha2 hb2 hn
theorem addE_dis {es : List E3} {x : E3} (R : E3 → E3 → Prop) (sy : ∀ {a b}, R a b → R b a) (h : es.Pairwise R) (hx : ∀ e ∈ es, R x e) : (addE es x).Pairwise R := by
  unfold addE
  split
  · split
    · rename_i hb
      have hlt := bsF_lt hb
      rw [List.set_eq_take_append_cons_drop, if_pos hlt]
      have sl : (es.take (bsK es x) ++ es.drop (bsK es x + 1)).Sublist es := by
        have := (List.Sublist.refl (es.take (bsK es x))).append (List.drop_sublist_drop_left es (Nat.le_succ (bsK es x)))
        rwa [List.take_append_drop] at this
      refine (List.perm_middle.symm).pairwise (List.pairwise_cons.2 ⟨fun e he => hx e (sl.subset he), h.sublist sl⟩) sy
    · unfold insE
      refine (List.perm_middle.symm).pairwise ?_ sy
      rw [List.take_append_drop]
      exact List.pairwise_cons.2 ⟨hx, h⟩
  · exact h
theorem SInv.add {n : Nat} {es : List E3} (s : SInv n es) {x : E3} (hm : mayE x = true) (hf : x.f < n) (ht : x.t < 2 ^ n) (hx : ∀ e ∈ es, x.f = e.f → x.t &&& e.t = 0) : SInv n (addE es x) := by
  refine ⟨good_add s.good hm, fun e he => ?_, fun e he => ?_, addE_dis disR disR_symm s.dis hx⟩
  · rcases mem_addE he with he | rfl
    · exact s.frm e he
    · exact hf
  · rcases mem_addE he with he | rfl
    · exact s.wid e he
    · exact ht
theorem out_and (a t : Nat) : t &&& outB a t = 0 := by
  unfold outB
  apply Nat.eq_of_testBit_eq
  intro i
  rw [Nat.testBit_and, Nat.testBit_and, Nat.zero_testBit]
  cases ht : t.testBit i with
  | false => rfl
  | true =>
    by_cases hi : i < 64
    · have : (2 ^ 64 - 1 - t).testBit i = false := by
        by_cases hlt : t < 2 ^ 64
        · rw [show (2 ^ 64 - 1 - t : Nat) = 2 ^ 64 - (t + 1) by omega, Nat.testBit_two_pow_sub_succ hlt, ht]; simp
        · rw [show (2 ^ 64 - 1 - t : Nat) = 0 by omega, Nat.zero_testBit]
      rw [this]; simp
    · have : (2 ^ 64 - 1 - t).testBit i = false := Nat.testBit_lt_two_pow (Nat.lt_of_lt_of_le (show 2 ^ 64 - 1 - t < 2 ^ 64 by omega) (Nat.pow_le_pow_right (by omega) (by omega)))
      rw [this]; simp
theorem SInv.send {n : Nat} {es : List E3} (s : SInv n es) (hn : n ≤ 16) (me num t : Nat) (hme : me < n) (ht : t < 2 ^ n) : SInv n (sendLog es (me : Int) num t) := by
  have h16 : (2 : Nat) ^ n ≤ 2 ^ 16 := Nat.pow_le_pow_right (by omega) hn
  unfold sendLog
  refine ((s.less t).add ?_ ?_ ht fun e he hf => ?_).purge
  · unfold mayE
    simp only [Bool.and_eq_true, decide_eq_true_eq]
    omega
  · show (me : Int) < n; omega
  · unfold zDe at he
    rw [if_pos s.good] at he
    obtain ⟨y, hy, rfl⟩ := List.mem_map.1 he
    exact out_and y.t t
theorem SInv.join {n : Nat} {es fs : List E3} (s : SInv n es) (s2 : SInv n fs) : SInv n (joinE es fs) := by
  have h1 := (zCx es).1 s.good
  have h2 := (zCx fs).1 s2.good
  have g := srt_join s.good s2.good
  have mem : ∀ e ∈ joinE es fs, e ∈ zDg es fs ++ zDg fs es ++ bothE es fs := fun e he => by
    unfold joinE at he
    rw [if_pos ⟨s.good, s2.good⟩] at he
    exact (srtE_perm _).subset he
  have bit : ∀ {a b c d : Nat}, a &&& b = 0 → (a &&& c) &&& (b &&& d) = 0 := fun {a b c d} h => by
    apply Nat.eq_of_testBit_eq
    intro i
    have hi := congrArg (fun x => Nat.testBit x i) h
    simp only [Nat.testBit_and, Nat.zero_testBit] at hi ⊢
    cases ha : a.testBit i <;> cases hb : b.testBit i <;> simp_all
  refine ⟨g, fun e he => ?_, fun e he => ?_, ?_⟩
  · rcases List.mem_append.1 (mem e he) with h | h
    · rcases List.mem_append.1 h with h | h
      · exact s.frm e (mem_news h2.2 h).1
      · exact s2.frm e (mem_news h1.2 h).1
    · obtain ⟨y, hy, z, hz, h3, h4, rfl⟩ := (mem_both h2.2 e).1 h
      exact s.frm y hy
  · rcases List.mem_append.1 (mem e he) with h | h
    · rcases List.mem_append.1 h with h | h
      · exact s.wid e (mem_news h2.2 h).1
      · exact s2.wid e (mem_news h1.2 h).1
    · obtain ⟨y, hy, z, hz, h3, h4, rfl⟩ := (mem_both h2.2 e).1 h
      exact Nat.lt_of_le_of_lt Nat.and_le_left (s.wid y hy)
  · have p : (zDg es fs ++ zDg fs es ++ bothE es fs).Pairwise disR := by
      have b3 : (bothE es fs).Pairwise disR := by
        unfold bothE
        refine List.pairwise_filterMap.2 (s.dis.imp fun {a b} hab x hx y hy => ?_)
        unfold bothF at hx hy
        split at hx
        · split at hy
          · cases hx; cases hy
            exact fun e => bit (hab e)
          · cases hy
        · cases hx
      refine List.pairwise_append.2 ⟨List.pairwise_append.2 ⟨s.dis.sublist List.filter_sublist, s2.dis.sublist List.filter_sublist, fun a ha b hb hf => ?_⟩, b3, fun a ha b hb => ?_⟩
      · exfalso
        have a1 := (mem_news h2.2 ha).1
        have b1 := (mem_news h1.2 hb).1
        unfold zDg at ha hb
        have a2 := (List.mem_filter.1 ha).2
        have b2 := (List.mem_filter.1 hb).2
        simp only [Bool.and_eq_true, decide_eq_true_eq] at a2 b2
        have la := last_take es h1.2 a.f es.length (Nat.le_refl _)
        have lb := last_take fs h2.2 b.f fs.length (Nat.le_refl _)
        rw [List.take_length] at la lb
        have ua : a.n ≤ (getM (lastM es) a.f).getD 0 := by
          cases hg : getM (lastM es) a.f with
          | none => exact absurd rfl (la.1 hg a a1)
          | some m => exact (la.2 m hg).2 a a1 rfl
        have ub : b.n ≤ (getM (lastM fs) b.f).getD 0 := by
          cases hg : getM (lastM fs) b.f with
          | none => exact absurd rfl (lb.1 hg b b1)
          | some m => exact (lb.2 m hg).2 b b1 rfl
        rw [← hf] at b2 ub
        omega
      · obtain ⟨y, hy, z, hz, h3, h4, rfl⟩ := (mem_both h2.2 b).1 hb
        intro hf
        simp only at hf
        rcases List.mem_append.1 ha with h | h
        · have q := mem_news h2.2 h
          have hne : a ≠ y := fun e => by subst e; exact q.2 ⟨z, hz, h3, h4⟩
          have := pair_mem disR_symm s.dis q.1 hy hne hf
          show a.t &&& (y.t &&& z.t) = 0
          rw [← Nat.and_assoc, this, Nat.zero_and]
        · have q := mem_news h1.2 h
          have hne : a ≠ z := fun e => by subst e; exact q.2 ⟨y, hy, h3.symm, h4.symm⟩
          have := pair_mem disR_symm s2.dis q.1 hz hne (hf.trans h3.symm)
          show a.t &&& (y.t &&& z.t) = 0
          rw [Nat.and_comm y.t, ← Nat.and_assoc, this, Nat.zero_and]
    unfold joinE
    rw [if_pos ⟨s.good, s2.good⟩]
    exact (srtE_perm _).symm.pairwise p disR_symm
end Go.Am
namespace Go.Am
set_option maxRecDepth 100000
set_option linter.all false
theorem outB_and (a b m : Nat) : outB a m &&& outB b m = outB (a &&& b) m := by
  unfold outB
  apply Nat.eq_of_testBit_eq
  intro i
  simp only [Nat.testBit_and]
  cases a.testBit i <;> cases b.testBit i <;> cases (2 ^ 64 - 1 - m).testBit i <;> rfl
theorem SInv.take {n : Nat} {es g : List E3} (s : SInv n es) (sg : SInv n g) (hn : n ≤ 16) (me fr k to : Nat) (hfr : fr < n) (hk : 0 < k) (hto : to < 2 ^ n) (hx : ∀ e ∈ g, e.f = (fr : Int) → outB (to &&& e.t) (ofN (me : Int)) = 0) : SInv n (takeLog es (me : Int) (fr : Int) k to g) := by
  have h16 : (2 : Nat) ^ n ≤ 2 ^ 16 := Nat.pow_le_pow_right (by omega) hn
  have hm : mayE ⟨(fr : Int), k, to⟩ = true := by
    unfold mayE
    simp only [Bool.and_eq_true, decide_eq_true_eq]
    omega
  have gA := good_add sg.good hm
  have H : SInv n (zDe (addE g ⟨(fr : Int), k, to⟩) (ofN (me : Int))) := by
    have mem : ∀ e ∈ zDe (addE g ⟨(fr : Int), k, to⟩) (ofN (me : Int)), ∃ y ∈ addE g ⟨(fr : Int), k, to⟩, e = lessF (ofN (me : Int)) y := fun e he => by
      unfold zDe at he
      rw [if_pos gA] at he
      obtain ⟨y, hy, rfl⟩ := List.mem_map.1 he
      exact ⟨y, hy, rfl⟩
    refine ⟨good_less _ gA, fun e he => ?_, fun e he => ?_, ?_⟩
    · obtain ⟨y, hy, rfl⟩ := mem e he
      rcases mem_addE hy with hy | rfl
      · exact sg.frm y hy
      · show (fr : Int) < n; omega
    · obtain ⟨y, hy, rfl⟩ := mem e he
      refine Nat.lt_of_le_of_lt (Nat.and_le_left : (lessF (ofN (me : Int)) y).t ≤ y.t) ?_
      rcases mem_addE hy with hy | rfl
      · exact sg.wid y hy
      · exact hto
    · have w : (addE g ⟨(fr : Int), k, to⟩).Pairwise fun a b => a.f = b.f → outB (a.t &&& b.t) (ofN (me : Int)) = 0 := by
        refine addE_dis (fun a b => a.f = b.f → outB (a.t &&& b.t) (ofN (me : Int)) = 0) (fun {a b} h e => by rw [Nat.and_comm]; exact h e.symm) (sg.dis.imp fun {a b} h e => by rw [h e]; unfold outB; rw [Nat.zero_and]) fun e he hf => hx e he hf.symm
      unfold zDe
      rw [if_pos gA]
      refine List.pairwise_map.2 (w.imp fun {a b} h e => ?_)
      show outB a.t _ &&& outB b.t _ = 0
      rw [outB_and]
      exact h e
  unfold takeLog
  exact ((s.join H).less _).purge
theorem mem_less {es : List E3} {to : Nat} {e : E3} (h : e ∈ zDe es to) : ∃ y ∈ es, y.f = e.f ∧ y.n = e.n := by
  unfold zDe at h
  split at h
  · obtain ⟨y, hy, rfl⟩ := List.mem_map.1 h
    exact ⟨y, hy, rfl, rfl⟩
  · exact ⟨e, h, rfl, rfl⟩
theorem mem_joinE {es fs : List E3} {e : E3} (h : e ∈ joinE es fs) : (∃ y ∈ es, y.f = e.f ∧ y.n = e.n) ∨ ∃ y ∈ fs, y.f = e.f ∧ y.n = e.n := by
  unfold joinE at h
  split at h
  · rename_i hg
    have h2 := ((zCx fs).1 hg.2).2
    have h1 := ((zCx es).1 hg.1).2
    rcases List.mem_append.1 ((srtE_perm _).subset h) with h | h
    · rcases List.mem_append.1 h with h | h
      · exact .inl ⟨e, (mem_news h2 h).1, rfl, rfl⟩
      · exact .inr ⟨e, (mem_news h1 h).1, rfl, rfl⟩
    · obtain ⟨y, hy, z, hz, h3, h4, rfl⟩ := (mem_both h2 e).1 h
      exact .inl ⟨y, hy, rfl, rfl⟩
  · exact .inl ⟨e, h, rfl, rfl⟩
def NBd (nums : List Nat) (es : List E3) : Prop := ∀ e ∈ es, e.n ≤ nums.getD e.f.toNat 0
theorem NBd.key {nums : List Nat} {es : List E3} (b : NBd nums es) {e : E3} (h : ∃ y ∈ es, y.f = e.f ∧ y.n = e.n) : e.n ≤ nums.getD e.f.toNat 0 := by
  obtain ⟨y, hy, h1, h2⟩ := h
  rw [← h1, ← h2]
  exact b y hy
theorem NBd.more {nums nums' : List Nat} {es : List E3} (b : NBd nums es) (h : ∀ i, nums.getD i 0 ≤ nums'.getD i 0) : NBd nums' es := fun e he => Nat.le_trans (b e he) (h _)
theorem NBd.send {nums : List Nat} {es : List E3} (b : NBd nums es) (me : Nat) (num t : Nat) (h : num + 1 ≤ nums.getD me 0) : NBd nums (sendLog es (me : Int) num t) := fun e he => by
  unfold sendLog at he
  rcases mem_addE (mem_purgeE he) with he | rfl
  · exact b.key (mem_less he)
  · exact h
theorem NBd.take {nums : List Nat} {es g : List E3} (b : NBd nums es) (bg : NBd nums g) (me : Int) (fr k to : Nat) (h : k ≤ nums.getD fr 0) : NBd nums (takeLog es me (fr : Int) k to g) := fun e he => by
  unfold takeLog at he
  obtain ⟨y, hy, h1, h2⟩ := mem_less (mem_purgeE he)
  rw [← h1, ← h2]
  rcases mem_joinE hy with hz | hz
  · exact b.key hz
  · obtain ⟨z, hz, h3, h4⟩ := hz
    obtain ⟨u, hu, h5, h6⟩ := mem_less hz
    rw [← h3, ← h4, ← h5, ← h6]
    rcases mem_addE hu with hu | rfl
    · exact bg u hu
    · exact h
theorem NBd.stamp {nums : List Nat} {es : List E3} (b : NBd nums es) (t : Nat) : NBd nums (purgeE (zDe es t)) := fun e he => b.key (mem_less (mem_purgeE he))
end Go.Am
namespace Go.Am
set_option maxRecDepth 100000
set_option linter.all false
theorem nodup_lenP {α : Type} [DecidableEq α] : ∀ {l K : List α}, l.Nodup → (∀ x ∈ l, x ∈ K) → l.length ≤ K.length
  | [], _, _, _ => Nat.zero_le _
  | x :: l, K, hn, h => by
    obtain ⟨h1, h2⟩ := List.nodup_cons.1 hn
    have hx := h x (by simp)
    have := nodup_lenP (l := l) (K := K.erase x) h2 fun y hy => (List.mem_erase_of_ne (fun e => h1 (by rw [← e]; exact hy))).2 (h y (by simp [hy]))
    rw [List.length_erase_of_mem hx] at this
    have : 0 < K.length := List.length_pos_of_mem hx
    simp only [List.length_cons]
    omega
def keyE (e : E3) : Int × Nat := (e.f, e.n)
def KB (K : List (Int × Nat)) (es : List E3) : Prop := ∀ e ∈ es, keyE e ∈ K
theorem KB.len {K : List (Int × Nat)} {es : List E3} (b : KB K es) (g : goodE es = true) : es.length ≤ K.length := by
  have hs := ((zCx es).1 g).2
  have nd : (es.map keyE).Nodup := List.pairwise_map.2 (hs.imp fun {a b} h e => by
    unfold ltE at h
    unfold keyE at e
    have e1 := congrArg Prod.fst e
    have e2 := congrArg Prod.snd e
    simp only at e1 e2
    omega)
  have := nodup_lenP nd fun x hx => by obtain ⟨e, he, rfl⟩ := List.mem_map.1 hx; exact b e he
  rwa [List.length_map] at this
theorem KB.key {K : List (Int × Nat)} {es : List E3} (b : KB K es) {e : E3} (h : ∃ y ∈ es, y.f = e.f ∧ y.n = e.n) : keyE e ∈ K := by
  obtain ⟨y, hy, h1, h2⟩ := h
  have := b y hy
  unfold keyE at this ⊢
  rwa [h1, h2] at this
theorem KB.more {K K' : List (Int × Nat)} {es : List E3} (b : KB K es) (h : ∀ x ∈ K, x ∈ K') : KB K' es := fun e he => h _ (b e he)
theorem KB.self (es : List E3) : KB (es.map keyE) es := fun e he => List.mem_map_of_mem he
theorem KB.stamp {K : List (Int × Nat)} {es : List E3} (b : KB K es) (t : Nat) : KB K (purgeE (zDe es t)) := fun e he => b.key (mem_less (mem_purgeE he))
theorem KB.send {K : List (Int × Nat)} {es : List E3} (b : KB K es) (me : Int) (num t : Nat) : KB ((me, num + 1) :: K) (sendLog es me num t) := fun e he => by
  unfold sendLog at he
  rcases mem_addE (mem_purgeE he) with he | rfl
  · exact List.mem_cons_of_mem _ (b.key (mem_less he))
  · exact List.mem_cons_self
theorem KB.take {K K2 : List (Int × Nat)} {es g : List E3} (b : KB K es) (b2 : KB K2 g) (me fr : Int) (k to : Nat) : KB ((fr, k) :: (K2 ++ K)) (takeLog es me fr k to g) := fun e he => by
  unfold takeLog at he
  obtain ⟨y, hy, h1, h2⟩ := mem_less (mem_purgeE he)
  have : keyE e = keyE y := by unfold keyE; rw [h1, h2]
  rw [this]
  rcases mem_joinE hy with hz | hz
  · exact List.mem_cons_of_mem _ (List.mem_append_right _ (b.key hz))
  · obtain ⟨z, hz, h3, h4⟩ := hz
    have e1 : keyE y = keyE z := by unfold keyE; rw [h3, h4]
    rw [e1]
    obtain ⟨u, hu, h5, h6⟩ := mem_less hz
    have e2 : keyE z = keyE u := by unfold keyE; rw [h5, h6]
    rw [e2]
    rcases mem_addE hu with hu | rfl
    · exact List.mem_cons_of_mem _ (List.mem_append_left _ (b2 u hu))
    · exact List.mem_cons_self
def Told (K : List (Int × Nat)) (b : List UInt8) : Prop := ∃ g, b = logB g ∧ goodE g = true ∧ wide g ∧ KB K g
theorem Told.more {K K' : List (Int × Nat)} {b : List UInt8} (t : Told K b) (h : ∀ x ∈ K, x ∈ K') : Told K' b := let ⟨g, e, a, w, k⟩ := t; ⟨g, e, a, w, k.more h⟩
theorem good_fP {es : List E3} (g : goodE es = true) : ∀ e ∈ es, 0 ≤ e.f ∧ e.f < 2 ^ 63 := fun e he => by
  have := ((zCx es).1 g).1 e he
  unfold mayE at this
  simp only [Bool.and_eq_true, decide_eq_true_eq] at this
  omega
theorem Told.get {K : List (Int × Nat)} {b : List UInt8} (t : Told K b) (hK : K.length ≤ 2 ^ 20) : ∃ g, getP b = some g ∧ goodE g = true ∧ wide g ∧ KB K g ∧ b.length < 2 ^ 26 := by
  obtain ⟨g, rfl, hg, w, k⟩ := t
  have hl := k.len hg
  have le := encL_le g (fun e he => (good_fP hg e he).2) w
  have pl := putL_le g.length (by omega)
  exact ⟨g, get_put hg w (by omega), hg, w, k, by unfold logB; rw [List.length_append]; omega⟩
end Go.Am
namespace Go.Am
open Go.Proofs
set_option maxRecDepth 100000
set_option linter.all false
attribute [local congr] zCc zCn zCp zCo zCg zCd
theorem bxRe (a b c : Value) (h : Heap) : boxV Tryz.prog 87 (.agg #[a, b, c]) h = some (.pointer (some ⟨h.blks.length, 0, none⟩), h.new (.cells [a, b, c]) 87) := by kernel_rfl
theorem faRe0 (p o : Nat) : zCb Tryz.prog 87 (.pointer (some ⟨p, o, none⟩)) 0 = some (.pointer (some ⟨p, o, none⟩)) := by kernel_rfl
theorem faRe1 (p o : Nat) : zCb Tryz.prog 87 (.pointer (some ⟨p, o, none⟩)) 1 = some (.pointer (some ⟨p, o + 1, none⟩)) := by kernel_rfl
theorem faRe2 (p o : Nat) : zCb Tryz.prog 87 (.pointer (some ⟨p, o, none⟩)) 2 = some (.pointer (some ⟨p, o + 2, none⟩)) := by kernel_rfl
theorem spec_GoodEntry (e : E3) (h : Heap) : ∃ h', evC Tryz.prog 82 #[entV e] h = some (.bool (mayE e), h') ∧ HExt h h' := by
  rw [call82]
  have c := Cells.new (nm h) 87 [.int .i64 e.f, .int .u64 e.n, .int .u64 e.t]
  have k1 : In h.blks.length No (nm h) ((nm h).new (.cells [.int .i64 e.f, .int .u64 e.n, .int .u64 e.t]) 87) := In.new (h := nm h) (Nat.le_refl h.blks.length) _ _
  generalize hh : (nm h).new (.cells [.int .i64 e.f, .int .u64 e.n, .int .u64 e.t]) 87 = h1 at c k1
  generalize hp : (nm h).blks.length = p at c
  have l0 : h1.load1 p 0 = some (.int .i64 e.f) := c.load 0
  have l1 : h1.load1 p (0 + 1) = some (.int .u64 e.n) := c.load 1
  have l2 : h1.load1 p (0 + 2) = some (.int .u64 e.t) := c.load 2
  have d0 : decide (0 ≤ e.f) = decide (e.f ≥ 0) := rfl
  have d1 : decide (e.f < 16) = decide (e.f ≤ 15) := by congr 1; apply propext; omega
  have d2 : decide (0 < e.n) = decide ((e.n : Int) ≥ 1) := by congr 1; apply propext; omega
  have d3 : decide (e.t < 65536) = decide ((e.t : Int) ≤ 65535) := by congr 1; apply propext; omega
  unfold mayE
  rw [d0, d1, d2, d3]
  refine ⟨_, ?_, zCf k1⟩
  by_cases g0 : e.f ≥ 0
  · by_cases g1 : e.f ≤ 15
    · by_cases g2 : (e.n : Int) ≥ 1
      · simp -implicitDefEqProofs (disch := omega) only [↓c82_0_eq, entV, bxRe, hh, hp, faRe0, faRe1, faRe2, ldI, ldU, l0, l1, l2, dcT, dcF, Bool.true_and, Bool.false_and, Bool.and_true, ↓ret82, ↓zAf, ↓zAb, ↓Option.bind_some, ↓zAa, zBd, zBm, zBl, zBe, zBn, zBk, zBi, zBf, zBj, zBq, zBp, Option.bind_some, Option.bind_none, Option.map_some, zAf, zAb, zAl, zAk, zBh, zAw, zAy, zAp, zBc, zAs, zBa, zAr, zBt, zBu, zBv, zBs, zAz, zAa, zAc, zAd, zAe, zAh, zAm, zAg, zAj, zAn, zAi, zAu, zAx, zAv, zBb, zAt, Bool.not_true, Bool.not_false, zCk, zCj, zCl, zCi, zCm, zAq, zAo, zBg, zBo, zBr, cond_true, cond_false, Nat.reduceBEq]
      · simp -implicitDefEqProofs (disch := omega) only [↓c82_0_eq, entV, bxRe, hh, hp, faRe0, faRe1, faRe2, ldI, ldU, l0, l1, l2, dcT, dcF, Bool.true_and, Bool.false_and, Bool.and_true, ↓ret82, ↓zAf, ↓zAb, ↓Option.bind_some, ↓zAa, zBd, zBm, zBl, zBe, zBn, zBk, zBi, zBf, zBj, zBq, zBp, Option.bind_some, Option.bind_none, Option.map_some, zAf, zAb, zAl, zAk, zBh, zAw, zAy, zAp, zBc, zAs, zBa, zAr, zBt, zBu, zBv, zBs, zAz, zAa, zAc, zAd, zAe, zAh, zAm, zAg, zAj, zAn, zAi, zAu, zAx, zAv, zBb, zAt, Bool.not_true, Bool.not_false, zCk, zCj, zCl, zCi, zCm, zAq, zAo, zBg, zBo, zBr, cond_true, cond_false, Nat.reduceBEq]
    · simp -implicitDefEqProofs (disch := omega) only [↓c82_0_eq, entV, bxRe, hh, hp, faRe0, faRe1, faRe2, ldI, ldU, l0, l1, l2, dcT, dcF, Bool.true_and, Bool.false_and, Bool.and_true, ↓ret82, ↓zAf, ↓zAb, ↓Option.bind_some, ↓zAa, zBd, zBm, zBl, zBe, zBn, zBk, zBi, zBf, zBj, zBq, zBp, Option.bind_some, Option.bind_none, Option.map_some, zAf, zAb, zAl, zAk, zBh, zAw, zAy, zAp, zBc, zAs, zBa, zAr, zBt, zBu, zBv, zBs, zAz, zAa, zAc, zAd, zAe, zAh, zAm, zAg, zAj, zAn, zAi, zAu, zAx, zAv, zBb, zAt, Bool.not_true, Bool.not_false, zCk, zCj, zCl, zCi, zCm, zAq, zAo, zBg, zBo, zBr, cond_true, cond_false, Nat.reduceBEq]
  · simp -implicitDefEqProofs (disch := omega) only [↓c82_0_eq, entV, bxRe, hh, hp, faRe0, faRe1, faRe2, ldI, ldU, l0, l1, l2, dcT, dcF, Bool.true_and, Bool.false_and, Bool.and_true, ↓ret82, ↓zAf, ↓zAb, ↓Option.bind_some, ↓zAa, zBd, zBm, zBl, zBe, zBn, zBk, zBi, zBf, zBj, zBq, zBp, Option.bind_some, Option.bind_none, Option.map_some, zAf, zAb, zAl, zAk, zBh, zAw, zAy, zAp, zBc, zAs, zBa, zAr, zBt, zBu, zBv, zBs, zAz, zAa, zAc, zAd, zAe, zAh, zAm, zAg, zAj, zAn, zAi, zAu, zAx, zAv, zBb, zAt, Bool.not_true, Bool.not_false, zCk, zCj, zCl, zCi, zCm, zAq, zAo, zBg, zBo, zBr, cond_true, cond_false, Nat.reduceBEq]
theorem spec_ahead (e g : E3) (h : Heap) : ∃ h', evC Tryz.prog 83 #[entV e, entV g] h = some (.bool (decide (cmpE e g < 0)), h') ∧ HExt h h' := by
  rw [call83]
  have c := (Cells.new (nm h) 87 [.int .i64 e.f, .int .u64 e.n, .int .u64 e.t]).keepNew (.cells [.int .i64 g.f, .int .u64 g.n, .int .u64 g.t]) 87
  have c2 := Cells.new ((nm h).new (.cells [.int .i64 e.f, .int .u64 e.n, .int .u64 e.t]) 87) 87 [.int .i64 g.f, .int .u64 g.n, .int .u64 g.t]
  have k1 : In h.blks.length No (nm h) (((nm h).new (.cells [.int .i64 e.f, .int .u64 e.n, .int .u64 e.t]) 87).new (.cells [.int .i64 g.f, .int .u64 g.n, .int .u64 g.t]) 87) := (In.new (h := nm h) (Nat.le_refl h.blks.length) _ _).trans (In.new (by simp [Heap.new]) _ _)
  have e1 : ((nm h).new (.cells [.int .i64 e.f, .int .u64 e.n, .int .u64 e.t]) 87).blks.length = h.blks.length + 1 := by simp [Heap.new]
  rw [e1] at c2
  generalize hh : ((nm h).new (.cells [.int .i64 e.f, .int .u64 e.n, .int .u64 e.t]) 87).new (.cells [.int .i64 g.f, .int .u64 g.n, .int .u64 g.t]) 87 = h1 at c c2 k1
  have e0 : (nm h).blks.length = h.blks.length := rfl
  rw [e0] at c
  have l0 : h1.load1 h.blks.length 0 = some (.int .i64 e.f) := c.load 0
  have l1 : h1.load1 h.blks.length (0 + 1) = some (.int .u64 e.n) := c.load 1
  have m0 : h1.load1 (h.blks.length + 1) 0 = some (.int .i64 g.f) := c2.load 0
  have m1 : h1.load1 (h.blks.length + 1) (0 + 1) = some (.int .u64 g.n) := c2.load 1
  have hc : decide (cmpE e g < 0) = (decide (e.f < g.f) || (decide (e.f = g.f) && decide ((e.n : Int) < g.n))) := by
    unfold cmpE
    by_cases h1 : e.f < g.f
    · rw [if_pos h1, decide_eq_true h1]; rfl
    · rw [if_neg h1, decide_eq_false h1]
      by_cases h2 : g.f < e.f
      · rw [if_pos h2, decide_eq_false (show ¬ e.f = g.f by omega)]; rfl
      · rw [if_neg h2, decide_eq_true (show e.f = g.f by omega)]
        by_cases h3 : e.n < g.n
        · rw [if_pos h3, decide_eq_true (show (e.n : Int) < g.n by omega)]; rfl
        · rw [if_neg h3, decide_eq_false (show ¬ (e.n : Int) < g.n by omega)]
          by_cases h4 : g.n < e.n
          · rw [if_pos h4]; rfl
          · rw [if_neg h4]; rfl
  rw [hc]
  refine ⟨_, ?_, zCf k1⟩
  by_cases g0 : e.f < g.f
  · simp -implicitDefEqProofs (disch := omega) only [↓c83_0_eq, entV, bxRe, e0, e1, hh, faRe0, faRe1, ldI, ldU, l0, l1, m0, m1, dcT, dcF, Bool.true_or, Bool.false_or, Bool.true_and, Bool.false_and, ↓ret83, ↓zAf, ↓zAb, ↓Option.bind_some, ↓zAa, zBd, zBm, zBl, zBe, zBn, zBk, zBi, zBf, zBj, zBq, zBp, Option.bind_some, Option.bind_none, Option.map_some, zAf, zAb, zAl, zAk, zBh, zAw, zAy, zAp, zBc, zAs, zBa, zAr, zBt, zBu, zBv, zBs, zAz, zAa, zAc, zAd, zAe, zAh, zAm, zAg, zAj, zAn, zAi, zAu, zAx, zAv, zBb, zAt, Bool.not_true, Bool.not_false, zCk, zCj, zCl, zCi, zCm, zAq, zAo, zBg, zBo, zBr, cond_true, cond_false, Nat.reduceBEq]
  · by_cases g1 : e.f = g.f
    · simp -implicitDefEqProofs (disch := omega) only [↓c83_0_eq, entV, bxRe, e0, e1, hh, faRe0, faRe1, ldI, ldU, l0, l1, m0, m1, dcT, dcF, Bool.true_or, Bool.false_or, Bool.true_and, Bool.false_and, ↓ret83, ↓zAf, ↓zAb, ↓Option.bind_some, ↓zAa, zBd, zBm, zBl, zBe, zBn, zBk, zBi, zBf, zBj, zBq, zBp, Option.bind_some, Option.bind_none, Option.map_some, zAf, zAb, zAl, zAk, zBh, zAw, zAy, zAp, zBc, zAs, zBa, zAr, zBt, zBu, zBv, zBs, zAz, zAa, zAc, zAd, zAe, zAh, zAm, zAg, zAj, zAn, zAi, zAu, zAx, zAv, zBb, zAt, Bool.not_true, Bool.not_false, zCk, zCj, zCl, zCi, zCm, zAq, zAo, zBg, zBo, zBr, cond_true, cond_false, Nat.reduceBEq]
    · simp -implicitDefEqProofs (disch := omega) only [↓c83_0_eq, entV, bxRe, e0, e1, hh, faRe0, faRe1, ldI, ldU, l0, l1, m0, m1, dcT, dcF, Bool.true_or, Bool.false_or, Bool.true_and, Bool.false_and, ↓ret83, ↓zAf, ↓zAb, ↓Option.bind_some, ↓zAa, zBd, zBm, zBl, zBe, zBn, zBk, zBi, zBf, zBj, zBq, zBp, Option.bind_some, Option.bind_none, Option.map_some, zAf, zAb, zAl, zAk, zBh, zAw, zAy, zAp, zBc, zAs, zBa, zAr, zBt, zBu, zBv, zBs, zAz, zAa, zAc, zAd, zAe, zAh, zAm, zAg, zAj, zAn, zAi, zAu, zAx, zAv, zBb, zAt, Bool.not_true, Bool.not_false, zCk, zCj, zCl, zCi, zCm, zAq, zAo, zBg, zBo, zBr, cond_true, cond_false, Nat.reduceBEq]
theorem goodL_loop {h0 h1 : Heap} {v : Value} {es : List E3} (s : SE h1 v es) (hl : es.length < 2 ^ 40) : ∀ (m i : Nat), es.length - i = m → i ≤ es.length →
    ∀ (x : Nat → Value) (h : Heap),In h0.blks.length No (nm h0) h → Same h1 h → x 0 = v → x 3 = .int .i64 i →
    ∃ h', lK c80_1 33 x h (zCr 0 (sK c80_2 (zCw Tryz.f80 Tryz.prog h0))) = some (.bool (goodC (prevE es i) (es.drop i)), done h0 h') ∧ In h0.blks.length No (nm h0) h' := by
  intro m
  obtain ⟨va, vc, rfl⟩ := s.shape
  induction m with
  | zero =>
    intro i h1 h2 x h hin hs Aa Ad
    obtain rfl : i = es.length := by omega
    rw [lK_eq, List.drop_length]
    simp -implicitDefEqProofs (disch := omega) only [↓c80_1_eq, ↓c80_2_eq,Aa,Ad, lnRs, dcF, goodC, ↓ret80, ↓zAf, ↓zAb, ↓Option.bind_some, ↓zAa, zBd, zBm, zBl, zBe, zBn, zBk, zBi, zBf, zBj, zBq, zBp, Option.bind_some, Option.bind_none, Option.map_some, zAf, zAb, zAl, zAk, zBh, zAw, zAy, zAp, zBc, zAs, zBa, zAr, zBt, zBu, zBv, zBs, zAz, zAa, zAc, zAd, zAe, zAh, zAm, zAg, zAj, zAn, zAi, zAu, zAx, zAv, zBb, zAt, Bool.not_true, Bool.not_false, zCk, zCj, zCl, zCi, zCm, zAq, zAo, zBg, zBo, zBr, cond_true, cond_false, Nat.reduceBEq]
    exact ⟨_, rfl, hin⟩
  | succ m ih =>
    intro i hm hi x h hin hs Aa Ad
    have hil : i < es.length := by omega
    rw [lK_eq, List.drop_eq_getElem_cons hil]
    obtain ⟨b, o, hb, hbl, e1, e2⟩ := s.at' (t := 31) (el := 87) (by kernel_rfl) (by kernel_rfl) hil
    obtain ⟨f1, f2, f3, f4⟩ := e2 h (hs.2 b hbl)
    obtain ⟨hC, g1, g2⟩ := spec_GoodEntry es[i] h
    have wi : IntKind.i64.wrap ((i : Int) + 1) = ((i + 1 : Nat) : Int) := by rw [wrap_i64] <;> omega
    have hin3 := hin.trans (g2.inn (Nat.le_trans hin.le hin.len))
    have hs3 := hs.trans g2.same
    cases hmay : mayE es[i] with
    | false =>
      rw [hmay] at g1
      simp -implicitDefEqProofs (disch := omega) only [↓c80_1_eq, ↓c80_2_eq,Aa,Ad, lnRs, e1, ldR, f1, Option.map_some, entA, g1, dcT, dcF, goodC, hmay, Bool.false_and, ↓ret80, ↓zAf, ↓zAb, ↓Option.bind_some, ↓zAa, zBd, zBm, zBl, zBe, zBn, zBk, zBi, zBf, zBj, zBq, zBp, Option.bind_some, Option.bind_none, Option.map_some, zAf, zAb, zAl, zAk, zBh, zAw, zAy, zAp, zBc, zAs, zBa, zAr, zBt, zBu, zBv, zBs, zAz, zAa, zAc, zAd, zAe, zAh, zAm, zAg, zAj, zAn, zAi, zAu, zAx, zAv, zBb, zAt, Bool.not_true, Bool.not_false, zCk, zCj, zCl, zCi, zCm, zAq, zAo, zBg, zBo, zBr, cond_true, cond_false, Nat.reduceBEq]
      exact ⟨_, rfl, hin3⟩
    | true =>
      rw [hmay] at g1
      by_cases hi0 : i = 0
      · subst hi0
        simp -implicitDefEqProofs (disch := omega) only [↓c80_1_eq, ↓c80_2_eq,Aa,Ad, lnRs, e1, ldR, f1, Option.map_some, entA, g1, dcT, dcF, goodC, hmay, prevE, Bool.true_and, wi, ↓ret80, ↓zAf, ↓zAb, ↓Option.bind_some, ↓zAa, zBd, zBm, zBl, zBe, zBn, zBk, zBi, zBf, zBj, zBq, zBp, Option.bind_some, Option.bind_none, Option.map_some, zAf, zAb, zAl, zAk, zBh, zAw, zAy, zAp, zBc, zAs, zBa, zAr, zBt, zBu, zBv, zBs, zAz, zAa, zAc, zAd, zAe, zAh, zAm, zAg, zAj, zAn, zAi, zAu, zAx, zAv, zBb, zAt, Bool.not_true, Bool.not_false, zCk, zCj, zCl, zCi, zCm, zAq, zAo, zBg, zBo, zBr, cond_true, cond_false, Nat.reduceBEq]
        have hpv' : prevE es (0 + 1) = some es[0] := by unfold prevE; rw [if_neg (by omega), List.getElem?_eq_getElem hil]
        rw [← hpv']
        refine ih 1 (by omega) (by omega) _ _ hin3 hs3 ?_ ?_
        exact Aa
        rfl
      · have hp : i - 1 < es.length := by omega
        obtain ⟨b', o', hb', hbl', e1', e2'⟩ := s.at' (t := 31) (el := 87) (by kernel_rfl) (by kernel_rfl) hp
        obtain ⟨f1', _⟩ := e2' hC (hs3.2 b' hbl')
        obtain ⟨f1'', _⟩ := e2 hC (hs3.2 b hbl)
        have wp : IntKind.i64.wrap ((i : Int) - 1) = ((i - 1 : Nat) : Int) := by rw [wrap_i64] <;> omega
        obtain ⟨hD, q1, q2⟩ := spec_ahead es[i - 1] es[i] hC
        have hpv : prevE es i = some es[i - 1] := by unfold prevE; rw [if_neg hi0, List.getElem?_eq_getElem hp]
        have hin4 := hin3.trans (q2.inn (Nat.le_trans hin3.le hin3.len))
        have hs4 := hs3.trans q2.same
        by_cases hc : cmpE es[i - 1] es[i] < 0
        · simp -implicitDefEqProofs (disch := omega) only [↓c80_1_eq, ↓c80_2_eq,Aa,Ad, lnRs, e1, ldR, f1, f1', f1'', Option.map_some, entA, g1, dcT, dcF, goodC, hmay, hpv, Bool.true_and, wi, wp, e1', q1, decide_eq_true hc, ↓ret80, ↓zAf, ↓zAb, ↓Option.bind_some, ↓zAa, zBd, zBm, zBl, zBe, zBn, zBk, zBi, zBf, zBj, zBq, zBp, Option.bind_some, Option.bind_none, Option.map_some, zAf, zAb, zAl, zAk, zBh, zAw, zAy, zAp, zBc, zAs, zBa, zAr, zBt, zBu, zBv, zBs, zAz, zAa, zAc, zAd, zAe, zAh, zAm, zAg, zAj, zAn, zAi, zAu, zAx, zAv, zBb, zAt, Bool.not_true, Bool.not_false, zCk, zCj, zCl, zCi, zCm, zAq, zAo, zBg, zBo, zBr, cond_true, cond_false, Nat.reduceBEq]
          have hpv' : prevE es (i + 1) = some es[i] := by unfold prevE; rw [if_neg (by omega), Nat.add_sub_cancel, List.getElem?_eq_getElem hil]
          rw [← hpv']
          refine ih (i + 1) (by omega) (by omega) _ _ hin4 hs4 ?_ ?_
          exact Aa
          rfl
        · simp -implicitDefEqProofs (disch := omega) only [↓c80_1_eq, ↓c80_2_eq,Aa,Ad, lnRs, e1, ldR, f1, f1', f1'', Option.map_some, entA, g1, dcT, dcF, goodC, hmay, hpv, Bool.true_and, Bool.and_false, Bool.false_and, wi, wp, e1', q1, decide_eq_false hc, ↓ret80, ↓zAf, ↓zAb, ↓Option.bind_some, ↓zAa, zBd, zBm, zBl, zBe, zBn, zBk, zBi, zBf, zBj, zBq, zBp, Option.bind_some, Option.bind_none, Option.map_some, zAf, zAb, zAl, zAk, zBh, zAw, zAy, zAp, zBc, zAs, zBa, zAr, zBt, zBu, zBv, zBs, zAz, zAa, zAc, zAd, zAe, zAh, zAm, zAg, zAj, zAn, zAi, zAu, zAx, zAv, zBb, zAt, Bool.not_true, Bool.not_false, zCk, zCj, zCl, zCi, zCm, zAq, zAo, zBg, zBo, zBr, cond_true, cond_false, Nat.reduceBEq]
          exact ⟨_, rfl, hin4⟩
theorem spec_GoodLog {h : Heap} {v : Value} {es : List E3} (s : SE h v es) (hl : es.length < 2 ^ 40) : ∃ h', evC Tryz.prog 80 #[v] h = some (.bool (goodE es), h') ∧ HExt h h' := by
  rw [call80]
  have lp := goodL_loop (h0 := h) s.nm hl es.length 0 (by omega) (by omega)
  simp -implicitDefEqProofs (disch := omega) only [↓c80_0_eq, ↓zAf, ↓zAb, ↓Option.bind_some, ↓zAa, zBd, zBm, zBl, zBe, zBn, zBk, zBi, zBf, zBj, zBq, zBp, Option.bind_some, Option.bind_none, Option.map_some, zAf, zAb, zAl, zAk, zBh, zAw, zAy, zAp, zBc, zAs, zBa, zAr, zBt, zBu, zBv, zBs, zAz, zAa, zAc, zAd, zAe, zAh, zAm, zAg, zAj, zAn, zAi, zAu, zAx, zAv, zBb, zAt, Bool.not_true, Bool.not_false, zCk, zCj, zCl, zCi, zCm, zAq, zAo, zBg, zBo, zBr, cond_true, cond_false, Nat.reduceBEq]
  refine endL (lp _ _ (In.refl (Nat.le_refl _)) (Same.refl _) ?_ ?_)
  all_goals rfl
end Go.Am
namespace Go.Am
open Go.Proofs
set_option maxRecDepth 100000
set_option linter.all false
attribute [local congr] zCc zCn zCp zCo zCg zCd
theorem purgeR_loop {h0 h1 : Heap} {v : Value} {es : List E3} (s : SE h1 v es) (hl : es.length < 2 ^ 38) (hn : h0.blks.length ≤ h1.blks.length) :
    ∀ (m i : Nat), es.length - i = m → i ≤ es.length → ∀ (x : Nat → Value) (h : Heap) (a : Option Addr) (c : Nat) (o : List E3),In h0.blks.length No (nm h0) h → Same h1 h → AR h1.blks.length h (.slice a o.length c) o → o ++ zCv (es.drop i) = zCv es →
    x 0 = v → x 3 = .slice a o.length c → x 4 = .int .i64 i →
    ∃ a' c' h', lK c39_1 50 x h (zCr 0 (sK c39_2 (zCw Tryz.f39 Tryz.prog h0))) = some (.slice a' (zCv es).length c', done h0 h') ∧ In h0.blks.length No (nm h0) h' ∧ AR h1.blks.length h' (.slice a' (zCv es).length c') (zCv es) := by
  intro m
  have hpl := purgeL_len es
  obtain ⟨va, vc, rfl⟩ := s.shape
  induction m with
  | zero =>
    intro i e1 e2 x h a c o hin hs ha ho Aa Ad Ae
    obtain rfl : i = es.length := by omega
    rw [List.drop_length] at ho
    simp only [zCv, List.append_nil] at ho
    subst ho
    rw [lK_eq]
    refine ⟨a, c, h, ?_, hin, ha⟩
    simp -implicitDefEqProofs (disch := omega) only [↓c39_1_eq, ↓c39_2_eq,Aa,Ad,Ae, lnRs, dcF, ↓ret39, ↓zAf, ↓zAb, ↓Option.bind_some, ↓zAa, zBd, zBm, zBl, zBe, zBn, zBk, zBi, zBf, zBj, zBq, zBp, Option.bind_some, Option.bind_none, Option.map_some, zAf, zAb, zAl, zAk, zBh, zAw, zAy, zAp, zBc, zAs, zBa, zAr, zBt, zBu, zBv, zBs, zAz, zAa, zAc, zAd, zAe, zAh, zAm, zAg, zAj, zAn, zAi, zAu, zAx, zAv, zBb, zAt, Bool.not_true, Bool.not_false, zCk, zCj, zCl, zCi, zCm, zAq, zAo, zBg, zBo, zBr, cond_true, cond_false, Nat.reduceBEq]
  | succ m ih =>
    intro i hm hi x h a c o hin hs ha ho Aa Ad Ae
    have hil : i < es.length := by omega
    obtain ⟨b, of, hb, hbl, e1, e2⟩ := s.at' (t := 31) (el := 87) (by kernel_rfl) (by kernel_rfl) hil
    obtain ⟨f1, f2, f3, f4⟩ := e2 h (hs.2 b hbl)
    have wi : IntKind.i64.wrap ((i : Int) + 1) = ((i + 1 : Nat) : Int) := by rw [wrap_i64] <;> omega
    have hol : o.length < 2 ^ 39 := by
      have := congrArg List.length ho
      rw [List.length_append] at this; omega
    obtain ⟨a', c', hD, q1, q2, q3, q4⟩ := app_ent etR (n0 := h1.blks.length) hs.1 ha es[i] hol
    have hsD : Same h1 hD := ⟨Nat.le_trans hs.1 q3.len, fun q hq => (q4 q (Nat.lt_of_lt_of_le hq hs.1) (Acc.off ha (Nat.le_refl _) hq)).trans (hs.2 q hq)⟩
    have hinD := hin.trans (Keeps.inn (S := No) (q3.dn hn))
    by_cases hlast : i + 1 = es.length
    · have ho' : (o ++ [es[i]]) ++ zCv (es.drop (i + 1)) = zCv es := by
        rw [← ho, List.drop_eq_getElem_cons hil, hlast, List.drop_length]; simp [zCv]
      by_cases ht : es[i].t = 0
      · rw [lK_eq]
        simp -implicitDefEqProofs (disch := omega) only [↓c39_1_eq, ↓c39_2_eq,Aa,Ad,Ae, lnRs, dcT, dcF, e1, ldR, f1, Option.map_some, entA, faRe0, faRe2, ldU, f4, wi, bsR, q1, ↓zAf, ↓zAb, ↓Option.bind_some, ↓zAa, zBd, zBm, zBl, zBe, zBn, zBk, zBi, zBf, zBj, zBq, zBp, Option.bind_some, Option.bind_none, Option.map_some, zAf, zAb, zAl, zAk, zBh, zAw, zAy, zAp, zBc, zAs, zBa, zAr, zBt, zBu, zBv, zBs, zAz, zAa, zAc, zAd, zAe, zAh, zAm, zAg, zAj, zAn, zAi, zAu, zAx, zAv, zBb, zAt, Bool.not_true, Bool.not_false, zCk, zCj, zCl, zCi, zCm, zAq, zAo, zBg, zBo, zBr, cond_true, cond_false, Nat.reduceBEq]
        exact ih (i + 1) (by omega) (by omega) (up _ _) hD a' c' _ hinD hsD q2 ho' Aa rfl rfl
      · rw [lK_eq]
        simp -implicitDefEqProofs (disch := omega) only [↓c39_1_eq, ↓c39_2_eq,Aa,Ad,Ae, lnRs, dcT, dcF, e1, ldR, f1, Option.map_some, entA, faRe0, faRe2, ldU, f4, wi, bsR, q1, ↓zAf, ↓zAb, ↓Option.bind_some, ↓zAa, zBd, zBm, zBl, zBe, zBn, zBk, zBi, zBf, zBj, zBq, zBp, Option.bind_some, Option.bind_none, Option.map_some, zAf, zAb, zAl, zAk, zBh, zAw, zAy, zAp, zBc, zAs, zBa, zAr, zBt, zBu, zBv, zBs, zAz, zAa, zAc, zAd, zAe, zAh, zAm, zAg, zAj, zAn, zAi, zAu, zAx, zAv, zBb, zAt, Bool.not_true, Bool.not_false, zCk, zCj, zCl, zCi, zCm, zAq, zAo, zBg, zBo, zBr, cond_true, cond_false, Nat.reduceBEq]
        exact ih (i + 1) (by omega) (by omega) (up _ _) hD a' c' _ hinD hsD q2 ho' Aa rfl rfl
    · have hin1 : i + 1 < es.length := by omega
      obtain ⟨b', of', hb', hbl', e1', e2'⟩ := s.at' (t := 31) (el := 87) (by kernel_rfl) (by kernel_rfl) hin1
      obtain ⟨_, f2', _⟩ := e2' h (hs.2 b' hbl')
      have hdr : es.drop i = es[i] :: es[i + 1] :: es.drop (i + 2) := by rw [List.drop_eq_getElem_cons hil, List.drop_eq_getElem_cons hin1]
      by_cases hk : es[i].t ≠ 0 ∨ es[i + 1].f ≠ es[i].f
      · have ho' : (o ++ [es[i]]) ++ zCv (es.drop (i + 1)) = zCv es := by
          rw [← ho, hdr, List.drop_eq_getElem_cons hin1, purgeL_two es[i], if_pos hk, List.append_assoc]; rfl
        by_cases ht : es[i].t = 0
        · have hf : es[i + 1].f ≠ es[i].f := hk.resolve_left (fun h => h ht)
          rw [lK_eq]
          simp -implicitDefEqProofs (disch := omega) only [↓c39_1_eq, ↓c39_2_eq,Aa,Ad,Ae, lnRs, dcT, dcF, e1, e1', ldI, f2, f2', ldR, f1, Option.map_some, entA, faRe0, faRe2, ldU, f4, wi, decide_eq_true hf, bsR, q1, ↓zAf, ↓zAb, ↓Option.bind_some, ↓zAa, zBd, zBm, zBl, zBe, zBn, zBk, zBi, zBf, zBj, zBq, zBp, Option.bind_some, Option.bind_none, Option.map_some, zAf, zAb, zAl, zAk, zBh, zAw, zAy, zAp, zBc, zAs, zBa, zAr, zBt, zBu, zBv, zBs, zAz, zAa, zAc, zAd, zAe, zAh, zAm, zAg, zAj, zAn, zAi, zAu, zAx, zAv, zBb, zAt, Bool.not_true, Bool.not_false, zCk, zCj, zCl, zCi, zCm, zAq, zAo, zBg, zBo, zBr, cond_true, cond_false, Nat.reduceBEq]
          exact ih (i + 1) (by omega) (by omega) (up _ _) hD a' c' _ hinD hsD q2 ho' Aa rfl rfl
        · rw [lK_eq]
          simp -implicitDefEqProofs (disch := omega) only [↓c39_1_eq, ↓c39_2_eq,Aa,Ad,Ae, lnRs, dcT, dcF, e1, ldR, f1, Option.map_some, entA, faRe0, faRe2, ldU, f4, wi, bsR, q1, ↓zAf, ↓zAb, ↓Option.bind_some, ↓zAa, zBd, zBm, zBl, zBe, zBn, zBk, zBi, zBf, zBj, zBq, zBp, Option.bind_some, Option.bind_none, Option.map_some, zAf, zAb, zAl, zAk, zBh, zAw, zAy, zAp, zBc, zAs, zBa, zAr, zBt, zBu, zBv, zBs, zAz, zAa, zAc, zAd, zAe, zAh, zAm, zAg, zAj, zAn, zAi, zAu, zAx, zAv, zBb, zAt, Bool.not_true, Bool.not_false, zCk, zCj, zCl, zCi, zCm, zAq, zAo, zBg, zBo, zBr, cond_true, cond_false, Nat.reduceBEq]
          exact ih (i + 1) (by omega) (by omega) (up _ _) hD a' c' _ hinD hsD q2 ho' Aa rfl rfl
      · have ht : es[i].t = 0 := Classical.byContradiction fun h => hk (.inl h)
        have hf : es[i + 1].f = es[i].f := Classical.byContradiction fun h => hk (.inr h)
        have d2 : decide (es[i + 1].f ≠ es[i].f) = false := decide_eq_false (fun h => h hf)
        have ho' : o ++ zCv (es.drop (i + 1)) = zCv es := by
          rw [← ho, hdr, List.drop_eq_getElem_cons hin1, purgeL_two es[i], if_neg hk]
        rw [lK_eq]
        simp -implicitDefEqProofs (disch := omega) only [↓c39_1_eq, ↓c39_2_eq,Aa,Ad,Ae, lnRs, dcT, dcF, e1, e1', ldI, f2, f2', ldR, f1, Option.map_some, entA, faRe0, faRe2, ldU, f4, wi, d2, ↓zAf, ↓zAb, ↓Option.bind_some, ↓zAa, zBd, zBm, zBl, zBe, zBn, zBk, zBi, zBf, zBj, zBq, zBp, Option.bind_some, Option.bind_none, Option.map_some, zAf, zAb, zAl, zAk, zBh, zAw, zAy, zAp, zBc, zAs, zBa, zAr, zBt, zBu, zBv, zBs, zAz, zAa, zAc, zAd, zAe, zAh, zAm, zAg, zAj, zAn, zAi, zAu, zAx, zAv, zBb, zAt, Bool.not_true, Bool.not_false, zCk, zCj, zCl, zCi, zCm, zAq, zAo, zBg, zBo, zBr, cond_true, cond_false, Nat.reduceBEq]
        exact ih (i + 1) (by omega) (by omega) (up _ _) h a c _ hin hs ha ho' Aa Ad rfl
theorem spec_PurgeR {h : Heap} {v : Value} {es : List E3} (s : SE h v es) (hl : es.length < 2 ^ 38) : ∃ a c h', evC Tryz.prog 39 #[v] h = some (.slice a (purgeE es).length c, h') ∧ HExt h h' ∧ SE h' (.slice a (purgeE es).length c) (purgeE es) := by
  rw [call39]
  obtain ⟨h2, q2,Ac⟩ := spec_GoodLog s.nm (by omega)
  have k2 : In h.blks.length No (nm h) h2 := Ac.inn (Nat.le_refl h.blks.length)
  have s2 : SE h2 v es := Sl.same s.nm Ac.same
  obtain ⟨va, vc, rfl⟩ := s.shape
  unfold purgeE
  cases hg : goodE es with
  | false =>
    rw [hg] at q2
    refine ⟨va, vc, _, ?_, zCf k2, s2.done⟩
    simp -implicitDefEqProofs (disch := omega) only [↓c39_0_eq, q2, Bool.false_eq_true, if_false, ↓ret39, ↓zAf, ↓zAb, ↓Option.bind_some, ↓zAa, zBd, zBm, zBl, zBe, zBn, zBk, zBi, zBf, zBj, zBq, zBp, Option.bind_some, Option.bind_none, Option.map_some, zAf, zAb, zAl, zAk, zBh, zAw, zAy, zAp, zBc, zAs, zBa, zAr, zBt, zBu, zBv, zBs, zAz, zAa, zAc, zAd, zAe, zAh, zAm, zAg, zAj, zAn, zAi, zAu, zAx, zAv, zBb, zAt, Bool.not_true, Bool.not_false, zCk, zCj, zCl, zCi, zCm, zAq, zAo, zBg, zBo, zBr, cond_true, cond_false, Nat.reduceBEq]
  | true =>
    rw [hg] at q2
    have lp := purgeR_loop (h0 := h) s2 hl Ac.len es.length 0 (by omega) (by omega)
    have fin' : ∀ {r : Option (Value × Heap)}, (∃ a c h', r = some (.slice a (zCv es).length c, done h h') ∧ In h.blks.length No (nm h) h' ∧ AR h2.blks.length h' (.slice a (zCv es).length c) (zCv es)) → ∃ a c h', r = some (.slice a (zCv es).length c, h') ∧ HExt h h' ∧ SE h' (.slice a (zCv es).length c) (zCv es) := fun ⟨a, c, h', q1, q2, q3⟩ => ⟨a, c, _, q1, zCf q2, (Acc.sl q3 etR.size).done⟩
    simp only [if_true]
    simp -implicitDefEqProofs (disch := omega) only [↓c39_0_eq, q2, ↓zAf, ↓zAb, ↓Option.bind_some, ↓zAa, zBd, zBm, zBl, zBe, zBn, zBk, zBi, zBf, zBj, zBq, zBp, Option.bind_some, Option.bind_none, Option.map_some, zAf, zAb, zAl, zAk, zBh, zAw, zAy, zAp, zBc, zAs, zBa, zAr, zBt, zBu, zBv, zBs, zAz, zAa, zAc, zAd, zAe, zAh, zAm, zAg, zAj, zAn, zAi, zAu, zAx, zAv, zBb, zAt, Bool.not_true, Bool.not_false, zCk, zCj, zCl, zCi, zCm, zAq, zAo, zBg, zBo, zBr, cond_true, cond_false, Nat.reduceBEq]
    refine fin' (lp _ _ none 0 [] k2 (Same.refl _) (AR.nil _ _) (by rw [List.drop_zero]; rfl) ?_ ?_ ?_)
    all_goals rfl
theorem butR_loop {h0 h1 : Heap} {v : Value} {es : List E3} {to : Nat} (s : SE h1 v es) (hw : wide es) (hto : to < 2 ^ 64) (hl : es.length < 2 ^ 38) (hn : h0.blks.length ≤ h1.blks.length) :
    ∀ (m i : Nat), es.length - i = m → i ≤ es.length → ∀ (x : Nat → Value) (h : Heap) (a : Option Addr) (c : Nat),In h0.blks.length No (nm h0) h → Same h1 h → AR h1.blks.length h (.slice a ((es.take i).map (lessF to)).length c) ((es.take i).map (lessF to)) →
    x 0 = v → x 1 = .int .u64 to → x 7 = .slice a ((es.take i).map (lessF to)).length c → x 8 = .int .i64 i →
    ∃ a' c' h', lK c40_2 52 x h (zCr 0 (sK c40_3 (zCw Tryz.f40 Tryz.prog h0))) = some (.slice a' (es.map (lessF to)).length c', done h0 h') ∧ In h0.blks.length No (nm h0) h' ∧ AR h1.blks.length h' (.slice a' (es.map (lessF to)).length c') (es.map (lessF to)) := by
  intro m
  obtain ⟨va, vc, rfl⟩ := s.shape
  induction m with
  | zero =>
    intro i e1 e2 x h a c hin hs ha Aa Ab Ah Ai
    obtain rfl : i = es.length := by omega
    rw [List.take_length] at ha Ah
    rw [lK_eq]
    refine ⟨a, c, h, ?_, hin, ha⟩
    simp -implicitDefEqProofs (disch := omega) only [↓c40_2_eq, ↓c40_3_eq,Aa,Ab,Ah,Ai, lnRs, dcF, ↓ret40, ↓zAf, ↓zAb, ↓Option.bind_some, ↓zAa, zBd, zBm, zBl, zBe, zBn, zBk, zBi, zBf, zBj, zBq, zBp, Option.bind_some, Option.bind_none, Option.map_some, zAf, zAb, zAl, zAk, zBh, zAw, zAy, zAp, zBc, zAs, zBa, zAr, zBt, zBu, zBv, zBs, zAz, zAa, zAc, zAd, zAe, zAh, zAm, zAg, zAj, zAn, zAi, zAu, zAx, zAv, zBb, zAt, Bool.not_true, Bool.not_false, zCk, zCj, zCl, zCi, zCm, zAq, zAo, zBg, zBo, zBr, cond_true, cond_false, Nat.reduceBEq]
  | succ m ih =>
    intro i hm hi x h a c hin hs ha Aa Ab Ah Ai
    have hil : i < es.length := by omega
    obtain ⟨b, of, hb, hbl, e1, e2⟩ := s.at' (t := 31) (el := 87) (by kernel_rfl) (by kernel_rfl) hil
    obtain ⟨f1, f2, f3, f4⟩ := e2 h (hs.2 b hbl)
    have wd := hw es[i] (List.getElem_mem hil)
    have an := fun t xo yo => anS t xo yo es[i].t to wd.2 hto
    have wi : IntKind.i64.wrap ((i : Int) + 1) = ((i + 1 : Nat) : Int) := by rw [wrap_i64] <;> omega
    have hol : ((es.take i).map (lessF to)).length < 2 ^ 39 := by rw [List.length_map, List.length_take]; omega
    obtain ⟨a', c', hD, q1, q2, q3, q4⟩ := app_ent etR (n0 := h1.blks.length) hs.1 ha (lessF to es[i]) hol
    have ht : (es.take i).map (lessF to) ++ [lessF to es[i]] = (es.take (i + 1)).map (lessF to) := by rw [List.take_succ, List.getElem?_eq_getElem hil, List.map_append]; rfl
    rw [ht] at q1 q2
    have hsD : Same h1 hD := ⟨Nat.le_trans hs.1 q3.len, fun q hq => (q4 q (Nat.lt_of_lt_of_le hq hs.1) (Acc.off ha (Nat.le_refl _) hq)).trans (hs.2 q hq)⟩
    have hinD := hin.trans (Keeps.inn (S := No) (q3.dn hn))
    have bq := bsR (lessF to es[i]) h
    unfold entV at bq
    have bd := bdR3 es[i].f (es[i].n : Nat) (outB es[i].t to : Nat)
    rw [lK_eq]
    simp -implicitDefEqProofs (disch := omega) only [↓c40_2_eq, ↓c40_3_eq,Aa,Ab,Ah,Ai, lnRs, dcT, e1, faRe0, faRe1, faRe2, ldI, ldU, f2, f3, f4, an, bd, show zBw Tryz.prog 31 1 #[(0, .agg #[.int .i64 es[i].f, .int .u64 es[i].n, .int .u64 (outB es[i].t to : Nat)])] h = _ from bq, q1, wi, ↓zAf, ↓zAb, ↓Option.bind_some, ↓zAa, zBd, zBm, zBl, zBe, zBn, zBk, zBi, zBf, zBj, zBq, zBp, Option.bind_some, Option.bind_none, Option.map_some, zAf, zAb, zAl, zAk, zBh, zAw, zAy, zAp, zBc, zAs, zBa, zAr, zBt, zBu, zBv, zBs, zAz, zAa, zAc, zAd, zAe, zAh, zAm, zAg, zAj, zAn, zAi, zAu, zAx, zAv, zBb, zAt, Bool.not_true, Bool.not_false, zCk, zCj, zCl, zCi, zCm, zAq, zAo, zBg, zBo, zBr, cond_true, cond_false, Nat.reduceBEq]
    exact ih (i + 1) (by omega) (by omega) (up _ _) hD a' c' hinD hsD q2 Aa Ab rfl rfl
theorem shlU1 (t : TypeId) (xo yo : Operand) (p : Nat) (hp : p < 64) : binV Tryz.prog .shl t xo yo (.int .u64 1) (.int .u64 p) = some (.int .u64 ((2 ^ p : Nat) : Int)) := by
  have h2 : 2 ^ p < 2 ^ 64 := Nat.pow_lt_pow_right (by omega) hp
  rw [bin_shl64 _ _ _ _ _ _ (by omega) (by omega) (by omega), Int.toNat_natCast, show (1 : Int).toNat = 1 from rfl, Nat.one_mul, Nat.mod_eq_of_lt h2]
theorem outB_zero (t : Nat) (ht : t < 2 ^ 64) : outB t 0 = t := by
  unfold outB
  apply Nat.eq_of_testBit_eq
  intro i
  rw [Nat.testBit_and, show (2 ^ 64 - 1 - 0 : Nat) = 2 ^ 64 - 1 by omega, Nat.testBit_two_pow_sub_one]
  by_cases h : i < 64
  · simp [h]
  · rw [Nat.testBit_lt_two_pow (Nat.lt_of_lt_of_le ht (Nat.pow_le_pow_right (by omega) (by omega)))]
    simp
theorem spec_ButLog {h : Heap} {v : Value} {es : List E3} (s : SE h v es) (hw : wide es) (hl : es.length < 2 ^ 38) (to : Nat) (hto : to < 2 ^ 64) (d : Int) : ∃ a c h', evC Tryz.prog 40 #[v, .int .u64 to, .int .i64 d] h = some (.slice a es.length c, h') ∧ HExt h h' ∧ SE h' (.slice a es.length c) (zDe es (outB to (ofN d))) := by
  rw [call40]
  obtain ⟨h2, q2,Ac⟩ := spec_GoodLog s.nm (by omega)
  have k2 : In h.blks.length No (nm h) h2 := Ac.inn (Nat.le_refl h.blks.length)
  have s2 : SE h2 v es := Sl.same s.nm Ac.same
  obtain ⟨va, vc, rfl⟩ := s.shape
  unfold zDe
  cases hg : goodE es with
  | false =>
    rw [hg] at q2
    simp only [Bool.false_eq_true, if_false]
    refine ⟨va, vc, _, ?_, zCf k2, s2.done⟩
    simp -implicitDefEqProofs (disch := omega) only [↓c40_0_eq, q2, ↓ret40, ↓zAf, ↓zAb, ↓Option.bind_some, ↓zAa, zBd, zBm, zBl, zBe, zBn, zBk, zBi, zBf, zBj, zBq, zBp, Option.bind_some, Option.bind_none, Option.map_some, zAf, zAb, zAl, zAk, zBh, zAw, zAy, zAp, zBc, zAs, zBa, zAr, zBt, zBu, zBv, zBs, zAz, zAa, zAc, zAd, zAe, zAh, zAm, zAg, zAj, zAn, zAi, zAu, zAx, zAv, zBb, zAt, Bool.not_true, Bool.not_false, zCk, zCj, zCl, zCi, zCm, zAq, zAo, zBg, zBo, zBr, cond_true, cond_false, Nat.reduceBEq]
  | true =>
    rw [hg] at q2
    simp only [if_true]
    have lp := butR_loop (h0 := h) (to := outB to (ofN d)) s2 hw (outB_lt hto) hl Ac.len es.length 0 (by omega) (by omega)
    have fin' : ∀ {r : Option (Value × Heap)}, (∃ a c h', r = some (.slice a (es.map (lessF (outB to (ofN d)))).length c, done h h') ∧ In h.blks.length No (nm h) h' ∧ AR h2.blks.length h' (.slice a (es.map (lessF (outB to (ofN d)))).length c) (es.map (lessF (outB to (ofN d))))) → ∃ a c h', r = some (.slice a es.length c, h') ∧ HExt h h' ∧ SE h' (.slice a es.length c) (es.map (lessF (outB to (ofN d)))) := fun ⟨a, c, h', q1, q2, q3⟩ => by
      have q3' := (Acc.sl q3 etR.size).done (h0 := h)
      rw [List.length_map] at q1 q3'
      exact ⟨a, c, _, q1, zCf q2, by show Sl _ _ _ _ _ _; rw [List.length_map]; exact q3'⟩
    by_cases hd : 0 ≤ d ∧ d ≤ 63
    · obtain ⟨p, rfl⟩ : ∃ p : Nat, d = p := ⟨d.toNat, by omega⟩
      have e0 : ofN (p : Int) = 2 ^ p := by unfold ofN; rw [if_pos (by omega), Int.toNat_natCast]
      have sh := fun t xo yo => shlU1 t xo yo p (by omega)
      have an := fun t xo yo => anS t xo yo to (2 ^ p) hto (Nat.pow_lt_pow_right (by omega) (by omega))
      have cu := fun h => cvUint (p : Int) h (by omega) (by omega)
      rw [e0] at lp fin'
      rw [e0]
      simp -implicitDefEqProofs (disch := omega) only [↓c40_0_eq, ↓c40_1_eq, q2, dcT, cu, sh, an, ↓zAf, ↓zAb, ↓Option.bind_some, ↓zAa, zBd, zBm, zBl, zBe, zBn, zBk, zBi, zBf, zBj, zBq, zBp, Option.bind_some, Option.bind_none, Option.map_some, zAf, zAb, zAl, zAk, zBh, zAw, zAy, zAp, zBc, zAs, zBa, zAr, zBt, zBu, zBv, zBs, zAz, zAa, zAc, zAd, zAe, zAh, zAm, zAg, zAj, zAn, zAi, zAu, zAx, zAv, zBb, zAt, Bool.not_true, Bool.not_false, zCk, zCj, zCl, zCi, zCm, zAq, zAo, zBg, zBo, zBr, cond_true, cond_false, Nat.reduceBEq]
      refine fin' (lp _ _ none 0 k2 (Same.refl _) (AR.nil _ _) ?_ ?_ ?_ ?_)
      all_goals rfl
    · have e0 : ofN d = 0 := by unfold ofN; rw [if_neg (by omega)]
      rw [e0, outB_zero to hto] at lp fin'
      rw [e0, outB_zero to hto]
      by_cases h1 : d ≥ 0
      · simp -implicitDefEqProofs (disch := omega) only [↓c40_0_eq, ↓c40_1_eq, q2, dcT, dcF, ↓zAf, ↓zAb, ↓Option.bind_some, ↓zAa, zBd, zBm, zBl, zBe, zBn, zBk, zBi, zBf, zBj, zBq, zBp, Option.bind_some, Option.bind_none, Option.map_some, zAf, zAb, zAl, zAk, zBh, zAw, zAy, zAp, zBc, zAs, zBa, zAr, zBt, zBu, zBv, zBs, zAz, zAa, zAc, zAd, zAe, zAh, zAm, zAg, zAj, zAn, zAi, zAu, zAx, zAv, zBb, zAt, Bool.not_true, Bool.not_false, zCk, zCj, zCl, zCi, zCm, zAq, zAo, zBg, zBo, zBr, cond_true, cond_false, Nat.reduceBEq]
        refine fin' (lp _ _ none 0 k2 (Same.refl _) (AR.nil _ _) ?_ ?_ ?_ ?_)
        all_goals rfl
      · simp -implicitDefEqProofs (disch := omega) only [↓c40_0_eq, ↓c40_1_eq, q2, dcT, dcF, ↓zAf, ↓zAb, ↓Option.bind_some, ↓zAa, zBd, zBm, zBl, zBe, zBn, zBk, zBi, zBf, zBj, zBq, zBp, Option.bind_some, Option.bind_none, Option.map_some, zAf, zAb, zAl, zAk, zBh, zAw, zAy, zAp, zBc, zAs, zBa, zAr, zBt, zBu, zBv, zBs, zAz, zAa, zAc, zAd, zAe, zAh, zAm, zAg, zAj, zAn, zAi, zAu, zAx, zAv, zBb, zAt, Bool.not_true, Bool.not_false, zCk, zCj, zCl, zCi, zCm, zAq, zAo, zBg, zBo, zBr, cond_true, cond_false, Nat.reduceBEq]
        refine fin' (lp _ _ none 0 k2 (Same.refl _) (AR.nil _ _) ?_ ?_ ?_ ?_)
        all_goals rfl
theorem spec_LessLog {h : Heap} {v : Value} {es : List E3} (s : SE h v es) (hw : wide es) (hl : es.length < 2 ^ 38) (to : Nat) (hto : to < 2 ^ 64) : ∃ a c h', evC Tryz.prog 42 #[v, .int .u64 to] h = some (.slice a es.length c, h') ∧ HExt h h' ∧ SE h' (.slice a es.length c) (zDe es to) := by
  rw [call42]
  obtain ⟨a, c, h2, q2,Ac, s2⟩ := spec_ButLog s.nm hw hl to hto (-1)
  have e0 : ofN (-1) = 0 := by unfold ofN; rw [if_neg (by omega)]
  rw [e0, outB_zero to hto] at s2
  refine ⟨a, c, _, ?_, zCf (Ac.inn (Nat.le_refl h.blks.length)), s2.done⟩
  simp -implicitDefEqProofs (disch := omega) only [↓c42_0_eq, q2, ↓ret42, ↓zAf, ↓zAb, ↓Option.bind_some, ↓zAa, zBd, zBm, zBl, zBe, zBn, zBk, zBi, zBf, zBj, zBq, zBp, Option.bind_some, Option.bind_none, Option.map_some, zAf, zAb, zAl, zAk, zBh, zAw, zAy, zAp, zBc, zAs, zBa, zAr, zBt, zBu, zBv, zBs, zAz, zAa, zAc, zAd, zAe, zAh, zAm, zAg, zAj, zAn, zAi, zAu, zAx, zAv, zBb, zAt, Bool.not_true, Bool.not_false, zCk, zCj, zCl, zCi, zCm, zAq, zAo, zBg, zBo, zBr, cond_true, cond_false, Nat.reduceBEq]
theorem findI_hit {l : List E3} (hs : Srt l) {x : E3} {j : Nat} (hj : j < l.length) (h1 : l[j].f = x.f) (h2 : l[j].n = x.n) : findI l x (j + 1) = (j : Nat) := by
  obtain ⟨a, b⟩ := key_at hs hj h1 h2
  unfold findI
  rw [if_pos ⟨a, by omega⟩, b]
theorem findI_miss {l : List E3} {x : E3} {j : Nat} (hj : j < l.length) (h : ¬ (l[j].f = x.f ∧ l[j].n = x.n)) : findI l x (j + 1) = findI l x j := by
  unfold findI
  by_cases hb : bsF l x = true
  · obtain ⟨hk, g1, g2⟩ := key_bs hb
    have : bsK l x ≠ j := fun e => by subst e; exact h ⟨g1, g2⟩
    by_cases hlt : bsK l x < j
    · rw [if_pos ⟨hb, by omega⟩, if_pos ⟨hb, hlt⟩]
    · rw [if_neg (fun k => by omega), if_neg (fun k => hlt k.2)]
  · rw [if_neg (fun k => hb k.1), if_neg (fun k => hb k.1)]
theorem moreF_take {l : List E3} {x : E3} {j : Nat} (hj : j < l.length) : moreF (l.take (j + 1)) x = (moreF (l.take j) x || decide (l[j].f = x.f ∧ x.n < l[j].n)) := by
  unfold moreF
  rw [List.take_succ, List.getElem?_eq_getElem hj, List.any_append]
  simp
theorem find_loop {h0 h : Heap} {v : Value} {l : List E3} {Aa : E3} {p : Nat} (s : SE h v l) (hs : Srt l) (hl : l.length < 2 ^ 38) (c : Cells h p 87 (entC Aa)) :
    ∀ (m i : Nat), l.length - i = m → i ≤ l.length → ∀ (x : Nat → Value), x 0 = v → x 3 = .pointer (some ⟨p, 0, none⟩) → x 6 = .int .i64 (findI l Aa i) → x 7 = .bool (moreF (l.take i) Aa) → x 8 = .int .i64 i →
    lK c88_1 57 x h (zCr 0 (sK c88_2 (zCw Tryz.f88 Tryz.prog h0))) = some (.tuple #[.int .i64 (findI l Aa l.length), .bool (moreF l Aa)], done h0 h) := by
  intro m
  obtain ⟨va, vc, rfl⟩ := s.shape
  have p0 : h.load1 p 0 = some (.int .i64 Aa.f) := c.load 0
  have p1 : h.load1 p (0 + 1) = some (.int .u64 Aa.n) := c.load 1
  induction m with
  | zero =>
    intro i e1 e2 x y0 y3 y6 y7 y8
    obtain rfl : i = l.length := by omega
    rw [List.take_length] at y7
    rw [lK_eq]
    simp -implicitDefEqProofs (disch := omega) only [↓c88_1_eq, ↓c88_2_eq, y0, y3, y6, y7, y8, lnRs, dcF, ↓ret88, ↓zAf, ↓zAb, ↓Option.bind_some, ↓zAa, zBd, zBm, zBl, zBe, zBn, zBk, zBi, zBf, zBj, zBq, zBp, Option.bind_some, Option.bind_none, Option.map_some, zAf, zAb, zAl, zAk, zBh, zAw, zAy, zAp, zBc, zAs, zBa, zAr, zBt, zBu, zBv, zBs, zAz, zAa, zAc, zAd, zAe, zAh, zAm, zAg, zAj, zAn, zAi, zAu, zAx, zAv, zBb, zAt, Bool.not_true, Bool.not_false, zCk, zCj, zCl, zCi, zCm, zAq, zAo, zBg, zBo, zBr, cond_true, cond_false, Nat.reduceBEq]
  | succ m ih =>
    intro i hm hi x y0 y3 y6 y7 y8
    have hil : i < l.length := by omega
    obtain ⟨b, of, hb, hbl, e1, e2⟩ := s.at' (t := 31) (el := 87) (by kernel_rfl) (by kernel_rfl) hil
    obtain ⟨_, f2, f3, _⟩ := e2 h rfl
    have wi : IntKind.i64.wrap ((i : Int) + 1) = ((i + 1 : Nat) : Int) := by rw [wrap_i64] <;> omega
    have mt := moreF_take (x := Aa) hil
    rw [lK_eq]
    by_cases hf : l[i].f = Aa.f
    · by_cases hn : l[i].n = Aa.n
      · have ha := findI_hit hs hil hf hn
        rw [decide_eq_false (by omega), Bool.or_false] at mt
        cases hmo : moreF (l.take i) Aa with
        | true =>
          rw [hmo] at y7 mt
          simp -implicitDefEqProofs (disch := omega) only [↓c88_1_eq, ↓c88_2_eq, y0, y3, y6, y7, y8, lnRs, dcT, dcF, e1, faRe0, faRe1, ldI, ldU, f2, f3, p0, p1, decide_eq_true hf, decide_eq_true (congrArg Int.ofNat hn), wi, ↓zAf, ↓zAb, ↓Option.bind_some, ↓zAa, zBd, zBm, zBl, zBe, zBn, zBk, zBi, zBf, zBj, zBq, zBp, Option.bind_some, Option.bind_none, Option.map_some, zAf, zAb, zAl, zAk, zBh, zAw, zAy, zAp, zBc, zAs, zBa, zAr, zBt, zBu, zBv, zBs, zAz, zAa, zAc, zAd, zAe, zAh, zAm, zAg, zAj, zAn, zAi, zAu, zAx, zAv, zBb, zAt, Bool.not_true, Bool.not_false, zCk, zCj, zCl, zCi, zCm, zAq, zAo, zBg, zBo, zBr, cond_true, cond_false, Nat.reduceBEq]
          exact ih (i + 1) (by omega) (by omega) (up _ _) y0 y3 (by rw [ha]; rfl) (by rw [mt]; rfl) rfl
        | false =>
          rw [hmo] at y7 mt
          simp -implicitDefEqProofs (disch := omega) only [↓c88_1_eq, ↓c88_2_eq, y0, y3, y6, y7, y8, lnRs, dcT, dcF, e1, faRe0, faRe1, ldI, ldU, f2, f3, p0, p1, decide_eq_true hf, wi, ↓zAf, ↓zAb, ↓Option.bind_some, ↓zAa, zBd, zBm, zBl, zBe, zBn, zBk, zBi, zBf, zBj, zBq, zBp, Option.bind_some, Option.bind_none, Option.map_some, zAf, zAb, zAl, zAk, zBh, zAw, zAy, zAp, zBc, zAs, zBa, zAr, zBt, zBu, zBv, zBs, zAz, zAa, zAc, zAd, zAe, zAh, zAm, zAg, zAj, zAn, zAi, zAu, zAx, zAv, zBb, zAt, Bool.not_true, Bool.not_false, zCk, zCj, zCl, zCi, zCm, zAq, zAo, zBg, zBo, zBr, cond_true, cond_false, Nat.reduceBEq]
          exact ih (i + 1) (by omega) (by omega) (up _ _) y0 y3 (by rw [ha]; rfl) (by rw [mt]; rfl) rfl
      · have ha := findI_miss (x := Aa) hil (fun k => hn k.2)
        rw [← ha] at y6
        cases hmo : moreF (l.take i) Aa with
        | true =>
          rw [hmo] at y7 mt
          rw [Bool.true_or] at mt
          simp -implicitDefEqProofs (disch := omega) only [↓c88_1_eq, ↓c88_2_eq, y0, y3, y7, y8, lnRs, dcT, dcF, e1, faRe0, faRe1, ldI, ldU, f2, f3, p0, p1, decide_eq_true hf, wi, ↓zAf, ↓zAb, ↓Option.bind_some, ↓zAa, zBd, zBm, zBl, zBe, zBn, zBk, zBi, zBf, zBj, zBq, zBp, Option.bind_some, Option.bind_none, Option.map_some, zAf, zAb, zAl, zAk, zBh, zAw, zAy, zAp, zBc, zAs, zBa, zAr, zBt, zBu, zBv, zBs, zAz, zAa, zAc, zAd, zAe, zAh, zAm, zAg, zAj, zAn, zAi, zAu, zAx, zAv, zBb, zAt, Bool.not_true, Bool.not_false, zCk, zCj, zCl, zCi, zCm, zAq, zAo, zBg, zBo, zBr, cond_true, cond_false, Nat.reduceBEq]
          exact ih (i + 1) (by omega) (by omega) (up _ _) y0 y3 y6 (by rw [mt]; rfl) rfl
        | false =>
          rw [hmo] at y7 mt
          rw [Bool.false_or] at mt
          by_cases hgt : Aa.n < l[i].n
          · rw [decide_eq_true ⟨hf, hgt⟩] at mt
            simp -implicitDefEqProofs (disch := omega) only [↓c88_1_eq, ↓c88_2_eq, y0, y3, y7, y8, lnRs, dcT, dcF, e1, faRe0, faRe1, ldI, ldU, f2, f3, p0, p1, decide_eq_true hf, wi, ↓zAf, ↓zAb, ↓Option.bind_some, ↓zAa, zBd, zBm, zBl, zBe, zBn, zBk, zBi, zBf, zBj, zBq, zBp, Option.bind_some, Option.bind_none, Option.map_some, zAf, zAb, zAl, zAk, zBh, zAw, zAy, zAp, zBc, zAs, zBa, zAr, zBt, zBu, zBv, zBs, zAz, zAa, zAc, zAd, zAe, zAh, zAm, zAg, zAj, zAn, zAi, zAu, zAx, zAv, zBb, zAt, Bool.not_true, Bool.not_false, zCk, zCj, zCl, zCi, zCm, zAq, zAo, zBg, zBo, zBr, cond_true, cond_false, Nat.reduceBEq]
            exact ih (i + 1) (by omega) (by omega) (up _ _) y0 y3 y6 (by rw [mt]; rfl) rfl
          · rw [decide_eq_false (by omega)] at mt
            simp -implicitDefEqProofs (disch := omega) only [↓c88_1_eq, ↓c88_2_eq, y0, y3, y7, y8, lnRs, dcT, dcF, e1, faRe0, faRe1, ldI, ldU, f2, f3, p0, p1, decide_eq_true hf, wi, ↓zAf, ↓zAb, ↓Option.bind_some, ↓zAa, zBd, zBm, zBl, zBe, zBn, zBk, zBi, zBf, zBj, zBq, zBp, Option.bind_some, Option.bind_none, Option.map_some, zAf, zAb, zAl, zAk, zBh, zAw, zAy, zAp, zBc, zAs, zBa, zAr, zBt, zBu, zBv, zBs, zAz, zAa, zAc, zAd, zAe, zAh, zAm, zAg, zAj, zAn, zAi, zAu, zAx, zAv, zBb, zAt, Bool.not_true, Bool.not_false, zCk, zCj, zCl, zCi, zCm, zAq, zAo, zBg, zBo, zBr, cond_true, cond_false, Nat.reduceBEq]
            exact ih (i + 1) (by omega) (by omega) (up _ _) y0 y3 y6 (by rw [mt]; rfl) rfl
    · have ha := findI_miss (x := Aa) hil (fun k => hf k.1)
      rw [← ha] at y6
      rw [decide_eq_false (fun k => hf k.1), Bool.or_false] at mt
      cases hmo : moreF (l.take i) Aa with
      | true =>
        rw [hmo] at y7 mt
        simp -implicitDefEqProofs (disch := omega) only [↓c88_1_eq, ↓c88_2_eq, y0, y3, y7, y8, lnRs, dcT, dcF, e1, faRe0, faRe1, ldI, ldU, f2, f3, p0, p1, decide_eq_false hf, wi, ↓zAf, ↓zAb, ↓Option.bind_some, ↓zAa, zBd, zBm, zBl, zBe, zBn, zBk, zBi, zBf, zBj, zBq, zBp, Option.bind_some, Option.bind_none, Option.map_some, zAf, zAb, zAl, zAk, zBh, zAw, zAy, zAp, zBc, zAs, zBa, zAr, zBt, zBu, zBv, zBs, zAz, zAa, zAc, zAd, zAe, zAh, zAm, zAg, zAj, zAn, zAi, zAu, zAx, zAv, zBb, zAt, Bool.not_true, Bool.not_false, zCk, zCj, zCl, zCi, zCm, zAq, zAo, zBg, zBo, zBr, cond_true, cond_false, Nat.reduceBEq]
        exact ih (i + 1) (by omega) (by omega) (up _ _) y0 y3 y6 (by rw [mt]; rfl) rfl
      | false =>
        rw [hmo] at y7 mt
        simp -implicitDefEqProofs (disch := omega) only [↓c88_1_eq, ↓c88_2_eq, y0, y3, y7, y8, lnRs, dcT, dcF, e1, faRe0, faRe1, ldI, ldU, f2, f3, p0, p1, decide_eq_false hf, wi, ↓zAf, ↓zAb, ↓Option.bind_some, ↓zAa, zBd, zBm, zBl, zBe, zBn, zBk, zBi, zBf, zBj, zBq, zBp, Option.bind_some, Option.bind_none, Option.map_some, zAf, zAb, zAl, zAk, zBh, zAw, zAy, zAp, zBc, zAs, zBa, zAr, zBt, zBu, zBv, zBs, zAz, zAa, zAc, zAd, zAe, zAh, zAm, zAg, zAj, zAn, zAi, zAu, zAx, zAv, zBb, zAt, Bool.not_true, Bool.not_false, zCk, zCj, zCl, zCi, zCm, zAq, zAo, zBg, zBo, zBr, cond_true, cond_false, Nat.reduceBEq]
        exact ih (i + 1) (by omega) (by omega) (up _ _) y0 y3 y6 (by rw [mt]; rfl) rfl
theorem spec_find {h : Heap} {v : Value} {l : List E3} (s : SE h v l) (hs : Srt l) (hl : l.length < 2 ^ 38) (Aa : E3) : ∃ h', evC Tryz.prog 88 #[v, entV Aa] h = some (.tuple #[.int .i64 (findI l Aa l.length), .bool (moreF l Aa)], h') ∧ HExt h h' := by
  rw [call88]
  have c := Cells.new (nm h) 87 (entC Aa)
  have k1 : In h.blks.length No (nm h) ((nm h).new (.cells (entC Aa)) 87) := In.new (h := nm h) (Nat.le_refl h.blks.length) _ _
  have s1 : SE ((nm h).new (.cells (entC Aa)) 87) v l := s.nm.keepNew _ _
  have bx : boxV Tryz.prog 87 (entV Aa) (nm h) = some (.pointer (some ⟨(nm h).blks.length, 0, none⟩), (nm h).new (.cells (entC Aa)) 87) := bxRe _ _ _ _
  have lp := find_loop (h0 := h) s1 hs hl c l.length 0 (by omega) (by omega)
  refine ⟨_, ?_, zCf k1⟩
  simp -implicitDefEqProofs (disch := omega) only [↓c88_0_eq, bx, ↓zAf, ↓zAb, ↓Option.bind_some, ↓zAa, zBd, zBm, zBl, zBe, zBn, zBk, zBi, zBf, zBj, zBq, zBp, Option.bind_some, Option.bind_none, Option.map_some, zAf, zAb, zAl, zAk, zBh, zAw, zAy, zAp, zBc, zAs, zBa, zAr, zBt, zBu, zBv, zBs, zAz, zAa, zAc, zAd, zAe, zAh, zAm, zAg, zAj, zAn, zAi, zAu, zAx, zAv, zBb, zAt, Bool.not_true, Bool.not_false, zCk, zCj, zCl, zCi, zCm, zAq, zAo, zBg, zBo, zBr, cond_true, cond_false, Nat.reduceBEq]
  refine lp _ ?_ ?_ ?_ ?_ ?_
  · rfl
  · rfl
  · show Value.int .i64 (-1) = _
    unfold findI
    rw [if_neg (by omega)]
  · rfl
  · rfl
end Go.Am
