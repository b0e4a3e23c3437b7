/- What the functions answer, in the machine. -/
import Derived.Test.YtclpkcampbhbdaaDoorKD
import Derived.Lib.TrailingZeros
set_option linter.all false
namespace Go.Am
def listW (s : Nat) : List Nat := if h : s = 0 then [] else Lib.ctz 64 s :: listW (s &&& (s - 1))
termination_by s
decreasing_by
  have : s &&& (s - 1) ≤ s - 1 := Nat.and_le_right
  omega
theorem low_bit (s : Nat) (h0 : s ≠ 0) (hs : s < 2 ^ 64) : ∃ k m, Lib.ctz 64 s = k ∧ k < 64 ∧ s = 2 ^ (k + 1) * m + 2 ^ k ∧ s &&& (s - 1) = 2 ^ (k + 1) * m := by
  obtain ⟨m, h1, h2⟩ := Lib.ctzFrom_spec 64 s (by omega) hs
  have hc : Lib.ctz 64 s = Lib.ctzFrom 64 s := by unfold Lib.ctz; rw [if_neg h0]
  generalize Lib.ctzFrom 64 s = k at h1 h2 hc
  have e1 : s = 2 ^ (k + 1) * m + 2 ^ k := by rw [h1, Nat.pow_succ, Nat.mul_add, Nat.mul_one, Nat.mul_assoc]
  have p : 0 < 2 ^ k := Nat.two_pow_pos k
  have hk : 2 ^ k < 2 ^ (k + 1) := by rw [Nat.pow_succ]; omega
  refine ⟨k, m, hc, h2, e1, ?_⟩
  have e2 : s - 1 = 2 ^ (k + 1) * m + (2 ^ k - 1) := by omega
  have b0 := fun i => Nat.testBit_two_pow_mul_add m (by omega : 0 < 2 ^ (k + 1)) i
  simp only [Nat.add_zero] at b0
  apply Nat.eq_of_testBit_eq
  intro i
  rw [Nat.testBit_and, e2, e1, Nat.testBit_two_pow_mul_add _ hk, Nat.testBit_two_pow_mul_add _ (by omega : 2 ^ k - 1 < 2 ^ (k + 1)), b0]
  by_cases hi : i < k + 1
  · simp only [hi, if_true, Nat.zero_testBit]
    rw [Nat.testBit_two_pow, Nat.testBit_two_pow_sub_one]
    by_cases e : k = i
    · subst e; simp
    · simp [e]
  · simp only [hi, if_false, Bool.and_self]
def bitsL (s : Nat) : List Nat := (List.range 64).filter fun i => s.testBit i
theorem listW_bits : ∀ s : Nat, s < 2 ^ 64 → listW s = bitsL s := by
  intro s
  induction s using Nat.strongRecOn with
  | _ s ih =>
    intro hs
    by_cases h0 : s = 0
    · subst h0
      unfold listW bitsL
      rw [dif_pos rfl, List.filter_eq_nil_iff.2]
      intro i _; simp
    · obtain ⟨k, m, h1, h2, h3, h4⟩ := low_bit s h0 hs
      have p : 0 < 2 ^ k := Nat.two_pow_pos k
      have hk : 2 ^ k < 2 ^ (k + 1) := by rw [Nat.pow_succ]; omega
      rw [listW, dif_neg h0, h1, h4, ih (2 ^ (k + 1) * m) (by omega) (by omega)]
      unfold bitsL
      have hr : List.range 64 = List.range k ++ (k :: List.range' (k + 1) (63 - k)) := by
        rw [List.range_eq_range', List.range_eq_range', show (k :: List.range' (k + 1) (63 - k)) = List.range' k (64 - k) by rw [show 64 - k = (63 - k) + 1 by omega, List.range'_succ]]
        rw [show (64 : Nat) = k + (64 - k) by omega, ← List.range'_append_1]
        simp
      have b1 : ∀ i, s.testBit i = if i < k + 1 then decide (k = i) else m.testBit (i - (k + 1)) := fun i => by
        rw [h3, Nat.testBit_two_pow_mul_add _ hk, Nat.testBit_two_pow]
      have b2 : ∀ i, (2 ^ (k + 1) * m).testBit i = if i < k + 1 then false else m.testBit (i - (k + 1)) := fun i => by
        have := Nat.testBit_two_pow_mul_add m (by omega : 0 < 2 ^ (k + 1)) i
        rw [Nat.add_zero] at this
        rw [this, Nat.zero_testBit]
      rw [hr, List.filter_append, List.filter_append, List.filter_cons, List.filter_cons]
      have n1 : (List.range k).filter (fun i => s.testBit i) = [] := List.filter_eq_nil_iff.2 fun i hi => by
        rw [List.mem_range] at hi
        rw [b1, if_pos (by omega)]; simp; omega
      have n2 : (List.range k).filter (fun i => (2 ^ (k + 1) * m).testBit i) = [] := List.filter_eq_nil_iff.2 fun i hi => by
        rw [List.mem_range] at hi
        rw [b2, if_pos (by omega)]; simp
      have n3 : (List.range' (k + 1) (63 - k)).filter (fun i => (2 ^ (k + 1) * m).testBit i) = (List.range' (k + 1) (63 - k)).filter (fun i => s.testBit i) := List.filter_congr fun i hi => by
        rw [List.mem_range'] at hi
        obtain ⟨j, _, rfl⟩ := hi
        rw [b1, b2, if_neg (by omega), if_neg (by omega)]
      rw [n1, n2, n3, b1 k, b2 k, if_pos (Nat.lt_succ_self k), if_pos (Nat.lt_succ_self k)]
      simp
theorem listW_len (s : Nat) (hs : s < 2 ^ 64) : (listW s).length ≤ 64 := by
  rw [listW_bits s hs]
  unfold bitsL
  have := List.length_filter_le (fun i => s.testBit i) (List.range 64)
  rw [List.length_range] at this
  exact this
theorem listW_succ (s : Nat) (h0 : s ≠ 0) : listW s = Lib.ctz 64 s :: listW (s &&& (s - 1)) := by
  rw [listW, dif_neg h0]
theorem listW_zero : listW 0 = [] := by rw [listW, dif_pos rfl]
end Go.Am
namespace Go.Am
open Go.Proofs
set_option maxRecDepth 100000
set_option linter.all false
attribute [local congr] obind_congr obH_congr cnd_congr chk_congr retK_congr codeK_congr
theorem entL_setE : ∀ (es : List E3) (i : Nat) (hi : i < es.length) (x : E3), (entL es).take (i * 3) ++ entC x ++ (entL es).drop (i * 3 + 3) = entL (es.set i x)
  | e :: es, 0, _, x => rfl
  | e :: es, i + 1, hi, x => by
    rw [show (i + 1) * 3 = (i * 3) + 1 + 1 + 1 by omega, show (i * 3) + 1 + 1 + 1 + 3 = (i * 3 + 3) + 1 + 1 + 1 by omega]
    simp only [entL, List.take_succ_cons, List.drop_succ_cons, List.cons_append, List.set_cons_succ]
    rw [← entL_setE es i (by simpa using hi) x]
theorem AE.setE {n0 : Nat} {h : Heap} {v : Value} {es : List E3} (a : AE n0 h v es) {i : Nat} (hi : i < es.length) (x : E3) :
    ∃ b o h', blockOf v = some b ∧ n0 ≤ b ∧ b < h.blks.length ∧ (∀ k, indexAddrV Tryd.prog 63 v (.int k i) = some (.pointer (some ⟨b, o, none⟩))) ∧
      h.storeN b o (entC x) = some h' ∧ AE n0 h' v (es.set i x) ∧ (∀ S,In n0 S h h') ∧ h'.blks.length = h.blks.length ∧ (∀ q, q ≠ b → h'.blks[q]? = h.blks[q]?) := by
  obtain ⟨b, o, e1, e2, e3, e4, e5⟩ := Acc.store (P := Tryd.prog) a (by omega)
  obtain ⟨h', g1, g2, g3, g4, g5⟩ := e5 (i * 3) (entC x) (by simp [entC]; omega)
  refine ⟨b, o + i * 3, h', e1, e2, e3, fun k => e4 (by kernel_rfl) (by kernel_rfl) k i hi, g1, ?_, g3, g4, g5⟩
  rw [show (entC x).length = 3 from rfl, entL_setE es i hi x] at g2
  show Acc n0 h' _ 3 v (es.set i _).length _
  rw [List.length_set]
  exact g2
theorem stEo (p o : Nat) (e : E3) (h : Heap) : storeV Tryd.prog 68 (.pointer (some ⟨p, o, none⟩)) (entV e) h = h.storeN p o (entC e) := by kernel_rfl
theorem stEsl (p : Nat) (a : Option Addr) (n c : Nat) (h : Heap) : storeV Tryd.prog 63 (.pointer (some ⟨p, 0, none⟩)) (.slice a n c) h = h.storeN p 0 [.slice a n c] := by kernel_rfl
theorem bxEe (e : E3) (h : Heap) : boxV Tryd.prog 68 (entV e) h = some (.pointer (some ⟨h.blks.length, 0, none⟩), h.new (.cells (entC e)) 68) := by kernel_rfl
def insE (es : List E3) (x : E3) : List E3 := es.take (bsK es x) ++ x :: es.drop (bsK es x)
def addE (es : List E3) (x : E3) : List E3 := if goodE es = true ∧ mayE x = true then (if bsF es x = true then es.set (bsK es x) x else insE es x) else es
def InsOk (es : List E3) (x : E3) : Prop := goodE es = true → mayE x = true → bsF es x = false → ∀ (n0 : Nat) (h : Heap) (a : Option Addr) (c : Nat), n0 ≤ h.blks.length → AE n0 h (.slice a es.length c) es →
  ∃ a' c' h', evC Tryd.prog 63 #[.slice a es.length c, .int .i64 (bsK es x : Nat), .slice (some ⟨h.blks.length, 0, none⟩) 1 1] (h.new (.cells (entC x)) 68) = some (.slice a' (insE es x).length c', h') ∧
    AE n0 h' (.slice a' (insE es x).length c') (insE es x) ∧ Keeps n0 h h' ∧ (∀ q, q < h.blks.length → blockOf (.slice a es.length c) ≠ some q → h'.blks[q]? = h.blks[q]?)
theorem bsF_lt {es : List E3} {x : E3} (h : bsF es x = true) : bsK es x < es.length := by
  unfold bsF at h
  split at h
  · rename_i e he; exact (List.getElem?_eq_some_iff.1 he).1
  · cases h
theorem spec_Add {h : Heap} {v : Value} {es : List E3} (s : SE h v es) (hw : wide es) (hl : es.length < 2 ^ 38) (x : E3) (hx : x.t < 2 ^ 64) (hins : InsOk es x) :
    ∃ a c h', evC Tryd.prog 39 #[.agg #[v], entV x] h = some (.agg #[.slice a (addE es x).length c], h') ∧ HExt h h' ∧ AE h.blks.length h' (.slice a (addE es x).length c) (addE es x) := by
  rw [call39]
  have c1 := ((Cells.new (nm h) 65 [v]).keepNew (.cells (entC x)) 68).keepNew (.cells [.slice none 0 0]) 65
  have c2 := (Cells.new ((nm h).new (.cells [v]) 65) 68 (entC x)).keepNew (.cells [.slice none 0 0]) 65
  have c3 := Cells.new (((nm h).new (.cells [v]) 65).new (.cells (entC x)) 68) 65 [.slice none 0 0]
  have s1 : SE ((((nm h).new (.cells [v]) 65).new (.cells (entC x)) 68).new (.cells [.slice none 0 0]) 65) v es := ((s.nm.keepNew _ _).keepNew _ _).keepNew _ _
  have k1 : In h.blks.length No (nm h) ((((nm h).new (.cells [v]) 65).new (.cells (entC x)) 68).new (.cells [.slice none 0 0]) 65) := ((In.new (h := nm h) (Nat.le_refl h.blks.length) _ _).trans (In.new (by simp [Heap.new]) _ _)).trans (In.new (by simp [Heap.new, Nat.add_assoc]) _ _)
  have e0 : (nm h).blks.length = h.blks.length := rfl
  have e1 : ((nm h).new (.cells [v]) 65).blks.length = h.blks.length + 1 := by simp [Heap.new]
  have e2 : (((nm h).new (.cells [v]) 65).new (.cells (entC x)) 68).blks.length = h.blks.length + 2 := by simp [Heap.new]
  rw [e0] at c1
  rw [e1] at c2
  rw [e2] at c3
  have hlen : ((((nm h).new (.cells [v]) 65).new (.cells (entC x)) 68).new (.cells [.slice none 0 0]) 65).blks.length = h.blks.length + 3 := by simp [Heap.new]
  generalize hh : (((nm h).new (.cells [v]) 65).new (.cells (entC x)) 68).new (.cells [.slice none 0 0]) 65 = h1 at c1 c2 c3 s1 k1 hlen
  have lA : (h1.loadN h.blks.length 0 1).map (fun cs => Value.agg cs.toArray) = some (.agg #[v]) := by rw [c1.loadN (n := 1) rfl]; rfl
  obtain ⟨a, c, h3, e3,Ad, a3⟩ := spec_clone s1 (by omega)
  have c13 := c1.ext Ad
  have c23 := c2.ext Ad
  have c33 := c3.ext Ad
  have hx3 := Ad.len
  have b0 : ∀ i, i < h.blks.length + 3 → blockOf (.slice a es.length c) ≠ some i := fun i hi e => by have := a3.ge e; omega
  have c14 := c13.put [.slice a es.length c]
  have c24 := c23.keepPut (q := h.blks.length) (by omega) (.cells [.slice a es.length c])
  have c34 := c33.keepPut (q := h.blks.length) (by omega) (.cells [.slice a es.length c])
  have a4 : AE (h.blks.length + 3) (h3.put h.blks.length (.cells [.slice a es.length c])) (.slice a es.length c) es := (a3.keepPut (b0 _ (by omega)) _).up (by omega)
  have k4 := (k1.trans (Ad.inn (by omega))).trans (In.put (S := No) (by omega) (p := h.blks.length) (.inl (by omega)) (.cells [.slice a es.length c]))
  have hs4 := storeN_blk c13 (o := 0) (vs := [.slice a es.length c]) (by simp)
  have hl4 : (h3.put h.blks.length (.cells [.slice a es.length c])).blks.length = h3.blks.length := Heap.put_len _ _ _
  simp only [List.take_zero, List.nil_append, List.append_nil, List.length_cons, List.length_nil, List.drop_succ_cons, List.drop_zero, Nat.zero_add] at hs4
  generalize hh4 : h3.put h.blks.length (.cells [.slice a es.length c]) = h4 at c14 c24 c34 a4 k4 hs4 hl4
  have l4 : (h4.loadN h.blks.length 0 1).map (fun cs => Value.agg cs.toArray) = some (.agg #[.slice a es.length c]) := by rw [c14.loadN (n := 1) rfl]; rfl
  obtain ⟨h5, e5,Af⟩ := spec_Good a4.se hw (by omega)
  have hx5 := Af.len
  have c15 := c14.ext Af
  have c25 := c24.ext Af
  have c35 := c34.ext Af
  have a5 : AE (h.blks.length + 3) h5 (.slice a es.length c) es := a4.same Af.same
  have k5 := k4.trans (Af.inn (Nat.le_trans k4.le k4.len))
  -- what is answered where nothing is added
  have out : ∀ {h6 : Heap} {es' : List E3} {a' c'}, In h.blks.length No (nm h) h6 → Cells h6 h.blks.length 65 [.slice a' es'.length c'] → Cells h6 (h.blks.length + 2) 65 [.slice none 0 0] → AE (h.blks.length + 3) h6 (.slice a' es'.length c') es' →
      ∃ h7, (h6.loadN h.blks.length 0 1).map (fun cs => Value.agg cs.toArray) = some (.agg #[.slice a' es'.length c']) ∧ h6.storeN (h.blks.length + 2) 0 [.slice a' es'.length c'] = some h7 ∧ (h7.loadN (h.blks.length + 2) 0 1).map (fun cs => Value.agg cs.toArray) = some (.agg #[.slice a' es'.length c']) ∧ HExt h (done h h7) ∧ AE h.blks.length (done h h7) (.slice a' es'.length c') es' := fun {h6 es' a' c'} k g1 g2 ha => by
    have d := g2.put [.slice a' es'.length c']
    refine ⟨h6.put (h.blks.length + 2) (.cells [.slice a' es'.length c']), by rw [g1.loadN (n := 1) rfl]; rfl, ?_, by rw [d.loadN (n := 1) rfl]; rfl, done_ext' (k.trans (In.put (S := No) (Nat.le_trans k.le k.len) (p := h.blks.length + 2) (.inl (by omega)) _)), ((ha.keepPut (fun e => by have := ha.ge e; omega) _).up (by omega)).done⟩
    rw [storeN_blk g2 (by simp)]; rfl
  unfold addE
  cases hg : goodE es with
  | false =>
    rw [hg] at e5
    obtain ⟨h7, o1, o2, o3, o4, o5⟩ := out k5 c15 c35 a5
    rw [if_neg (by simp)]
    refine ⟨a, c, _, ?_, o4, o5⟩
    simp -implicitDefEqProofs (disch := omega) only [↓c39_0_eq, bxL, bxEe, alL, e0, e1, e2, hh, ldL, lA, e3, stL, hs4, l4, e5, o1, o2, o3, rvals, ↓ret39, ↓cnd_true, ↓cnd_false, ↓Option.bind_some, ↓obH_some', bin_add, bin_sub, bin_mul, bin_lss, bin_leq, bin_gtr, bin_geq, bin_eql, bin_neq, un_not, un_neg, Option.bind_some, Option.bind_none, Option.map_some, cnd_true, cnd_false, pickV_true, pickV_false, gd_true, gd_false, gdV_true, gdV_false, gdH_true, gdH_false, gdS_true, gdS_false, wt_ff, wt_tt, wt_ft, wt_tf, wt_undef, obH_some', extractV_tuple, nilCheckV_ptr, againK_normal, againK_exit, againK_ret, blockK_normal, blockK_same, blockK_ret, seqK_normal, seqK_exit, seqK_ret, fin_done, if_true', if_false', Bool.not_true, Bool.not_false, idx0, idx1, idx2, idx3, idx4, chk_nil_l, chk_nil_r, done_nm, up_cons, up_nil, cond_true, cond_false, Nat.reduceBEq]
  | true =>
    rw [hg] at e5
    have lx : ∀ {h' : Heap}, Cells h' (h.blks.length + 1) 68 (entC x) → (h'.loadN (h.blks.length + 1) 0 3).map (fun cs => Value.agg cs.toArray) = some (entV x) := fun g => by rw [g.loadN (n := 3) rfl]; rfl
    obtain ⟨h6, e6,Ag⟩ := spec_may x hx h5
    have hx6 := Ag.len
    have c16 := c15.ext Ag
    have c26 := c25.ext Ag
    have c36 := c35.ext Ag
    have a6 : AE (h.blks.length + 3) h6 (.slice a es.length c) es := a5.same Ag.same
    have k6 := k5.trans (Ag.inn (Nat.le_trans k5.le k5.len))
    cases hm : mayE x with
    | false =>
      rw [hm] at e6
      obtain ⟨h7, o1, o2, o3, o4, o5⟩ := out k6 c16 c36 a6
      rw [if_neg (by simp)]
      refine ⟨a, c, _, ?_, o4, o5⟩
      simp -implicitDefEqProofs (disch := omega) only [↓c39_0_eq, bxL, bxEe, alL, e0, e1, e2, hh, ldL, lA, e3, stL, hs4, l4, e5, ldE, lx c25, e6, o1, o2, o3, rvals, ↓ret39, ↓cnd_true, ↓cnd_false, ↓Option.bind_some, ↓obH_some', bin_add, bin_sub, bin_mul, bin_lss, bin_leq, bin_gtr, bin_geq, bin_eql, bin_neq, un_not, un_neg, Option.bind_some, Option.bind_none, Option.map_some, cnd_true, cnd_false, pickV_true, pickV_false, gd_true, gd_false, gdV_true, gdV_false, gdH_true, gdH_false, gdS_true, gdS_false, wt_ff, wt_tt, wt_ft, wt_tf, wt_undef, obH_some', extractV_tuple, nilCheckV_ptr, againK_normal, againK_exit, againK_ret, blockK_normal, blockK_same, blockK_ret, seqK_normal, seqK_exit, seqK_ret, fin_done, if_true', if_false', Bool.not_true, Bool.not_false, idx0, idx1, idx2, idx3, idx4, chk_nil_l, chk_nil_r, done_nm, up_cons, up_nil, cond_true, cond_false, Nat.reduceBEq]
    | true =>
      rw [hm] at e6
      have ls6 : h6.load1 h.blks.length 0 = some (.slice a es.length c) := c16.load 0
      obtain ⟨h7, e7,Ah⟩ := spec_BS a6.se ((goodE_iff es).1 hg).2 (by omega) x
      have hx7 := Ah.len
      have c17 := c16.ext Ah
      have c27 := c26.ext Ah
      have c37 := c36.ext Ah
      have a7 : AE (h.blks.length + 3) h7 (.slice a es.length c) es := a6.same Ah.same
      have k7 := k6.trans (Ah.inn (Nat.le_trans k6.le k6.len))
      have ls7 : h7.load1 h.blks.length 0 = some (.slice a es.length c) := c17.load 0
      rw [if_pos ⟨rfl, rfl⟩]
      cases hb : bsF es x with
      | true =>
        rw [hb] at e7
        obtain ⟨b, o, h8, f1, f2, f3, f4, f5, f6, f7, f8, f9⟩ := a7.setE (bsF_lt hb) x
        have e9 : (es.set (bsK es x) x).length = es.length := List.length_set ..
        rw [← e9] at f6
        have g1 : Cells h8 h.blks.length 65 [.slice a (es.set (bsK es x) x).length c] := by rw [e9]; exact (f9 _ (by omega)).trans c17
        have g2 : Cells h8 (h.blks.length + 2) 65 [.slice none 0 0] := (f9 _ (by omega)).trans c37
        obtain ⟨h9, o1, o2, o3, o4, o5⟩ := out (k7.trans ((f7 No).dn (by omega))) g1 g2 f6
        rw [e9] at o1 o2 o3 o5
        simp only [if_true]
        rw [e9]
        refine ⟨a, c, _, ?_, o4, o5⟩
        simp -implicitDefEqProofs (disch := omega) only [↓c39_0_eq, bxL, bxEe, alL, e0, e1, e2, hh, ldL, lA, e3, stL, hs4, l4, e5, ldE, lx c25, lx c26, e6, faL, ldEs, ls6, e7, extractV_tuple, ls7, lx c27, f4, stEo, f5, o1, o2, o3, rvals, ↓ret39, ↓cnd_true, ↓cnd_false, ↓Option.bind_some, ↓obH_some', bin_add, bin_sub, bin_mul, bin_lss, bin_leq, bin_gtr, bin_geq, bin_eql, bin_neq, un_not, un_neg, Option.bind_some, Option.bind_none, Option.map_some, cnd_true, cnd_false, pickV_true, pickV_false, gd_true, gd_false, gdV_true, gdV_false, gdH_true, gdH_false, gdS_true, gdS_false, wt_ff, wt_tt, wt_ft, wt_tf, wt_undef, obH_some', extractV_tuple, nilCheckV_ptr, againK_normal, againK_exit, againK_ret, blockK_normal, blockK_same, blockK_ret, seqK_normal, seqK_exit, seqK_ret, fin_done, if_true', if_false', Bool.not_true, Bool.not_false, idx0, idx1, idx2, idx3, idx4, chk_nil_l, chk_nil_r, done_nm, up_cons, up_nil, cond_true, cond_false, Nat.reduceBEq]
      | false =>
        rw [hb] at e7
        obtain ⟨a', c', h8, f1, f2, f3, f4⟩ := hins hg hm hb (h.blks.length + 3) h7 a c (by omega) a7
        have bs := bsE x h7
        have g1 : Cells h8 h.blks.length 65 [.slice a es.length c] := (f4 _ (by omega) (b0 _ (by omega))).trans c17
        have g2 : Cells h8 (h.blks.length + 2) 65 [.slice none 0 0] := (f4 _ (by omega) (b0 _ (by omega))).trans c37
        have hs8 := storeN_blk g1 (o := 0) (vs := [.slice a' (insE es x).length c']) (by simp)
        simp only [List.take_zero, List.nil_append, List.append_nil, List.length_cons, List.length_nil, List.drop_succ_cons, List.drop_zero, Nat.zero_add] at hs8
        have g3 := g1.put [.slice a' (insE es x).length c']
        have g4 := g2.keepPut (q := h.blks.length) (by omega) (.cells [.slice a' (insE es x).length c'])
        have kk := k7.trans (Keeps.inn (S := No) (f3.dn (by omega)))
        have k8 := kk.trans (In.put (S := No) (Nat.le_trans kk.le kk.len) (p := h.blks.length) (.inl (by omega)) (.cells [.slice a' (insE es x).length c']))
        have a8 := Acc.keepPut f2 (p := h.blks.length) (fun e => by have := Acc.ge f2 e; omega) (.cells [.slice a' (insE es x).length c'])
        obtain ⟨h9, o1, o2, o3, o4, o5⟩ := out k8 g3 g4 a8
        simp only [if_false, Bool.false_eq_true]
        refine ⟨a', c', _, ?_, o4, o5⟩
        simp -implicitDefEqProofs (disch := omega) only [↓c39_0_eq, bxL, bxEe, alL, e0, e1, e2, hh, ldL, lA, e3, stL, hs4, l4, e5, ldE, lx c25, lx c26, e6, faL, ldEs, ls6, e7, extractV_tuple, ls7, lx c27, bs, f1, stEsl, hs8, o1, o2, o3, rvals, ↓ret39, ↓cnd_true, ↓cnd_false, ↓Option.bind_some, ↓obH_some', bin_add, bin_sub, bin_mul, bin_lss, bin_leq, bin_gtr, bin_geq, bin_eql, bin_neq, un_not, un_neg, Option.bind_some, Option.bind_none, Option.map_some, cnd_true, cnd_false, pickV_true, pickV_false, gd_true, gd_false, gdV_true, gdV_false, gdH_true, gdH_false, gdS_true, gdS_false, wt_ff, wt_tt, wt_ft, wt_tf, wt_undef, obH_some', extractV_tuple, nilCheckV_ptr, againK_normal, againK_exit, againK_ret, blockK_normal, blockK_same, blockK_ret, seqK_normal, seqK_exit, seqK_ret, fin_done, if_true', if_false', Bool.not_true, Bool.not_false, idx0, idx1, idx2, idx3, idx4, chk_nil_l, chk_nil_r, done_nm, up_cons, up_nil, cond_true, cond_false, Nat.reduceBEq]
end Go.Am
namespace Go.Am
open Go.Proofs
set_option maxRecDepth 100000
set_option linter.all false
attribute [local congr] obind_congr obH_congr cnd_congr chk_congr retK_congr codeK_congr
theorem etI : ElemT Tryd.prog 41 3 1 8 (.int .i64 0) := ⟨by kernel_rfl, by kernel_rfl, by kernel_rfl, by kernel_rfl, by omega, rfl, rfl⟩
abbrev i64V (n : Nat) : Value := .int .i64 (n : Int)
abbrev SI (h : Heap) (v : Value) (ns : List Nat) : Prop := Sl Tryd.prog h 1 v ns.length (ns.map i64V)
abbrev AI (n0 : Nat) (h : Heap) (v : Value) (ns : List Nat) : Prop := Acc n0 h 3 1 v ns.length (ns.map i64V)
theorem mkI1 (n : Int) (h : Heap) : buildSliceV Tryd.prog 41 1 #[(0, .int .i64 n)] h = some (.slice (some ⟨h.blks.length, 0, none⟩) 1 1, h.new (.cells [.int .i64 n]) 3) := by kernel_rfl
theorem app_int {n0 : Nat} {h : Heap} (hn0 : n0 ≤ h.blks.length) {v : Value} {bs : List Nat} (ha : AI n0 h v bs) (b : Nat) (hl : bs.length < 2 ^ 39) :
    ∃ a c h', appendV Tryd.prog 41 (some 41) v (.slice (some ⟨h.blks.length, 0, none⟩) 1 1) (h.new (.cells [.int .i64 b]) 3) = some (.slice a (bs ++ [b]).length c, h') ∧ AI n0 h' (.slice a (bs ++ [b]).length c) (bs ++ [b]) ∧ Keeps n0 h h' ∧
      (∀ q, q < h.blks.length → blockOf v ≠ some q → h'.blks[q]? = h.blks[q]?) := by
  have ha' : AI n0 (h.new (.cells [.int .i64 b]) 3) v bs := ha.keep fun _ hb _ => Heap.new_old hb
  have hlit : SI (h.new (.cells [.int .i64 b]) 3) (.slice (some ⟨h.blks.length, 0, none⟩) 1 1) [b] :=
    .mk (by simp [Heap.loadN, Heap.cells?, blk_new_self]) (.inr ⟨Nat.le_refl _, by unfold UNK; omega⟩)
  have one : ([b].map i64V).all Value.oneCell' = true := rfl
  obtain ⟨v', h', e1, e2, e3, e4, e5⟩ := append_acc etI (t1 := some 41) (n0 := n0) (by simp [Heap.new]; omega) ha' (newsV_row etI.under hlit.row) (by simp) (by simp; omega) (by simp; omega) one
  obtain ⟨a, c, rfl⟩ := e2.shape
  have el : bs.length + [b].length = (bs ++ [b]).length := by simp
  rw [el] at e1 e2
  rw [← List.map_append] at e2
  exact ⟨a, c, h', e1, e2, (Keeps.new hn0 _ _).trans e3, fun q hq hne => (e4 q (by simp [Heap.new]; omega) hne).trans (Heap.new_old hq)⟩
theorem tz_eq (s : Nat) (hs : s < 2 ^ 64) (h : Heap) : evC Tryd.prog 60 #[.int .u64 s] h = some (.int .i64 (Lib.ctz 64 s : Nat), h) := by
  rw [evC_ext xt_tz]
  unfold tzX
  simp only []
  rw [if_pos ⟨by omega, by omega⟩, Int.toNat_natCast]
theorem list_loop {h0 : Heap} : ∀ (s : Nat), s < 2 ^ 64 → ∀ (acc : List Nat) (a : Option Addr) (c : Nat) (x : Nat → Value) (h : Heap), acc.length + (listW s).length ≤ 64 → In h0.blks.length No (nm h0) h → AI h0.blks.length h (.slice a acc.length c) acc →
    x 0 = .int .u64 s → x 3 = .slice a acc.length c →
    ∃ a' c' h', lK c36_1 16 x h (blockK 0 (sK c36_2 (retK Tryd.f36 Tryd.prog h0))) = some (.slice a' (acc ++ listW s).length c', done h0 h') ∧ In h0.blks.length No (nm h0) h' ∧ AI h0.blks.length h' (.slice a' (acc ++ listW s).length c') (acc ++ listW s) := by
  intro s
  induction s using Nat.strongRecOn with
  | _ s ih =>
    intro hs acc a c x h hl hin ha Aa Ad
    rw [lK_eq]
    by_cases h0' : s = 0
    · subst h0'
      have e := listW_zero
      rw [e, List.append_nil]
      have nz : decide (((0 : Nat) : Int) ≠ 0) = false := by decide
      refine ⟨a, c, h, ?_, hin, ha⟩
      simp -implicitDefEqProofs (disch := omega) only [↓c36_1_eq, ↓c36_2_eq,Aa,Ad, nz, ↓ret36, ↓cnd_true, ↓cnd_false, ↓Option.bind_some, ↓obH_some', bin_add, bin_sub, bin_mul, bin_lss, bin_leq, bin_gtr, bin_geq, bin_eql, bin_neq, un_not, un_neg, Option.bind_some, Option.bind_none, Option.map_some, cnd_true, cnd_false, pickV_true, pickV_false, gd_true, gd_false, gdV_true, gdV_false, gdH_true, gdH_false, gdS_true, gdS_false, wt_ff, wt_tt, wt_ft, wt_tf, wt_undef, obH_some', extractV_tuple, nilCheckV_ptr, againK_normal, againK_exit, againK_ret, blockK_normal, blockK_same, blockK_ret, seqK_normal, seqK_exit, seqK_ret, fin_done, if_true', if_false', Bool.not_true, Bool.not_false, idx0, idx1, idx2, idx3, idx4, chk_nil_l, chk_nil_r, done_nm, up_cons, up_nil, cond_true, cond_false, Nat.reduceBEq]
    · have e : listW s = Lib.ctz 64 s :: listW (s &&& (s - 1)) := listW_succ s h0'
      have nz : decide ((s : Int) ≠ 0) = true := decide_eq_true (by omega)
      have lt : s &&& (s - 1) < s := by
        have : s &&& (s - 1) ≤ s - 1 := Nat.and_le_right
        omega
      obtain ⟨a', c', h2, g1, g2, g3, g4⟩ := app_int (Nat.le_trans hin.le hin.len) ha (Lib.ctz 64 s) (by omega)
      have ws : IntKind.u64.wrap ((s : Int) - 1) = ((s - 1 : Nat) : Int) := by rw [wrap_u64] <;> omega
      have an := fun t xo yo => anU t xo yo s (s - 1) hs (by omega)
      have bs := mkI1 (Lib.ctz 64 s : Nat) h
      have hi2 := hin.trans (Keeps.inn (S := No) g3)
      have hacc : acc ++ listW s = (acc ++ [Lib.ctz 64 s]) ++ listW (s &&& (s - 1)) := by rw [e]; simp
      rw [e, List.length_cons] at hl
      rw [hacc]
      simp -implicitDefEqProofs (disch := omega) only [↓c36_1_eq, ↓c36_2_eq,Aa,Ad, nz, tz_eq s hs, bs, g1, ws, an, ↓cnd_true, ↓cnd_false, ↓Option.bind_some, ↓obH_some', bin_add, bin_sub, bin_mul, bin_lss, bin_leq, bin_gtr, bin_geq, bin_eql, bin_neq, un_not, un_neg, Option.bind_some, Option.bind_none, Option.map_some, cnd_true, cnd_false, pickV_true, pickV_false, gd_true, gd_false, gdV_true, gdV_false, gdH_true, gdH_false, gdS_true, gdS_false, wt_ff, wt_tt, wt_ft, wt_tf, wt_undef, obH_some', extractV_tuple, nilCheckV_ptr, againK_normal, againK_exit, againK_ret, blockK_normal, blockK_same, blockK_ret, seqK_normal, seqK_exit, seqK_ret, fin_done, if_true', if_false', Bool.not_true, Bool.not_false, idx0, idx1, idx2, idx3, idx4, chk_nil_l, chk_nil_r, done_nm, up_cons, up_nil, cond_true, cond_false, Nat.reduceBEq]
      refine ih (s &&& (s - 1)) lt (by omega) _ a' c' _ h2 ?_ hi2 g2 ?_ ?_
      · rw [List.length_append, List.length_singleton]; omega
      · rfl
      · rfl
theorem spec_List (s : Nat) (hs : s < 2 ^ 64) (h : Heap) : ∃ a c h', evC Tryd.prog 36 #[.int .u64 s] h = some (.slice a (listW s).length c, h') ∧ HExt h h' ∧ AI h.blks.length h' (.slice a (listW s).length c) (listW s) := by
  rw [call36]
  have hl := listW_len s hs
  have lp := list_loop (h0 := h) s hs [] none 0
  have fin' : ∀ {r : Option (Value × Heap)}, (∃ a c h', r = some (.slice a (listW s).length c, done h h') ∧ In h.blks.length No (nm h) h' ∧ AI h.blks.length h' (.slice a (listW s).length c) (listW s)) → ∃ a c h', r = some (.slice a (listW s).length c, h') ∧ HExt h h' ∧ AI h.blks.length h' (.slice a (listW s).length c) (listW s) := fun ⟨a, c, h', q1, q2, q3⟩ => ⟨a, c, _, q1, done_ext' q2, Acc.done q3⟩
  simp -implicitDefEqProofs (disch := omega) only [↓c36_0_eq, ↓cnd_true, ↓cnd_false, ↓Option.bind_some, ↓obH_some', bin_add, bin_sub, bin_mul, bin_lss, bin_leq, bin_gtr, bin_geq, bin_eql, bin_neq, un_not, un_neg, Option.bind_some, Option.bind_none, Option.map_some, cnd_true, cnd_false, pickV_true, pickV_false, gd_true, gd_false, gdV_true, gdV_false, gdH_true, gdH_false, gdS_true, gdS_false, wt_ff, wt_tt, wt_ft, wt_tf, wt_undef, obH_some', extractV_tuple, nilCheckV_ptr, againK_normal, againK_exit, againK_ret, blockK_normal, blockK_same, blockK_ret, seqK_normal, seqK_exit, seqK_ret, fin_done, if_true', if_false', Bool.not_true, Bool.not_false, idx0, idx1, idx2, idx3, idx4, chk_nil_l, chk_nil_r, done_nm, up_cons, up_nil, cond_true, cond_false, Nat.reduceBEq]
  refine fin' (lp _ _ (by simpa using hl) (In.refl (Nat.le_refl _)) .nil ?_ ?_)
  all_goals rfl
theorem spec_InsertEnd {n0 : Nat} {h : Heap} {a : Option Addr} {c : Nat} {es : List E3} (hn : n0 ≤ h.blks.length) (ha : AE n0 h (.slice a es.length c) es) (x : E3) (hl : es.length < 2 ^ 38) :
    ∃ a' c' h', evC Tryd.prog 63 #[.slice a es.length c, .int .i64 es.length, .slice (some ⟨h.blks.length, 0, none⟩) 1 1] (h.new (.cells (entC x)) 68) = some (.slice a' (es ++ [x]).length c', h') ∧
      AE n0 h' (.slice a' (es ++ [x]).length c') (es ++ [x]) ∧ Keeps n0 h h' ∧ (∀ q, q < h.blks.length → blockOf (.slice a es.length c) ≠ some q → h'.blks[q]? = h.blks[q]?) := by
  obtain ⟨a', c', h', g1, g2, g3, g4⟩ := app_ent etE (n0 := n0) (h := h) hn ha x (by omega)
  refine ⟨a', c', h', ?_, g2, g3, g4⟩
  rw [evC_ext xt_ins]
  unfold insX
  simp only []
  rw [if_pos trivial, if_pos (by omega)]
  exact g1
theorem insOk_end {es : List E3} {x : E3} (hk : bsK es x = es.length) (hl : es.length < 2 ^ 38) : InsOk es x := fun _ _ _ n0 h a c hn ha => by
  have hi : insE es x = es ++ [x] := by unfold insE; rw [hk, List.take_length, List.drop_length]
  rw [hi, hk]
  exact spec_InsertEnd hn ha x hl
end Go.Am
namespace Go.Am
open Go.Proofs
set_option maxRecDepth 100000
set_option linter.all false
attribute [local congr] obind_congr obH_congr cnd_congr chk_congr retK_congr codeK_congr
theorem bdE3 (a b c : Int) : buildV Tryd.prog 68 #[(0, .int .i64 a), (1, .int .u64 b), (2, .int .u64 c)] = some (.agg #[.int .i64 a, .int .u64 b, .int .u64 c]) := by kernel_rfl
theorem fvL (a : Option Addr) (n c : Nat) : fieldV Tryd.prog 65 (.agg #[.slice a n c]) 0 = some (.slice a n c) := by kernel_rfl
end Go.Am
namespace Go.Am
open Go.Proofs
set_option maxRecDepth 100000
set_option linter.all false
attribute [local congr] obind_congr obH_congr cnd_congr chk_congr retK_congr codeK_congr
def Old (n : Nat) (h h' : Heap) : Prop := h.blks.length ≤ h'.blks.length ∧ ∀ b, b < n → h'.blks[b]? = h.blks[b]?
theorem Old.refl (n : Nat) (h : Heap) : Old n h h := ⟨Nat.le_refl _, fun _ _ => rfl⟩
theorem Old.trans {n : Nat} {a b c : Heap} (h : Old n a b) (k : Old n b c) : Old n a c := ⟨Nat.le_trans h.1 k.1, fun i hi => (k.2 i hi).trans (h.2 i hi)⟩
theorem Same.to {n : Nat} {h h' : Heap} (s : Same h h') (hn : n ≤ h.blks.length) : Old n h h' := ⟨s.1, fun b hb => s.2 b (Nat.lt_of_lt_of_le hb hn)⟩
theorem HMod.to {n p : Nat} {h h' : Heap} (m : HMod (Just p) h h') (hp : n ≤ p) (hn : n ≤ h.blks.length) : Old n h h' := ⟨m.len, fun b hb => m.old b (Nat.lt_of_lt_of_le hb hn) (fun e => by have : b = p := e; omega)⟩
theorem Sl.old {P : Program} {k : Nat} {h h' : Heap} {es n : Nat} {v : Value} {cs : List Value} (r : Sl P h es v n cs) (o : Old k h h') (hv : Lo v k) : Sl P h' es v n cs := r.keep fun b _ hb => o.2 b (hv b hb)
theorem Cells.old {k : Nat} {h h' : Heap} {p : Nat} {ty : TypeId} {cs : List Value} (c : Cells h p ty cs) (o : Old k h h') (hp : p < k) : Cells h' p ty cs := (o.2 p hp).trans c
def encE (e : E3) : List UInt8 := putL e.f.toNat ++ (putL e.n ++ putL e.t)
def encL (es : List E3) : List UInt8 := (es.map encE).flatten
def logB (es : List E3) : List UInt8 := putL es.length ++ encL es
theorem encL_snoc (es : List E3) (e : E3) : encL (es ++ [e]) = encL es ++ encE e := by simp [encL]
theorem putL_le (n : Nat) (h : n < 2 ^ 64) : (putL n).length ≤ 10 := by
  rw [putL_len]; exact sizeN_le n 10 (Nat.lt_of_lt_of_le h (by decide)) (by omega)
theorem encE_le (e : E3) (h0 : e.f < 2 ^ 63) (h1 : e.n < 2 ^ 64) (h2 : e.t < 2 ^ 64) : (encE e).length ≤ 30 := by
  have a := putL_le e.f.toNat (by omega)
  have b := putL_le e.n h1
  have c := putL_le e.t h2
  simp only [encE, List.length_append]; omega
theorem encL_le : ∀ (es : List E3), (∀ e ∈ es, e.f < 2 ^ 63) → wide es → (encL es).length ≤ 30 * es.length
  | [], _, _ => Nat.le_refl _
  | e :: es, h, w => by
    have a := encL_le es (fun x hx => h x (by simp [hx])) (fun x hx => w x (by simp [hx]))
    have b := encE_le e (h e (by simp)) (w e (by simp)).1 (w e (by simp)).2
    simp only [encL, List.map_cons, List.flatten_cons, List.length_append, List.length_cons] at a ⊢
    omega
theorem put_loop18 {h0 h1 : Heap} {v : Value} {es : List E3} {p : Nat} (s : SE h1 v es) (hv : Lo v p) (hw : wide es) (hf : ∀ e ∈ es, 0 ≤ e.f ∧ e.f < 2 ^ 63) (hl : es.length < 2 ^ 32) (hn : h0.blks.length ≤ p) (hp1 : p ≤ h1.blks.length) :
    ∀ (m i : Nat), es.length - i = m → i ≤ es.length → ∀ (x : Nat → Value) (h : Heap),In h0.blks.length No (nm h0) h → Old p h1 h → Wr p h p (putL es.length ++ encL (es.take i)) →
    x 3 = .pointer (some ⟨p, 0, none⟩) → x 17 = v → x 18 = .int .i64 es.length → x 19 = .int .i64 i →
    ∃ a c h', lK c32_1 39 x h (blockK 0 (sK c32_2 (retK Tryd.f32 Tryd.prog h0))) = some (.slice a (logB es).length c, done h0 h') ∧ In h0.blks.length No (nm h0) h' ∧ AB h0.blks.length h' (.slice a (logB es).length c) (logB es) := by
  intro m
  have ll : ∀ i, (encL (es.take i)).length ≤ 30 * es.length := fun i => by
    have := encL_le (es.take i) (fun e he => (hf e (List.mem_of_mem_take he)).2) (fun e he => hw e (List.mem_of_mem_take he))
    have h2 : (es.take i).length ≤ es.length := by rw [List.length_take]; omega
    omega
  have l0 := putL_le es.length (by omega)
  induction m with
  | zero =>
    intro i e1 e2 x h hin ho w Ad As Au Av
    obtain rfl : i = es.length := by omega
    have := ll es.length
    rw [List.take_length] at w this
    obtain ⟨a, c, h2, q1, q2, q3⟩ := spec_WDone w (by rw [List.length_append]; omega)
    rw [lK_eq]
    refine ⟨a, c, h2, ?_, hin.trans (q2.inn (Nat.le_trans hin.le hin.len)), Acc.up q3 (Nat.le_trans hin.le hin.len)⟩
    simp -implicitDefEqProofs (disch := omega) only [↓c32_1_eq, ↓c32_2_eq,Ad,As,Au,Av, dcF, q1, ↓ret32, ↓cnd_true, ↓cnd_false, ↓Option.bind_some, ↓obH_some', bin_add, bin_sub, bin_mul, bin_lss, bin_leq, bin_gtr, bin_geq, bin_eql, bin_neq, un_not, un_neg, Option.bind_some, Option.bind_none, Option.map_some, cnd_true, cnd_false, pickV_true, pickV_false, gd_true, gd_false, gdV_true, gdV_false, gdH_true, gdH_false, gdS_true, gdS_false, wt_ff, wt_tt, wt_ft, wt_tf, wt_undef, obH_some', extractV_tuple, nilCheckV_ptr, againK_normal, againK_exit, againK_ret, blockK_normal, blockK_same, blockK_ret, seqK_normal, seqK_exit, seqK_ret, fin_done, if_true', if_false', Bool.not_true, Bool.not_false, idx0, idx1, idx2, idx3, idx4, chk_nil_l, chk_nil_r, done_nm, up_cons, up_nil, cond_true, cond_false, Nat.reduceBEq]
    rfl
  | succ m ih =>
    intro i hm hi x h hin ho w Ad As Au Av
    have hil : i < es.length := by omega
    have hph : p ≤ h.blks.length := Nat.le_trans hp1 ho.1
    obtain ⟨b, of, hb, hbl, e1, e2⟩ := s.at' (t := 63) (el := 68) (by kernel_rfl) (by kernel_rfl) hil
    obtain ⟨f1, _⟩ := e2 h (ho.2 b (hv b hb))
    obtain ⟨hA, hB, a1, a2, a3, a4, a5, a6⟩ := var_ent (n0 := p) hph es[i]
    have wd := hw es[i] (List.getElem_mem hil)
    have fd := hf es[i] (List.getElem_mem hil)
    have wlt := w.lt
    have bl := ll i
    have lt1 : ∀ {h' : Heap}, Cells h' h.blks.length 68 (entC es[i]) → h'.load1 h.blks.length 0 = some (.int .i64 es[i].f) ∧ h'.load1 h.blks.length (0 + 1) = some (.int .u64 es[i].n) ∧ h'.load1 h.blks.length (0 + 2) = some (.int .u64 es[i].t) := fun c => ⟨c.load 0, c.load 1, c.load 2⟩
    obtain ⟨l1, _, _⟩ := lt1 a3
    have wB := w.same a5
    have p1 := putL_le es[i].f.toNat (by omega)
    have p2 := putL_le es[i].n wd.1
    have p3 := putL_le es[i].t wd.2
    obtain ⟨hC, q1, q2, q3⟩ := spec_WNum wB (by have := a5.1; omega) es[i].f.toNat (by omega) (by rw [List.length_append]; omega)
    rw [Int.toNat_of_nonneg fd.1] at q1
    have hab := a5.1
    have a3C : Cells hC h.blks.length 68 (entC es[i]) := a3.mod q2 (fun e => by have : h.blks.length = p := e; omega)
    obtain ⟨_, l2, _⟩ := lt1 a3C
    have lC := q2.len
    obtain ⟨hD, r1, r2, r3⟩ := spec_WNum (q3.up (n1 := p) (by omega)) (by omega) es[i].n wd.1 (by simp only [List.length_append]; omega)
    have a3D : Cells hD h.blks.length 68 (entC es[i]) := a3C.mod r2 (fun e => by have : h.blks.length = p := e; omega)
    obtain ⟨_, _, l3⟩ := lt1 a3D
    have lD := r2.len
    obtain ⟨hE, s1, s2, s3⟩ := spec_WSet (r3.up (n1 := p) (by omega)) (by omega) es[i].t wd.2 (by simp only [List.length_append]; omega)
    have lE := s2.len
    have cv := fun h => cvI64 es[i].f h fd.1 fd.2
    have wi : IntKind.i64.wrap ((i : Int) + 1) = ((i + 1 : Nat) : Int) := by rw [wrap_i64] <;> omega
    have ht : es.take i ++ [es[i]] = es.take (i + 1) := by rw [List.take_succ, List.getElem?_eq_getElem hil]; rfl
    have hsn := encL_snoc (es.take i) es[i]
    rw [ht] at hsn
    have w2 : Wr p hE p (putL es.length ++ encL (es.take (i + 1))) := by
      have := s3.up (n1 := p) (by omega)
      rw [hsn]
      simpa [encE, List.append_assoc] using this
    have hb0 : ∀ b, b < h0.blks.length → Just p b → No b := fun b hb e => by have : b = p := e; omega
    have hin2 := (((hin.trans (In.dn (a4 No) hn)).trans (q2.inn (by omega) hb0)).trans (r2.inn (by omega) hb0)).trans (s2.inn (by omega) hb0)
    have ho2 := (((ho.trans (a5.to hph)).trans (q2.to (Nat.le_refl _) (by omega))).trans (r2.to (Nat.le_refl _) (by omega))).trans (s2.to (Nat.le_refl _) (by omega))
    rw [lK_eq]
    simp -implicitDefEqProofs (disch := omega) only [↓c32_1_eq, ↓c32_2_eq,Ad,As,Au,Av, dcT, e1, ldE, f1, Option.map_some, entA, a1, a2, faE0, faE1, faE2, ldI, ldU, ldS, l1, cv, q1, l2, r1, l3, s1, wi, ↓cnd_true, ↓cnd_false, ↓Option.bind_some, ↓obH_some', bin_add, bin_sub, bin_mul, bin_lss, bin_leq, bin_gtr, bin_geq, bin_eql, bin_neq, un_not, un_neg, Option.bind_some, Option.bind_none, Option.map_some, cnd_true, cnd_false, pickV_true, pickV_false, gd_true, gd_false, gdV_true, gdV_false, gdH_true, gdH_false, gdS_true, gdS_false, wt_ff, wt_tt, wt_ft, wt_tf, wt_undef, obH_some', extractV_tuple, nilCheckV_ptr, againK_normal, againK_exit, againK_ret, blockK_normal, blockK_same, blockK_ret, seqK_normal, seqK_exit, seqK_ret, fin_done, if_true', if_false', Bool.not_true, Bool.not_false, idx0, idx1, idx2, idx3, idx4, chk_nil_l, chk_nil_r, done_nm, up_cons, up_nil, cond_true, cond_false, Nat.reduceBEq]
    refine ih (i + 1) (by omega) (by omega) _ hE hin2 ho2 w2 ?_ ?_ ?_ ?_
    · exact Ad
    · exact As
    · exact Au
    · rfl
def putE (es : List E3) : List UInt8 := if goodE es then logB es else []
theorem good_f {es : List E3} (h : goodE es = true) : ∀ e ∈ es, 0 ≤ e.f ∧ e.f < 16 ∧ 0 < e.n ∧ e.t < 65536 := fun e he => by
  have := ((goodE_iff es).1 h).1 e he
  unfold mayE at this
  simpa [Bool.and_eq_true] using this
theorem spec_Put18 {h : Heap} {v : Value} {es : List E3} (s : SE h v es) (hw : wide es) (hl : es.length < 2 ^ 32) : ∃ a c h', evC Tryd.prog 32 #[.agg #[v]] h = some (.slice a (putE es).length c, h') ∧ HExt h h' ∧ AB h.blks.length h' (.slice a (putE es).length c) (putE es) := by
  rw [call32]
  have c1 := Cells.new (nm h) 65 [v]
  have s1 : SE ((nm h).new (.cells [v]) 65) v es := s.nm.keepNew _ _
  have k1 : In h.blks.length No (nm h) ((nm h).new (.cells [v]) 65) := In.new (h := nm h) (Nat.le_refl h.blks.length) _ _
  have e0 : (nm h).blks.length = h.blks.length := rfl
  have e1 : ((nm h).new (.cells [v]) 65).blks.length = h.blks.length + 1 := by simp [Heap.new]
  generalize hh : (nm h).new (.cells [v]) 65 = h1 at c1 s1 k1 e1
  rw [e0] at c1
  have lA : (h1.loadN h.blks.length 0 1).map (fun cs => Value.agg cs.toArray) = some (.agg #[v]) := by rw [c1.loadN (n := 1) rfl]; rfl
  obtain ⟨h2, q2,Ac⟩ := spec_Good s1 hw (by omega)
  have hx2 := Ac.len
  unfold putE
  cases hg : goodE es with
  | false =>
    rw [hg] at q2
    refine ⟨none, 0, _, ?_, done_ext' (k1.trans (Ac.inn (by omega))), Acc.done .nil⟩
    simp -implicitDefEqProofs (disch := omega) only [↓c32_0_eq, bxL, e0, hh, ldL, lA, q2, ↓ret32, ↓cnd_true, ↓cnd_false, ↓Option.bind_some, ↓obH_some', bin_add, bin_sub, bin_mul, bin_lss, bin_leq, bin_gtr, bin_geq, bin_eql, bin_neq, un_not, un_neg, Option.bind_some, Option.bind_none, Option.map_some, cnd_true, cnd_false, pickV_true, pickV_false, gd_true, gd_false, gdV_true, gdV_false, gdH_true, gdH_false, gdS_true, gdS_false, wt_ff, wt_tt, wt_ft, wt_tf, wt_undef, obH_some', extractV_tuple, nilCheckV_ptr, againK_normal, againK_exit, againK_ret, blockK_normal, blockK_same, blockK_ret, seqK_normal, seqK_exit, seqK_ret, fin_done, if_true', if_false', Bool.not_true, Bool.not_false, idx0, idx1, idx2, idx3, idx4, chk_nil_l, chk_nil_r, done_nm, up_cons, up_nil, cond_true, cond_false, Nat.reduceBEq]
    rfl
  | true =>
    rw [hg] at q2
    have hf := good_f hg
    obtain ⟨h3, q3,Ad, w3, n3⟩ := spec_NewWriter h2
    have s3 := (s1.ext Ac).ext Ad
    have c3 := (c1.ext Ac).ext Ad
    have l3 : h3.load1 h.blks.length 0 = some v := c3.load 0
    have hx3 := Ad.len
    obtain ⟨a, c, rfl⟩ := s.shape
    have cv := fun h => cvI64 (es.length : Int) h (by omega) (by omega)
    obtain ⟨h4, q4,Ae, w4⟩ := spec_WNum w3 (by omega) es.length (by omega) (by simp)
    have hx4 := Ae.len
    have lo : Lo (.slice a es.length c) h2.blks.length := (s1.ext Ac).lo
    have o4 : Old h2.blks.length h3 h4 := Ae.to (Nat.le_refl _) (by omega)
    have s4 : SE h4 (.slice a es.length c) es := Sl.old s3 o4 lo
    have l4 : h4.load1 h.blks.length 0 = some (.slice a es.length c) := (c3.old o4 (by omega)).load 0
    have k4 := ((k1.trans (Ac.inn (by omega))).trans (Ad.inn (by omega))).trans (Ae.inn (by omega) (fun b hb e => by have : b = h2.blks.length := e; omega))
    have lp := put_loop18 (h0 := h) s4 lo hw (fun e he => ⟨(hf e he).1, by have := (hf e he).2.1; omega⟩) hl (by omega) (by omega) es.length 0 (by omega) (by omega)
    have fin' : ∀ {r : Option (Value × Heap)}, (∃ a c h', r = some (.slice a (logB es).length c, done h h') ∧ In h.blks.length No (nm h) h' ∧ AB h.blks.length h' (.slice a (logB es).length c) (logB es)) → ∃ a c h', r = some (.slice a (logB es).length c, h') ∧ HExt h h' ∧ AB h.blks.length h' (.slice a (logB es).length c) (logB es) := fun ⟨a, c, h', g1, g2, g3⟩ => ⟨a, c, _, g1, done_ext' g2, Acc.done g3⟩
    simp only [if_true]
    simp -implicitDefEqProofs (disch := omega) only [↓c32_0_eq, bxL, e0, hh, ldL, lA, q2, q3, faL, ldEs, l3, lnEs, cv, q4, l4, ↓cnd_true, ↓cnd_false, ↓Option.bind_some, ↓obH_some', bin_add, bin_sub, bin_mul, bin_lss, bin_leq, bin_gtr, bin_geq, bin_eql, bin_neq, un_not, un_neg, Option.bind_some, Option.bind_none, Option.map_some, cnd_true, cnd_false, pickV_true, pickV_false, gd_true, gd_false, gdV_true, gdV_false, gdH_true, gdH_false, gdS_true, gdS_false, wt_ff, wt_tt, wt_ft, wt_tf, wt_undef, obH_some', extractV_tuple, nilCheckV_ptr, againK_normal, againK_exit, againK_ret, blockK_normal, blockK_same, blockK_ret, seqK_normal, seqK_exit, seqK_ret, fin_done, if_true', if_false', Bool.not_true, Bool.not_false, idx0, idx1, idx2, idx3, idx4, chk_nil_l, chk_nil_r, done_nm, up_cons, up_nil, cond_true, cond_false, Nat.reduceBEq]
    refine fin' (lp _ _ k4 (Old.refl _ _) ?_ ?_ ?_ ?_ ?_)
    · rw [List.take_zero, show encL [] = [] from rfl, List.append_nil, ← List.nil_append (putL es.length)]; exact w4.up (by omega)
    all_goals rfl
end Go.Am
namespace Go.Am
theorem chk_ne {β : Type} {r m : List Nat} (h : ∀ b ∈ r, ∀ x ∈ m, b ≠ x) (x : Option β) : chk r m x = x := by
  have : (r.all fun b => !m.contains b) = true := by
    rw [List.all_eq_true]
    intro b hb
    rw [Bool.not_eq_true', ← Bool.not_eq_true, List.contains_iff_mem]
    exact fun hm => h b hb b hm rfl
  unfold chk; rw [this]
theorem HMod.mods_nm {S : Nat → Prop} {h h' : Heap} (e : HMod S (Am.nm h) h') : ∀ m ∈ h'.mods, S m := by
  obtain ⟨d, e1, e2⟩ := e.mods
  intro m hm
  rw [e1] at hm
  rcases List.mem_append.1 hm with hm | hm
  · exact (e2 m hm).1
  · cases hm
theorem HMod.amx {S : Nat → Prop} {h h' : Heap} (e : HMod S (Am.nm h) h') : HMod S h (Am.am h' h) := by
  obtain ⟨d, e1, e2⟩ := e.mods
  refine ⟨e.len, e.old, d, ?_, e2⟩
  show h'.mods ++ h.mods = d ++ h.mods
  rw [e1]; simp
theorem rb_ptr (b o : Nat) : rb (.pointer (some ⟨b, o, Option.none⟩)) = [b] := rfl
end Go.Am
namespace Go.Am
theorem same_np (h : Heap) (b c : Body) (ty : TypeId) : Same h ((h.new b ty).put h.blks.length c) := by
  refine ⟨by rw [Heap.put_len]; simp [Heap.new], fun i hi => ?_⟩
  rw [Heap.put_other (by omega), Heap.new_old hi]
def rdE (most : Nat) (r : Option (List UInt8)) : E3 × Option (List UInt8) :=
  (⟨(numP r most).1, (numP (numP r most).2 (2 ^ 64 - 1)).1, (numP (numP (numP r most).2 (2 ^ 64 - 1)).2 65535).1⟩, (numP (numP (numP r most).2 (2 ^ 64 - 1)).2 65535).2)
def rdN : Nat → Option (List UInt8) → List E3 × Option (List UInt8)
  | 0, r => ([], r)
  | n + 1, r => ((rdE 16 r).1 :: (rdN n (rdE 16 r).2).1, (rdN n (rdE 16 r).2).2)
def logOf (x : List E3 × Option (List UInt8)) : Option (List E3) := if endP x.2 = true ∧ goodE x.1 = true then some x.1 else none
def getP (bs : List UInt8) : Option (List E3) := logOf (rdN (numP (some bs) bs.length).1 (numP (some bs) bs.length).2)
theorem rdE_enc (e : E3) (h0 : 0 ≤ e.f) (h1 : e.f < 16) (h2 : e.n < 2 ^ 64) (h3 : e.t < 65536) (rest : List UInt8) : rdE 16 (some (encE e ++ rest)) = (e, some rest) := by
  unfold rdE encE
  simp only [List.append_assoc]
  rw [numP_putL e.f.toNat (by omega) _ 16 (by omega)]
  simp only []
  rw [numP_putL e.n h2 _ (2 ^ 64 - 1) (by omega)]
  simp only []
  rw [numP_putL e.t (by omega) _ 65535 (by omega)]
  simp only [Int.toNat_of_nonneg h0]
theorem rdN_enc : ∀ (es : List E3) (rest : List UInt8), (∀ e ∈ es, 0 ≤ e.f ∧ e.f < 16 ∧ 0 < e.n ∧ e.t < 65536) → wide es → rdN es.length (some (encL es ++ rest)) = (es, some rest)
  | [], rest, _, _ => rfl
  | e :: es, rest, h, w => by
    have h0 := h e (by simp)
    have e1 : encL (e :: es) ++ rest = encE e ++ (encL es ++ rest) := by simp [encL]
    simp only [List.length_cons, rdN]
    rw [e1, rdE_enc e h0.1 h0.2.1 (w e (by simp)).1 h0.2.2.2, rdN_enc es rest (fun x hx => h x (by simp [hx])) (fun x hx => w x (by simp [hx]))]
theorem encL_ge : ∀ es : List E3, es.length ≤ (encL es).length
  | [] => Nat.le_refl _
  | e :: es => by
    have := encL_ge es
    have h1 : 1 ≤ (encE e).length := by
      have h1 := putL_pos e.n
      simp only [encE, List.length_append]; omega
    simp only [encL, List.map_cons, List.flatten_cons, List.length_append, List.length_cons] at this ⊢
    omega
theorem get_put {es : List E3} (hg : goodE es = true) (w : wide es) (hl : es.length < 2 ^ 64) : getP (logB es) = some es := by
  unfold getP logB
  have h1 := encL_ge es
  have e1 := numP_putL es.length hl (encL es) (putL es.length ++ encL es).length (by rw [List.length_append]; omega)
  rw [e1]
  simp only []
  have e2 := rdN_enc es [] (good_f hg) w
  rw [List.append_nil] at e2
  rw [e2]
  unfold logOf
  rw [if_pos ⟨rfl, hg⟩]
theorem rdN_len : ∀ (n : Nat) (r : Option (List UInt8)), (rdN n r).1.length = n
  | 0, _ => rfl
  | n + 1, r => by simp only [rdN, List.length_cons, rdN_len n]
theorem rdE_wide (m : Nat) (r : Option (List UInt8)) : (rdE m r).1.n < 2 ^ 64 ∧ (rdE m r).1.t < 2 ^ 64 := ⟨(numP_le _ _).2.1, (numP_le _ _).2.1⟩
theorem rdN_wide : ∀ (n : Nat) (r : Option (List UInt8)), wide (rdN n r).1
  | 0, _ => fun e he => (List.not_mem_nil he).elim
  | n + 1, r => fun e he => by
    simp only [rdN] at he
    rcases List.mem_cons.1 he with rfl | he
    · exact rdE_wide 16 r
    · exact rdN_wide n _ e he
theorem getP_len (bs : List UInt8) : ((getP bs).getD []).length ≤ bs.length := by
  unfold getP logOf
  have n1 := (numP_le (some bs) bs.length).1
  split
  · rw [Option.getD_some, rdN_len]; exact n1
  · exact Nat.zero_le _
end Go.Am
namespace Go.Am
open Go.Proofs
set_option maxRecDepth 100000
set_option linter.all false
attribute [local congr] obind_congr obH_congr cnd_congr chk_congr retK_congr codeK_congr
theorem stEs (p : Nat) (a : Option Addr) (n c : Nat) (h : Heap) : storeV Tryd.prog 63 (.pointer (some ⟨p, 0, none⟩)) (.slice a n c) h = h.storeN p 0 [.slice a n c] := by kernel_rfl
theorem bdL0 : buildV Tryd.prog 65 #[] = some (.agg #[.slice none 0 0]) := by kernel_rfl
theorem lnB8 (a : Option Addr) (n c : Nat) (h : Heap) : lenV Tryd.prog 40 (.slice a n c) h = some (.int .i64 n) := by kernel_rfl
theorem setP_num (r : Option (List UInt8)) : setP r (allN 16) = numP r 65535 := by
  cases r with
  | none => rfl
  | some bs =>
    have h := getL_lt bs
    have o := out16 (getL bs).1 h
    simp only [setP, numP]
    have : (outB (getL bs).1 (allN 16) ≠ 0) ↔ 65535 < (getL bs).1 := by
      have := decide_eq_decide.1 o
      constructor
      · intro h1; refine Classical.byContradiction fun h2 => h1 (this.2 (by omega))
      · intro h1 h2; have := this.1 h2; omega
    simp only [this]
theorem RdrL.old {L k : Nat} {h h' : Heap} {p : Nat} {r : Option (List UInt8)} (w : RdrL L h p r) (o : Old k h h') (hp : p < k) : RdrL L h' p r :=
  let ⟨a, c, x, y, z⟩ := w
  ⟨a, c, x.old o hp, y.old o fun b hb => by have := (z b hb).2; omega, z⟩
theorem amSame (h' h : Heap) : Same h' (am h' h) := ⟨Nat.le_refl _, fun _ _ => rfl⟩
theorem get_loop18 {h0 h1 : Heap} {p0 p p2 : Nat} (hn : h0.blks.length ≤ p0) (hp : p0 < p) (hp2 : p < p2) (hp3 : p2 < h1.blks.length) :
    ∀ (n : Nat) (r : Option (List UInt8)) (acc : List E3), (rbs r).length < 2 ^ 30 → acc.length + n < 2 ^ 32 → wide acc → ∀ (x : Nat → Value) (h : Heap) (a : Option Addr) (c : Nat),In h0.blks.length No (nm h0) h → h1.blks.length ≤ h.blks.length → Cells h p0 65 [.slice none 0 0] → Rdr h p r → Cells h p2 65 [.slice a acc.length c] → AE h1.blks.length h (.slice a acc.length c) acc →
    x 2 = .pointer (some ⟨p0, 0, none⟩) → x 4 = .pointer (some ⟨p, 0, none⟩) → x 5 = .pointer (some ⟨p2, 0, none⟩) → x 6 = .int .u64 n →
    ∃ a' c' h', lK c46_1 42 x h (blockK 0 (sK c46_2 (retK Tryd.f46 Tryd.prog h0))) = some (.tuple #[.agg #[.slice a' ((logOf (acc ++ (rdN n r).1, (rdN n r).2)).getD []).length c'], .bool (logOf (acc ++ (rdN n r).1, (rdN n r).2)).isSome], done h0 h') ∧ In h0.blks.length No (nm h0) h' ∧ AE h1.blks.length h' (.slice a' ((logOf (acc ++ (rdN n r).1, (rdN n r).2)).getD []).length c') ((logOf (acc ++ (rdN n r).1, (rdN n r).2)).getD []) := by
  intro n
  induction n with
  | zero =>
    intro r acc hr hl hw x h a c hin hlen c0 w c2 ha Ac Ae Af Ag
    have e1 := spec_REnd w
    simp only [rdN, List.append_nil]
    rw [lK_eq]
    have hz : ((0 : Nat) : Int) = 0 := rfl
    have bad : ∀ {h2 : Heap}, Old h1.blks.length h h2 → In h0.blks.length No (nm h0) h2 → ∃ h3, storeV Tryd.prog 65 (.pointer (some ⟨p0, 0, none⟩)) (.agg #[.slice none 0 0]) h2 = some h3 ∧ (h3.loadN p0 0 1).map (fun cs => Value.agg cs.toArray) = some (.agg #[.slice none 0 0]) ∧ In h0.blks.length No (nm h0) h3 := fun {h2} o k => by
      have d := c0.old o (by omega)
      have d2 := d.put [.slice none 0 0]
      refine ⟨h2.put p0 (.cells [.slice none 0 0]), ?_, ?_, k.trans (In.put (Nat.le_trans k.le k.len) (.inl hn) _)⟩
      · rw [stL, storeN_blk d (by simp)]; rfl
      · rw [d2.loadN (n := 1) rfl]; rfl
    cases hE : endP r with
    | false =>
      rw [hE] at e1
      obtain ⟨h3, g1, g2, g3⟩ := bad (Old.refl _ h) hin
      have hlo : logOf (acc, r) = none := by unfold logOf; rw [if_neg (by simp [hE])]
      rw [hlo]
      refine ⟨none, 0, h3, ?_, g3, AE.nil _ _⟩
      simp -implicitDefEqProofs (disch := omega) only [↓c46_1_eq, ↓c46_2_eq,Ac,Ae,Af,Ag, hz, dcF, e1, bdL0, g1, ldL, g2, Option.bind_some, rvals, ↓ret46, ↓cnd_true, ↓cnd_false, ↓Option.bind_some, ↓obH_some', bin_add, bin_sub, bin_mul, bin_lss, bin_leq, bin_gtr, bin_geq, bin_eql, bin_neq, un_not, un_neg, Option.bind_some, Option.bind_none, Option.map_some, cnd_true, cnd_false, pickV_true, pickV_false, gd_true, gd_false, gdV_true, gdV_false, gdH_true, gdH_false, gdS_true, gdS_false, wt_ff, wt_tt, wt_ft, wt_tf, wt_undef, obH_some', extractV_tuple, nilCheckV_ptr, againK_normal, againK_exit, againK_ret, blockK_normal, blockK_same, blockK_ret, seqK_normal, seqK_exit, seqK_ret, fin_done, if_true', if_false', Bool.not_true, Bool.not_false, idx0, idx1, idx2, idx3, idx4, chk_nil_l, chk_nil_r, done_nm, up_cons, up_nil, cond_true, cond_false, Nat.reduceBEq]
      rfl
    | true =>
      rw [hE] at e1
      obtain ⟨h2, q2, y2⟩ := spec_Good ha.se hw (by omega)
      have lA : (h.loadN p2 0 1).map (fun cs => Value.agg cs.toArray) = some (.agg #[.slice a acc.length c]) := by rw [c2.loadN (n := 1) rfl]; rfl
      have k2 := hin.trans (y2.inn (Nat.le_trans hin.le hin.len))
      have o2 : Old h1.blks.length h h2 := y2.same.to hlen
      cases hg : goodE acc with
      | false =>
        rw [hg] at q2
        obtain ⟨h3, g1, g2, g3⟩ := bad o2 k2
        have hlo : logOf (acc, r) = none := by unfold logOf; rw [if_neg (by simp [hg])]
        rw [hlo]
        refine ⟨none, 0, h3, ?_, g3, AE.nil _ _⟩
        simp -implicitDefEqProofs (disch := omega) only [↓c46_1_eq, ↓c46_2_eq,Ac,Ae,Af,Ag, hz, dcF, e1, ldL, lA, q2, bdL0, g1, g2, Option.bind_some, rvals, ↓ret46, ↓cnd_true, ↓cnd_false, ↓Option.bind_some, ↓obH_some', bin_add, bin_sub, bin_mul, bin_lss, bin_leq, bin_gtr, bin_geq, bin_eql, bin_neq, un_not, un_neg, Option.bind_some, Option.bind_none, Option.map_some, cnd_true, cnd_false, pickV_true, pickV_false, gd_true, gd_false, gdV_true, gdV_false, gdH_true, gdH_false, gdS_true, gdS_false, wt_ff, wt_tt, wt_ft, wt_tf, wt_undef, obH_some', extractV_tuple, nilCheckV_ptr, againK_normal, againK_exit, againK_ret, blockK_normal, blockK_same, blockK_ret, seqK_normal, seqK_exit, seqK_ret, fin_done, if_true', if_false', Bool.not_true, Bool.not_false, idx0, idx1, idx2, idx3, idx4, chk_nil_l, chk_nil_r, done_nm, up_cons, up_nil, cond_true, cond_false, Nat.reduceBEq]
        rfl
      | true =>
        rw [hg] at q2
        have hlo : logOf (acc, r) = some acc := by unfold logOf; rw [if_pos ⟨hE, hg⟩]
        rw [hlo]
        have d := c0.old o2 (by omega)
        have d2 := d.put [.slice a acc.length c]
        have lB : (h2.loadN p2 0 1).map (fun cs => Value.agg cs.toArray) = some (.agg #[.slice a acc.length c]) := by rw [(c2.old o2 hp3).loadN (n := 1) rfl]; rfl
        have lD : (Heap.loadN (h2.put p0 (.cells [.slice a acc.length c])) p0 0 1).map (fun cs => Value.agg cs.toArray) = some (.agg #[.slice a acc.length c]) := by rw [d2.loadN (n := 1) rfl]; rfl
        refine ⟨a, c, h2.put p0 (.cells [.slice a acc.length c]), ?_, k2.trans (In.put (Nat.le_trans k2.le k2.len) (.inl hn) _), (ha.same y2.same).keepPut (fun e => by have := ha.ge e; omega) _⟩
        simp -implicitDefEqProofs (disch := omega) only [↓c46_1_eq, ↓c46_2_eq,Ac,Ae,Af,Ag, hz, dcF, e1, ldL, lA, q2, lB, stL, storeN_blk d (o := 0) (vs := [.slice a acc.length c]) (by simp), List.take_zero, List.nil_append, List.append_nil, List.length_cons, List.length_nil, List.drop_succ_cons, List.drop_zero, Nat.zero_add, lD, Option.bind_some, rvals, Option.getD_some, Option.isSome_some, ↓ret46, ↓cnd_true, ↓cnd_false, ↓Option.bind_some, ↓obH_some', bin_add, bin_sub, bin_mul, bin_lss, bin_leq, bin_gtr, bin_geq, bin_eql, bin_neq, un_not, un_neg, Option.bind_some, Option.bind_none, Option.map_some, cnd_true, cnd_false, pickV_true, pickV_false, gd_true, gd_false, gdV_true, gdV_false, gdH_true, gdH_false, gdS_true, gdS_false, wt_ff, wt_tt, wt_ft, wt_tf, wt_undef, obH_some', extractV_tuple, nilCheckV_ptr, againK_normal, againK_exit, againK_ret, blockK_normal, blockK_same, blockK_ret, seqK_normal, seqK_exit, seqK_ret, fin_done, if_true', if_false', Bool.not_true, Bool.not_false, idx0, idx1, idx2, idx3, idx4, chk_nil_l, chk_nil_r, done_nm, up_cons, up_nil, cond_true, cond_false, Nat.reduceBEq]
  | succ n ih =>
    intro r acc hr hl hw x h a c hin hlen c0 w c2 ha Ac Ae Af Ag
    have l2 : h.load1 p2 0 = some (.slice a acc.length c) := c2.load 0
    have n1 := numP_le r 16
    obtain ⟨hA, q1, y1, w1⟩ := spec_RNum w.nm 16 (by omega) (by omega)
    have m1 := y1.mods_nm
    have z1 := y1.amx
    have w1' := w1.same (amSame hA h)
    have n2 := numP_le (numP r 16).2 (2 ^ 64 - 1)
    obtain ⟨hB, q2, y2, w2⟩ := spec_RNum (h := nm (am hA h)) w1'.nm (2 ^ 64 - 1) (by omega) (by omega)
    have m2 := y2.mods_nm
    have z2 := y2.amx
    have w2' := w2.same (amSame hB (am hA h))
    have q3 := spec_All 16 (by omega) (nm (am hB (am hA h)))
    have n3 := numP_le (numP (numP r 16).2 (2 ^ 64 - 1)).2 65535
    obtain ⟨hC, q4, y4, w4⟩ := spec_RSet (h := nm (am hB (am hA h))) w2'.nm (allN 16) (by unfold allN; omega) (by omega)
    rw [setP_num] at q4 w4
    have m4 := y4.mods_nm
    have z4 := y4.amx
    have w4' := w4.same (amSame hC (am hB (am hA h)))
    have zz : HMod (Just p) h (am hC (am hB (am hA h))) := by
      refine ⟨Nat.le_trans (Nat.le_trans z1.len z2.len) z4.len, fun b hb hs => ((z4.old b (Nat.lt_of_lt_of_le hb (Nat.le_trans z1.len z2.len)) hs).trans (z2.old b (Nat.lt_of_lt_of_le hb z1.len) hs)).trans (z1.old b hb hs), ?_⟩
      obtain ⟨d1, g1, k1⟩ := z1.mods
      obtain ⟨d2, g2, k2⟩ := z2.mods
      obtain ⟨d3, g3, k3⟩ := z4.mods
      have hph := w.lt
      refine ⟨d3 ++ (d2 ++ d1), by rw [g3, g2, g1]; simp, fun m hm => ?_⟩
      have : Just p m := by
        rcases List.mem_append.1 hm with hm | hm
        · exact (k3 m hm).1
        · rcases List.mem_append.1 hm with hm | hm
          · exact (k2 m hm).1
          · exact (k1 m hm).1
      exact ⟨this, by have : m = p := this; omega⟩
    have cvv := fun h => cvU64 ((numP r 16).1 : Int) h (by omega) (by omega)
    have nb : ∀ b, Just p b → b < h0.blks.length → False := fun b e hb => by have : b = p := e; omega
    have hE : (rdE 16 r).1 = ⟨(numP r 16).1, (numP (numP r 16).2 (2 ^ 64 - 1)).1, (numP (numP (numP r 16).2 (2 ^ 64 - 1)).2 65535).1⟩ := rfl
    have kX := hin.trans (zz.inn (Nat.le_trans hin.le hin.len) fun b hb e => (nb b e hb).elim)
    have haX : AE h1.blks.length (am hC (am hB (am hA h))) (.slice a acc.length c) acc := ha.mod zz fun b hb e => by have := ha.ge hb; have : b = p := e; omega
    have cX2 := c2.mod zz (fun e => by have : p2 = p := e; omega)
    have cX0 := c0.mod zz (fun e => by have : p0 = p := e; omega)
    have lX := zz.len
    generalize hX : am hC (am hB (am hA h)) = hx at kX haX cX2 cX0 lX w4'
    obtain ⟨a', c', hD, g1, g2, g3, g4⟩ := app_ent etE (n0 := h1.blks.length) (by omega) haX (rdE 16 r).1 (by omega)
    have bs := bsE (rdE 16 r).1 hx
    rw [hE] at g1 bs
    have oD : Old h1.blks.length hx hD := ⟨g3.len, fun q hq => g4 q (by omega) (Acc.off haX (Nat.le_refl _) hq)⟩
    have dD2 := cX2.old oD hp3
    have dD0 := cX0.old oD (by omega)
    have wD := w4'.old oD (by omega)
    have cF := dD2.put [.slice a' (acc ++ [(rdE 16 r).1]).length c']
    have cF0 : Cells (hD.put p2 (.cells [.slice a' (acc ++ [(rdE 16 r).1]).length c'])) p0 65 [.slice none 0 0] := dD0.keepPut (by omega) _
    have wF := RdrL.keepPut wD hp2 (.cells [.slice a' (acc ++ [(rdE 16 r).1]).length c'])
    have aF : AE h1.blks.length (hD.put p2 (.cells [.slice a' (acc ++ [(rdE 16 r).1]).length c'])) (.slice a' (acc ++ [(rdE 16 r).1]).length c') (acc ++ [(rdE 16 r).1]) := Acc.keepPut g2 (fun e => by have := Acc.ge g2 e; omega) _
    have kD := kX.trans (Keeps.inn (S := No) (g3.dn (by omega)))
    have kF := kD.trans (In.put (S := No) (Nat.le_trans kD.le kD.len) (p := p2) (.inl (by omega)) (.cells [.slice a' (acc ++ [(rdE 16 r).1]).length c']))
    have hst := storeN_blk dD2 (o := 0) (vs := [.slice a' (acc ++ [(rdE 16 r).1]).length c']) (by simp)
    simp only [List.take_zero, List.nil_append, List.append_nil, List.length_cons, List.length_nil, List.drop_succ_cons, List.drop_zero, Nat.zero_add] at hst
    rw [hE] at hst
    have hlF : (hD.put p2 (.cells [.slice a' (acc ++ [(rdE 16 r).1]).length c'])).blks.length = hD.blks.length := Heap.put_len _ _ _
    have lD := g3.len
    have dn : decide (((n + 1 : Nat) : Int) > 0) = true := decide_eq_true (by omega)
    have wn : IntKind.u64.wrap (((n + 1 : Nat) : Int) - 1) = ((n : Nat) : Int) := by rw [wrap_u64] <;> omega
    have hrw : acc ++ (rdN (n + 1) r).1 = (acc ++ [(rdE 16 r).1]) ++ (rdN n (rdE 16 r).2).1 := by simp [rdN]
    have hr2 : (rdN (n + 1) r).2 = (rdN n (rdE 16 r).2).2 := rfl
    rw [show ((16 : Nat) : Int) = 16 from rfl] at q1 q3
    rw [show ((2 ^ 64 - 1 : Nat) : Int) = 18446744073709551615 from rfl] at q2
    have mall : ∀ b ∈ [p2], ∀ x ∈ hC.mods ++ (hB.mods ++ hA.mods), b ≠ x := fun b hb x hx e => by
      rw [List.mem_singleton] at hb
      have : Just p x := by
        rcases List.mem_append.1 hx with hx | hx
        · exact m4 x hx
        · rcases List.mem_append.1 hx with hx | hx
          · exact m2 x hx
          · exact m1 x hx
      have : x = p := this
      omega
    rw [lK_eq, hrw, hr2]
    simp -implicitDefEqProofs (disch := omega) only [↓c46_1_eq, ↓c46_2_eq,Ac,Ae,Af,Ag, dn, faL, ldEs, l2, q1, cvv, q2, q3, am_nm, nm_mods, List.nil_append, q4, hX, bdE3, show ([.int .i64 ((numP r 16).1 : Int), .int .u64 ((numP (numP r 16).2 (2 ^ 64 - 1)).1 : Int), .int .u64 ((numP (numP (numP r 16).2 (2 ^ 64 - 1)).2 65535).1 : Int)] : List Value) = entC ⟨(numP r 16).1, (numP (numP r 16).2 (2 ^ 64 - 1)).1, (numP (numP (numP r 16).2 (2 ^ 64 - 1)).2 65535).1⟩ from rfl, entA, bs, g1, stEs, hst, rb_ptr, List.append_nil, wn, ↓cnd_true, ↓cnd_false, ↓Option.bind_some, ↓obH_some', bin_add, bin_sub, bin_mul, bin_lss, bin_leq, bin_gtr, bin_geq, bin_eql, bin_neq, un_not, un_neg, Option.bind_some, Option.bind_none, Option.map_some, cnd_true, cnd_false, pickV_true, pickV_false, gd_true, gd_false, gdV_true, gdV_false, gdH_true, gdH_false, gdS_true, gdS_false, wt_ff, wt_tt, wt_ft, wt_tf, wt_undef, obH_some', extractV_tuple, nilCheckV_ptr, againK_normal, againK_exit, againK_ret, blockK_normal, blockK_same, blockK_ret, seqK_normal, seqK_exit, seqK_ret, fin_done, if_true', if_false', Bool.not_true, Bool.not_false, idx0, idx1, idx2, idx3, idx4, chk_nil_l, chk_nil_r, done_nm, up_cons, up_nil, cond_true, cond_false, Nat.reduceBEq]
    rw [chk_ne mall]
    refine ih (rdE 16 r).2 _ ?_ ?_ ?_ _ _ a' c' kF (by rw [Heap.put_len]; omega) cF0 wF cF aF ?_ ?_ ?_ ?_
    · unfold rdE; simp only; omega
    · rw [List.length_append, List.length_singleton]; omega
    · intro e he
      rcases List.mem_append.1 he with he | he
      · exact hw e he
      · rw [List.mem_singleton] at he; subst he; exact rdE_wide 16 r
    · exact Ac
    · exact Ae
    · exact Af
    · rfl
end Go.Am
namespace Go.Am
open Go.Proofs
set_option maxRecDepth 100000
set_option linter.all false
attribute [local congr] obind_congr obH_congr cnd_congr chk_congr retK_congr codeK_congr
theorem spec_Get18 {h : Heap} {v : Value} {bs : List UInt8} (s : SB h v bs) (hl : bs.length < 2 ^ 30) : ∃ a c h', evC Tryd.prog 46 #[v] h = some (.tuple #[.agg #[.slice a ((getP bs).getD []).length c], .bool (getP bs).isSome], h') ∧ HExt h h' ∧ AE h.blks.length h' (.slice a ((getP bs).getD []).length c) ((getP bs).getD []) := by
  rw [call46]
  have c1 := Cells.new (nm h) 65 [.slice none 0 0]
  have s1 : SB ((nm h).new (.cells [.slice none 0 0]) 65) v bs := s.nm.keepNew _ _
  have k1 : In h.blks.length No (nm h) ((nm h).new (.cells [.slice none 0 0]) 65) := In.new (h := nm h) (Nat.le_refl h.blks.length) _ _
  have e0 : (nm h).blks.length = h.blks.length := rfl
  have e1 : ((nm h).new (.cells [.slice none 0 0]) 65).blks.length = h.blks.length + 1 := by simp [Heap.new]
  generalize hh : (nm h).new (.cells [.slice none 0 0]) 65 = h1 at c1 s1 k1 e1
  rw [e0] at c1
  obtain ⟨h2, p, q2,Ac, w2, hp⟩ := spec_NewReader s1 (by omega)
  have hx2 := Ac.len
  have c2 := c1.ext Ac
  have k2 := k1.trans (Ac.inn (by omega))
  have c3 := c2.keepNew (.cells [.slice none 0 0]) 65
  have w3 := w2.same (Same.new h2 (.cells [.slice none 0 0]) 65)
  have k3 := k2.trans (In.new (S := No) (by omega) (.cells [.slice none 0 0]) 65)
  have d3 := Cells.new h2 65 [.slice none 0 0]
  have hp2 := w2.lt
  have n3 : (h2.new (.cells [.slice none 0 0]) 65).blks.length = h2.blks.length + 1 := by simp [Heap.new]
  generalize hh3 : h2.new (.cells [.slice none 0 0]) 65 = h3 at c3 w3 k3 d3 n3
  obtain ⟨va, vc, rfl⟩ := s.shape
  have n1 := numP_le (some bs) bs.length
  have hrb : (rbs (some bs)).length = bs.length := rfl
  rw [hrb] at n1
  obtain ⟨h4, q4, y4, w4⟩ := spec_RNum w3 bs.length (by omega) (by rw [hrb]; omega)
  have cv := fun h => cvI64 (bs.length : Int) h (by omega) (by omega)
  have k4 := k3.trans (y4.inn (by omega) (fun b hb e => by have : b = p := e; omega))
  have hy4 := y4.len
  have c4 := c3.mod y4 (fun e => by have : h.blks.length = p := e; omega)
  have d4 := d3.mod y4 (fun e => by have : h2.blks.length = p := e; omega)
  have lp := get_loop18 (h0 := h) (h1 := h4) (p0 := h.blks.length) (p := p) (p2 := h2.blks.length) (by omega) (by omega) (by omega) (by omega) (numP (some bs) bs.length).1 (numP (some bs) bs.length).2 [] (by omega) (by simp; omega) (fun e he => (List.not_mem_nil he).elim)
  have fin' : ∀ {r : Option (Value × Heap)}, (∃ a c h', r = some (.tuple #[.agg #[.slice a ((getP bs).getD []).length c], .bool (getP bs).isSome], done h h') ∧ In h.blks.length No (nm h) h' ∧ AE h4.blks.length h' (.slice a ((getP bs).getD []).length c) ((getP bs).getD [])) → ∃ a c h', r = some (.tuple #[.agg #[.slice a ((getP bs).getD []).length c], .bool (getP bs).isSome], h') ∧ HExt h h' ∧ AE h.blks.length h' (.slice a ((getP bs).getD []).length c) ((getP bs).getD []) := fun ⟨a, c, h', g1, g2, g3⟩ => ⟨a, c, _, g1, done_ext' g2, (Acc.up g3 (by omega)).done⟩
  simp -implicitDefEqProofs (disch := omega) only [↓c46_0_eq, alL, e0, hh, q2, hh3, lnB8, cv, q4, ↓cnd_true, ↓cnd_false, ↓Option.bind_some, ↓obH_some', bin_add, bin_sub, bin_mul, bin_lss, bin_leq, bin_gtr, bin_geq, bin_eql, bin_neq, un_not, un_neg, Option.bind_some, Option.bind_none, Option.map_some, cnd_true, cnd_false, pickV_true, pickV_false, gd_true, gd_false, gdV_true, gdV_false, gdH_true, gdH_false, gdS_true, gdS_false, wt_ff, wt_tt, wt_ft, wt_tf, wt_undef, obH_some', extractV_tuple, nilCheckV_ptr, againK_normal, againK_exit, againK_ret, blockK_normal, blockK_same, blockK_ret, seqK_normal, seqK_exit, seqK_ret, fin_done, if_true', if_false', Bool.not_true, Bool.not_false, idx0, idx1, idx2, idx3, idx4, chk_nil_l, chk_nil_r, done_nm, up_cons, up_nil, cond_true, cond_false, Nat.reduceBEq]
  refine fin' (lp _ _ none 0 k4 (Nat.le_refl _) c4 w4 d4 (AE.nil _ _) ?_ ?_ ?_ ?_)
  all_goals rfl
end Go.Am
namespace Go.Am
open Go.Proofs
set_option maxRecDepth 100000
set_option linter.all false
attribute [local congr] obind_congr obH_congr cnd_congr chk_congr retK_congr codeK_congr
theorem etV : ElemT Tryd.prog 73 23 1 8 (.int .u64 0) := ⟨by kernel_rfl, by kernel_rfl, by kernel_rfl, by kernel_rfl, by omega, rfl, rfl⟩
theorem zeros_list (z : Value) (n : Nat) : ((Array.range (n * #[z].size)).map fun i => #[z][i % #[z].size]!).toList = List.replicate n z := by
  have e : (fun i : Nat => #[z][i % #[z].size]!) = fun _ => z := by
    funext i
    have : i % #[z].size = 0 := Nat.mod_one i
    rw [this]; rfl
  rw [e]
  simp [List.map_const']
theorem mkV (m : Nat) (hm : m ≤ 64) (h : Heap) : makeSliceV Tryd.prog 73 (.int .i64 m) (.int .i64 m) h = some (.slice (some ⟨h.blks.length, 0, none⟩) m m, h.new (.cells ((List.replicate m 0).map u64V)) 23) := by
  unfold makeSliceV
  simp only [etV.under, natOf_int, etV.size, etV.bytes, etV.zero]
  rw [if_pos ⟨Nat.le_refl _, by omega, by omega, by omega, etV.zs, etV.zg⟩]
  have := zeros_list (.int .u64 0) m
  rw [show ((Array.range (m * 1)).map fun x => (Value.int .u64 0).cells[x % (Value.int .u64 0).cells.size]!).toList = List.replicate m (.int .u64 0) from this, List.map_replicate]
  rfl
theorem spec_vecNew (m : Nat) (hm : m ≤ 64) (h : Heap) : ∃ h', evC Tryd.prog 34 #[.int .i64 m] h = some (.slice (some ⟨h.blks.length, 0, none⟩) m m, h') ∧ HExt h h' ∧ h'.blks.length = h.blks.length + 1 ∧ Cells h' h.blks.length 23 ((List.replicate m 0).map u64V) := by
  rw [call34]
  have e1 : max (m : Int) 0 = m := by omega
  have e2 : min (m : Int) 64 = m := by omega
  refine ⟨_, ?_, done_ext' (In.new (h := nm h) (Nat.le_refl _) (.cells ((List.replicate m 0).map u64V)) 23), ?_, (Cells.new (nm h) _ _).done⟩
  · simp -implicitDefEqProofs (disch := omega) only [↓c34_0_eq, vmaxI, vminI, e1, e2, mkV m hm, ↓ret34, ↓cnd_true, ↓cnd_false, ↓Option.bind_some, ↓obH_some', bin_add, bin_sub, bin_mul, bin_lss, bin_leq, bin_gtr, bin_geq, bin_eql, bin_neq, un_not, un_neg, Option.bind_some, Option.bind_none, Option.map_some, cnd_true, cnd_false, pickV_true, pickV_false, gd_true, gd_false, gdV_true, gdV_false, gdH_true, gdH_false, gdS_true, gdS_false, wt_ff, wt_tt, wt_ft, wt_tf, wt_undef, obH_some', extractV_tuple, nilCheckV_ptr, againK_normal, againK_exit, againK_ret, blockK_normal, blockK_same, blockK_ret, seqK_normal, seqK_exit, seqK_ret, fin_done, if_true', if_false', Bool.not_true, Bool.not_false, idx0, idx1, idx2, idx3, idx4, chk_nil_l, chk_nil_r, done_nm, up_cons, up_nil, cond_true, cond_false, Nat.reduceBEq]
    rfl
  · simp [Heap.new, nm]
structure LEn (h : Heap) (p s : Nat) (n me : Int) (num : Nat) (es : List E3) (ns : List Nat) : Prop where
  eng : ∃ la lc, Cells h p 96 [.int .i64 n, .int .i64 me, .slice la es.length lc, .int .u64 num, .slice (some ⟨s, 0, none⟩) ns.length ns.length] ∧ AE 0 h (.slice la es.length lc) es
  seen : Cells h s 23 (ns.map u64V)
  len : ns.length ≤ 64
theorem bdLn (n me : Int) (m : Nat) (s : Nat) : buildV Tryd.prog 96 #[(0, .int .i64 n), (1, .int .i64 me), (4, .slice (some ⟨s, 0, none⟩) m m)] = some (.agg #[.int .i64 n, .int .i64 me, .slice none 0 0, .int .u64 0, .slice (some ⟨s, 0, none⟩) m m]) := by kernel_rfl
theorem bxLn (a b c d e : Value) (h : Heap) : boxV Tryd.prog 96 (.agg #[a, b, c, d, e]) h = some (.pointer (some ⟨h.blks.length, 0, none⟩), h.new (.cells [a, b, c, d, e]) 96) := by kernel_rfl
theorem spec_leanNew (n : Nat) (me : Int) (h1 : 1 ≤ n) (h2 : n ≤ 16) (h3 : 0 ≤ me) (h4 : me < n) (h : Heap) : ∃ h', evC Tryd.prog 11 #[.int .i64 n, .int .i64 me] h = some (.tuple #[.pointer (some ⟨h.blks.length + 1, 0, none⟩), .int .i64 0], h') ∧ HExt h h' ∧ LEn h' (h.blks.length + 1) h.blks.length n me 0 [] (List.replicate n 0) := by
  rw [call11]
  obtain ⟨h2', q2,Ac, l2, c2⟩ := spec_vecNew n (by omega) (nm h)
  have e0 : (nm h).blks.length = h.blks.length := rfl
  rw [e0] at q2 l2 c2
  have k2 : In h.blks.length No (nm h) h2' := Ac.inn (Nat.le_refl h.blks.length)
  have d3 := Cells.new h2' 96 [.int .i64 n, .int .i64 me, .slice none 0 0, .int .u64 0, .slice (some ⟨h.blks.length, 0, none⟩) n n]
  have k3 := k2.trans (In.new (S := No) (by omega) (.cells [.int .i64 n, .int .i64 me, .slice none 0 0, .int .u64 0, .slice (some ⟨h.blks.length, 0, none⟩) n n]) 96)
  have c3 := c2.keepNew (.cells [.int .i64 n, .int .i64 me, .slice none 0 0, .int .u64 0, .slice (some ⟨h.blks.length, 0, none⟩) n n]) 96
  rw [l2] at d3
  refine ⟨_, ?_, done_ext' k3, ⟨⟨none, 0, ?_, AE.nil _ _⟩, c3.done, by rw [List.length_replicate]; omega⟩⟩
  · simp -implicitDefEqProofs (disch := omega) only [↓c11_0_eq, dcT, dcF, q2, bdLn, bxLn, l2, ↓ret11, ↓cnd_true, ↓cnd_false, ↓Option.bind_some, ↓obH_some', bin_add, bin_sub, bin_mul, bin_lss, bin_leq, bin_gtr, bin_geq, bin_eql, bin_neq, un_not, un_neg, Option.bind_some, Option.bind_none, Option.map_some, cnd_true, cnd_false, pickV_true, pickV_false, gd_true, gd_false, gdV_true, gdV_false, gdH_true, gdH_false, gdS_true, gdS_false, wt_ff, wt_tt, wt_ft, wt_tf, wt_undef, obH_some', extractV_tuple, nilCheckV_ptr, againK_normal, againK_exit, againK_ret, blockK_normal, blockK_same, blockK_ret, seqK_normal, seqK_exit, seqK_ret, fin_done, if_true', if_false', Bool.not_true, Bool.not_false, idx0, idx1, idx2, idx3, idx4, chk_nil_l, chk_nil_r, done_nm, up_cons, up_nil, cond_true, cond_false, Nat.reduceBEq]
  · rw [List.length_replicate]; exact d3.done
end Go.Am
namespace Go.Am
open Go.Proofs
set_option maxRecDepth 100000
set_option linter.all false
attribute [local congr] obind_congr obH_congr cnd_congr chk_congr retK_congr codeK_congr
theorem callCan1 (a0 a1 : Value) (h : Heap) : evC Tryd.prog 48 #[a0, a1] h = cK c48_0 32 (up un [(0, a0), (1, a1)]) (nm h) (retK Tryd.f48 Tryd.prog h) :=
  (evC_call 48 Tryd.f48 c48_0 Tryd.func48 (by kernel_rfl) #[a0, a1] h).trans (by kernel_rfl)
theorem faLn0 (p : Nat) : fieldAddrV Tryd.prog 96 (.pointer (some ⟨p, 0, none⟩)) 0 = some (.pointer (some ⟨p, 0, none⟩)) := by kernel_rfl
theorem faLn1 (p : Nat) : fieldAddrV Tryd.prog 96 (.pointer (some ⟨p, 0, none⟩)) 1 = some (.pointer (some ⟨p, 1, none⟩)) := by kernel_rfl
theorem faLn2 (p : Nat) : fieldAddrV Tryd.prog 96 (.pointer (some ⟨p, 0, none⟩)) 2 = some (.pointer (some ⟨p, 2, none⟩)) := by kernel_rfl
theorem faLn3 (p : Nat) : fieldAddrV Tryd.prog 96 (.pointer (some ⟨p, 0, none⟩)) 3 = some (.pointer (some ⟨p, 3, none⟩)) := by kernel_rfl
theorem faLn4 (p : Nat) : fieldAddrV Tryd.prog 96 (.pointer (some ⟨p, 0, none⟩)) 4 = some (.pointer (some ⟨p, 4, none⟩)) := by kernel_rfl
theorem ldLnP (p o : Nat) (h : Heap) : loadV Tryd.prog 33 (.pointer (some ⟨p, o, none⟩)) h = h.load1 p o := by kernel_rfl
theorem ldVec (p o : Nat) (h : Heap) : loadV Tryd.prog 73 (.pointer (some ⟨p, o, none⟩)) h = h.load1 p o := by kernel_rfl
theorem ldU64 (p o : Nat) (h : Heap) : loadV Tryd.prog 23 (.pointer (some ⟨p, o, none⟩)) h = h.load1 p o := by kernel_rfl
theorem lnVec (a : Option Addr) (n c : Nat) (h : Heap) : lenV Tryd.prog 73 (.slice a n c) h = some (.int .i64 n) := by kernel_rfl
def atN (ns : List Nat) (i : Int) : Nat := if i < 0 ∨ (ns.length : Int) ≤ i then 0 else ns.getD i.toNat 0
theorem spec_vecAt {h : Heap} {v : Value} {ns : List Nat} (s : SU h v ns) (i : Int) : evC Tryd.prog 49 #[v, .int .i64 i] h = some (.int .u64 (atN ns i), h) := by
  rw [call49]
  obtain ⟨a, c, rfl⟩ := s.shape
  unfold atN
  by_cases h1 : i < 0
  · rw [if_pos (.inl h1)]
    simp -implicitDefEqProofs (disch := omega) only [↓c49_0_eq, dcT, ↓ret49, ↓cnd_true, ↓cnd_false, ↓Option.bind_some, ↓obH_some', bin_add, bin_sub, bin_mul, bin_lss, bin_leq, bin_gtr, bin_geq, bin_eql, bin_neq, un_not, un_neg, Option.bind_some, Option.bind_none, Option.map_some, cnd_true, cnd_false, pickV_true, pickV_false, gd_true, gd_false, gdV_true, gdV_false, gdH_true, gdH_false, gdS_true, gdS_false, wt_ff, wt_tt, wt_ft, wt_tf, wt_undef, obH_some', extractV_tuple, nilCheckV_ptr, againK_normal, againK_exit, againK_ret, blockK_normal, blockK_same, blockK_ret, seqK_normal, seqK_exit, seqK_ret, fin_done, if_true', if_false', Bool.not_true, Bool.not_false, idx0, idx1, idx2, idx3, idx4, chk_nil_l, chk_nil_r, done_nm, up_cons, up_nil, cond_true, cond_false, Nat.reduceBEq]
    rfl
  · by_cases h2 : (ns.length : Int) ≤ i
    · rw [if_pos (.inr h2)]
      have g : i ≥ (ns.length : Int) := h2
      simp -implicitDefEqProofs (disch := omega) only [↓c49_0_eq, dcT, dcF, lnVec, ↓ret49, ↓cnd_true, ↓cnd_false, ↓Option.bind_some, ↓obH_some', bin_add, bin_sub, bin_mul, bin_lss, bin_leq, bin_gtr, bin_geq, bin_eql, bin_neq, un_not, un_neg, Option.bind_some, Option.bind_none, Option.map_some, cnd_true, cnd_false, pickV_true, pickV_false, gd_true, gd_false, gdV_true, gdV_false, gdH_true, gdH_false, gdS_true, gdS_false, wt_ff, wt_tt, wt_ft, wt_tf, wt_undef, obH_some', extractV_tuple, nilCheckV_ptr, againK_normal, againK_exit, againK_ret, blockK_normal, blockK_same, blockK_ret, seqK_normal, seqK_exit, seqK_ret, fin_done, if_true', if_false', Bool.not_true, Bool.not_false, idx0, idx1, idx2, idx3, idx4, chk_nil_l, chk_nil_r, done_nm, up_cons, up_nil, cond_true, cond_false, Nat.reduceBEq]
      rfl
    · rw [if_neg (by omega)]
      obtain ⟨k, rfl⟩ : ∃ k : Nat, i = k := ⟨i.toNat, by omega⟩
      rw [Int.toNat_natCast]
      obtain ⟨ad, e1, e2⟩ := su_at (Sl.nm s) (t := 73) (by kernel_rfl) (i := k) (by omega)
      simp -implicitDefEqProofs (disch := omega) only [↓c49_0_eq, dcT, dcF, lnVec, e1, e2, ↓ret49, ↓cnd_true, ↓cnd_false, ↓Option.bind_some, ↓obH_some', bin_add, bin_sub, bin_mul, bin_lss, bin_leq, bin_gtr, bin_geq, bin_eql, bin_neq, un_not, un_neg, Option.bind_some, Option.bind_none, Option.map_some, cnd_true, cnd_false, pickV_true, pickV_false, gd_true, gd_false, gdV_true, gdV_false, gdH_true, gdH_false, gdS_true, gdS_false, wt_ff, wt_tt, wt_ft, wt_tf, wt_undef, obH_some', extractV_tuple, nilCheckV_ptr, againK_normal, againK_exit, againK_ret, blockK_normal, blockK_same, blockK_ret, seqK_normal, seqK_exit, seqK_ret, fin_done, if_true', if_false', Bool.not_true, Bool.not_false, idx0, idx1, idx2, idx3, idx4, chk_nil_l, chk_nil_r, done_nm, up_cons, up_nil, cond_true, cond_false, Nat.reduceBEq]
def stopE (me : Int) (ns : List Nat) (x : E3) : Bool := hasB x.t me && (decide (x.f ≠ me) && decide ((atN ns x.f : Int) < x.n))
theorem LEn.seenS {h : Heap} {p s : Nat} {n me : Int} {num : Nat} {es : List E3} {ns : List Nat} (l : LEn h p s n me num es ns) : SU h (.slice (some ⟨s, 0, none⟩) ns.length ns.length) ns :=
  .mk (l.seen.loadN (n := ns.length * 1) (by simp)) (.inr ⟨Nat.le_refl _, by have := l.len; unfold UNK; omega⟩)
theorem LEn.same {h h' : Heap} {p s : Nat} {n me : Int} {num : Nat} {es : List E3} {ns : List Nat} (l : LEn h p s n me num es ns) (e : Same h h') : LEn h' p s n me num es ns :=
  let ⟨la, lc, a, b⟩ := l.eng
  ⟨⟨la, lc, a.same e, b.same e⟩, l.seen.same e, l.len⟩
theorem spec_Can1 {h : Heap} {pb p s : Nat} {n me : Int} {num : Nat} {es : List E3} {ns : List Nat} (cb : Cells h pb 33 [.pointer (some ⟨p, 0, none⟩)]) (l : LEn h p s n me num es ns) (x : E3) (hx : x.t < 2 ^ 64) :
    ∃ h', evC Tryd.prog 48 #[entV x, .pointer (some ⟨pb, 0, none⟩)] h = some (.bool (stopE me ns x), h') ∧ HExt h h' := by
  rw [callCan1]
  have c1 := Cells.new (nm h) 68 (entC x)
  have k1 : In h.blks.length No (nm h) ((nm h).new (.cells (entC x)) 68) := In.new (h := nm h) (Nat.le_refl h.blks.length) _ _
  have sm : Same h ((nm h).new (.cells (entC x)) 68) := Same.new (nm h) _ _
  have e0 : (nm h).blks.length = h.blks.length := rfl
  rw [e0] at c1
  generalize hh : (nm h).new (.cells (entC x)) 68 = h1 at c1 k1 sm
  have l1 := l.same sm
  obtain ⟨la, lc, ce, _⟩ := l1.eng
  have Aa : h1.load1 h.blks.length 0 = some (.int .i64 x.f) := c1.load 0
  have Ab : h1.load1 h.blks.length (0 + 1) = some (.int .u64 x.n) := c1.load 1
  have Ac : h1.load1 h.blks.length (0 + 2) = some (.int .u64 x.t) := c1.load 2
  have p0 : h1.load1 pb 0 = some (.pointer (some ⟨p, 0, none⟩)) := (cb.same sm).load 0
  have m1 : h1.load1 p 1 = some (.int .i64 me) := ce.load 1
  have m4 : h1.load1 p 4 = some (.slice (some ⟨s, 0, none⟩) ns.length ns.length) := ce.load 4
  have q1 := spec_Has x.t hx me h1
  have q2 := spec_vecAt (Sl.nm l1.seenS) x.f
  unfold stopE
  refine ⟨_, ?_, done_ext' k1⟩
  cases hb : hasB x.t me with
  | false =>
    rw [hb] at q1
    simp -implicitDefEqProofs (disch := omega) only [↓c48_0_eq, ↓c48_1_eq, ↓c48_2_eq, ↓c48_3_eq, ↓c48_4_eq, ↓d48_0_0, ↓d48_0_1, ↓d48_0_2, ↓d48_0_3, ↓d48_0_4, ↓d48_0_5, ↓d48_0_6, ↓d48_0_7, ↓d48_0_8, ↓d48_0_9, ↓d48_0_10, ↓d48_0_11, ↓d48_0_12, ↓d48_0_13, ↓d48_0_14, ↓d48_0_15, ↓d48_0_16, ↓d48_0_17, ↓d48_0_18, ↓d48_0_19, ↓d48_0_20, ↓d48_0_21, ↓d48_0_22, ↓d48_0_23, ↓d48_0_24, ↓d48_0_25, ↓d48_0_26, ↓d48_0_27, ↓d48_0_28, ↓d48_0_29, bxEe, e0, hh, faE0, faE1, faE2, ldS, ldInt, ldU64, ldLnP, ldVec,Aa,Ab,Ac, p0, nilCheckV_ptr, faLn1, faLn4, m1, m4, q1, Bool.false_and, am_nm, nm_mods, List.nil_append, List.append_nil, chk_nil_r, ↓ret48, ↓cnd_true, ↓cnd_false, ↓Option.bind_some, ↓obH_some', bin_add, bin_sub, bin_mul, bin_lss, bin_leq, bin_gtr, bin_geq, bin_eql, bin_neq, un_not, un_neg, Option.bind_some, Option.bind_none, Option.map_some, cnd_true, cnd_false, pickV_true, pickV_false, gd_true, gd_false, gdV_true, gdV_false, gdH_true, gdH_false, gdS_true, gdS_false, wt_ff, wt_tt, wt_ft, wt_tf, wt_undef, obH_some', extractV_tuple, nilCheckV_ptr, againK_normal, againK_exit, againK_ret, blockK_normal, blockK_same, blockK_ret, seqK_normal, seqK_exit, seqK_ret, fin_done, if_true', if_false', Bool.not_true, Bool.not_false, idx0, idx1, idx2, idx3, idx4, chk_nil_l, chk_nil_r, done_nm, up_cons, up_nil, cond_true, cond_false, Nat.reduceBEq]
  | true =>
    rw [hb] at q1
    by_cases hf : x.f = me
    · have d1 : decide (x.f ≠ me) = false := decide_eq_false (fun h => h hf)
      simp -implicitDefEqProofs (disch := omega) only [↓c48_0_eq, ↓c48_1_eq, ↓c48_2_eq, ↓c48_3_eq, ↓c48_4_eq, ↓d48_0_0, ↓d48_0_1, ↓d48_0_2, ↓d48_0_3, ↓d48_0_4, ↓d48_0_5, ↓d48_0_6, ↓d48_0_7, ↓d48_0_8, ↓d48_0_9, ↓d48_0_10, ↓d48_0_11, ↓d48_0_12, ↓d48_0_13, ↓d48_0_14, ↓d48_0_15, ↓d48_0_16, ↓d48_0_17, ↓d48_0_18, ↓d48_0_19, ↓d48_0_20, ↓d48_0_21, ↓d48_0_22, ↓d48_0_23, ↓d48_0_24, ↓d48_0_25, ↓d48_0_26, ↓d48_0_27, ↓d48_0_28, ↓d48_0_29, bxEe, e0, hh, faE0, faE1, faE2, ldS, ldInt, ldU64, ldLnP, ldVec,Aa,Ab,Ac, p0, nilCheckV_ptr, faLn1, faLn4, m1, m4, q1, d1, Bool.false_and, Bool.true_and, am_nm, nm_mods, List.nil_append, List.append_nil, chk_nil_r, ↓ret48, ↓cnd_true, ↓cnd_false, ↓Option.bind_some, ↓obH_some', bin_add, bin_sub, bin_mul, bin_lss, bin_leq, bin_gtr, bin_geq, bin_eql, bin_neq, un_not, un_neg, Option.bind_some, Option.bind_none, Option.map_some, cnd_true, cnd_false, pickV_true, pickV_false, gd_true, gd_false, gdV_true, gdV_false, gdH_true, gdH_false, gdS_true, gdS_false, wt_ff, wt_tt, wt_ft, wt_tf, wt_undef, obH_some', extractV_tuple, nilCheckV_ptr, againK_normal, againK_exit, againK_ret, blockK_normal, blockK_same, blockK_ret, seqK_normal, seqK_exit, seqK_ret, fin_done, if_true', if_false', Bool.not_true, Bool.not_false, idx0, idx1, idx2, idx3, idx4, chk_nil_l, chk_nil_r, done_nm, up_cons, up_nil, cond_true, cond_false, Nat.reduceBEq]
    · have d1 : decide (x.f ≠ me) = true := decide_eq_true hf
      simp -implicitDefEqProofs (disch := omega) only [↓c48_0_eq, ↓c48_1_eq, ↓c48_2_eq, ↓c48_3_eq, ↓c48_4_eq, ↓d48_0_0, ↓d48_0_1, ↓d48_0_2, ↓d48_0_3, ↓d48_0_4, ↓d48_0_5, ↓d48_0_6, ↓d48_0_7, ↓d48_0_8, ↓d48_0_9, ↓d48_0_10, ↓d48_0_11, ↓d48_0_12, ↓d48_0_13, ↓d48_0_14, ↓d48_0_15, ↓d48_0_16, ↓d48_0_17, ↓d48_0_18, ↓d48_0_19, ↓d48_0_20, ↓d48_0_21, ↓d48_0_22, ↓d48_0_23, ↓d48_0_24, ↓d48_0_25, ↓d48_0_26, ↓d48_0_27, ↓d48_0_28, ↓d48_0_29, bxEe, e0, hh, faE0, faE1, faE2, ldS, ldInt, ldU64, ldLnP, ldVec,Aa,Ab,Ac, p0, nilCheckV_ptr, faLn1, faLn4, m1, m4, q1, d1, q2, am_nm, nm_mods, List.nil_append, List.append_nil, chk_nil_r, Bool.true_and, ↓ret48, ↓cnd_true, ↓cnd_false, ↓Option.bind_some, ↓obH_some', bin_add, bin_sub, bin_mul, bin_lss, bin_leq, bin_gtr, bin_geq, bin_eql, bin_neq, un_not, un_neg, Option.bind_some, Option.bind_none, Option.map_some, cnd_true, cnd_false, pickV_true, pickV_false, gd_true, gd_false, gdV_true, gdV_false, gdH_true, gdH_false, gdS_true, gdS_false, wt_ff, wt_tt, wt_ft, wt_tf, wt_undef, obH_some', extractV_tuple, nilCheckV_ptr, againK_normal, againK_exit, againK_ret, blockK_normal, blockK_same, blockK_ret, seqK_normal, seqK_exit, seqK_ret, fin_done, if_true', if_false', Bool.not_true, Bool.not_false, idx0, idx1, idx2, idx3, idx4, chk_nil_l, chk_nil_r, done_nm, up_cons, up_nil, cond_true, cond_false, Nat.reduceBEq]
end Go.Am
namespace Go.Am
open Go.Proofs
set_option maxRecDepth 100000
set_option linter.all false
attribute [local congr] obind_congr obH_congr cnd_congr chk_congr retK_congr codeK_congr
theorem sameNm (h : Heap) : Same h (nm h) := ⟨Nat.le_refl _, fun _ _ => rfl⟩
theorem callClos (a b : Value) (h : Heap) : callV Tryd.prog (evC Tryd.prog) (.func (.func 48) #[] #[b]) #[a] h = evC Tryd.prog 48 #[a, b] h := by kernel_rfl
theorem idx_loop {h0 h1 : Heap} {v : Value} {g : List E3} {pb p s : Nat} {n me : Int} {num : Nat} {es : List E3} {ns : List Nat} (sv : SE h1 v g) (hw : wide g) (hl : g.length < 2 ^ 40) (cb : Cells h1 pb 33 [.pointer (some ⟨p, 0, none⟩)]) (l : LEn h1 p s n me num es ns) :
    ∀ (m i : Nat), g.length - i = m → i ≤ g.length → ∀ (x : Nat → Value) (h : Heap),In h0.blks.length No (nm h0) h → Same h1 h → x 0 = v → x 1 = .func (.func 48) #[] #[.pointer (some ⟨pb, 0, none⟩)] → x 7 = .int .i64 g.length → x 8 = .int .i64 i →
    ∃ (k : Int) (h' : Heap), lK c71_1 19 x h (blockK 0 (sK c71_2 (retK Tryd.f71 Tryd.prog h0))) = some (.int .i64 k, done h0 h') ∧ In h0.blks.length No (nm h0) h' ∧ decide (k ≥ 0) = (g.drop i).any (stopE me ns) := by
  intro m
  induction m with
  | zero =>
    intro i e1 e2 x h hin hs Aa Ab Ah Ai
    obtain rfl : i = g.length := by omega
    rw [lK_eq, List.drop_length]
    refine ⟨-1, h, ?_, hin, rfl⟩
    simp -implicitDefEqProofs (disch := omega) only [↓c71_1_eq, ↓c71_2_eq,Ah,Ai, dcF, ↓ret71, ↓cnd_true, ↓cnd_false, ↓Option.bind_some, ↓obH_some', bin_add, bin_sub, bin_mul, bin_lss, bin_leq, bin_gtr, bin_geq, bin_eql, bin_neq, un_not, un_neg, Option.bind_some, Option.bind_none, Option.map_some, cnd_true, cnd_false, pickV_true, pickV_false, gd_true, gd_false, gdV_true, gdV_false, gdH_true, gdH_false, gdS_true, gdS_false, wt_ff, wt_tt, wt_ft, wt_tf, wt_undef, obH_some', extractV_tuple, nilCheckV_ptr, againK_normal, againK_exit, againK_ret, blockK_normal, blockK_same, blockK_ret, seqK_normal, seqK_exit, seqK_ret, fin_done, if_true', if_false', Bool.not_true, Bool.not_false, idx0, idx1, idx2, idx3, idx4, chk_nil_l, chk_nil_r, done_nm, up_cons, up_nil, cond_true, cond_false, Nat.reduceBEq]
  | succ m ih =>
    intro i hm hi x h hin hs Aa Ab Ah Ai
    have hil : i < g.length := by omega
    obtain ⟨b, o, hb, hbl, e1, e2⟩ := sv.at' (t := 63) (el := 68) (by kernel_rfl) (by kernel_rfl) hil
    obtain ⟨f1, _⟩ := e2 h (hs.2 b hbl)
    obtain ⟨h2, q2, y2⟩ := spec_Can1 (cb.same hs) (l.same hs) g[i] (hw _ (List.getElem_mem hil)).2
    have hin2 := hin.trans (y2.inn (Nat.le_trans hin.le hin.len))
    have wi : IntKind.i64.wrap ((i : Int) + 1) = ((i + 1 : Nat) : Int) := by rw [wrap_i64] <;> omega
    rw [lK_eq, List.drop_eq_getElem_cons hil, List.any_cons]
    cases hst : stopE me ns g[i] with
    | true =>
      rw [hst] at q2
      refine ⟨i, h2, ?_, hin2, by simp⟩
      simp -implicitDefEqProofs (disch := omega) only [↓c71_1_eq, ↓c71_2_eq,Aa,Ab,Ah,Ai, dcT, e1, ldE, f1, Option.map_some, entA, callClos, q2, ↓ret71, ↓cnd_true, ↓cnd_false, ↓Option.bind_some, ↓obH_some', bin_add, bin_sub, bin_mul, bin_lss, bin_leq, bin_gtr, bin_geq, bin_eql, bin_neq, un_not, un_neg, Option.bind_some, Option.bind_none, Option.map_some, cnd_true, cnd_false, pickV_true, pickV_false, gd_true, gd_false, gdV_true, gdV_false, gdH_true, gdH_false, gdS_true, gdS_false, wt_ff, wt_tt, wt_ft, wt_tf, wt_undef, obH_some', extractV_tuple, nilCheckV_ptr, againK_normal, againK_exit, againK_ret, blockK_normal, blockK_same, blockK_ret, seqK_normal, seqK_exit, seqK_ret, fin_done, if_true', if_false', Bool.not_true, Bool.not_false, idx0, idx1, idx2, idx3, idx4, chk_nil_l, chk_nil_r, done_nm, up_cons, up_nil, cond_true, cond_false, Nat.reduceBEq]
    | false =>
      rw [hst] at q2
      rw [Bool.false_or]
      simp -implicitDefEqProofs (disch := omega) only [↓c71_1_eq, ↓c71_2_eq,Aa,Ab,Ah,Ai, dcT, e1, ldE, f1, Option.map_some, entA, callClos, q2, wi, ↓cnd_true, ↓cnd_false, ↓Option.bind_some, ↓obH_some', bin_add, bin_sub, bin_mul, bin_lss, bin_leq, bin_gtr, bin_geq, bin_eql, bin_neq, un_not, un_neg, Option.bind_some, Option.bind_none, Option.map_some, cnd_true, cnd_false, pickV_true, pickV_false, gd_true, gd_false, gdV_true, gdV_false, gdH_true, gdH_false, gdS_true, gdS_false, wt_ff, wt_tt, wt_ft, wt_tf, wt_undef, obH_some', extractV_tuple, nilCheckV_ptr, againK_normal, againK_exit, againK_ret, blockK_normal, blockK_same, blockK_ret, seqK_normal, seqK_exit, seqK_ret, fin_done, if_true', if_false', Bool.not_true, Bool.not_false, idx0, idx1, idx2, idx3, idx4, chk_nil_l, chk_nil_r, done_nm, up_cons, up_nil, cond_true, cond_false, Nat.reduceBEq]
      refine ih (i + 1) (by omega) (by omega) _ h2 hin2 (hs.trans y2.same) ?_ ?_ ?_ ?_
      · exact Aa
      · exact Ab
      · exact Ah
      · rfl
theorem spec_Contains {h : Heap} {v : Value} {g : List E3} {pb p s : Nat} {n me : Int} {num : Nat} {es : List E3} {ns : List Nat} (sv : SE h v g) (hw : wide g) (hl : g.length < 2 ^ 40) (cb : Cells h pb 33 [.pointer (some ⟨p, 0, none⟩)]) (l : LEn h p s n me num es ns) :
    ∃ h', evC Tryd.prog 47 #[v, .func (.func 48) #[] #[.pointer (some ⟨pb, 0, none⟩)]] h = some (.bool (g.any (stopE me ns)), h') ∧ HExt h h' := by
  have ix : ∀ h, SE h v g → Cells h pb 33 [.pointer (some ⟨p, 0, none⟩)] → LEn h p s n me num es ns → ∃ (k : Int) (h' : Heap), evC Tryd.prog 71 #[v, .func (.func 48) #[] #[.pointer (some ⟨pb, 0, none⟩)]] h = some (.int .i64 k, h') ∧ HExt h h' ∧ decide (k ≥ 0) = g.any (stopE me ns) := fun h sv cb l => by
    rw [call71]
    have lp := idx_loop (h0 := h) (h1 := nm h) sv.nm hw hl cb (l.same (sameNm h)) g.length 0 (by omega) (by omega)
    obtain ⟨a, c, rfl⟩ := sv.shape
    have fin' : ∀ {r : Option (Value × Heap)}, (∃ (k : Int) (h' : Heap), r = some (.int .i64 k, done h h') ∧ In h.blks.length No (nm h) h' ∧ decide (k ≥ 0) = (g.drop 0).any (stopE me ns)) → ∃ (k : Int) (h' : Heap), r = some (.int .i64 k, h') ∧ HExt h h' ∧ decide (k ≥ 0) = g.any (stopE me ns) := fun ⟨k, h', q1, q2, q3⟩ => ⟨k, _, q1, done_ext' q2, q3⟩
    simp -implicitDefEqProofs (disch := omega) only [↓c71_0_eq, lnEs, ↓cnd_true, ↓cnd_false, ↓Option.bind_some, ↓obH_some', bin_add, bin_sub, bin_mul, bin_lss, bin_leq, bin_gtr, bin_geq, bin_eql, bin_neq, un_not, un_neg, Option.bind_some, Option.bind_none, Option.map_some, cnd_true, cnd_false, pickV_true, pickV_false, gd_true, gd_false, gdV_true, gdV_false, gdH_true, gdH_false, gdS_true, gdS_false, wt_ff, wt_tt, wt_ft, wt_tf, wt_undef, obH_some', extractV_tuple, nilCheckV_ptr, againK_normal, againK_exit, againK_ret, blockK_normal, blockK_same, blockK_ret, seqK_normal, seqK_exit, seqK_ret, fin_done, if_true', if_false', Bool.not_true, Bool.not_false, idx0, idx1, idx2, idx3, idx4, chk_nil_l, chk_nil_r, done_nm, up_cons, up_nil, cond_true, cond_false, Nat.reduceBEq]
    refine fin' (lp _ _ (In.refl (Nat.le_refl _)) (Same.refl _) ?_ ?_ ?_ ?_)
    all_goals rfl
  rw [call47]
  obtain ⟨k, h2, q2,Ac, hk⟩ := ix (nm h) sv.nm cb (l.same (sameNm h))
  refine ⟨_, ?_, done_ext' (Ac.inn (Nat.le_refl h.blks.length))⟩
  simp -implicitDefEqProofs (disch := omega) only [↓c47_0_eq, q2, hk, ↓ret47, ↓cnd_true, ↓cnd_false, ↓Option.bind_some, ↓obH_some', bin_add, bin_sub, bin_mul, bin_lss, bin_leq, bin_gtr, bin_geq, bin_eql, bin_neq, un_not, un_neg, Option.bind_some, Option.bind_none, Option.map_some, cnd_true, cnd_false, pickV_true, pickV_false, gd_true, gd_false, gdV_true, gdV_false, gdH_true, gdH_false, gdS_true, gdS_false, wt_ff, wt_tt, wt_ft, wt_tf, wt_undef, obH_some', extractV_tuple, nilCheckV_ptr, againK_normal, againK_exit, againK_ret, blockK_normal, blockK_same, blockK_ret, seqK_normal, seqK_exit, seqK_ret, fin_done, if_true', if_false', Bool.not_true, Bool.not_false, idx0, idx1, idx2, idx3, idx4, chk_nil_l, chk_nil_r, done_nm, up_cons, up_nil, cond_true, cond_false, Nat.reduceBEq]
def canE (n me : Int) (ns : List Nat) (fr : Int) (num : Nat) (bs : List UInt8) : Bool := match getP bs with
  | none => false
  | some g => if fr < 0 ∨ n ≤ fr ∨ fr = me ∨ num < 1 then false else !g.any (stopE me ns)
theorem bxLnP (p : Nat) (h : Heap) : boxV Tryd.prog 33 (.pointer (some ⟨p, 0, none⟩)) h = some (.pointer (some ⟨h.blks.length, 0, none⟩), h.new (.cells [.pointer (some ⟨p, 0, none⟩)]) 33) := by kernel_rfl
theorem getP_wide {bs : List UInt8} {g : List E3} (h : getP bs = some g) : wide g := by
  unfold getP logOf at h
  split at h
  · cases h; exact rdN_wide _ _
  · cases h
theorem spec_Can {h : Heap} {p s : Nat} {n me : Int} {num : Nat} {es : List E3} {ns : List Nat} (l : LEn h p s n me num es ns) (fr : Int) (k : Nat) {v : Value} {bs : List UInt8} (sb : SB h v bs) (hl : bs.length < 2 ^ 30) :
    ∃ h', evC Tryd.prog 16 #[.pointer (some ⟨p, 0, none⟩), .int .i64 fr, .int .u64 k, v] h = some (.bool (canE n me ns fr k bs), h') ∧ HExt h h' := by
  rw [call16]
  have c1 := Cells.new (nm h) 33 [.pointer (some ⟨p, 0, none⟩)]
  have k1 : In h.blks.length No (nm h) ((nm h).new (.cells [.pointer (some ⟨p, 0, none⟩)]) 33) := In.new (h := nm h) (Nat.le_refl h.blks.length) _ _
  have sm : Same h ((nm h).new (.cells [.pointer (some ⟨p, 0, none⟩)]) 33) := Same.new (nm h) _ _
  have e0 : (nm h).blks.length = h.blks.length := rfl
  have e1 : ((nm h).new (.cells [.pointer (some ⟨p, 0, none⟩)]) 33).blks.length = h.blks.length + 1 := by simp [Heap.new]
  rw [e0] at c1
  generalize hh : (nm h).new (.cells [.pointer (some ⟨p, 0, none⟩)]) 33 = h1 at c1 k1 sm e1
  obtain ⟨a2, c2, h2, q2,Ac, r2⟩ := spec_Get18 (Sl.same sb sm) hl
  have hx2 := Ac.len
  have d3 := Cells.new h2 65 [.slice none 0 0]
  have st := storeN_blk d3 (o := 0) (vs := [.slice a2 ((getP bs).getD []).length c2]) (by simp)
  simp only [List.take_zero, List.nil_append, List.append_nil, List.length_cons, List.length_nil, List.drop_succ_cons, List.drop_zero, Nat.zero_add] at st
  have k2 := k1.trans (Ac.inn (by omega))
  have k3 := (k2.trans (In.new (S := No) (by omega) (.cells [.slice none 0 0]) 65)).trans (In.put (S := No) (by simp [Heap.new]; omega) (p := h2.blks.length) (.inl (by omega)) (.cells [.slice a2 ((getP bs).getD []).length c2]))
  have y3 := same_np h2 (.cells [.slice none 0 0]) (.cells [.slice a2 ((getP bs).getD []).length c2]) 65
  have g3 := d3.put [.slice a2 ((getP bs).getD []).length c2]
  have s3 : SE ((h2.new (.cells [.slice none 0 0]) 65).put h2.blks.length (.cells [.slice a2 ((getP bs).getD []).length c2])) (.slice a2 ((getP bs).getD []).length c2) ((getP bs).getD []) := Sl.same (AE.se r2) y3
  generalize hh3 : (h2.new (.cells [.slice none 0 0]) 65).put h2.blks.length (.cells [.slice a2 ((getP bs).getD []).length c2]) = h3 at st k3 y3 g3 s3
  have sm3 := (sm.trans Ac.same).trans y3
  have l3 := l.same sm3
  obtain ⟨la, lc, ce, _⟩ := l3.eng
  have p0 : h3.load1 h.blks.length 0 = some (.pointer (some ⟨p, 0, none⟩)) := ((c1.ext Ac).same y3).load 0
  have m0 : h3.load1 p 0 = some (.int .i64 n) := ce.load 0
  have m1 : h3.load1 p 1 = some (.int .i64 me) := ce.load 1
  have lg : h3.load1 h2.blks.length 0 = some (.slice a2 ((getP bs).getD []).length c2) := g3.load 0
  unfold canE
  cases hg : getP bs with
  | none =>
    rw [hg] at q2 st
    simp only [Option.getD_none, Option.isSome_none] at q2 st
    refine ⟨_, ?_, done_ext' k3⟩
    simp -implicitDefEqProofs (disch := omega) only [↓c16_0_eq, bxLnP, e0, hh, q2, extractV_tuple, alL, stL, st, ↓ret16, ↓cnd_true, ↓cnd_false, ↓Option.bind_some, ↓obH_some', bin_add, bin_sub, bin_mul, bin_lss, bin_leq, bin_gtr, bin_geq, bin_eql, bin_neq, un_not, un_neg, Option.bind_some, Option.bind_none, Option.map_some, cnd_true, cnd_false, pickV_true, pickV_false, gd_true, gd_false, gdV_true, gdV_false, gdH_true, gdH_false, gdS_true, gdS_false, wt_ff, wt_tt, wt_ft, wt_tf, wt_undef, obH_some', extractV_tuple, nilCheckV_ptr, againK_normal, againK_exit, againK_ret, blockK_normal, blockK_same, blockK_ret, seqK_normal, seqK_exit, seqK_ret, fin_done, if_true', if_false', Bool.not_true, Bool.not_false, idx0, idx1, idx2, idx3, idx4, chk_nil_l, chk_nil_r, done_nm, up_cons, up_nil, cond_true, cond_false, Nat.reduceBEq]
  | some g =>
    rw [hg] at q2 st s3 lg
    simp only [Option.getD_some, Option.isSome_some] at q2 st s3 lg
    by_cases hbad : fr < 0 ∨ n ≤ fr ∨ fr = me ∨ k < 1
    · refine ⟨_, ?_, done_ext' k3⟩
      simp only [if_pos hbad]
      by_cases b1 : fr < 0
      · simp -implicitDefEqProofs (disch := omega) only [↓c16_0_eq, bxLnP, e0, hh, q2, extractV_tuple, alL, stL, st, dcT, ↓ret16, ↓cnd_true, ↓cnd_false, ↓Option.bind_some, ↓obH_some', bin_add, bin_sub, bin_mul, bin_lss, bin_leq, bin_gtr, bin_geq, bin_eql, bin_neq, un_not, un_neg, Option.bind_some, Option.bind_none, Option.map_some, cnd_true, cnd_false, pickV_true, pickV_false, gd_true, gd_false, gdV_true, gdV_false, gdH_true, gdH_false, gdS_true, gdS_false, wt_ff, wt_tt, wt_ft, wt_tf, wt_undef, obH_some', extractV_tuple, nilCheckV_ptr, againK_normal, againK_exit, againK_ret, blockK_normal, blockK_same, blockK_ret, seqK_normal, seqK_exit, seqK_ret, fin_done, if_true', if_false', Bool.not_true, Bool.not_false, idx0, idx1, idx2, idx3, idx4, chk_nil_l, chk_nil_r, done_nm, up_cons, up_nil, cond_true, cond_false, Nat.reduceBEq]
      · by_cases b2 : fr ≥ n
        · simp -implicitDefEqProofs (disch := omega) only [↓c16_0_eq, bxLnP, e0, hh, q2, extractV_tuple, alL, stL, st, dcT, dcF, ldLnP, p0, nilCheckV_ptr, faLn0, ldI, m0, ↓ret16, ↓cnd_true, ↓cnd_false, ↓Option.bind_some, ↓obH_some', bin_add, bin_sub, bin_mul, bin_lss, bin_leq, bin_gtr, bin_geq, bin_eql, bin_neq, un_not, un_neg, Option.bind_some, Option.bind_none, Option.map_some, cnd_true, cnd_false, pickV_true, pickV_false, gd_true, gd_false, gdV_true, gdV_false, gdH_true, gdH_false, gdS_true, gdS_false, wt_ff, wt_tt, wt_ft, wt_tf, wt_undef, obH_some', extractV_tuple, nilCheckV_ptr, againK_normal, againK_exit, againK_ret, blockK_normal, blockK_same, blockK_ret, seqK_normal, seqK_exit, seqK_ret, fin_done, if_true', if_false', Bool.not_true, Bool.not_false, idx0, idx1, idx2, idx3, idx4, chk_nil_l, chk_nil_r, done_nm, up_cons, up_nil, cond_true, cond_false, Nat.reduceBEq]
        · by_cases b3 : fr = me
          · have d3 : decide (fr = me) = true := decide_eq_true b3
            simp -implicitDefEqProofs (disch := omega) only [↓c16_0_eq, bxLnP, e0, hh, q2, extractV_tuple, alL, stL, st, dcT, dcF, ldLnP, p0, nilCheckV_ptr, faLn0, faLn1, ldI, m0, m1, d3, ↓ret16, ↓cnd_true, ↓cnd_false, ↓Option.bind_some, ↓obH_some', bin_add, bin_sub, bin_mul, bin_lss, bin_leq, bin_gtr, bin_geq, bin_eql, bin_neq, un_not, un_neg, Option.bind_some, Option.bind_none, Option.map_some, cnd_true, cnd_false, pickV_true, pickV_false, gd_true, gd_false, gdV_true, gdV_false, gdH_true, gdH_false, gdS_true, gdS_false, wt_ff, wt_tt, wt_ft, wt_tf, wt_undef, obH_some', extractV_tuple, nilCheckV_ptr, againK_normal, againK_exit, againK_ret, blockK_normal, blockK_same, blockK_ret, seqK_normal, seqK_exit, seqK_ret, fin_done, if_true', if_false', Bool.not_true, Bool.not_false, idx0, idx1, idx2, idx3, idx4, chk_nil_l, chk_nil_r, done_nm, up_cons, up_nil, cond_true, cond_false, Nat.reduceBEq]
          · have d3 : decide (fr = me) = false := decide_eq_false b3
            have b4 : (k : Int) < 1 := by omega
            simp -implicitDefEqProofs (disch := omega) only [↓c16_0_eq, bxLnP, e0, hh, q2, extractV_tuple, alL, stL, st, dcT, dcF, ldLnP, p0, nilCheckV_ptr, faLn0, faLn1, ldI, m0, m1, d3, ↓ret16, ↓cnd_true, ↓cnd_false, ↓Option.bind_some, ↓obH_some', bin_add, bin_sub, bin_mul, bin_lss, bin_leq, bin_gtr, bin_geq, bin_eql, bin_neq, un_not, un_neg, Option.bind_some, Option.bind_none, Option.map_some, cnd_true, cnd_false, pickV_true, pickV_false, gd_true, gd_false, gdV_true, gdV_false, gdH_true, gdH_false, gdS_true, gdS_false, wt_ff, wt_tt, wt_ft, wt_tf, wt_undef, obH_some', extractV_tuple, nilCheckV_ptr, againK_normal, againK_exit, againK_ret, blockK_normal, blockK_same, blockK_ret, seqK_normal, seqK_exit, seqK_ret, fin_done, if_true', if_false', Bool.not_true, Bool.not_false, idx0, idx1, idx2, idx3, idx4, chk_nil_l, chk_nil_r, done_nm, up_cons, up_nil, cond_true, cond_false, Nat.reduceBEq]
    · simp only [if_neg hbad]
      have gl : g.length < 2 ^ 40 := by
        have := getP_len bs
        rw [hg] at this
        simp only [Option.getD_some] at this
        omega
      obtain ⟨h4, q4,Ae⟩ := spec_Contains s3 (getP_wide hg) gl ((c1.ext Ac).same y3) l3
      refine ⟨_, ?_, done_ext' (k3.trans (Ae.inn (Nat.le_trans k3.le k3.len)))⟩
      have d3 : decide (fr = me) = false := decide_eq_false (by omega)
      simp -implicitDefEqProofs (disch := omega) only [↓c16_0_eq, bxLnP, e0, hh, q2, extractV_tuple, alL, stL, st, dcT, dcF, ldLnP, p0, nilCheckV_ptr, faLn0, faLn1, ldI, m0, m1, d3, faL, ldEs, lg, q4, ↓ret16, ↓cnd_true, ↓cnd_false, ↓Option.bind_some, ↓obH_some', bin_add, bin_sub, bin_mul, bin_lss, bin_leq, bin_gtr, bin_geq, bin_eql, bin_neq, un_not, un_neg, Option.bind_some, Option.bind_none, Option.map_some, cnd_true, cnd_false, pickV_true, pickV_false, gd_true, gd_false, gdV_true, gdV_false, gdH_true, gdH_false, gdS_true, gdS_false, wt_ff, wt_tt, wt_ft, wt_tf, wt_undef, obH_some', extractV_tuple, nilCheckV_ptr, againK_normal, againK_exit, againK_ret, blockK_normal, blockK_same, blockK_ret, seqK_normal, seqK_exit, seqK_ret, fin_done, if_true', if_false', Bool.not_true, Bool.not_false, idx0, idx1, idx2, idx3, idx4, chk_nil_l, chk_nil_r, done_nm, up_cons, up_nil, cond_true, cond_false, Nat.reduceBEq]
end Go.Am
namespace Go.Am
open Go.Proofs
set_option maxRecDepth 100000
set_option linter.all false
attribute [local congr] obind_congr obH_congr cnd_congr chk_congr retK_congr codeK_congr
theorem faLo (p o : Nat) : fieldAddrV Tryd.prog 65 (.pointer (some ⟨p, o, none⟩)) 0 = some (.pointer (some ⟨p, o, none⟩)) := by kernel_rfl
theorem ldLo (p o : Nat) (h : Heap) : loadV Tryd.prog 65 (.pointer (some ⟨p, o, none⟩)) h = (h.loadN p o 1).map fun cs => .agg cs.toArray := by kernel_rfl
theorem stLo (p o : Nat) (a : Option Addr) (n c : Nat) (h : Heap) : storeV Tryd.prog 65 (.pointer (some ⟨p, o, none⟩)) (.agg #[.slice a n c]) h = h.storeN p o [.slice a n c] := by kernel_rfl
theorem spec_Log {h : Heap} {p s : Nat} {n me : Int} {num : Nat} {es : List E3} {ns : List Nat} (l : LEn h p s n me num es ns) (hl : es.length < 2 ^ 39) :
    ∃ a c h', evC Tryd.prog 24 #[.pointer (some ⟨p, 0, none⟩)] h = some (.agg #[.slice a es.length c], h') ∧ HExt h h' ∧ SE h' (.slice a es.length c) es := by
  rw [call24]
  have c1 := Cells.new (nm h) 65 [.slice none 0 0]
  have k1 : In h.blks.length No (nm h) ((nm h).new (.cells [.slice none 0 0]) 65) := In.new (h := nm h) (Nat.le_refl h.blks.length) _ _
  have sm : Same h ((nm h).new (.cells [.slice none 0 0]) 65) := Same.new (nm h) _ _
  have e0 : (nm h).blks.length = h.blks.length := rfl
  have e1 : ((nm h).new (.cells [.slice none 0 0]) 65).blks.length = h.blks.length + 1 := by simp [Heap.new]
  rw [e0] at c1
  generalize hh : (nm h).new (.cells [.slice none 0 0]) 65 = h1 at c1 k1 sm e1
  obtain ⟨la, lc, ce, ae⟩ := (l.same sm).eng
  have m2 : h1.load1 p 2 = some (.slice la es.length lc) := ce.load 2
  obtain ⟨a, c, h2, q2,Ac, r2⟩ := spec_CloneE ae.se hl
  have d2 := c1.ext Ac
  have st := storeN_blk d2 (o := 0) (vs := [.slice a es.length c]) (by simp)
  simp only [List.take_zero, List.nil_append, List.append_nil, List.length_cons, List.length_nil, List.drop_succ_cons, List.drop_zero, Nat.zero_add] at st
  have g := d2.put [.slice a es.length c]
  have k2 := k1.trans (Ac.inn (by omega))
  have k3 := k2.trans (In.put (S := No) (Nat.le_trans k2.le k2.len) (p := h.blks.length) (.inl (Nat.le_refl _)) (.cells [.slice a es.length c]))
  have lg : (Heap.loadN (h2.put h.blks.length (.cells [.slice a es.length c])) h.blks.length 0 1).map (fun cs => Value.agg cs.toArray) = some (.agg #[.slice a es.length c]) := by rw [g.loadN (n := 1) rfl]; rfl
  refine ⟨a, c, _, ?_, done_ext' k3,Sl.done ((AE.se r2).keepPut (fun e => by have := Acc.ge r2 e; omega) _)⟩
  simp -implicitDefEqProofs (disch := omega) only [↓c24_0_eq, alL, e0, hh, nilCheckV_ptr, faLn2, faLo, ldEs, m2, q2, bdL, stL, st, ldL, lg, rvals, ↓ret24, ↓cnd_true, ↓cnd_false, ↓Option.bind_some, ↓obH_some', bin_add, bin_sub, bin_mul, bin_lss, bin_leq, bin_gtr, bin_geq, bin_eql, bin_neq, un_not, un_neg, Option.bind_some, Option.bind_none, Option.map_some, cnd_true, cnd_false, pickV_true, pickV_false, gd_true, gd_false, gdV_true, gdV_false, gdH_true, gdH_false, gdS_true, gdS_false, wt_ff, wt_tt, wt_ft, wt_tf, wt_undef, obH_some', extractV_tuple, nilCheckV_ptr, againK_normal, againK_exit, againK_ret, blockK_normal, blockK_same, blockK_ret, seqK_normal, seqK_exit, seqK_ret, fin_done, if_true', if_false', Bool.not_true, Bool.not_false, idx0, idx1, idx2, idx3, idx4, chk_nil_l, chk_nil_r, done_nm, up_cons, up_nil, cond_true, cond_false, Nat.reduceBEq]
end Go.Am
namespace Go.Am
open Go.Proofs
set_option maxRecDepth 100000
set_option linter.all false
attribute [local congr] obind_congr obH_congr cnd_congr chk_congr retK_congr codeK_congr
def KpB (h h' : Heap) : Prop := h.blks.length ≤ h'.blks.length ∧ ∀ p ty cs, Cells h p ty cs → ty ≠ 40 → Cells h' p ty cs
theorem KpB.acc {h h' : Heap} {n0 : Nat} {elem : TypeId} {es n : Nat} {v : Value} {cs : List Value} (k : KpB h h') (a : Acc n0 h elem es v n cs) (ht : elem ≠ 40) : Acc n0 h' elem es v n cs := a.keep fun b _ hb => by
  obtain ⟨all, h1⟩ := a.blk hb
  exact (k.2 b elem all h1 ht).trans h1.symm
theorem Same.kp {h h' : Heap} (s : Same h h') : KpB h h' := ⟨s.1, fun _ _ _ c _ => c.same s⟩
theorem KpB.trans {a b c : Heap} (h : KpB a b) (k : KpB b c) : KpB a c := ⟨Nat.le_trans h.1 k.1, fun p ty cs x ht => k.2 p ty cs (h.2 p ty cs x ht) ht⟩
theorem LEn.kp {h h' : Heap} {p s : Nat} {n me : Int} {num : Nat} {es : List E3} {ns : List Nat} (l : LEn h p s n me num es ns) (k : KpB h h') : LEn h' p s n me num es ns :=
  let ⟨la, lc, a, b⟩ := l.eng
  ⟨⟨la, lc, k.2 _ _ _ a (by decide), k.acc b (by decide)⟩, k.2 _ _ _ l.seen (by decide), l.len⟩
theorem HMod.lEn {S : Nat → Prop} {h h' : Heap} {p s : Nat} {n me : Int} {num : Nat} {es : List E3} {ns : List Nat} (l : LEn h p s n me num es ns) (m : HMod S h h') (hp : ¬ S p) (hs : ¬ S s) (ht : ∀ b all, h.blks[b]? = some ⟨.cells all, 68, true⟩ → ¬ S b) : LEn h' p s n me num es ns :=
  let ⟨la, lc, a, b⟩ := l.eng
  ⟨⟨la, lc, (m.old p a.lt hp).trans a, b.keep fun q hq hb => by obtain ⟨all, h1⟩ := b.blk hb; exact m.old q hq (ht q all h1)⟩, (m.old s l.seen.lt hs).trans l.seen, l.len⟩
def rowF (es : List E3) (t : Nat) (d : Nat) : List UInt8 := putE (purgeE (lessE es (outB t (ofN (d : Int)))))
theorem purgeL_sub' : ∀ l : List E3, (purgeL l).Sublist l
  | [] => .slnil
  | [e] => List.Sublist.refl _
  | e :: e' :: l => by
    rw [purgeL_two]
    split
    · exact (purgeL_sub' (e' :: l)).cons_cons e
    · exact (purgeL_sub' (e' :: l)).cons e
theorem purgeE_sub (l : List E3) : (purgeE l).Sublist l := by
  unfold purgeE
  split
  · exact purgeL_sub' l
  · exact List.Sublist.refl _
theorem wide_purge {l : List E3} (w : wide l) : wide (purgeE l) := fun e he => w e ((purgeE_sub l).subset he)
theorem logN {h : Heap} {p : Nat} {ty : TypeId} {a b c d e : Value} (g : Cells h p ty [a, b, c, d, e]) : (h.loadN p 2 1).map (fun cs => Value.agg cs.toArray) = some (.agg #[c]) := by
  rw [loadN_own g (by simp)]; rfl
theorem si_at {h : Heap} {v : Value} {ns : List Nat} (s : SI h v ns) {i : Nat} (hi : i < ns.length) :
    ∃ a, indexAddrV Tryd.prog 41 v (.int .i64 i) = some (.pointer (some a)) ∧ loadV Tryd.prog 3 (.pointer (some a)) h = some (.int .i64 (ns[i] : Nat)) := by
  obtain ⟨a, e1, e2, _⟩ := s.row.at1 etI.under etI.size (by kernel_rfl) hi .i64
  rw [List.getElem?_map, List.getElem?_eq_getElem hi] at e2
  exact ⟨a, e1, e2⟩
theorem send_loopL {h0 : Heap} {p s : Nat} {n me : Int} {num : Nat} {es : List E3} {ns : List Nat} {ds : List Nat} {dv : Value} {t : Nat} (hw : wide es) (hl : es.length < 2 ^ 30) (ht : t < 2 ^ 64) (hd : ds.length ≤ 64) {S : Nat → Prop} {Q : Option (Value × Heap) → Prop}
    (hk : ∀ (x' : Nat → Value) (h' : Heap) (ov' : Value),In h0.blks.length S (nm h0) h' → LEn h' p s n me num es ns → ABs h0.blks.length h' ov' (ds.map (rowF es t)) → x' 0 = .pointer (some ⟨p, 0, none⟩) → x' 1 = .int .u64 t → x' 5 = ov' → Q (cK c12_2 71 x' h' (retK Tryd.f12 Tryd.prog h0))) :
    ∀ (m i : Nat), ds.length - i = m → i ≤ ds.length → ∀ (x : Nat → Value) (h : Heap) (ov : Value),In h0.blks.length S (nm h0) h → LEn h p s n me num es ns → AI h0.blks.length h dv ds → ABs h0.blks.length h ov ((ds.take i).map (rowF es t)) →
    x 0 = .pointer (some ⟨p, 0, none⟩) → x 1 = .int .u64 t → x 5 = ov → x 30 = dv → x 31 = .int .i64 ds.length → x 32 = .int .i64 i →
    Q (lK c12_1 71 x h (blockK 0 (sK c12_2 (retK Tryd.f12 Tryd.prog h0)))) := by
  intro m
  induction m with
  | zero =>
    intro i e1 e2 x h ov hin l ad ab Aa Ab Af Bg Bh Bi
    obtain rfl : i = ds.length := by omega
    rw [List.take_length] at ab
    rw [lK_eq]
    have dl : decide (((ds.length : Nat) : Int) < ds.length) = false := decide_eq_false (by omega)
    simp -implicitDefEqProofs (disch := omega) only [↓c12_1_eq,Bh,Bi, dl, ↓cnd_true, ↓cnd_false, ↓Option.bind_some, ↓obH_some', bin_add, bin_sub, bin_mul, bin_lss, bin_leq, bin_gtr, bin_geq, bin_eql, bin_neq, un_not, un_neg, Option.bind_some, Option.bind_none, Option.map_some, cnd_true, cnd_false, pickV_true, pickV_false, gd_true, gd_false, gdV_true, gdV_false, gdH_true, gdH_false, gdS_true, gdS_false, wt_ff, wt_tt, wt_ft, wt_tf, wt_undef, obH_some', extractV_tuple, nilCheckV_ptr, againK_normal, againK_exit, againK_ret, blockK_normal, blockK_same, blockK_ret, seqK_normal, seqK_exit, seqK_ret, fin_done, if_true', if_false', Bool.not_true, Bool.not_false, idx0, idx1, idx2, idx3, idx4, chk_nil_l, chk_nil_r, done_nm, up_cons, up_nil, cond_true, cond_false, Nat.reduceBEq]
    exact hk _ h ov hin l ab Aa Ab Af
  | succ m ih =>
    intro i hm hi x h ov hin l ad ab Aa Ab Af Bg Bh Bi
    have hil : i < ds.length := by omega
    have dl : decide (((i : Nat) : Int) < ds.length) = true := decide_eq_true (by omega)
    obtain ⟨da, f1, f2⟩ := si_at (ad.sl etI.size) hil
    obtain ⟨la, lc, ce, ae⟩ := l.eng
    have lA := logN ce
    obtain ⟨a2, c2, h2, q2, y2, r2⟩ := spec_But ae.se hw (by omega) t ht (ds[i] : Int)
    have ll : (lessE es (outB t (ofN (ds[i] : Int)))).length = es.length := lessE_len _ _
    have q2' : evC Tryd.prog 38 #[.agg #[.slice la es.length lc], .int .u64 t, .int .i64 (ds[i] : Int)] h = some (.agg #[.slice a2 (lessE es (outB t (ofN (ds[i] : Int)))).length c2], h2) := by rw [ll]; exact q2
    have r2' : AE h.blks.length h2 (.slice a2 (lessE es (outB t (ofN (ds[i] : Int)))).length c2) (lessE es (outB t (ofN (ds[i] : Int)))) := by
      rw [show (Value.slice a2 (lessE es (outB t (ofN (ds[i] : Int)))).length c2) = .slice a2 es.length c2 by rw [ll]]; exact r2
    obtain ⟨a3, c3, h3, q3, y3, r3⟩ := spec_Purge r2'.se (wide_lessE hw) (by omega)
    have pl : (purgeE (lessE es (outB t (ofN (ds[i] : Int))))).length ≤ es.length := by
      have := (purgeE_sub (lessE es (outB t (ofN (ds[i] : Int))))).length_le
      omega
    obtain ⟨a4, c4, h4, q4, y4, r4⟩ := spec_Put18 (AE.se r3) (wide_purge (wide_lessE hw)) (by omega)
    have z4 := (y2.same.trans y3.same).trans y4.same
    have hlen4 := z4.1
    have ab4 := ab.same z4
    have hn : h0.blks.length ≤ h.blks.length := Nat.le_trans hin.le hin.len
    have r4' : AB h0.blks.length h4 (.slice a4 (rowF es t ds[i]).length c4) (rowF es t ds[i]) := Acc.up r4 (by have := y2.len; have := y3.len; omega)
    obtain ⟨vs, abv⟩ := ab4
    have bs := mkBs1 a4 (rowF es t ds[i]).length c4 h4
    obtain ⟨a5, c5, h5, q5, ab5, k5, o5⟩ := abv.app (by omega) r4' (by rw [List.length_map, List.length_take]; omega)
    have kb : KpB h4 h5 := ⟨k5.len, o5⟩
    have hin5 := (((hin.trans (y2.inn hn)).trans (y3.inn (by have := y2.len; omega))).trans (y4.inn (by have := y2.len; have := y3.len; omega))).trans (Keeps.inn (S := S) k5)
    have hmap : (ds.take i).map (rowF es t) ++ [rowF es t ds[i]] = (ds.take (i + 1)).map (rowF es t) := by
      rw [List.take_succ, List.getElem?_eq_getElem hil, List.map_append]; rfl
    rw [hmap] at q5 ab5
    have wi : IntKind.i64.wrap ((i : Int) + 1) = ((i + 1 : Nat) : Int) := by rw [wrap_i64] <;> omega
    rw [lK_eq]
    have q4' : evC Tryd.prog 32 #[.agg #[.slice a3 (purgeE (lessE es (outB t (ofN (ds[i] : Int))))).length c3]] h3 = some (.slice a4 (rowF es t ds[i]).length c4, h4) := q4
    simp -implicitDefEqProofs (disch := omega) only [↓c12_1_eq,Aa,Ab,Af,Bg,Bh,Bi, dl, f1, f2, nilCheckV_ptr, faLn2, ldLo, lA, q2', q3, q4', bs, q5, wi, ↓cnd_true, ↓cnd_false, ↓Option.bind_some, ↓obH_some', bin_add, bin_sub, bin_mul, bin_lss, bin_leq, bin_gtr, bin_geq, bin_eql, bin_neq, un_not, un_neg, Option.bind_some, Option.bind_none, Option.map_some, cnd_true, cnd_false, pickV_true, pickV_false, gd_true, gd_false, gdV_true, gdV_false, gdH_true, gdH_false, gdS_true, gdS_false, wt_ff, wt_tt, wt_ft, wt_tf, wt_undef, obH_some', extractV_tuple, nilCheckV_ptr, againK_normal, againK_exit, againK_ret, blockK_normal, blockK_same, blockK_ret, seqK_normal, seqK_exit, seqK_ret, fin_done, if_true', if_false', Bool.not_true, Bool.not_false, idx0, idx1, idx2, idx3, idx4, chk_nil_l, chk_nil_r, done_nm, up_cons, up_nil, cond_true, cond_false, Nat.reduceBEq]
    refine ih (i + 1) (by omega) (by omega) _ h5 _ hin5 ((l.same z4).kp kb) (kb.acc (ad.same z4) (by decide)) ab5 ?_ ?_ ?_ ?_ ?_ ?_
    · exact Aa
    · exact Ab
    · rfl
    · exact Bg
    · exact Bh
    · rfl
def sendT (n : Nat) (me : Int) (to : Nat) : Nat := to &&& outB (allN n) (ofN me)
def sendLog (es : List E3) (me : Int) (num t : Nat) : List E3 := purgeE (addE (lessE es t) ⟨me, num + 1, t⟩)
theorem allN_lt (n : Nat) (hn : n < 64) : allN n < 2 ^ 64 := by
  unfold allN
  have : 2 ^ n < 2 ^ 64 := Nat.pow_lt_pow_right (by omega) hn
  omega
theorem mem_addE {es : List E3} {x e : E3} (h : e ∈ addE es x) : e ∈ es ∨ e = x := by
  unfold addE at h
  split at h
  · split at h
    · exact (List.mem_or_eq_of_mem_set h)
    · unfold insE at h
      rcases List.mem_append.1 h with h | h
      · exact .inl (List.mem_of_mem_take h)
      · rcases List.mem_cons.1 h with h | h
        · exact .inr h
        · exact .inl (List.mem_of_mem_drop h)
  · exact .inl h
theorem addE_len (es : List E3) (x : E3) : (addE es x).length ≤ es.length + 1 := by
  unfold addE
  split
  · split
    · rw [List.length_set]; omega
    · unfold insE
      rw [List.length_append, List.length_cons, List.length_take, List.length_drop]; omega
  · omega
theorem spec_Send {h : Heap} {p s : Nat} {n : Nat} {me : Int} {num : Nat} {es : List E3} {ns : List Nat} (l : LEn h p s n me num es ns) (hn : n ≤ 16) (hw : wide es) (hl : es.length < 2 ^ 29) (hnum : num + 1 < 2 ^ 64) (to : Nat) (hto : to < 2 ^ 64) (hps : p ≠ s)
    (hins : InsOk (lessE es (sendT n me to)) ⟨me, num + 1, sendT n me to⟩) :
    ∃ v h', evC Tryd.prog 12 #[.pointer (some ⟨p, 0, none⟩), .int .u64 to] h = some (v, h') ∧ HMod (Just p) h h' ∧ LEn h' p s n me (num + 1) (sendLog es me num (sendT n me to)) ns ∧ ABs h.blks.length h' v ((listW (sendT n me to)).map (rowF es (sendT n me to))) := by
  rw [call12]
  have l0 := l.same (sameNm h)
  obtain ⟨la, lc, ce, ae⟩ := l0.eng
  have hph : p < h.blks.length := ce.lt
  have m0 : (nm h).load1 p 0 = some (.int .i64 n) := ce.load 0
  have m1 : (nm h).load1 p 1 = some (.int .i64 me) := ce.load 1
  have w1 := fun h => spec_All n (by omega) h
  have c9 := Cells.new (nm h) 3 [.int .i64 me]
  have q9 := spec_Of1 (c := 1) c9
  have e9 := ce.keepNew (.cells [.int .i64 me]) 3
  have k9 : In h.blks.length (Just p) (nm h) ((nm h).new (.cells [.int .i64 me]) 3) := In.new (h := nm h) (Nat.le_refl h.blks.length) _ _
  have l9 := l0.same (Same.new (nm h) (.cells [.int .i64 me]) 3)
  have b9 := mkI1 me (nm h)
  generalize hh9 : (nm h).new (.cells [.int .i64 me]) 3 = h9 at c9 q9 e9 k9 l9 b9
  have m3 : h9.load1 p 3 = some (.int .u64 num) := e9.load 3
  have st := storeN_blk e9 (o := 3) (vs := [.int .u64 ((num + 1 : Nat) : Int)]) (by simp)
  simp only [List.take_succ_cons, List.take_zero, List.nil_append, List.append_nil, List.length_cons, List.length_nil, List.drop_succ_cons, List.drop_zero, Nat.zero_add, Nat.reduceAdd, List.drop_nil, List.cons_append, List.singleton_append] at st
  have k10 := k9.trans (In.put (S := Just p) (Nat.le_trans k9.le k9.len) (p := p) (.inr rfl) (.cells [.int .i64 n, .int .i64 me, .slice la es.length lc, .int .u64 ((num + 1 : Nat) : Int), .slice (some ⟨s, 0, none⟩) ns.length ns.length]))
  have d10 := e9.put [.int .i64 n, .int .i64 me, .slice la es.length lc, .int .u64 ((num + 1 : Nat) : Int), .slice (some ⟨s, 0, none⟩) ns.length ns.length]
  have ae9 : AE 0 h9 (.slice la es.length lc) es := by rw [← hh9]; exact ae.keep fun b hb _ => Heap.new_old hb
  have hb : blockOf (.slice la es.length lc) ≠ some p := fun e => by
    obtain ⟨all, h1⟩ := Acc.blk ae9 e
    unfold Cells at e9
    rw [e9] at h1
    simp only [Option.some.injEq, Blk.mk.injEq] at h1
    exact absurd h1.2.1 (by decide)
  have l10 : LEn (h9.put p (.cells [.int .i64 n, .int .i64 me, .slice la es.length lc, .int .u64 ((num + 1 : Nat) : Int), .slice (some ⟨s, 0, none⟩) ns.length ns.length])) p s n me (num + 1) es ns :=
    ⟨⟨la, lc, d10, ae9.keepPut hb _⟩, l9.seen.keepPut (by omega) _, l.len⟩
  generalize hh10 : h9.put p (.cells [.int .i64 n, .int .i64 me, .slice la es.length lc, .int .u64 ((num + 1 : Nat) : Int), .slice (some ⟨s, 0, none⟩) ns.length ns.length]) = h10 at st k10 l10
  have ht : sendT n me to < 2 ^ 64 := Nat.lt_of_le_of_lt Nat.and_le_left hto
  obtain ⟨a11, c11, h11, q11,Al, r11⟩ := spec_List (sendT n me to) ht h10
  have n10 : h.blks.length ≤ h10.blks.length := Nat.le_trans k10.le k10.len
  have k11 := k10.trans (Al.inn (S := Just p) n10)
  have an := fun t xo yo => anS t xo yo (allN n) (ofN me) (allN_lt n (by omega)) (ofN_lt me)
  have aa := fun t xo yo => anU t xo yo to (outB (allN n) (ofN me)) hto (outB_lt (allN_lt n (by omega)))
  have wn : IntKind.u64.wrap ((num : Int) + 1) = ((num + 1 : Nat) : Int) := by rw [wrap_u64] <;> omega
  have lnI : ∀ h, lenV Tryd.prog 41 (.slice a11 (listW (sendT n me to)).length c11) h = some (.int .i64 (listW (sendT n me to)).length) := fun h => by kernel_rfl
  have e0 : (nm h).blks.length = h.blks.length := rfl
  rw [e0] at b9 q9
  have aa' : ∀ t xo yo, binV Tryd.prog .and t xo yo (.int .u64 to) (.int .u64 ((outB (allN n) (ofN me) : Nat) : Int)) = some (.int .u64 ((sendT n me to : Nat) : Int)) := aa
  simp -implicitDefEqProofs (disch := omega) only [↓c12_0_eq, nilCheckV_ptr, faLn0, faLn1, faLn3, ldI, m0, w1, am_nm, nm_mods, List.nil_append, List.append_nil, m1, b9, q9, an, aa', chk_nil_r, ldU, m3, wn, vst64, st, q11, lnI, ↓cnd_true, ↓cnd_false, ↓Option.bind_some, ↓obH_some', bin_add, bin_sub, bin_mul, bin_lss, bin_leq, bin_gtr, bin_geq, bin_eql, bin_neq, un_not, un_neg, Option.bind_some, Option.bind_none, Option.map_some, cnd_true, cnd_false, pickV_true, pickV_false, gd_true, gd_false, gdV_true, gdV_false, gdH_true, gdH_false, gdS_true, gdS_false, wt_ff, wt_tt, wt_ft, wt_tf, wt_undef, obH_some', extractV_tuple, nilCheckV_ptr, againK_normal, againK_exit, againK_ret, blockK_normal, blockK_same, blockK_ret, seqK_normal, seqK_exit, seqK_ret, fin_done, if_true', if_false', Bool.not_true, Bool.not_false, idx0, idx1, idx2, idx3, idx4, chk_nil_l, chk_nil_r, done_nm, up_cons, up_nil, cond_true, cond_false, Nat.reduceBEq]
  refine send_loopL (h0 := h) (S := Just p) (Q := fun r => ∃ v h', r = some (v, h') ∧ HMod (Just p) h h' ∧ LEn h' p s n me (num + 1) (sendLog es me num (sendT n me to)) ns ∧ ABs h.blks.length h' v ((listW (sendT n me to)).map (rowF es (sendT n me to)))) (t := sendT n me to) hw (by omega) ht (listW_len _ ht) ?_ (listW (sendT n me to)).length 0 (by omega) (by omega) _ h11 _ k11 (l10.same Al.same) (Acc.up r11 n10) ⟨[], .nil, .nil⟩ ?_ ?_ ?_ ?_ ?_ ?_
  · intro x h12 ov k12 l12 ab12 y0 y1 y5
    have h12n : h.blks.length ≤ h12.blks.length := Nat.le_trans k12.le k12.len
    obtain ⟨la', lc', ce', ae'⟩ := l12.eng
    have lA := logN ce'
    obtain ⟨a13, c13, h13, q13,Ao, r13⟩ := spec_Less (h := nm h12) (to := sendT n me to) (Sl.nm ae'.se) hw (by omega) ht
    obtain ⟨Ao', m13⟩ := Ao.amx
    have k13 := k12.trans (Ao'.inn (S := Just p) h12n)
    have n13 := Ao'.len
    have ce13 := ce'.ext Ao'
    have m1' : (am h13 h12).load1 p 1 = some (.int .i64 me) := ce13.load 1
    have m3' : (am h13 h12).load1 p 3 = some (.int .u64 ((num + 1 : Nat) : Int)) := ce13.load 3
    have s13 : SE (am h13 h12) (.slice a13 es.length c13) (lessE es (sendT n me to)) := Sl.keep (h' := am h13 h12) (AE.se r13) fun _ _ _ => rfl
    have wl := wide_lessE (to := sendT n me to) hw
    have ll : (lessE es (sendT n me to)).length = es.length := lessE_len _ _
    obtain ⟨a14, c14, h14, q14,Ap, r14⟩ := spec_Add s13 wl (by omega) ⟨me, num + 1, sendT n me to⟩ ht hins
    have wa : wide (addE (lessE es (sendT n me to)) ⟨me, num + 1, sendT n me to⟩) := fun e he => by
      rcases mem_addE he with he | rfl
      · exact wl e he
      · exact ⟨hnum, ht⟩
    have al := addE_len (lessE es (sendT n me to)) ⟨me, num + 1, sendT n me to⟩
    obtain ⟨a15, c15, h15, q15,Aq, r15⟩ := spec_Purge r14.se wa (by omega)
    have n14 := Ap.len
    have n15 := Aq.len
    have k15 := (k13.trans (Ap.inn (S := Just p) (by omega))).trans (Aq.inn (S := Just p) (by omega))
    have ce15 := (ce13.ext Ap).ext Aq
    have st16 := storeN_blk ce15 (o := 2) (vs := [.slice a15 (sendLog es me num (sendT n me to)).length c15]) (by simp)
    simp only [List.take_succ_cons, List.take_zero, List.nil_append, List.append_nil, List.length_cons, List.length_nil, List.drop_succ_cons, List.drop_zero, Nat.zero_add, Nat.reduceAdd, List.drop_nil, List.cons_append, List.singleton_append] at st16
    have d16 := ce15.put [.int .i64 n, .int .i64 me, .slice a15 (sendLog es me num (sendT n me to)).length c15, .int .u64 ((num + 1 : Nat) : Int), .slice (some ⟨s, 0, none⟩) ns.length ns.length]
    have k16 := k15.trans (In.put (S := Just p) (Nat.le_trans k15.le k15.len) (p := p) (.inr rfl) (.cells [.int .i64 n, .int .i64 me, .slice a15 (sendLog es me num (sendT n me to)).length c15, .int .u64 ((num + 1 : Nat) : Int), .slice (some ⟨s, 0, none⟩) ns.length ns.length]))
    have sm := (Ao'.same.trans Ap.same).trans Aq.same
    have rl : AE 0 (h15.put p (.cells [.int .i64 n, .int .i64 me, .slice a15 (sendLog es me num (sendT n me to)).length c15, .int .u64 ((num + 1 : Nat) : Int), .slice (some ⟨s, 0, none⟩) ns.length ns.length])) (.slice a15 (sendLog es me num (sendT n me to)).length c15) (sendLog es me num (sendT n me to)) :=
      Acc.keepPut (Acc.up r15 (Nat.zero_le _)) (fun e => by have := Acc.ge r15 e; omega) _
    have q14' : evC Tryd.prog 39 #[.agg #[.slice a13 es.length c13], .agg #[.int .i64 me, .int .u64 ((num + 1 : Nat) : Int), .int .u64 ((sendT n me to : Nat) : Int)]] (am h13 h12) = some (.agg #[.slice a14 (addE (lessE es (sendT n me to)) ⟨me, num + 1, sendT n me to⟩).length c14], h14) := q14
    have q15' : evC Tryd.prog 37 #[.agg #[.slice a14 (addE (lessE es (sendT n me to)) ⟨me, num + 1, sendT n me to⟩).length c14]] h14 = some (.agg #[.slice a15 (sendLog es me num (sendT n me to)).length c15], h15) := q15
    refine ⟨ov, _, ?_, done_mod k16, ⟨⟨a15, c15, d16.done, rl.done⟩, ((l12.seen.same sm).keepPut (by omega) _).done, l.len⟩, ((ab12.same sm).put ce15 (by decide) (by decide) _).same ⟨Nat.le_refl _, fun _ _ => rfl⟩⟩
    simp -implicitDefEqProofs (disch := omega) only [↓c12_2_eq, y0, y1, y5, nilCheckV_ptr, faLn1, faLn2, faLn3, ldLo, lA, q13, m13, ldI, ldU, m1', m3', bdE3, q14', q15', stLo, st16, List.nil_append, List.append_nil, chk_nil_r, ↓ret12, ↓cnd_true, ↓cnd_false, ↓Option.bind_some, ↓obH_some', bin_add, bin_sub, bin_mul, bin_lss, bin_leq, bin_gtr, bin_geq, bin_eql, bin_neq, un_not, un_neg, Option.bind_some, Option.bind_none, Option.map_some, cnd_true, cnd_false, pickV_true, pickV_false, gd_true, gd_false, gdV_true, gdV_false, gdH_true, gdH_false, gdS_true, gdS_false, wt_ff, wt_tt, wt_ft, wt_tf, wt_undef, obH_some', extractV_tuple, nilCheckV_ptr, againK_normal, againK_exit, againK_ret, blockK_normal, blockK_same, blockK_ret, seqK_normal, seqK_exit, seqK_ret, fin_done, if_true', if_false', Bool.not_true, Bool.not_false, idx0, idx1, idx2, idx3, idx4, chk_nil_l, chk_nil_r, done_nm, up_cons, up_nil, cond_true, cond_false, Nat.reduceBEq]
  all_goals rfl
end Go.Am
namespace Go.Am
open Go.Proofs
set_option maxRecDepth 100000
set_option linter.all false
attribute [local congr] obind_congr obH_congr cnd_congr chk_congr retK_congr codeK_congr
theorem iaV (s n c j : Nat) (hj : j < n) : indexAddrV Tryd.prog 73 (.slice (some ⟨s, 0, none⟩) n c) (.int .i64 j) = some (.pointer (some ⟨s, j, none⟩)) := by
  unfold indexAddrV
  simp only [etV.under, natOf_int, etV.size, if_pos hj, Nat.zero_add, Nat.mul_one]
theorem map_set (ns : List Nat) (j : Nat) (hj : j < ns.length) (k : Nat) : (ns.map u64V).take j ++ [.int .u64 (k : Int)] ++ (ns.map u64V).drop (j + 1) = (ns.set j k).map u64V := by
  apply List.ext_getElem?
  intro i
  simp only [List.getElem?_append, List.length_append, List.length_take, List.length_map, List.length_singleton, List.getElem?_take, List.getElem?_map, List.getElem?_drop, List.getElem?_set]
  rw [Nat.min_eq_left (by omega)]
  by_cases h1 : i < j
  · rw [if_pos (by omega), if_pos h1, if_pos h1, if_neg (by omega)]
  · by_cases h2 : i = j
    · subst h2
      rw [if_pos (by omega), if_neg (by omega), if_pos rfl, if_pos hj, Nat.sub_self]
      rfl
    · rw [if_neg (by omega), if_neg (by omega), show j + 1 + (i - (j + 1)) = i by omega]
theorem joinE_len (es fs : List E3) : (joinE es fs).length ≤ es.length + fs.length + es.length := by
  unfold joinE
  split
  · rw [srtE_len, List.length_append, List.length_append]
    have a := List.length_filter_le (fun x => !bsF fs x && decide ((getM (lastM fs) x.f).getD 0 < x.n)) es
    have b := List.length_filter_le (fun x => !bsF es x && decide ((getM (lastM es) x.f).getD 0 < x.n)) fs
    have c := List.length_filterMap_le (bothF fs) es
    unfold newsE bothE
    omega
  · omega
def takeLog (es : List E3) (me fr : Int) (k to : Nat) (g : List E3) : List E3 := purgeE (lessE (joinE es (lessE (addE g ⟨fr, k, to⟩) (ofN me))) (ofN me))
theorem newLogT {h : Heap} {a : Option Addr} {c n : Nat} {es : List E3} (s : SE h (.slice a n c) es) : ∃ hB, (h.new (.cells [.slice none 0 0]) 65).storeN h.blks.length 0 [.slice a n c] = some hB ∧ Same h hB ∧ (∀ {h' : Heap}, Same hB h' → (h'.loadN h.blks.length 0 1).map (fun cs => Value.agg cs.toArray) = some (.agg #[.slice a n c])) ∧ SE hB (.slice a n c) es ∧ (∀ S n0, n0 ≤ h.blks.length → In n0 S h hB) ∧ hB.load1 h.blks.length 0 = some (.slice a n c) := by
  have d := Cells.new h 65 [.slice none 0 0]
  have st := storeN_blk d (o := 0) (vs := [.slice a n c]) (by simp)
  simp only [List.take_zero, List.nil_append, List.append_nil, List.length_cons, List.length_nil, List.drop_succ_cons, List.drop_zero, Nat.zero_add] at st
  have g := d.put [.slice a n c]
  exact ⟨_, st, same_np _ _ _ _, fun hs => by rw [(g.same hs).loadN (n := 1) rfl]; rfl, (Sl.keepNew s _ _).keepPut (fun e => by have := Sl.lo s _ e; omega) _, fun S n0 hn => (In.new hn _ _).trans (In.put (by simp [Heap.new]; omega) (.inl hn) _), g.load 0⟩
theorem spec_Take {h : Heap} {p s : Nat} {n : Nat} {me : Int} {num : Nat} {es : List E3} {ns : List Nat} (l : LEn h p s n me num es ns) (hn : n ≤ 16) (hnl : ns.length = n) (hw : wide es) (hl : es.length < 2 ^ 28) (hps : p ≠ s) (fr : Int) (k to : Nat) (hk : k < 2 ^ 64) (hto : to < 2 ^ 64) {v : Value} {bs : List UInt8} (sb : SB h v bs) (hbs : bs.length < 2 ^ 26)
    (hbp : blockOf v ≠ some p) (hbs' : blockOf v ≠ some s) {g : List E3} (hg : getP bs = some g) (hc : canE n me ns fr k bs = true) (hins : InsOk g ⟨fr, k, to⟩) :
    ∃ h', evC Tryd.prog 23 #[.pointer (some ⟨p, 0, none⟩), .int .i64 fr, .int .u64 k, .int .u64 to, v] h = some (.bool true, h') ∧ HMod (fun b => b = p ∨ b = s) h h' ∧ LEn h' p s n me num (takeLog es me fr k to g) (ns.set fr.toNat k) := by
  rw [call23]
  have hfr : 0 ≤ fr ∧ fr < n := by
    unfold canE at hc
    rw [hg] at hc
    simp only at hc
    split at hc
    · cases hc
    · omega
  obtain ⟨j, rfl⟩ : ∃ j : Nat, fr = j := ⟨fr.toNat, by omega⟩
  rw [Int.toNat_natCast]
  have l0 := l.same (sameNm h)
  obtain ⟨h1, q1,Ab⟩ := spec_Can l0 (j : Int) k sb.nm (by omega)
  rw [hc] at q1
  have l1 := l0.same Ab.same
  have sb1 := sb.nm.ext Ab
  have kk1 : In h.blks.length (fun b => b = p ∨ b = s) (nm h) h1 := Ab.inn (Nat.le_refl h.blks.length)
  obtain ⟨la, lc, ce, ae⟩ := l1.eng
  have m4 : h1.load1 p 4 = some (.slice (some ⟨s, 0, none⟩) ns.length ns.length) := ce.load 4
  have st2 := storeN_blk l1.seen (o := j) (vs := [.int .u64 (k : Int)]) (by simp; omega)
  rw [List.length_singleton, map_set ns j (by omega) k] at st2
  have d2 := l1.seen.put ((ns.set j k).map u64V)
  have ce2 := ce.keepPut (q := s) hps.symm (.cells ((ns.set j k).map u64V))
  have hbl : blockOf (.slice la es.length lc) ≠ some s := fun e => by
    obtain ⟨all, h1'⟩ := Acc.blk ae e
    have := l1.seen
    unfold Cells at this
    rw [this] at h1'
    simp only [Option.some.injEq, Blk.mk.injEq] at h1'
    exact absurd h1'.2.1 (by decide)
  have ae2 := ae.keepPut hbl (.cells ((ns.set j k).map u64V))
  have sb2 := Sl.keepPut sb1 hbs' (.cells ((ns.set j k).map u64V))
  have kk2 := kk1.trans (In.put (S := fun b => b = p ∨ b = s) (Nat.le_trans kk1.le kk1.len) (p := s) (.inr (.inr rfl)) (.cells ((ns.set j k).map u64V)))
  generalize hh2 : h1.put s (.cells ((ns.set j k).map u64V)) = h2 at st2 d2 ce2 ae2 sb2 kk2
  have n2 : h.blks.length ≤ h2.blks.length := Nat.le_trans kk2.le kk2.len
  have m1 : h2.load1 p 1 = some (.int .i64 me) := ce2.load 1
  have q3 := spec_Of1 (c := 1) (Cells.new h2 3 [.int .i64 me])
  have b3 := mkI1 me h2
  have y3 := Same.new h2 (.cells [.int .i64 me]) 3
  have kk3 := kk2.trans (In.new (S := fun b => b = p ∨ b = s) n2 (.cells [.int .i64 me]) 3)
  generalize hh3 : h2.new (.cells [.int .i64 me]) 3 = h3 at q3 b3 y3 kk3
  obtain ⟨a4, c4, h4, q4,Ae, r4⟩ := spec_Get18 (Sl.same sb2 y3) (by omega)
  have gl := getP_len bs
  rw [hg] at q4 r4 gl
  simp only [Option.getD_some, Option.isSome_some] at q4 r4 gl
  obtain ⟨h5, t5, y5, g5, s5, i5, _⟩ := newLogT (AE.se r4)
  have n3 := y3.1
  have n4 := Ae.len
  have n5 := y5.1
  have kk5 := (kk3.trans (Ae.inn (S := fun b => b = p ∨ b = s) (by omega))).trans (i5 (fun b => b = p ∨ b = s) h.blks.length (by omega))
  obtain ⟨a6, c6, h6, q6,Ag, r6⟩ := spec_Add s5 (getP_wide hg) (by omega) ⟨(j : Int), k, to⟩ hto hins
  have q6' : evC Tryd.prog 39 #[.agg #[.slice a4 g.length c4], .agg #[.int .i64 (j : Int), .int .u64 (k : Int), .int .u64 (to : Int)]] h5 = some (.agg #[.slice a6 (addE g ⟨(j : Int), k, to⟩).length c6], h6) := q6
  have al := addE_len g ⟨(j : Int), k, to⟩
  have wa : wide (addE g ⟨(j : Int), k, to⟩) := fun e he => by
    rcases mem_addE he with he | rfl
    · exact getP_wide hg e he
    · exact ⟨hk, hto⟩
  obtain ⟨a7, c7, h7, q7,Ah, r7⟩ := spec_Less (to := ofN me) r6.se wa (by omega) (ofN_lt me)
  have ll7 : (lessE (addE g ⟨(j : Int), k, to⟩) (ofN me)).length = (addE g ⟨(j : Int), k, to⟩).length := lessE_len _ _
  obtain ⟨h8, t8, y8, g8, s8, i8, _⟩ := newLogT (AE.se r7)
  have n6 := Ag.len
  have n7 := Ah.len
  have n8 := y8.1
  have kk8 := ((kk5.trans (Ag.inn (S := fun b => b = p ∨ b = s) (by omega))).trans (Ah.inn (S := fun b => b = p ∨ b = s) (by omega))).trans (i8 (fun b => b = p ∨ b = s) h.blks.length (by omega))
  have sm8 : Same h2 h8 := ((((y3.trans Ae.same).trans y5).trans Ag.same).trans Ah.same).trans y8
  have ce8 := ce2.same sm8
  have lA := logN ce8
  have ae8 : AE 0 h8 (.slice la es.length lc) es := ae2.same sm8
  have wl7 := wide_lessE (to := ofN me) wa
  obtain ⟨a9, c9, h9, q9,Aj, r9⟩ := spec_Join ae8.se s8 hw wl7 (by omega) (by omega)
  have jl := joinE_len es (lessE (addE g ⟨(j : Int), k, to⟩) (ofN me))
  obtain ⟨a10, c10, h10, q10,Ak, r10⟩ := spec_Less (to := ofN me) r9.se (wide_join hw wl7) (by omega) (ofN_lt me)
  have ll10 : (lessE (joinE es (lessE (addE g ⟨(j : Int), k, to⟩) (ofN me))) (ofN me)).length = (joinE es (lessE (addE g ⟨(j : Int), k, to⟩) (ofN me))).length := lessE_len _ _
  obtain ⟨a11, c11, h11, q11,Al, r11⟩ := spec_Purge r10.se (wide_lessE (wide_join hw wl7)) (by omega)
  have q11' : evC Tryd.prog 37 #[.agg #[.slice a10 (joinE es (lessE (addE g ⟨(j : Int), k, to⟩) (ofN me))).length c10]] h10 = some (.agg #[.slice a11 (takeLog es me (j : Int) k to g).length c11], h11) := q11
  have n9 := Aj.len
  have n10 := Ak.len
  have n11 := Al.len
  have kk11 := ((kk8.trans (Aj.inn (S := fun b => b = p ∨ b = s) (by omega))).trans (Ak.inn (S := fun b => b = p ∨ b = s) (by omega))).trans (Al.inn (S := fun b => b = p ∨ b = s) (by omega))
  have sm11 := ((sm8.trans Aj.same).trans Ak.same).trans Al.same
  have ce11 := ce2.same sm11
  have hpl : p < h2.blks.length := ce2.lt
  have st12 := storeN_blk ce11 (o := 2) (vs := [.slice a11 (takeLog es me (j : Int) k to g).length c11]) (by simp)
  simp only [List.take_succ_cons, List.take_zero, List.nil_append, List.append_nil, List.length_cons, List.length_nil, List.drop_succ_cons, List.drop_zero, Nat.zero_add, Nat.reduceAdd, List.drop_nil, List.cons_append, List.singleton_append] at st12
  have d12 := ce11.put [.int .i64 n, .int .i64 me, .slice a11 (takeLog es me (j : Int) k to g).length c11, .int .u64 (num : Int), .slice (some ⟨s, 0, none⟩) ns.length ns.length]
  have kk12 := kk11.trans (In.put (S := fun b => b = p ∨ b = s) (Nat.le_trans kk11.le kk11.len) (p := p) (.inr (.inl rfl)) (.cells [.int .i64 n, .int .i64 me, .slice a11 (takeLog es me (j : Int) k to g).length c11, .int .u64 (num : Int), .slice (some ⟨s, 0, none⟩) ns.length ns.length]))
  have rl : AE 0 (h11.put p (.cells [.int .i64 n, .int .i64 me, .slice a11 (takeLog es me (j : Int) k to g).length c11, .int .u64 (num : Int), .slice (some ⟨s, 0, none⟩) ns.length ns.length])) (.slice a11 (takeLog es me (j : Int) k to g).length c11) (takeLog es me (j : Int) k to g) :=
    Acc.keepPut (Acc.up r11 (Nat.zero_le _)) (fun e => by have := Acc.ge r11 e; omega) _
  have seenL : (ns.set j k).length = ns.length := List.length_set ..
  refine ⟨_, ?_, done_mod kk12, ⟨⟨a11, c11, ?_, rl.done⟩, ((d2.same sm11).keepPut (by omega) _).done, by rw [seenL]; exact l.len⟩⟩
  · simp -implicitDefEqProofs (disch := omega) only [↓c23_0_eq, q1, nilCheckV_ptr, faLn1, faLn2, faLn4, ldVec, m4, iaV s ns.length ns.length j (by omega), vst64, st2, ldI, m1, b3, q3, q4, extractV_tuple, alL, stL, t5, ldL, g5 (Same.refl _), bdE3, q6', q7, t8, ldLo, lA, g8 (Same.refl _), q9, q10, q11', stLo, st12, ↓ret23, ↓cnd_true, ↓cnd_false, ↓Option.bind_some, ↓obH_some', bin_add, bin_sub, bin_mul, bin_lss, bin_leq, bin_gtr, bin_geq, bin_eql, bin_neq, un_not, un_neg, Option.bind_some, Option.bind_none, Option.map_some, cnd_true, cnd_false, pickV_true, pickV_false, gd_true, gd_false, gdV_true, gdV_false, gdH_true, gdH_false, gdS_true, gdS_false, wt_ff, wt_tt, wt_ft, wt_tf, wt_undef, obH_some', extractV_tuple, nilCheckV_ptr, againK_normal, againK_exit, againK_ret, blockK_normal, blockK_same, blockK_ret, seqK_normal, seqK_exit, seqK_ret, fin_done, if_true', if_false', Bool.not_true, Bool.not_false, idx0, idx1, idx2, idx3, idx4, chk_nil_l, chk_nil_r, done_nm, up_cons, up_nil, cond_true, cond_false, Nat.reduceBEq]
  · rw [seenL]; exact d12.done
end Go.Am
namespace Go.Am
open Go.Proofs
set_option maxRecDepth 100000
set_option linter.all false
attribute [local congr] obind_congr obH_congr cnd_congr chk_congr retK_congr codeK_congr
theorem pnn (p : Nat) (xo yo : Operand) : binV Tryd.prog .eql 33 xo yo (.pointer (some ⟨p, 0, none⟩)) (.pointer none) = some (.bool false) := by kernel_rfl
theorem lit_ents (el : TypeId) (hs : sizeT Tryd.prog el = some 3) (es : List E3) (hl : es.length < 2 ^ 38) (h : Heap) : SE (h.new (.cells (entL es)) el) (.slice (some ⟨h.blks.length, 0, none⟩) es.length es.length) es := by
  refine .mk ?_ (.inr ⟨Nat.le_refl _, ?_⟩)
  · simp only [Heap.loadN, Heap.cells?, blk_new_self]
    simp [entL_len]
    rw [List.take_of_length_le (by rw [entL_len]; omega)]
  · unfold UNK; omega
theorem cmp_litN {h : Heap} {v : Value} {es : List E3} (s : SE h v es) (hl : es.length < 2 ^ 38) : ∃ a c h1, evC Tryd.prog 30 #[v] h = some (.slice a es.length c, h1) ∧ HExt h h1 ∧
    evC Tryd.prog 29 #[.slice a es.length c, .slice (some ⟨h1.blks.length, 0, none⟩) es.length es.length] (h1.new (.cells (entL es)) 79) = some (.bool true, h1.new (.cells (entL es)) 79) := by
  obtain ⟨a, c, h1, e1,Ab, r1⟩ := spec_log1 s hl
  refine ⟨a, c, h1, e1,Ab, ?_⟩
  have s1 : SE (h1.new (.cells (entL es)) 79) (.slice a es.length c) es := Sl.keepNew (AR.se r1) _ _
  rw [spec_logs s1 (lit_ents 79 etR.size es hl _) hl hl, decide_eq_true rfl]
def ak1 : List E3 := [⟨0, 1, 2⟩]
def ak2 : List E3 := [⟨0, 2, 2⟩]
theorem ak_t : sendT 2 0 2 = 2 := by decide
theorem ak_l1 : sendLog [] 0 0 2 = ak1 := by decide
theorem ak_l2 : sendLog ak1 0 1 2 = ak2 := by decide
theorem ak_w : listW 2 = [1] := by rw [listW_bits 2 (by omega)]; decide
theorem ak_r : rowF ak1 2 1 = logB ak1 := by
  unfold rowF
  rw [show purgeE (lessE ak1 (outB 2 (ofN ((1 : Nat) : Int)))) = ak1 by decide]
  rfl
theorem bdR3' : buildV Tryd.prog 79 #[(0, .int .i64 0), (1, .int .u64 1), (2, .int .u64 2)] = some (entV ⟨0, 1, 2⟩) := by kernel_rfl
theorem bdR4' : buildV Tryd.prog 79 #[(0, .int .i64 0), (1, .int .u64 2), (2, .int .u64 2)] = some (entV ⟨0, 2, 2⟩) := by kernel_rfl
theorem bsA1 (h : Heap) : buildSliceV Tryd.prog 76 1 #[(0, entV ⟨0, 1, 2⟩)] h = some (.slice (some ⟨h.blks.length, 0, none⟩) ak1.length ak1.length, h.new (.cells (entL ak1)) 79) := by kernel_rfl
theorem bsA2 (h : Heap) : buildSliceV Tryd.prog 76 1 #[(0, entV ⟨0, 2, 2⟩)] h = some (.slice (some ⟨h.blks.length, 0, none⟩) ak2.length ak2.length, h.new (.cells (entL ak2)) 79) := by kernel_rfl
theorem lnBs2 {n0 : Nat} {h : Heap} {v : Value} {l : List (List UInt8)} (a : ABs n0 h v l) : lenV Tryd.prog 36 v h = some (.int .i64 l.length) := a.len
theorem spec_awake19 (h : Heap) : ∃ h', evC Tryd.prog 20 #[] h = some (.bool true, h') ∧ HExt h h' := by
  rw [show evC Tryd.prog 20 #[] h = _ from call20 h]
  obtain ⟨h1, q1,Ab, l1⟩ := spec_leanNew 2 0 (by omega) (by omega) (by omega) (by omega) (nm h)
  have e0 : (nm h).blks.length = h.blks.length := rfl
  rw [e0] at q1 l1
  have n1 : h.blks.length ≤ h1.blks.length := Ab.len
  have k1 : In h.blks.length No (nm h) h1 := Ab.inn (Nat.le_refl h.blks.length)
  have b2 := mkI1 1 h1
  have o2 := spec_Of1 (c := 1) (Cells.new h1 3 [.int .i64 1])
  have k2 := k1.trans (In.new (S := No) n1 (.cells [.int .i64 1]) 3)
  have l2 := l1.same (Same.new h1 (.cells [.int .i64 1]) 3)
  have n2 := (Same.new h1 (.cells [.int .i64 1]) 3).1
  generalize hh2 : h1.new (.cells [.int .i64 1]) 3 = h2 at b2 o2 k2 l2 n2
  rw [show ((ofN 1 : Nat) : Int) = 2 by decide] at o2
  obtain ⟨v3, h3, q3, y3, l3, r3⟩ := spec_Send l2 (by omega) (by intro e he; cases he) (by simp) (by omega) 2 (by omega) (by omega) (insOk_end (by decide) (by decide))
  have nb : ∀ b, b < h.blks.length → Just (h.blks.length + 1) b → No b := fun b hb e => by have : b = h.blks.length + 1 := e; omega
  have k3 := k2.trans (y3.inn (by omega) nb)
  rw [show sendT 2 0 2 = 2 from ak_t, show sendLog [] 0 0 2 = ak1 from ak_l1] at l3
  have n3 := y3.len
  have b4 := mkI1 1 h3
  have o4 := spec_Of1 (c := 1) (Cells.new h3 3 [.int .i64 1])
  have k4 := k3.trans (In.new (S := No) (by omega) (.cells [.int .i64 1]) 3)
  have l4 := l3.same (Same.new h3 (.cells [.int .i64 1]) 3)
  have n4 := (Same.new h3 (.cells [.int .i64 1]) 3).1
  generalize hh4 : h3.new (.cells [.int .i64 1]) 3 = h4 at b4 o4 k4 l4 n4
  rw [show ((ofN 1 : Nat) : Int) = 2 by decide] at o4
  obtain ⟨v5, h5, q5, y5, l5, r5⟩ := spec_Send l4 (by omega) (by decide) (by decide) (by omega) 2 (by omega) (by omega) (insOk_end (by decide) (by decide))
  have k5 := k4.trans (y5.inn (by omega) nb)
  rw [show sendT 2 0 2 = 2 from ak_t] at l5 r5
  rw [show sendLog ak1 0 (0 + 1) 2 = ak2 from ak_l2] at l5
  rw [ak_w, show [1].map (rowF ak1 2) = [logB ak1] by rw [List.map_cons, List.map_nil, ak_r]] at r5
  have n5 := y5.len
  have len5 := lnBs2 r5
  obtain ⟨ad, xv, f1, f2, f3⟩ := r5.at (i := 0) (by simp)
  rw [show ((0 : Nat) : Int) = 0 from rfl] at f1
  rw [show ([logB ak1] : List (List UInt8)).getD 0 [] = logB ak1 from rfl] at f3
  have lb : (logB ak1).length < 2 ^ 26 := by
    have h1 := encL_le ak1 (by decide) (by decide)
    have h2 := putL_le ak1.length (by decide)
    have h3 : ak1.length = 1 := rfl
    unfold logB; rw [List.length_append]; omega
  obtain ⟨a6, c6, h6, q6,Ag, r6⟩ := spec_Get18 f3 (by omega)
  rw [get_put (by decide) (by decide) (by decide)] at q6 r6
  simp only [Option.getD_some, Option.isSome_some] at q6 r6
  have n6 := Ag.len
  obtain ⟨h7, t7, y7, g7, s7, i7, g7'⟩ := newLogT (AE.se r6)
  have k7 := (k5.trans (Ag.inn (S := No) (by omega))).trans (i7 No h.blks.length (by omega))
  have n7 := y7.1
  obtain ⟨a8, c8, h8, q8,Ai, w8⟩ := cmp_litN s7 (by decide)
  have n8 := Ai.len
  have y9 := Same.new h8 (.cells (entL ak1)) 79
  have k9 := (k7.trans (Ai.inn (S := No) (by omega))).trans (In.new (S := No) (by omega) (.cells (entL ak1)) 79)
  have l9 := (((l5.same Ag.same).same y7).same Ai.same).same y9
  generalize hh9 : h8.new (.cells (entL ak1)) 79 = h9 at y9 k9 l9 w8
  have n9 := y9.1
  obtain ⟨a10, c10, h10, q10,Ak, s10⟩ := spec_Log l9 (by decide)
  have n10 := Ak.len
  obtain ⟨a11, c11, h11, q11,Al, w11⟩ := cmp_litN s10 (by decide)
  have n11 := Al.len
  have k12 := ((k9.trans (Ak.inn (S := No) (by omega))).trans (Al.inn (S := No) (by omega))).trans (In.new (S := No) (by omega) (.cells (entL ak2)) 79)
  have z1 : decide ((([logB ak1] : List (List UInt8)).length : Int) ≠ 1) = false := by decide
  rw [show ((2 : Nat) : Int) = 2 from rfl] at q1 q3 q5
  refine ⟨_, ?_, done_ext' k12⟩
  have b9 := bsA1 h8
  rw [hh9] at b9
  simp -implicitDefEqProofs (disch := omega) only [↓c20_0_eq, q1, extractV_tuple, pnn, b2, o2, q3, b4, o4, q5, len5, z1, ne_eq, not_true_eq_false, decide_false, f1, f2, q6, alL, stL, t7, faL, ldEs, g7', q8, bdR3', b9, w8, q10, fvL, q11, bdR4', bsA2, w11, ↓ret20, ↓cnd_true, ↓cnd_false, ↓Option.bind_some, ↓obH_some', bin_add, bin_sub, bin_mul, bin_lss, bin_leq, bin_gtr, bin_geq, bin_eql, bin_neq, un_not, un_neg, Option.bind_some, Option.bind_none, Option.map_some, cnd_true, cnd_false, pickV_true, pickV_false, gd_true, gd_false, gdV_true, gdV_false, gdH_true, gdH_false, gdS_true, gdS_false, wt_ff, wt_tt, wt_ft, wt_tf, wt_undef, obH_some', extractV_tuple, nilCheckV_ptr, againK_normal, againK_exit, againK_ret, blockK_normal, blockK_same, blockK_ret, seqK_normal, seqK_exit, seqK_ret, fin_done, if_true', if_false', Bool.not_true, Bool.not_false, idx0, idx1, idx2, idx3, idx4, chk_nil_l, chk_nil_r, done_nm, up_cons, up_nil, cond_true, cond_false, Nat.reduceBEq]
end Go.Am
namespace Go.Am
open Go.Proofs
set_option maxRecDepth 100000
set_option linter.all false
attribute [local congr] obind_congr obH_congr cnd_congr chk_congr retK_congr codeK_congr
end Go.Am
namespace Go.Am
open Go.Proofs
set_option maxRecDepth 100000
set_option linter.all false
attribute [local congr] obind_congr obH_congr cnd_congr chk_congr retK_congr codeK_congr
end Go.Am
namespace Go.Am
open Go.Proofs
set_option maxRecDepth 100000
set_option linter.all false
attribute [local congr] obind_congr obH_congr cnd_congr chk_congr retK_congr codeK_congr
theorem Cells.ty {h : Heap} {p : Nat} {t1 t2 : TypeId} {cs all : List Value} (c : Cells h p t1 cs) (e : h.blks[p]? = some ⟨.cells all, t2, true⟩) : t1 = t2 := by
  unfold Cells at c
  rw [c] at e
  simp only [Option.some.injEq, Blk.mk.injEq] at e
  exact e.2.1
theorem LEn.rows {S : Nat → Prop} {h h' : Heap} {p s : Nat} {n me : Int} {num : Nat} {es : List E3} {ns : List Nat} (l : LEn h p s n me num es ns) (m : HMod S h h') (hS : ∀ b, S b → b = p ∨ b = s) {n0 : Nat} {v : Value} {r : List (List UInt8)} (a : ABs n0 h v r) : ABs n0 h' v r := by
  obtain ⟨vs, x⟩ := a
  obtain ⟨la, lc, ce, _⟩ := l.eng
  refine ⟨vs, x.kp fun b all ty hb ht _ => m.old b (List.getElem?_eq_some_iff.1 hb).1 fun hs => ?_⟩
  rcases hS b hs with rfl | rfl
  · have := ce.ty hb
    rcases ht with ht | ht
    · exact absurd (this.trans ht) (by decide)
    · exact absurd (this.trans ht) (by decide)
  · have := l.seen.ty hb
    rcases ht with ht | ht
    · exact absurd (this.trans ht) (by decide)
    · exact absurd (this.trans ht) (by decide)
theorem LEn.others {S : Nat → Prop} {h h' : Heap} {p s : Nat} {n me : Int} {num : Nat} {es : List E3} {ns : List Nat} (l : LEn h p s n me num es ns) (m : HMod S h h') (hS : ∀ b, S b → b = p ∨ b = s) {p' s' : Nat} {n' me' : Int} {num' : Nat} {es' : List E3} {ns' : List Nat} (l' : LEn h p' s' n' me' num' es' ns')
    (h1 : p' ≠ p) (h2 : s' ≠ s) : LEn h' p' s' n' me' num' es' ns' := by
  obtain ⟨la, lc, ce, _⟩ := l.eng
  obtain ⟨la', lc', ce', _⟩ := l'.eng
  have c1 : p' ≠ s := fun e => by subst e; exact absurd (ce'.ty l.seen) (by decide)
  have c2 : s' ≠ p := fun e => by subst e; exact absurd (l'.seen.ty ce) (by decide)
  refine HMod.lEn l' m (fun h => ?_) (fun h => ?_) (fun b all hb h => ?_)
  · rcases hS _ h with e | e
    · exact h1 e
    · exact c1 e
  · rcases hS _ h with e | e
    · exact c2 e
    · exact h2 e
  · rcases hS _ h with rfl | rfl
    · exact absurd (ce.ty hb) (by decide)
    · exact absurd (l.seen.ty hb) (by decide)
end Go.Am
namespace Go.Am
open Go.Proofs
set_option maxRecDepth 100000
set_option linter.all false
attribute [local congr] obind_congr obH_congr cnd_congr chk_congr retK_congr codeK_congr
theorem bsK_leM (es : List E3) (t : E3) : bsK es t ≤ es.length := List.Sublist.length_le (List.takeWhile_sublist _)
theorem entL_takeM : ∀ (es : List E3) (i : Nat), (entL es).take (i * 3) = entL (es.take i)
  | [], i => by simp [entL]
  | e :: es, 0 => rfl
  | e :: es, i + 1 => by
    rw [show (i + 1) * 3 = (i * 3) + 1 + 1 + 1 by omega]
    simp only [entL, List.take_succ_cons]
    rw [entL_takeM es i]
theorem entL_dropM : ∀ (es : List E3) (i : Nat), (entL es).drop (i * 3) = entL (es.drop i)
  | [], i => by simp [entL]
  | e :: es, 0 => rfl
  | e :: es, i + 1 => by
    rw [show (i + 1) * 3 = (i * 3) + 1 + 1 + 1 by omega]
    simp only [entL, List.drop_succ_cons]
    exact entL_dropM es i
theorem AE.blkM {n0 : Nat} {h : Heap} {a : Option Addr} {c : Nat} {es : List E3} (ha : AE n0 h (.slice a es.length c) es) (h0 : 0 < es.length) :
    ∃ b o all, a = some ⟨b, o, none⟩ ∧ n0 ≤ b ∧ h.blks[b]? = some ⟨.cells all, 68, true⟩ ∧ o + es.length * 3 ≤ all.length ∧ (all.drop o).take (es.length * 3) = entL es ∧ (c = UNK ∨ c = es.length) := by
  have key : ∀ {v : Value} {n : Nat} {cs : List Value}, Acc n0 h 68 3 v n cs → 0 < n → v = .slice a n c → ∃ b o all, a = some ⟨b, o, none⟩ ∧ n0 ≤ b ∧ h.blks[b]? = some ⟨.cells all, 68, true⟩ ∧ o + n * 3 ≤ all.length ∧ (all.drop o).take (n * 3) = cs ∧ (c = UNK ∨ c = n) := by
    intro v n cs x hn hv
    cases x with
    | nil => omega
    | full h1 h2 h3 h4 h5 => injection hv with e1 e2 e3; subst e1; exact ⟨_, _, _, rfl, h1, h3, h4, h5, .inr e3.symm⟩
    | unk h1 h2 h3 h4 => injection hv with e1 e2 e3; subst e1; exact ⟨_, _, _, rfl, h1, h2, h3, h4, .inl e3.symm⟩
  exact key ha h0 rfl
theorem insOk_all {es : List E3} {x : E3} (hl : es.length < 2 ^ 38) : InsOk es x := by
  by_cases hk : bsK es x = es.length
  · exact insOk_end hk hl
  intro hg hm hb n0 h a c hn ha
  have hlt : bsK es x < es.length := by have := bsK_leM es x; omega
  obtain ⟨b, o, all, rfl, hb0, hbk, hle, he, hc⟩ := AE.blkM ha (by omega)
  have hbl : b < h.blks.length := (List.getElem?_eq_some_iff.1 hbk).1
  have hk1 : (h.new (.cells (entC x)) 68).blks[b]? = some ⟨.cells all, 68, true⟩ := (Heap.new_old hbl).trans hbk
  have hk2 : (h.new (.cells (entC x)) 68).blks[h.blks.length]? = some ⟨.cells (entC x), 68, true⟩ := blk_new_self _ _ _
  have hone : ((all.drop o).take (es.length * 3)).all Value.oneCell' = true := by rw [he]; exact entL_one es
  have hL : ((all.drop o).take (bsK es x * 3) ++ (entC x ++ ((all.drop o).take (es.length * 3)).drop (bsK es x * 3))) = entL (insE es x) := by
    have h1 : (all.drop o).take (bsK es x * 3) = entL (es.take (bsK es x)) := by
      rw [← entL_takeM, ← he, List.take_take, Nat.min_eq_left (by omega)]
    rw [h1, he, entL_dropM]
    unfold insE
    rw [entL_app]
    rfl
  have hlen : (insE es x).length = es.length + 1 := by unfold insE; rw [List.length_append, List.length_cons, List.length_take, List.length_drop]; omega
  have hpl : ((h.new (.cells (entC x)) 68).put b .dead).blks.length = h.blks.length + 1 := by rw [Heap.put_len]; simp [Heap.new]
  refine ⟨some ⟨h.blks.length + 1, 0, none⟩, UNK, ((h.new (.cells (entC x)) 68).put b .dead).new (.cells (entL (insE es x))) 68, ?_, ?_, ⟨hn, ?_, fun q hq => ?_, fun m hm' => ?_⟩, fun q hq hne => ?_⟩
  · rw [evC_ext xt_ins]
    unfold insX
    simp only []
    rw [if_neg (by omega), if_pos ⟨by omega, by omega, by omega, hc⟩]
    simp only [hk1, hk2]
    rw [if_pos ⟨trivial, trivial, by omega, hle, rfl, rfl, hone⟩, Int.toNat_natCast, hL, hlen]
    rw [show (h.new (.cells (entC x)) 68).blks.length = h.blks.length + 1 by simp [Heap.new]]
  · have := blk_new_self ((h.new (.cells (entC x)) 68).put b .dead) (.cells (entL (insE es x))) 68
    rw [hpl] at this
    exact .unk (by omega) this (by rw [entL_len]; omega) (by rw [List.drop_zero, ← entL_len, List.take_length])
  · rw [Heap.new_len, hpl]; omega
  · rw [Heap.new_old (by rw [hpl]; omega), Heap.put_other (by omega), Heap.new_old (by omega)]
  · have : (((h.new (.cells (entC x)) 68).put b .dead).new (.cells (entL (insE es x))) 68).mods = b :: h.mods := by rw [Heap.put_eq hk1]; rfl
    rw [this] at hm'
    rcases List.mem_cons.1 hm' with rfl | hm'
    · exact .inr hb0
    · exact .inl hm'
  · rw [Heap.new_old (by rw [hpl]; omega), Heap.put_other (fun e => hne (by rw [e]; rfl)), Heap.new_old hq]
theorem spec_TakeNo {h : Heap} {p s : Nat} {n : Nat} {me : Int} {num : Nat} {es : List E3} {ns : List Nat} (l : LEn h p s n me num es ns) (fr : Int) (k to : Nat) {v : Value} {bs : List UInt8} (sb : SB h v bs) (hbs : bs.length < 2 ^ 26) (hc : canE n me ns fr k bs = false) :
    ∃ h', evC Tryd.prog 23 #[.pointer (some ⟨p, 0, none⟩), .int .i64 fr, .int .u64 k, .int .u64 to, v] h = some (.bool false, h') ∧ HExt h h' := by
  rw [call23]
  obtain ⟨h1, q1,Ab⟩ := spec_Can (l.same (sameNm h)) fr k sb.nm (by omega)
  rw [hc] at q1
  refine ⟨done h h1, ?_, done_ext' (Ab.inn (Nat.le_refl _))⟩
  simp -implicitDefEqProofs (disch := omega) only [↓c23_0_eq, q1, ↓ret23, ↓cnd_true, ↓cnd_false, ↓Option.bind_some, ↓obH_some', bin_add, bin_sub, bin_mul, bin_lss, bin_leq, bin_gtr, bin_geq, bin_eql, bin_neq, un_not, un_neg, Option.bind_some, Option.bind_none, Option.map_some, cnd_true, cnd_false, pickV_true, pickV_false, gd_true, gd_false, gdV_true, gdV_false, gdH_true, gdH_false, gdS_true, gdS_false, wt_ff, wt_tt, wt_ft, wt_tf, wt_undef, obH_some', extractV_tuple, nilCheckV_ptr, againK_normal, againK_exit, againK_ret, blockK_normal, blockK_same, blockK_ret, seqK_normal, seqK_exit, seqK_ret, fin_done, if_true', if_false', Bool.not_true, Bool.not_false, idx0, idx1, idx2, idx3, idx4, chk_nil_l, chk_nil_r, done_nm, up_cons, up_nil, cond_true, cond_false, Nat.reduceBEq]
end Go.Am
namespace Go.Am
set_option maxRecDepth 100000
set_option linter.all false
theorem purgeL_head : ∀ (e : E3) (l : List E3), ∃ x r, purgeL (e :: l) = x :: r ∧ x.f = e.f
  | e, [] => ⟨e, [], rfl, rfl⟩
  | e, e' :: l => by
    rw [purgeL_two]
    split
    · exact ⟨e, _, rfl, rfl⟩
    · rename_i h
      obtain ⟨x, r, h1, h2⟩ := purgeL_head e' l
      exact ⟨x, r, h1, h2.trans (Classical.byContradiction fun hn => h (.inr hn))⟩
theorem purgeL_next : ∀ (l : List E3) (i : Nat) (h : i + 1 < (purgeL l).length), (purgeL l)[i].t = 0 → (purgeL l)[i + 1].f ≠ (purgeL l)[i].f
  | [], i, h => by simp [purgeL] at h
  | [e], i, h => by simp [purgeL] at h
  | e :: e' :: l, i, h => by
    have key : ∀ (q : List E3), q = purgeL (e :: e' :: l) → ∀ (h : i + 1 < q.length), q[i].t = 0 → q[i + 1].f ≠ q[i].f := by
      intro q hq h
      rw [purgeL_two] at hq
      split at hq
      · rename_i hk
        subst hq
        cases i with
        | zero =>
          intro h0
          simp only [List.getElem_cons_zero, List.getElem_cons_succ] at h0 ⊢
          obtain ⟨x, r, h1, h2⟩ := purgeL_head e' l
          simp only [h1, List.getElem_cons_zero]
          rw [h2]
          exact hk.resolve_left fun hn => hn h0
        | succ i =>
          intro h0
          simp only [List.getElem_cons_succ] at h0 ⊢
          exact purgeL_next (e' :: l) i (by simpa using h) h0
      · subst hq
        exact purgeL_next (e' :: l) i h
    exact key _ rfl h
theorem purgeL_sub : ∀ l : List E3, (purgeL l).Sublist l
  | [] => .slnil
  | [e] => List.Sublist.refl _
  | e :: e' :: l => by
    rw [purgeL_two]
    split
    · exact (purgeL_sub (e' :: l)).cons_cons e
    · exact (purgeL_sub (e' :: l)).cons e
theorem good_purge {es : List E3} (h : goodE es = true) : goodE (purgeL es) = true := by
  rw [goodE_iff] at h ⊢
  exact ⟨fun e he => h.1 e ((purgeL_sub es).subset he), h.2.sublist (purgeL_sub es)⟩

theorem may_less {e : E3} (to : Nat) (h : mayE e = true) : mayE (lessF to e) = true := by
  unfold mayE lessF at *
  simp only [Bool.and_eq_true, decide_eq_true_eq] at h ⊢
  have : outB e.t to ≤ e.t := Nat.and_le_left
  exact ⟨h.1, h.2.1, h.2.2.1, by omega⟩
theorem good_less {es : List E3} (to : Nat) (h : goodE es = true) : goodE (lessE es to) = true := by
  unfold lessE
  rw [if_pos h]
  rw [goodE_iff] at h ⊢
  refine ⟨fun e he => ?_, ?_⟩
  · obtain ⟨x, hx, rfl⟩ := List.mem_map.1 he
    exact may_less to (h.1 x hx)
  · exact List.pairwise_map.2 (h.2.imp fun k => k)
theorem bsK_lo {es : List E3} {x : E3} (i : Nat) (hi : i < bsK es x) (hl : i < es.length) : ltE es[i] x := by
  have key : ∀ (l : List E3) (i : Nat) (hi : i < (l.takeWhile fun e => decide (cmpE e x < 0)).length) (hl : i < l.length), ltE l[i] x := by
    intro l
    induction l with
    | nil => intro i hi hl; simp at hl
    | cons e l ih =>
      intro i hi hl
      rw [List.takeWhile_cons] at hi
      split at hi
      · rename_i h
        cases i with
        | zero => exact (cmpE_lt e x).1 (of_decide_eq_true h)
        | succ i => exact ih i (by simpa using hi) (by simpa using hl)
      · simp at hi
  exact key es i hi hl
theorem bsK_ge {es : List E3} {x : E3} (hl : bsK es x < es.length) : ¬ ltE es[bsK es x] x := by
  have key : ∀ (l : List E3) (hl : (l.takeWhile fun e => decide (cmpE e x < 0)).length < l.length), ¬ ltE l[(l.takeWhile fun e => decide (cmpE e x < 0)).length] x := by
    intro l
    induction l with
    | nil => intro hl; simp at hl
    | cons e l ih =>
      intro hl
      by_cases h : cmpE e x < 0
      · have e1 : (List.takeWhile (fun e => decide (cmpE e x < 0)) (e :: l)) = e :: l.takeWhile fun e => decide (cmpE e x < 0) := by rw [List.takeWhile_cons, if_pos (decide_eq_true h)]
        simp only [e1, List.length_cons] at hl ⊢
        exact ih (by omega)
      · have e1 : (List.takeWhile (fun e => decide (cmpE e x < 0)) (e :: l)) = [] := by rw [List.takeWhile_cons, if_neg (by rw [decide_eq_false h]; decide)]
        simp only [e1, List.length_nil, List.getElem_cons_zero]
        exact fun k => h ((cmpE_lt e x).2 k)
  exact key es hl
theorem good_add {es : List E3} {x : E3} (h : goodE es = true) (hm : mayE x = true) : goodE (addE es x) = true := by
  unfold addE
  rw [if_pos ⟨h, hm⟩]
  have hh := (goodE_iff es).1 h
  split
  · rename_i hb
    have hlt := bsF_lt hb
    have hz : cmpE es[bsK es x] x = 0 := by
      unfold bsF at hb
      rw [List.getElem?_eq_getElem hlt] at hb
      exact of_decide_eq_true hb
    have hfn : es[bsK es x].f = x.f ∧ es[bsK es x].n = x.n := by
      have h1 : ¬ ltE es[bsK es x] x := fun k => by have := (cmpE_lt _ _).2 k; omega
      refine key_eq h1 fun k => ?_
      unfold ltE at k
      unfold cmpE at hz
      split at hz
      · omega
      · split at hz
        · omega
        · split at hz
          · omega
          · split at hz
            · omega
            · omega
    rw [goodE_iff]
    refine ⟨fun e he => ?_, ?_⟩
    · rcases List.mem_or_eq_of_mem_set he with he | rfl
      · exact hh.1 e he
      · exact hm
    · refine List.pairwise_iff_getElem.2 fun i j hi hj hij => ?_
      have hi' : i < es.length := by simpa using hi
      have hj' : j < es.length := by simpa using hj
      have base := List.pairwise_iff_getElem.1 hh.2 i j hi' hj' hij
      rw [List.getElem_set, List.getElem_set]
      split
      · rename_i e1
        subst e1
        rw [if_neg (by omega)]
        unfold ltE at base ⊢
        rw [← hfn.1, ← hfn.2]
        exact base
      · split
        · rename_i e2
          subst e2
          unfold ltE at base ⊢
          rw [← hfn.1, ← hfn.2]
          exact base
        · exact base
  · rename_i hb
    rw [goodE_iff]
    unfold insE
    refine ⟨fun e he => ?_, ?_⟩
    · rcases List.mem_append.1 he with he | he
      · exact hh.1 e (List.mem_of_mem_take he)
      · rcases List.mem_cons.1 he with rfl | he
        · exact hm
        · exact hh.1 e (List.mem_of_mem_drop he)
    · have hlo : ∀ y ∈ es.take (bsK es x), ltE y x := fun y hy => by
        obtain ⟨i, hi, rfl⟩ := List.getElem_of_mem hy
        rw [List.length_take] at hi
        rw [List.getElem_take]
        exact bsK_lo i (by omega) (by omega)
      have hhi : ∀ y ∈ es.drop (bsK es x), ltE x y := fun y hy => by
        have hlt : bsK es x < es.length := by
          rcases Nat.lt_or_ge (bsK es x) es.length with h1 | h1
          · exact h1
          · rw [List.drop_of_length_le h1] at hy; cases hy
        have h1 := bsK_ge hlt
        have h2 : ltE x es[bsK es x] := by
          refine Classical.byContradiction fun h2 => hb ?_
          obtain ⟨h3, h4⟩ := key_eq h1 h2
          unfold bsF
          rw [List.getElem?_eq_getElem hlt]
          simp only
          refine decide_eq_true ?_
          unfold cmpE
          rw [if_neg (by omega), if_neg (by omega), if_neg (by omega), if_neg (by omega)]
        obtain ⟨j, hj, rfl⟩ := List.getElem_of_mem hy
        rw [List.getElem_drop]
        rw [List.length_drop] at hj
        rcases Nat.eq_zero_or_pos j with h0 | h0
        · subst h0; exact h2
        · exact ltE_trans h2 (List.pairwise_iff_getElem.1 hh.2 _ _ hlt (by omega) (by omega))
      refine List.pairwise_append.2 ⟨hh.2.sublist (List.take_sublist _ _), List.pairwise_cons.2 ⟨hhi, hh.2.sublist (List.drop_sublist _ _)⟩, fun a ha b hb' => ?_⟩
      rcases List.mem_cons.1 hb' with rfl | hb'
      · exact hlo a ha
      · exact ltE_trans (hlo a ha) (hhi b hb')
structure LInv (me : Int) (es : List E3) : Prop where
  good : goodE es = true
  here : ∀ e ∈ es, hasB e.t me = false
  next : ∀ (i : Nat) (h : i + 1 < es.length), es[i].t = 0 → es[i + 1].f ≠ es[i].f
theorem mem_purgeE {es : List E3} {e : E3} (h : e ∈ purgeE es) : e ∈ es := (purgeE_sub es).subset h
theorem inv_purge {me : Int} {es : List E3} (h : goodE es = true) (hh : ∀ e ∈ es, hasB e.t me = false) : LInv me (purgeE es) := by
  refine ⟨?_, fun e he => hh e (mem_purgeE he), ?_⟩
  · unfold purgeE; rw [if_pos h]; exact good_purge h
  · unfold purgeE; rw [if_pos h]; exact fun i hi => purgeL_next es i hi
theorem hasB_out (t to : Nat) (me : Int) (h : hasB t me = false) : hasB (outB t to) me = false := by
  unfold hasB outB at *
  rw [Nat.testBit_and]
  cases hb : t.testBit me.toNat with
  | false => simp
  | true =>
    rw [hb, Bool.and_true] at h
    rw [h]; rfl
theorem hasB_outMe (t : Nat) (me : Int) (ht : t < 2 ^ 64) (h0 : 0 ≤ me) (h1 : me < 16) : hasB (outB t (ofN me)) me = false := by
  obtain ⟨m, rfl⟩ : ∃ m : Nat, me = m := ⟨me.toNat, by omega⟩
  have ho : ofN (m : Int) = 2 ^ m := by unfold ofN; rw [if_pos (by omega), Int.toNat_natCast]
  unfold hasB outB
  rw [ho, Int.toNat_natCast, Nat.testBit_and, show (2 ^ 64 - 1 - 2 ^ m : Nat) = 2 ^ 64 - (2 ^ m + 1) by omega, Nat.testBit_two_pow_sub_succ (Nat.pow_lt_pow_right (by omega) (by omega)), Nat.testBit_two_pow_self]
  simp
theorem here_less {me : Int} {es : List E3} (to : Nat) (h : ∀ e ∈ es, hasB e.t me = false) : ∀ e ∈ lessE es to, hasB e.t me = false := fun e he => by
  unfold lessE at he
  split at he
  · obtain ⟨x, hx, rfl⟩ := List.mem_map.1 he
    exact hasB_out _ _ _ (h x hx)
  · exact h e he
theorem inv_send {me : Int} {es : List E3} (I : LInv me es) (num t : Nat) (hme : 0 ≤ me) (hme2 : me < 16) (ht : t < 65536) (htm : hasB t me = false) : LInv me (sendLog es me num t) := by
  unfold sendLog
  have hm : mayE ⟨me, num + 1, t⟩ = true := by
    unfold mayE
    simp only [Bool.and_eq_true, decide_eq_true_eq]
    exact ⟨hme, hme2, by omega, ht⟩
  refine inv_purge (good_add (good_less t I.good) hm) fun e he => ?_
  rcases mem_addE he with he | rfl
  · exact here_less t I.here e he
  · exact htm
theorem inv_take {me : Int} {es g : List E3} (I : LInv me es) (hg : goodE g = true) (fr : Int) (k to : Nat) (hx : mayE ⟨fr, k, to⟩ = true) (hme : 0 ≤ me) (hme2 : me < 16) : LInv me (takeLog es me fr k to g) := by
  unfold takeLog
  have h1 := good_less (ofN me) (good_add hg hx)
  have h2 := srt_join I.good h1
  generalize joinE es (lessE (addE g ⟨fr, k, to⟩) (ofN me)) = J at *
  refine inv_purge (good_less _ h2) fun e he => ?_
  unfold lessE at he
  rw [if_pos h2] at he
  obtain ⟨x, hx', rfl⟩ := List.mem_map.1 he
  have := (goodE_iff _).1 h2
  have hm := this.1 x hx'
  unfold mayE at hm
  simp only [Bool.and_eq_true, decide_eq_true_eq] at hm
  exact hasB_outMe x.t me (by omega) hme hme2
theorem LInv.wide {me : Int} {es : List E3} (I : LInv me es) (hn : ∀ e ∈ es, e.n < 2 ^ 64) : wide es := fun e he => by
  have hm := ((goodE_iff es).1 I.good).1 e he
  unfold mayE at hm
  simp only [Bool.and_eq_true, decide_eq_true_eq] at hm
  exact ⟨hn e he, by omega⟩
end Go.Am
namespace Go.Am
set_option maxRecDepth 100000
set_option linter.all false
theorem filter_split {α : Type} (p : α → Bool) : ∀ l : List α, l.length = (l.filter p).length + (l.filter fun x => !p x).length
  | [] => rfl
  | x :: l => by
    have := filter_split p l
    rw [List.filter_cons, List.filter_cons]
    cases p x <;> simp <;> omega
theorem dis_len : ∀ (n : Nat) (l : List Nat), (∀ a ∈ l, 0 < a ∧ a < 2 ^ n) → l.Pairwise (fun a b => a &&& b = 0) → l.length ≤ n
  | 0, l, h, _ => by
    cases l with
    | nil => simp
    | cons a l => have := h a (by simp); omega
  | n + 1, l, h, hp => by
    have h1 := filter_split (fun a : Nat => a.testBit n) l
    have h2 : (l.filter fun a : Nat => !a.testBit n).length ≤ n := by
      refine dis_len n _ (fun a ha => ?_) (hp.sublist List.filter_sublist)
      obtain ⟨ha1, ha2⟩ := List.mem_filter.1 ha
      have hb := h a ha1
      refine ⟨hb.1, ?_⟩
      rw [Bool.not_eq_true'] at ha2
      refine Nat.lt_of_not_le fun hge => ?_
      have : a.testBit n = true := by
        rw [Nat.testBit_eq_decide_div_mod_eq]
        have e : a / 2 ^ n = 1 := by
          have hlt : a < 2 ^ n * 2 := by rw [← Nat.pow_succ]; exact hb.2
          have u : a / 2 ^ n < 2 := Nat.div_lt_of_lt_mul hlt
          have v : 1 ≤ a / 2 ^ n := (Nat.le_div_iff_mul_le (Nat.two_pow_pos n)).2 (by omega)
          omega
        rw [e]; rfl
      rw [this] at ha2; cases ha2
    have h3 : (l.filter fun a : Nat => a.testBit n).length ≤ 1 := by
      have hq := hp.sublist (List.filter_sublist (p := fun a : Nat => a.testBit n) (l := l))
      have hm : ∀ a ∈ l.filter (fun a : Nat => a.testBit n), a.testBit n = true := fun a ha => (List.mem_filter.1 ha).2
      revert hq hm
      generalize l.filter (fun a : Nat => a.testBit n) = q
      intro hq hm
      match q, hq, hm with
      | [], _, _ => simp
      | [a], _, _ => simp
      | a :: b :: q, hq, hm =>
        have e := (List.pairwise_cons.1 hq).1 b (by simp)
        have := congrArg (fun x => Nat.testBit x n) e
        simp only [Nat.testBit_and, hm a (by simp), hm b (by simp), Nat.zero_testBit] at this
        cases this
    omega
theorem count_f (c : Nat) : ∀ (m : Nat) (es : List E3), (∀ e ∈ es, 0 ≤ e.f ∧ e.f < m) → (∀ f : Int, (es.filter fun e => decide (e.f = f)).length ≤ c) → es.length ≤ m * c
  | 0, es, h, _ => by
    cases es with
    | nil => simp
    | cons a l => have := h a (by simp); omega
  | m + 1, es, h, hc => by
    have h1 := filter_split (fun e : E3 => decide (e.f = (m : Int))) es
    have h2 := hc (m : Int)
    have h3 : (es.filter fun e => !decide (e.f = (m : Int))).length ≤ m * c := by
      refine count_f c m _ (fun e he => ?_) (fun f => ?_)
      · obtain ⟨a, b⟩ := List.mem_filter.1 he
        have := h e a
        simp only [Bool.not_eq_true', decide_eq_false_iff_not] at b
        omega
      · refine Nat.le_trans ?_ (hc f)
        exact (List.Sublist.filter _ List.filter_sublist).length_le
    rw [Nat.succ_mul]
    omega
structure SInv (n : Nat) (es : List E3) : Prop where
  good : goodE es = true
  frm : ∀ e ∈ es, e.f < n
  wid : ∀ e ∈ es, e.t < 2 ^ n
  dis : es.Pairwise fun a b => a.f = b.f → a.t &&& b.t = 0
theorem SInv.f0 {n : Nat} {es : List E3} (s : SInv n es) : ∀ e ∈ es, 0 ≤ e.f := fun e he => by
  have := ((goodE_iff es).1 s.good).1 e he
  unfold mayE at this
  simp only [Bool.and_eq_true, decide_eq_true_eq] at this
  exact this.1
theorem zero_one {es : List E3} (hs : Srt es) (nx : ∀ (i : Nat) (h : i + 1 < es.length), es[i].t = 0 → es[i + 1].f ≠ es[i].f) (f : Int) : (es.filter fun e => decide (e.f = f ∧ e.t = 0)).length ≤ 1 := by
  have key : (es.filter fun e => decide (e.f = f ∧ e.t = 0)).Pairwise fun a b => False := by
    refine List.pairwise_filter.2 (List.pairwise_iff_getElem.2 fun i j hi hj hij h1 h2 => ?_)
    simp only [decide_eq_true_eq] at h1 h2
    have n1 := nx i (by omega) h1.2
    have o1 := List.pairwise_iff_getElem.1 hs i (i + 1) hi (by omega) (by omega)
    rcases Nat.eq_or_lt_of_le (show i + 1 ≤ j by omega) with e | e
    · subst e; exact n1 (h2.1.trans h1.1.symm)
    · have o2 := List.pairwise_iff_getElem.1 hs (i + 1) j (by omega) hj e
      unfold ltE at o1 o2
      omega
  revert key
  generalize es.filter (fun e => decide (e.f = f ∧ e.t = 0)) = q
  intro key
  match q, key with
  | [], _ => simp
  | [a], _ => simp
  | a :: b :: q, k => exact False.elim ((List.pairwise_cons.1 k).1 b (by simp))
theorem SInv.len {n : Nat} {es : List E3} (s : SInv n es) (nx : ∀ (i : Nat) (h : i + 1 < es.length), es[i].t = 0 → es[i + 1].f ≠ es[i].f) : es.length ≤ n * n + n := by
  have h := count_f (n + 1) n es (fun e he => ⟨s.f0 e he, s.frm e he⟩) fun f => ?_
  · rw [Nat.mul_succ] at h; exact h
  · have hs := ((goodE_iff es).1 s.good).2
    have z := zero_one hs nx f
    have sp := filter_split (fun e : E3 => decide (e.t = 0)) (es.filter fun e => decide (e.f = f))
    have e1 : (es.filter fun e => decide (e.f = f)).filter (fun e : E3 => decide (e.t = 0)) = es.filter fun e => decide (e.f = f ∧ e.t = 0) := by
      rw [List.filter_filter]
      refine List.filter_congr fun e _ => ?_
      by_cases a : e.f = f <;> by_cases b : e.t = 0 <;> simp [a, b]
    rw [e1] at sp
    have d : (((es.filter fun e => decide (e.f = f)).filter fun e : E3 => !decide (e.t = 0)).map fun e => e.t).length ≤ n := by
      refine dis_len n _ (fun a ha => ?_) (List.pairwise_map.2 ?_)
      · obtain ⟨e, he, rfl⟩ := List.mem_map.1 ha
        obtain ⟨he1, he2⟩ := List.mem_filter.1 he
        obtain ⟨he3, _⟩ := List.mem_filter.1 he1
        simp only [Bool.not_eq_true', decide_eq_false_iff_not] at he2
        exact ⟨by omega, s.wid e he3⟩
      · have p2 : (es.filter fun e => decide (e.f = f)).Pairwise fun a b => a.t &&& b.t = 0 := by
          refine List.pairwise_filter.2 (s.dis.imp fun {a b} hab ha hb => ?_)
          simp only [decide_eq_true_eq] at ha hb
          exact hab (ha.trans hb.symm)
        exact p2.sublist List.filter_sublist
    rw [List.length_map] at d
    omega
theorem SInv.sub {n : Nat} {es fs : List E3} (s : SInv n es) (h : fs.Sublist es) (g : goodE fs = true) : SInv n fs :=
  ⟨g, fun e he => s.frm e (h.subset he), fun e he => s.wid e (h.subset he), s.dis.sublist h⟩
theorem SInv.purge {n : Nat} {es : List E3} (s : SInv n es) : SInv n (purgeE es) := by
  refine s.sub (purgeE_sub es) ?_
  unfold purgeE
  rw [if_pos s.good]
  exact good_purge s.good
theorem SInv.less {n : Nat} {es : List E3} (s : SInv n es) (to : Nat) : SInv n (lessE es to) := by
  refine ⟨good_less to s.good, ?_, ?_, ?_⟩
  all_goals unfold lessE
  all_goals rw [if_pos s.good]
  · intro e he
    obtain ⟨x, hx, rfl⟩ := List.mem_map.1 he
    exact s.frm x hx
  · intro e he
    obtain ⟨x, hx, rfl⟩ := List.mem_map.1 he
    exact Nat.lt_of_le_of_lt Nat.and_le_left (s.wid x hx)
  · refine List.pairwise_map.2 (s.dis.imp fun {a b} hab hf => ?_)
    have := hab hf
    show (a.t &&& _) &&& (b.t &&& _) = 0
    apply Nat.eq_of_testBit_eq
    intro i
    have hi := congrArg (fun x => Nat.testBit x i) this
    simp only [Nat.testBit_and, Nat.zero_testBit] at hi ⊢
    cases ha : a.t.testBit i <;> cases hb : b.t.testBit i <;> simp_all
end Go.Am
namespace Go.Am
set_option maxRecDepth 100000
set_option linter.all false
def moreF (l : List E3) (x : E3) : Bool := l.any fun e => decide (e.f = x.f ∧ x.n < e.n)
theorem last_take (es : List E3) (hs : Srt es) (f : Int) : ∀ i, i ≤ es.length → (getM (lastM (es.take i)) f = none → ∀ e ∈ es.take i, e.f ≠ f) ∧ ∀ n, getM (lastM (es.take i)) f = some n → (∃ e ∈ es.take i, e.f = f ∧ e.n = n) ∧ ∀ e ∈ es.take i, e.f = f → e.n ≤ n
  | 0, _ => by simp [lastM, getM]
  | i + 1, hi => by
    have ih := last_take es hs f i (by omega)
    have hlt : i < es.length := by omega
    have ht : es.take (i + 1) = es.take i ++ [es[i]] := by rw [List.take_succ, List.getElem?_eq_getElem hlt]; rfl
    have hlo : ∀ e ∈ es.take i, ltE e es[i] := fun e he => by
      obtain ⟨j, hj, rfl⟩ := List.getElem_of_mem he
      rw [List.length_take] at hj
      rw [List.getElem_take]
      exact List.pairwise_iff_getElem.1 hs j i (by omega) hlt (by omega)
    rw [ht, lastM_snoc, getM_put]
    by_cases hf : f = es[i].f
    · rw [if_pos hf]
      refine ⟨fun h => (by cases h), fun n hn => ?_⟩
      cases hn
      refine ⟨⟨es[i], (List.mem_append_right _ (List.mem_singleton.2 rfl)), hf.symm, rfl⟩, fun e he hef => ?_⟩
      rcases List.mem_append.1 he with he | he
      · have := hlo e he; unfold ltE at this; omega
      · rw [List.mem_singleton.1 he]; exact Nat.le_refl _
    · rw [if_neg hf]
      refine ⟨fun h e he => ?_, fun n hn => ?_⟩
      · rcases List.mem_append.1 he with he | he
        · exact ih.1 h e he
        · rw [List.mem_singleton.1 he]; exact fun h => hf h.symm
      · obtain ⟨⟨e, he, h1, h2⟩, h3⟩ := ih.2 n hn
        refine ⟨⟨e, List.mem_append_left _ he, h1, h2⟩, fun e' he' hf' => ?_⟩
        rcases List.mem_append.1 he' with he' | he'
        · exact h3 e' he' hf'
        · rw [List.mem_singleton.1 he'] at hf'; exact absurd hf'.symm hf
def gA (heard : List E3) (e : E3) : Option E3 := if bsF heard e = true then bothF heard e else if moreF heard e = true then none else some e
end Go.Am
namespace Go.Am
set_option maxRecDepth 100000
set_option linter.all false
def disR (a b : E3) : Prop := a.f = b.f → a.t &&& b.t = 0
theorem disR_symm {a b : E3} (h : disR a b) : disR b a := fun e => by rw [Nat.and_comm]; exact h e.symm
theorem pair_mem {α : Type} {R : α → α → Prop} (sy : ∀ {a b}, R a b → R b a) : ∀ {l : List α}, l.Pairwise R → ∀ {a b}, a ∈ l → b ∈ l → a ≠ b → R a b
  | [], _, a, _, ha, _, _ => by cases ha
  | x :: l, h, a, b, ha, hb, hn => by
    obtain ⟨h1, h2⟩ := List.pairwise_cons.1 h
    rcases List.mem_cons.1 ha with e1 | ha2
    · rcases List.mem_cons.1 hb with e2 | hb2
      · exact absurd (e1.trans e2.symm) hn
      · rw [e1]; exact h1 b hb2
    · rcases List.mem_cons.1 hb with e2 | hb2
      · rw [e2]; exact sy (h1 a ha2)
      · exact pair_mem sy h2 ha2 hb2 hn
theorem addE_dis {es : List E3} {x : E3} (R : E3 → E3 → Prop) (sy : ∀ {a b}, R a b → R b a) (h : es.Pairwise R) (hx : ∀ e ∈ es, R x e) : (addE es x).Pairwise R := by
  unfold addE
  split
  · split
    · rename_i hb
      have hlt := bsF_lt hb
      rw [List.set_eq_take_append_cons_drop, if_pos hlt]
      have sl : (es.take (bsK es x) ++ es.drop (bsK es x + 1)).Sublist es := by
        have := (List.Sublist.refl (es.take (bsK es x))).append (List.drop_sublist_drop_left es (Nat.le_succ (bsK es x)))
        rwa [List.take_append_drop] at this
      refine (List.perm_middle.symm).pairwise (List.pairwise_cons.2 ⟨fun e he => hx e (sl.subset he), h.sublist sl⟩) sy
    · unfold insE
      refine (List.perm_middle.symm).pairwise ?_ sy
      rw [List.take_append_drop]
      exact List.pairwise_cons.2 ⟨hx, h⟩
  · exact h
theorem SInv.add {n : Nat} {es : List E3} (s : SInv n es) {x : E3} (hm : mayE x = true) (hf : x.f < n) (ht : x.t < 2 ^ n) (hx : ∀ e ∈ es, x.f = e.f → x.t &&& e.t = 0) : SInv n (addE es x) := by
  refine ⟨good_add s.good hm, fun e he => ?_, fun e he => ?_, addE_dis disR disR_symm s.dis hx⟩
  · rcases mem_addE he with he | rfl
    · exact s.frm e he
    · exact hf
  · rcases mem_addE he with he | rfl
    · exact s.wid e he
    · exact ht
theorem out_and (a t : Nat) : t &&& outB a t = 0 := by
  unfold outB
  apply Nat.eq_of_testBit_eq
  intro i
  rw [Nat.testBit_and, Nat.testBit_and, Nat.zero_testBit]
  cases ht : t.testBit i with
  | false => rfl
  | true =>
    by_cases hi : i < 64
    · have : (2 ^ 64 - 1 - t).testBit i = false := by
        by_cases hlt : t < 2 ^ 64
        · rw [show (2 ^ 64 - 1 - t : Nat) = 2 ^ 64 - (t + 1) by omega, Nat.testBit_two_pow_sub_succ hlt, ht]; simp
        · rw [show (2 ^ 64 - 1 - t : Nat) = 0 by omega, Nat.zero_testBit]
      rw [this]; simp
    · have : (2 ^ 64 - 1 - t).testBit i = false := Nat.testBit_lt_two_pow (Nat.lt_of_lt_of_le (show 2 ^ 64 - 1 - t < 2 ^ 64 by omega) (Nat.pow_le_pow_right (by omega) (by omega)))
      rw [this]; simp
theorem SInv.send {n : Nat} {es : List E3} (s : SInv n es) (hn : n ≤ 16) (me num t : Nat) (hme : me < n) (ht : t < 2 ^ n) : SInv n (sendLog es (me : Int) num t) := by
  have h16 : (2 : Nat) ^ n ≤ 2 ^ 16 := Nat.pow_le_pow_right (by omega) hn
  unfold sendLog
  refine ((s.less t).add ?_ ?_ ht fun e he hf => ?_).purge
  · unfold mayE
    simp only [Bool.and_eq_true, decide_eq_true_eq]
    omega
  · show (me : Int) < n; omega
  · unfold lessE at he
    rw [if_pos s.good] at he
    obtain ⟨y, hy, rfl⟩ := List.mem_map.1 he
    exact out_and y.t t
theorem SInv.join {n : Nat} {es fs : List E3} (s : SInv n es) (s2 : SInv n fs) : SInv n (joinE es fs) := by
  have h1 := (goodE_iff es).1 s.good
  have h2 := (goodE_iff fs).1 s2.good
  have g := srt_join s.good s2.good
  have mem : ∀ e ∈ joinE es fs, e ∈ newsE es fs ++ newsE fs es ++ bothE es fs := fun e he => by
    unfold joinE at he
    rw [if_pos ⟨s.good, s2.good⟩] at he
    exact (srtE_perm _).subset he
  have bit : ∀ {a b c d : Nat}, a &&& b = 0 → (a &&& c) &&& (b &&& d) = 0 := fun {a b c d} h => by
    apply Nat.eq_of_testBit_eq
    intro i
    have hi := congrArg (fun x => Nat.testBit x i) h
    simp only [Nat.testBit_and, Nat.zero_testBit] at hi ⊢
    cases ha : a.testBit i <;> cases hb : b.testBit i <;> simp_all
  refine ⟨g, fun e he => ?_, fun e he => ?_, ?_⟩
  · rcases List.mem_append.1 (mem e he) with h | h
    · rcases List.mem_append.1 h with h | h
      · exact s.frm e (mem_news h2.2 h).1
      · exact s2.frm e (mem_news h1.2 h).1
    · obtain ⟨y, hy, z, hz, h3, h4, rfl⟩ := (mem_both h2.2 e).1 h
      exact s.frm y hy
  · rcases List.mem_append.1 (mem e he) with h | h
    · rcases List.mem_append.1 h with h | h
      · exact s.wid e (mem_news h2.2 h).1
      · exact s2.wid e (mem_news h1.2 h).1
    · obtain ⟨y, hy, z, hz, h3, h4, rfl⟩ := (mem_both h2.2 e).1 h
      exact Nat.lt_of_le_of_lt Nat.and_le_left (s.wid y hy)
  · have p : (newsE es fs ++ newsE fs es ++ bothE es fs).Pairwise disR := by
      have b3 : (bothE es fs).Pairwise disR := by
        unfold bothE
        refine List.pairwise_filterMap.2 (s.dis.imp fun {a b} hab x hx y hy => ?_)
        unfold bothF at hx hy
        split at hx
        · split at hy
          · cases hx; cases hy
            exact fun e => bit (hab e)
          · cases hy
        · cases hx
      refine List.pairwise_append.2 ⟨List.pairwise_append.2 ⟨s.dis.sublist List.filter_sublist, s2.dis.sublist List.filter_sublist, fun a ha b hb hf => ?_⟩, b3, fun a ha b hb => ?_⟩
      · exfalso
        have a1 := (mem_news h2.2 ha).1
        have b1 := (mem_news h1.2 hb).1
        unfold newsE at ha hb
        have a2 := (List.mem_filter.1 ha).2
        have b2 := (List.mem_filter.1 hb).2
        simp only [Bool.and_eq_true, decide_eq_true_eq] at a2 b2
        have la := last_take es h1.2 a.f es.length (Nat.le_refl _)
        have lb := last_take fs h2.2 b.f fs.length (Nat.le_refl _)
        rw [List.take_length] at la lb
        have ua : a.n ≤ (getM (lastM es) a.f).getD 0 := by
          cases hg : getM (lastM es) a.f with
          | none => exact absurd rfl (la.1 hg a a1)
          | some m => exact (la.2 m hg).2 a a1 rfl
        have ub : b.n ≤ (getM (lastM fs) b.f).getD 0 := by
          cases hg : getM (lastM fs) b.f with
          | none => exact absurd rfl (lb.1 hg b b1)
          | some m => exact (lb.2 m hg).2 b b1 rfl
        rw [← hf] at b2 ub
        omega
      · obtain ⟨y, hy, z, hz, h3, h4, rfl⟩ := (mem_both h2.2 b).1 hb
        intro hf
        simp only at hf
        rcases List.mem_append.1 ha with h | h
        · have q := mem_news h2.2 h
          have hne : a ≠ y := fun e => by subst e; exact q.2 ⟨z, hz, h3, h4⟩
          have := pair_mem disR_symm s.dis q.1 hy hne hf
          show a.t &&& (y.t &&& z.t) = 0
          rw [← Nat.and_assoc, this, Nat.zero_and]
        · have q := mem_news h1.2 h
          have hne : a ≠ z := fun e => by subst e; exact q.2 ⟨y, hy, h3.symm, h4.symm⟩
          have := pair_mem disR_symm s2.dis q.1 hz hne (hf.trans h3.symm)
          show a.t &&& (y.t &&& z.t) = 0
          rw [Nat.and_comm y.t, ← Nat.and_assoc, this, Nat.zero_and]
    unfold joinE
    rw [if_pos ⟨s.good, s2.good⟩]
    exact (srtE_perm _).symm.pairwise p disR_symm
end Go.Am
namespace Go.Am
set_option maxRecDepth 100000
set_option linter.all false
theorem outB_and (a b m : Nat) : outB a m &&& outB b m = outB (a &&& b) m := by
  unfold outB
  apply Nat.eq_of_testBit_eq
  intro i
  simp only [Nat.testBit_and]
  cases a.testBit i <;> cases b.testBit i <;> cases (2 ^ 64 - 1 - m).testBit i <;> rfl
theorem SInv.take {n : Nat} {es g : List E3} (s : SInv n es) (sg : SInv n g) (hn : n ≤ 16) (me fr k to : Nat) (hfr : fr < n) (hk : 0 < k) (hto : to < 2 ^ n) (hx : ∀ e ∈ g, e.f = (fr : Int) → outB (to &&& e.t) (ofN (me : Int)) = 0) : SInv n (takeLog es (me : Int) (fr : Int) k to g) := by
  have h16 : (2 : Nat) ^ n ≤ 2 ^ 16 := Nat.pow_le_pow_right (by omega) hn
  have hm : mayE ⟨(fr : Int), k, to⟩ = true := by
    unfold mayE
    simp only [Bool.and_eq_true, decide_eq_true_eq]
    omega
  have gA := good_add sg.good hm
  have H : SInv n (lessE (addE g ⟨(fr : Int), k, to⟩) (ofN (me : Int))) := by
    have mem : ∀ e ∈ lessE (addE g ⟨(fr : Int), k, to⟩) (ofN (me : Int)), ∃ y ∈ addE g ⟨(fr : Int), k, to⟩, e = lessF (ofN (me : Int)) y := fun e he => by
      unfold lessE at he
      rw [if_pos gA] at he
      obtain ⟨y, hy, rfl⟩ := List.mem_map.1 he
      exact ⟨y, hy, rfl⟩
    refine ⟨good_less _ gA, fun e he => ?_, fun e he => ?_, ?_⟩
    · obtain ⟨y, hy, rfl⟩ := mem e he
      rcases mem_addE hy with hy | rfl
      · exact sg.frm y hy
      · show (fr : Int) < n; omega
    · obtain ⟨y, hy, rfl⟩ := mem e he
      refine Nat.lt_of_le_of_lt (Nat.and_le_left : (lessF (ofN (me : Int)) y).t ≤ y.t) ?_
      rcases mem_addE hy with hy | rfl
      · exact sg.wid y hy
      · exact hto
    · have w : (addE g ⟨(fr : Int), k, to⟩).Pairwise fun a b => a.f = b.f → outB (a.t &&& b.t) (ofN (me : Int)) = 0 := by
        refine addE_dis (fun a b => a.f = b.f → outB (a.t &&& b.t) (ofN (me : Int)) = 0) (fun {a b} h e => by rw [Nat.and_comm]; exact h e.symm) (sg.dis.imp fun {a b} h e => by rw [h e]; unfold outB; rw [Nat.zero_and]) fun e he hf => hx e he hf.symm
      unfold lessE
      rw [if_pos gA]
      refine List.pairwise_map.2 (w.imp fun {a b} h e => ?_)
      show outB a.t _ &&& outB b.t _ = 0
      rw [outB_and]
      exact h e
  unfold takeLog
  exact ((s.join H).less _).purge
theorem mem_less {es : List E3} {to : Nat} {e : E3} (h : e ∈ lessE es to) : ∃ y ∈ es, y.f = e.f ∧ y.n = e.n := by
  unfold lessE at h
  split at h
  · obtain ⟨y, hy, rfl⟩ := List.mem_map.1 h
    exact ⟨y, hy, rfl, rfl⟩
  · exact ⟨e, h, rfl, rfl⟩
theorem mem_joinE {es fs : List E3} {e : E3} (h : e ∈ joinE es fs) : (∃ y ∈ es, y.f = e.f ∧ y.n = e.n) ∨ ∃ y ∈ fs, y.f = e.f ∧ y.n = e.n := by
  unfold joinE at h
  split at h
  · rename_i hg
    have h2 := ((goodE_iff fs).1 hg.2).2
    have h1 := ((goodE_iff es).1 hg.1).2
    rcases List.mem_append.1 ((srtE_perm _).subset h) with h | h
    · rcases List.mem_append.1 h with h | h
      · exact .inl ⟨e, (mem_news h2 h).1, rfl, rfl⟩
      · exact .inr ⟨e, (mem_news h1 h).1, rfl, rfl⟩
    · obtain ⟨y, hy, z, hz, h3, h4, rfl⟩ := (mem_both h2 e).1 h
      exact .inl ⟨y, hy, rfl, rfl⟩
  · exact .inl ⟨e, h, rfl, rfl⟩
def NBd (nums : List Nat) (es : List E3) : Prop := ∀ e ∈ es, e.n ≤ nums.getD e.f.toNat 0
theorem NBd.key {nums : List Nat} {es : List E3} (b : NBd nums es) {e : E3} (h : ∃ y ∈ es, y.f = e.f ∧ y.n = e.n) : e.n ≤ nums.getD e.f.toNat 0 := by
  obtain ⟨y, hy, h1, h2⟩ := h
  rw [← h1, ← h2]
  exact b y hy
theorem NBd.more {nums nums' : List Nat} {es : List E3} (b : NBd nums es) (h : ∀ i, nums.getD i 0 ≤ nums'.getD i 0) : NBd nums' es := fun e he => Nat.le_trans (b e he) (h _)
theorem NBd.send {nums : List Nat} {es : List E3} (b : NBd nums es) (me : Nat) (num t : Nat) (h : num + 1 ≤ nums.getD me 0) : NBd nums (sendLog es (me : Int) num t) := fun e he => by
  unfold sendLog at he
  rcases mem_addE (mem_purgeE he) with he | rfl
  · exact b.key (mem_less he)
  · exact h
theorem NBd.take {nums : List Nat} {es g : List E3} (b : NBd nums es) (bg : NBd nums g) (me : Int) (fr k to : Nat) (h : k ≤ nums.getD fr 0) : NBd nums (takeLog es me (fr : Int) k to g) := fun e he => by
  unfold takeLog at he
  obtain ⟨y, hy, h1, h2⟩ := mem_less (mem_purgeE he)
  rw [← h1, ← h2]
  rcases mem_joinE hy with hz | hz
  · exact b.key hz
  · obtain ⟨z, hz, h3, h4⟩ := hz
    obtain ⟨u, hu, h5, h6⟩ := mem_less hz
    rw [← h3, ← h4, ← h5, ← h6]
    rcases mem_addE hu with hu | rfl
    · exact bg u hu
    · exact h
theorem NBd.stamp {nums : List Nat} {es : List E3} (b : NBd nums es) (t : Nat) : NBd nums (purgeE (lessE es t)) := fun e he => b.key (mem_less (mem_purgeE he))
theorem stamp_own {es : List E3} (hg : goodE es = true) (t : Nat) (m : Nat) : ∀ e ∈ purgeE (lessE es (outB t m)), outB (t &&& e.t) m = 0 := fun e he => by
  have he := mem_purgeE he
  unfold lessE at he
  rw [if_pos hg] at he
  obtain ⟨y, hy, rfl⟩ := List.mem_map.1 he
  show outB (t &&& outB y.t (outB t m)) m = 0
  have e1 : outB (t &&& outB y.t (outB t m)) m = outB t m &&& outB y.t (outB t m) := by
    unfold outB
    apply Nat.eq_of_testBit_eq
    intro i
    simp only [Nat.testBit_and]
    cases t.testBit i <;> cases y.t.testBit i <;> cases (2 ^ 64 - 1 - m).testBit i <;> simp
  rw [e1]
  exact out_and y.t (outB t m)
end Go.Am
namespace Go.Am
open Go.Proofs
set_option maxRecDepth 100000
set_option linter.all false
attribute [local congr] obind_congr obH_congr cnd_congr chk_congr retK_congr codeK_congr
structure K9 (b x : Nat → Value) : Prop where
  e0 : x 0 = b 0
  e1 : x 1 = b 1
  e5 : x 5 = b 5
  e9 : x 9 = b 9
  e10 : x 10 = b 10
  e11 : x 11 = b 11
  e12 : x 12 = b 12
theorem ls_in {β : Type} {Q : Option β → Prop} {kk : Ex → St → Option β} {n : Nat} {es : List E3} {pl k : Nat} {h : Heap} {a : Option Addr} {c : Nat} {b : Nat → Value} (I : SInv n es) (hw : wide es) (hlen : es.length < 2 ^ 40) (l0 : h.load1 pl 0 = some (.slice a es.length c)) (s : SE h (.slice a es.length c) es) (hk : k < es.length)
    (hq : ∀ y : Nat → Value, K9 b y → y 19 = .pointer (some ⟨pl, 0, none⟩) → y 20 = .int .i64 k → Q (kk .normal ⟨ar 292 y, h⟩)) :
    ∀ (m q : Nat), k = q + m → ∀ x : Nat → Value, K9 b x → x 19 = .pointer (some ⟨pl, 0, none⟩) → x 20 = .int .i64 k → x 21 = .int .i64 q → Q (lK c4_22 292 x h (blockK 8 kk)) := by
  intro m
  obtain ⟨b1, o1, _, _, hix, hld⟩ := s.at' (t := 63) (el := 68) (by kernel_rfl) (by kernel_rfl) hk
  obtain ⟨_, f0, _, f2⟩ := hld h rfl
  have hi := hix .i64
  induction m with
  | zero =>
    intro q hm x K Av Aw Ax
    rw [lK_eq]
    obtain rfl : q = k := by omega
    simp -implicitDefEqProofs (disch := omega) only [↓c4_22_eq, dcF,Av,Aw,Ax, ↓cnd_true, ↓cnd_false, ↓Option.bind_some, ↓obH_some', bin_add, bin_sub, bin_mul, bin_lss, bin_leq, bin_gtr, bin_geq, bin_eql, bin_neq, un_not, un_neg, Option.bind_some, Option.bind_none, Option.map_some, cnd_true, cnd_false, pickV_true, pickV_false, gd_true, gd_false, gdV_true, gdV_false, gdH_true, gdH_false, gdS_true, gdS_false, wt_ff, wt_tt, wt_ft, wt_tf, wt_undef, obH_some', extractV_tuple, nilCheckV_ptr, againK_normal, againK_exit, againK_ret, blockK_normal, blockK_same, blockK_ret, seqK_normal, seqK_exit, seqK_ret, fin_done, if_true', if_false', Bool.not_true, Bool.not_false, idx0, idx1, idx2, idx3, idx4, chk_nil_l, chk_nil_r, done_nm, up_cons, up_nil, cond_true, cond_false, Nat.reduceBEq]
    exact hq _ ⟨K.e0, K.e1, K.e5, K.e9, K.e10, K.e11, K.e12⟩ Av Aw
  | succ m ih =>
    intro q hm x K Av Aw Ax
    rw [lK_eq]
    have hlt : q < es.length := by omega
    obtain ⟨b2, o2, _, _, hix2, hld2⟩ := s.at' (t := 63) (el := 68) (by kernel_rfl) (by kernel_rfl) hlt
    obtain ⟨_, g0, _, g2⟩ := hld2 h rfl
    have hi2 := hix2 .i64
    have hwr : IntKind.wrap .i64 ((q : Int) + 1) = ((q + 1 : Nat) : Int) := by rw [wrap_i64] <;> omega
    have an := fun t xo yo => anU t xo yo es[k].t es[q].t (hw _ (List.getElem_mem hk)).2 (hw _ (List.getElem_mem hlt)).2
    by_cases hf : es[k].f = es[q].f
    · have d := List.pairwise_iff_getElem.1 I.dis q k hlt hk (by omega) hf.symm
      rw [Nat.and_comm] at d
      have nz : decide (((es[k].t &&& es[q].t : Nat) : Int) ≠ 0) = false := decide_eq_false (by rw [d]; simp)
      simp -implicitDefEqProofs (disch := omega) only [↓c4_22_eq, dcT,Av,Aw,Ax, faL, ldEs, l0, hi, hi2, faE0, faE2, ldI, ldS, f0, f2, g0, g2, decide_eq_true hf, an, nz, hwr, ↓cnd_true, ↓cnd_false, ↓Option.bind_some, ↓obH_some', bin_add, bin_sub, bin_mul, bin_lss, bin_leq, bin_gtr, bin_geq, bin_eql, bin_neq, un_not, un_neg, Option.bind_some, Option.bind_none, Option.map_some, cnd_true, cnd_false, pickV_true, pickV_false, gd_true, gd_false, gdV_true, gdV_false, gdH_true, gdH_false, gdS_true, gdS_false, wt_ff, wt_tt, wt_ft, wt_tf, wt_undef, obH_some', extractV_tuple, nilCheckV_ptr, againK_normal, againK_exit, againK_ret, blockK_normal, blockK_same, blockK_ret, seqK_normal, seqK_exit, seqK_ret, fin_done, if_true', if_false', Bool.not_true, Bool.not_false, idx0, idx1, idx2, idx3, idx4, chk_nil_l, chk_nil_r, done_nm, up_cons, up_nil, cond_true, cond_false, Nat.reduceBEq]
      exact ih (q + 1) (by omega) _ ⟨K.e0, K.e1, K.e5, K.e9, K.e10, K.e11, K.e12⟩ Av Aw rfl
    · simp -implicitDefEqProofs (disch := omega) only [↓c4_22_eq, dcT,Av,Aw,Ax, faL, ldEs, l0, hi, hi2, faE0, faE2, ldI, ldS, f0, f2, g0, g2, decide_eq_false hf, hwr, ↓cnd_true, ↓cnd_false, ↓Option.bind_some, ↓obH_some', bin_add, bin_sub, bin_mul, bin_lss, bin_leq, bin_gtr, bin_geq, bin_eql, bin_neq, un_not, un_neg, Option.bind_some, Option.bind_none, Option.map_some, cnd_true, cnd_false, pickV_true, pickV_false, gd_true, gd_false, gdV_true, gdV_false, gdH_true, gdH_false, gdS_true, gdS_false, wt_ff, wt_tt, wt_ft, wt_tf, wt_undef, obH_some', extractV_tuple, nilCheckV_ptr, againK_normal, againK_exit, againK_ret, blockK_normal, blockK_same, blockK_ret, seqK_normal, seqK_exit, seqK_ret, fin_done, if_true', if_false', Bool.not_true, Bool.not_false, idx0, idx1, idx2, idx3, idx4, chk_nil_l, chk_nil_r, done_nm, up_cons, up_nil, cond_true, cond_false, Nat.reduceBEq]
      exact ih (q + 1) (by omega) _ ⟨K.e0, K.e1, K.e5, K.e9, K.e10, K.e11, K.e12⟩ Av Aw rfl
theorem faMv1 (p : Nat) : fieldAddrV Tryd.prog 55 (.pointer (some ⟨p, 0, none⟩)) 1 = some (.pointer (some ⟨p, 1, none⟩)) := by kernel_rfl
theorem ls_out {β : Type} {Q : Option β → Prop} {kk : Ex → St → Option β} {n me : Nat} {es : List E3} {ns : List Nat} {pl pm : Nat} {h : Heap} {a : Option Addr} {c : Nat} {nv : Value} {b : Nat → Value} (I : SInv n es) (hw : wide es) (hlen : es.length < 2 ^ 40) (l0 : h.load1 pl 0 = some (.slice a es.length c)) (s : SE h (.slice a es.length c) es)
    (N : NBd ns es) (hn : ns.length = n) (hns : ∀ i ∈ ns, i < 2 ^ 64) (su : SU h nv ns) (b10 : b 10 = nv) (b12 : b 12 = .pointer (some ⟨pm, 0, none⟩)) (lp : h.load1 pm 1 = some (.int .i64 (me : Nat))) (hh : ∀ e ∈ es, hasB e.t (me : Nat) = false)
    (hq : ∀ y : Nat → Value, K9 b y → y 19 = .pointer (some ⟨pl, 0, none⟩) → Q (kk .normal ⟨ar 292 y, h⟩)) :
    ∀ (m j : Nat), es.length = j + m → ∀ x : Nat → Value, K9 b x → x 19 = .pointer (some ⟨pl, 0, none⟩) → x 20 = .int .i64 j → Q (lK c4_18 292 x h (blockK 6 kk)) := by
  intro m
  induction m with
  | zero =>
    intro j hm x K Av Aw
    rw [lK_eq]
    obtain rfl : j = es.length := by omega
    simp -implicitDefEqProofs (disch := omega) only [↓c4_18_eq, dcF,Av,Aw, faL, ldEs, l0, lnEs, ↓cnd_true, ↓cnd_false, ↓Option.bind_some, ↓obH_some', bin_add, bin_sub, bin_mul, bin_lss, bin_leq, bin_gtr, bin_geq, bin_eql, bin_neq, un_not, un_neg, Option.bind_some, Option.bind_none, Option.map_some, cnd_true, cnd_false, pickV_true, pickV_false, gd_true, gd_false, gdV_true, gdV_false, gdH_true, gdH_false, gdS_true, gdS_false, wt_ff, wt_tt, wt_ft, wt_tf, wt_undef, obH_some', extractV_tuple, nilCheckV_ptr, againK_normal, againK_exit, againK_ret, blockK_normal, blockK_same, blockK_ret, seqK_normal, seqK_exit, seqK_ret, fin_done, if_true', if_false', Bool.not_true, Bool.not_false, idx0, idx1, idx2, idx3, idx4, chk_nil_l, chk_nil_r, done_nm, up_cons, up_nil, cond_true, cond_false, Nat.reduceBEq]
    exact hq _ ⟨K.e0, K.e1, K.e5, K.e9, K.e10, K.e11, K.e12⟩ Av
  | succ m ih =>
    intro j hm x K Av Aw
    rw [lK_eq]
    have hlt : j < es.length := by omega
    simp -implicitDefEqProofs (disch := omega) only [↓c4_18_eq, dcT,Av,Aw, faL, ldEs, l0, lnEs, ↓cnd_true, ↓cnd_false, ↓Option.bind_some, ↓obH_some', bin_add, bin_sub, bin_mul, bin_lss, bin_leq, bin_gtr, bin_geq, bin_eql, bin_neq, un_not, un_neg, Option.bind_some, Option.bind_none, Option.map_some, cnd_true, cnd_false, pickV_true, pickV_false, gd_true, gd_false, gdV_true, gdV_false, gdH_true, gdH_false, gdS_true, gdS_false, wt_ff, wt_tt, wt_ft, wt_tf, wt_undef, obH_some', extractV_tuple, nilCheckV_ptr, againK_normal, againK_exit, againK_ret, blockK_normal, blockK_same, blockK_ret, seqK_normal, seqK_exit, seqK_ret, fin_done, if_true', if_false', Bool.not_true, Bool.not_false, idx0, idx1, idx2, idx3, idx4, chk_nil_l, chk_nil_r, done_nm, up_cons, up_nil, cond_true, cond_false, Nat.reduceBEq]
    refine ls_in (b := b) I hw hlen l0 s hlt (fun y K' y19 y20 => ?_) j 0 (by omega) _ ⟨K.e0, K.e1, K.e5, K.e9, K.e10, K.e11, K.e12⟩ Av Aw rfl
    obtain ⟨b1, o1, _, _, hix, hld⟩ := s.at' (t := 63) (el := 68) (by kernel_rfl) (by kernel_rfl) hlt
    obtain ⟨_, f0, f1, f2⟩ := hld h rfl
    have hi := hix .i64
    have y10 : y 10 = nv := K'.e10.trans b10
    have y12 : y 12 = .pointer (some ⟨pm, 0, none⟩) := K'.e12.trans b12
    have hf0 := I.f0 _ (List.getElem_mem hlt)
    have hf1 := I.frm _ (List.getElem_mem hlt)
    obtain ⟨f, hf⟩ : ∃ f : Nat, es[j].f = f := ⟨es[j].f.toNat, by omega⟩
    have nb := N _ (List.getElem_mem hlt)
    rw [hf] at f0 nb
    rw [Int.toNat_natCast] at nb
    obtain ⟨ad, u1, u2⟩ := su_at su etU.under (i := f) (by omega)
    have hs := spec_Has es[j].t (hw _ (List.getElem_mem hlt)).2 (me : Nat) h
    rw [hh _ (List.getElem_mem hlt)] at hs
    have hwr : IntKind.wrap .i64 ((j : Int) + 1) = ((j + 1 : Nat) : Int) := by rw [wrap_i64] <;> omega
    simp -implicitDefEqProofs (disch := omega) only [↓c4_23_eq, ↓c4_24_eq, dcF, y19, y20, y10, y12, faL, ldEs, l0, hi, faE0, faE1, faE2, faMv1, ldI, ldU64, ldS, f0, f1, f2, u1, u2, lp, hs, hwr, ↓cnd_true, ↓cnd_false, ↓Option.bind_some, ↓obH_some', bin_add, bin_sub, bin_mul, bin_lss, bin_leq, bin_gtr, bin_geq, bin_eql, bin_neq, un_not, un_neg, Option.bind_some, Option.bind_none, Option.map_some, cnd_true, cnd_false, pickV_true, pickV_false, gd_true, gd_false, gdV_true, gdV_false, gdH_true, gdH_false, gdS_true, gdS_false, wt_ff, wt_tt, wt_ft, wt_tf, wt_undef, obH_some', extractV_tuple, nilCheckV_ptr, againK_normal, againK_exit, againK_ret, blockK_normal, blockK_same, blockK_ret, seqK_normal, seqK_exit, seqK_ret, fin_done, if_true', if_false', Bool.not_true, Bool.not_false, idx0, idx1, idx2, idx3, idx4, chk_nil_l, chk_nil_r, done_nm, up_cons, up_nil, cond_true, cond_false, Nat.reduceBEq]
    exact ih (j + 1) (by omega) _ ⟨K'.e0, K'.e1, K'.e5, K'.e9, K'.e10, K'.e11, K'.e12⟩ y19 rfl
end Go.Am
namespace Go.Am
open Go.Proofs
set_option maxRecDepth 100000
set_option linter.all false
attribute [local congr] obind_congr obH_congr cnd_congr chk_congr retK_congr codeK_congr
def updN {α : Type} (f : Nat → α) (i : Nat) (v : α) : Nat → α := fun j => if j = i then v else f j
theorem updN_self {α : Type} (f : Nat → α) (i : Nat) (v : α) : updN f i v i = v := if_pos rfl
theorem updN_ne {α : Type} (f : Nat → α) {i j : Nat} (v : α) (h : j ≠ i) : updN f i v j = f j := if_neg h
structure LGrp (h : Heap) (n base : Nat) (ps : List (Nat × Nat)) (E : Nat → List E3) (S : Nat → List Nat) (num : Nat → Nat) : Prop where
  eng : ∀ i (hi : i < ps.length), LEn h ps[i].1 ps[i].2 n (i : Nat) (num i) (E i) (S i)
  low : ∀ i (hi : i < ps.length), base ≤ ps[i].1 ∧ base ≤ ps[i].2 ∧ ps[i].1 ≠ ps[i].2
  sep : ps.Pairwise fun a b => a.1 ≠ b.1 ∧ a.2 ≠ b.2
theorem LGrp.same {h h' : Heap} {n base : Nat} {ps : List (Nat × Nat)} {E : Nat → List E3} {S : Nat → List Nat} {num : Nat → Nat} (G : LGrp h n base ps E S num) (e : Same h h') : LGrp h' n base ps E S num :=
  ⟨fun i hi => (G.eng i hi).same e, G.low, G.sep⟩
theorem LGrp.kp {h h' : Heap} {n base : Nat} {ps : List (Nat × Nat)} {E : Nat → List E3} {S : Nat → List Nat} {num : Nat → Nat} (G : LGrp h n base ps E S num) (e : KpB h h') : LGrp h' n base ps E S num :=
  ⟨fun i hi => (G.eng i hi).kp e, G.low, G.sep⟩
theorem LGrp.ne {h : Heap} {n base : Nat} {ps : List (Nat × Nat)} {E : Nat → List E3} {S : Nat → List Nat} {num : Nat → Nat} (G : LGrp h n base ps E S num) {i j : Nat} (hi : i < ps.length) (hj : j < ps.length) (h : j ≠ i) : ps[j].1 ≠ ps[i].1 ∧ ps[j].2 ≠ ps[i].2 := by
  rcases Nat.lt_or_gt_of_ne h with h | h
  · exact List.pairwise_iff_getElem.1 G.sep j i hj hi h
  · have := List.pairwise_iff_getElem.1 G.sep i j hi hj h
    exact ⟨Ne.symm this.1,Ne.symm this.2⟩
theorem LGrp.turn {T : Nat → Prop} {h h' : Heap} {n base : Nat} {ps : List (Nat × Nat)} {E : Nat → List E3} {S : Nat → List Nat} {num : Nat → Nat} (G : LGrp h n base ps E S num) {i : Nat} (hi : i < ps.length) (m : HMod T h h') (hT : ∀ b, T b → b = ps[i].1 ∨ b = ps[i].2)
    {num' : Nat} {es' : List E3} {ns' : List Nat} (l : LEn h' ps[i].1 ps[i].2 n (i : Nat) num' es' ns') : LGrp h' n base ps (updN E i es') (updN S i ns') (updN num i num') := by
  refine ⟨fun j hj => ?_, G.low, G.sep⟩
  by_cases e : j = i
  · subst e
    rw [updN_self, updN_self, updN_self]
    exact l
  · rw [updN_ne _ _ e, updN_ne _ _ e, updN_ne _ _ e]
    obtain ⟨h1, h2⟩ := G.ne hi hj e
    exact LEn.others (G.eng i hi) m hT (G.eng j hj) h1 h2
theorem LGrp.add {h h' : Heap} {n base : Nat} {ps : List (Nat × Nat)} {E : Nat → List E3} {S : Nat → List Nat} {num : Nat → Nat} (G : LGrp h n base ps E S num) (e : Same h h') (hb : base ≤ h.blks.length) (l : LEn h' (h.blks.length + 1) h.blks.length n (ps.length : Nat) (num ps.length) (E ps.length) (S ps.length)) : LGrp h' n base (ps ++ [(h.blks.length + 1, h.blks.length)]) E S num := by
  refine ⟨fun j hj => ?_, fun j hj => ?_, ?_⟩
  · rcases Nat.lt_or_ge j ps.length with hl | hl
    · simp only [List.getElem_append_left hl]
      exact (G.eng j hl).same e
    · have : j = ps.length := by simp at hj; omega
      subst this
      simp only [List.getElem_append_right (Nat.le_refl _), Nat.sub_self, List.getElem_cons_zero]
      exact l
  · rcases Nat.lt_or_ge j ps.length with hl | hl
    · simp only [List.getElem_append_left hl]
      exact G.low j hl
    · have : j = ps.length := by simp at hj; omega
      subst this
      simp only [List.getElem_append_right (Nat.le_refl _), Nat.sub_self, List.getElem_cons_zero]
      omega
  · refine List.pairwise_append.2 ⟨G.sep, List.pairwise_singleton _ _, fun a ha b hb' => ?_⟩
    rw [List.mem_singleton] at hb'
    subst hb'
    obtain ⟨i, hi, rfl⟩ := List.getElem_of_mem ha
    obtain ⟨_, _, ce, _⟩ := (G.eng i hi).eng
    have h1 := ce.lt
    have h2 := (G.eng i hi).seen.lt
    constructor
    · show ps[i].1 ≠ h.blks.length + 1; omega
    · show ps[i].2 ≠ h.blks.length; omega
end Go.Am
namespace Go.Am
open Go.Proofs
set_option maxRecDepth 100000
set_option linter.all false
attribute [local congr] obind_congr obH_congr cnd_congr chk_congr retK_congr codeK_congr
def KpT (t : TypeId) (h h' : Heap) : Prop := h.blks.length ≤ h'.blks.length ∧ ∀ (q : Nat) (all : List Value) (ty : TypeId), h.blks[q]? = some ⟨.cells all, ty, true⟩ → ty ≠ t → h'.blks[q]? = h.blks[q]?
theorem KpT.trans {t : TypeId} {a b c : Heap} (h : KpT t a b) (k : KpT t b c) : KpT t a c :=
  ⟨Nat.le_trans h.1 k.1, fun q all ty hb ht => by have e := h.2 q all ty hb ht; exact (k.2 q all ty (e.trans hb) ht).trans e⟩
theorem Same.kpT {t : TypeId} {h h' : Heap} (e : Same h h') : KpT t h h' := ⟨e.1, fun q all ty hb _ => e.2 q (List.getElem?_eq_some_iff.1 hb).1⟩
theorem Cells.kpT {t : TypeId} {h h' : Heap} {p : Nat} {ty : TypeId} {cs : List Value} (c : Cells h p ty cs) (k : KpT t h h') (ht : ty ≠ t) : Cells h' p ty cs := (k.2 p cs ty c ht).trans c
theorem Acc.kpT {t : TypeId} {n0 : Nat} {h h' : Heap} {elem : TypeId} {es n : Nat} {v : Value} {cs : List Value} (a : Acc n0 h elem es v n cs) (k : KpT t h h') (ht : elem ≠ t) : Acc n0 h' elem es v n cs :=
  a.keep fun b _ hb => by obtain ⟨all, hk⟩ := a.blk hb; exact k.2 b all elem hk ht
theorem LEn.kpT {t : TypeId} {h h' : Heap} {p s : Nat} {n me : Int} {num : Nat} {es : List E3} {ns : List Nat} (l : LEn h p s n me num es ns) (k : KpT t h h') (h1 : 96 ≠ t) (h2 : 23 ≠ t) (h3 : 68 ≠ t) : LEn h' p s n me num es ns :=
  let ⟨la, lc, a, b⟩ := l.eng
  ⟨⟨la, lc, a.kpT k h1, b.kpT k h3⟩, l.seen.kpT k h2, l.len⟩
theorem LGrp.kpT {t : TypeId} {h h' : Heap} {n base : Nat} {ps : List (Nat × Nat)} {E : Nat → List E3} {S : Nat → List Nat} {num : Nat → Nat} (G : LGrp h n base ps E S num) (k : KpT t h h') (h1 : 96 ≠ t) (h2 : 23 ≠ t) (h3 : 68 ≠ t) : LGrp h' n base ps E S num :=
  ⟨fun i hi => (G.eng i hi).kpT k h1 h2 h3, G.low, G.sep⟩
theorem etP : ElemT Tryd.prog 51 33 1 8 (.pointer none) := ⟨by kernel_rfl, by kernel_rfl, by kernel_rfl, by kernel_rfl, by omega, rfl, rfl⟩
def ptrW (p : Nat × Nat) : Value := .pointer (some ⟨p.1, 0, none⟩)
theorem mkP1 (p : Nat) (h : Heap) : buildSliceV Tryd.prog 51 1 #[(0, .pointer (some ⟨p, 0, none⟩))] h = some (.slice (some ⟨h.blks.length, 0, none⟩) 1 1, h.new (.cells [.pointer (some ⟨p, 0, none⟩)]) 33) := by kernel_rfl
theorem app_ptr {n0 : Nat} {h : Heap} (hn0 : n0 ≤ h.blks.length) {v : Value} {ps : List (Nat × Nat)} (ha : Acc n0 h 33 1 v ps.length (ps.map ptrW)) (b : Nat × Nat) (hl : ps.length < 2 ^ 39) :
    ∃ a c h', appendV Tryd.prog 51 (some 51) v (.slice (some ⟨h.blks.length, 0, none⟩) 1 1) (h.new (.cells [.pointer (some ⟨b.1, 0, none⟩)]) 33) = some (.slice a (ps ++ [b]).length c, h') ∧ Acc n0 h' 33 1 (.slice a (ps ++ [b]).length c) (ps ++ [b]).length ((ps ++ [b]).map ptrW) ∧ Keeps n0 h h' ∧ KpT 33 h h' := by
  have ha' : Acc n0 (h.new (.cells [.pointer (some ⟨b.1, 0, none⟩)]) 33) 33 1 v ps.length (ps.map ptrW) := ha.keep fun _ hb _ => Heap.new_old hb
  have hlit : Sl Tryd.prog (h.new (.cells [.pointer (some ⟨b.1, 0, none⟩)]) 33) 1 (.slice (some ⟨h.blks.length, 0, none⟩) 1 1) 1 [ptrW b] :=
    .mk (by simp [Heap.loadN, Heap.cells?, blk_new_self, ptrW]) (.inr ⟨Nat.le_refl _, by unfold UNK; omega⟩)
  obtain ⟨v', h', e1, e2, e3, e4, e5⟩ := append_acc etP (t1 := some 51) (n0 := n0) (by simp [Heap.new]; omega) ha' (newsV_row etP.under hlit.row) (by simp) (by omega) (by omega) rfl
  obtain ⟨a, c, rfl⟩ := e2.shape
  have el : ps.length + 1 = (ps ++ [b]).length := by simp
  rw [el] at e1 e2
  rw [show ps.map ptrW ++ [ptrW b] = (ps ++ [b]).map ptrW by simp] at e2
  refine ⟨a, c, h', e1, e2, (Keeps.new hn0 _ _).trans e3, ?_, fun q all ty hq ht => ?_⟩
  · have := e3.len; simp [Heap.new] at this; omega
  · have hlt := (List.getElem?_eq_some_iff.1 hq).1
    refine (e4 q (by simp [Heap.new]; omega) fun e => ?_).trans (Heap.new_old hlt)
    obtain ⟨all', hk⟩ := Acc.blk ha e
    rw [hk] at hq
    cases hq
    exact ht rfl
theorem ls_new {β : Type} {Q : Option β → Prop} {kk : Ex → St → Option β} {n : Nat} {h00 : Heap} {v1 : Value} (hn : n ≤ 16) (hk : ∀ (h : Heap) (y : Nat → Value) (ps : List (Nat × Nat)) (a : Option Addr) (c : Nat), ps.length = n → LGrp h n h00.blks.length ps (fun _ => []) (fun _ => List.replicate n 0) (fun _ => 0) → Acc h00.blks.length h 33 1 (.slice a n c) n (ps.map ptrW) → Same h00 h →
      y 0 = .int .i64 n → y 1 = v1 → y 5 = .slice a n c → Q (kk .normal ⟨ar 292 y, h⟩)) :
    ∀ (m i : Nat), n = i + m → ∀ (h : Heap) (x : Nat → Value) (ps : List (Nat × Nat)) (a : Option Addr) (c : Nat), ps.length = i → Same h00 h → LGrp h n h00.blks.length ps (fun _ => []) (fun _ => List.replicate n 0) (fun _ => 0) → Acc h00.blks.length h 33 1 (.slice a ps.length c) ps.length (ps.map ptrW) →
    x 0 = .int .i64 n → x 1 = v1 → x 5 = .slice a ps.length c → x 6 = .int .i64 i → Q (lK c4_1 292 x h (blockK 0 kk)) := by
  intro m
  induction m with
  | zero =>
    intro i hi h x ps a c hp hb G A Aa Ab Af Ag
    rw [lK_eq]
    obtain rfl : i = n := by omega
    rw [hp] at A Af
    simp -implicitDefEqProofs (disch := omega) only [↓c4_1_eq, dcF,Aa,Ag, ↓cnd_true, ↓cnd_false, ↓Option.bind_some, ↓obH_some', bin_add, bin_sub, bin_mul, bin_lss, bin_leq, bin_gtr, bin_geq, bin_eql, bin_neq, un_not, un_neg, Option.bind_some, Option.bind_none, Option.map_some, cnd_true, cnd_false, pickV_true, pickV_false, gd_true, gd_false, gdV_true, gdV_false, gdH_true, gdH_false, gdS_true, gdS_false, wt_ff, wt_tt, wt_ft, wt_tf, wt_undef, obH_some', extractV_tuple, nilCheckV_ptr, againK_normal, againK_exit, againK_ret, blockK_normal, blockK_same, blockK_ret, seqK_normal, seqK_exit, seqK_ret, fin_done, if_true', if_false', Bool.not_true, Bool.not_false, idx0, idx1, idx2, idx3, idx4, chk_nil_l, chk_nil_r, done_nm, up_cons, up_nil, cond_true, cond_false, Nat.reduceBEq]
    exact hk h _ ps a c hp G A hb Aa Ab Af
  | succ m ih =>
    intro i hi h x ps a c hp hb G A Aa Ab Af Ag
    rw [lK_eq]
    obtain ⟨h2, e2, y2, l2⟩ := spec_leanNew n (i : Nat) (by omega) hn (by omega) (by omega) h
    have G2 := G.add (E := fun _ => []) (S := fun _ => List.replicate n 0) (num := fun _ => 0) y2.same hb.1 (by rw [hp]; exact l2)
    have hb2 : h00.blks.length ≤ h2.blks.length := Nat.le_trans hb.1 y2.len
    obtain ⟨a3, c3, h3, q3, A3, k3, t3⟩ := app_ptr hb2 (A.same y2.same) (h.blks.length + 1, h.blks.length) (by omega)
    have wi : IntKind.wrap .i64 ((i : Int) + 1) = ((i + 1 : Nat) : Int) := by rw [wrap_i64] <;> omega
    simp -implicitDefEqProofs (disch := omega) only [↓c4_1_eq, dcT,Aa,Af,Ag, e2, mkP1, q3, wi, ↓cnd_true, ↓cnd_false, ↓Option.bind_some, ↓obH_some', bin_add, bin_sub, bin_mul, bin_lss, bin_leq, bin_gtr, bin_geq, bin_eql, bin_neq, un_not, un_neg, Option.bind_some, Option.bind_none, Option.map_some, cnd_true, cnd_false, pickV_true, pickV_false, gd_true, gd_false, gdV_true, gdV_false, gdH_true, gdH_false, gdS_true, gdS_false, wt_ff, wt_tt, wt_ft, wt_tf, wt_undef, obH_some', extractV_tuple, nilCheckV_ptr, againK_normal, againK_exit, againK_ret, blockK_normal, blockK_same, blockK_ret, seqK_normal, seqK_exit, seqK_ret, fin_done, if_true', if_false', Bool.not_true, Bool.not_false, idx0, idx1, idx2, idx3, idx4, chk_nil_l, chk_nil_r, done_nm, up_cons, up_nil, cond_true, cond_false, Nat.reduceBEq]
    exact ih (i + 1) (by omega) h3 _ (ps ++ [(h.blks.length + 1, h.blks.length)]) a3 c3 (by simp; omega) ⟨Nat.le_trans hb2 k3.len, fun q hq => (k3.old q hq).trans ((hb.trans y2.same).2 q hq)⟩ (G2.kpT t3 (by decide) (by decide) (by decide)) A3 Aa Ab rfl rfl
end Go.Am
namespace Go.Am
open Go.Proofs
set_option maxRecDepth 100000
set_option linter.all false
attribute [local congr] obind_congr obH_congr cnd_congr chk_congr retK_congr codeK_congr
theorem Acc.tail {P : Program} {t elem : TypeId} {es : Nat} (hu : P.underlying t = some (.slice elem)) (hs : sizeT P elem = some es) {n0 : Nat} {h : Heap} {v : Value} {n : Nat} {cs : List Value} (a : Acc n0 h elem es v (n + 1) cs) :
    ∃ w, sliceV P t v (some (.int .i64 1)) none none h = some w ∧ Acc n0 h elem es w n (cs.drop es) ∧ blockOf w = blockOf v := by
  have nat1 : natOf? (.int .i64 1) = some 1 := natOf_int .i64 1
  have mul : (n + 1) * es = es + n * es := by rw [Nat.add_mul, Nat.one_mul, Nat.add_comm]
  cases a with
  | full h1 h2 h3 h4 h5 =>
    rename_i b o all
    have hU : n + 1 < UNK := by unfold UNK; omega
    refine ⟨.slice (some (if n + 1 = 1 then ⟨b, o, none⟩ else ⟨b, o + 1 * es, none⟩)) n n, ?_, ?_, ?_⟩
    · unfold sliceV
      simp only [hu, hs, Option.elim, nat1, Option.isSome, Bool.false_eq_true, if_false]
      rw [if_neg (by omega), if_pos ⟨by omega, by omega, hU⟩]
      simp
    · by_cases e : n + 1 = 1
      · rw [if_pos e]
        obtain rfl : n = 0 := by omega
        refine .full h1 (by omega) h3 (by omega) ?_
        rw [← h5, mul, Nat.zero_mul, Nat.add_zero, List.take_zero]
        rw [List.drop_take, Nat.sub_self, List.take_zero]
      · rw [if_neg e, Nat.one_mul]
        refine .full h1 (by omega) h3 (by omega) ?_
        rw [← h5, mul, List.drop_take, Nat.add_sub_cancel_left, List.drop_drop]
    · split <;> rfl
  | unk h1 h3 h4 h5 =>
    rename_i b o all
    refine ⟨.slice (some ⟨b, o + 1 * es, none⟩) n UNK, ?_, ?_, rfl⟩
    · unfold sliceV
      simp only [hu, hs, Option.elim, nat1, Option.isSome, Bool.false_eq_true, if_false]
      have he : esOf P h b = some es := by unfold esOf; rw [h3]; exact hs
      rw [if_pos trivial, if_pos ⟨by omega, by omega, he⟩]
      simp
    · rw [Nat.one_mul]
      refine .unk h1 h3 (by omega) ?_
      rw [← h5, mul, List.drop_take, Nat.add_sub_cancel_left, List.drop_drop]
theorem All2.snocW {α β : Type} {R : α → β → Prop} {l : List α} {m : List β} (h : All2 R l m) {a : α} {b : β} (k : R a b) : All2 R (l ++ [a]) (m ++ [b]) := by
  induction h with
  | nil => exact .cons k .nil
  | cons h _ ih => exact .cons h ih
structure Wd where
  frm : Nat
  num : Nat
  to : Nat
  g : List E3
def wdC (w : Wd) (lv : Value) : List Value := [.int .i64 w.frm, .int .i64 0, .int .u64 w.num, .int .u64 w.to, lv, .slice none 0 0]
structure WayV (n0 : Nat) (h : Heap) (v : Value) (lvs : List Value) (ws : List Wd) : Prop where
  row : Acc n0 h 61 6 v ws.length (List.zipWith wdC ws lvs).flatten
  bts : All2 (fun lv w => AB n0 h lv (logB w.g)) lvs ws
theorem WayV.kp {n0 : Nat} {h h' : Heap} {v : Value} {lvs : List Value} {ws : List Wd} (W : WayV n0 h v lvs ws) (k : ∀ (b : Nat) (all : List Value) (ty : TypeId), h.blks[b]? = some ⟨.cells all, ty, true⟩ → ty = 61 ∨ ty = 5 → h'.blks[b]? = h.blks[b]?) : WayV n0 h' v lvs ws :=
  ⟨W.row.keep fun b _ hb => by obtain ⟨all, hk⟩ := W.row.blk hb; exact k b all _ hk (.inl rfl), W.bts.mono fun lv w a => Acc.keep a fun b _ hb => by obtain ⟨all, hk⟩ := Acc.blk a hb; exact k b all _ hk (.inr rfl)⟩
theorem WayV.same {n0 : Nat} {h h' : Heap} {v : Value} {lvs : List Value} {ws : List Wd} (W : WayV n0 h v lvs ws) (e : Same h h') : WayV n0 h' v lvs ws := W.kp fun b _ _ hb _ => e.2 b (List.getElem?_eq_some_iff.1 hb).1
theorem WayV.kpT {t : TypeId} {n0 : Nat} {h h' : Heap} {v : Value} {lvs : List Value} {ws : List Wd} (W : WayV n0 h v lvs ws) (k : KpT t h h') (h1 : 61 ≠ t) (h2 : 5 ≠ t) : WayV n0 h' v lvs ws := W.kp fun b all ty hb ht => k.2 b all ty hb (by rcases ht with rfl | rfl; exact h1; exact h2)
theorem WayV.nil (n0 : Nat) (h : Heap) : WayV n0 h (.slice none 0 0) [] [] := ⟨.nil, .nil⟩
theorem etWd : ElemT Tryd.prog 59 61 6 80 (.agg #[.int .i64 0, .int .i64 0, .int .u64 0, .int .u64 0, .slice none 0 0, .slice none 0 0]) := ⟨by kernel_rfl, by kernel_rfl, by kernel_rfl, by kernel_rfl, by omega, rfl, by simp [ground, ground0]⟩
theorem AB.shapeW {n0 : Nat} {h : Heap} {lv : Value} {bs : List UInt8} (a : AB n0 h lv bs) : ∃ x c, lv = .slice x bs.length c := Acc.shape a
theorem WayV.app {n0 : Nat} {h : Heap} (hn0 : n0 ≤ h.blks.length) {v : Value} {lvs : List Value} {ws : List Wd} (W : WayV n0 h v lvs ws) (w : Wd) {lv : Value} (hb : AB n0 h lv (logB w.g)) (hl : ws.length < 2 ^ 30) :
    ∃ v' h', appendV Tryd.prog 59 (some 59) v (.slice (some ⟨h.blks.length, 0, none⟩) 1 1) (h.new (.cells (wdC w lv)) 61) = some (v', h') ∧ WayV n0 h' v' (lvs ++ [lv]) (ws ++ [w]) ∧ Keeps n0 h h' ∧ KpT 61 h h' ∧
      (∀ q, q < h.blks.length → blockOf v ≠ some q → h'.blks[q]? = h.blks[q]?) ∧ (blockOf v' = blockOf v ∨ ∃ q, blockOf v' = some q ∧ h.blks.length ≤ q) := by
  have ha' : Acc n0 (h.new (.cells (wdC w lv)) 61) 61 6 v ws.length (List.zipWith wdC ws lvs).flatten := W.row.keep fun _ hb _ => Heap.new_old hb
  have hlit : Sl Tryd.prog (h.new (.cells (wdC w lv)) 61) 6 (.slice (some ⟨h.blks.length, 0, none⟩) 1 1) 1 (wdC w lv) :=
    .mk (by simp [Heap.loadN, Heap.cells?, blk_new_self, wdC]) (.inr ⟨Nat.le_refl _, by unfold UNK; omega⟩)
  have one : (wdC w lv).all Value.oneCell' = true := by
    obtain ⟨x, c, rfl⟩ := AB.shapeW hb
    rfl
  obtain ⟨v', h', e1, e2, e3, e4, e5⟩ := append_acc etWd (t1 := some 59) (n0 := n0) (by simp [Heap.new]; omega) ha' (newsV_row etWd.under hlit.row) (by simp [wdC]) (by omega) (by omega) one
  have hl2 : ws.length = lvs.length := (All2.length_eq W.bts).symm
  have k : KpT 61 h h' := by
    refine ⟨?_, fun q all ty hq ht => ?_⟩
    · have := e3.len; simp [Heap.new] at this; omega
    · have hlt := (List.getElem?_eq_some_iff.1 hq).1
      refine (e4 q (by simp [Heap.new]; omega) fun e => ?_).trans (Heap.new_old hlt)
      obtain ⟨all', hk⟩ := Acc.blk W.row e
      rw [hk] at hq
      cases hq
      exact ht rfl
  refine ⟨v', h', e1, ⟨?_, ?_⟩, (Keeps.new hn0 _ _).trans e3, k, fun q hq hne => (e4 q (by simp [Heap.new]; omega) hne).trans (Heap.new_old hq), ?_⟩
  · rw [List.zipWith_append hl2, List.flatten_append, List.length_append]
    simpa using e2
  · exact All2.snocW (W.bts.mono fun lv w a => Acc.kpT a k (by decide)) (Acc.kpT hb k (by decide))
  · rcases e5 with ⟨e, _⟩ | ⟨e, _⟩
    · exact .inl (by rw [e])
    · exact .inr ⟨_, e, by simp [Heap.new]⟩
end Go.Am
namespace Go.Am
open Go.Proofs
set_option maxRecDepth 100000
set_option linter.all false
attribute [local congr] obind_congr obH_congr cnd_congr chk_congr retK_congr codeK_congr
theorem faWd0 (b o : Nat) : fieldAddrV Tryd.prog 61 (.pointer (some ⟨b, o, none⟩)) 0 = some (.pointer (some ⟨b, o, none⟩)) := by kernel_rfl
theorem faWd2 (b o : Nat) : fieldAddrV Tryd.prog 61 (.pointer (some ⟨b, o, none⟩)) 2 = some (.pointer (some ⟨b, o + 2, none⟩)) := by kernel_rfl
theorem faWd3 (b o : Nat) : fieldAddrV Tryd.prog 61 (.pointer (some ⟨b, o, none⟩)) 3 = some (.pointer (some ⟨b, o + 3, none⟩)) := by kernel_rfl
theorem faWd4 (b o : Nat) : fieldAddrV Tryd.prog 61 (.pointer (some ⟨b, o, none⟩)) 4 = some (.pointer (some ⟨b, o + 4, none⟩)) := by kernel_rfl
theorem WayV.first {n0 : Nat} {h : Heap} {v : Value} {lvs : List Value} {w : Wd} {ws : List Wd} (W : WayV n0 h v lvs (w :: ws)) :
    ∃ b o lv lvs', lvs = lv :: lvs' ∧ indexAddrV Tryd.prog 59 v (.int .i64 0) = some (.pointer (some ⟨b, o, none⟩)) ∧ h.load1 b o = some (.int .i64 w.frm) ∧ h.load1 b (o + 2) = some (.int .u64 w.num) ∧ h.load1 b (o + 3) = some (.int .u64 w.to) ∧ h.load1 b (o + 4) = some lv ∧ AB n0 h lv (logB w.g) := by
  obtain ⟨rw0, bt⟩ := W
  cases bt with
  | cons hb hr =>
    rename_i lv lvs'
    have hu : Tryd.prog.underlying 59 = some (.slice 61) := by kernel_rfl
    have hs : sizeT Tryd.prog 61 = some 6 := by kernel_rfl
    have r := rw0.row
    rw [List.zipWith_cons_cons, List.flatten_cons] at r
    generalize hn : (w :: ws).length = n at r
    generalize hcs : wdC w lv ++ (List.zipWith wdC ws lvs').flatten = cs at r
    cases r with
    | nil => simp at hn
    | mk hld =>
      rename_i b o cp
      have n1 : 1 ≤ n := by rw [← hn]; simp
      have get : ∀ k, k < 6 → h.load1 b (o + k) = cs[k]? := fun k hk => loadN_get hld (by omega)
      have z : indexAddrV Tryd.prog 59 (.slice (some ⟨b, o, none⟩) n cp) (.int .i64 ((0 : Nat) : Int)) = some (.pointer (some ⟨b, o + 0 * 6, none⟩)) := by
        unfold indexAddrV
        simp only [hu, natOf_int, hs]
        rw [if_pos (by omega)]
      refine ⟨b, o, lv, lvs', rfl, by simpa using z, ?_, ?_, ?_, ?_, hb⟩
      · have := get 0 (by omega); rw [Nat.add_zero] at this; rw [this, ← hcs]; rfl
      · rw [get 2 (by omega), ← hcs]; rfl
      · rw [get 3 (by omega), ← hcs]; rfl
      · rw [get 4 (by omega), ← hcs]; rfl
theorem WayV.tail {n0 : Nat} {h : Heap} {v : Value} {lv : Value} {lvs : List Value} {w : Wd} {ws : List Wd} (W : WayV n0 h v (lv :: lvs) (w :: ws)) : ∃ v', sliceV Tryd.prog 59 v (some (.int .i64 1)) none none h = some v' ∧ WayV n0 h v' lvs ws ∧ blockOf v' = blockOf v := by
  have r := W.row
  rw [List.length_cons] at r
  obtain ⟨v', e1, e2, e3⟩ := Acc.tail (P := Tryd.prog) (t := 59) (by kernel_rfl) (by kernel_rfl) r
  refine ⟨v', e1, ⟨?_, ?_⟩, e3⟩
  · rw [List.zipWith_cons_cons, List.flatten_cons, show 6 = (wdC w lv).length from rfl, List.drop_left] at e2
    exact e2
  · cases W.bts with
    | cons _ h => exact h
structure Ways (h : Heap) (base bw N : Nat) (wv : Nat → Value) (lv : Nat → List Value) (W : Nat → List Wd) : Prop where
  row : Cells h bw 59 ((List.range N).map wv)
  one : ∀ i, i < N → WayV base h (wv i) (lv i) (W i)
  sep : ∀ i j, i < N → j < N → i ≠ j → ∀ b, blockOf (wv i) = some b → blockOf (wv j) ≠ some b
  low : base ≤ bw
theorem Ways.same {h h' : Heap} {base bw N : Nat} {wv : Nat → Value} {lv : Nat → List Value} {W : Nat → List Wd} (G : Ways h base bw N wv lv W) (e : Same h h') : Ways h' base bw N wv lv W := ⟨G.row.same e, fun i hi => (G.one i hi).same e, G.sep, G.low⟩
theorem Ways.kpT {t : TypeId} {h h' : Heap} {base bw N : Nat} {wv : Nat → Value} {lv : Nat → List Value} {W : Nat → List Wd} (G : Ways h base bw N wv lv W) (k : KpT t h h') (h0 : 59 ≠ t) (h1 : 61 ≠ t) (h2 : 5 ≠ t) : Ways h' base bw N wv lv W :=
  ⟨G.row.kpT k h0, fun i hi => (G.one i hi).kpT k h1 h2, G.sep, G.low⟩
theorem map_updN {α : Type} (f : Nat → α) (v : α) (N i : Nat) (hi : i < N) : (List.range N).map (updN f i v) = ((List.range N).map f).take i ++ [v] ++ ((List.range N).map f).drop (i + 1) := by
  apply List.ext_getElem?
  intro j
  simp only [List.getElem?_map, List.getElem?_append, List.length_append, List.length_take, List.length_map, List.length_range, List.length_singleton, List.getElem?_take, List.getElem?_drop, List.getElem?_range]
  rw [Nat.min_eq_left (by omega)]
  rcases Nat.lt_trichotomy j i with h | h | h
  · rw [if_pos (by omega), if_pos h, if_pos h]
    simp only [List.getElem?_range (show j < N by omega), Option.map_some, updN_ne f v (show j ≠ i by omega)]
  · subst h
    rw [if_pos (by omega), if_neg (by omega), Nat.sub_self]
    simp only [List.getElem?_range hi, Option.map_some, updN_self, List.getElem?_cons_zero]
  · rw [if_neg (by omega)]
    rw [show i + 1 + (j - (i + 1)) = j by omega]
    by_cases hj : j < N
    · simp only [List.getElem?_range hj, Option.map_some, updN_ne f v (show j ≠ i by omega)]
    · have : (List.range N)[j]? = none := List.getElem?_eq_none (by simp; omega)
      rw [this]; rfl
theorem stWd (p o : Nat) (a : Option Addr) (n c : Nat) (h : Heap) : storeV Tryd.prog 59 (.pointer (some ⟨p, o, none⟩)) (.slice a n c) h = h.storeN p o [.slice a n c] := by kernel_rfl
theorem ldWd (p o : Nat) (h : Heap) : loadV Tryd.prog 59 (.pointer (some ⟨p, o, none⟩)) h = h.load1 p o := by kernel_rfl
theorem Ways.at {h : Heap} {base bw N : Nat} {wv : Nat → Value} {lv : Nat → List Value} {W : Nat → List Wd} (G : Ways h base bw N wv lv W) {i : Nat} (hi : i < N) : h.load1 bw i = some (wv i) := by
  rw [G.row.load i, List.getElem?_map, List.getElem?_range hi]; rfl
theorem Ways.turn {h h' : Heap} {base bw N : Nat} {wv : Nat → Value} {lv : Nat → List Value} {W : Nat → List Wd} (G : Ways h base bw N wv lv W) {i : Nat} (hi : i < N) (k : KpT 61 h h') (old : ∀ q, q < h.blks.length → blockOf (wv i) ≠ some q → h'.blks[q]? = h.blks[q]?)
    {v' : Value} {lv' : List Value} {ws' : List Wd} (w : WayV base h' v' lv' ws') (hb : blockOf v' = blockOf (wv i) ∨ ∃ q, blockOf v' = some q ∧ h.blks.length ≤ q) :
    ∃ h'', h'.storeN bw i [v'] = some h'' ∧ Ways h'' base bw N (updN wv i v') (updN lv i lv') (updN W i ws') ∧ KpT 59 h' h'' ∧ (∀ n0, n0 ≤ base → n0 ≤ h'.blks.length → ∀ S,In n0 S h' h'') := by
  have c' := G.row.kpT k (by decide)
  have st := storeN_blk c' (o := i) (vs := [v']) (by simp; omega)
  have e := map_updN wv v' N i hi
  rw [List.length_singleton] at st
  rw [← e] at st
  have kk : KpT 59 h' (h'.put bw (.cells ((List.range N).map (updN wv i v')))) := by
    refine ⟨by rw [Heap.put_len]; exact Nat.le_refl _, fun q all ty hq ht => Heap.put_other (fun e => ?_) _⟩
    subst e
    exact ht (c'.ty hq).symm
  refine ⟨_, st, ⟨c'.put _, fun j hj => ?_, fun a b ha hb' hne q hq => ?_, G.low⟩, kk, fun n0 h1 h2 S => In.put h2 (.inl (Nat.le_trans h1 G.low)) _⟩
  · by_cases ej : j = i
    · subst ej
      rw [updN_self, updN_self, updN_self]
      exact w.kpT kk (by decide) (by decide)
    · rw [updN_ne _ _ ej, updN_ne _ _ ej, updN_ne _ _ ej]
      have g := G.one j hj
      refine (⟨g.row.keep fun b hbl hb => old b hbl fun e => G.sep j i hj hi ej b hb e, g.bts.mono fun l x a => Acc.kpT a k (by decide)⟩ : WayV base h' (wv j) (lv j) (W j)).kpT kk (by decide) (by decide)
  · have blt : ∀ j, j < N → ∀ q, blockOf (wv j) = some q → q < h.blks.length := fun j hj q hq => by
      obtain ⟨all, hk⟩ := (G.one j hj).row.blk hq
      exact (List.getElem?_eq_some_iff.1 hk).1
    by_cases ea : a = i
    · subst ea
      rw [updN_self] at hq
      rw [updN_ne _ _ (Ne.symm hne)]
      rcases hb with hb | ⟨q', h1, h2⟩
      · rw [hb] at hq; exact G.sep a b ha hb' hne q hq
      · rw [h1] at hq; cases hq
        intro hc
        have := blt b hb' _ hc
        omega
    · rw [updN_ne _ _ ea] at hq
      by_cases eb : b = i
      · subst eb
        rw [updN_self]
        rcases hb with hb | ⟨q', h1, h2⟩
        · rw [hb]; exact G.sep a b ha hb' hne q hq
        · rw [h1]
          intro hc
          cases hc
          have := blt a ha _ hq
          omega
      · rw [updN_ne _ _ eb]
        exact G.sep a b ha hb' hne q hq
end Go.Am
namespace Go.Am
open Go.Proofs
set_option maxRecDepth 100000
set_option linter.all false
attribute [local congr] obind_congr obH_congr cnd_congr chk_congr retK_congr codeK_congr
theorem allN_succS (i : Nat) : allN i ||| 2 ^ i = allN (i + 1) := by
  unfold allN
  refine Nat.eq_of_testBit_eq fun j => ?_
  rw [Nat.testBit_or, Nat.testBit_two_pow_sub_one, Nat.testBit_two_pow_sub_one, Nat.testBit_two_pow]
  by_cases h : j < i
  · simp [h]; omega
  · by_cases e : i = j
    · simp [e]
    · have : ¬ j < i + 1 := by omega
      simp [h, e, this]
theorem allN_ltS {i : Nat} (h : i ≤ 63) : allN i < 2 ^ 64 := by unfold allN; have : 2 ^ i < 2 ^ 64 := Nat.pow_lt_pow_right (by omega) (by omega); omega
theorem shlS (t : TypeId) (xo yo : Operand) (p : Nat) (hp : p < 64) : binV Tryd.prog .shl t xo yo (.int .u64 1) (.int .u64 p) = some (.int .u64 ((2 ^ p : Nat) : Int)) := by
  have h2 : 2 ^ p < 2 ^ 64 := Nat.pow_lt_pow_right (by omega) hp
  rw [bin_shl64 _ _ _ _ _ _ (by omega) (by omega) (by omega), Int.toNat_natCast, show (1 : Int).toNat = 1 from rfl, Nat.one_mul, Nat.mod_eq_of_lt h2]
theorem orS (t : TypeId) (xo yo : Operand) (a b : Nat) (ha : a < 2 ^ 64) (hb : b < 2 ^ 64) : binV Tryd.prog .or t xo yo (.int .u64 a) (.int .u64 b) = some (.int .u64 ((a ||| b : Nat) : Int)) := by
  rw [bin_or64 _ _ _ _ _ (by omega) (by omega) (by omega) (by omega), Int.toNat_natCast, Int.toNat_natCast]
theorem allofS_loop {h0 h : Heap} {n : Nat} (hn : n ≤ 16) : ∀ (mm i : Nat), n = i + mm → ∀ x : Nat → Value, x 0 = .int .i64 n → x 3 = .int .u64 (allN i : Nat) → x 4 = .int .i64 i →
    lK c21_1 20 x h (blockK 0 (sK c21_2 (retK Tryd.f21 Tryd.prog h0))) = some (.int .u64 (allN n : Nat), done h0 h) := by
  intro mm
  induction mm with
  | zero =>
    intro i hi x Aa Ad Ae
    obtain rfl : n = i := by omega
    rw [lK_eq]
    simp -implicitDefEqProofs (disch := omega) only [↓c21_1_eq, ↓c21_2_eq, dcT, dcF,Aa,Ad,Ae, ↓ret21, ↓cnd_true, ↓cnd_false, ↓Option.bind_some, ↓obH_some', bin_add, bin_sub, bin_mul, bin_lss, bin_leq, bin_gtr, bin_geq, bin_eql, bin_neq, un_not, un_neg, Option.bind_some, Option.bind_none, Option.map_some, cnd_true, cnd_false, pickV_true, pickV_false, gd_true, gd_false, gdV_true, gdV_false, gdH_true, gdH_false, gdS_true, gdS_false, wt_ff, wt_tt, wt_ft, wt_tf, wt_undef, obH_some', extractV_tuple, nilCheckV_ptr, againK_normal, againK_exit, againK_ret, blockK_normal, blockK_same, blockK_ret, seqK_normal, seqK_exit, seqK_ret, fin_done, if_true', if_false', Bool.not_true, Bool.not_false, idx0, idx1, idx2, idx3, idx4, chk_nil_l, chk_nil_r, done_nm, up_cons, up_nil, cond_true, cond_false, Nat.reduceBEq]
  | succ mm ih =>
    intro i hi x Aa Ad Ae
    rw [lK_eq]
    have hw : IntKind.wrap .i64 ((i : Int) + 1) = ((i + 1 : Nat) : Int) := by rw [wrap_i64] <;> omega
    have cv := fun h => cvUint (i : Int) h (by omega) (by omega)
    have e1 := fun t xo yo => shlS t xo yo i (by omega)
    have e2 := fun t xo yo => orS t xo yo (allN i) (2 ^ i) (allN_ltS (by omega)) (Nat.pow_lt_pow_right (by omega) (by omega))
    rw [allN_succS] at e2
    simp -implicitDefEqProofs (disch := omega) only [↓c21_1_eq, dcT, dcF,Aa,Ad,Ae, cv, e1, e2, hw, ↓cnd_true, ↓cnd_false, ↓Option.bind_some, ↓obH_some', bin_add, bin_sub, bin_mul, bin_lss, bin_leq, bin_gtr, bin_geq, bin_eql, bin_neq, un_not, un_neg, Option.bind_some, Option.bind_none, Option.map_some, cnd_true, cnd_false, pickV_true, pickV_false, gd_true, gd_false, gdV_true, gdV_false, gdH_true, gdH_false, gdS_true, gdS_false, wt_ff, wt_tt, wt_ft, wt_tf, wt_undef, obH_some', extractV_tuple, nilCheckV_ptr, againK_normal, againK_exit, againK_ret, blockK_normal, blockK_same, blockK_ret, seqK_normal, seqK_exit, seqK_ret, fin_done, if_true', if_false', Bool.not_true, Bool.not_false, idx0, idx1, idx2, idx3, idx4, chk_nil_l, chk_nil_r, done_nm, up_cons, up_nil, cond_true, cond_false, Nat.reduceBEq]
    exact ih (i + 1) (by omega) _ Aa rfl rfl
theorem spec_AllOfS (n : Nat) (hn : n ≤ 16) (h : Heap) : evC Tryd.prog 21 #[.int .i64 n] h = some (.int .u64 (allN n : Nat), h) := by
  rw [call21]
  simp -implicitDefEqProofs (disch := omega) only [↓c21_0_eq, ↓cnd_true, ↓cnd_false, ↓Option.bind_some, ↓obH_some', bin_add, bin_sub, bin_mul, bin_lss, bin_leq, bin_gtr, bin_geq, bin_eql, bin_neq, un_not, un_neg, Option.bind_some, Option.bind_none, Option.map_some, cnd_true, cnd_false, pickV_true, pickV_false, gd_true, gd_false, gdV_true, gdV_false, gdH_true, gdH_false, gdS_true, gdS_false, wt_ff, wt_tt, wt_ft, wt_tf, wt_undef, obH_some', extractV_tuple, nilCheckV_ptr, againK_normal, againK_exit, againK_ret, blockK_normal, blockK_same, blockK_ret, seqK_normal, seqK_exit, seqK_ret, fin_done, if_true', if_false', Bool.not_true, Bool.not_false, idx0, idx1, idx2, idx3, idx4, chk_nil_l, chk_nil_r, done_nm, up_cons, up_nil, cond_true, cond_false, Nat.reduceBEq]
  exact allofS_loop (h0 := h) (h := nm h) hn n 0 (by omega) _ rfl rfl rfl
def bitsTo (s k : Nat) : List Nat := (List.range k).filter fun (i : Nat) => s.testBit i
theorem bitsTo_succ (s k : Nat) : bitsTo s (k + 1) = bitsTo s k ++ (if s.testBit k = true then [k] else []) := by
  unfold bitsTo
  rw [List.range_succ, List.filter_append]
  congr 1
  by_cases h : s.testBit k = true
  · rw [if_pos h]; simp [h]
  · rw [if_neg h]; simp [h]
theorem bitsTo_len (s k : Nat) : (bitsTo s k).length ≤ k := by
  unfold bitsTo
  exact Nat.le_trans (List.length_filter_le ..) (by simp)
theorem listS_loop {h0 : Heap} {s : Nat} (hs : s < 2 ^ 64) : ∀ (mm i : Nat), 64 = i + mm → ∀ (x : Nat → Value) (h : Heap) (a : Option Addr) (c : Nat),In h0.blks.length No (nm h0) h → AI h0.blks.length h (.slice a (bitsTo s i).length c) (bitsTo s i) →
    x 0 = .int .u64 s → x 3 = .slice a (bitsTo s i).length c → x 4 = .int .i64 i →
    ∃ a' c' h', lK c22_1 17 x h (blockK 0 (sK c22_2 (retK Tryd.f22 Tryd.prog h0))) = some (.slice a' (bitsTo s 64).length c', done h0 h') ∧ In h0.blks.length No (nm h0) h' ∧ AI h0.blks.length h' (.slice a' (bitsTo s 64).length c') (bitsTo s 64) := by
  intro mm
  induction mm with
  | zero =>
    intro i hi x h a c hin ha Aa Ad Ae
    obtain rfl : i = 64 := by omega
    rw [lK_eq]
    refine ⟨a, c, h, ?_, hin, ha⟩
    simp -implicitDefEqProofs (disch := omega) only [↓c22_1_eq, ↓c22_2_eq, dcF,Aa,Ad,Ae, ↓ret22, ↓cnd_true, ↓cnd_false, ↓Option.bind_some, ↓obH_some', bin_add, bin_sub, bin_mul, bin_lss, bin_leq, bin_gtr, bin_geq, bin_eql, bin_neq, un_not, un_neg, Option.bind_some, Option.bind_none, Option.map_some, cnd_true, cnd_false, pickV_true, pickV_false, gd_true, gd_false, gdV_true, gdV_false, gdH_true, gdH_false, gdS_true, gdS_false, wt_ff, wt_tt, wt_ft, wt_tf, wt_undef, obH_some', extractV_tuple, nilCheckV_ptr, againK_normal, againK_exit, againK_ret, blockK_normal, blockK_same, blockK_ret, seqK_normal, seqK_exit, seqK_ret, fin_done, if_true', if_false', Bool.not_true, Bool.not_false, idx0, idx1, idx2, idx3, idx4, chk_nil_l, chk_nil_r, done_nm, up_cons, up_nil, cond_true, cond_false, Nat.reduceBEq]
  | succ mm ih =>
    intro i hi x h a c hin ha Aa Ad Ae
    rw [lK_eq]
    have hw : IntKind.wrap .i64 ((i : Int) + 1) = ((i + 1 : Nat) : Int) := by rw [wrap_i64] <;> omega
    have hh := spec_In s hs (i : Int) h
    have hb := bitsTo_succ s i
    have hbl := bitsTo_len s i
    have e0 : hasB s (i : Int) = s.testBit i := by unfold hasB; rw [decide_eq_true (by omega), Int.toNat_natCast]; rfl
    rw [e0] at hh
    cases hv : s.testBit i with
    | true =>
      rw [hv] at hh
      rw [hv, if_pos rfl] at hb
      obtain ⟨a', c', h2, g1, g2, g3, g4⟩ := app_int (Nat.le_trans hin.le hin.len) ha i (by omega)
      rw [← hb] at g1 g2
      have k1 := mkI1 (i : Nat) h
      simp -implicitDefEqProofs (disch := omega) only [↓c22_1_eq, dcT,Aa,Ad,Ae, hh, k1, g1, hw, ↓cnd_true, ↓cnd_false, ↓Option.bind_some, ↓obH_some', bin_add, bin_sub, bin_mul, bin_lss, bin_leq, bin_gtr, bin_geq, bin_eql, bin_neq, un_not, un_neg, Option.bind_some, Option.bind_none, Option.map_some, cnd_true, cnd_false, pickV_true, pickV_false, gd_true, gd_false, gdV_true, gdV_false, gdH_true, gdH_false, gdS_true, gdS_false, wt_ff, wt_tt, wt_ft, wt_tf, wt_undef, obH_some', extractV_tuple, nilCheckV_ptr, againK_normal, againK_exit, againK_ret, blockK_normal, blockK_same, blockK_ret, seqK_normal, seqK_exit, seqK_ret, fin_done, if_true', if_false', Bool.not_true, Bool.not_false, idx0, idx1, idx2, idx3, idx4, chk_nil_l, chk_nil_r, done_nm, up_cons, up_nil, cond_true, cond_false, Nat.reduceBEq]
      exact ih (i + 1) (by omega) _ h2 a' c' (hin.trans (Keeps.inn (S := No) g3)) g2 Aa rfl rfl
    | false =>
      rw [hv] at hh
      rw [hv, if_neg (by simp), List.append_nil] at hb
      rw [← hb] at ha Ad
      simp -implicitDefEqProofs (disch := omega) only [↓c22_1_eq, dcT,Aa,Ae, hh, hw, ↓cnd_true, ↓cnd_false, ↓Option.bind_some, ↓obH_some', bin_add, bin_sub, bin_mul, bin_lss, bin_leq, bin_gtr, bin_geq, bin_eql, bin_neq, un_not, un_neg, Option.bind_some, Option.bind_none, Option.map_some, cnd_true, cnd_false, pickV_true, pickV_false, gd_true, gd_false, gdV_true, gdV_false, gdH_true, gdH_false, gdS_true, gdS_false, wt_ff, wt_tt, wt_ft, wt_tf, wt_undef, obH_some', extractV_tuple, nilCheckV_ptr, againK_normal, againK_exit, againK_ret, blockK_normal, blockK_same, blockK_ret, seqK_normal, seqK_exit, seqK_ret, fin_done, if_true', if_false', Bool.not_true, Bool.not_false, idx0, idx1, idx2, idx3, idx4, chk_nil_l, chk_nil_r, done_nm, up_cons, up_nil, cond_true, cond_false, Nat.reduceBEq]
      exact ih (i + 1) (by omega) _ h a c hin ha Aa Ad rfl
theorem spec_ListS (s : Nat) (hs : s < 2 ^ 64) (h : Heap) : ∃ a c h', evC Tryd.prog 22 #[.int .u64 s] h = some (.slice a (bitsTo s 64).length c, h') ∧ HExt h h' ∧ AI h.blks.length h' (.slice a (bitsTo s 64).length c) (bitsTo s 64) := by
  rw [call22]
  have lp := listS_loop (h0 := h) hs 64 0 (by omega)
  have fin' : ∀ {r : Option (Value × Heap)}, (∃ a c h', r = some (.slice a (bitsTo s 64).length c, done h h') ∧ In h.blks.length No (nm h) h' ∧ AI h.blks.length h' (.slice a (bitsTo s 64).length c) (bitsTo s 64)) → ∃ a c h', r = some (.slice a (bitsTo s 64).length c, h') ∧ HExt h h' ∧ AI h.blks.length h' (.slice a (bitsTo s 64).length c) (bitsTo s 64) := fun ⟨a, c, h', q1, q2, q3⟩ => ⟨a, c, _, q1, done_ext' q2, Acc.done q3⟩
  simp -implicitDefEqProofs (disch := omega) only [↓c22_0_eq, ↓cnd_true, ↓cnd_false, ↓Option.bind_some, ↓obH_some', bin_add, bin_sub, bin_mul, bin_lss, bin_leq, bin_gtr, bin_geq, bin_eql, bin_neq, un_not, un_neg, Option.bind_some, Option.bind_none, Option.map_some, cnd_true, cnd_false, pickV_true, pickV_false, gd_true, gd_false, gdV_true, gdV_false, gdH_true, gdH_false, gdS_true, gdS_false, wt_ff, wt_tt, wt_ft, wt_tf, wt_undef, obH_some', extractV_tuple, nilCheckV_ptr, againK_normal, againK_exit, againK_ret, blockK_normal, blockK_same, blockK_ret, seqK_normal, seqK_exit, seqK_ret, fin_done, if_true', if_false', Bool.not_true, Bool.not_false, idx0, idx1, idx2, idx3, idx4, chk_nil_l, chk_nil_r, done_nm, up_cons, up_nil, cond_true, cond_false, Nat.reduceBEq]
  refine fin' (lp _ _ none 0 (In.refl (Nat.le_refl _)) .nil ?_ ?_ ?_)
  all_goals rfl
end Go.Am
namespace Go.Am
open Go.Proofs
set_option maxRecDepth 100000
set_option linter.all false
attribute [local congr] obind_congr obH_congr cnd_congr chk_congr retK_congr codeK_congr
structure WOk (n : Nat) (nums : List Nat) (a b : Nat) (w : Wd) : Prop where
  frm : w.frm = a
  inv : SInv n w.g
  nb : NBd nums w.g
  num : w.num ≤ nums.getD a 0
  to : w.to < 2 ^ n
  own : ∀ e ∈ w.g, outB (w.to &&& e.t) (ofN (b : Nat)) = 0
  len : w.g.length ≤ n * n + n
theorem WOk.more {n : Nat} {nums nums' : List Nat} {a b : Nat} {w : Wd} (k : WOk n nums a b w) (h : ∀ i, nums.getD i 0 ≤ nums'.getD i 0) : WOk n nums' a b w :=
  ⟨k.frm, k.inv, k.nb.more h, Nat.le_trans k.num (h a), k.to, k.own, k.len⟩
structure EOk (n : Nat) (nums : List Nat) (i : Nat) (es : List E3) (ns : List Nat) (num : Nat) : Prop where
  inv : SInv n es
  lin : LInv (i : Nat) es
  nb : NBd nums es
  num : num = nums.getD i 0
  sn : ns.length = n
theorem EOk.more {n : Nat} {nums nums' : List Nat} {i : Nat} {es : List E3} {ns : List Nat} {num : Nat} (k : EOk n nums i es ns num) (h : ∀ i, nums.getD i 0 ≤ nums'.getD i 0) (hi : nums'.getD i 0 = nums.getD i 0) : EOk n nums' i es ns num :=
  ⟨k.inv, k.lin, k.nb.more h, k.num.trans hi.symm, k.sn⟩
theorem nb_wide {n : Nat} {nums : List Nat} {es : List E3} (s : SInv n es) (hn : n ≤ 16) (b : NBd nums es) (hk : ∀ i, nums.getD i 0 < 2 ^ 63) : wide es := fun e he => by
  have h16 : (2 : Nat) ^ n ≤ 2 ^ 16 := Nat.pow_le_pow_right (by omega) hn
  have := s.wid e he
  have := b e he
  have := hk e.f.toNat
  omega
theorem Ways.kp {h h' : Heap} {base bw N : Nat} {wv : Nat → Value} {lv : Nat → List Value} {W : Nat → List Wd} (G : Ways h base bw N wv lv W) (k : ∀ (b : Nat) (all : List Value) (ty : TypeId), h.blks[b]? = some ⟨.cells all, ty, true⟩ → ty = 59 ∨ ty = 61 ∨ ty = 5 → h'.blks[b]? = h.blks[b]?) : Ways h' base bw N wv lv W :=
  ⟨(k bw _ _ G.row (.inl rfl)).trans G.row, fun i hi => (G.one i hi).kp fun b all ty hb ht => k b all ty hb (.inr ht), G.sep, G.low⟩
theorem LEn.tyOf {h : Heap} {p s : Nat} {n me : Int} {num : Nat} {es : List E3} {ns : List Nat} (l : LEn h p s n me num es ns) {b : Nat} (hb : b = p ∨ b = s) {all : List Value} {ty : TypeId} (hk : h.blks[b]? = some ⟨.cells all, ty, true⟩) : ty = 96 ∨ ty = 23 := by
  obtain ⟨_, _, c, _⟩ := l.eng
  rcases hb with rfl | rfl
  · exact .inl (c.ty hk).symm
  · exact .inr (l.seen.ty hk).symm
theorem HMod.put {h : Heap} {p : Nat} {cs : List Value} {ty : TypeId} (c : Cells h p ty cs) (body : Body) : HMod (Just p) h (h.put p body) := by
  refine ⟨by rw [Heap.put_len]; exact Nat.le_refl _, fun b _ hb => Heap.put_other (fun e => hb e) _, [p], ?_, fun m hm => ?_⟩
  · rw [Heap.put_eq c]; rfl
  · rw [List.mem_singleton] at hm
    subst hm
    exact ⟨rfl, c.lt⟩
theorem HMod.lowsS {S : Nat → Prop} {h1 h h' : Heap} (m : HMod S h h') (e : Same h1 h) (hS : ∀ b, b < h1.blks.length → ¬ S b) : Same h1 h' :=
  ⟨Nat.le_trans e.1 m.len, fun b hb => (m.old b (Nat.lt_of_lt_of_le hb e.1) (hS b hb)).trans (e.2 b hb)⟩
structure LS (h0 h : Heap) (n bw bn k : Nat) (ps : List (Nat × Nat)) (pv : Value) (E : Nat → List E3) (S : Nat → List Nat) (num : Nat → Nat) (wv : Nat → Value) (lv : Nat → List Value) (W : Nat → List Wd) (nums : List Nat) : Prop where
  sm : Same h0 h
  G : LGrp h n h0.blks.length ps E S num
  lps : ps.length = n
  pr : Acc h0.blks.length h 33 1 pv n (ps.map ptrW)
  Wy : Ways h h0.blks.length bw (n * n) wv lv W
  nr : Cells h bn 23 (nums.map u64V)
  ln : nums.length = n
  bnl : h0.blks.length ≤ bn
  apart : ∀ i (hi : i < ps.length), ps[i].1 ≠ bn ∧ ps[i].2 ≠ bn
  one : ∀ i, i < n → EOk n nums i (E i) (S i) (num i)
  wds : ∀ a b, a < n → b < n → ∀ w ∈ W (a * n + b), WOk n nums a b w
  small : ∀ x ∈ nums, x ≤ k
theorem LS.getD {h0 h : Heap} {n bw bn k : Nat} {ps : List (Nat × Nat)} {pv : Value} {E : Nat → List E3} {S : Nat → List Nat} {num : Nat → Nat} {wv : Nat → Value} {lv : Nat → List Value} {W : Nat → List Wd} {nums : List Nat} (L : LS h0 h n bw bn k ps pv E S num wv lv W nums) (i : Nat) : nums.getD i 0 ≤ k := by
  rw [List.getD_eq_getElem?_getD]
  cases hx : nums[i]? with
  | none => simp
  | some x => exact L.small x (List.mem_of_getElem? hx)
theorem LS.same {h0 h h' : Heap} {n bw bn k : Nat} {ps : List (Nat × Nat)} {pv : Value} {E : Nat → List E3} {S : Nat → List Nat} {num : Nat → Nat} {wv : Nat → Value} {lv : Nat → List Value} {W : Nat → List Wd} {nums : List Nat} (L : LS h0 h n bw bn k ps pv E S num wv lv W nums) (e : Same h h') : LS h0 h' n bw bn k ps pv E S num wv lv W nums :=
  ⟨L.sm.trans e, L.G.same e, L.lps, L.pr.same e, L.Wy.same e, L.nr.same e, L.ln, L.bnl, L.apart, L.one, L.wds, L.small⟩
theorem getD_set (l : List Nat) (i j v : Nat) (hi : i < l.length) : (l.set i v).getD j 0 = if j = i then v else l.getD j 0 := by
  rw [List.getD_eq_getElem?_getD, List.getD_eq_getElem?_getD, List.getElem?_set]
  by_cases h : i = j
  · subst h; rw [if_pos rfl, if_pos hi, if_pos rfl]; rfl
  · rw [if_neg h, if_neg (Ne.symm h)]
theorem LS.send {h0 h : Heap} {n bw bn k : Nat} {ps : List (Nat × Nat)} {pv : Value} {E : Nat → List E3} {S : Nat → List Nat} {num : Nat → Nat} {wv : Nat → Value} {lv : Nat → List Value} {W : Nat → List Wd} {nums : List Nat} (L : LS h0 h n bw bn k ps pv E S num wv lv W nums) (hn : n ≤ 6) (hk : k ≤ 100) {P : Nat} (hP : P < n) (to : Nat) (hto : to < 2 ^ 64) (pP : P < ps.length) :
    ∃ sv h1 h2, evC Tryd.prog 12 #[.pointer (some ⟨ps[P].1, 0, none⟩), .int .u64 to] h = some (sv, h1) ∧ HMod (Just ps[P].1) h h1 ∧ h1.load1 bn P = some (.int .u64 (nums.getD P 0 : Nat)) ∧ h1.storeN bn P [.int .u64 ((nums.getD P 0 + 1 : Nat) : Int)] = some h2 ∧ HMod (Just bn) h1 h2 ∧
      LS h0 h2 n bw bn (k + 1) ps pv (updN E P (sendLog (E P) (P : Nat) (num P) (sendT n (P : Nat) to))) (updN S P (S P)) (updN num P (num P + 1)) wv lv W (nums.set P (nums.getD P 0 + 1)) ∧ ABs h.blks.length h2 sv ((listW (sendT n (P : Nat) to)).map (rowF (E P) (sendT n (P : Nat) to))) := by
  have Q := L.one P hP
  have l := L.G.eng P pP
  have hlow := L.G.low P pP
  have kk := L.getD P
  have hw := nb_wide Q.inv (by omega) Q.nb fun i => by have := L.getD i; omega
  have hlen := Q.inv.len Q.lin.next
  have hnn : n * n + n ≤ 42 := by
    have : n * n ≤ 6 * 6 := Nat.mul_le_mul hn hn
    omega
  obtain ⟨sv, h1, e1, m1, l1, a1⟩ := spec_Send l (by omega) hw (by omega) (by have := Q.num; omega) to hto hlow.2.2 (insOk_all (by rw [lessE_len]; omega))
  have hnp : bn ≠ ps[P].1 := Ne.symm (L.apart P pP).1
  have nr1 : Cells h1 bn 23 (nums.map u64V) := (m1.old bn L.nr.lt (fun e => hnp e)).trans L.nr
  have ld : h1.load1 bn P = some (.int .u64 (nums.getD P 0 : Nat)) := by
    rw [nr1.load P, List.getElem?_map, List.getD_eq_getElem?_getD, List.getElem?_eq_getElem (by rw [L.ln]; exact hP)]; rfl
  have st := storeN_blk nr1 (o := P) (vs := [.int .u64 ((nums.getD P 0 + 1 : Nat) : Int)]) (by simp [L.ln]; omega)
  have es : (nums.map u64V).take P ++ [.int .u64 ((nums.getD P 0 + 1 : Nat) : Int)] ++ (nums.map u64V).drop (P + 1) = (nums.set P (nums.getD P 0 + 1)).map u64V := by
    rw [List.set_eq_take_append_cons_drop, if_pos (by rw [L.ln]; exact hP)]
    simp [u64V]
  rw [List.length_singleton, es] at st
  have m2 : HMod (Just bn) h1 (h1.put bn (.cells ((nums.set P (nums.getD P 0 + 1)).map u64V))) := HMod.put nr1 _
  have G1 := L.G.turn pP m1 (fun b hb => .inl hb) l1
  have G2 : LGrp (h1.put bn (.cells ((nums.set P (nums.getD P 0 + 1)).map u64V))) n h0.blks.length ps (updN E P (sendLog (E P) (P : Nat) (num P) (sendT n (P : Nat) to))) (updN S P (S P)) (updN num P (num P + 1)) :=
    ⟨fun i hi => HMod.lEn (G1.eng i hi) m2 (fun e => (L.apart i hi).1 e) (fun e => (L.apart i hi).2 e) (fun b all hb e => by have e : b = bn := e; subst e; exact absurd (nr1.ty hb) (by decide)), G1.low, G1.sep⟩
  have tyP : ∀ {b : Nat} {all : List Value} {ty : TypeId}, Just ps[P].1 b → h.blks[b]? = some ⟨.cells all, ty, true⟩ → ty = 96 := fun {b all ty} hb hk => by
    obtain ⟨_, _, c, _⟩ := l.eng
    have hb : b = ps[P].1 := hb
    subst hb
    exact (c.ty hk).symm
  have old : ∀ (b : Nat) (all : List Value) (ty : TypeId), h.blks[b]? = some ⟨.cells all, ty, true⟩ → ty ≠ 96 → ty ≠ 23 → (h1.put bn (.cells ((nums.set P (nums.getD P 0 + 1)).map u64V))).blks[b]? = h.blks[b]? := fun b all ty hb t1 t2 => by
    have hlt := (List.getElem?_eq_some_iff.1 hb).1
    have e : h1.blks[b]? = h.blks[b]? := m1.old b hlt fun x => t1 (tyP x hb)
    rw [Heap.put_other (fun x => ?_), e]
    subst x
    exact t2 (nr1.ty (e.trans hb)).symm
  have up : ∀ i, nums.getD i 0 ≤ (nums.set P (nums.getD P 0 + 1)).getD i 0 := fun i => by
    rw [getD_set _ _ _ _ (by rw [L.ln]; exact hP)]
    split
    · rename_i e; subst e; omega
    · exact Nat.le_refl _
  have htl : sendT n (P : Nat) to < 2 ^ n := by
    have h1 : sendT n (P : Nat) to ≤ allN n := Nat.le_trans Nat.and_le_right Nat.and_le_left
    have h2 : 1 ≤ 2 ^ n := Nat.one_le_two_pow
    unfold allN at h1
    omega
  have h16 : (2 : Nat) ^ n ≤ 2 ^ 6 := Nat.pow_le_pow_right (by omega) hn
  refine ⟨sv, h1, _, e1, m1, ld, st, m2, ⟨?_, G2, L.lps, ?_, ?_, nr1.put _, by rw [List.length_set]; exact L.ln, L.bnl, L.apart, fun i hi => ?_, fun a b ha hb w hw => (L.wds a b ha hb w hw).more up, fun x hx => ?_⟩, ?_⟩
  · refine m2.lowsS (m1.lowsS L.sm fun b hb e => ?_) fun b hb e => ?_
    · have e : b = ps[P].1 := e
      have := hlow.1
      omega
    · have e : b = bn := e
      have := L.bnl
      omega
  · exact Acc.keep L.pr fun b _ hb => by
      obtain ⟨all, hk⟩ := Acc.blk L.pr hb
      exact old b all _ hk (by decide) (by decide)
  · refine L.Wy.kp fun b all ty hb ht => old b all ty hb ?_ ?_
    · rcases ht with rfl | rfl | rfl <;> decide
    · rcases ht with rfl | rfl | rfl <;> decide
  · by_cases ei : i = P
    · subst ei
      rw [updN_self, updN_self, updN_self]
      refine ⟨Q.inv.send (by omega) i _ _ hP htl, inv_send Q.lin _ _ (by omega) (by omega) (by omega) ?_, ?_, ?_, Q.sn⟩
      · have h := hasB_outMe (allN n) (i : Nat) (allN_lt n (by omega)) (by omega) (by omega)
        unfold sendT
        unfold hasB at h ⊢
        rw [Nat.testBit_and]
        cases hb : (outB (allN n) (ofN (i : Nat))).testBit (i : Int).toNat with
        | false => simp
        | true => rw [hb] at h; simp at h; omega
      · refine (Q.nb.more up).send i _ _ ?_
        rw [getD_set _ _ _ _ (by rw [L.ln]; exact hP), if_pos rfl, Q.num]
        exact Nat.le_refl _
      · rw [getD_set _ _ _ _ (by rw [L.ln]; exact hP), if_pos rfl, Q.num]
    · rw [updN_ne _ _ ei, updN_ne _ _ ei, updN_ne _ _ ei]
      refine (L.one i hi).more up ?_
      rw [getD_set _ _ _ _ (by rw [L.ln]; exact hP), if_neg ei]
  · rcases List.mem_or_eq_of_mem_set hx with hx | rfl
    · have := L.small x hx; omega
    · omega
  · obtain ⟨vs, x⟩ := a1
    refine ⟨vs, x.kp fun b all ty hb ht _ => Heap.put_other (fun e => ?_) _⟩
    subst e
    have := nr1.ty hb
    rcases ht with ht | ht
    · exact absurd (this.trans ht) (by decide)
    · exact absurd (this.trans ht) (by decide)
end Go.Am
namespace Go.Am
open Go.Proofs
set_option maxRecDepth 100000
set_option linter.all false
attribute [local congr] obind_congr obH_congr cnd_congr chk_congr retK_congr codeK_congr
theorem at_ne {n a b c d : Nat} (hb : b < n) (hd : d < n) (h : a * n + b = c * n + d) : a = c ∧ b = d := by
  have hn : 0 < n := by omega
  have h1 : (a * n + b) / n = a := by rw [Nat.mul_comm, Nat.mul_add_div hn, Nat.div_eq_of_lt hb, Nat.add_zero]
  have h2 : (c * n + d) / n = c := by rw [Nat.mul_comm, Nat.mul_add_div hn, Nat.div_eq_of_lt hd, Nat.add_zero]
  have e : a = c := by rw [← h1, ← h2, h]
  subst e
  exact ⟨rfl, by omega⟩
theorem at_lt {n a b : Nat} (ha : a < n) (hb : b < n) : a * n + b < n * n := by
  have : (a + 1) * n ≤ n * n := Nat.mul_le_mul_right n ha
  rw [Nat.add_mul, Nat.one_mul] at this
  omega
theorem LS.word {h0 h h' : Heap} {n bw bn k : Nat} {ps : List (Nat × Nat)} {pv : Value} {E : Nat → List E3} {S : Nat → List Nat} {num : Nat → Nat} {wv : Nat → Value} {lv : Nat → List Value} {W : Nat → List Wd} {nums : List Nat} (L : LS h0 h n bw bn k ps pv E S num wv lv W nums) {a b : Nat} (ha : a < n) (hb : b < n)
    (kp : KpT 61 h h') (old : ∀ q, q < h.blks.length → blockOf (wv (a * n + b)) ≠ some q → h'.blks[q]? = h.blks[q]?) (low : ∀ q, q < h0.blks.length → h'.blks[q]? = h.blks[q]?)
    {v' : Value} {lv' : List Value} {ws' : List Wd} (w : WayV h0.blks.length h' v' lv' ws') (hbk : blockOf v' = blockOf (wv (a * n + b)) ∨ ∃ q, blockOf v' = some q ∧ h.blks.length ≤ q) (ok : ∀ w ∈ ws', WOk n nums a b w) :
    ∃ h'', h'.storeN bw (a * n + b) [v'] = some h'' ∧ LS h0 h'' n bw bn k ps pv E S num (updN wv (a * n + b) v') (updN lv (a * n + b) lv') (updN W (a * n + b) ws') nums ∧ KpT 59 h' h'' ∧ (∀ n0, n0 ≤ h0.blks.length → n0 ≤ h'.blks.length → ∀ S,In n0 S h' h'') := by
  obtain ⟨h'', st,Wy, kk, inn⟩ := L.Wy.turn (at_lt ha hb) kp old w hbk
  have lenl : h0.blks.length ≤ h'.blks.length := Nat.le_trans L.sm.1 kp.1
  refine ⟨h'', st, ⟨⟨Nat.le_trans lenl kk.1, fun q hq => ?_⟩, (L.G.kpT kp (by decide) (by decide) (by decide)).kpT kk (by decide) (by decide) (by decide), L.lps, (L.pr.kpT kp (by decide)).kpT kk (by decide),Wy, (L.nr.kpT kp (by decide)).kpT kk (by decide), L.ln, L.bnl, L.apart, L.one, fun c d hc hd x hx => ?_, L.small⟩, kk, inn⟩
  · have := (inn h0.blks.length (Nat.le_refl _) lenl No).old q hq id
    exact (this.trans (low q hq)).trans (L.sm.2 q hq)
  · by_cases e : c * n + d = a * n + b
    · obtain ⟨rfl, rfl⟩ := at_ne hd hb e
      rw [updN_self] at hx
      exact ok x hx
    · rw [updN_ne _ _ e] at hx
      exact L.wds c d hc hd x hx
theorem wide_logS {n : Nat} {nums : List Nat} {g : List E3} (s : SInv n g) (hn : n ≤ 6) (b : NBd nums g) (hk : ∀ i, nums.getD i 0 ≤ 200) (hl : g.length ≤ n * n + n) : getP (logB g) = some g ∧ wide g ∧ (logB g).length < 2 ^ 20 := by
  have hnn : n * n + n ≤ 42 := by
    have : n * n ≤ 6 * 6 := Nat.mul_le_mul hn hn
    omega
  have w := nb_wide s (by omega) b fun i => by have := hk i; omega
  have hf : ∀ e ∈ g, e.f < 2 ^ 63 := fun e he => by have := s.frm e he; omega
  have le := encL_le g hf w
  have pl := putL_le g.length (by omega)
  have ll : (logB g).length < 2 ^ 20 := by unfold logB; rw [List.length_append]; omega
  exact ⟨get_put s.good w (by omega), w, ll⟩
theorem LS.take {h0 h : Heap} {n bw bn k : Nat} {ps : List (Nat × Nat)} {pv : Value} {E : Nat → List E3} {S : Nat → List Nat} {num : Nat → Nat} {wv : Nat → Value} {lv : Nat → List Value} {W : Nat → List Wd} {nums : List Nat} (L : LS h0 h n bw bn k ps pv E S num wv lv W nums) (hn : n ≤ 6) (hk : k ≤ 100) {a P : Nat} (ha : a < n) (hP : P < n) (pP : P < ps.length)
    {w : Wd} (ok : WOk n nums a P w) {bv : Value} (hb : AB h0.blks.length h bv (logB w.g)) :
    ∃ r h1 E' S', evC Tryd.prog 23 #[.pointer (some ⟨ps[P].1, 0, none⟩), .int .i64 w.frm, .int .u64 w.num, .int .u64 w.to, bv] h = some (.bool r, h1) ∧ HMod (fun b => b = ps[P].1 ∨ b = ps[P].2) h h1 ∧ LS h0 h1 n bw bn k ps pv E' S' num wv lv W nums := by
  have Q := L.one P hP
  have l := L.G.eng P pP
  have hlow := L.G.low P pP
  have gd := L.getD
  have hw := nb_wide Q.inv (by omega) Q.nb fun i => by have := gd i; omega
  have hlen := Q.inv.len Q.lin.next
  have hnn : n * n + n ≤ 42 := by
    have : n * n ≤ 6 * 6 := Nat.mul_le_mul hn hn
    omega
  obtain ⟨gp, gw, gl⟩ := wide_logS ok.inv hn ok.nb (fun i => by have := gd i; omega) ok.len
  have sb : SB h bv (logB w.g) := Acc.sl hb etB.size
  cases hc : canE n (P : Nat) (S P) w.frm w.num (logB w.g) with
  | false =>
    obtain ⟨h1, e1, y1⟩ := spec_TakeNo l (w.frm : Nat) w.num w.to sb (by omega) hc
    exact ⟨false, h1, E, S, e1, y1.mod _, L.same y1.same⟩
  | true =>
    have hf := ok.frm
    have hnum := ok.num
    have hgd := gd a
    have h16 : (2 : Nat) ^ n ≤ 2 ^ 6 := Nat.pow_le_pow_right (by omega) hn
    have hto := ok.to
    have hk1 : 0 < w.num := by
      have hc' := hc
      unfold canE at hc'
      rw [gp] at hc'
      simp only at hc'
      split at hc'
      · cases hc'
      · omega
    have hne : blockOf bv ≠ some ps[P].1 ∧ blockOf bv ≠ some ps[P].2 := by
      constructor
      · intro e
        obtain ⟨all, hh⟩ := Acc.blk hb e
        have := l.tyOf (.inl rfl) hh
        rcases this with h | h <;> exact absurd h (by decide)
      · intro e
        obtain ⟨all, hh⟩ := Acc.blk hb e
        have := l.tyOf (.inr rfl) hh
        rcases this with h | h <;> exact absurd h (by decide)
    have hmx : mayE ⟨(w.frm : Nat), w.num, w.to⟩ = true := by
      unfold mayE
      simp only [Bool.and_eq_true, decide_eq_true_eq]
      omega
    obtain ⟨h1, e1, m1, l1⟩ := spec_Take l (by omega) Q.sn hw (by omega) hlow.2.2 (w.frm : Nat) w.num w.to (by omega) (by omega) sb (by omega) hne.1 hne.2 gp hc (insOk_all (by have := ok.len; omega))
    rw [Int.toNat_natCast] at l1
    have G1 := L.G.turn pP m1 (fun b hb => hb) l1
    have old : ∀ (b : Nat) (all : List Value) (ty : TypeId), h.blks[b]? = some ⟨.cells all, ty, true⟩ → ty ≠ 96 → ty ≠ 23 → h1.blks[b]? = h.blks[b]? := fun b all ty hb t1 t2 => m1.old b (List.getElem?_eq_some_iff.1 hb).1 fun e => by
      rcases l.tyOf e hb with h | h
      · exact t1 h
      · exact t2 h
    have e2 : updN num P (num P) = num := by funext j; unfold updN; split; (rename_i e; rw [e]); rfl
    rw [e2] at G1
    refine ⟨true, h1, _, _, e1, m1, ⟨m1.lowsS L.sm fun b hb e => ?_, G1, L.lps, ?_, ?_, (m1.old bn L.nr.lt fun e => ?_).trans L.nr, L.ln, L.bnl, L.apart, fun i hi => ?_, L.wds, L.small⟩⟩
    · omega
    · exact Acc.keep L.pr fun b _ hb => by
        obtain ⟨all, hk⟩ := Acc.blk L.pr hb
        exact old b all _ hk (by decide) (by decide)
    · refine L.Wy.kp fun b all ty hb ht => old b all ty hb ?_ ?_
      · rcases ht with rfl | rfl | rfl <;> decide
      · rcases ht with rfl | rfl | rfl <;> decide
    · have := L.apart P pP
      rcases e with e | e
      · exact this.1 e.symm
      · exact this.2 e.symm
    · by_cases ei : i = P
      · subst ei
        rw [updN_self, updN_self]
        refine ⟨Q.inv.take ok.inv (by omega) i w.frm w.num w.to (by omega) hk1 hto fun e he _ => ok.own e he, inv_take Q.lin ok.inv.good (w.frm : Nat) w.num w.to hmx (by omega) (by omega), ?_, Q.num, by rw [List.length_set]; exact Q.sn⟩
        refine Q.nb.take ok.nb (i : Nat) w.frm w.num w.to ?_
        rw [hf]; exact hnum
      · rw [updN_ne _ _ ei, updN_ne _ _ ei]
        exact L.one i hi
end Go.Am
namespace Go.Am
open Go.Proofs
set_option maxRecDepth 100000
set_option linter.all false
attribute [local congr] obind_congr obH_congr cnd_congr chk_congr retK_congr codeK_congr
theorem bdWd (a b c : Int) (x : Option Addr) (n m : Nat) : buildV Tryd.prog 61 #[(0, .int .i64 a), (2, .int .u64 b), (3, .int .u64 c), (4, .slice x n m)] = some (.agg #[.int .i64 a, .int .i64 0, .int .u64 b, .int .u64 c, .slice x n m, .slice none 0 0]) := by kernel_rfl
theorem bsWd (a b c : Int) (x : Option Addr) (n m : Nat) (h : Heap) : buildSliceV Tryd.prog 59 1 #[(0, .agg #[.int .i64 a, .int .i64 0, .int .u64 b, .int .u64 c, .slice x n m, .slice none 0 0])] h = some (.slice (some ⟨h.blks.length, 0, none⟩) 1 1, h.new (.cells [.int .i64 a, .int .i64 0, .int .u64 b, .int .u64 c, .slice x n m, .slice none 0 0]) 61) := by kernel_rfl
theorem iaWs (bw N i : Nat) (hi : i < N) : indexAddrV Tryd.prog 52 (.slice (some ⟨bw, 0, none⟩) N N) (.int .i64 i) = some (.pointer (some ⟨bw, i, none⟩)) := by
  have hu : Tryd.prog.underlying 52 = some (.slice 59) := by kernel_rfl
  have hs : sizeT Tryd.prog 59 = some 1 := by kernel_rfl
  unfold indexAddrV
  simp only [hu, natOf_int, hs]
  rw [if_pos hi]
  simp
theorem iaUn (bn n i : Nat) (hi : i < n) : indexAddrV Tryd.prog 53 (.slice (some ⟨bn, 0, none⟩) n n) (.int .i64 i) = some (.pointer (some ⟨bn, i, none⟩)) := by
  have hu : Tryd.prog.underlying 53 = some (.slice 23) := by kernel_rfl
  have hs : sizeT Tryd.prog 23 = some 1 := by kernel_rfl
  unfold indexAddrV
  simp only [hu, natOf_int, hs]
  rw [if_pos hi]
  simp
theorem ai_at {n0 : Nat} {h : Heap} {v : Value} {ns : List Nat} (s : AI n0 h v ns) {i : Nat} (hi : i < ns.length) :
    ∃ a, indexAddrV Tryd.prog 41 v (.int .i64 i) = some (.pointer (some a)) ∧ loadV Tryd.prog 3 (.pointer (some a)) h = some (.int .i64 (ns[i] : Nat)) := by
  obtain ⟨a, e1, e2, _⟩ := (Acc.sl s etI.size).row.at1 etI.under etI.size (by kernel_rfl) hi .i64
  refine ⟨a, e1, ?_⟩
  rw [e2, List.getElem?_map, List.getElem?_eq_getElem hi]; rfl
theorem ABs.kpT {t : TypeId} {n0 : Nat} {h h' : Heap} {v : Value} {l : List (List UInt8)} (a : ABs n0 h v l) (k : KpT t h h') (h1 : 40 ≠ t) (h2 : 5 ≠ t) : ABs n0 h' v l :=
  let ⟨vs, x⟩ := a
  ⟨vs, x.kp fun b all ty hb ht _ => k.2 b all ty hb (by rcases ht with rfl | rfl; exact h1; exact h2)⟩
theorem ABs.atS {n0 : Nat} {h : Heap} {v : Value} {l : List (List UInt8)} (a : ABs n0 h v l) {i : Nat} (hi : i < l.length) :
    ∃ ad x c, indexAddrV Tryd.prog 36 v (.int .i64 i) = some (.pointer (some ad)) ∧ loadV Tryd.prog 40 (.pointer (some ad)) h = some (.slice x (l.getD i []).length c) ∧ AB n0 h (.slice x (l.getD i []).length c) (l.getD i []) := by
  obtain ⟨vs, x⟩ := a
  obtain ⟨ad, e1, e2, _⟩ := (x.out.sl etBs.size).row.at1 etBs.under etBs.size (by kernel_rfl) hi .i64
  obtain ⟨y, hy, ay⟩ := x.rows.get' (i := i) (b := l[i]) (List.getElem?_eq_getElem hi)
  rw [hy] at e2
  obtain ⟨z, c, rfl⟩ := AB.shapeW ay
  have e : l.getD i [] = l[i] := by rw [List.getD_eq_getElem?_getD, List.getElem?_eq_getElem hi]; rfl
  rw [e]
  exact ⟨ad, z, c, e1, e2, ay⟩
def gOf (es : List E3) (t d : Nat) : List E3 := purgeE (lessE es (outB t (ofN (d : Nat))))
theorem ls_words {β : Type} {Q : Option β → Prop} {kk : Ex → St → Option β} {h0 : Heap} {n bw bn k P pm t : Nat} {ps : List (Nat × Nat)} {pv : Value} {E : Nat → List E3} {S : Nat → List Nat} {num : Nat → Nat} {nums : List Nat} {es : List E3} {ds : List Nat} {da : Option Addr} {dc : Nat} {sv : Value} {mv : List Value} {b : Nat → Value} {B : Nat} (hB : B ≤ 2 ^ 20)
    (hn : n ≤ 6) (hP : P < n) (hm1 : mv[1]? = some (.int .i64 (P : Nat))) (b0 : b 0 = .int .i64 n) (b9 : b 9 = .slice (some ⟨bw, 0, none⟩) (n * n) (n * n)) (b10 : b 10 = .slice (some ⟨bn, 0, none⟩) n n) (b12 : b 12 = .pointer (some ⟨pm, 0, none⟩))
    (hds : ∀ d ∈ ds, d < n ∧ rowF es t d = logB (gOf es t d) ∧ WOk n nums P d ⟨P, nums.getD P 0, t, gOf es t d⟩) (hdl : ds.length ≤ 64)
    (hk : ∀ (h : Heap) (y : Nat → Value) (wv : Nat → Value) (lv : Nat → List Value) (W : Nat → List Wd), LS h0 h n bw bn k ps pv E S num wv lv W nums → Cells h pm 55 mv → (∀ i, (W i).length ≤ B) → K9 b y → Q (kk .normal ⟨ar 292 y, h⟩)) :
    ∀ (m j : Nat), ds.length = j + m → ∀ (x : Nat → Value) (h : Heap) (wv : Nat → Value) (lv : Nat → List Value) (W : Nat → List Wd), LS h0 h n bw bn k ps pv E S num wv lv W nums → Cells h pm 55 mv → AI h0.blks.length h (.slice da ds.length dc) ds → ABs h0.blks.length h sv (ds.map (rowF es t)) → (∀ i, (W i).length + m ≤ B) →
      K9 b x → x 13 = .int .u64 t → x 14 = sv → x 15 = .slice da ds.length dc → x 16 = .int .i64 j → Q (lK c4_25 292 x h (blockK 4 kk)) := by
  intro m
  induction m with
  | zero =>
    intro j hj x h wv lv W L cm A B hW K Ao Ap Aq Ar
    rw [lK_eq]
    obtain rfl : j = ds.length := by omega
    have ln : ∀ h, lenV Tryd.prog 41 (.slice da ds.length dc) h = some (.int .i64 ds.length) := fun h => by kernel_rfl
    simp -implicitDefEqProofs (disch := omega) only [↓c4_25_eq, dcF,Aq,Ar, ln, ↓cnd_true, ↓cnd_false, ↓Option.bind_some, ↓obH_some', bin_add, bin_sub, bin_mul, bin_lss, bin_leq, bin_gtr, bin_geq, bin_eql, bin_neq, un_not, un_neg, Option.bind_some, Option.bind_none, Option.map_some, cnd_true, cnd_false, pickV_true, pickV_false, gd_true, gd_false, gdV_true, gdV_false, gdH_true, gdH_false, gdS_true, gdS_false, wt_ff, wt_tt, wt_ft, wt_tf, wt_undef, obH_some', extractV_tuple, nilCheckV_ptr, againK_normal, againK_exit, againK_ret, blockK_normal, blockK_same, blockK_ret, seqK_normal, seqK_exit, seqK_ret, fin_done, if_true', if_false', Bool.not_true, Bool.not_false, idx0, idx1, idx2, idx3, idx4, chk_nil_l, chk_nil_r, done_nm, up_cons, up_nil, cond_true, cond_false, Nat.reduceBEq]
    exact hk h _ wv lv W L cm (fun i => by have := hW i; omega) ⟨K.e0, K.e1, K.e5, K.e9, K.e10, K.e11, K.e12⟩
  | succ m ih =>
    intro j hj x h wv lv W L cm A B hW K Ao Ap Aq Ar
    rw [lK_eq]
    have hlt : j < ds.length := by omega
    have ln : ∀ h, lenV Tryd.prog 41 (.slice da ds.length dc) h = some (.int .i64 ds.length) := fun h => by kernel_rfl
    have ln2 := B.len
    rw [List.length_map] at ln2
    have Aa : x 0 = .int .i64 n := K.e0.trans b0
    have Aj : x 9 = .slice (some ⟨bw, 0, none⟩) (n * n) (n * n) := K.e9.trans b9
    have Ak : x 10 = .slice (some ⟨bn, 0, none⟩) n n := K.e10.trans b10
    have An : x 12 = .pointer (some ⟨pm, 0, none⟩) := K.e12.trans b12
    have lp : h.load1 pm 1 = some (.int .i64 (P : Nat)) := (cm.load 1).trans hm1
    obtain ⟨d1, d2, d3⟩ := hds ds[j] (List.getElem_mem hlt)
    obtain ⟨ad, i1, i2⟩ := ai_at A hlt
    have hat := at_lt hP d1
    have hNN : n * n ≤ 36 := Nat.le_trans (Nat.mul_le_mul hn hn) (by omega)
    have hPn : P * n < 2 ^ 20 := by omega
    have w1 : IntKind.wrap .i64 ((P : Int) * (n : Int)) = ((P * n : Nat) : Int) := by rw [← Int.natCast_mul, wrap_i64] <;> omega
    have w2 : IntKind.wrap .i64 (((P * n : Nat) : Int) + (ds[j] : Nat)) = ((P * n + ds[j] : Nat) : Int) := by rw [wrap_i64] <;> omega
    have wj : IntKind.wrap .i64 ((j : Int) + 1) = ((j + 1 : Nat) : Int) := by rw [wrap_i64] <;> omega
    have ia1 := iaWs bw (n * n) (P * n + ds[j]) hat
    have la1 := L.Wy.at hat
    have ia2 := iaUn bn n P hP
    have la2 : h.load1 bn P = some (.int .u64 (nums.getD P 0 : Nat)) := by
      rw [L.nr.load P, List.getElem?_map, List.getD_eq_getElem?_getD, List.getElem?_eq_getElem (by rw [L.ln]; exact hP)]; rfl
    obtain ⟨ad2, sx, sc, s1, s2, s3⟩ := B.atS (i := j) (by rw [List.length_map]; exact hlt)
    have hrow : (ds.map (rowF es t)).getD j [] = logB (gOf es t ds[j]) := by
      rw [List.getD_eq_getElem?_getD, List.getElem?_map, List.getElem?_eq_getElem hlt]; exact d2
    rw [hrow] at s2 s3
    obtain ⟨v', h1, e1,Wn, kp1, kT, old, hb⟩ := (L.Wy.one _ hat).app L.sm.1 ⟨P, nums.getD P 0, t, gOf es t ds[j]⟩ s3 (by have := hW (P * n + ds[j]); omega)
    have e1' : appendV Tryd.prog 59 (some 59) (wv (P * n + ds[j])) (.slice (some ⟨h.blks.length, 0, none⟩) 1 1) (h.new (.cells [.int .i64 (P : Nat), .int .i64 0, .int .u64 (nums.getD P 0 : Nat), .int .u64 (t : Nat), .slice sx (logB (gOf es t ds[j])).length sc, .slice none 0 0]) 61) = some (v', h1) := e1
    obtain ⟨h2, st, L2, kk2, inn2⟩ := L.word hP d1 kT old (fun q hq => kp1.old q hq) Wn hb fun w hw => by
      rcases List.mem_append.1 hw with hw | hw
      · exact L.wds P ds[j] hP d1 w hw
      · rw [List.mem_singleton.1 hw]; exact d3
    obtain ⟨va, vc, rfl⟩ := Acc.shape Wn.row
    have kT2 : ∀ {ty : TypeId} {cs : List Value} {p : Nat}, Cells h p ty cs → ty ≠ 61 → ty ≠ 59 → Cells h2 p ty cs := fun c t1 t2 => (c.kpT kT t1).kpT kk2 t2
    simp -implicitDefEqProofs (disch := omega) only [↓c4_25_eq, dcT,Aa,Aj,Ak,An,Ao,Ap,Aq,Ar, ln, ln2, faMv1, ldI, lp, w1, i1, i2, w2, ia1, ldWd, la1, ia2, ldU64, la2, s1, s2, bdWd, bsWd, e1', stWd, st, wj, ↓cnd_true, ↓cnd_false, ↓Option.bind_some, ↓obH_some', bin_add, bin_sub, bin_mul, bin_lss, bin_leq, bin_gtr, bin_geq, bin_eql, bin_neq, un_not, un_neg, Option.bind_some, Option.bind_none, Option.map_some, cnd_true, cnd_false, pickV_true, pickV_false, gd_true, gd_false, gdV_true, gdV_false, gdH_true, gdH_false, gdS_true, gdS_false, wt_ff, wt_tt, wt_ft, wt_tf, wt_undef, obH_some', extractV_tuple, nilCheckV_ptr, againK_normal, againK_exit, againK_ret, blockK_normal, blockK_same, blockK_ret, seqK_normal, seqK_exit, seqK_ret, fin_done, if_true', if_false', Bool.not_true, Bool.not_false, idx0, idx1, idx2, idx3, idx4, chk_nil_l, chk_nil_r, done_nm, up_cons, up_nil, cond_true, cond_false, Nat.reduceBEq]
    refine ih (j + 1) (by omega) _ h2 _ _ _ L2 (kT2 cm (by decide) (by decide)) ((Acc.kpT A kT (by decide)).kpT kk2 (by decide)) ((B.kpT kT (by decide) (by decide)).kpT kk2 (by decide) (by decide)) (fun i => ?_) ⟨K.e0, K.e1, K.e5, K.e9, K.e10, K.e11, K.e12⟩ ?_ ?_ ?_ ?_
    · by_cases e : i = P * n + ds[j]
      · subst e
        rw [updN_self, List.length_append, List.length_singleton]
        have := hW (P * n + ds[j])
        omega
      · rw [updN_ne _ _ e]
        have := hW i
        omega
    · exact Ao
    · exact Ap
    · exact Aq
    · rfl
end Go.Am
