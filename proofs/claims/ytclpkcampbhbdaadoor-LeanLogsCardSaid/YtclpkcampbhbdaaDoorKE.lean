/- What the functions answer, in the machine. -/
import Derived.Test.YtclpkcampbhbdaaDoorKD
import Derived.Lib.TrailingZeros
import Derived.Test.YtclpkcampbhbdaaDoorChecked
import Derived.Shelf.Spec.SlicesInsert
import Derived.WalkKit
import Derived.KernelRfl
import Derived.Lib.AppendZerosOnto
import Derived.Laws.NewBlocks
set_option linter.all false
namespace Go.Am
def listW (s : Nat) : List Nat := if h : s = 0 then [] else Lib.ctz 64 s :: listW (s &&& (s - 1))
termination_by s
decreasing_by
  have : s &&& (s - 1) ≤ s - 1 := Nat.and_le_right
  omega
theorem low_bit (s : Nat) (h0 : s ≠ 0) (hs : s < 2 ^ 64) : ∃ k m, Lib.ctz 64 s = k ∧ k < 64 ∧ s = 2 ^ (k + 1) * m + 2 ^ k ∧ s &&& (s - 1) = 2 ^ (k + 1) * m := by
  obtain ⟨m, h1, h2⟩ := Lib.ctzFrom_spec 64 s (by omega) hs
  have hc : Lib.ctz 64 s = Lib.ctzFrom 64 s := by unfold Lib.ctz; rw [if_neg h0]
  generalize Lib.ctzFrom 64 s = k at h1 h2 hc
  have e1 : s = 2 ^ (k + 1) * m + 2 ^ k := by rw [h1, Nat.pow_succ, Nat.mul_add, Nat.mul_one, Nat.mul_assoc]
  have p : 0 < 2 ^ k := Nat.two_pow_pos k
  have hk : 2 ^ k < 2 ^ (k + 1) := by rw [Nat.pow_succ]; omega
  refine ⟨k, m, hc, h2, e1, ?_⟩
  have e2 : s - 1 = 2 ^ (k + 1) * m + (2 ^ k - 1) := by omega
  have b0 := fun i => Nat.testBit_two_pow_mul_add m (by omega : 0 < 2 ^ (k + 1)) i
  simp only [Nat.add_zero] at b0
  apply Nat.eq_of_testBit_eq
  intro i
  rw [Nat.testBit_and, e2, e1, Nat.testBit_two_pow_mul_add _ hk, Nat.testBit_two_pow_mul_add _ (by omega : 2 ^ k - 1 < 2 ^ (k + 1)), b0]
  by_cases hi : i < k + 1
  · simp only [hi, if_true, Nat.zero_testBit]
    rw [Nat.testBit_two_pow, Nat.testBit_two_pow_sub_one]
    by_cases e : k = i
    · subst e; simp
    · simp [e]
  · simp only [hi, if_false, Bool.and_self]
def bitsL (s : Nat) : List Nat := (List.range 64).filter fun i => s.testBit i
theorem listW_bits : ∀ s : Nat, s < 2 ^ 64 → listW s = bitsL s := by
  intro s
  induction s using Nat.strongRecOn with
  | _ s ih =>
    intro hs
    by_cases h0 : s = 0
    · subst h0
      unfold listW bitsL
      rw [dif_pos rfl, List.filter_eq_nil_iff.2]
      intro i _; simp
    · obtain ⟨k, m, h1, h2, h3, h4⟩ := low_bit s h0 hs
      have p : 0 < 2 ^ k := Nat.two_pow_pos k
      have hk : 2 ^ k < 2 ^ (k + 1) := by rw [Nat.pow_succ]; omega
      rw [listW, dif_neg h0, h1, h4, ih (2 ^ (k + 1) * m) (by omega) (by omega)]
      unfold bitsL
      have hr : List.range 64 = List.range k ++ (k :: List.range' (k + 1) (63 - k)) := by
        rw [List.range_eq_range', List.range_eq_range', show (k :: List.range' (k + 1) (63 - k)) = List.range' k (64 - k) by rw [show 64 - k = (63 - k) + 1 by omega, List.range'_succ]]
        rw [show (64 : Nat) = k + (64 - k) by omega, ← List.range'_append_1]
        simp
      have b1 : ∀ i, s.testBit i = if i < k + 1 then decide (k = i) else m.testBit (i - (k + 1)) := fun i => by
        rw [h3, Nat.testBit_two_pow_mul_add _ hk, Nat.testBit_two_pow]
      have b2 : ∀ i, (2 ^ (k + 1) * m).testBit i = if i < k + 1 then false else m.testBit (i - (k + 1)) := fun i => by
        have := Nat.testBit_two_pow_mul_add m (by omega : 0 < 2 ^ (k + 1)) i
        rw [Nat.add_zero] at this
        rw [this, Nat.zero_testBit]
      rw [hr, List.filter_append, List.filter_append, List.filter_cons, List.filter_cons]
      have n1 : (List.range k).filter (fun i => s.testBit i) = [] := List.filter_eq_nil_iff.2 fun i hi => by
        rw [List.mem_range] at hi
        rw [b1, if_pos (by omega)]; simp; omega
      have n2 : (List.range k).filter (fun i => (2 ^ (k + 1) * m).testBit i) = [] := List.filter_eq_nil_iff.2 fun i hi => by
        rw [List.mem_range] at hi
        rw [b2, if_pos (by omega)]; simp
      have n3 : (List.range' (k + 1) (63 - k)).filter (fun i => (2 ^ (k + 1) * m).testBit i) = (List.range' (k + 1) (63 - k)).filter (fun i => s.testBit i) := List.filter_congr fun i hi => by
        rw [List.mem_range'] at hi
        obtain ⟨j, _, rfl⟩ := hi
        rw [b1, b2, if_neg (by omega), if_neg (by omega)]
      rw [n1, n2, n3, b1 k, b2 k, if_pos (Nat.lt_succ_self k), if_pos (Nat.lt_succ_self k)]
      simp
theorem listW_len (s : Nat) (hs : s < 2 ^ 64) : (listW s).length ≤ 64 := by
  rw [listW_bits s hs]
  unfold bitsL
  have := List.length_filter_le (fun i => s.testBit i) (List.range 64)
  rw [List.length_range] at this
  exact this
theorem listW_succ (s : Nat) (h0 : s ≠ 0) : listW s = Lib.ctz 64 s :: listW (s &&& (s - 1)) := by
  rw [listW, dif_neg h0]
theorem listW_zero : listW 0 = [] := by rw [listW, dif_pos rfl]
end Go.Am
namespace Go.Am
open Go.Proofs
set_option maxRecDepth 100000
set_option linter.all false
attribute [local congr] obind_congr obH_congr cnd_congr chk_congr retK_congr codeK_congr
theorem entL_setE : ∀ (es : List E3) (i : Nat) (hi : i < es.length) (x : E3), (entL es).take (i * 3) ++ entC x ++ (entL es).drop (i * 3 + 3) = entL (es.set i x)
  | e :: es, 0, _, x => rfl
  | e :: es, i + 1, hi, x => by
    rw [show (i + 1) * 3 = (i * 3) + 1 + 1 + 1 by omega, show (i * 3) + 1 + 1 + 1 + 3 = (i * 3 + 3) + 1 + 1 + 1 by omega]
    simp only [entL, List.take_succ_cons, List.drop_succ_cons, List.cons_append, List.set_cons_succ]
    rw [← entL_setE es i (by simpa using hi) x]
theorem AE.setE {n0 : Nat} {h : Heap} {v : Value} {es : List E3} (a : AE n0 h v es) {i : Nat} (hi : i < es.length) (x : E3) :
    ∃ b o h', blockOf v = some b ∧ n0 ≤ b ∧ b < h.blks.length ∧ (∀ k, indexAddrV Tryd.prog 63 v (.int k i) = some (.pointer (some ⟨b, o, none⟩))) ∧
      h.storeN b o (entC x) = some h' ∧ AE n0 h' v (es.set i x) ∧ (∀ S,In n0 S h h') ∧ h'.blks.length = h.blks.length ∧ (∀ q, q ≠ b → h'.blks[q]? = h.blks[q]?) := by
  obtain ⟨b, o, e1, e2, e3, e4, e5⟩ := Acc.store (P := Tryd.prog) a (by omega)
  obtain ⟨h', g1, g2, g3, g4, g5⟩ := e5 (i * 3) (entC x) (by simp [entC]; omega)
  refine ⟨b, o + i * 3, h', e1, e2, e3, fun k => e4 (by kernel_rfl) (by kernel_rfl) k i hi, g1, ?_, g3, g4, g5⟩
  rw [show (entC x).length = 3 from rfl, entL_setE es i hi x] at g2
  show Acc n0 h' _ 3 v (es.set i _).length _
  rw [List.length_set]
  exact g2
theorem stEo (p o : Nat) (e : E3) (h : Heap) : storeV Tryd.prog 68 (.pointer (some ⟨p, o, none⟩)) (entV e) h = h.storeN p o (entC e) := by kernel_rfl
theorem stEsl (p : Nat) (a : Option Addr) (n c : Nat) (h : Heap) : storeV Tryd.prog 63 (.pointer (some ⟨p, 0, none⟩)) (.slice a n c) h = h.storeN p 0 [.slice a n c] := by kernel_rfl
theorem bxEe (e : E3) (h : Heap) : boxV Tryd.prog 68 (entV e) h = some (.pointer (some ⟨h.blks.length, 0, none⟩), h.new (.cells (entC e)) 68) := by kernel_rfl
def insE (es : List E3) (x : E3) : List E3 := es.take (bsK es x) ++ x :: es.drop (bsK es x)
def addE (es : List E3) (x : E3) : List E3 := if goodE es = true ∧ mayE x = true then (if bsF es x = true then es.set (bsK es x) x else insE es x) else es
def InsOk (es : List E3) (x : E3) : Prop := goodE es = true → mayE x = true → bsF es x = false → ∀ (n0 : Nat) (h : Heap) (a : Option Addr) (c : Nat), n0 ≤ h.blks.length → AE n0 h (.slice a es.length c) es →
  ∃ a' c' h', evC Tryd.prog 63 #[.slice a es.length c, .int .i64 (bsK es x : Nat), .slice (some ⟨h.blks.length, 0, none⟩) 1 1] (h.new (.cells (entC x)) 68) = some (.slice a' (insE es x).length c', h') ∧
    AE n0 h' (.slice a' (insE es x).length c') (insE es x) ∧ Keeps n0 h h' ∧ (∀ q, q < h.blks.length → blockOf (.slice a es.length c) ≠ some q → h'.blks[q]? = h.blks[q]?)
theorem bsF_lt {es : List E3} {x : E3} (h : bsF es x = true) : bsK es x < es.length := by
  unfold bsF at h
  split at h
  · rename_i e he; exact (List.getElem?_eq_some_iff.1 he).1
  · cases h
theorem spec_Add {h : Heap} {v : Value} {es : List E3} (s : SE h v es) (hw : wide es) (hl : es.length < 2 ^ 38) (x : E3) (hx : x.t < 2 ^ 64) (hins : InsOk es x) :
    ∃ a c h', evC Tryd.prog 39 #[.agg #[v], entV x] h = some (.agg #[.slice a (addE es x).length c], h') ∧ HExt h h' ∧ AE h.blks.length h' (.slice a (addE es x).length c) (addE es x) := by
  rw [call39]
  have c1 := ((Cells.new (nm h) 65 [v]).keepNew (.cells (entC x)) 68).keepNew (.cells [.slice none 0 0]) 65
  have c2 := (Cells.new ((nm h).new (.cells [v]) 65) 68 (entC x)).keepNew (.cells [.slice none 0 0]) 65
  have c3 := Cells.new (((nm h).new (.cells [v]) 65).new (.cells (entC x)) 68) 65 [.slice none 0 0]
  have s1 : SE ((((nm h).new (.cells [v]) 65).new (.cells (entC x)) 68).new (.cells [.slice none 0 0]) 65) v es := ((s.nm.keepNew _ _).keepNew _ _).keepNew _ _
  have k1 : In h.blks.length No (nm h) ((((nm h).new (.cells [v]) 65).new (.cells (entC x)) 68).new (.cells [.slice none 0 0]) 65) := ((In.new (h := nm h) (Nat.le_refl h.blks.length) _ _).trans (In.new (by simp [Heap.new]) _ _)).trans (In.new (by simp [Heap.new, Nat.add_assoc]) _ _)
  have e0 : (nm h).blks.length = h.blks.length := rfl
  have e1 : ((nm h).new (.cells [v]) 65).blks.length = h.blks.length + 1 := by simp [Heap.new]
  have e2 : (((nm h).new (.cells [v]) 65).new (.cells (entC x)) 68).blks.length = h.blks.length + 2 := by simp [Heap.new]
  rw [e0] at c1
  rw [e1] at c2
  rw [e2] at c3
  have hlen : ((((nm h).new (.cells [v]) 65).new (.cells (entC x)) 68).new (.cells [.slice none 0 0]) 65).blks.length = h.blks.length + 3 := by simp [Heap.new]
  generalize hh : (((nm h).new (.cells [v]) 65).new (.cells (entC x)) 68).new (.cells [.slice none 0 0]) 65 = h1 at c1 c2 c3 s1 k1 hlen
  have lA : (h1.loadN h.blks.length 0 1).map (fun cs => Value.agg cs.toArray) = some (.agg #[v]) := by rw [c1.loadN (n := 1) rfl]; rfl
  obtain ⟨a, c, h3, e3,Ad, a3⟩ := spec_clone s1 (by omega)
  have c13 := c1.ext Ad
  have c23 := c2.ext Ad
  have c33 := c3.ext Ad
  have hx3 := Ad.len
  have b0 : ∀ i, i < h.blks.length + 3 → blockOf (.slice a es.length c) ≠ some i := fun i hi e => by have := a3.ge e; omega
  have c14 := c13.put [.slice a es.length c]
  have c24 := c23.keepPut (q := h.blks.length) (by omega) (.cells [.slice a es.length c])
  have c34 := c33.keepPut (q := h.blks.length) (by omega) (.cells [.slice a es.length c])
  have a4 : AE (h.blks.length + 3) (h3.put h.blks.length (.cells [.slice a es.length c])) (.slice a es.length c) es := (a3.keepPut (b0 _ (by omega)) _).up (by omega)
  have k4 := (k1.trans (Ad.inn (by omega))).trans (In.put (S := No) (by omega) (p := h.blks.length) (.inl (by omega)) (.cells [.slice a es.length c]))
  have hs4 := storeN_blk c13 (o := 0) (vs := [.slice a es.length c]) (by simp)
  have hl4 : (h3.put h.blks.length (.cells [.slice a es.length c])).blks.length = h3.blks.length := Heap.put_len _ _ _
  simp only [List.take_zero, List.nil_append, List.append_nil, List.length_cons, List.length_nil, List.drop_succ_cons, List.drop_zero, Nat.zero_add] at hs4
  generalize hh4 : h3.put h.blks.length (.cells [.slice a es.length c]) = h4 at c14 c24 c34 a4 k4 hs4 hl4
  have l4 : (h4.loadN h.blks.length 0 1).map (fun cs => Value.agg cs.toArray) = some (.agg #[.slice a es.length c]) := by rw [c14.loadN (n := 1) rfl]; rfl
  obtain ⟨h5, e5,Af⟩ := spec_Good a4.se hw (by omega)
  have hx5 := Af.len
  have c15 := c14.ext Af
  have c25 := c24.ext Af
  have c35 := c34.ext Af
  have a5 : AE (h.blks.length + 3) h5 (.slice a es.length c) es := a4.same Af.same
  have k5 := k4.trans (Af.inn (Nat.le_trans k4.le k4.len))
  -- what is answered where nothing is added
  have out : ∀ {h6 : Heap} {es' : List E3} {a' c'}, In h.blks.length No (nm h) h6 → Cells h6 h.blks.length 65 [.slice a' es'.length c'] → Cells h6 (h.blks.length + 2) 65 [.slice none 0 0] → AE (h.blks.length + 3) h6 (.slice a' es'.length c') es' →
      ∃ h7, (h6.loadN h.blks.length 0 1).map (fun cs => Value.agg cs.toArray) = some (.agg #[.slice a' es'.length c']) ∧ h6.storeN (h.blks.length + 2) 0 [.slice a' es'.length c'] = some h7 ∧ (h7.loadN (h.blks.length + 2) 0 1).map (fun cs => Value.agg cs.toArray) = some (.agg #[.slice a' es'.length c']) ∧ HExt h (done h h7) ∧ AE h.blks.length (done h h7) (.slice a' es'.length c') es' := fun {h6 es' a' c'} k g1 g2 ha => by
    have d := g2.put [.slice a' es'.length c']
    refine ⟨h6.put (h.blks.length + 2) (.cells [.slice a' es'.length c']), by rw [g1.loadN (n := 1) rfl]; rfl, ?_, by rw [d.loadN (n := 1) rfl]; rfl, done_ext' (k.trans (In.put (S := No) (Nat.le_trans k.le k.len) (p := h.blks.length + 2) (.inl (by omega)) _)), ((ha.keepPut (fun e => by have := ha.ge e; omega) _).up (by omega)).done⟩
    rw [storeN_blk g2 (by simp)]; rfl
  unfold addE
  cases hg : goodE es with
  | false =>
    rw [hg] at e5
    obtain ⟨h7, o1, o2, o3, o4, o5⟩ := out k5 c15 c35 a5
    rw [if_neg (by simp)]
    refine ⟨a, c, _, ?_, o4, o5⟩
    simp -implicitDefEqProofs (disch := omega) only [↓c39_0_eq, bxL, bxEe, alL, e0, e1, e2, hh, ldL, lA, e3, stL, hs4, l4, e5, o1, o2, o3, rvals, ↓ret39, ↓cnd_true, ↓cnd_false, ↓Option.bind_some, ↓obH_some', bin_add, bin_sub, bin_mul, bin_lss, bin_leq, bin_gtr, bin_geq, bin_eql, bin_neq, un_not, un_neg, Option.bind_some, Option.bind_none, Option.map_some, cnd_true, cnd_false, pickV_true, pickV_false, gd_true, gd_false, gdV_true, gdV_false, gdH_true, gdH_false, gdS_true, gdS_false, wt_ff, wt_tt, wt_ft, wt_tf, wt_undef, obH_some', extractV_tuple, nilCheckV_ptr, againK_normal, againK_exit, againK_ret, blockK_normal, blockK_same, blockK_ret, seqK_normal, seqK_exit, seqK_ret, fin_done, if_true', if_false', Bool.not_true, Bool.not_false, idx0, idx1, idx2, idx3, idx4, chk_nil_l, chk_nil_r, done_nm, up_cons, up_nil, cond_true, cond_false, Nat.reduceBEq]
  | true =>
    rw [hg] at e5
    have lx : ∀ {h' : Heap}, Cells h' (h.blks.length + 1) 68 (entC x) → (h'.loadN (h.blks.length + 1) 0 3).map (fun cs => Value.agg cs.toArray) = some (entV x) := fun g => by rw [g.loadN (n := 3) rfl]; rfl
    obtain ⟨h6, e6,Ag⟩ := spec_may x hx h5
    have hx6 := Ag.len
    have c16 := c15.ext Ag
    have c26 := c25.ext Ag
    have c36 := c35.ext Ag
    have a6 : AE (h.blks.length + 3) h6 (.slice a es.length c) es := a5.same Ag.same
    have k6 := k5.trans (Ag.inn (Nat.le_trans k5.le k5.len))
    cases hm : mayE x with
    | false =>
      rw [hm] at e6
      obtain ⟨h7, o1, o2, o3, o4, o5⟩ := out k6 c16 c36 a6
      rw [if_neg (by simp)]
      refine ⟨a, c, _, ?_, o4, o5⟩
      simp -implicitDefEqProofs (disch := omega) only [↓c39_0_eq, bxL, bxEe, alL, e0, e1, e2, hh, ldL, lA, e3, stL, hs4, l4, e5, ldE, lx c25, e6, o1, o2, o3, rvals, ↓ret39, ↓cnd_true, ↓cnd_false, ↓Option.bind_some, ↓obH_some', bin_add, bin_sub, bin_mul, bin_lss, bin_leq, bin_gtr, bin_geq, bin_eql, bin_neq, un_not, un_neg, Option.bind_some, Option.bind_none, Option.map_some, cnd_true, cnd_false, pickV_true, pickV_false, gd_true, gd_false, gdV_true, gdV_false, gdH_true, gdH_false, gdS_true, gdS_false, wt_ff, wt_tt, wt_ft, wt_tf, wt_undef, obH_some', extractV_tuple, nilCheckV_ptr, againK_normal, againK_exit, againK_ret, blockK_normal, blockK_same, blockK_ret, seqK_normal, seqK_exit, seqK_ret, fin_done, if_true', if_false', Bool.not_true, Bool.not_false, idx0, idx1, idx2, idx3, idx4, chk_nil_l, chk_nil_r, done_nm, up_cons, up_nil, cond_true, cond_false, Nat.reduceBEq]
    | true =>
      rw [hm] at e6
      have ls6 : h6.load1 h.blks.length 0 = some (.slice a es.length c) := c16.load 0
      obtain ⟨h7, e7,Ah⟩ := spec_BS a6.se ((goodE_iff es).1 hg).2 (by omega) x
      have hx7 := Ah.len
      have c17 := c16.ext Ah
      have c27 := c26.ext Ah
      have c37 := c36.ext Ah
      have a7 : AE (h.blks.length + 3) h7 (.slice a es.length c) es := a6.same Ah.same
      have k7 := k6.trans (Ah.inn (Nat.le_trans k6.le k6.len))
      have ls7 : h7.load1 h.blks.length 0 = some (.slice a es.length c) := c17.load 0
      rw [if_pos ⟨rfl, rfl⟩]
      cases hb : bsF es x with
      | true =>
        rw [hb] at e7
        obtain ⟨b, o, h8, f1, f2, f3, f4, f5, f6, f7, f8, f9⟩ := a7.setE (bsF_lt hb) x
        have e9 : (es.set (bsK es x) x).length = es.length := List.length_set ..
        rw [← e9] at f6
        have g1 : Cells h8 h.blks.length 65 [.slice a (es.set (bsK es x) x).length c] := by rw [e9]; exact (f9 _ (by omega)).trans c17
        have g2 : Cells h8 (h.blks.length + 2) 65 [.slice none 0 0] := (f9 _ (by omega)).trans c37
        obtain ⟨h9, o1, o2, o3, o4, o5⟩ := out (k7.trans ((f7 No).dn (by omega))) g1 g2 f6
        rw [e9] at o1 o2 o3 o5
        simp only [if_true]
        rw [e9]
        refine ⟨a, c, _, ?_, o4, o5⟩
        simp -implicitDefEqProofs (disch := omega) only [↓c39_0_eq, bxL, bxEe, alL, e0, e1, e2, hh, ldL, lA, e3, stL, hs4, l4, e5, ldE, lx c25, lx c26, e6, faL, ldEs, ls6, e7, extractV_tuple, ls7, lx c27, f4, stEo, f5, o1, o2, o3, rvals, ↓ret39, ↓cnd_true, ↓cnd_false, ↓Option.bind_some, ↓obH_some', bin_add, bin_sub, bin_mul, bin_lss, bin_leq, bin_gtr, bin_geq, bin_eql, bin_neq, un_not, un_neg, Option.bind_some, Option.bind_none, Option.map_some, cnd_true, cnd_false, pickV_true, pickV_false, gd_true, gd_false, gdV_true, gdV_false, gdH_true, gdH_false, gdS_true, gdS_false, wt_ff, wt_tt, wt_ft, wt_tf, wt_undef, obH_some', extractV_tuple, nilCheckV_ptr, againK_normal, againK_exit, againK_ret, blockK_normal, blockK_same, blockK_ret, seqK_normal, seqK_exit, seqK_ret, fin_done, if_true', if_false', Bool.not_true, Bool.not_false, idx0, idx1, idx2, idx3, idx4, chk_nil_l, chk_nil_r, done_nm, up_cons, up_nil, cond_true, cond_false, Nat.reduceBEq]
      | false =>
        rw [hb] at e7
        obtain ⟨a', c', h8, f1, f2, f3, f4⟩ := hins hg hm hb (h.blks.length + 3) h7 a c (by omega) a7
        have bs := bsE x h7
        have g1 : Cells h8 h.blks.length 65 [.slice a es.length c] := (f4 _ (by omega) (b0 _ (by omega))).trans c17
        have g2 : Cells h8 (h.blks.length + 2) 65 [.slice none 0 0] := (f4 _ (by omega) (b0 _ (by omega))).trans c37
        have hs8 := storeN_blk g1 (o := 0) (vs := [.slice a' (insE es x).length c']) (by simp)
        simp only [List.take_zero, List.nil_append, List.append_nil, List.length_cons, List.length_nil, List.drop_succ_cons, List.drop_zero, Nat.zero_add] at hs8
        have g3 := g1.put [.slice a' (insE es x).length c']
        have g4 := g2.keepPut (q := h.blks.length) (by omega) (.cells [.slice a' (insE es x).length c'])
        have kk := k7.trans (Keeps.inn (S := No) (f3.dn (by omega)))
        have k8 := kk.trans (In.put (S := No) (Nat.le_trans kk.le kk.len) (p := h.blks.length) (.inl (by omega)) (.cells [.slice a' (insE es x).length c']))
        have a8 := Acc.keepPut f2 (p := h.blks.length) (fun e => by have := Acc.ge f2 e; omega) (.cells [.slice a' (insE es x).length c'])
        obtain ⟨h9, o1, o2, o3, o4, o5⟩ := out k8 g3 g4 a8
        simp only [if_false, Bool.false_eq_true]
        refine ⟨a', c', _, ?_, o4, o5⟩
        simp -implicitDefEqProofs (disch := omega) only [↓c39_0_eq, bxL, bxEe, alL, e0, e1, e2, hh, ldL, lA, e3, stL, hs4, l4, e5, ldE, lx c25, lx c26, e6, faL, ldEs, ls6, e7, extractV_tuple, ls7, lx c27, bs, f1, stEsl, hs8, o1, o2, o3, rvals, ↓ret39, ↓cnd_true, ↓cnd_false, ↓Option.bind_some, ↓obH_some', bin_add, bin_sub, bin_mul, bin_lss, bin_leq, bin_gtr, bin_geq, bin_eql, bin_neq, un_not, un_neg, Option.bind_some, Option.bind_none, Option.map_some, cnd_true, cnd_false, pickV_true, pickV_false, gd_true, gd_false, gdV_true, gdV_false, gdH_true, gdH_false, gdS_true, gdS_false, wt_ff, wt_tt, wt_ft, wt_tf, wt_undef, obH_some', extractV_tuple, nilCheckV_ptr, againK_normal, againK_exit, againK_ret, blockK_normal, blockK_same, blockK_ret, seqK_normal, seqK_exit, seqK_ret, fin_done, if_true', if_false', Bool.not_true, Bool.not_false, idx0, idx1, idx2, idx3, idx4, chk_nil_l, chk_nil_r, done_nm, up_cons, up_nil, cond_true, cond_false, Nat.reduceBEq]
end Go.Am
namespace Go.Am
open Go.Proofs
set_option maxRecDepth 100000
set_option linter.all false
attribute [local congr] obind_congr obH_congr cnd_congr chk_congr retK_congr codeK_congr
theorem etI : ElemT Tryd.prog 41 3 1 8 (.int .i64 0) := ⟨by kernel_rfl, by kernel_rfl, by kernel_rfl, by kernel_rfl, by omega, rfl, rfl⟩
abbrev i64V (n : Nat) : Value := .int .i64 (n : Int)
abbrev SI (h : Heap) (v : Value) (ns : List Nat) : Prop := Sl Tryd.prog h 1 v ns.length (ns.map i64V)
abbrev AI (n0 : Nat) (h : Heap) (v : Value) (ns : List Nat) : Prop := Acc n0 h 3 1 v ns.length (ns.map i64V)
theorem mkI1 (n : Int) (h : Heap) : buildSliceV Tryd.prog 41 1 #[(0, .int .i64 n)] h = some (.slice (some ⟨h.blks.length, 0, none⟩) 1 1, h.new (.cells [.int .i64 n]) 3) := by kernel_rfl
theorem app_int {n0 : Nat} {h : Heap} (hn0 : n0 ≤ h.blks.length) {v : Value} {bs : List Nat} (ha : AI n0 h v bs) (b : Nat) (hl : bs.length < 2 ^ 39) :
    ∃ a c h', appendV Tryd.prog 41 (some 41) v (.slice (some ⟨h.blks.length, 0, none⟩) 1 1) (h.new (.cells [.int .i64 b]) 3) = some (.slice a (bs ++ [b]).length c, h') ∧ AI n0 h' (.slice a (bs ++ [b]).length c) (bs ++ [b]) ∧ Keeps n0 h h' ∧
      (∀ q, q < h.blks.length → blockOf v ≠ some q → h'.blks[q]? = h.blks[q]?) := by
  have ha' : AI n0 (h.new (.cells [.int .i64 b]) 3) v bs := ha.keep fun _ hb _ => Heap.new_old hb
  have hlit : SI (h.new (.cells [.int .i64 b]) 3) (.slice (some ⟨h.blks.length, 0, none⟩) 1 1) [b] :=
    .mk (by simp [Heap.loadN, Heap.cells?, blk_new_self]) (.inr ⟨Nat.le_refl _, by unfold UNK; omega⟩)
  have one : ([b].map i64V).all Value.oneCell' = true := rfl
  obtain ⟨v', h', e1, e2, e3, e4, e5⟩ := append_acc etI (t1 := some 41) (n0 := n0) (by simp [Heap.new]; omega) ha' (newsV_row etI.under hlit.row) (by simp) (by simp; omega) (by simp; omega) one
  obtain ⟨a, c, rfl⟩ := e2.shape
  have el : bs.length + [b].length = (bs ++ [b]).length := by simp
  rw [el] at e1 e2
  rw [← List.map_append] at e2
  exact ⟨a, c, h', e1, e2, (Keeps.new hn0 _ _).trans e3, fun q hq hne => (e4 q (by simp [Heap.new]; omega) hne).trans (Heap.new_old hq)⟩
theorem tz_eq (s : Nat) (hs : s < 2 ^ 64) (h : Heap) : evC Tryd.prog 60 #[.int .u64 s] h = some (.int .i64 (Lib.ctz 64 s : Nat), h) := by
  rw [evC_ext xt_tz]
  unfold tzX
  simp only []
  rw [if_pos ⟨by omega, by omega⟩, Int.toNat_natCast]
theorem list_loop {h0 : Heap} : ∀ (s : Nat), s < 2 ^ 64 → ∀ (acc : List Nat) (a : Option Addr) (c : Nat) (x : Nat → Value) (h : Heap), acc.length + (listW s).length ≤ 64 → In h0.blks.length No (nm h0) h → AI h0.blks.length h (.slice a acc.length c) acc →
    x 0 = .int .u64 s → x 3 = .slice a acc.length c →
    ∃ a' c' h', lK c36_1 16 x h (blockK 0 (sK c36_2 (retK Tryd.f36 Tryd.prog h0))) = some (.slice a' (acc ++ listW s).length c', done h0 h') ∧ In h0.blks.length No (nm h0) h' ∧ AI h0.blks.length h' (.slice a' (acc ++ listW s).length c') (acc ++ listW s) := by
  intro s
  induction s using Nat.strongRecOn with
  | _ s ih =>
    intro hs acc a c x h hl hin ha Aa Ad
    rw [lK_eq]
    by_cases h0' : s = 0
    · subst h0'
      have e := listW_zero
      rw [e, List.append_nil]
      have nz : decide (((0 : Nat) : Int) ≠ 0) = false := by decide
      refine ⟨a, c, h, ?_, hin, ha⟩
      simp -implicitDefEqProofs (disch := omega) only [↓c36_1_eq, ↓c36_2_eq,Aa,Ad, nz, ↓ret36, ↓cnd_true, ↓cnd_false, ↓Option.bind_some, ↓obH_some', bin_add, bin_sub, bin_mul, bin_lss, bin_leq, bin_gtr, bin_geq, bin_eql, bin_neq, un_not, un_neg, Option.bind_some, Option.bind_none, Option.map_some, cnd_true, cnd_false, pickV_true, pickV_false, gd_true, gd_false, gdV_true, gdV_false, gdH_true, gdH_false, gdS_true, gdS_false, wt_ff, wt_tt, wt_ft, wt_tf, wt_undef, obH_some', extractV_tuple, nilCheckV_ptr, againK_normal, againK_exit, againK_ret, blockK_normal, blockK_same, blockK_ret, seqK_normal, seqK_exit, seqK_ret, fin_done, if_true', if_false', Bool.not_true, Bool.not_false, idx0, idx1, idx2, idx3, idx4, chk_nil_l, chk_nil_r, done_nm, up_cons, up_nil, cond_true, cond_false, Nat.reduceBEq]
    · have e : listW s = Lib.ctz 64 s :: listW (s &&& (s - 1)) := listW_succ s h0'
      have nz : decide ((s : Int) ≠ 0) = true := decide_eq_true (by omega)
      have lt : s &&& (s - 1) < s := by
        have : s &&& (s - 1) ≤ s - 1 := Nat.and_le_right
        omega
      obtain ⟨a', c', h2, g1, g2, g3, g4⟩ := app_int (Nat.le_trans hin.le hin.len) ha (Lib.ctz 64 s) (by omega)
      have ws : IntKind.u64.wrap ((s : Int) - 1) = ((s - 1 : Nat) : Int) := by rw [wrap_u64] <;> omega
      have an := fun t xo yo => anU t xo yo s (s - 1) hs (by omega)
      have bs := mkI1 (Lib.ctz 64 s : Nat) h
      have hi2 := hin.trans (Keeps.inn (S := No) g3)
      have hacc : acc ++ listW s = (acc ++ [Lib.ctz 64 s]) ++ listW (s &&& (s - 1)) := by rw [e]; simp
      rw [e, List.length_cons] at hl
      rw [hacc]
      simp -implicitDefEqProofs (disch := omega) only [↓c36_1_eq, ↓c36_2_eq,Aa,Ad, nz, tz_eq s hs, bs, g1, ws, an, ↓cnd_true, ↓cnd_false, ↓Option.bind_some, ↓obH_some', bin_add, bin_sub, bin_mul, bin_lss, bin_leq, bin_gtr, bin_geq, bin_eql, bin_neq, un_not, un_neg, Option.bind_some, Option.bind_none, Option.map_some, cnd_true, cnd_false, pickV_true, pickV_false, gd_true, gd_false, gdV_true, gdV_false, gdH_true, gdH_false, gdS_true, gdS_false, wt_ff, wt_tt, wt_ft, wt_tf, wt_undef, obH_some', extractV_tuple, nilCheckV_ptr, againK_normal, againK_exit, againK_ret, blockK_normal, blockK_same, blockK_ret, seqK_normal, seqK_exit, seqK_ret, fin_done, if_true', if_false', Bool.not_true, Bool.not_false, idx0, idx1, idx2, idx3, idx4, chk_nil_l, chk_nil_r, done_nm, up_cons, up_nil, cond_true, cond_false, Nat.reduceBEq]
      refine ih (s &&& (s - 1)) lt (by omega) _ a' c' _ h2 ?_ hi2 g2 ?_ ?_
      · rw [List.length_append, List.length_singleton]; omega
      · rfl
      · rfl
theorem spec_List (s : Nat) (hs : s < 2 ^ 64) (h : Heap) : ∃ a c h', evC Tryd.prog 36 #[.int .u64 s] h = some (.slice a (listW s).length c, h') ∧ HExt h h' ∧ AI h.blks.length h' (.slice a (listW s).length c) (listW s) := by
  rw [call36]
  have hl := listW_len s hs
  have lp := list_loop (h0 := h) s hs [] none 0
  have fin' : ∀ {r : Option (Value × Heap)}, (∃ a c h', r = some (.slice a (listW s).length c, done h h') ∧ In h.blks.length No (nm h) h' ∧ AI h.blks.length h' (.slice a (listW s).length c) (listW s)) → ∃ a c h', r = some (.slice a (listW s).length c, h') ∧ HExt h h' ∧ AI h.blks.length h' (.slice a (listW s).length c) (listW s) := fun ⟨a, c, h', q1, q2, q3⟩ => ⟨a, c, _, q1, done_ext' q2, Acc.done q3⟩
  simp -implicitDefEqProofs (disch := omega) only [↓c36_0_eq, ↓cnd_true, ↓cnd_false, ↓Option.bind_some, ↓obH_some', bin_add, bin_sub, bin_mul, bin_lss, bin_leq, bin_gtr, bin_geq, bin_eql, bin_neq, un_not, un_neg, Option.bind_some, Option.bind_none, Option.map_some, cnd_true, cnd_false, pickV_true, pickV_false, gd_true, gd_false, gdV_true, gdV_false, gdH_true, gdH_false, gdS_true, gdS_false, wt_ff, wt_tt, wt_ft, wt_tf, wt_undef, obH_some', extractV_tuple, nilCheckV_ptr, againK_normal, againK_exit, againK_ret, blockK_normal, blockK_same, blockK_ret, seqK_normal, seqK_exit, seqK_ret, fin_done, if_true', if_false', Bool.not_true, Bool.not_false, idx0, idx1, idx2, idx3, idx4, chk_nil_l, chk_nil_r, done_nm, up_cons, up_nil, cond_true, cond_false, Nat.reduceBEq]
  refine fin' (lp _ _ (by simpa using hl) (In.refl (Nat.le_refl _)) .nil ?_ ?_)
  all_goals rfl
theorem spec_InsertEnd {n0 : Nat} {h : Heap} {a : Option Addr} {c : Nat} {es : List E3} (hn : n0 ≤ h.blks.length) (ha : AE n0 h (.slice a es.length c) es) (x : E3) (hl : es.length < 2 ^ 38) :
    ∃ a' c' h', evC Tryd.prog 63 #[.slice a es.length c, .int .i64 es.length, .slice (some ⟨h.blks.length, 0, none⟩) 1 1] (h.new (.cells (entC x)) 68) = some (.slice a' (es ++ [x]).length c', h') ∧
      AE n0 h' (.slice a' (es ++ [x]).length c') (es ++ [x]) ∧ Keeps n0 h h' ∧ (∀ q, q < h.blks.length → blockOf (.slice a es.length c) ≠ some q → h'.blks[q]? = h.blks[q]?) := by
  obtain ⟨a', c', h', g1, g2, g3, g4⟩ := app_ent etE (n0 := n0) (h := h) hn ha x (by omega)
  refine ⟨a', c', h', ?_, g2, g3, g4⟩
  rw [evC_ext xt_ins]
  unfold insX
  simp only []
  rw [if_pos trivial, if_pos (by omega)]
  exact g1
theorem insOk_end {es : List E3} {x : E3} (hk : bsK es x = es.length) (hl : es.length < 2 ^ 38) : InsOk es x := fun _ _ _ n0 h a c hn ha => by
  have hi : insE es x = es ++ [x] := by unfold insE; rw [hk, List.take_length, List.drop_length]
  rw [hi, hk]
  exact spec_InsertEnd hn ha x hl
end Go.Am
namespace Go.Am
open Go.Proofs
set_option maxRecDepth 100000
set_option linter.all false
attribute [local congr] obind_congr obH_congr cnd_congr chk_congr retK_congr codeK_congr
theorem bdE3 (a b c : Int) : buildV Tryd.prog 68 #[(0, .int .i64 a), (1, .int .u64 b), (2, .int .u64 c)] = some (.agg #[.int .i64 a, .int .u64 b, .int .u64 c]) := by kernel_rfl
theorem fvL (a : Option Addr) (n c : Nat) : fieldV Tryd.prog 65 (.agg #[.slice a n c]) 0 = some (.slice a n c) := by kernel_rfl
end Go.Am
namespace Go.Am
open Go.Proofs
set_option maxRecDepth 100000
set_option linter.all false
attribute [local congr] obind_congr obH_congr cnd_congr chk_congr retK_congr codeK_congr
def Old (n : Nat) (h h' : Heap) : Prop := h.blks.length ≤ h'.blks.length ∧ ∀ b, b < n → h'.blks[b]? = h.blks[b]?
theorem Old.refl (n : Nat) (h : Heap) : Old n h h := ⟨Nat.le_refl _, fun _ _ => rfl⟩
theorem Old.trans {n : Nat} {a b c : Heap} (h : Old n a b) (k : Old n b c) : Old n a c := ⟨Nat.le_trans h.1 k.1, fun i hi => (k.2 i hi).trans (h.2 i hi)⟩
theorem Same.to {n : Nat} {h h' : Heap} (s : Same h h') (hn : n ≤ h.blks.length) : Old n h h' := ⟨s.1, fun b hb => s.2 b (Nat.lt_of_lt_of_le hb hn)⟩
theorem HMod.to {n p : Nat} {h h' : Heap} (m : HMod (Just p) h h') (hp : n ≤ p) (hn : n ≤ h.blks.length) : Old n h h' := ⟨m.len, fun b hb => m.old b (Nat.lt_of_lt_of_le hb hn) (fun e => by have : b = p := e; omega)⟩
theorem Sl.old {P : Program} {k : Nat} {h h' : Heap} {es n : Nat} {v : Value} {cs : List Value} (r : Sl P h es v n cs) (o : Old k h h') (hv : Lo v k) : Sl P h' es v n cs := r.keep fun b _ hb => o.2 b (hv b hb)
theorem Cells.old {k : Nat} {h h' : Heap} {p : Nat} {ty : TypeId} {cs : List Value} (c : Cells h p ty cs) (o : Old k h h') (hp : p < k) : Cells h' p ty cs := (o.2 p hp).trans c
def encE (e : E3) : List UInt8 := putL e.f.toNat ++ (putL e.n ++ putL e.t)
def encL (es : List E3) : List UInt8 := (es.map encE).flatten
def logB (es : List E3) : List UInt8 := putL es.length ++ encL es
theorem encL_snoc (es : List E3) (e : E3) : encL (es ++ [e]) = encL es ++ encE e := by simp [encL]
theorem putL_le (n : Nat) (h : n < 2 ^ 64) : (putL n).length ≤ 10 := by
  rw [putL_len]; exact sizeN_le n 10 (Nat.lt_of_lt_of_le h (by decide)) (by omega)
theorem encE_le (e : E3) (h0 : e.f < 2 ^ 63) (h1 : e.n < 2 ^ 64) (h2 : e.t < 2 ^ 64) : (encE e).length ≤ 30 := by
  have a := putL_le e.f.toNat (by omega)
  have b := putL_le e.n h1
  have c := putL_le e.t h2
  simp only [encE, List.length_append]; omega
theorem encL_le : ∀ (es : List E3), (∀ e ∈ es, e.f < 2 ^ 63) → wide es → (encL es).length ≤ 30 * es.length
  | [], _, _ => Nat.le_refl _
  | e :: es, h, w => by
    have a := encL_le es (fun x hx => h x (by simp [hx])) (fun x hx => w x (by simp [hx]))
    have b := encE_le e (h e (by simp)) (w e (by simp)).1 (w e (by simp)).2
    simp only [encL, List.map_cons, List.flatten_cons, List.length_append, List.length_cons] at a ⊢
    omega
theorem put_loop18 {h0 h1 : Heap} {v : Value} {es : List E3} {p : Nat} (s : SE h1 v es) (hv : Lo v p) (hw : wide es) (hf : ∀ e ∈ es, 0 ≤ e.f ∧ e.f < 2 ^ 63) (hl : es.length < 2 ^ 32) (hn : h0.blks.length ≤ p) (hp1 : p ≤ h1.blks.length) :
    ∀ (m i : Nat), es.length - i = m → i ≤ es.length → ∀ (x : Nat → Value) (h : Heap),In h0.blks.length No (nm h0) h → Old p h1 h → Wr p h p (putL es.length ++ encL (es.take i)) →
    x 3 = .pointer (some ⟨p, 0, none⟩) → x 17 = v → x 18 = .int .i64 es.length → x 19 = .int .i64 i →
    ∃ a c h', lK c32_1 39 x h (blockK 0 (sK c32_2 (retK Tryd.f32 Tryd.prog h0))) = some (.slice a (logB es).length c, done h0 h') ∧ In h0.blks.length No (nm h0) h' ∧ AB h0.blks.length h' (.slice a (logB es).length c) (logB es) := by
  intro m
  have ll : ∀ i, (encL (es.take i)).length ≤ 30 * es.length := fun i => by
    have := encL_le (es.take i) (fun e he => (hf e (List.mem_of_mem_take he)).2) (fun e he => hw e (List.mem_of_mem_take he))
    have h2 : (es.take i).length ≤ es.length := by rw [List.length_take]; omega
    omega
  have l0 := putL_le es.length (by omega)
  induction m with
  | zero =>
    intro i e1 e2 x h hin ho w Ad As Au Av
    obtain rfl : i = es.length := by omega
    have := ll es.length
    rw [List.take_length] at w this
    obtain ⟨a, c, h2, q1, q2, q3⟩ := spec_WDone w (by rw [List.length_append]; omega)
    rw [lK_eq]
    refine ⟨a, c, h2, ?_, hin.trans (q2.inn (Nat.le_trans hin.le hin.len)), Acc.up q3 (Nat.le_trans hin.le hin.len)⟩
    simp -implicitDefEqProofs (disch := omega) only [↓c32_1_eq, ↓c32_2_eq,Ad,As,Au,Av, dcF, q1, ↓ret32, ↓cnd_true, ↓cnd_false, ↓Option.bind_some, ↓obH_some', bin_add, bin_sub, bin_mul, bin_lss, bin_leq, bin_gtr, bin_geq, bin_eql, bin_neq, un_not, un_neg, Option.bind_some, Option.bind_none, Option.map_some, cnd_true, cnd_false, pickV_true, pickV_false, gd_true, gd_false, gdV_true, gdV_false, gdH_true, gdH_false, gdS_true, gdS_false, wt_ff, wt_tt, wt_ft, wt_tf, wt_undef, obH_some', extractV_tuple, nilCheckV_ptr, againK_normal, againK_exit, againK_ret, blockK_normal, blockK_same, blockK_ret, seqK_normal, seqK_exit, seqK_ret, fin_done, if_true', if_false', Bool.not_true, Bool.not_false, idx0, idx1, idx2, idx3, idx4, chk_nil_l, chk_nil_r, done_nm, up_cons, up_nil, cond_true, cond_false, Nat.reduceBEq]
    rfl
  | succ m ih =>
    intro i hm hi x h hin ho w Ad As Au Av
    have hil : i < es.length := by omega
    have hph : p ≤ h.blks.length := Nat.le_trans hp1 ho.1
    obtain ⟨b, of, hb, hbl, e1, e2⟩ := s.at' (t := 63) (el := 68) (by kernel_rfl) (by kernel_rfl) hil
    obtain ⟨f1, _⟩ := e2 h (ho.2 b (hv b hb))
    obtain ⟨hA, hB, a1, a2, a3, a4, a5, a6⟩ := var_ent (n0 := p) hph es[i]
    have wd := hw es[i] (List.getElem_mem hil)
    have fd := hf es[i] (List.getElem_mem hil)
    have wlt := w.lt
    have bl := ll i
    have lt1 : ∀ {h' : Heap}, Cells h' h.blks.length 68 (entC es[i]) → h'.load1 h.blks.length 0 = some (.int .i64 es[i].f) ∧ h'.load1 h.blks.length (0 + 1) = some (.int .u64 es[i].n) ∧ h'.load1 h.blks.length (0 + 2) = some (.int .u64 es[i].t) := fun c => ⟨c.load 0, c.load 1, c.load 2⟩
    obtain ⟨l1, _, _⟩ := lt1 a3
    have wB := w.same a5
    have p1 := putL_le es[i].f.toNat (by omega)
    have p2 := putL_le es[i].n wd.1
    have p3 := putL_le es[i].t wd.2
    obtain ⟨hC, q1, q2, q3⟩ := spec_WNum wB (by have := a5.1; omega) es[i].f.toNat (by omega) (by rw [List.length_append]; omega)
    rw [Int.toNat_of_nonneg fd.1] at q1
    have hab := a5.1
    have a3C : Cells hC h.blks.length 68 (entC es[i]) := a3.mod q2 (fun e => by have : h.blks.length = p := e; omega)
    obtain ⟨_, l2, _⟩ := lt1 a3C
    have lC := q2.len
    obtain ⟨hD, r1, r2, r3⟩ := spec_WNum (q3.up (n1 := p) (by omega)) (by omega) es[i].n wd.1 (by simp only [List.length_append]; omega)
    have a3D : Cells hD h.blks.length 68 (entC es[i]) := a3C.mod r2 (fun e => by have : h.blks.length = p := e; omega)
    obtain ⟨_, _, l3⟩ := lt1 a3D
    have lD := r2.len
    obtain ⟨hE, s1, s2, s3⟩ := spec_WSet (r3.up (n1 := p) (by omega)) (by omega) es[i].t wd.2 (by simp only [List.length_append]; omega)
    have lE := s2.len
    have cv := fun h => cvI64 es[i].f h fd.1 fd.2
    have wi : IntKind.i64.wrap ((i : Int) + 1) = ((i + 1 : Nat) : Int) := by rw [wrap_i64] <;> omega
    have ht : es.take i ++ [es[i]] = es.take (i + 1) := by rw [List.take_succ, List.getElem?_eq_getElem hil]; rfl
    have hsn := encL_snoc (es.take i) es[i]
    rw [ht] at hsn
    have w2 : Wr p hE p (putL es.length ++ encL (es.take (i + 1))) := by
      have := s3.up (n1 := p) (by omega)
      rw [hsn]
      simpa [encE, List.append_assoc] using this
    have hb0 : ∀ b, b < h0.blks.length → Just p b → No b := fun b hb e => by have : b = p := e; omega
    have hin2 := (((hin.trans (In.dn (a4 No) hn)).trans (q2.inn (by omega) hb0)).trans (r2.inn (by omega) hb0)).trans (s2.inn (by omega) hb0)
    have ho2 := (((ho.trans (a5.to hph)).trans (q2.to (Nat.le_refl _) (by omega))).trans (r2.to (Nat.le_refl _) (by omega))).trans (s2.to (Nat.le_refl _) (by omega))
    rw [lK_eq]
    simp -implicitDefEqProofs (disch := omega) only [↓c32_1_eq, ↓c32_2_eq,Ad,As,Au,Av, dcT, e1, ldE, f1, Option.map_some, entA, a1, a2, faE0, faE1, faE2, ldI, ldU, ldS, l1, cv, q1, l2, r1, l3, s1, wi, ↓cnd_true, ↓cnd_false, ↓Option.bind_some, ↓obH_some', bin_add, bin_sub, bin_mul, bin_lss, bin_leq, bin_gtr, bin_geq, bin_eql, bin_neq, un_not, un_neg, Option.bind_some, Option.bind_none, Option.map_some, cnd_true, cnd_false, pickV_true, pickV_false, gd_true, gd_false, gdV_true, gdV_false, gdH_true, gdH_false, gdS_true, gdS_false, wt_ff, wt_tt, wt_ft, wt_tf, wt_undef, obH_some', extractV_tuple, nilCheckV_ptr, againK_normal, againK_exit, againK_ret, blockK_normal, blockK_same, blockK_ret, seqK_normal, seqK_exit, seqK_ret, fin_done, if_true', if_false', Bool.not_true, Bool.not_false, idx0, idx1, idx2, idx3, idx4, chk_nil_l, chk_nil_r, done_nm, up_cons, up_nil, cond_true, cond_false, Nat.reduceBEq]
    refine ih (i + 1) (by omega) (by omega) _ hE hin2 ho2 w2 ?_ ?_ ?_ ?_
    · exact Ad
    · exact As
    · exact Au
    · rfl
def putE (es : List E3) : List UInt8 := if goodE es then logB es else []
theorem good_f {es : List E3} (h : goodE es = true) : ∀ e ∈ es, 0 ≤ e.f ∧ e.f < 16 ∧ 0 < e.n ∧ e.t < 65536 := fun e he => by
  have := ((goodE_iff es).1 h).1 e he
  unfold mayE at this
  simpa [Bool.and_eq_true] using this
theorem spec_Put18 {h : Heap} {v : Value} {es : List E3} (s : SE h v es) (hw : wide es) (hl : es.length < 2 ^ 32) : ∃ a c h', evC Tryd.prog 32 #[.agg #[v]] h = some (.slice a (putE es).length c, h') ∧ HExt h h' ∧ AB h.blks.length h' (.slice a (putE es).length c) (putE es) := by
  rw [call32]
  have c1 := Cells.new (nm h) 65 [v]
  have s1 : SE ((nm h).new (.cells [v]) 65) v es := s.nm.keepNew _ _
  have k1 : In h.blks.length No (nm h) ((nm h).new (.cells [v]) 65) := In.new (h := nm h) (Nat.le_refl h.blks.length) _ _
  have e0 : (nm h).blks.length = h.blks.length := rfl
  have e1 : ((nm h).new (.cells [v]) 65).blks.length = h.blks.length + 1 := by simp [Heap.new]
  generalize hh : (nm h).new (.cells [v]) 65 = h1 at c1 s1 k1 e1
  rw [e0] at c1
  have lA : (h1.loadN h.blks.length 0 1).map (fun cs => Value.agg cs.toArray) = some (.agg #[v]) := by rw [c1.loadN (n := 1) rfl]; rfl
  obtain ⟨h2, q2,Ac⟩ := spec_Good s1 hw (by omega)
  have hx2 := Ac.len
  unfold putE
  cases hg : goodE es with
  | false =>
    rw [hg] at q2
    refine ⟨none, 0, _, ?_, done_ext' (k1.trans (Ac.inn (by omega))), Acc.done .nil⟩
    simp -implicitDefEqProofs (disch := omega) only [↓c32_0_eq, bxL, e0, hh, ldL, lA, q2, ↓ret32, ↓cnd_true, ↓cnd_false, ↓Option.bind_some, ↓obH_some', bin_add, bin_sub, bin_mul, bin_lss, bin_leq, bin_gtr, bin_geq, bin_eql, bin_neq, un_not, un_neg, Option.bind_some, Option.bind_none, Option.map_some, cnd_true, cnd_false, pickV_true, pickV_false, gd_true, gd_false, gdV_true, gdV_false, gdH_true, gdH_false, gdS_true, gdS_false, wt_ff, wt_tt, wt_ft, wt_tf, wt_undef, obH_some', extractV_tuple, nilCheckV_ptr, againK_normal, againK_exit, againK_ret, blockK_normal, blockK_same, blockK_ret, seqK_normal, seqK_exit, seqK_ret, fin_done, if_true', if_false', Bool.not_true, Bool.not_false, idx0, idx1, idx2, idx3, idx4, chk_nil_l, chk_nil_r, done_nm, up_cons, up_nil, cond_true, cond_false, Nat.reduceBEq]
    rfl
  | true =>
    rw [hg] at q2
    have hf := good_f hg
    obtain ⟨h3, q3,Ad, w3, n3⟩ := spec_NewWriter h2
    have s3 := (s1.ext Ac).ext Ad
    have c3 := (c1.ext Ac).ext Ad
    have l3 : h3.load1 h.blks.length 0 = some v := c3.load 0
    have hx3 := Ad.len
    obtain ⟨a, c, rfl⟩ := s.shape
    have cv := fun h => cvI64 (es.length : Int) h (by omega) (by omega)
    obtain ⟨h4, q4,Ae, w4⟩ := spec_WNum w3 (by omega) es.length (by omega) (by simp)
    have hx4 := Ae.len
    have lo : Lo (.slice a es.length c) h2.blks.length := (s1.ext Ac).lo
    have o4 : Old h2.blks.length h3 h4 := Ae.to (Nat.le_refl _) (by omega)
    have s4 : SE h4 (.slice a es.length c) es := Sl.old s3 o4 lo
    have l4 : h4.load1 h.blks.length 0 = some (.slice a es.length c) := (c3.old o4 (by omega)).load 0
    have k4 := ((k1.trans (Ac.inn (by omega))).trans (Ad.inn (by omega))).trans (Ae.inn (by omega) (fun b hb e => by have : b = h2.blks.length := e; omega))
    have lp := put_loop18 (h0 := h) s4 lo hw (fun e he => ⟨(hf e he).1, by have := (hf e he).2.1; omega⟩) hl (by omega) (by omega) es.length 0 (by omega) (by omega)
    have fin' : ∀ {r : Option (Value × Heap)}, (∃ a c h', r = some (.slice a (logB es).length c, done h h') ∧ In h.blks.length No (nm h) h' ∧ AB h.blks.length h' (.slice a (logB es).length c) (logB es)) → ∃ a c h', r = some (.slice a (logB es).length c, h') ∧ HExt h h' ∧ AB h.blks.length h' (.slice a (logB es).length c) (logB es) := fun ⟨a, c, h', g1, g2, g3⟩ => ⟨a, c, _, g1, done_ext' g2, Acc.done g3⟩
    simp only [if_true]
    simp -implicitDefEqProofs (disch := omega) only [↓c32_0_eq, bxL, e0, hh, ldL, lA, q2, q3, faL, ldEs, l3, lnEs, cv, q4, l4, ↓cnd_true, ↓cnd_false, ↓Option.bind_some, ↓obH_some', bin_add, bin_sub, bin_mul, bin_lss, bin_leq, bin_gtr, bin_geq, bin_eql, bin_neq, un_not, un_neg, Option.bind_some, Option.bind_none, Option.map_some, cnd_true, cnd_false, pickV_true, pickV_false, gd_true, gd_false, gdV_true, gdV_false, gdH_true, gdH_false, gdS_true, gdS_false, wt_ff, wt_tt, wt_ft, wt_tf, wt_undef, obH_some', extractV_tuple, nilCheckV_ptr, againK_normal, againK_exit, againK_ret, blockK_normal, blockK_same, blockK_ret, seqK_normal, seqK_exit, seqK_ret, fin_done, if_true', if_false', Bool.not_true, Bool.not_false, idx0, idx1, idx2, idx3, idx4, chk_nil_l, chk_nil_r, done_nm, up_cons, up_nil, cond_true, cond_false, Nat.reduceBEq]
    refine fin' (lp _ _ k4 (Old.refl _ _) ?_ ?_ ?_ ?_ ?_)
    · rw [List.take_zero, show encL [] = [] from rfl, List.append_nil, ← List.nil_append (putL es.length)]; exact w4.up (by omega)
    all_goals rfl
end Go.Am
namespace Go.Am
theorem chk_ne {β : Type} {r m : List Nat} (h : ∀ b ∈ r, ∀ x ∈ m, b ≠ x) (x : Option β) : chk r m x = x := by
  have : (r.all fun b => !m.contains b) = true := by
    rw [List.all_eq_true]
    intro b hb
    rw [Bool.not_eq_true', ← Bool.not_eq_true, List.contains_iff_mem]
    exact fun hm => h b hb b hm rfl
  unfold chk; rw [this]
theorem HMod.mods_nm {S : Nat → Prop} {h h' : Heap} (e : HMod S (Am.nm h) h') : ∀ m ∈ h'.mods, S m := by
  obtain ⟨d, e1, e2⟩ := e.mods
  intro m hm
  rw [e1] at hm
  rcases List.mem_append.1 hm with hm | hm
  · exact (e2 m hm).1
  · cases hm
theorem HMod.amx {S : Nat → Prop} {h h' : Heap} (e : HMod S (Am.nm h) h') : HMod S h (Am.am h' h) := by
  obtain ⟨d, e1, e2⟩ := e.mods
  refine ⟨e.len, e.old, d, ?_, e2⟩
  show h'.mods ++ h.mods = d ++ h.mods
  rw [e1]; simp
theorem rb_ptr (b o : Nat) : rb (.pointer (some ⟨b, o, Option.none⟩)) = [b] := rfl
end Go.Am
namespace Go.Am
theorem same_np (h : Heap) (b c : Body) (ty : TypeId) : Same h ((h.new b ty).put h.blks.length c) := by
  refine ⟨by rw [Heap.put_len]; simp [Heap.new], fun i hi => ?_⟩
  rw [Heap.put_other (by omega), Heap.new_old hi]
def rdE (most : Nat) (r : Option (List UInt8)) : E3 × Option (List UInt8) :=
  (⟨(numP r most).1, (numP (numP r most).2 (2 ^ 64 - 1)).1, (numP (numP (numP r most).2 (2 ^ 64 - 1)).2 65535).1⟩, (numP (numP (numP r most).2 (2 ^ 64 - 1)).2 65535).2)
def rdN : Nat → Option (List UInt8) → List E3 × Option (List UInt8)
  | 0, r => ([], r)
  | n + 1, r => ((rdE 16 r).1 :: (rdN n (rdE 16 r).2).1, (rdN n (rdE 16 r).2).2)
def logOf (x : List E3 × Option (List UInt8)) : Option (List E3) := if endP x.2 = true ∧ goodE x.1 = true then some x.1 else none
def getP (bs : List UInt8) : Option (List E3) := logOf (rdN (numP (some bs) bs.length).1 (numP (some bs) bs.length).2)
theorem rdE_enc (e : E3) (h0 : 0 ≤ e.f) (h1 : e.f < 16) (h2 : e.n < 2 ^ 64) (h3 : e.t < 65536) (rest : List UInt8) : rdE 16 (some (encE e ++ rest)) = (e, some rest) := by
  unfold rdE encE
  simp only [List.append_assoc]
  rw [numP_putL e.f.toNat (by omega) _ 16 (by omega)]
  simp only []
  rw [numP_putL e.n h2 _ (2 ^ 64 - 1) (by omega)]
  simp only []
  rw [numP_putL e.t (by omega) _ 65535 (by omega)]
  simp only [Int.toNat_of_nonneg h0]
theorem rdN_enc : ∀ (es : List E3) (rest : List UInt8), (∀ e ∈ es, 0 ≤ e.f ∧ e.f < 16 ∧ 0 < e.n ∧ e.t < 65536) → wide es → rdN es.length (some (encL es ++ rest)) = (es, some rest)
  | [], rest, _, _ => rfl
  | e :: es, rest, h, w => by
    have h0 := h e (by simp)
    have e1 : encL (e :: es) ++ rest = encE e ++ (encL es ++ rest) := by simp [encL]
    simp only [List.length_cons, rdN]
    rw [e1, rdE_enc e h0.1 h0.2.1 (w e (by simp)).1 h0.2.2.2, rdN_enc es rest (fun x hx => h x (by simp [hx])) (fun x hx => w x (by simp [hx]))]
theorem encL_ge : ∀ es : List E3, es.length ≤ (encL es).length
  | [] => Nat.le_refl _
  | e :: es => by
    have := encL_ge es
    have h1 : 1 ≤ (encE e).length := by
      have h1 := putL_pos e.n
      simp only [encE, List.length_append]; omega
    simp only [encL, List.map_cons, List.flatten_cons, List.length_append, List.length_cons] at this ⊢
    omega
theorem get_put {es : List E3} (hg : goodE es = true) (w : wide es) (hl : es.length < 2 ^ 64) : getP (logB es) = some es := by
  unfold getP logB
  have h1 := encL_ge es
  have e1 := numP_putL es.length hl (encL es) (putL es.length ++ encL es).length (by rw [List.length_append]; omega)
  rw [e1]
  simp only []
  have e2 := rdN_enc es [] (good_f hg) w
  rw [List.append_nil] at e2
  rw [e2]
  unfold logOf
  rw [if_pos ⟨rfl, hg⟩]
theorem rdN_len : ∀ (n : Nat) (r : Option (List UInt8)), (rdN n r).1.length = n
  | 0, _ => rfl
  | n + 1, r => by simp only [rdN, List.length_cons, rdN_len n]
theorem rdE_wide (m : Nat) (r : Option (List UInt8)) : (rdE m r).1.n < 2 ^ 64 ∧ (rdE m r).1.t < 2 ^ 64 := ⟨(numP_le _ _).2.1, (numP_le _ _).2.1⟩
theorem rdN_wide : ∀ (n : Nat) (r : Option (List UInt8)), wide (rdN n r).1
  | 0, _ => fun e he => (List.not_mem_nil he).elim
  | n + 1, r => fun e he => by
    simp only [rdN] at he
    rcases List.mem_cons.1 he with rfl | he
    · exact rdE_wide 16 r
    · exact rdN_wide n _ e he
theorem getP_len (bs : List UInt8) : ((getP bs).getD []).length ≤ bs.length := by
  unfold getP logOf
  have n1 := (numP_le (some bs) bs.length).1
  split
  · rw [Option.getD_some, rdN_len]; exact n1
  · exact Nat.zero_le _
end Go.Am
namespace Go.Am
open Go.Proofs
set_option maxRecDepth 100000
set_option linter.all false
attribute [local congr] obind_congr obH_congr cnd_congr chk_congr retK_congr codeK_congr
theorem stEs (p : Nat) (a : Option Addr) (n c : Nat) (h : Heap) : storeV Tryd.prog 63 (.pointer (some ⟨p, 0, none⟩)) (.slice a n c) h = h.storeN p 0 [.slice a n c] := by kernel_rfl
theorem bdL0 : buildV Tryd.prog 65 #[] = some (.agg #[.slice none 0 0]) := by kernel_rfl
theorem lnB8 (a : Option Addr) (n c : Nat) (h : Heap) : lenV Tryd.prog 40 (.slice a n c) h = some (.int .i64 n) := by kernel_rfl
theorem setP_num (r : Option (List UInt8)) : setP r (allN 16) = numP r 65535 := by
  cases r with
  | none => rfl
  | some bs =>
    have h := getL_lt bs
    have o := out16 (getL bs).1 h
    simp only [setP, numP]
    have : (outB (getL bs).1 (allN 16) ≠ 0) ↔ 65535 < (getL bs).1 := by
      have := decide_eq_decide.1 o
      constructor
      · intro h1; refine Classical.byContradiction fun h2 => h1 (this.2 (by omega))
      · intro h1 h2; have := this.1 h2; omega
    simp only [this]
theorem RdrL.old {L k : Nat} {h h' : Heap} {p : Nat} {r : Option (List UInt8)} (w : RdrL L h p r) (o : Old k h h') (hp : p < k) : RdrL L h' p r :=
  let ⟨a, c, x, y, z⟩ := w
  ⟨a, c, x.old o hp, y.old o fun b hb => by have := (z b hb).2; omega, z⟩
theorem amSame (h' h : Heap) : Same h' (am h' h) := ⟨Nat.le_refl _, fun _ _ => rfl⟩
theorem get_loop18 {h0 h1 : Heap} {p0 p p2 : Nat} (hn : h0.blks.length ≤ p0) (hp : p0 < p) (hp2 : p < p2) (hp3 : p2 < h1.blks.length) :
    ∀ (n : Nat) (r : Option (List UInt8)) (acc : List E3), (rbs r).length < 2 ^ 30 → acc.length + n < 2 ^ 32 → wide acc → ∀ (x : Nat → Value) (h : Heap) (a : Option Addr) (c : Nat),In h0.blks.length No (nm h0) h → h1.blks.length ≤ h.blks.length → Cells h p0 65 [.slice none 0 0] → Rdr h p r → Cells h p2 65 [.slice a acc.length c] → AE h1.blks.length h (.slice a acc.length c) acc →
    x 2 = .pointer (some ⟨p0, 0, none⟩) → x 4 = .pointer (some ⟨p, 0, none⟩) → x 5 = .pointer (some ⟨p2, 0, none⟩) → x 6 = .int .u64 n →
    ∃ a' c' h', lK c46_1 42 x h (blockK 0 (sK c46_2 (retK Tryd.f46 Tryd.prog h0))) = some (.tuple #[.agg #[.slice a' ((logOf (acc ++ (rdN n r).1, (rdN n r).2)).getD []).length c'], .bool (logOf (acc ++ (rdN n r).1, (rdN n r).2)).isSome], done h0 h') ∧ In h0.blks.length No (nm h0) h' ∧ AE h1.blks.length h' (.slice a' ((logOf (acc ++ (rdN n r).1, (rdN n r).2)).getD []).length c') ((logOf (acc ++ (rdN n r).1, (rdN n r).2)).getD []) := by
  intro n
  induction n with
  | zero =>
    intro r acc hr hl hw x h a c hin hlen c0 w c2 ha Ac Ae Af Ag
    have e1 := spec_REnd w
    simp only [rdN, List.append_nil]
    rw [lK_eq]
    have hz : ((0 : Nat) : Int) = 0 := rfl
    have bad : ∀ {h2 : Heap}, Old h1.blks.length h h2 → In h0.blks.length No (nm h0) h2 → ∃ h3, storeV Tryd.prog 65 (.pointer (some ⟨p0, 0, none⟩)) (.agg #[.slice none 0 0]) h2 = some h3 ∧ (h3.loadN p0 0 1).map (fun cs => Value.agg cs.toArray) = some (.agg #[.slice none 0 0]) ∧ In h0.blks.length No (nm h0) h3 := fun {h2} o k => by
      have d := c0.old o (by omega)
      have d2 := d.put [.slice none 0 0]
      refine ⟨h2.put p0 (.cells [.slice none 0 0]), ?_, ?_, k.trans (In.put (Nat.le_trans k.le k.len) (.inl hn) _)⟩
      · rw [stL, storeN_blk d (by simp)]; rfl
      · rw [d2.loadN (n := 1) rfl]; rfl
    cases hE : endP r with
    | false =>
      rw [hE] at e1
      obtain ⟨h3, g1, g2, g3⟩ := bad (Old.refl _ h) hin
      have hlo : logOf (acc, r) = none := by unfold logOf; rw [if_neg (by simp [hE])]
      rw [hlo]
      refine ⟨none, 0, h3, ?_, g3, AE.nil _ _⟩
      simp -implicitDefEqProofs (disch := omega) only [↓c46_1_eq, ↓c46_2_eq,Ac,Ae,Af,Ag, hz, dcF, e1, bdL0, g1, ldL, g2, Option.bind_some, rvals, ↓ret46, ↓cnd_true, ↓cnd_false, ↓Option.bind_some, ↓obH_some', bin_add, bin_sub, bin_mul, bin_lss, bin_leq, bin_gtr, bin_geq, bin_eql, bin_neq, un_not, un_neg, Option.bind_some, Option.bind_none, Option.map_some, cnd_true, cnd_false, pickV_true, pickV_false, gd_true, gd_false, gdV_true, gdV_false, gdH_true, gdH_false, gdS_true, gdS_false, wt_ff, wt_tt, wt_ft, wt_tf, wt_undef, obH_some', extractV_tuple, nilCheckV_ptr, againK_normal, againK_exit, againK_ret, blockK_normal, blockK_same, blockK_ret, seqK_normal, seqK_exit, seqK_ret, fin_done, if_true', if_false', Bool.not_true, Bool.not_false, idx0, idx1, idx2, idx3, idx4, chk_nil_l, chk_nil_r, done_nm, up_cons, up_nil, cond_true, cond_false, Nat.reduceBEq]
      rfl
    | true =>
      rw [hE] at e1
      obtain ⟨h2, q2, y2⟩ := spec_Good ha.se hw (by omega)
      have lA : (h.loadN p2 0 1).map (fun cs => Value.agg cs.toArray) = some (.agg #[.slice a acc.length c]) := by rw [c2.loadN (n := 1) rfl]; rfl
      have k2 := hin.trans (y2.inn (Nat.le_trans hin.le hin.len))
      have o2 : Old h1.blks.length h h2 := y2.same.to hlen
      cases hg : goodE acc with
      | false =>
        rw [hg] at q2
        obtain ⟨h3, g1, g2, g3⟩ := bad o2 k2
        have hlo : logOf (acc, r) = none := by unfold logOf; rw [if_neg (by simp [hg])]
        rw [hlo]
        refine ⟨none, 0, h3, ?_, g3, AE.nil _ _⟩
        simp -implicitDefEqProofs (disch := omega) only [↓c46_1_eq, ↓c46_2_eq,Ac,Ae,Af,Ag, hz, dcF, e1, ldL, lA, q2, bdL0, g1, g2, Option.bind_some, rvals, ↓ret46, ↓cnd_true, ↓cnd_false, ↓Option.bind_some, ↓obH_some', bin_add, bin_sub, bin_mul, bin_lss, bin_leq, bin_gtr, bin_geq, bin_eql, bin_neq, un_not, un_neg, Option.bind_some, Option.bind_none, Option.map_some, cnd_true, cnd_false, pickV_true, pickV_false, gd_true, gd_false, gdV_true, gdV_false, gdH_true, gdH_false, gdS_true, gdS_false, wt_ff, wt_tt, wt_ft, wt_tf, wt_undef, obH_some', extractV_tuple, nilCheckV_ptr, againK_normal, againK_exit, againK_ret, blockK_normal, blockK_same, blockK_ret, seqK_normal, seqK_exit, seqK_ret, fin_done, if_true', if_false', Bool.not_true, Bool.not_false, idx0, idx1, idx2, idx3, idx4, chk_nil_l, chk_nil_r, done_nm, up_cons, up_nil, cond_true, cond_false, Nat.reduceBEq]
        rfl
      | true =>
        rw [hg] at q2
        have hlo : logOf (acc, r) = some acc := by unfold logOf; rw [if_pos ⟨hE, hg⟩]
        rw [hlo]
        have d := c0.old o2 (by omega)
        have d2 := d.put [.slice a acc.length c]
        have lB : (h2.loadN p2 0 1).map (fun cs => Value.agg cs.toArray) = some (.agg #[.slice a acc.length c]) := by rw [(c2.old o2 hp3).loadN (n := 1) rfl]; rfl
        have lD : (Heap.loadN (h2.put p0 (.cells [.slice a acc.length c])) p0 0 1).map (fun cs => Value.agg cs.toArray) = some (.agg #[.slice a acc.length c]) := by rw [d2.loadN (n := 1) rfl]; rfl
        refine ⟨a, c, h2.put p0 (.cells [.slice a acc.length c]), ?_, k2.trans (In.put (Nat.le_trans k2.le k2.len) (.inl hn) _), (ha.same y2.same).keepPut (fun e => by have := ha.ge e; omega) _⟩
        simp -implicitDefEqProofs (disch := omega) only [↓c46_1_eq, ↓c46_2_eq,Ac,Ae,Af,Ag, hz, dcF, e1, ldL, lA, q2, lB, stL, storeN_blk d (o := 0) (vs := [.slice a acc.length c]) (by simp), List.take_zero, List.nil_append, List.append_nil, List.length_cons, List.length_nil, List.drop_succ_cons, List.drop_zero, Nat.zero_add, lD, Option.bind_some, rvals, Option.getD_some, Option.isSome_some, ↓ret46, ↓cnd_true, ↓cnd_false, ↓Option.bind_some, ↓obH_some', bin_add, bin_sub, bin_mul, bin_lss, bin_leq, bin_gtr, bin_geq, bin_eql, bin_neq, un_not, un_neg, Option.bind_some, Option.bind_none, Option.map_some, cnd_true, cnd_false, pickV_true, pickV_false, gd_true, gd_false, gdV_true, gdV_false, gdH_true, gdH_false, gdS_true, gdS_false, wt_ff, wt_tt, wt_ft, wt_tf, wt_undef, obH_some', extractV_tuple, nilCheckV_ptr, againK_normal, againK_exit, againK_ret, blockK_normal, blockK_same, blockK_ret, seqK_normal, seqK_exit, seqK_ret, fin_done, if_true', if_false', Bool.not_true, Bool.not_false, idx0, idx1, idx2, idx3, idx4, chk_nil_l, chk_nil_r, done_nm, up_cons, up_nil, cond_true, cond_false, Nat.reduceBEq]
  | succ n ih =>
    intro r acc hr hl hw x h a c hin hlen c0 w c2 ha Ac Ae Af Ag
    have l2 : h.load1 p2 0 = some (.slice a acc.length c) := c2.load 0
    have n1 := numP_le r 16
    obtain ⟨hA, q1, y1, w1⟩ := spec_RNum w.nm 16 (by omega) (by omega)
    have m1 := y1.mods_nm
    have z1 := y1.amx
    have w1' := w1.same (amSame hA h)
    have n2 := numP_le (numP r 16).2 (2 ^ 64 - 1)
    obtain ⟨hB, q2, y2, w2⟩ := spec_RNum (h := nm (am hA h)) w1'.nm (2 ^ 64 - 1) (by omega) (by omega)
    have m2 := y2.mods_nm
    have z2 := y2.amx
    have w2' := w2.same (amSame hB (am hA h))
    have q3 := spec_All 16 (by omega) (nm (am hB (am hA h)))
    have n3 := numP_le (numP (numP r 16).2 (2 ^ 64 - 1)).2 65535
    obtain ⟨hC, q4, y4, w4⟩ := spec_RSet (h := nm (am hB (am hA h))) w2'.nm (allN 16) (by unfold allN; omega) (by omega)
    rw [setP_num] at q4 w4
    have m4 := y4.mods_nm
    have z4 := y4.amx
    have w4' := w4.same (amSame hC (am hB (am hA h)))
    have zz : HMod (Just p) h (am hC (am hB (am hA h))) := by
      refine ⟨Nat.le_trans (Nat.le_trans z1.len z2.len) z4.len, fun b hb hs => ((z4.old b (Nat.lt_of_lt_of_le hb (Nat.le_trans z1.len z2.len)) hs).trans (z2.old b (Nat.lt_of_lt_of_le hb z1.len) hs)).trans (z1.old b hb hs), ?_⟩
      obtain ⟨d1, g1, k1⟩ := z1.mods
      obtain ⟨d2, g2, k2⟩ := z2.mods
      obtain ⟨d3, g3, k3⟩ := z4.mods
      have hph := w.lt
      refine ⟨d3 ++ (d2 ++ d1), by rw [g3, g2, g1]; simp, fun m hm => ?_⟩
      have : Just p m := by
        rcases List.mem_append.1 hm with hm | hm
        · exact (k3 m hm).1
        · rcases List.mem_append.1 hm with hm | hm
          · exact (k2 m hm).1
          · exact (k1 m hm).1
      exact ⟨this, by have : m = p := this; omega⟩
    have cvv := fun h => cvU64 ((numP r 16).1 : Int) h (by omega) (by omega)
    have nb : ∀ b, Just p b → b < h0.blks.length → False := fun b e hb => by have : b = p := e; omega
    have hE : (rdE 16 r).1 = ⟨(numP r 16).1, (numP (numP r 16).2 (2 ^ 64 - 1)).1, (numP (numP (numP r 16).2 (2 ^ 64 - 1)).2 65535).1⟩ := rfl
    have kX := hin.trans (zz.inn (Nat.le_trans hin.le hin.len) fun b hb e => (nb b e hb).elim)
    have haX : AE h1.blks.length (am hC (am hB (am hA h))) (.slice a acc.length c) acc := ha.mod zz fun b hb e => by have := ha.ge hb; have : b = p := e; omega
    have cX2 := c2.mod zz (fun e => by have : p2 = p := e; omega)
    have cX0 := c0.mod zz (fun e => by have : p0 = p := e; omega)
    have lX := zz.len
    generalize hX : am hC (am hB (am hA h)) = hx at kX haX cX2 cX0 lX w4'
    obtain ⟨a', c', hD, g1, g2, g3, g4⟩ := app_ent etE (n0 := h1.blks.length) (by omega) haX (rdE 16 r).1 (by omega)
    have bs := bsE (rdE 16 r).1 hx
    rw [hE] at g1 bs
    have oD : Old h1.blks.length hx hD := ⟨g3.len, fun q hq => g4 q (by omega) (Acc.off haX (Nat.le_refl _) hq)⟩
    have dD2 := cX2.old oD hp3
    have dD0 := cX0.old oD (by omega)
    have wD := w4'.old oD (by omega)
    have cF := dD2.put [.slice a' (acc ++ [(rdE 16 r).1]).length c']
    have cF0 : Cells (hD.put p2 (.cells [.slice a' (acc ++ [(rdE 16 r).1]).length c'])) p0 65 [.slice none 0 0] := dD0.keepPut (by omega) _
    have wF := RdrL.keepPut wD hp2 (.cells [.slice a' (acc ++ [(rdE 16 r).1]).length c'])
    have aF : AE h1.blks.length (hD.put p2 (.cells [.slice a' (acc ++ [(rdE 16 r).1]).length c'])) (.slice a' (acc ++ [(rdE 16 r).1]).length c') (acc ++ [(rdE 16 r).1]) := Acc.keepPut g2 (fun e => by have := Acc.ge g2 e; omega) _
    have kD := kX.trans (Keeps.inn (S := No) (g3.dn (by omega)))
    have kF := kD.trans (In.put (S := No) (Nat.le_trans kD.le kD.len) (p := p2) (.inl (by omega)) (.cells [.slice a' (acc ++ [(rdE 16 r).1]).length c']))
    have hst := storeN_blk dD2 (o := 0) (vs := [.slice a' (acc ++ [(rdE 16 r).1]).length c']) (by simp)
    simp only [List.take_zero, List.nil_append, List.append_nil, List.length_cons, List.length_nil, List.drop_succ_cons, List.drop_zero, Nat.zero_add] at hst
    rw [hE] at hst
    have hlF : (hD.put p2 (.cells [.slice a' (acc ++ [(rdE 16 r).1]).length c'])).blks.length = hD.blks.length := Heap.put_len _ _ _
    have lD := g3.len
    have dn : decide (((n + 1 : Nat) : Int) > 0) = true := decide_eq_true (by omega)
    have wn : IntKind.u64.wrap (((n + 1 : Nat) : Int) - 1) = ((n : Nat) : Int) := by rw [wrap_u64] <;> omega
    have hrw : acc ++ (rdN (n + 1) r).1 = (acc ++ [(rdE 16 r).1]) ++ (rdN n (rdE 16 r).2).1 := by simp [rdN]
    have hr2 : (rdN (n + 1) r).2 = (rdN n (rdE 16 r).2).2 := rfl
    rw [show ((16 : Nat) : Int) = 16 from rfl] at q1 q3
    rw [show ((2 ^ 64 - 1 : Nat) : Int) = 18446744073709551615 from rfl] at q2
    have mall : ∀ b ∈ [p2], ∀ x ∈ hC.mods ++ (hB.mods ++ hA.mods), b ≠ x := fun b hb x hx e => by
      rw [List.mem_singleton] at hb
      have : Just p x := by
        rcases List.mem_append.1 hx with hx | hx
        · exact m4 x hx
        · rcases List.mem_append.1 hx with hx | hx
          · exact m2 x hx
          · exact m1 x hx
      have : x = p := this
      omega
    rw [lK_eq, hrw, hr2]
    simp -implicitDefEqProofs (disch := omega) only [↓c46_1_eq, ↓c46_2_eq,Ac,Ae,Af,Ag, dn, faL, ldEs, l2, q1, cvv, q2, q3, am_nm, nm_mods, List.nil_append, q4, hX, bdE3, show ([.int .i64 ((numP r 16).1 : Int), .int .u64 ((numP (numP r 16).2 (2 ^ 64 - 1)).1 : Int), .int .u64 ((numP (numP (numP r 16).2 (2 ^ 64 - 1)).2 65535).1 : Int)] : List Value) = entC ⟨(numP r 16).1, (numP (numP r 16).2 (2 ^ 64 - 1)).1, (numP (numP (numP r 16).2 (2 ^ 64 - 1)).2 65535).1⟩ from rfl, entA, bs, g1, stEs, hst, rb_ptr, List.append_nil, wn, ↓cnd_true, ↓cnd_false, ↓Option.bind_some, ↓obH_some', bin_add, bin_sub, bin_mul, bin_lss, bin_leq, bin_gtr, bin_geq, bin_eql, bin_neq, un_not, un_neg, Option.bind_some, Option.bind_none, Option.map_some, cnd_true, cnd_false, pickV_true, pickV_false, gd_true, gd_false, gdV_true, gdV_false, gdH_true, gdH_false, gdS_true, gdS_false, wt_ff, wt_tt, wt_ft, wt_tf, wt_undef, obH_some', extractV_tuple, nilCheckV_ptr, againK_normal, againK_exit, againK_ret, blockK_normal, blockK_same, blockK_ret, seqK_normal, seqK_exit, seqK_ret, fin_done, if_true', if_false', Bool.not_true, Bool.not_false, idx0, idx1, idx2, idx3, idx4, chk_nil_l, chk_nil_r, done_nm, up_cons, up_nil, cond_true, cond_false, Nat.reduceBEq]
    rw [chk_ne mall]
    refine ih (rdE 16 r).2 _ ?_ ?_ ?_ _ _ a' c' kF (by rw [Heap.put_len]; omega) cF0 wF cF aF ?_ ?_ ?_ ?_
    · unfold rdE; simp only; omega
    · rw [List.length_append, List.length_singleton]; omega
    · intro e he
      rcases List.mem_append.1 he with he | he
      · exact hw e he
      · rw [List.mem_singleton] at he; subst he; exact rdE_wide 16 r
    · exact Ac
    · exact Ae
    · exact Af
    · rfl
end Go.Am
namespace Go.Am
open Go.Proofs
set_option maxRecDepth 100000
set_option linter.all false
attribute [local congr] obind_congr obH_congr cnd_congr chk_congr retK_congr codeK_congr
theorem spec_Get18 {h : Heap} {v : Value} {bs : List UInt8} (s : SB h v bs) (hl : bs.length < 2 ^ 30) : ∃ a c h', evC Tryd.prog 46 #[v] h = some (.tuple #[.agg #[.slice a ((getP bs).getD []).length c], .bool (getP bs).isSome], h') ∧ HExt h h' ∧ AE h.blks.length h' (.slice a ((getP bs).getD []).length c) ((getP bs).getD []) := by
  rw [call46]
  have c1 := Cells.new (nm h) 65 [.slice none 0 0]
  have s1 : SB ((nm h).new (.cells [.slice none 0 0]) 65) v bs := s.nm.keepNew _ _
  have k1 : In h.blks.length No (nm h) ((nm h).new (.cells [.slice none 0 0]) 65) := In.new (h := nm h) (Nat.le_refl h.blks.length) _ _
  have e0 : (nm h).blks.length = h.blks.length := rfl
  have e1 : ((nm h).new (.cells [.slice none 0 0]) 65).blks.length = h.blks.length + 1 := by simp [Heap.new]
  generalize hh : (nm h).new (.cells [.slice none 0 0]) 65 = h1 at c1 s1 k1 e1
  rw [e0] at c1
  obtain ⟨h2, p, q2,Ac, w2, hp⟩ := spec_NewReader s1 (by omega)
  have hx2 := Ac.len
  have c2 := c1.ext Ac
  have k2 := k1.trans (Ac.inn (by omega))
  have c3 := c2.keepNew (.cells [.slice none 0 0]) 65
  have w3 := w2.same (Same.new h2 (.cells [.slice none 0 0]) 65)
  have k3 := k2.trans (In.new (S := No) (by omega) (.cells [.slice none 0 0]) 65)
  have d3 := Cells.new h2 65 [.slice none 0 0]
  have hp2 := w2.lt
  have n3 : (h2.new (.cells [.slice none 0 0]) 65).blks.length = h2.blks.length + 1 := by simp [Heap.new]
  generalize hh3 : h2.new (.cells [.slice none 0 0]) 65 = h3 at c3 w3 k3 d3 n3
  obtain ⟨va, vc, rfl⟩ := s.shape
  have n1 := numP_le (some bs) bs.length
  have hrb : (rbs (some bs)).length = bs.length := rfl
  rw [hrb] at n1
  obtain ⟨h4, q4, y4, w4⟩ := spec_RNum w3 bs.length (by omega) (by rw [hrb]; omega)
  have cv := fun h => cvI64 (bs.length : Int) h (by omega) (by omega)
  have k4 := k3.trans (y4.inn (by omega) (fun b hb e => by have : b = p := e; omega))
  have hy4 := y4.len
  have c4 := c3.mod y4 (fun e => by have : h.blks.length = p := e; omega)
  have d4 := d3.mod y4 (fun e => by have : h2.blks.length = p := e; omega)
  have lp := get_loop18 (h0 := h) (h1 := h4) (p0 := h.blks.length) (p := p) (p2 := h2.blks.length) (by omega) (by omega) (by omega) (by omega) (numP (some bs) bs.length).1 (numP (some bs) bs.length).2 [] (by omega) (by simp; omega) (fun e he => (List.not_mem_nil he).elim)
  have fin' : ∀ {r : Option (Value × Heap)}, (∃ a c h', r = some (.tuple #[.agg #[.slice a ((getP bs).getD []).length c], .bool (getP bs).isSome], done h h') ∧ In h.blks.length No (nm h) h' ∧ AE h4.blks.length h' (.slice a ((getP bs).getD []).length c) ((getP bs).getD [])) → ∃ a c h', r = some (.tuple #[.agg #[.slice a ((getP bs).getD []).length c], .bool (getP bs).isSome], h') ∧ HExt h h' ∧ AE h.blks.length h' (.slice a ((getP bs).getD []).length c) ((getP bs).getD []) := fun ⟨a, c, h', g1, g2, g3⟩ => ⟨a, c, _, g1, done_ext' g2, (Acc.up g3 (by omega)).done⟩
  simp -implicitDefEqProofs (disch := omega) only [↓c46_0_eq, alL, e0, hh, q2, hh3, lnB8, cv, q4, ↓cnd_true, ↓cnd_false, ↓Option.bind_some, ↓obH_some', bin_add, bin_sub, bin_mul, bin_lss, bin_leq, bin_gtr, bin_geq, bin_eql, bin_neq, un_not, un_neg, Option.bind_some, Option.bind_none, Option.map_some, cnd_true, cnd_false, pickV_true, pickV_false, gd_true, gd_false, gdV_true, gdV_false, gdH_true, gdH_false, gdS_true, gdS_false, wt_ff, wt_tt, wt_ft, wt_tf, wt_undef, obH_some', extractV_tuple, nilCheckV_ptr, againK_normal, againK_exit, againK_ret, blockK_normal, blockK_same, blockK_ret, seqK_normal, seqK_exit, seqK_ret, fin_done, if_true', if_false', Bool.not_true, Bool.not_false, idx0, idx1, idx2, idx3, idx4, chk_nil_l, chk_nil_r, done_nm, up_cons, up_nil, cond_true, cond_false, Nat.reduceBEq]
  refine fin' (lp _ _ none 0 k4 (Nat.le_refl _) c4 w4 d4 (AE.nil _ _) ?_ ?_ ?_ ?_)
  all_goals rfl
end Go.Am
namespace Go.Am
open Go.Proofs
set_option maxRecDepth 100000
set_option linter.all false
attribute [local congr] obind_congr obH_congr cnd_congr chk_congr retK_congr codeK_congr
theorem etV : ElemT Tryd.prog 73 23 1 8 (.int .u64 0) := ⟨by kernel_rfl, by kernel_rfl, by kernel_rfl, by kernel_rfl, by omega, rfl, rfl⟩
theorem zeros_list (z : Value) (n : Nat) : ((Array.range (n * #[z].size)).map fun i => #[z][i % #[z].size]!).toList = List.replicate n z := by
  have e : (fun i : Nat => #[z][i % #[z].size]!) = fun _ => z := by
    funext i
    have : i % #[z].size = 0 := Nat.mod_one i
    rw [this]; rfl
  rw [e]
  simp [List.map_const']
theorem mkV (m : Nat) (hm : m ≤ 64) (h : Heap) : makeSliceV Tryd.prog 73 (.int .i64 m) (.int .i64 m) h = some (.slice (some ⟨h.blks.length, 0, none⟩) m m, h.new (.cells ((List.replicate m 0).map u64V)) 23) := by
  unfold makeSliceV
  simp only [etV.under, natOf_int, etV.size, etV.bytes, etV.zero]
  rw [if_pos ⟨Nat.le_refl _, by omega, by omega, by omega, etV.zs, etV.zg⟩]
  have := zeros_list (.int .u64 0) m
  rw [show ((Array.range (m * 1)).map fun x => (Value.int .u64 0).cells[x % (Value.int .u64 0).cells.size]!).toList = List.replicate m (.int .u64 0) from this, List.map_replicate]
  rfl
theorem spec_vecNew (m : Nat) (hm : m ≤ 64) (h : Heap) : ∃ h', evC Tryd.prog 34 #[.int .i64 m] h = some (.slice (some ⟨h.blks.length, 0, none⟩) m m, h') ∧ HExt h h' ∧ h'.blks.length = h.blks.length + 1 ∧ Cells h' h.blks.length 23 ((List.replicate m 0).map u64V) := by
  rw [call34]
  have e1 : max (m : Int) 0 = m := by omega
  have e2 : min (m : Int) 64 = m := by omega
  refine ⟨_, ?_, done_ext' (In.new (h := nm h) (Nat.le_refl _) (.cells ((List.replicate m 0).map u64V)) 23), ?_, (Cells.new (nm h) _ _).done⟩
  · simp -implicitDefEqProofs (disch := omega) only [↓c34_0_eq, vmaxI, vminI, e1, e2, mkV m hm, ↓ret34, ↓cnd_true, ↓cnd_false, ↓Option.bind_some, ↓obH_some', bin_add, bin_sub, bin_mul, bin_lss, bin_leq, bin_gtr, bin_geq, bin_eql, bin_neq, un_not, un_neg, Option.bind_some, Option.bind_none, Option.map_some, cnd_true, cnd_false, pickV_true, pickV_false, gd_true, gd_false, gdV_true, gdV_false, gdH_true, gdH_false, gdS_true, gdS_false, wt_ff, wt_tt, wt_ft, wt_tf, wt_undef, obH_some', extractV_tuple, nilCheckV_ptr, againK_normal, againK_exit, againK_ret, blockK_normal, blockK_same, blockK_ret, seqK_normal, seqK_exit, seqK_ret, fin_done, if_true', if_false', Bool.not_true, Bool.not_false, idx0, idx1, idx2, idx3, idx4, chk_nil_l, chk_nil_r, done_nm, up_cons, up_nil, cond_true, cond_false, Nat.reduceBEq]
    rfl
  · simp [Heap.new, nm]
structure LEn (h : Heap) (p s : Nat) (n me : Int) (num : Nat) (es : List E3) (ns : List Nat) : Prop where
  eng : ∃ la lc, Cells h p 96 [.int .i64 n, .int .i64 me, .slice la es.length lc, .int .u64 num, .slice (some ⟨s, 0, none⟩) ns.length ns.length] ∧ AE 0 h (.slice la es.length lc) es
  seen : Cells h s 23 (ns.map u64V)
  len : ns.length ≤ 64
theorem bdLn (n me : Int) (m : Nat) (s : Nat) : buildV Tryd.prog 96 #[(0, .int .i64 n), (1, .int .i64 me), (4, .slice (some ⟨s, 0, none⟩) m m)] = some (.agg #[.int .i64 n, .int .i64 me, .slice none 0 0, .int .u64 0, .slice (some ⟨s, 0, none⟩) m m]) := by kernel_rfl
theorem bxLn (a b c d e : Value) (h : Heap) : boxV Tryd.prog 96 (.agg #[a, b, c, d, e]) h = some (.pointer (some ⟨h.blks.length, 0, none⟩), h.new (.cells [a, b, c, d, e]) 96) := by kernel_rfl
theorem spec_leanNew (n : Nat) (me : Int) (h1 : 1 ≤ n) (h2 : n ≤ 16) (h3 : 0 ≤ me) (h4 : me < n) (h : Heap) : ∃ h', evC Tryd.prog 11 #[.int .i64 n, .int .i64 me] h = some (.tuple #[.pointer (some ⟨h.blks.length + 1, 0, none⟩), .int .i64 0], h') ∧ HExt h h' ∧ LEn h' (h.blks.length + 1) h.blks.length n me 0 [] (List.replicate n 0) := by
  rw [call11]
  obtain ⟨h2', q2,Ac, l2, c2⟩ := spec_vecNew n (by omega) (nm h)
  have e0 : (nm h).blks.length = h.blks.length := rfl
  rw [e0] at q2 l2 c2
  have k2 : In h.blks.length No (nm h) h2' := Ac.inn (Nat.le_refl h.blks.length)
  have d3 := Cells.new h2' 96 [.int .i64 n, .int .i64 me, .slice none 0 0, .int .u64 0, .slice (some ⟨h.blks.length, 0, none⟩) n n]
  have k3 := k2.trans (In.new (S := No) (by omega) (.cells [.int .i64 n, .int .i64 me, .slice none 0 0, .int .u64 0, .slice (some ⟨h.blks.length, 0, none⟩) n n]) 96)
  have c3 := c2.keepNew (.cells [.int .i64 n, .int .i64 me, .slice none 0 0, .int .u64 0, .slice (some ⟨h.blks.length, 0, none⟩) n n]) 96
  rw [l2] at d3
  refine ⟨_, ?_, done_ext' k3, ⟨⟨none, 0, ?_, AE.nil _ _⟩, c3.done, by rw [List.length_replicate]; omega⟩⟩
  · simp -implicitDefEqProofs (disch := omega) only [↓c11_0_eq, dcT, dcF, q2, bdLn, bxLn, l2, ↓ret11, ↓cnd_true, ↓cnd_false, ↓Option.bind_some, ↓obH_some', bin_add, bin_sub, bin_mul, bin_lss, bin_leq, bin_gtr, bin_geq, bin_eql, bin_neq, un_not, un_neg, Option.bind_some, Option.bind_none, Option.map_some, cnd_true, cnd_false, pickV_true, pickV_false, gd_true, gd_false, gdV_true, gdV_false, gdH_true, gdH_false, gdS_true, gdS_false, wt_ff, wt_tt, wt_ft, wt_tf, wt_undef, obH_some', extractV_tuple, nilCheckV_ptr, againK_normal, againK_exit, againK_ret, blockK_normal, blockK_same, blockK_ret, seqK_normal, seqK_exit, seqK_ret, fin_done, if_true', if_false', Bool.not_true, Bool.not_false, idx0, idx1, idx2, idx3, idx4, chk_nil_l, chk_nil_r, done_nm, up_cons, up_nil, cond_true, cond_false, Nat.reduceBEq]
  · rw [List.length_replicate]; exact d3.done
end Go.Am
namespace Go.Am
open Go.Proofs
set_option maxRecDepth 100000
set_option linter.all false
attribute [local congr] obind_congr obH_congr cnd_congr chk_congr retK_congr codeK_congr
theorem callCan1 (a0 a1 : Value) (h : Heap) : evC Tryd.prog 48 #[a0, a1] h = cK c48_0 32 (up un [(0, a0), (1, a1)]) (nm h) (retK Tryd.f48 Tryd.prog h) :=
  (evC_call 48 Tryd.f48 c48_0 Tryd.func48 (by kernel_rfl) #[a0, a1] h).trans (by kernel_rfl)
theorem faLn0 (p : Nat) : fieldAddrV Tryd.prog 96 (.pointer (some ⟨p, 0, none⟩)) 0 = some (.pointer (some ⟨p, 0, none⟩)) := by kernel_rfl
theorem faLn1 (p : Nat) : fieldAddrV Tryd.prog 96 (.pointer (some ⟨p, 0, none⟩)) 1 = some (.pointer (some ⟨p, 1, none⟩)) := by kernel_rfl
theorem faLn2 (p : Nat) : fieldAddrV Tryd.prog 96 (.pointer (some ⟨p, 0, none⟩)) 2 = some (.pointer (some ⟨p, 2, none⟩)) := by kernel_rfl
theorem faLn3 (p : Nat) : fieldAddrV Tryd.prog 96 (.pointer (some ⟨p, 0, none⟩)) 3 = some (.pointer (some ⟨p, 3, none⟩)) := by kernel_rfl
theorem faLn4 (p : Nat) : fieldAddrV Tryd.prog 96 (.pointer (some ⟨p, 0, none⟩)) 4 = some (.pointer (some ⟨p, 4, none⟩)) := by kernel_rfl
theorem ldLnP (p o : Nat) (h : Heap) : loadV Tryd.prog 33 (.pointer (some ⟨p, o, none⟩)) h = h.load1 p o := by kernel_rfl
theorem ldVec (p o : Nat) (h : Heap) : loadV Tryd.prog 73 (.pointer (some ⟨p, o, none⟩)) h = h.load1 p o := by kernel_rfl
theorem ldU64 (p o : Nat) (h : Heap) : loadV Tryd.prog 23 (.pointer (some ⟨p, o, none⟩)) h = h.load1 p o := by kernel_rfl
theorem lnVec (a : Option Addr) (n c : Nat) (h : Heap) : lenV Tryd.prog 73 (.slice a n c) h = some (.int .i64 n) := by kernel_rfl
def atN (ns : List Nat) (i : Int) : Nat := if i < 0 ∨ (ns.length : Int) ≤ i then 0 else ns.getD i.toNat 0
theorem spec_vecAt {h : Heap} {v : Value} {ns : List Nat} (s : SU h v ns) (i : Int) : evC Tryd.prog 49 #[v, .int .i64 i] h = some (.int .u64 (atN ns i), h) := by
  rw [call49]
  obtain ⟨a, c, rfl⟩ := s.shape
  unfold atN
  by_cases h1 : i < 0
  · rw [if_pos (.inl h1)]
    simp -implicitDefEqProofs (disch := omega) only [↓c49_0_eq, dcT, ↓ret49, ↓cnd_true, ↓cnd_false, ↓Option.bind_some, ↓obH_some', bin_add, bin_sub, bin_mul, bin_lss, bin_leq, bin_gtr, bin_geq, bin_eql, bin_neq, un_not, un_neg, Option.bind_some, Option.bind_none, Option.map_some, cnd_true, cnd_false, pickV_true, pickV_false, gd_true, gd_false, gdV_true, gdV_false, gdH_true, gdH_false, gdS_true, gdS_false, wt_ff, wt_tt, wt_ft, wt_tf, wt_undef, obH_some', extractV_tuple, nilCheckV_ptr, againK_normal, againK_exit, againK_ret, blockK_normal, blockK_same, blockK_ret, seqK_normal, seqK_exit, seqK_ret, fin_done, if_true', if_false', Bool.not_true, Bool.not_false, idx0, idx1, idx2, idx3, idx4, chk_nil_l, chk_nil_r, done_nm, up_cons, up_nil, cond_true, cond_false, Nat.reduceBEq]
    rfl
  · by_cases h2 : (ns.length : Int) ≤ i
    · rw [if_pos (.inr h2)]
      have g : i ≥ (ns.length : Int) := h2
      simp -implicitDefEqProofs (disch := omega) only [↓c49_0_eq, dcT, dcF, lnVec, ↓ret49, ↓cnd_true, ↓cnd_false, ↓Option.bind_some, ↓obH_some', bin_add, bin_sub, bin_mul, bin_lss, bin_leq, bin_gtr, bin_geq, bin_eql, bin_neq, un_not, un_neg, Option.bind_some, Option.bind_none, Option.map_some, cnd_true, cnd_false, pickV_true, pickV_false, gd_true, gd_false, gdV_true, gdV_false, gdH_true, gdH_false, gdS_true, gdS_false, wt_ff, wt_tt, wt_ft, wt_tf, wt_undef, obH_some', extractV_tuple, nilCheckV_ptr, againK_normal, againK_exit, againK_ret, blockK_normal, blockK_same, blockK_ret, seqK_normal, seqK_exit, seqK_ret, fin_done, if_true', if_false', Bool.not_true, Bool.not_false, idx0, idx1, idx2, idx3, idx4, chk_nil_l, chk_nil_r, done_nm, up_cons, up_nil, cond_true, cond_false, Nat.reduceBEq]
      rfl
    · rw [if_neg (by omega)]
      obtain ⟨k, rfl⟩ : ∃ k : Nat, i = k := ⟨i.toNat, by omega⟩
      rw [Int.toNat_natCast]
      obtain ⟨ad, e1, e2⟩ := su_at (Sl.nm s) (t := 73) (by kernel_rfl) (i := k) (by omega)
      simp -implicitDefEqProofs (disch := omega) only [↓c49_0_eq, dcT, dcF, lnVec, e1, e2, ↓ret49, ↓cnd_true, ↓cnd_false, ↓Option.bind_some, ↓obH_some', bin_add, bin_sub, bin_mul, bin_lss, bin_leq, bin_gtr, bin_geq, bin_eql, bin_neq, un_not, un_neg, Option.bind_some, Option.bind_none, Option.map_some, cnd_true, cnd_false, pickV_true, pickV_false, gd_true, gd_false, gdV_true, gdV_false, gdH_true, gdH_false, gdS_true, gdS_false, wt_ff, wt_tt, wt_ft, wt_tf, wt_undef, obH_some', extractV_tuple, nilCheckV_ptr, againK_normal, againK_exit, againK_ret, blockK_normal, blockK_same, blockK_ret, seqK_normal, seqK_exit, seqK_ret, fin_done, if_true', if_false', Bool.not_true, Bool.not_false, idx0, idx1, idx2, idx3, idx4, chk_nil_l, chk_nil_r, done_nm, up_cons, up_nil, cond_true, cond_false, Nat.reduceBEq]
def stopE (me : Int) (ns : List Nat) (x : E3) : Bool := hasB x.t me && (decide (x.f ≠ me) && decide ((atN ns x.f : Int) < x.n))
theorem LEn.seenS {h : Heap} {p s : Nat} {n me : Int} {num : Nat} {es : List E3} {ns : List Nat} (l : LEn h p s n me num es ns) : SU h (.slice (some ⟨s, 0, none⟩) ns.length ns.length) ns :=
  .mk (l.seen.loadN (n := ns.length * 1) (by simp)) (.inr ⟨Nat.le_refl _, by have := l.len; unfold UNK; omega⟩)
theorem LEn.same {h h' : Heap} {p s : Nat} {n me : Int} {num : Nat} {es : List E3} {ns : List Nat} (l : LEn h p s n me num es ns) (e : Same h h') : LEn h' p s n me num es ns :=
  let ⟨la, lc, a, b⟩ := l.eng
  ⟨⟨la, lc, a.same e, b.same e⟩, l.seen.same e, l.len⟩
theorem spec_Can1 {h : Heap} {pb p s : Nat} {n me : Int} {num : Nat} {es : List E3} {ns : List Nat} (cb : Cells h pb 33 [.pointer (some ⟨p, 0, none⟩)]) (l : LEn h p s n me num es ns) (x : E3) (hx : x.t < 2 ^ 64) :
    ∃ h', evC Tryd.prog 48 #[entV x, .pointer (some ⟨pb, 0, none⟩)] h = some (.bool (stopE me ns x), h') ∧ HExt h h' := by
  rw [callCan1]
  have c1 := Cells.new (nm h) 68 (entC x)
  have k1 : In h.blks.length No (nm h) ((nm h).new (.cells (entC x)) 68) := In.new (h := nm h) (Nat.le_refl h.blks.length) _ _
  have sm : Same h ((nm h).new (.cells (entC x)) 68) := Same.new (nm h) _ _
  have e0 : (nm h).blks.length = h.blks.length := rfl
  rw [e0] at c1
  generalize hh : (nm h).new (.cells (entC x)) 68 = h1 at c1 k1 sm
  have l1 := l.same sm
  obtain ⟨la, lc, ce, _⟩ := l1.eng
  have Aa : h1.load1 h.blks.length 0 = some (.int .i64 x.f) := c1.load 0
  have Ab : h1.load1 h.blks.length (0 + 1) = some (.int .u64 x.n) := c1.load 1
  have Ac : h1.load1 h.blks.length (0 + 2) = some (.int .u64 x.t) := c1.load 2
  have p0 : h1.load1 pb 0 = some (.pointer (some ⟨p, 0, none⟩)) := (cb.same sm).load 0
  have m1 : h1.load1 p 1 = some (.int .i64 me) := ce.load 1
  have m4 : h1.load1 p 4 = some (.slice (some ⟨s, 0, none⟩) ns.length ns.length) := ce.load 4
  have q1 := spec_Has x.t hx me h1
  have q2 := spec_vecAt (Sl.nm l1.seenS) x.f
  unfold stopE
  refine ⟨_, ?_, done_ext' k1⟩
  cases hb : hasB x.t me with
  | false =>
    rw [hb] at q1
    simp -implicitDefEqProofs (disch := omega) only [↓c48_0_eq, ↓c48_1_eq, ↓c48_2_eq, ↓c48_3_eq, ↓c48_4_eq, ↓d48_0_0, ↓d48_0_1, ↓d48_0_2, ↓d48_0_3, ↓d48_0_4, ↓d48_0_5, ↓d48_0_6, ↓d48_0_7, ↓d48_0_8, ↓d48_0_9, ↓d48_0_10, ↓d48_0_11, ↓d48_0_12, ↓d48_0_13, ↓d48_0_14, ↓d48_0_15, ↓d48_0_16, ↓d48_0_17, ↓d48_0_18, ↓d48_0_19, ↓d48_0_20, ↓d48_0_21, ↓d48_0_22, ↓d48_0_23, ↓d48_0_24, ↓d48_0_25, ↓d48_0_26, ↓d48_0_27, ↓d48_0_28, ↓d48_0_29, bxEe, e0, hh, faE0, faE1, faE2, ldS, ldInt, ldU64, ldLnP, ldVec,Aa,Ab,Ac, p0, nilCheckV_ptr, faLn1, faLn4, m1, m4, q1, Bool.false_and, am_nm, nm_mods, List.nil_append, List.append_nil, chk_nil_r, ↓ret48, ↓cnd_true, ↓cnd_false, ↓Option.bind_some, ↓obH_some', bin_add, bin_sub, bin_mul, bin_lss, bin_leq, bin_gtr, bin_geq, bin_eql, bin_neq, un_not, un_neg, Option.bind_some, Option.bind_none, Option.map_some, cnd_true, cnd_false, pickV_true, pickV_false, gd_true, gd_false, gdV_true, gdV_false, gdH_true, gdH_false, gdS_true, gdS_false, wt_ff, wt_tt, wt_ft, wt_tf, wt_undef, obH_some', extractV_tuple, nilCheckV_ptr, againK_normal, againK_exit, againK_ret, blockK_normal, blockK_same, blockK_ret, seqK_normal, seqK_exit, seqK_ret, fin_done, if_true', if_false', Bool.not_true, Bool.not_false, idx0, idx1, idx2, idx3, idx4, chk_nil_l, chk_nil_r, done_nm, up_cons, up_nil, cond_true, cond_false, Nat.reduceBEq]
  | true =>
    rw [hb] at q1
    by_cases hf : x.f = me
    · have d1 : decide (x.f ≠ me) = false := decide_eq_false (fun h => h hf)
      simp -implicitDefEqProofs (disch := omega) only [↓c48_0_eq, ↓c48_1_eq, ↓c48_2_eq, ↓c48_3_eq, ↓c48_4_eq, ↓d48_0_0, ↓d48_0_1, ↓d48_0_2, ↓d48_0_3, ↓d48_0_4, ↓d48_0_5, ↓d48_0_6, ↓d48_0_7, ↓d48_0_8, ↓d48_0_9, ↓d48_0_10, ↓d48_0_11, ↓d48_0_12, ↓d48_0_13, ↓d48_0_14, ↓d48_0_15, ↓d48_0_16, ↓d48_0_17, ↓d48_0_18, ↓d48_0_19, ↓d48_0_20, ↓d48_0_21, ↓d48_0_22, ↓d48_0_23, ↓d48_0_24, ↓d48_0_25, ↓d48_0_26, ↓d48_0_27, ↓d48_0_28, ↓d48_0_29, bxEe, e0, hh, faE0, faE1, faE2, ldS, ldInt, ldU64, ldLnP, ldVec,Aa,Ab,Ac, p0, nilCheckV_ptr, faLn1, faLn4, m1, m4, q1, d1, Bool.false_and, Bool.true_and, am_nm, nm_mods, List.nil_append, List.append_nil, chk_nil_r, ↓ret48, ↓cnd_true, ↓cnd_false, ↓Option.bind_some, ↓obH_some', bin_add, bin_sub, bin_mul, bin_lss, bin_leq, bin_gtr, bin_geq, bin_eql, bin_neq, un_not, un_neg, Option.bind_some, Option.bind_none, Option.map_some, cnd_true, cnd_false, pickV_true, pickV_false, gd_true, gd_false, gdV_true, gdV_false, gdH_true, gdH_false, gdS_true, gdS_false, wt_ff, wt_tt, wt_ft, wt_tf, wt_undef, obH_some', extractV_tuple, nilCheckV_ptr, againK_normal, againK_exit, againK_ret, blockK_normal, blockK_same, blockK_ret, seqK_normal, seqK_exit, seqK_ret, fin_done, if_true', if_false', Bool.not_true, Bool.not_false, idx0, idx1, idx2, idx3, idx4, chk_nil_l, chk_nil_r, done_nm, up_cons, up_nil, cond_true, cond_false, Nat.reduceBEq]
    · have d1 : decide (x.f ≠ me) = true := decide_eq_true hf
      simp -implicitDefEqProofs (disch := omega) only [↓c48_0_eq, ↓c48_1_eq, ↓c48_2_eq, ↓c48_3_eq, ↓c48_4_eq, ↓d48_0_0, ↓d48_0_1, ↓d48_0_2, ↓d48_0_3, ↓d48_0_4, ↓d48_0_5, ↓d48_0_6, ↓d48_0_7, ↓d48_0_8, ↓d48_0_9, ↓d48_0_10, ↓d48_0_11, ↓d48_0_12, ↓d48_0_13, ↓d48_0_14, ↓d48_0_15, ↓d48_0_16, ↓d48_0_17, ↓d48_0_18, ↓d48_0_19, ↓d48_0_20, ↓d48_0_21, ↓d48_0_22, ↓d48_0_23, ↓d48_0_24, ↓d48_0_25, ↓d48_0_26, ↓d48_0_27, ↓d48_0_28, ↓d48_0_29, bxEe, e0, hh, faE0, faE1, faE2, ldS, ldInt, ldU64, ldLnP, ldVec,Aa,Ab,Ac, p0, nilCheckV_ptr, faLn1, faLn4, m1, m4, q1, d1, q2, am_nm, nm_mods, List.nil_append, List.append_nil, chk_nil_r, Bool.true_and, ↓ret48, ↓cnd_true, ↓cnd_false, ↓Option.bind_some, ↓obH_some', bin_add, bin_sub, bin_mul, bin_lss, bin_leq, bin_gtr, bin_geq, bin_eql, bin_neq, un_not, un_neg, Option.bind_some, Option.bind_none, Option.map_some, cnd_true, cnd_false, pickV_true, pickV_false, gd_true, gd_false, gdV_true, gdV_false, gdH_true, gdH_false, gdS_true, gdS_false, wt_ff, wt_tt, wt_ft, wt_tf, wt_undef, obH_some', extractV_tuple, nilCheckV_ptr, againK_normal, againK_exit, againK_ret, blockK_normal, blockK_same, blockK_ret, seqK_normal, seqK_exit, seqK_ret, fin_done, if_true', if_false', Bool.not_true, Bool.not_false, idx0, idx1, idx2, idx3, idx4, chk_nil_l, chk_nil_r, done_nm, up_cons, up_nil, cond_true, cond_false, Nat.reduceBEq]
end Go.Am
namespace Go.Am
open Go.Proofs
set_option maxRecDepth 100000
set_option linter.all false
attribute [local congr] obind_congr obH_congr cnd_congr chk_congr retK_congr codeK_congr
theorem sameNm (h : Heap) : Same h (nm h) := ⟨Nat.le_refl _, fun _ _ => rfl⟩
theorem callClos (a b : Value) (h : Heap) : callV Tryd.prog (evC Tryd.prog) (.func (.func 48) #[] #[b]) #[a] h = evC Tryd.prog 48 #[a, b] h := by kernel_rfl
theorem idx_loop {h0 h1 : Heap} {v : Value} {g : List E3} {pb p s : Nat} {n me : Int} {num : Nat} {es : List E3} {ns : List Nat} (sv : SE h1 v g) (hw : wide g) (hl : g.length < 2 ^ 40) (cb : Cells h1 pb 33 [.pointer (some ⟨p, 0, none⟩)]) (l : LEn h1 p s n me num es ns) :
    ∀ (m i : Nat), g.length - i = m → i ≤ g.length → ∀ (x : Nat → Value) (h : Heap),In h0.blks.length No (nm h0) h → Same h1 h → x 0 = v → x 1 = .func (.func 48) #[] #[.pointer (some ⟨pb, 0, none⟩)] → x 7 = .int .i64 g.length → x 8 = .int .i64 i →
    ∃ (k : Int) (h' : Heap), lK c71_1 19 x h (blockK 0 (sK c71_2 (retK Tryd.f71 Tryd.prog h0))) = some (.int .i64 k, done h0 h') ∧ In h0.blks.length No (nm h0) h' ∧ decide (k ≥ 0) = (g.drop i).any (stopE me ns) := by
  intro m
  induction m with
  | zero =>
    intro i e1 e2 x h hin hs Aa Ab Ah Ai
    obtain rfl : i = g.length := by omega
    rw [lK_eq, List.drop_length]
    refine ⟨-1, h, ?_, hin, rfl⟩
    simp -implicitDefEqProofs (disch := omega) only [↓c71_1_eq, ↓c71_2_eq,Ah,Ai, dcF, ↓ret71, ↓cnd_true, ↓cnd_false, ↓Option.bind_some, ↓obH_some', bin_add, bin_sub, bin_mul, bin_lss, bin_leq, bin_gtr, bin_geq, bin_eql, bin_neq, un_not, un_neg, Option.bind_some, Option.bind_none, Option.map_some, cnd_true, cnd_false, pickV_true, pickV_false, gd_true, gd_false, gdV_true, gdV_false, gdH_true, gdH_false, gdS_true, gdS_false, wt_ff, wt_tt, wt_ft, wt_tf, wt_undef, obH_some', extractV_tuple, nilCheckV_ptr, againK_normal, againK_exit, againK_ret, blockK_normal, blockK_same, blockK_ret, seqK_normal, seqK_exit, seqK_ret, fin_done, if_true', if_false', Bool.not_true, Bool.not_false, idx0, idx1, idx2, idx3, idx4, chk_nil_l, chk_nil_r, done_nm, up_cons, up_nil, cond_true, cond_false, Nat.reduceBEq]
  | succ m ih =>
    intro i hm hi x h hin hs Aa Ab Ah Ai
    have hil : i < g.length := by omega
    obtain ⟨b, o, hb, hbl, e1, e2⟩ := sv.at' (t := 63) (el := 68) (by kernel_rfl) (by kernel_rfl) hil
    obtain ⟨f1, _⟩ := e2 h (hs.2 b hbl)
    obtain ⟨h2, q2, y2⟩ := spec_Can1 (cb.same hs) (l.same hs) g[i] (hw _ (List.getElem_mem hil)).2
    have hin2 := hin.trans (y2.inn (Nat.le_trans hin.le hin.len))
    have wi : IntKind.i64.wrap ((i : Int) + 1) = ((i + 1 : Nat) : Int) := by rw [wrap_i64] <;> omega
    rw [lK_eq, List.drop_eq_getElem_cons hil, List.any_cons]
    cases hst : stopE me ns g[i] with
    | true =>
      rw [hst] at q2
      refine ⟨i, h2, ?_, hin2, by simp⟩
      simp -implicitDefEqProofs (disch := omega) only [↓c71_1_eq, ↓c71_2_eq,Aa,Ab,Ah,Ai, dcT, e1, ldE, f1, Option.map_some, entA, callClos, q2, ↓ret71, ↓cnd_true, ↓cnd_false, ↓Option.bind_some, ↓obH_some', bin_add, bin_sub, bin_mul, bin_lss, bin_leq, bin_gtr, bin_geq, bin_eql, bin_neq, un_not, un_neg, Option.bind_some, Option.bind_none, Option.map_some, cnd_true, cnd_false, pickV_true, pickV_false, gd_true, gd_false, gdV_true, gdV_false, gdH_true, gdH_false, gdS_true, gdS_false, wt_ff, wt_tt, wt_ft, wt_tf, wt_undef, obH_some', extractV_tuple, nilCheckV_ptr, againK_normal, againK_exit, againK_ret, blockK_normal, blockK_same, blockK_ret, seqK_normal, seqK_exit, seqK_ret, fin_done, if_true', if_false', Bool.not_true, Bool.not_false, idx0, idx1, idx2, idx3, idx4, chk_nil_l, chk_nil_r, done_nm, up_cons, up_nil, cond_true, cond_false, Nat.reduceBEq]
    | false =>
      rw [hst] at q2
      rw [Bool.false_or]
      simp -implicitDefEqProofs (disch := omega) only [↓c71_1_eq, ↓c71_2_eq,Aa,Ab,Ah,Ai, dcT, e1, ldE, f1, Option.map_some, entA, callClos, q2, wi, ↓cnd_true, ↓cnd_false, ↓Option.bind_some, ↓obH_some', bin_add, bin_sub, bin_mul, bin_lss, bin_leq, bin_gtr, bin_geq, bin_eql, bin_neq, un_not, un_neg, Option.bind_some, Option.bind_none, Option.map_some, cnd_true, cnd_false, pickV_true, pickV_false, gd_true, gd_false, gdV_true, gdV_false, gdH_true, gdH_false, gdS_true, gdS_false, wt_ff, wt_tt, wt_ft, wt_tf, wt_undef, obH_some', extractV_tuple, nilCheckV_ptr, againK_normal, againK_exit, againK_ret, blockK_normal, blockK_same, blockK_ret, seqK_normal, seqK_exit, seqK_ret, fin_done, if_true', if_false', Bool.not_true, Bool.not_false, idx0, idx1, idx2, idx3, idx4, chk_nil_l, chk_nil_r, done_nm, up_cons, up_nil, cond_true, cond_false, Nat.reduceBEq]
      refine ih (i + 1) (by omega) (by omega) _ h2 hin2 (hs.trans y2.same) ?_ ?_ ?_ ?_
      · exact Aa
      · exact Ab
      · exact Ah
      · rfl
theorem spec_Contains {h : Heap} {v : Value} {g : List E3} {pb p s : Nat} {n me : Int} {num : Nat} {es : List E3} {ns : List Nat} (sv : SE h v g) (hw : wide g) (hl : g.length < 2 ^ 40) (cb : Cells h pb 33 [.pointer (some ⟨p, 0, none⟩)]) (l : LEn h p s n me num es ns) :
    ∃ h', evC Tryd.prog 47 #[v, .func (.func 48) #[] #[.pointer (some ⟨pb, 0, none⟩)]] h = some (.bool (g.any (stopE me ns)), h') ∧ HExt h h' := by
  have ix : ∀ h, SE h v g → Cells h pb 33 [.pointer (some ⟨p, 0, none⟩)] → LEn h p s n me num es ns → ∃ (k : Int) (h' : Heap), evC Tryd.prog 71 #[v, .func (.func 48) #[] #[.pointer (some ⟨pb, 0, none⟩)]] h = some (.int .i64 k, h') ∧ HExt h h' ∧ decide (k ≥ 0) = g.any (stopE me ns) := fun h sv cb l => by
    rw [call71]
    have lp := idx_loop (h0 := h) (h1 := nm h) sv.nm hw hl cb (l.same (sameNm h)) g.length 0 (by omega) (by omega)
    obtain ⟨a, c, rfl⟩ := sv.shape
    have fin' : ∀ {r : Option (Value × Heap)}, (∃ (k : Int) (h' : Heap), r = some (.int .i64 k, done h h') ∧ In h.blks.length No (nm h) h' ∧ decide (k ≥ 0) = (g.drop 0).any (stopE me ns)) → ∃ (k : Int) (h' : Heap), r = some (.int .i64 k, h') ∧ HExt h h' ∧ decide (k ≥ 0) = g.any (stopE me ns) := fun ⟨k, h', q1, q2, q3⟩ => ⟨k, _, q1, done_ext' q2, q3⟩
    simp -implicitDefEqProofs (disch := omega) only [↓c71_0_eq, lnEs, ↓cnd_true, ↓cnd_false, ↓Option.bind_some, ↓obH_some', bin_add, bin_sub, bin_mul, bin_lss, bin_leq, bin_gtr, bin_geq, bin_eql, bin_neq, un_not, un_neg, Option.bind_some, Option.bind_none, Option.map_some, cnd_true, cnd_false, pickV_true, pickV_false, gd_true, gd_false, gdV_true, gdV_false, gdH_true, gdH_false, gdS_true, gdS_false, wt_ff, wt_tt, wt_ft, wt_tf, wt_undef, obH_some', extractV_tuple, nilCheckV_ptr, againK_normal, againK_exit, againK_ret, blockK_normal, blockK_same, blockK_ret, seqK_normal, seqK_exit, seqK_ret, fin_done, if_true', if_false', Bool.not_true, Bool.not_false, idx0, idx1, idx2, idx3, idx4, chk_nil_l, chk_nil_r, done_nm, up_cons, up_nil, cond_true, cond_false, Nat.reduceBEq]
    refine fin' (lp _ _ (In.refl (Nat.le_refl _)) (Same.refl _) ?_ ?_ ?_ ?_)
    all_goals rfl
  rw [call47]
  obtain ⟨k, h2, q2,Ac, hk⟩ := ix (nm h) sv.nm cb (l.same (sameNm h))
  refine ⟨_, ?_, done_ext' (Ac.inn (Nat.le_refl h.blks.length))⟩
  simp -implicitDefEqProofs (disch := omega) only [↓c47_0_eq, q2, hk, ↓ret47, ↓cnd_true, ↓cnd_false, ↓Option.bind_some, ↓obH_some', bin_add, bin_sub, bin_mul, bin_lss, bin_leq, bin_gtr, bin_geq, bin_eql, bin_neq, un_not, un_neg, Option.bind_some, Option.bind_none, Option.map_some, cnd_true, cnd_false, pickV_true, pickV_false, gd_true, gd_false, gdV_true, gdV_false, gdH_true, gdH_false, gdS_true, gdS_false, wt_ff, wt_tt, wt_ft, wt_tf, wt_undef, obH_some', extractV_tuple, nilCheckV_ptr, againK_normal, againK_exit, againK_ret, blockK_normal, blockK_same, blockK_ret, seqK_normal, seqK_exit, seqK_ret, fin_done, if_true', if_false', Bool.not_true, Bool.not_false, idx0, idx1, idx2, idx3, idx4, chk_nil_l, chk_nil_r, done_nm, up_cons, up_nil, cond_true, cond_false, Nat.reduceBEq]
def canE (n me : Int) (ns : List Nat) (fr : Int) (num : Nat) (bs : List UInt8) : Bool := match getP bs with
  | none => false
  | some g => if fr < 0 ∨ n ≤ fr ∨ fr = me ∨ num < 1 then false else !g.any (stopE me ns)
theorem bxLnP (p : Nat) (h : Heap) : boxV Tryd.prog 33 (.pointer (some ⟨p, 0, none⟩)) h = some (.pointer (some ⟨h.blks.length, 0, none⟩), h.new (.cells [.pointer (some ⟨p, 0, none⟩)]) 33) := by kernel_rfl
theorem getP_wide {bs : List UInt8} {g : List E3} (h : getP bs = some g) : wide g := by
  unfold getP logOf at h
  split at h
  · cases h; exact rdN_wide _ _
  · cases h
theorem spec_Can {h : Heap} {p s : Nat} {n me : Int} {num : Nat} {es : List E3} {ns : List Nat} (l : LEn h p s n me num es ns) (fr : Int) (k : Nat) {v : Value} {bs : List UInt8} (sb : SB h v bs) (hl : bs.length < 2 ^ 30) :
    ∃ h', evC Tryd.prog 16 #[.pointer (some ⟨p, 0, none⟩), .int .i64 fr, .int .u64 k, v] h = some (.bool (canE n me ns fr k bs), h') ∧ HExt h h' := by
  rw [call16]
  have c1 := Cells.new (nm h) 33 [.pointer (some ⟨p, 0, none⟩)]
  have k1 : In h.blks.length No (nm h) ((nm h).new (.cells [.pointer (some ⟨p, 0, none⟩)]) 33) := In.new (h := nm h) (Nat.le_refl h.blks.length) _ _
  have sm : Same h ((nm h).new (.cells [.pointer (some ⟨p, 0, none⟩)]) 33) := Same.new (nm h) _ _
  have e0 : (nm h).blks.length = h.blks.length := rfl
  have e1 : ((nm h).new (.cells [.pointer (some ⟨p, 0, none⟩)]) 33).blks.length = h.blks.length + 1 := by simp [Heap.new]
  rw [e0] at c1
  generalize hh : (nm h).new (.cells [.pointer (some ⟨p, 0, none⟩)]) 33 = h1 at c1 k1 sm e1
  obtain ⟨a2, c2, h2, q2,Ac, r2⟩ := spec_Get18 (Sl.same sb sm) hl
  have hx2 := Ac.len
  have d3 := Cells.new h2 65 [.slice none 0 0]
  have st := storeN_blk d3 (o := 0) (vs := [.slice a2 ((getP bs).getD []).length c2]) (by simp)
  simp only [List.take_zero, List.nil_append, List.append_nil, List.length_cons, List.length_nil, List.drop_succ_cons, List.drop_zero, Nat.zero_add] at st
  have k2 := k1.trans (Ac.inn (by omega))
  have k3 := (k2.trans (In.new (S := No) (by omega) (.cells [.slice none 0 0]) 65)).trans (In.put (S := No) (by simp [Heap.new]; omega) (p := h2.blks.length) (.inl (by omega)) (.cells [.slice a2 ((getP bs).getD []).length c2]))
  have y3 := same_np h2 (.cells [.slice none 0 0]) (.cells [.slice a2 ((getP bs).getD []).length c2]) 65
  have g3 := d3.put [.slice a2 ((getP bs).getD []).length c2]
  have s3 : SE ((h2.new (.cells [.slice none 0 0]) 65).put h2.blks.length (.cells [.slice a2 ((getP bs).getD []).length c2])) (.slice a2 ((getP bs).getD []).length c2) ((getP bs).getD []) := Sl.same (AE.se r2) y3
  generalize hh3 : (h2.new (.cells [.slice none 0 0]) 65).put h2.blks.length (.cells [.slice a2 ((getP bs).getD []).length c2]) = h3 at st k3 y3 g3 s3
  have sm3 := (sm.trans Ac.same).trans y3
  have l3 := l.same sm3
  obtain ⟨la, lc, ce, _⟩ := l3.eng
  have p0 : h3.load1 h.blks.length 0 = some (.pointer (some ⟨p, 0, none⟩)) := ((c1.ext Ac).same y3).load 0
  have m0 : h3.load1 p 0 = some (.int .i64 n) := ce.load 0
  have m1 : h3.load1 p 1 = some (.int .i64 me) := ce.load 1
  have lg : h3.load1 h2.blks.length 0 = some (.slice a2 ((getP bs).getD []).length c2) := g3.load 0
  unfold canE
  cases hg : getP bs with
  | none =>
    rw [hg] at q2 st
    simp only [Option.getD_none, Option.isSome_none] at q2 st
    refine ⟨_, ?_, done_ext' k3⟩
    simp -implicitDefEqProofs (disch := omega) only [↓c16_0_eq, bxLnP, e0, hh, q2, extractV_tuple, alL, stL, st, ↓ret16, ↓cnd_true, ↓cnd_false, ↓Option.bind_some, ↓obH_some', bin_add, bin_sub, bin_mul, bin_lss, bin_leq, bin_gtr, bin_geq, bin_eql, bin_neq, un_not, un_neg, Option.bind_some, Option.bind_none, Option.map_some, cnd_true, cnd_false, pickV_true, pickV_false, gd_true, gd_false, gdV_true, gdV_false, gdH_true, gdH_false, gdS_true, gdS_false, wt_ff, wt_tt, wt_ft, wt_tf, wt_undef, obH_some', extractV_tuple, nilCheckV_ptr, againK_normal, againK_exit, againK_ret, blockK_normal, blockK_same, blockK_ret, seqK_normal, seqK_exit, seqK_ret, fin_done, if_true', if_false', Bool.not_true, Bool.not_false, idx0, idx1, idx2, idx3, idx4, chk_nil_l, chk_nil_r, done_nm, up_cons, up_nil, cond_true, cond_false, Nat.reduceBEq]
  | some g =>
    rw [hg] at q2 st s3 lg
    simp only [Option.getD_some, Option.isSome_some] at q2 st s3 lg
    by_cases hbad : fr < 0 ∨ n ≤ fr ∨ fr = me ∨ k < 1
    · refine ⟨_, ?_, done_ext' k3⟩
      simp only [if_pos hbad]
      by_cases b1 : fr < 0
      · simp -implicitDefEqProofs (disch := omega) only [↓c16_0_eq, bxLnP, e0, hh, q2, extractV_tuple, alL, stL, st, dcT, ↓ret16, ↓cnd_true, ↓cnd_false, ↓Option.bind_some, ↓obH_some', bin_add, bin_sub, bin_mul, bin_lss, bin_leq, bin_gtr, bin_geq, bin_eql, bin_neq, un_not, un_neg, Option.bind_some, Option.bind_none, Option.map_some, cnd_true, cnd_false, pickV_true, pickV_false, gd_true, gd_false, gdV_true, gdV_false, gdH_true, gdH_false, gdS_true, gdS_false, wt_ff, wt_tt, wt_ft, wt_tf, wt_undef, obH_some', extractV_tuple, nilCheckV_ptr, againK_normal, againK_exit, againK_ret, blockK_normal, blockK_same, blockK_ret, seqK_normal, seqK_exit, seqK_ret, fin_done, if_true', if_false', Bool.not_true, Bool.not_false, idx0, idx1, idx2, idx3, idx4, chk_nil_l, chk_nil_r, done_nm, up_cons, up_nil, cond_true, cond_false, Nat.reduceBEq]
      · by_cases b2 : fr ≥ n
        · simp -implicitDefEqProofs (disch := omega) only [↓c16_0_eq, bxLnP, e0, hh, q2, extractV_tuple, alL, stL, st, dcT, dcF, ldLnP, p0, nilCheckV_ptr, faLn0, ldI, m0, ↓ret16, ↓cnd_true, ↓cnd_false, ↓Option.bind_some, ↓obH_some', bin_add, bin_sub, bin_mul, bin_lss, bin_leq, bin_gtr, bin_geq, bin_eql, bin_neq, un_not, un_neg, Option.bind_some, Option.bind_none, Option.map_some, cnd_true, cnd_false, pickV_true, pickV_false, gd_true, gd_false, gdV_true, gdV_false, gdH_true, gdH_false, gdS_true, gdS_false, wt_ff, wt_tt, wt_ft, wt_tf, wt_undef, obH_some', extractV_tuple, nilCheckV_ptr, againK_normal, againK_exit, againK_ret, blockK_normal, blockK_same, blockK_ret, seqK_normal, seqK_exit, seqK_ret, fin_done, if_true', if_false', Bool.not_true, Bool.not_false, idx0, idx1, idx2, idx3, idx4, chk_nil_l, chk_nil_r, done_nm, up_cons, up_nil, cond_true, cond_false, Nat.reduceBEq]
        · by_cases b3 : fr = me
          · have d3 : decide (fr = me) = true := decide_eq_true b3
            simp -implicitDefEqProofs (disch := omega) only [↓c16_0_eq, bxLnP, e0, hh, q2, extractV_tuple, alL, stL, st, dcT, dcF, ldLnP, p0, nilCheckV_ptr, faLn0, faLn1, ldI, m0, m1, d3, ↓ret16, ↓cnd_true, ↓cnd_false, ↓Option.bind_some, ↓obH_some', bin_add, bin_sub, bin_mul, bin_lss, bin_leq, bin_gtr, bin_geq, bin_eql, bin_neq, un_not, un_neg, Option.bind_some, Option.bind_none, Option.map_some, cnd_true, cnd_false, pickV_true, pickV_false, gd_true, gd_false, gdV_true, gdV_false, gdH_true, gdH_false, gdS_true, gdS_false, wt_ff, wt_tt, wt_ft, wt_tf, wt_undef, obH_some', extractV_tuple, nilCheckV_ptr, againK_normal, againK_exit, againK_ret, blockK_normal, blockK_same, blockK_ret, seqK_normal, seqK_exit, seqK_ret, fin_done, if_true', if_false', Bool.not_true, Bool.not_false, idx0, idx1, idx2, idx3, idx4, chk_nil_l, chk_nil_r, done_nm, up_cons, up_nil, cond_true, cond_false, Nat.reduceBEq]
          · have d3 : decide (fr = me) = false := decide_eq_false b3
            have b4 : (k : Int) < 1 := by omega
            simp -implicitDefEqProofs (disch := omega) only [↓c16_0_eq, bxLnP, e0, hh, q2, extractV_tuple, alL, stL, st, dcT, dcF, ldLnP, p0, nilCheckV_ptr, faLn0, faLn1, ldI, m0, m1, d3, ↓ret16, ↓cnd_true, ↓cnd_false, ↓Option.bind_some, ↓obH_some', bin_add, bin_sub, bin_mul, bin_lss, bin_leq, bin_gtr, bin_geq, bin_eql, bin_neq, un_not, un_neg, Option.bind_some, Option.bind_none, Option.map_some, cnd_true, cnd_false, pickV_true, pickV_false, gd_true, gd_false, gdV_true, gdV_false, gdH_true, gdH_false, gdS_true, gdS_false, wt_ff, wt_tt, wt_ft, wt_tf, wt_undef, obH_some', extractV_tuple, nilCheckV_ptr, againK_normal, againK_exit, againK_ret, blockK_normal, blockK_same, blockK_ret, seqK_normal, seqK_exit, seqK_ret, fin_done, if_true', if_false', Bool.not_true, Bool.not_false, idx0, idx1, idx2, idx3, idx4, chk_nil_l, chk_nil_r, done_nm, up_cons, up_nil, cond_true, cond_false, Nat.reduceBEq]
    · simp only [if_neg hbad]
      have gl : g.length < 2 ^ 40 := by
        have := getP_len bs
        rw [hg] at this
        simp only [Option.getD_some] at this
        omega
      obtain ⟨h4, q4,Ae⟩ := spec_Contains s3 (getP_wide hg) gl ((c1.ext Ac).same y3) l3
      refine ⟨_, ?_, done_ext' (k3.trans (Ae.inn (Nat.le_trans k3.le k3.len)))⟩
      have d3 : decide (fr = me) = false := decide_eq_false (by omega)
      simp -implicitDefEqProofs (disch := omega) only [↓c16_0_eq, bxLnP, e0, hh, q2, extractV_tuple, alL, stL, st, dcT, dcF, ldLnP, p0, nilCheckV_ptr, faLn0, faLn1, ldI, m0, m1, d3, faL, ldEs, lg, q4, ↓ret16, ↓cnd_true, ↓cnd_false, ↓Option.bind_some, ↓obH_some', bin_add, bin_sub, bin_mul, bin_lss, bin_leq, bin_gtr, bin_geq, bin_eql, bin_neq, un_not, un_neg, Option.bind_some, Option.bind_none, Option.map_some, cnd_true, cnd_false, pickV_true, pickV_false, gd_true, gd_false, gdV_true, gdV_false, gdH_true, gdH_false, gdS_true, gdS_false, wt_ff, wt_tt, wt_ft, wt_tf, wt_undef, obH_some', extractV_tuple, nilCheckV_ptr, againK_normal, againK_exit, againK_ret, blockK_normal, blockK_same, blockK_ret, seqK_normal, seqK_exit, seqK_ret, fin_done, if_true', if_false', Bool.not_true, Bool.not_false, idx0, idx1, idx2, idx3, idx4, chk_nil_l, chk_nil_r, done_nm, up_cons, up_nil, cond_true, cond_false, Nat.reduceBEq]
end Go.Am
namespace Go.Am
open Go.Proofs
set_option maxRecDepth 100000
set_option linter.all false
attribute [local congr] obind_congr obH_congr cnd_congr chk_congr retK_congr codeK_congr
theorem faLo (p o : Nat) : fieldAddrV Tryd.prog 65 (.pointer (some ⟨p, o, none⟩)) 0 = some (.pointer (some ⟨p, o, none⟩)) := by kernel_rfl
theorem ldLo (p o : Nat) (h : Heap) : loadV Tryd.prog 65 (.pointer (some ⟨p, o, none⟩)) h = (h.loadN p o 1).map fun cs => .agg cs.toArray := by kernel_rfl
theorem stLo (p o : Nat) (a : Option Addr) (n c : Nat) (h : Heap) : storeV Tryd.prog 65 (.pointer (some ⟨p, o, none⟩)) (.agg #[.slice a n c]) h = h.storeN p o [.slice a n c] := by kernel_rfl
theorem spec_Log {h : Heap} {p s : Nat} {n me : Int} {num : Nat} {es : List E3} {ns : List Nat} (l : LEn h p s n me num es ns) (hl : es.length < 2 ^ 39) :
    ∃ a c h', evC Tryd.prog 24 #[.pointer (some ⟨p, 0, none⟩)] h = some (.agg #[.slice a es.length c], h') ∧ HExt h h' ∧ SE h' (.slice a es.length c) es := by
  rw [call24]
  have c1 := Cells.new (nm h) 65 [.slice none 0 0]
  have k1 : In h.blks.length No (nm h) ((nm h).new (.cells [.slice none 0 0]) 65) := In.new (h := nm h) (Nat.le_refl h.blks.length) _ _
  have sm : Same h ((nm h).new (.cells [.slice none 0 0]) 65) := Same.new (nm h) _ _
  have e0 : (nm h).blks.length = h.blks.length := rfl
  have e1 : ((nm h).new (.cells [.slice none 0 0]) 65).blks.length = h.blks.length + 1 := by simp [Heap.new]
  rw [e0] at c1
  generalize hh : (nm h).new (.cells [.slice none 0 0]) 65 = h1 at c1 k1 sm e1
  obtain ⟨la, lc, ce, ae⟩ := (l.same sm).eng
  have m2 : h1.load1 p 2 = some (.slice la es.length lc) := ce.load 2
  obtain ⟨a, c, h2, q2,Ac, r2⟩ := spec_CloneE ae.se hl
  have d2 := c1.ext Ac
  have st := storeN_blk d2 (o := 0) (vs := [.slice a es.length c]) (by simp)
  simp only [List.take_zero, List.nil_append, List.append_nil, List.length_cons, List.length_nil, List.drop_succ_cons, List.drop_zero, Nat.zero_add] at st
  have g := d2.put [.slice a es.length c]
  have k2 := k1.trans (Ac.inn (by omega))
  have k3 := k2.trans (In.put (S := No) (Nat.le_trans k2.le k2.len) (p := h.blks.length) (.inl (Nat.le_refl _)) (.cells [.slice a es.length c]))
  have lg : (Heap.loadN (h2.put h.blks.length (.cells [.slice a es.length c])) h.blks.length 0 1).map (fun cs => Value.agg cs.toArray) = some (.agg #[.slice a es.length c]) := by rw [g.loadN (n := 1) rfl]; rfl
  refine ⟨a, c, _, ?_, done_ext' k3,Sl.done ((AE.se r2).keepPut (fun e => by have := Acc.ge r2 e; omega) _)⟩
  simp -implicitDefEqProofs (disch := omega) only [↓c24_0_eq, alL, e0, hh, nilCheckV_ptr, faLn2, faLo, ldEs, m2, q2, bdL, stL, st, ldL, lg, rvals, ↓ret24, ↓cnd_true, ↓cnd_false, ↓Option.bind_some, ↓obH_some', bin_add, bin_sub, bin_mul, bin_lss, bin_leq, bin_gtr, bin_geq, bin_eql, bin_neq, un_not, un_neg, Option.bind_some, Option.bind_none, Option.map_some, cnd_true, cnd_false, pickV_true, pickV_false, gd_true, gd_false, gdV_true, gdV_false, gdH_true, gdH_false, gdS_true, gdS_false, wt_ff, wt_tt, wt_ft, wt_tf, wt_undef, obH_some', extractV_tuple, nilCheckV_ptr, againK_normal, againK_exit, againK_ret, blockK_normal, blockK_same, blockK_ret, seqK_normal, seqK_exit, seqK_ret, fin_done, if_true', if_false', Bool.not_true, Bool.not_false, idx0, idx1, idx2, idx3, idx4, chk_nil_l, chk_nil_r, done_nm, up_cons, up_nil, cond_true, cond_false, Nat.reduceBEq]
theorem mkV0 (h : Heap) : buildSliceV Tryd.prog 73 0 #[] h = some (.slice (some ⟨h.blks.length, 0, none⟩) 0 0, h.new (.cells []) 23) := by kernel_rfl
theorem spec_Seen {h : Heap} {p s : Nat} {n me : Int} {num : Nat} {es : List E3} {ns : List Nat} (l : LEn h p s n me num es ns) :
    ∃ a c h', evC Tryd.prog 28 #[.pointer (some ⟨p, 0, none⟩)] h = some (.slice a ns.length c, h') ∧ HExt h h' ∧ SU h' (.slice a ns.length c) ns := by
  have cl : ∀ h, LEn h p s n me num es ns → ∃ a c h', evC Tryd.prog 53 #[.slice (some ⟨s, 0, none⟩) ns.length ns.length] h = some (.slice a ns.length c, h') ∧ HExt h h' ∧ SU h' (.slice a ns.length c) ns := fun h l => by
    rw [call53]
    have e0 := fun xo yo => bin_nil_some (P := Tryd.prog) (t := 73) (e := 23) (by kernel_rfl) xo yo ⟨s, 0, none⟩ ns.length ns.length
    have hn : h.blks.length ≤ (nm h).blks.length := Nat.le_refl _
    have hll := l.len
    have l1 := (l.same (sameNm h)).same (Same.new (nm h) (.cells []) 23)
    have em : AU h.blks.length ((nm h).new (.cells []) 23) (.slice (some ⟨h.blks.length, 0, none⟩) 0 0) [] := .full (all := []) hn (by omega) (blk_new_self _ _ _) (by simp) rfl
    obtain ⟨a2, c2, h2, e2, a3, k2, _⟩ := app_nums etV etV.under (n0 := h.blks.length) (h := (nm h).new (.cells []) 23) (by simp [Heap.new]) em l1.seenS (by simp; omega)
    simp only [List.nil_append] at e2 a3
    refine ⟨a2, c2, done h h2, ?_, done_ext' ((In.new (h := nm h) hn _ _).trans k2.inn), (AU.su a3).done⟩
    simp -implicitDefEqProofs (disch := omega) only [↓c53_0_eq, e0, mkV0, show (nm h).blks.length = h.blks.length from rfl, e2, ↓ret53, ↓cnd_true, ↓cnd_false, ↓Option.bind_some, ↓obH_some', bin_add, bin_sub, bin_mul, bin_lss, bin_leq, bin_gtr, bin_geq, bin_eql, bin_neq, un_not, un_neg, Option.bind_some, Option.bind_none, Option.map_some, cnd_true, cnd_false, pickV_true, pickV_false, gd_true, gd_false, gdV_true, gdV_false, gdH_true, gdH_false, gdS_true, gdS_false, wt_ff, wt_tt, wt_ft, wt_tf, wt_undef, obH_some', extractV_tuple, nilCheckV_ptr, againK_normal, againK_exit, againK_ret, blockK_normal, blockK_same, blockK_ret, seqK_normal, seqK_exit, seqK_ret, fin_done, if_true', if_false', Bool.not_true, Bool.not_false, idx0, idx1, idx2, idx3, idx4, chk_nil_l, chk_nil_r, done_nm, up_cons, up_nil, cond_true, cond_false, Nat.reduceBEq]
  rw [call28]
  obtain ⟨la, lc, ce, ae⟩ := (l.same (sameNm h)).eng
  have m4 : (nm h).load1 p 4 = some (.slice (some ⟨s, 0, none⟩) ns.length ns.length) := ce.load 4
  obtain ⟨a, c, h2, q2,Ac, r2⟩ := cl (nm h) (l.same (sameNm h))
  refine ⟨a, c, _, ?_, done_ext' (Ac.inn (Nat.le_refl h.blks.length)), r2.done⟩
  simp -implicitDefEqProofs (disch := omega) only [↓c28_0_eq, nilCheckV_ptr, faLn4, ldVec, m4, q2, ↓ret28, ↓cnd_true, ↓cnd_false, ↓Option.bind_some, ↓obH_some', bin_add, bin_sub, bin_mul, bin_lss, bin_leq, bin_gtr, bin_geq, bin_eql, bin_neq, un_not, un_neg, Option.bind_some, Option.bind_none, Option.map_some, cnd_true, cnd_false, pickV_true, pickV_false, gd_true, gd_false, gdV_true, gdV_false, gdH_true, gdH_false, gdS_true, gdS_false, wt_ff, wt_tt, wt_ft, wt_tf, wt_undef, obH_some', extractV_tuple, nilCheckV_ptr, againK_normal, againK_exit, againK_ret, blockK_normal, blockK_same, blockK_ret, seqK_normal, seqK_exit, seqK_ret, fin_done, if_true', if_false', Bool.not_true, Bool.not_false, idx0, idx1, idx2, idx3, idx4, chk_nil_l, chk_nil_r, done_nm, up_cons, up_nil, cond_true, cond_false, Nat.reduceBEq]
end Go.Am
namespace Go.Am
open Go.Proofs
set_option maxRecDepth 100000
set_option linter.all false
attribute [local congr] obind_congr obH_congr cnd_congr chk_congr retK_congr codeK_congr
def KpB (h h' : Heap) : Prop := h.blks.length ≤ h'.blks.length ∧ ∀ p ty cs, Cells h p ty cs → ty ≠ 40 → Cells h' p ty cs
theorem KpB.acc {h h' : Heap} {n0 : Nat} {elem : TypeId} {es n : Nat} {v : Value} {cs : List Value} (k : KpB h h') (a : Acc n0 h elem es v n cs) (ht : elem ≠ 40) : Acc n0 h' elem es v n cs := a.keep fun b _ hb => by
  obtain ⟨all, h1⟩ := a.blk hb
  exact (k.2 b elem all h1 ht).trans h1.symm
theorem Same.kp {h h' : Heap} (s : Same h h') : KpB h h' := ⟨s.1, fun _ _ _ c _ => c.same s⟩
theorem KpB.trans {a b c : Heap} (h : KpB a b) (k : KpB b c) : KpB a c := ⟨Nat.le_trans h.1 k.1, fun p ty cs x ht => k.2 p ty cs (h.2 p ty cs x ht) ht⟩
theorem LEn.kp {h h' : Heap} {p s : Nat} {n me : Int} {num : Nat} {es : List E3} {ns : List Nat} (l : LEn h p s n me num es ns) (k : KpB h h') : LEn h' p s n me num es ns :=
  let ⟨la, lc, a, b⟩ := l.eng
  ⟨⟨la, lc, k.2 _ _ _ a (by decide), k.acc b (by decide)⟩, k.2 _ _ _ l.seen (by decide), l.len⟩
def rowF (es : List E3) (t : Nat) (d : Nat) : List UInt8 := putE (purgeE (lessE es (outB t (ofN (d : Int)))))
theorem purgeL_sub' : ∀ l : List E3, (purgeL l).Sublist l
  | [] => .slnil
  | [e] => List.Sublist.refl _
  | e :: e' :: l => by
    rw [purgeL_two]
    split
    · exact (purgeL_sub' (e' :: l)).cons_cons e
    · exact (purgeL_sub' (e' :: l)).cons e
theorem purgeE_sub (l : List E3) : (purgeE l).Sublist l := by
  unfold purgeE
  split
  · exact purgeL_sub' l
  · exact List.Sublist.refl _
theorem wide_purge {l : List E3} (w : wide l) : wide (purgeE l) := fun e he => w e ((purgeE_sub l).subset he)
theorem logN {h : Heap} {p : Nat} {ty : TypeId} {a b c d e : Value} (g : Cells h p ty [a, b, c, d, e]) : (h.loadN p 2 1).map (fun cs => Value.agg cs.toArray) = some (.agg #[c]) := by
  rw [loadN_own g (by simp)]; rfl
theorem si_at {h : Heap} {v : Value} {ns : List Nat} (s : SI h v ns) {i : Nat} (hi : i < ns.length) :
    ∃ a, indexAddrV Tryd.prog 41 v (.int .i64 i) = some (.pointer (some a)) ∧ loadV Tryd.prog 3 (.pointer (some a)) h = some (.int .i64 (ns[i] : Nat)) := by
  obtain ⟨a, e1, e2, _⟩ := s.row.at1 etI.under etI.size (by kernel_rfl) hi .i64
  rw [List.getElem?_map, List.getElem?_eq_getElem hi] at e2
  exact ⟨a, e1, e2⟩
theorem send_loopL {h0 : Heap} {p s : Nat} {n me : Int} {num : Nat} {es : List E3} {ns : List Nat} {ds : List Nat} {dv : Value} {t : Nat} (hw : wide es) (hl : es.length < 2 ^ 30) (ht : t < 2 ^ 64) (hd : ds.length ≤ 64) {S : Nat → Prop} {Q : Option (Value × Heap) → Prop}
    (hk : ∀ (x' : Nat → Value) (h' : Heap) (ov' : Value),In h0.blks.length S (nm h0) h' → LEn h' p s n me num es ns → ABs h0.blks.length h' ov' (ds.map (rowF es t)) → x' 0 = .pointer (some ⟨p, 0, none⟩) → x' 1 = .int .u64 t → x' 5 = ov' → Q (cK c12_2 71 x' h' (retK Tryd.f12 Tryd.prog h0))) :
    ∀ (m i : Nat), ds.length - i = m → i ≤ ds.length → ∀ (x : Nat → Value) (h : Heap) (ov : Value),In h0.blks.length S (nm h0) h → LEn h p s n me num es ns → AI h0.blks.length h dv ds → ABs h0.blks.length h ov ((ds.take i).map (rowF es t)) →
    x 0 = .pointer (some ⟨p, 0, none⟩) → x 1 = .int .u64 t → x 5 = ov → x 30 = dv → x 31 = .int .i64 ds.length → x 32 = .int .i64 i →
    Q (lK c12_1 71 x h (blockK 0 (sK c12_2 (retK Tryd.f12 Tryd.prog h0)))) := by
  intro m
  induction m with
  | zero =>
    intro i e1 e2 x h ov hin l ad ab Aa Ab Af Bg Bh Bi
    obtain rfl : i = ds.length := by omega
    rw [List.take_length] at ab
    rw [lK_eq]
    have dl : decide (((ds.length : Nat) : Int) < ds.length) = false := decide_eq_false (by omega)
    simp -implicitDefEqProofs (disch := omega) only [↓c12_1_eq,Bh,Bi, dl, ↓cnd_true, ↓cnd_false, ↓Option.bind_some, ↓obH_some', bin_add, bin_sub, bin_mul, bin_lss, bin_leq, bin_gtr, bin_geq, bin_eql, bin_neq, un_not, un_neg, Option.bind_some, Option.bind_none, Option.map_some, cnd_true, cnd_false, pickV_true, pickV_false, gd_true, gd_false, gdV_true, gdV_false, gdH_true, gdH_false, gdS_true, gdS_false, wt_ff, wt_tt, wt_ft, wt_tf, wt_undef, obH_some', extractV_tuple, nilCheckV_ptr, againK_normal, againK_exit, againK_ret, blockK_normal, blockK_same, blockK_ret, seqK_normal, seqK_exit, seqK_ret, fin_done, if_true', if_false', Bool.not_true, Bool.not_false, idx0, idx1, idx2, idx3, idx4, chk_nil_l, chk_nil_r, done_nm, up_cons, up_nil, cond_true, cond_false, Nat.reduceBEq]
    exact hk _ h ov hin l ab Aa Ab Af
  | succ m ih =>
    intro i hm hi x h ov hin l ad ab Aa Ab Af Bg Bh Bi
    have hil : i < ds.length := by omega
    have dl : decide (((i : Nat) : Int) < ds.length) = true := decide_eq_true (by omega)
    obtain ⟨da, f1, f2⟩ := si_at (ad.sl etI.size) hil
    obtain ⟨la, lc, ce, ae⟩ := l.eng
    have lA := logN ce
    obtain ⟨a2, c2, h2, q2, y2, r2⟩ := spec_But ae.se hw (by omega) t ht (ds[i] : Int)
    have ll : (lessE es (outB t (ofN (ds[i] : Int)))).length = es.length := lessE_len _ _
    have q2' : evC Tryd.prog 38 #[.agg #[.slice la es.length lc], .int .u64 t, .int .i64 (ds[i] : Int)] h = some (.agg #[.slice a2 (lessE es (outB t (ofN (ds[i] : Int)))).length c2], h2) := by rw [ll]; exact q2
    have r2' : AE h.blks.length h2 (.slice a2 (lessE es (outB t (ofN (ds[i] : Int)))).length c2) (lessE es (outB t (ofN (ds[i] : Int)))) := by
      rw [show (Value.slice a2 (lessE es (outB t (ofN (ds[i] : Int)))).length c2) = .slice a2 es.length c2 by rw [ll]]; exact r2
    obtain ⟨a3, c3, h3, q3, y3, r3⟩ := spec_Purge r2'.se (wide_lessE hw) (by omega)
    have pl : (purgeE (lessE es (outB t (ofN (ds[i] : Int))))).length ≤ es.length := by
      have := (purgeE_sub (lessE es (outB t (ofN (ds[i] : Int))))).length_le
      omega
    obtain ⟨a4, c4, h4, q4, y4, r4⟩ := spec_Put18 (AE.se r3) (wide_purge (wide_lessE hw)) (by omega)
    have z4 := (y2.same.trans y3.same).trans y4.same
    have hlen4 := z4.1
    have ab4 := ab.same z4
    have hn : h0.blks.length ≤ h.blks.length := Nat.le_trans hin.le hin.len
    have r4' : AB h0.blks.length h4 (.slice a4 (rowF es t ds[i]).length c4) (rowF es t ds[i]) := Acc.up r4 (by have := y2.len; have := y3.len; omega)
    obtain ⟨vs, abv⟩ := ab4
    have bs := mkBs1 a4 (rowF es t ds[i]).length c4 h4
    obtain ⟨a5, c5, h5, q5, ab5, k5, o5⟩ := abv.app (by omega) r4' (by rw [List.length_map, List.length_take]; omega)
    have kb : KpB h4 h5 := ⟨k5.len, o5⟩
    have hin5 := (((hin.trans (y2.inn hn)).trans (y3.inn (by have := y2.len; omega))).trans (y4.inn (by have := y2.len; have := y3.len; omega))).trans (Keeps.inn (S := S) k5)
    have hmap : (ds.take i).map (rowF es t) ++ [rowF es t ds[i]] = (ds.take (i + 1)).map (rowF es t) := by
      rw [List.take_succ, List.getElem?_eq_getElem hil, List.map_append]; rfl
    rw [hmap] at q5 ab5
    have wi : IntKind.i64.wrap ((i : Int) + 1) = ((i + 1 : Nat) : Int) := by rw [wrap_i64] <;> omega
    rw [lK_eq]
    have q4' : evC Tryd.prog 32 #[.agg #[.slice a3 (purgeE (lessE es (outB t (ofN (ds[i] : Int))))).length c3]] h3 = some (.slice a4 (rowF es t ds[i]).length c4, h4) := q4
    simp -implicitDefEqProofs (disch := omega) only [↓c12_1_eq,Aa,Ab,Af,Bg,Bh,Bi, dl, f1, f2, nilCheckV_ptr, faLn2, ldLo, lA, q2', q3, q4', bs, q5, wi, ↓cnd_true, ↓cnd_false, ↓Option.bind_some, ↓obH_some', bin_add, bin_sub, bin_mul, bin_lss, bin_leq, bin_gtr, bin_geq, bin_eql, bin_neq, un_not, un_neg, Option.bind_some, Option.bind_none, Option.map_some, cnd_true, cnd_false, pickV_true, pickV_false, gd_true, gd_false, gdV_true, gdV_false, gdH_true, gdH_false, gdS_true, gdS_false, wt_ff, wt_tt, wt_ft, wt_tf, wt_undef, obH_some', extractV_tuple, nilCheckV_ptr, againK_normal, againK_exit, againK_ret, blockK_normal, blockK_same, blockK_ret, seqK_normal, seqK_exit, seqK_ret, fin_done, if_true', if_false', Bool.not_true, Bool.not_false, idx0, idx1, idx2, idx3, idx4, chk_nil_l, chk_nil_r, done_nm, up_cons, up_nil, cond_true, cond_false, Nat.reduceBEq]
    refine ih (i + 1) (by omega) (by omega) _ h5 _ hin5 ((l.same z4).kp kb) (kb.acc (ad.same z4) (by decide)) ab5 ?_ ?_ ?_ ?_ ?_ ?_
    · exact Aa
    · exact Ab
    · rfl
    · exact Bg
    · exact Bh
    · rfl
def sendT (n : Nat) (me : Int) (to : Nat) : Nat := to &&& outB (allN n) (ofN me)
def sendLog (es : List E3) (me : Int) (num t : Nat) : List E3 := purgeE (addE (lessE es t) ⟨me, num + 1, t⟩)
theorem allN_lt (n : Nat) (hn : n < 64) : allN n < 2 ^ 64 := by
  unfold allN
  have : 2 ^ n < 2 ^ 64 := Nat.pow_lt_pow_right (by omega) hn
  omega
theorem mem_addE {es : List E3} {x e : E3} (h : e ∈ addE es x) : e ∈ es ∨ e = x := by
  unfold addE at h
  split at h
  · split at h
    · exact (List.mem_or_eq_of_mem_set h)
    · unfold insE at h
      rcases List.mem_append.1 h with h | h
      · exact .inl (List.mem_of_mem_take h)
      · rcases List.mem_cons.1 h with h | h
        · exact .inr h
        · exact .inl (List.mem_of_mem_drop h)
  · exact .inl h
theorem addE_len (es : List E3) (x : E3) : (addE es x).length ≤ es.length + 1 := by
  unfold addE
  split
  · split
    · rw [List.length_set]; omega
    · unfold insE
      rw [List.length_append, List.length_cons, List.length_take, List.length_drop]; omega
  · omega
theorem spec_Send {h : Heap} {p s : Nat} {n : Nat} {me : Int} {num : Nat} {es : List E3} {ns : List Nat} (l : LEn h p s n me num es ns) (hn : n ≤ 16) (hw : wide es) (hl : es.length < 2 ^ 29) (hnum : num + 1 < 2 ^ 64) (to : Nat) (hto : to < 2 ^ 64) (hps : p ≠ s)
    (hins : InsOk (lessE es (sendT n me to)) ⟨me, num + 1, sendT n me to⟩) :
    ∃ v h', evC Tryd.prog 12 #[.pointer (some ⟨p, 0, none⟩), .int .u64 to] h = some (v, h') ∧ HMod (Just p) h h' ∧ LEn h' p s n me (num + 1) (sendLog es me num (sendT n me to)) ns ∧ ABs h.blks.length h' v ((listW (sendT n me to)).map (rowF es (sendT n me to))) := by
  rw [call12]
  have l0 := l.same (sameNm h)
  obtain ⟨la, lc, ce, ae⟩ := l0.eng
  have hph : p < h.blks.length := ce.lt
  have m0 : (nm h).load1 p 0 = some (.int .i64 n) := ce.load 0
  have m1 : (nm h).load1 p 1 = some (.int .i64 me) := ce.load 1
  have w1 := fun h => spec_All n (by omega) h
  have c9 := Cells.new (nm h) 3 [.int .i64 me]
  have q9 := spec_Of1 (c := 1) c9
  have e9 := ce.keepNew (.cells [.int .i64 me]) 3
  have k9 : In h.blks.length (Just p) (nm h) ((nm h).new (.cells [.int .i64 me]) 3) := In.new (h := nm h) (Nat.le_refl h.blks.length) _ _
  have l9 := l0.same (Same.new (nm h) (.cells [.int .i64 me]) 3)
  have b9 := mkI1 me (nm h)
  generalize hh9 : (nm h).new (.cells [.int .i64 me]) 3 = h9 at c9 q9 e9 k9 l9 b9
  have m3 : h9.load1 p 3 = some (.int .u64 num) := e9.load 3
  have st := storeN_blk e9 (o := 3) (vs := [.int .u64 ((num + 1 : Nat) : Int)]) (by simp)
  simp only [List.take_succ_cons, List.take_zero, List.nil_append, List.append_nil, List.length_cons, List.length_nil, List.drop_succ_cons, List.drop_zero, Nat.zero_add, Nat.reduceAdd, List.drop_nil, List.cons_append, List.singleton_append] at st
  have k10 := k9.trans (In.put (S := Just p) (Nat.le_trans k9.le k9.len) (p := p) (.inr rfl) (.cells [.int .i64 n, .int .i64 me, .slice la es.length lc, .int .u64 ((num + 1 : Nat) : Int), .slice (some ⟨s, 0, none⟩) ns.length ns.length]))
  have d10 := e9.put [.int .i64 n, .int .i64 me, .slice la es.length lc, .int .u64 ((num + 1 : Nat) : Int), .slice (some ⟨s, 0, none⟩) ns.length ns.length]
  have ae9 : AE 0 h9 (.slice la es.length lc) es := by rw [← hh9]; exact ae.keep fun b hb _ => Heap.new_old hb
  have hb : blockOf (.slice la es.length lc) ≠ some p := fun e => by
    obtain ⟨all, h1⟩ := Acc.blk ae9 e
    unfold Cells at e9
    rw [e9] at h1
    simp only [Option.some.injEq, Blk.mk.injEq] at h1
    exact absurd h1.2.1 (by decide)
  have l10 : LEn (h9.put p (.cells [.int .i64 n, .int .i64 me, .slice la es.length lc, .int .u64 ((num + 1 : Nat) : Int), .slice (some ⟨s, 0, none⟩) ns.length ns.length])) p s n me (num + 1) es ns :=
    ⟨⟨la, lc, d10, ae9.keepPut hb _⟩, l9.seen.keepPut (by omega) _, l.len⟩
  generalize hh10 : h9.put p (.cells [.int .i64 n, .int .i64 me, .slice la es.length lc, .int .u64 ((num + 1 : Nat) : Int), .slice (some ⟨s, 0, none⟩) ns.length ns.length]) = h10 at st k10 l10
  have ht : sendT n me to < 2 ^ 64 := Nat.lt_of_le_of_lt Nat.and_le_left hto
  obtain ⟨a11, c11, h11, q11,Al, r11⟩ := spec_List (sendT n me to) ht h10
  have n10 : h.blks.length ≤ h10.blks.length := Nat.le_trans k10.le k10.len
  have k11 := k10.trans (Al.inn (S := Just p) n10)
  have an := fun t xo yo => anS t xo yo (allN n) (ofN me) (allN_lt n (by omega)) (ofN_lt me)
  have aa := fun t xo yo => anU t xo yo to (outB (allN n) (ofN me)) hto (outB_lt (allN_lt n (by omega)))
  have wn : IntKind.u64.wrap ((num : Int) + 1) = ((num + 1 : Nat) : Int) := by rw [wrap_u64] <;> omega
  have lnI : ∀ h, lenV Tryd.prog 41 (.slice a11 (listW (sendT n me to)).length c11) h = some (.int .i64 (listW (sendT n me to)).length) := fun h => by kernel_rfl
  have e0 : (nm h).blks.length = h.blks.length := rfl
  rw [e0] at b9 q9
  have aa' : ∀ t xo yo, binV Tryd.prog .and t xo yo (.int .u64 to) (.int .u64 ((outB (allN n) (ofN me) : Nat) : Int)) = some (.int .u64 ((sendT n me to : Nat) : Int)) := aa
  simp -implicitDefEqProofs (disch := omega) only [↓c12_0_eq, nilCheckV_ptr, faLn0, faLn1, faLn3, ldI, m0, w1, am_nm, nm_mods, List.nil_append, List.append_nil, m1, b9, q9, an, aa', chk_nil_r, ldU, m3, wn, vst64, st, q11, lnI, ↓cnd_true, ↓cnd_false, ↓Option.bind_some, ↓obH_some', bin_add, bin_sub, bin_mul, bin_lss, bin_leq, bin_gtr, bin_geq, bin_eql, bin_neq, un_not, un_neg, Option.bind_some, Option.bind_none, Option.map_some, cnd_true, cnd_false, pickV_true, pickV_false, gd_true, gd_false, gdV_true, gdV_false, gdH_true, gdH_false, gdS_true, gdS_false, wt_ff, wt_tt, wt_ft, wt_tf, wt_undef, obH_some', extractV_tuple, nilCheckV_ptr, againK_normal, againK_exit, againK_ret, blockK_normal, blockK_same, blockK_ret, seqK_normal, seqK_exit, seqK_ret, fin_done, if_true', if_false', Bool.not_true, Bool.not_false, idx0, idx1, idx2, idx3, idx4, chk_nil_l, chk_nil_r, done_nm, up_cons, up_nil, cond_true, cond_false, Nat.reduceBEq]
  refine send_loopL (h0 := h) (S := Just p) (Q := fun r => ∃ v h', r = some (v, h') ∧ HMod (Just p) h h' ∧ LEn h' p s n me (num + 1) (sendLog es me num (sendT n me to)) ns ∧ ABs h.blks.length h' v ((listW (sendT n me to)).map (rowF es (sendT n me to)))) (t := sendT n me to) hw (by omega) ht (listW_len _ ht) ?_ (listW (sendT n me to)).length 0 (by omega) (by omega) _ h11 _ k11 (l10.same Al.same) (Acc.up r11 n10) ⟨[], .nil, .nil⟩ ?_ ?_ ?_ ?_ ?_ ?_
  · intro x h12 ov k12 l12 ab12 y0 y1 y5
    have h12n : h.blks.length ≤ h12.blks.length := Nat.le_trans k12.le k12.len
    obtain ⟨la', lc', ce', ae'⟩ := l12.eng
    have lA := logN ce'
    obtain ⟨a13, c13, h13, q13,Ao, r13⟩ := spec_Less (h := nm h12) (to := sendT n me to) (Sl.nm ae'.se) hw (by omega) ht
    obtain ⟨Ao', m13⟩ := Ao.amx
    have k13 := k12.trans (Ao'.inn (S := Just p) h12n)
    have n13 := Ao'.len
    have ce13 := ce'.ext Ao'
    have m1' : (am h13 h12).load1 p 1 = some (.int .i64 me) := ce13.load 1
    have m3' : (am h13 h12).load1 p 3 = some (.int .u64 ((num + 1 : Nat) : Int)) := ce13.load 3
    have s13 : SE (am h13 h12) (.slice a13 es.length c13) (lessE es (sendT n me to)) := Sl.keep (h' := am h13 h12) (AE.se r13) fun _ _ _ => rfl
    have wl := wide_lessE (to := sendT n me to) hw
    have ll : (lessE es (sendT n me to)).length = es.length := lessE_len _ _
    obtain ⟨a14, c14, h14, q14,Ap, r14⟩ := spec_Add s13 wl (by omega) ⟨me, num + 1, sendT n me to⟩ ht hins
    have wa : wide (addE (lessE es (sendT n me to)) ⟨me, num + 1, sendT n me to⟩) := fun e he => by
      rcases mem_addE he with he | rfl
      · exact wl e he
      · exact ⟨hnum, ht⟩
    have al := addE_len (lessE es (sendT n me to)) ⟨me, num + 1, sendT n me to⟩
    obtain ⟨a15, c15, h15, q15,Aq, r15⟩ := spec_Purge r14.se wa (by omega)
    have n14 := Ap.len
    have n15 := Aq.len
    have k15 := (k13.trans (Ap.inn (S := Just p) (by omega))).trans (Aq.inn (S := Just p) (by omega))
    have ce15 := (ce13.ext Ap).ext Aq
    have st16 := storeN_blk ce15 (o := 2) (vs := [.slice a15 (sendLog es me num (sendT n me to)).length c15]) (by simp)
    simp only [List.take_succ_cons, List.take_zero, List.nil_append, List.append_nil, List.length_cons, List.length_nil, List.drop_succ_cons, List.drop_zero, Nat.zero_add, Nat.reduceAdd, List.drop_nil, List.cons_append, List.singleton_append] at st16
    have d16 := ce15.put [.int .i64 n, .int .i64 me, .slice a15 (sendLog es me num (sendT n me to)).length c15, .int .u64 ((num + 1 : Nat) : Int), .slice (some ⟨s, 0, none⟩) ns.length ns.length]
    have k16 := k15.trans (In.put (S := Just p) (Nat.le_trans k15.le k15.len) (p := p) (.inr rfl) (.cells [.int .i64 n, .int .i64 me, .slice a15 (sendLog es me num (sendT n me to)).length c15, .int .u64 ((num + 1 : Nat) : Int), .slice (some ⟨s, 0, none⟩) ns.length ns.length]))
    have sm := (Ao'.same.trans Ap.same).trans Aq.same
    have rl : AE 0 (h15.put p (.cells [.int .i64 n, .int .i64 me, .slice a15 (sendLog es me num (sendT n me to)).length c15, .int .u64 ((num + 1 : Nat) : Int), .slice (some ⟨s, 0, none⟩) ns.length ns.length])) (.slice a15 (sendLog es me num (sendT n me to)).length c15) (sendLog es me num (sendT n me to)) :=
      Acc.keepPut (Acc.up r15 (Nat.zero_le _)) (fun e => by have := Acc.ge r15 e; omega) _
    have q14' : evC Tryd.prog 39 #[.agg #[.slice a13 es.length c13], .agg #[.int .i64 me, .int .u64 ((num + 1 : Nat) : Int), .int .u64 ((sendT n me to : Nat) : Int)]] (am h13 h12) = some (.agg #[.slice a14 (addE (lessE es (sendT n me to)) ⟨me, num + 1, sendT n me to⟩).length c14], h14) := q14
    have q15' : evC Tryd.prog 37 #[.agg #[.slice a14 (addE (lessE es (sendT n me to)) ⟨me, num + 1, sendT n me to⟩).length c14]] h14 = some (.agg #[.slice a15 (sendLog es me num (sendT n me to)).length c15], h15) := q15
    refine ⟨ov, _, ?_, done_mod k16, ⟨⟨a15, c15, d16.done, rl.done⟩, ((l12.seen.same sm).keepPut (by omega) _).done, l.len⟩, ((ab12.same sm).put ce15 (by decide) (by decide) _).same ⟨Nat.le_refl _, fun _ _ => rfl⟩⟩
    simp -implicitDefEqProofs (disch := omega) only [↓c12_2_eq, y0, y1, y5, nilCheckV_ptr, faLn1, faLn2, faLn3, ldLo, lA, q13, m13, ldI, ldU, m1', m3', bdE3, q14', q15', stLo, st16, List.nil_append, List.append_nil, chk_nil_r, ↓ret12, ↓cnd_true, ↓cnd_false, ↓Option.bind_some, ↓obH_some', bin_add, bin_sub, bin_mul, bin_lss, bin_leq, bin_gtr, bin_geq, bin_eql, bin_neq, un_not, un_neg, Option.bind_some, Option.bind_none, Option.map_some, cnd_true, cnd_false, pickV_true, pickV_false, gd_true, gd_false, gdV_true, gdV_false, gdH_true, gdH_false, gdS_true, gdS_false, wt_ff, wt_tt, wt_ft, wt_tf, wt_undef, obH_some', extractV_tuple, nilCheckV_ptr, againK_normal, againK_exit, againK_ret, blockK_normal, blockK_same, blockK_ret, seqK_normal, seqK_exit, seqK_ret, fin_done, if_true', if_false', Bool.not_true, Bool.not_false, idx0, idx1, idx2, idx3, idx4, chk_nil_l, chk_nil_r, done_nm, up_cons, up_nil, cond_true, cond_false, Nat.reduceBEq]
  all_goals rfl
end Go.Am
namespace Go.Am
open Go.Proofs
set_option maxRecDepth 100000
set_option linter.all false
attribute [local congr] obind_congr obH_congr cnd_congr chk_congr retK_congr codeK_congr
theorem iaV (s n c j : Nat) (hj : j < n) : indexAddrV Tryd.prog 73 (.slice (some ⟨s, 0, none⟩) n c) (.int .i64 j) = some (.pointer (some ⟨s, j, none⟩)) := by
  unfold indexAddrV
  simp only [etV.under, natOf_int, etV.size, if_pos hj, Nat.zero_add, Nat.mul_one]
theorem map_set (ns : List Nat) (j : Nat) (hj : j < ns.length) (k : Nat) : (ns.map u64V).take j ++ [.int .u64 (k : Int)] ++ (ns.map u64V).drop (j + 1) = (ns.set j k).map u64V := by
  apply List.ext_getElem?
  intro i
  simp only [List.getElem?_append, List.length_append, List.length_take, List.length_map, List.length_singleton, List.getElem?_take, List.getElem?_map, List.getElem?_drop, List.getElem?_set]
  rw [Nat.min_eq_left (by omega)]
  by_cases h1 : i < j
  · rw [if_pos (by omega), if_pos h1, if_pos h1, if_neg (by omega)]
  · by_cases h2 : i = j
    · subst h2
      rw [if_pos (by omega), if_neg (by omega), if_pos rfl, if_pos hj, Nat.sub_self]
      rfl
    · rw [if_neg (by omega), if_neg (by omega), show j + 1 + (i - (j + 1)) = i by omega]
theorem joinE_len (es fs : List E3) : (joinE es fs).length ≤ es.length + fs.length + es.length := by
  unfold joinE
  split
  · rw [srtE_len, List.length_append, List.length_append]
    have a := List.length_filter_le (fun x => !bsF fs x && decide ((getM (lastM fs) x.f).getD 0 < x.n)) es
    have b := List.length_filter_le (fun x => !bsF es x && decide ((getM (lastM es) x.f).getD 0 < x.n)) fs
    have c := List.length_filterMap_le (bothF fs) es
    unfold newsE bothE
    omega
  · omega
def takeLog (es : List E3) (me fr : Int) (k to : Nat) (g : List E3) : List E3 := purgeE (lessE (joinE es (lessE (addE g ⟨fr, k, to⟩) (ofN me))) (ofN me))
theorem newLogT {h : Heap} {a : Option Addr} {c n : Nat} {es : List E3} (s : SE h (.slice a n c) es) : ∃ hB, (h.new (.cells [.slice none 0 0]) 65).storeN h.blks.length 0 [.slice a n c] = some hB ∧ Same h hB ∧ (∀ {h' : Heap}, Same hB h' → (h'.loadN h.blks.length 0 1).map (fun cs => Value.agg cs.toArray) = some (.agg #[.slice a n c])) ∧ SE hB (.slice a n c) es ∧ (∀ S n0, n0 ≤ h.blks.length → In n0 S h hB) ∧ hB.load1 h.blks.length 0 = some (.slice a n c) := by
  have d := Cells.new h 65 [.slice none 0 0]
  have st := storeN_blk d (o := 0) (vs := [.slice a n c]) (by simp)
  simp only [List.take_zero, List.nil_append, List.append_nil, List.length_cons, List.length_nil, List.drop_succ_cons, List.drop_zero, Nat.zero_add] at st
  have g := d.put [.slice a n c]
  exact ⟨_, st, same_np _ _ _ _, fun hs => by rw [(g.same hs).loadN (n := 1) rfl]; rfl, (Sl.keepNew s _ _).keepPut (fun e => by have := Sl.lo s _ e; omega) _, fun S n0 hn => (In.new hn _ _).trans (In.put (by simp [Heap.new]; omega) (.inl hn) _), g.load 0⟩
theorem spec_Take {h : Heap} {p s : Nat} {n : Nat} {me : Int} {num : Nat} {es : List E3} {ns : List Nat} (l : LEn h p s n me num es ns) (hn : n ≤ 16) (hnl : ns.length = n) (hw : wide es) (hl : es.length < 2 ^ 28) (hps : p ≠ s) (fr : Int) (k to : Nat) (hk : k < 2 ^ 64) (hto : to < 2 ^ 64) {v : Value} {bs : List UInt8} (sb : SB h v bs) (hbs : bs.length < 2 ^ 26)
    (hbp : blockOf v ≠ some p) (hbs' : blockOf v ≠ some s) {g : List E3} (hg : getP bs = some g) (hc : canE n me ns fr k bs = true) (hins : InsOk g ⟨fr, k, to⟩) :
    ∃ h', evC Tryd.prog 23 #[.pointer (some ⟨p, 0, none⟩), .int .i64 fr, .int .u64 k, .int .u64 to, v] h = some (.bool true, h') ∧ HMod (fun b => b = p ∨ b = s) h h' ∧ LEn h' p s n me num (takeLog es me fr k to g) (ns.set fr.toNat k) := by
  rw [call23]
  have hfr : 0 ≤ fr ∧ fr < n := by
    unfold canE at hc
    rw [hg] at hc
    simp only at hc
    split at hc
    · cases hc
    · omega
  obtain ⟨j, rfl⟩ : ∃ j : Nat, fr = j := ⟨fr.toNat, by omega⟩
  rw [Int.toNat_natCast]
  have l0 := l.same (sameNm h)
  obtain ⟨h1, q1,Ab⟩ := spec_Can l0 (j : Int) k sb.nm (by omega)
  rw [hc] at q1
  have l1 := l0.same Ab.same
  have sb1 := sb.nm.ext Ab
  have kk1 : In h.blks.length (fun b => b = p ∨ b = s) (nm h) h1 := Ab.inn (Nat.le_refl h.blks.length)
  obtain ⟨la, lc, ce, ae⟩ := l1.eng
  have m4 : h1.load1 p 4 = some (.slice (some ⟨s, 0, none⟩) ns.length ns.length) := ce.load 4
  have st2 := storeN_blk l1.seen (o := j) (vs := [.int .u64 (k : Int)]) (by simp; omega)
  rw [List.length_singleton, map_set ns j (by omega) k] at st2
  have d2 := l1.seen.put ((ns.set j k).map u64V)
  have ce2 := ce.keepPut (q := s) hps.symm (.cells ((ns.set j k).map u64V))
  have hbl : blockOf (.slice la es.length lc) ≠ some s := fun e => by
    obtain ⟨all, h1'⟩ := Acc.blk ae e
    have := l1.seen
    unfold Cells at this
    rw [this] at h1'
    simp only [Option.some.injEq, Blk.mk.injEq] at h1'
    exact absurd h1'.2.1 (by decide)
  have ae2 := ae.keepPut hbl (.cells ((ns.set j k).map u64V))
  have sb2 := Sl.keepPut sb1 hbs' (.cells ((ns.set j k).map u64V))
  have kk2 := kk1.trans (In.put (S := fun b => b = p ∨ b = s) (Nat.le_trans kk1.le kk1.len) (p := s) (.inr (.inr rfl)) (.cells ((ns.set j k).map u64V)))
  generalize hh2 : h1.put s (.cells ((ns.set j k).map u64V)) = h2 at st2 d2 ce2 ae2 sb2 kk2
  have n2 : h.blks.length ≤ h2.blks.length := Nat.le_trans kk2.le kk2.len
  have m1 : h2.load1 p 1 = some (.int .i64 me) := ce2.load 1
  have q3 := spec_Of1 (c := 1) (Cells.new h2 3 [.int .i64 me])
  have b3 := mkI1 me h2
  have y3 := Same.new h2 (.cells [.int .i64 me]) 3
  have kk3 := kk2.trans (In.new (S := fun b => b = p ∨ b = s) n2 (.cells [.int .i64 me]) 3)
  generalize hh3 : h2.new (.cells [.int .i64 me]) 3 = h3 at q3 b3 y3 kk3
  obtain ⟨a4, c4, h4, q4,Ae, r4⟩ := spec_Get18 (Sl.same sb2 y3) (by omega)
  have gl := getP_len bs
  rw [hg] at q4 r4 gl
  simp only [Option.getD_some, Option.isSome_some] at q4 r4 gl
  obtain ⟨h5, t5, y5, g5, s5, i5, _⟩ := newLogT (AE.se r4)
  have n3 := y3.1
  have n4 := Ae.len
  have n5 := y5.1
  have kk5 := (kk3.trans (Ae.inn (S := fun b => b = p ∨ b = s) (by omega))).trans (i5 (fun b => b = p ∨ b = s) h.blks.length (by omega))
  obtain ⟨a6, c6, h6, q6,Ag, r6⟩ := spec_Add s5 (getP_wide hg) (by omega) ⟨(j : Int), k, to⟩ hto hins
  have q6' : evC Tryd.prog 39 #[.agg #[.slice a4 g.length c4], .agg #[.int .i64 (j : Int), .int .u64 (k : Int), .int .u64 (to : Int)]] h5 = some (.agg #[.slice a6 (addE g ⟨(j : Int), k, to⟩).length c6], h6) := q6
  have al := addE_len g ⟨(j : Int), k, to⟩
  have wa : wide (addE g ⟨(j : Int), k, to⟩) := fun e he => by
    rcases mem_addE he with he | rfl
    · exact getP_wide hg e he
    · exact ⟨hk, hto⟩
  obtain ⟨a7, c7, h7, q7,Ah, r7⟩ := spec_Less (to := ofN me) r6.se wa (by omega) (ofN_lt me)
  have ll7 : (lessE (addE g ⟨(j : Int), k, to⟩) (ofN me)).length = (addE g ⟨(j : Int), k, to⟩).length := lessE_len _ _
  obtain ⟨h8, t8, y8, g8, s8, i8, _⟩ := newLogT (AE.se r7)
  have n6 := Ag.len
  have n7 := Ah.len
  have n8 := y8.1
  have kk8 := ((kk5.trans (Ag.inn (S := fun b => b = p ∨ b = s) (by omega))).trans (Ah.inn (S := fun b => b = p ∨ b = s) (by omega))).trans (i8 (fun b => b = p ∨ b = s) h.blks.length (by omega))
  have sm8 : Same h2 h8 := ((((y3.trans Ae.same).trans y5).trans Ag.same).trans Ah.same).trans y8
  have ce8 := ce2.same sm8
  have lA := logN ce8
  have ae8 : AE 0 h8 (.slice la es.length lc) es := ae2.same sm8
  have wl7 := wide_lessE (to := ofN me) wa
  obtain ⟨a9, c9, h9, q9,Aj, r9⟩ := spec_Join ae8.se s8 hw wl7 (by omega) (by omega)
  have jl := joinE_len es (lessE (addE g ⟨(j : Int), k, to⟩) (ofN me))
  obtain ⟨a10, c10, h10, q10,Ak, r10⟩ := spec_Less (to := ofN me) r9.se (wide_join hw wl7) (by omega) (ofN_lt me)
  have ll10 : (lessE (joinE es (lessE (addE g ⟨(j : Int), k, to⟩) (ofN me))) (ofN me)).length = (joinE es (lessE (addE g ⟨(j : Int), k, to⟩) (ofN me))).length := lessE_len _ _
  obtain ⟨a11, c11, h11, q11,Al, r11⟩ := spec_Purge r10.se (wide_lessE (wide_join hw wl7)) (by omega)
  have q11' : evC Tryd.prog 37 #[.agg #[.slice a10 (joinE es (lessE (addE g ⟨(j : Int), k, to⟩) (ofN me))).length c10]] h10 = some (.agg #[.slice a11 (takeLog es me (j : Int) k to g).length c11], h11) := q11
  have n9 := Aj.len
  have n10 := Ak.len
  have n11 := Al.len
  have kk11 := ((kk8.trans (Aj.inn (S := fun b => b = p ∨ b = s) (by omega))).trans (Ak.inn (S := fun b => b = p ∨ b = s) (by omega))).trans (Al.inn (S := fun b => b = p ∨ b = s) (by omega))
  have sm11 := ((sm8.trans Aj.same).trans Ak.same).trans Al.same
  have ce11 := ce2.same sm11
  have hpl : p < h2.blks.length := ce2.lt
  have st12 := storeN_blk ce11 (o := 2) (vs := [.slice a11 (takeLog es me (j : Int) k to g).length c11]) (by simp)
  simp only [List.take_succ_cons, List.take_zero, List.nil_append, List.append_nil, List.length_cons, List.length_nil, List.drop_succ_cons, List.drop_zero, Nat.zero_add, Nat.reduceAdd, List.drop_nil, List.cons_append, List.singleton_append] at st12
  have d12 := ce11.put [.int .i64 n, .int .i64 me, .slice a11 (takeLog es me (j : Int) k to g).length c11, .int .u64 (num : Int), .slice (some ⟨s, 0, none⟩) ns.length ns.length]
  have kk12 := kk11.trans (In.put (S := fun b => b = p ∨ b = s) (Nat.le_trans kk11.le kk11.len) (p := p) (.inr (.inl rfl)) (.cells [.int .i64 n, .int .i64 me, .slice a11 (takeLog es me (j : Int) k to g).length c11, .int .u64 (num : Int), .slice (some ⟨s, 0, none⟩) ns.length ns.length]))
  have rl : AE 0 (h11.put p (.cells [.int .i64 n, .int .i64 me, .slice a11 (takeLog es me (j : Int) k to g).length c11, .int .u64 (num : Int), .slice (some ⟨s, 0, none⟩) ns.length ns.length])) (.slice a11 (takeLog es me (j : Int) k to g).length c11) (takeLog es me (j : Int) k to g) :=
    Acc.keepPut (Acc.up r11 (Nat.zero_le _)) (fun e => by have := Acc.ge r11 e; omega) _
  have seenL : (ns.set j k).length = ns.length := List.length_set ..
  refine ⟨_, ?_, done_mod kk12, ⟨⟨a11, c11, ?_, rl.done⟩, ((d2.same sm11).keepPut (by omega) _).done, by rw [seenL]; exact l.len⟩⟩
  · simp -implicitDefEqProofs (disch := omega) only [↓c23_0_eq, q1, nilCheckV_ptr, faLn1, faLn2, faLn4, ldVec, m4, iaV s ns.length ns.length j (by omega), vst64, st2, ldI, m1, b3, q3, q4, extractV_tuple, alL, stL, t5, ldL, g5 (Same.refl _), bdE3, q6', q7, t8, ldLo, lA, g8 (Same.refl _), q9, q10, q11', stLo, st12, ↓ret23, ↓cnd_true, ↓cnd_false, ↓Option.bind_some, ↓obH_some', bin_add, bin_sub, bin_mul, bin_lss, bin_leq, bin_gtr, bin_geq, bin_eql, bin_neq, un_not, un_neg, Option.bind_some, Option.bind_none, Option.map_some, cnd_true, cnd_false, pickV_true, pickV_false, gd_true, gd_false, gdV_true, gdV_false, gdH_true, gdH_false, gdS_true, gdS_false, wt_ff, wt_tt, wt_ft, wt_tf, wt_undef, obH_some', extractV_tuple, nilCheckV_ptr, againK_normal, againK_exit, againK_ret, blockK_normal, blockK_same, blockK_ret, seqK_normal, seqK_exit, seqK_ret, fin_done, if_true', if_false', Bool.not_true, Bool.not_false, idx0, idx1, idx2, idx3, idx4, chk_nil_l, chk_nil_r, done_nm, up_cons, up_nil, cond_true, cond_false, Nat.reduceBEq]
  · rw [seenL]; exact d12.done
end Go.Am
namespace Go.Am
open Go.Proofs
set_option maxRecDepth 100000
set_option linter.all false
attribute [local congr] obind_congr obH_congr cnd_congr chk_congr retK_congr codeK_congr
theorem pnn (p : Nat) (xo yo : Operand) : binV Tryd.prog .eql 33 xo yo (.pointer (some ⟨p, 0, none⟩)) (.pointer none) = some (.bool false) := by kernel_rfl
theorem lit_ents (el : TypeId) (hs : sizeT Tryd.prog el = some 3) (es : List E3) (hl : es.length < 2 ^ 38) (h : Heap) : SE (h.new (.cells (entL es)) el) (.slice (some ⟨h.blks.length, 0, none⟩) es.length es.length) es := by
  refine .mk ?_ (.inr ⟨Nat.le_refl _, ?_⟩)
  · simp only [Heap.loadN, Heap.cells?, blk_new_self]
    simp [entL_len]
    rw [List.take_of_length_le (by rw [entL_len]; omega)]
  · unfold UNK; omega
theorem cmp_litN {h : Heap} {v : Value} {es : List E3} (s : SE h v es) (hl : es.length < 2 ^ 38) : ∃ a c h1, evC Tryd.prog 30 #[v] h = some (.slice a es.length c, h1) ∧ HExt h h1 ∧
    evC Tryd.prog 29 #[.slice a es.length c, .slice (some ⟨h1.blks.length, 0, none⟩) es.length es.length] (h1.new (.cells (entL es)) 79) = some (.bool true, h1.new (.cells (entL es)) 79) := by
  obtain ⟨a, c, h1, e1,Ab, r1⟩ := spec_log1 s hl
  refine ⟨a, c, h1, e1,Ab, ?_⟩
  have s1 : SE (h1.new (.cells (entL es)) 79) (.slice a es.length c) es := Sl.keepNew (AR.se r1) _ _
  rw [spec_logs s1 (lit_ents 79 etR.size es hl _) hl hl, decide_eq_true rfl]
def ak1 : List E3 := [⟨0, 1, 2⟩]
def ak2 : List E3 := [⟨0, 2, 2⟩]
theorem ak_t : sendT 2 0 2 = 2 := by decide
theorem ak_l1 : sendLog [] 0 0 2 = ak1 := by decide
theorem ak_l2 : sendLog ak1 0 1 2 = ak2 := by decide
theorem ak_w : listW 2 = [1] := by rw [listW_bits 2 (by omega)]; decide
theorem ak_r : rowF ak1 2 1 = logB ak1 := by
  unfold rowF
  rw [show purgeE (lessE ak1 (outB 2 (ofN ((1 : Nat) : Int)))) = ak1 by decide]
  rfl
theorem bdR3' : buildV Tryd.prog 79 #[(0, .int .i64 0), (1, .int .u64 1), (2, .int .u64 2)] = some (entV ⟨0, 1, 2⟩) := by kernel_rfl
theorem bdR4' : buildV Tryd.prog 79 #[(0, .int .i64 0), (1, .int .u64 2), (2, .int .u64 2)] = some (entV ⟨0, 2, 2⟩) := by kernel_rfl
theorem bsA1 (h : Heap) : buildSliceV Tryd.prog 76 1 #[(0, entV ⟨0, 1, 2⟩)] h = some (.slice (some ⟨h.blks.length, 0, none⟩) ak1.length ak1.length, h.new (.cells (entL ak1)) 79) := by kernel_rfl
theorem bsA2 (h : Heap) : buildSliceV Tryd.prog 76 1 #[(0, entV ⟨0, 2, 2⟩)] h = some (.slice (some ⟨h.blks.length, 0, none⟩) ak2.length ak2.length, h.new (.cells (entL ak2)) 79) := by kernel_rfl
theorem lnBs2 {n0 : Nat} {h : Heap} {v : Value} {l : List (List UInt8)} (a : ABs n0 h v l) : lenV Tryd.prog 36 v h = some (.int .i64 l.length) := a.len
theorem spec_awake19 (h : Heap) : ∃ h', evC Tryd.prog 20 #[] h = some (.bool true, h') ∧ HExt h h' := by
  rw [show evC Tryd.prog 20 #[] h = _ from call20 h]
  obtain ⟨h1, q1,Ab, l1⟩ := spec_leanNew 2 0 (by omega) (by omega) (by omega) (by omega) (nm h)
  have e0 : (nm h).blks.length = h.blks.length := rfl
  rw [e0] at q1 l1
  have n1 : h.blks.length ≤ h1.blks.length := Ab.len
  have k1 : In h.blks.length No (nm h) h1 := Ab.inn (Nat.le_refl h.blks.length)
  have b2 := mkI1 1 h1
  have o2 := spec_Of1 (c := 1) (Cells.new h1 3 [.int .i64 1])
  have k2 := k1.trans (In.new (S := No) n1 (.cells [.int .i64 1]) 3)
  have l2 := l1.same (Same.new h1 (.cells [.int .i64 1]) 3)
  have n2 := (Same.new h1 (.cells [.int .i64 1]) 3).1
  generalize hh2 : h1.new (.cells [.int .i64 1]) 3 = h2 at b2 o2 k2 l2 n2
  rw [show ((ofN 1 : Nat) : Int) = 2 by decide] at o2
  obtain ⟨v3, h3, q3, y3, l3, r3⟩ := spec_Send l2 (by omega) (by intro e he; cases he) (by simp) (by omega) 2 (by omega) (by omega) (insOk_end (by decide) (by decide))
  have nb : ∀ b, b < h.blks.length → Just (h.blks.length + 1) b → No b := fun b hb e => by have : b = h.blks.length + 1 := e; omega
  have k3 := k2.trans (y3.inn (by omega) nb)
  rw [show sendT 2 0 2 = 2 from ak_t, show sendLog [] 0 0 2 = ak1 from ak_l1] at l3
  have n3 := y3.len
  have b4 := mkI1 1 h3
  have o4 := spec_Of1 (c := 1) (Cells.new h3 3 [.int .i64 1])
  have k4 := k3.trans (In.new (S := No) (by omega) (.cells [.int .i64 1]) 3)
  have l4 := l3.same (Same.new h3 (.cells [.int .i64 1]) 3)
  have n4 := (Same.new h3 (.cells [.int .i64 1]) 3).1
  generalize hh4 : h3.new (.cells [.int .i64 1]) 3 = h4 at b4 o4 k4 l4 n4
  rw [show ((ofN 1 : Nat) : Int) = 2 by decide] at o4
  obtain ⟨v5, h5, q5, y5, l5, r5⟩ := spec_Send l4 (by omega) (by decide) (by decide) (by omega) 2 (by omega) (by omega) (insOk_end (by decide) (by decide))
  have k5 := k4.trans (y5.inn (by omega) nb)
  rw [show sendT 2 0 2 = 2 from ak_t] at l5 r5
  rw [show sendLog ak1 0 (0 + 1) 2 = ak2 from ak_l2] at l5
  rw [ak_w, show [1].map (rowF ak1 2) = [logB ak1] by rw [List.map_cons, List.map_nil, ak_r]] at r5
  have n5 := y5.len
  have len5 := lnBs2 r5
  obtain ⟨ad, xv, f1, f2, f3⟩ := r5.at (i := 0) (by simp)
  rw [show ((0 : Nat) : Int) = 0 from rfl] at f1
  rw [show ([logB ak1] : List (List UInt8)).getD 0 [] = logB ak1 from rfl] at f3
  have lb : (logB ak1).length < 2 ^ 26 := by
    have h1 := encL_le ak1 (by decide) (by decide)
    have h2 := putL_le ak1.length (by decide)
    have h3 : ak1.length = 1 := rfl
    unfold logB; rw [List.length_append]; omega
  obtain ⟨a6, c6, h6, q6,Ag, r6⟩ := spec_Get18 f3 (by omega)
  rw [get_put (by decide) (by decide) (by decide)] at q6 r6
  simp only [Option.getD_some, Option.isSome_some] at q6 r6
  have n6 := Ag.len
  obtain ⟨h7, t7, y7, g7, s7, i7, g7'⟩ := newLogT (AE.se r6)
  have k7 := (k5.trans (Ag.inn (S := No) (by omega))).trans (i7 No h.blks.length (by omega))
  have n7 := y7.1
  obtain ⟨a8, c8, h8, q8,Ai, w8⟩ := cmp_litN s7 (by decide)
  have n8 := Ai.len
  have y9 := Same.new h8 (.cells (entL ak1)) 79
  have k9 := (k7.trans (Ai.inn (S := No) (by omega))).trans (In.new (S := No) (by omega) (.cells (entL ak1)) 79)
  have l9 := (((l5.same Ag.same).same y7).same Ai.same).same y9
  generalize hh9 : h8.new (.cells (entL ak1)) 79 = h9 at y9 k9 l9 w8
  have n9 := y9.1
  obtain ⟨a10, c10, h10, q10,Ak, s10⟩ := spec_Log l9 (by decide)
  have n10 := Ak.len
  obtain ⟨a11, c11, h11, q11,Al, w11⟩ := cmp_litN s10 (by decide)
  have n11 := Al.len
  have k12 := ((k9.trans (Ak.inn (S := No) (by omega))).trans (Al.inn (S := No) (by omega))).trans (In.new (S := No) (by omega) (.cells (entL ak2)) 79)
  have z1 : decide ((([logB ak1] : List (List UInt8)).length : Int) ≠ 1) = false := by decide
  rw [show ((2 : Nat) : Int) = 2 from rfl] at q1 q3 q5
  refine ⟨_, ?_, done_ext' k12⟩
  have b9 := bsA1 h8
  rw [hh9] at b9
  simp -implicitDefEqProofs (disch := omega) only [↓c20_0_eq, q1, extractV_tuple, pnn, b2, o2, q3, b4, o4, q5, len5, z1, ne_eq, not_true_eq_false, decide_false, f1, f2, q6, alL, stL, t7, faL, ldEs, g7', q8, bdR3', b9, w8, q10, fvL, q11, bdR4', bsA2, w11, ↓ret20, ↓cnd_true, ↓cnd_false, ↓Option.bind_some, ↓obH_some', bin_add, bin_sub, bin_mul, bin_lss, bin_leq, bin_gtr, bin_geq, bin_eql, bin_neq, un_not, un_neg, Option.bind_some, Option.bind_none, Option.map_some, cnd_true, cnd_false, pickV_true, pickV_false, gd_true, gd_false, gdV_true, gdV_false, gdH_true, gdH_false, gdS_true, gdS_false, wt_ff, wt_tt, wt_ft, wt_tf, wt_undef, obH_some', extractV_tuple, nilCheckV_ptr, againK_normal, againK_exit, againK_ret, blockK_normal, blockK_same, blockK_ret, seqK_normal, seqK_exit, seqK_ret, fin_done, if_true', if_false', Bool.not_true, Bool.not_false, idx0, idx1, idx2, idx3, idx4, chk_nil_l, chk_nil_r, done_nm, up_cons, up_nil, cond_true, cond_false, Nat.reduceBEq]
end Go.Am
namespace Go.Am
open Go.Proofs
set_option maxRecDepth 100000
set_option linter.all false
attribute [local congr] obind_congr obH_congr cnd_congr chk_congr retK_congr codeK_congr
end Go.Am
namespace Go.Am
open Go.Proofs
set_option maxRecDepth 100000
set_option linter.all false
attribute [local congr] obind_congr obH_congr cnd_congr chk_congr retK_congr codeK_congr
end Go.Am
namespace Go.Am
open Go.Proofs
set_option maxRecDepth 100000
set_option linter.all false
attribute [local congr] obind_congr obH_congr cnd_congr chk_congr retK_congr codeK_congr
theorem Cells.ty {h : Heap} {p : Nat} {t1 t2 : TypeId} {cs all : List Value} (c : Cells h p t1 cs) (e : h.blks[p]? = some ⟨.cells all, t2, true⟩) : t1 = t2 := by
  unfold Cells at c
  rw [c] at e
  simp only [Option.some.injEq, Blk.mk.injEq] at e
  exact e.2.1
theorem LEn.rows {S : Nat → Prop} {h h' : Heap} {p s : Nat} {n me : Int} {num : Nat} {es : List E3} {ns : List Nat} (l : LEn h p s n me num es ns) (m : HMod S h h') (hS : ∀ b, S b → b = p ∨ b = s) {n0 : Nat} {v : Value} {r : List (List UInt8)} (a : ABs n0 h v r) : ABs n0 h' v r := by
  obtain ⟨vs, x⟩ := a
  obtain ⟨la, lc, ce, _⟩ := l.eng
  refine ⟨vs, x.kp fun b all ty hb ht _ => m.old b (List.getElem?_eq_some_iff.1 hb).1 fun hs => ?_⟩
  rcases hS b hs with rfl | rfl
  · have := ce.ty hb
    rcases ht with ht | ht
    · exact absurd (this.trans ht) (by decide)
    · exact absurd (this.trans ht) (by decide)
  · have := l.seen.ty hb
    rcases ht with ht | ht
    · exact absurd (this.trans ht) (by decide)
    · exact absurd (this.trans ht) (by decide)
end Go.Am
namespace Go.Am
open Go.Proofs
set_option maxRecDepth 100000
set_option linter.all false
attribute [local congr] obind_congr obH_congr cnd_congr chk_congr retK_congr codeK_congr
theorem bsK_leM (es : List E3) (t : E3) : bsK es t ≤ es.length := List.Sublist.length_le (List.takeWhile_sublist _)
theorem entL_takeM : ∀ (es : List E3) (i : Nat), (entL es).take (i * 3) = entL (es.take i)
  | [], i => by simp [entL]
  | e :: es, 0 => rfl
  | e :: es, i + 1 => by
    rw [show (i + 1) * 3 = (i * 3) + 1 + 1 + 1 by omega]
    simp only [entL, List.take_succ_cons]
    rw [entL_takeM es i]
theorem entL_dropM : ∀ (es : List E3) (i : Nat), (entL es).drop (i * 3) = entL (es.drop i)
  | [], i => by simp [entL]
  | e :: es, 0 => rfl
  | e :: es, i + 1 => by
    rw [show (i + 1) * 3 = (i * 3) + 1 + 1 + 1 by omega]
    simp only [entL, List.drop_succ_cons]
    exact entL_dropM es i
theorem AE.blkM {n0 : Nat} {h : Heap} {a : Option Addr} {c : Nat} {es : List E3} (ha : AE n0 h (.slice a es.length c) es) (h0 : 0 < es.length) :
    ∃ b o all, a = some ⟨b, o, none⟩ ∧ n0 ≤ b ∧ h.blks[b]? = some ⟨.cells all, 68, true⟩ ∧ o + es.length * 3 ≤ all.length ∧ (all.drop o).take (es.length * 3) = entL es ∧ (c = UNK ∨ c = es.length) := by
  have key : ∀ {v : Value} {n : Nat} {cs : List Value}, Acc n0 h 68 3 v n cs → 0 < n → v = .slice a n c → ∃ b o all, a = some ⟨b, o, none⟩ ∧ n0 ≤ b ∧ h.blks[b]? = some ⟨.cells all, 68, true⟩ ∧ o + n * 3 ≤ all.length ∧ (all.drop o).take (n * 3) = cs ∧ (c = UNK ∨ c = n) := by
    intro v n cs x hn hv
    cases x with
    | nil => omega
    | full h1 h2 h3 h4 h5 => injection hv with e1 e2 e3; subst e1; exact ⟨_, _, _, rfl, h1, h3, h4, h5, .inr e3.symm⟩
    | unk h1 h2 h3 h4 => injection hv with e1 e2 e3; subst e1; exact ⟨_, _, _, rfl, h1, h2, h3, h4, .inl e3.symm⟩
  exact key ha h0 rfl
theorem insOk_all {es : List E3} {x : E3} (hl : es.length < 2 ^ 38) : InsOk es x := by
  by_cases hk : bsK es x = es.length
  · exact insOk_end hk hl
  intro hg hm hb n0 h a c hn ha
  have hlt : bsK es x < es.length := by have := bsK_leM es x; omega
  obtain ⟨b, o, all, rfl, hb0, hbk, hle, he, hc⟩ := AE.blkM ha (by omega)
  have hbl : b < h.blks.length := (List.getElem?_eq_some_iff.1 hbk).1
  have hk1 : (h.new (.cells (entC x)) 68).blks[b]? = some ⟨.cells all, 68, true⟩ := (Heap.new_old hbl).trans hbk
  have hk2 : (h.new (.cells (entC x)) 68).blks[h.blks.length]? = some ⟨.cells (entC x), 68, true⟩ := blk_new_self _ _ _
  have hone : ((all.drop o).take (es.length * 3)).all Value.oneCell' = true := by rw [he]; exact entL_one es
  have hL : ((all.drop o).take (bsK es x * 3) ++ (entC x ++ ((all.drop o).take (es.length * 3)).drop (bsK es x * 3))) = entL (insE es x) := by
    have h1 : (all.drop o).take (bsK es x * 3) = entL (es.take (bsK es x)) := by
      rw [← entL_takeM, ← he, List.take_take, Nat.min_eq_left (by omega)]
    rw [h1, he, entL_dropM]
    unfold insE
    rw [entL_app]
    rfl
  have hlen : (insE es x).length = es.length + 1 := by unfold insE; rw [List.length_append, List.length_cons, List.length_take, List.length_drop]; omega
  have hpl : ((h.new (.cells (entC x)) 68).put b .dead).blks.length = h.blks.length + 1 := by rw [Heap.put_len]; simp [Heap.new]
  refine ⟨some ⟨h.blks.length + 1, 0, none⟩, UNK, ((h.new (.cells (entC x)) 68).put b .dead).new (.cells (entL (insE es x))) 68, ?_, ?_, ⟨hn, ?_, fun q hq => ?_, fun m hm' => ?_⟩, fun q hq hne => ?_⟩
  · rw [evC_ext xt_ins]
    unfold insX
    simp only []
    rw [if_neg (by omega), if_pos ⟨by omega, by omega, by omega, hc⟩]
    simp only [hk1, hk2]
    rw [if_pos ⟨trivial, trivial, by omega, hle, rfl, rfl, hone⟩, Int.toNat_natCast, hL, hlen]
    rw [show (h.new (.cells (entC x)) 68).blks.length = h.blks.length + 1 by simp [Heap.new]]
  · have := blk_new_self ((h.new (.cells (entC x)) 68).put b .dead) (.cells (entL (insE es x))) 68
    rw [hpl] at this
    exact .unk (by omega) this (by rw [entL_len]; omega) (by rw [List.drop_zero, ← entL_len, List.take_length])
  · rw [Heap.new_len, hpl]; omega
  · rw [Heap.new_old (by rw [hpl]; omega), Heap.put_other (by omega), Heap.new_old (by omega)]
  · have : (((h.new (.cells (entC x)) 68).put b .dead).new (.cells (entL (insE es x))) 68).mods = b :: h.mods := by rw [Heap.put_eq hk1]; rfl
    rw [this] at hm'
    rcases List.mem_cons.1 hm' with rfl | hm'
    · exact .inr hb0
    · exact .inl hm'
  · rw [Heap.new_old (by rw [hpl]; omega), Heap.put_other (fun e => hne (by rw [e]; rfl)), Heap.new_old hq]
theorem spec_TakeNo {h : Heap} {p s : Nat} {n : Nat} {me : Int} {num : Nat} {es : List E3} {ns : List Nat} (l : LEn h p s n me num es ns) (fr : Int) (k to : Nat) {v : Value} {bs : List UInt8} (sb : SB h v bs) (hbs : bs.length < 2 ^ 26) (hc : canE n me ns fr k bs = false) :
    ∃ h', evC Tryd.prog 23 #[.pointer (some ⟨p, 0, none⟩), .int .i64 fr, .int .u64 k, .int .u64 to, v] h = some (.bool false, h') ∧ HExt h h' := by
  rw [call23]
  obtain ⟨h1, q1,Ab⟩ := spec_Can (l.same (sameNm h)) fr k sb.nm (by omega)
  rw [hc] at q1
  refine ⟨done h h1, ?_, done_ext' (Ab.inn (Nat.le_refl _))⟩
  simp -implicitDefEqProofs (disch := omega) only [↓c23_0_eq, q1, ↓ret23, ↓cnd_true, ↓cnd_false, ↓Option.bind_some, ↓obH_some', bin_add, bin_sub, bin_mul, bin_lss, bin_leq, bin_gtr, bin_geq, bin_eql, bin_neq, un_not, un_neg, Option.bind_some, Option.bind_none, Option.map_some, cnd_true, cnd_false, pickV_true, pickV_false, gd_true, gd_false, gdV_true, gdV_false, gdH_true, gdH_false, gdS_true, gdS_false, wt_ff, wt_tt, wt_ft, wt_tf, wt_undef, obH_some', extractV_tuple, nilCheckV_ptr, againK_normal, againK_exit, againK_ret, blockK_normal, blockK_same, blockK_ret, seqK_normal, seqK_exit, seqK_ret, fin_done, if_true', if_false', Bool.not_true, Bool.not_false, idx0, idx1, idx2, idx3, idx4, chk_nil_l, chk_nil_r, done_nm, up_cons, up_nil, cond_true, cond_false, Nat.reduceBEq]
theorem join_len1 (hd : List E3) (f : E3 → Bool) : ∀ own : List E3, ((own.filter fun x => !bsF hd x && f x).length + (own.filterMap (bothF hd)).length) ≤ own.length
  | [] => by simp
  | x :: own => by
    have ih := join_len1 hd f own
    cases hb : bsF hd x with
    | true =>
      have e1 : bothF hd x = some { x with t := x.t &&& (hd.getD (bsK hd x) default).t } := by unfold bothF; rw [if_pos hb]
      rw [List.filter_cons, hb, List.filterMap_cons, e1]
      simp only [Bool.not_true, Bool.false_and, Bool.false_eq_true, if_false, List.length_cons]
      omega
    | false =>
      have e1 : bothF hd x = none := by unfold bothF; rw [if_neg (by rw [hb]; decide)]
      rw [List.filter_cons, hb, List.filterMap_cons, e1]
      simp only [List.length_cons]
      split
      · simp only [List.length_cons]; omega
      · omega
theorem joinE_len' (es fs : List E3) : (joinE es fs).length ≤ es.length + fs.length := by
  unfold joinE
  split
  · rw [srtE_len, List.length_append, List.length_append]
    have a := join_len1 fs (fun x => decide ((getM (lastM fs) x.f).getD 0 < x.n)) es
    have b := List.length_filter_le (fun x => !bsF es x && decide ((getM (lastM es) x.f).getD 0 < x.n)) fs
    unfold newsE bothE
    omega
  · omega
theorem purgeE_len (es : List E3) : (purgeE es).length ≤ es.length := (purgeE_sub es).length_le
theorem takeLog_len (es : List E3) (me fr : Int) (k to : Nat) (g : List E3) : (takeLog es me fr k to g).length ≤ es.length + g.length + 1 := by
  unfold takeLog
  have a := purgeE_len (lessE (joinE es (lessE (addE g ⟨fr, k, to⟩) (ofN me))) (ofN me))
  have b := joinE_len' es (lessE (addE g ⟨fr, k, to⟩) (ofN me))
  have c := addE_len g ⟨fr, k, to⟩
  rw [lessE_len] at a b
  omega
theorem sendLog_len (es : List E3) (me : Int) (num t : Nat) : (sendLog es me num t).length ≤ es.length + 1 := by
  unfold sendLog
  have a := purgeE_len (addE (lessE es t) ⟨me, num + 1, t⟩)
  have c := addE_len (lessE es t) ⟨me, num + 1, t⟩
  rw [lessE_len] at c
  omega
end Go.Am
namespace Go.Am
set_option maxRecDepth 100000
set_option linter.all false
theorem purgeL_head : ∀ (e : E3) (l : List E3), ∃ x r, purgeL (e :: l) = x :: r ∧ x.f = e.f
  | e, [] => ⟨e, [], rfl, rfl⟩
  | e, e' :: l => by
    rw [purgeL_two]
    split
    · exact ⟨e, _, rfl, rfl⟩
    · rename_i h
      obtain ⟨x, r, h1, h2⟩ := purgeL_head e' l
      exact ⟨x, r, h1, h2.trans (Classical.byContradiction fun hn => h (.inr hn))⟩
theorem purgeL_next : ∀ (l : List E3) (i : Nat) (h : i + 1 < (purgeL l).length), (purgeL l)[i].t = 0 → (purgeL l)[i + 1].f ≠ (purgeL l)[i].f
  | [], i, h => by simp [purgeL] at h
  | [e], i, h => by simp [purgeL] at h
  | e :: e' :: l, i, h => by
    have key : ∀ (q : List E3), q = purgeL (e :: e' :: l) → ∀ (h : i + 1 < q.length), q[i].t = 0 → q[i + 1].f ≠ q[i].f := by
      intro q hq h
      rw [purgeL_two] at hq
      split at hq
      · rename_i hk
        subst hq
        cases i with
        | zero =>
          intro h0
          simp only [List.getElem_cons_zero, List.getElem_cons_succ] at h0 ⊢
          obtain ⟨x, r, h1, h2⟩ := purgeL_head e' l
          simp only [h1, List.getElem_cons_zero]
          rw [h2]
          exact hk.resolve_left fun hn => hn h0
        | succ i =>
          intro h0
          simp only [List.getElem_cons_succ] at h0 ⊢
          exact purgeL_next (e' :: l) i (by simpa using h) h0
      · subst hq
        exact purgeL_next (e' :: l) i h
    exact key _ rfl h
theorem purgeL_sub : ∀ l : List E3, (purgeL l).Sublist l
  | [] => .slnil
  | [e] => List.Sublist.refl _
  | e :: e' :: l => by
    rw [purgeL_two]
    split
    · exact (purgeL_sub (e' :: l)).cons_cons e
    · exact (purgeL_sub (e' :: l)).cons e
theorem good_purge {es : List E3} (h : goodE es = true) : goodE (purgeL es) = true := by
  rw [goodE_iff] at h ⊢
  exact ⟨fun e he => h.1 e ((purgeL_sub es).subset he), h.2.sublist (purgeL_sub es)⟩

theorem may_less {e : E3} (to : Nat) (h : mayE e = true) : mayE (lessF to e) = true := by
  unfold mayE lessF at *
  simp only [Bool.and_eq_true, decide_eq_true_eq] at h ⊢
  have : outB e.t to ≤ e.t := Nat.and_le_left
  exact ⟨h.1, h.2.1, h.2.2.1, by omega⟩
theorem good_less {es : List E3} (to : Nat) (h : goodE es = true) : goodE (lessE es to) = true := by
  unfold lessE
  rw [if_pos h]
  rw [goodE_iff] at h ⊢
  refine ⟨fun e he => ?_, ?_⟩
  · obtain ⟨x, hx, rfl⟩ := List.mem_map.1 he
    exact may_less to (h.1 x hx)
  · exact List.pairwise_map.2 (h.2.imp fun k => k)
theorem bsK_lo {es : List E3} {x : E3} (i : Nat) (hi : i < bsK es x) (hl : i < es.length) : ltE es[i] x := by
  have key : ∀ (l : List E3) (i : Nat) (hi : i < (l.takeWhile fun e => decide (cmpE e x < 0)).length) (hl : i < l.length), ltE l[i] x := by
    intro l
    induction l with
    | nil => intro i hi hl; simp at hl
    | cons e l ih =>
      intro i hi hl
      rw [List.takeWhile_cons] at hi
      split at hi
      · rename_i h
        cases i with
        | zero => exact (cmpE_lt e x).1 (of_decide_eq_true h)
        | succ i => exact ih i (by simpa using hi) (by simpa using hl)
      · simp at hi
  exact key es i hi hl
theorem bsK_ge {es : List E3} {x : E3} (hl : bsK es x < es.length) : ¬ ltE es[bsK es x] x := by
  have key : ∀ (l : List E3) (hl : (l.takeWhile fun e => decide (cmpE e x < 0)).length < l.length), ¬ ltE l[(l.takeWhile fun e => decide (cmpE e x < 0)).length] x := by
    intro l
    induction l with
    | nil => intro hl; simp at hl
    | cons e l ih =>
      intro hl
      by_cases h : cmpE e x < 0
      · have e1 : (List.takeWhile (fun e => decide (cmpE e x < 0)) (e :: l)) = e :: l.takeWhile fun e => decide (cmpE e x < 0) := by rw [List.takeWhile_cons, if_pos (decide_eq_true h)]
        simp only [e1, List.length_cons] at hl ⊢
        exact ih (by omega)
      · have e1 : (List.takeWhile (fun e => decide (cmpE e x < 0)) (e :: l)) = [] := by rw [List.takeWhile_cons, if_neg (by rw [decide_eq_false h]; decide)]
        simp only [e1, List.length_nil, List.getElem_cons_zero]
        exact fun k => h ((cmpE_lt e x).2 k)
  exact key es hl
theorem good_add {es : List E3} {x : E3} (h : goodE es = true) (hm : mayE x = true) : goodE (addE es x) = true := by
  unfold addE
  rw [if_pos ⟨h, hm⟩]
  have hh := (goodE_iff es).1 h
  split
  · rename_i hb
    have hlt := bsF_lt hb
    have hz : cmpE es[bsK es x] x = 0 := by
      unfold bsF at hb
      rw [List.getElem?_eq_getElem hlt] at hb
      exact of_decide_eq_true hb
    have hfn : es[bsK es x].f = x.f ∧ es[bsK es x].n = x.n := by
      have h1 : ¬ ltE es[bsK es x] x := fun k => by have := (cmpE_lt _ _).2 k; omega
      refine key_eq h1 fun k => ?_
      unfold ltE at k
      unfold cmpE at hz
      split at hz
      · omega
      · split at hz
        · omega
        · split at hz
          · omega
          · split at hz
            · omega
            · omega
    rw [goodE_iff]
    refine ⟨fun e he => ?_, ?_⟩
    · rcases List.mem_or_eq_of_mem_set he with he | rfl
      · exact hh.1 e he
      · exact hm
    · refine List.pairwise_iff_getElem.2 fun i j hi hj hij => ?_
      have hi' : i < es.length := by simpa using hi
      have hj' : j < es.length := by simpa using hj
      have base := List.pairwise_iff_getElem.1 hh.2 i j hi' hj' hij
      rw [List.getElem_set, List.getElem_set]
      split
      · rename_i e1
        subst e1
        rw [if_neg (by omega)]
        unfold ltE at base ⊢
        rw [← hfn.1, ← hfn.2]
        exact base
      · split
        · rename_i e2
          subst e2
          unfold ltE at base ⊢
          rw [← hfn.1, ← hfn.2]
          exact base
        · exact base
  · rename_i hb
    rw [goodE_iff]
    unfold insE
    refine ⟨fun e he => ?_, ?_⟩
    · rcases List.mem_append.1 he with he | he
      · exact hh.1 e (List.mem_of_mem_take he)
      · rcases List.mem_cons.1 he with rfl | he
        · exact hm
        · exact hh.1 e (List.mem_of_mem_drop he)
    · have hlo : ∀ y ∈ es.take (bsK es x), ltE y x := fun y hy => by
        obtain ⟨i, hi, rfl⟩ := List.getElem_of_mem hy
        rw [List.length_take] at hi
        rw [List.getElem_take]
        exact bsK_lo i (by omega) (by omega)
      have hhi : ∀ y ∈ es.drop (bsK es x), ltE x y := fun y hy => by
        have hlt : bsK es x < es.length := by
          rcases Nat.lt_or_ge (bsK es x) es.length with h1 | h1
          · exact h1
          · rw [List.drop_of_length_le h1] at hy; cases hy
        have h1 := bsK_ge hlt
        have h2 : ltE x es[bsK es x] := by
          refine Classical.byContradiction fun h2 => hb ?_
          obtain ⟨h3, h4⟩ := key_eq h1 h2
          unfold bsF
          rw [List.getElem?_eq_getElem hlt]
          simp only
          refine decide_eq_true ?_
          unfold cmpE
          rw [if_neg (by omega), if_neg (by omega), if_neg (by omega), if_neg (by omega)]
        obtain ⟨j, hj, rfl⟩ := List.getElem_of_mem hy
        rw [List.getElem_drop]
        rw [List.length_drop] at hj
        rcases Nat.eq_zero_or_pos j with h0 | h0
        · subst h0; exact h2
        · exact ltE_trans h2 (List.pairwise_iff_getElem.1 hh.2 _ _ hlt (by omega) (by omega))
      refine List.pairwise_append.2 ⟨hh.2.sublist (List.take_sublist _ _), List.pairwise_cons.2 ⟨hhi, hh.2.sublist (List.drop_sublist _ _)⟩, fun a ha b hb' => ?_⟩
      rcases List.mem_cons.1 hb' with rfl | hb'
      · exact hlo a ha
      · exact ltE_trans (hlo a ha) (hhi b hb')
structure LInv (me : Int) (es : List E3) : Prop where
  good : goodE es = true
  here : ∀ e ∈ es, hasB e.t me = false
  next : ∀ (i : Nat) (h : i + 1 < es.length), es[i].t = 0 → es[i + 1].f ≠ es[i].f
theorem mem_purgeE {es : List E3} {e : E3} (h : e ∈ purgeE es) : e ∈ es := (purgeE_sub es).subset h
theorem inv_purge {me : Int} {es : List E3} (h : goodE es = true) (hh : ∀ e ∈ es, hasB e.t me = false) : LInv me (purgeE es) := by
  refine ⟨?_, fun e he => hh e (mem_purgeE he), ?_⟩
  · unfold purgeE; rw [if_pos h]; exact good_purge h
  · unfold purgeE; rw [if_pos h]; exact fun i hi => purgeL_next es i hi
theorem hasB_out (t to : Nat) (me : Int) (h : hasB t me = false) : hasB (outB t to) me = false := by
  unfold hasB outB at *
  rw [Nat.testBit_and]
  cases hb : t.testBit me.toNat with
  | false => simp
  | true =>
    rw [hb, Bool.and_true] at h
    rw [h]; rfl
theorem hasB_outMe (t : Nat) (me : Int) (ht : t < 2 ^ 64) (h0 : 0 ≤ me) (h1 : me < 16) : hasB (outB t (ofN me)) me = false := by
  obtain ⟨m, rfl⟩ : ∃ m : Nat, me = m := ⟨me.toNat, by omega⟩
  have ho : ofN (m : Int) = 2 ^ m := by unfold ofN; rw [if_pos (by omega), Int.toNat_natCast]
  unfold hasB outB
  rw [ho, Int.toNat_natCast, Nat.testBit_and, show (2 ^ 64 - 1 - 2 ^ m : Nat) = 2 ^ 64 - (2 ^ m + 1) by omega, Nat.testBit_two_pow_sub_succ (Nat.pow_lt_pow_right (by omega) (by omega)), Nat.testBit_two_pow_self]
  simp
theorem here_less {me : Int} {es : List E3} (to : Nat) (h : ∀ e ∈ es, hasB e.t me = false) : ∀ e ∈ lessE es to, hasB e.t me = false := fun e he => by
  unfold lessE at he
  split at he
  · obtain ⟨x, hx, rfl⟩ := List.mem_map.1 he
    exact hasB_out _ _ _ (h x hx)
  · exact h e he
theorem inv_send {me : Int} {es : List E3} (I : LInv me es) (num t : Nat) (hme : 0 ≤ me) (hme2 : me < 16) (ht : t < 65536) (htm : hasB t me = false) : LInv me (sendLog es me num t) := by
  unfold sendLog
  have hm : mayE ⟨me, num + 1, t⟩ = true := by
    unfold mayE
    simp only [Bool.and_eq_true, decide_eq_true_eq]
    exact ⟨hme, hme2, by omega, ht⟩
  refine inv_purge (good_add (good_less t I.good) hm) fun e he => ?_
  rcases mem_addE he with he | rfl
  · exact here_less t I.here e he
  · exact htm
theorem inv_take {me : Int} {es g : List E3} (I : LInv me es) (hg : goodE g = true) (fr : Int) (k to : Nat) (hx : mayE ⟨fr, k, to⟩ = true) (hme : 0 ≤ me) (hme2 : me < 16) : LInv me (takeLog es me fr k to g) := by
  unfold takeLog
  have h1 := good_less (ofN me) (good_add hg hx)
  have h2 := srt_join I.good h1
  generalize joinE es (lessE (addE g ⟨fr, k, to⟩) (ofN me)) = J at *
  refine inv_purge (good_less _ h2) fun e he => ?_
  unfold lessE at he
  rw [if_pos h2] at he
  obtain ⟨x, hx', rfl⟩ := List.mem_map.1 he
  have := (goodE_iff _).1 h2
  have hm := this.1 x hx'
  unfold mayE at hm
  simp only [Bool.and_eq_true, decide_eq_true_eq] at hm
  exact hasB_outMe x.t me (by omega) hme hme2
theorem getP_good {bs : List UInt8} {g : List E3} (h : getP bs = some g) : goodE g = true := by
  unfold getP logOf at h
  split at h
  · rename_i hc
    cases h
    exact hc.2
  · cases h
theorem LInv.wide {me : Int} {es : List E3} (I : LInv me es) (hn : ∀ e ∈ es, e.n < 2 ^ 64) : wide es := fun e he => by
  have hm := ((goodE_iff es).1 I.good).1 e he
  unfold mayE at hm
  simp only [Bool.and_eq_true, decide_eq_true_eq] at hm
  exact ⟨hn e he, by omega⟩
end Go.Am
namespace Go.Am
open Go.Proofs
set_option maxRecDepth 100000
set_option linter.all false
attribute [local congr] obind_congr obH_congr cnd_congr chk_congr retK_congr codeK_congr
theorem All2.lenAL {α β : Type} {R : α → β → Prop} {l : List α} {m : List β} (h : All2 R l m) : l.length = m.length := by
  induction h with
  | nil => rfl
  | cons _ _ ih => simp [ih]
structure AL where
  op : Int
  frm : Int
  at' : Int
  num : Nat
  to : Nat
  b : List UInt8
def alC (p : AL) (bv : Value) : List Value := [.int .i64 p.op, .int .i64 p.frm, .int .i64 p.at', .int .u64 p.num, .int .u64 p.to, bv]
def SAl (h : Heap) (v : Value) (l : List AL) : Prop := ∃ bvs, Row h 6 v l.length (List.zipWith alC l bvs).flatten ∧ All2 (fun bv p => SB h bv p.b) bvs l
theorem SAl.same {h h' : Heap} {v : Value} {l : List AL} (s : SAl h v l) (e : Same h h') : SAl h' v l := let ⟨bvs, r, b⟩ := s; ⟨bvs, r.keep fun b hb _ => e.2 b hb, b.mono fun _ _ x => x.same e⟩
theorem SAl.len {h : Heap} {v : Value} {l : List AL} (s : SAl h v l) : lenV Tryd.prog 81 v h = some (.int .i64 l.length) := by
  obtain ⟨bvs, r, b⟩ := s
  have hu : Tryd.prog.underlying 81 = some (.slice 83) := by kernel_rfl
  exact r.len_eq hu
theorem flat6A : ∀ (l : List AL) (bvs : List Value) (i k : Nat), k < 6 → l.length = bvs.length → (hi : i < l.length) → (hb : i < bvs.length) → (List.zipWith alC l bvs).flatten[i * 6 + k]? = (alC l[i] bvs[i])[k]?
  | [], _, i, k, _, _, hi, _ => by simp at hi
  | _ :: _, [], i, k, _, hl, _, _ => by simp at hl
  | p :: l, v :: bvs, 0, k, hk, hl, hi, hb => by
    simp only [List.zipWith_cons_cons, List.flatten_cons, Nat.zero_mul, Nat.zero_add, List.getElem_cons_zero]
    rw [List.getElem?_append_left (by simpa [alC] using hk)]
  | p :: l, v :: bvs, i + 1, k, hk, hl, hi, hb => by
    simp only [List.zipWith_cons_cons, List.flatten_cons, List.getElem_cons_succ]
    rw [List.getElem?_append_right (by simp [alC]; omega)]
    have : (i + 1) * 6 + k - (alC p v).length = i * 6 + k := by simp [alC]; omega
    rw [this]
    exact flat6A l bvs i k hk (by simpa using hl) (by simpa using hi) (by simpa using hb)
theorem faAl0 (b o : Nat) : fieldAddrV Tryd.prog 83 (.pointer (some ⟨b, o, none⟩)) 0 = some (.pointer (some ⟨b, o, none⟩)) := by kernel_rfl
theorem faAl1 (b o : Nat) : fieldAddrV Tryd.prog 83 (.pointer (some ⟨b, o, none⟩)) 1 = some (.pointer (some ⟨b, o + 1, none⟩)) := by kernel_rfl
theorem faAl3 (b o : Nat) : fieldAddrV Tryd.prog 83 (.pointer (some ⟨b, o, none⟩)) 3 = some (.pointer (some ⟨b, o + 3, none⟩)) := by kernel_rfl
theorem faAl4 (b o : Nat) : fieldAddrV Tryd.prog 83 (.pointer (some ⟨b, o, none⟩)) 4 = some (.pointer (some ⟨b, o + 4, none⟩)) := by kernel_rfl
theorem faAl5 (b o : Nat) : fieldAddrV Tryd.prog 83 (.pointer (some ⟨b, o, none⟩)) 5 = some (.pointer (some ⟨b, o + 5, none⟩)) := by kernel_rfl
structure AlAt (h : Heap) (v : Value) (i : Nat) (p : AL) (b o : Nat) (bv : Value) : Prop where
  at_ : indexAddrV Tryd.prog 81 v (.int .i64 i) = some (.pointer (some ⟨b, o, none⟩))
  l0 : h.load1 b o = some (.int .i64 p.op)
  l1 : h.load1 b (o + 1) = some (.int .i64 p.frm)
  l3 : h.load1 b (o + 3) = some (.int .u64 p.num)
  l4 : h.load1 b (o + 4) = some (.int .u64 p.to)
  l5 : h.load1 b (o + 5) = some bv
  sb : SB h bv p.b
theorem SAl.at {v : Value} {h : Heap} {l : List AL} (s : SAl h v l) {i : Nat} (hi : i < l.length) : ∃ b o bv, ∀ h', Same h h' → AlAt h' v i l[i] b o bv := by
  obtain ⟨bvs, r, hb⟩ := s
  have hl : bvs.length = l.length := hb.lenAL
  have hu : Tryd.prog.underlying 81 = some (.slice 83) := by kernel_rfl
  have hs : sizeT Tryd.prog 83 = some 6 := by kernel_rfl
  cases r0 : v with
  | slice ad n c =>
    subst r0
    have r' := r
    generalize hn : l.length = n at r'
    generalize hcs : (List.zipWith alC l bvs).flatten = cs at r'
    cases r' with
    | nil => omega
    | mk hld =>
      rename_i b o
      rw [← hn, ← hcs] at hld
      refine ⟨b, o + i * 6, bvs[i], fun h' e => ?_⟩
      have hld' : h'.loadN b o (l.length * 6) = some (List.zipWith alC l bvs).flatten := by rw [loadN_of (e.2 b (loadN_lt hld))]; exact hld
      have get : ∀ k, k < 6 → h'.load1 b (o + i * 6 + k) = (alC l[i] bvs[i])[k]? := fun k hk => by
        rw [Nat.add_assoc, loadN_get hld' (by omega), flat6A l bvs i k hk hl.symm hi (by omega)]
      obtain ⟨p, hp, hsb⟩ := hb.get (i := i) (a := bvs[i]) (List.getElem?_eq_getElem (by omega))
      obtain rfl : l[i] = p := by rw [List.getElem?_eq_getElem hi] at hp; exact Option.some.inj hp
      refine ⟨?_, get 0 (by omega), get 1 (by omega), get 3 (by omega), get 4 (by omega), get 5 (by omega), hsb.same e⟩
      unfold indexAddrV
      simp only [hu, natOf_int, hs]
      rw [if_pos (by omega)]
  | _ => subst r0; cases r
theorem reads_al {h : Heap} {f : Nat} {cs : List Value} {d : DT} (x : Reads Tryd.prog h f 83 cs d) : ∃ p bv, cs = alC p bv ∧ SB h bv p.b ∧ p.num < 2 ^ 64 ∧ p.to < 2 ^ 64 := by
  obtain ⟨g, l, rfl, hlen, ha⟩ := reads_struct Tryd.underlying83 x
  rw [show Tryd.prog.cellsOf 83 = 6 by kernel_rfl] at hlen
  obtain ⟨c0, c1, c2, c3, c4, c5, rfl⟩ : ∃ c0 c1 c2 c3 c4 c5, cs = [c0, c1, c2, c3, c4, c5] := by
    match cs, hlen with
    | [a, b, c, d, e, f], _ => exact ⟨a, b, c, d, e, f, rfl⟩
  have h0 : Tryd.prog.cellsOf 3 = 1 := by kernel_rfl
  have h1 : Tryd.prog.cellsOf 23 = 1 := by kernel_rfl
  have h3 : Tryd.prog.cellsOf 40 = 1 := by kernel_rfl
  cases ha with
  | cons a0 ha => cases ha with
    | cons a1 ha => cases ha with
      | cons a2 ha => cases ha with
        | cons a3 ha => cases ha with
          | cons a4 ha => cases ha with
            | cons a5 ha =>
            cases ha
            simp only [h0, h1, h3] at a0 a1 a2 a3 a4 a5
            obtain ⟨z, _, z2, z3⟩ := reads_int (k := .i64) (by kernel_rfl) a0
            obtain ⟨u, _, u2, u3⟩ := reads_int (k := .i64) (by kernel_rfl) a1
            obtain ⟨w, _, w2, w3⟩ := reads_int (k := .i64) (by kernel_rfl) a2
            obtain ⟨y, _, y2, y3⟩ := reads_int (k := .u64) (by kernel_rfl) a3
            obtain ⟨t, _, t2, t3⟩ := reads_int (k := .u64) (by kernel_rfl) a4
            obtain ⟨q, l', v, css, _, e2, e3, e4, e5⟩ := reads_slice (e := 5) (by kernel_rfl) a5
            obtain ⟨zs, g1, g2, g3⟩ := reads_ints (k := .u8) (by kernel_rfl) e4
            obtain ⟨bs, b1, b2⟩ := ints_bytes zs g3
            rw [show Tryd.prog.cellsOf 5 = 1 by kernel_rfl, g2, b2, ← g1, ← b1] at e3
            simp only [List.drop_zero, List.drop_succ_cons, List.take_succ_cons, List.take_zero, List.cons.injEq, and_true] at z2 u2 w2 y2 t2 e2
            subst z2 u2 w2 y2 t2 e2
            have hy := wf_nat rfl y3
            have ht := wf_nat rfl t3
            simp only [IntKind.bits] at hy ht
            refine ⟨⟨z, u, w, y.toNat, t.toNat, bs⟩, c5, ?_, e3, by show y.toNat < 2 ^ 64; omega, by show t.toNat < 2 ^ 64; omega⟩
            unfold alC
            simp only
            rw [Int.toNat_of_nonneg hy.1, Int.toNat_of_nonneg ht.1]
theorem reads_als {h : Heap} {f : Nat} : ∀ {css : List (List Value)} {l : List DT}, All2 (fun c d => c.length = Tryd.prog.cellsOf 83 ∧ Reads Tryd.prog h f 83 c d) css l → ∃ (ps : List AL) (bvs : List Value), css.flatten = (List.zipWith alC ps bvs).flatten ∧ ps.length = l.length ∧ All2 (fun bv p => SB h bv p.b) bvs ps ∧ ∀ p ∈ ps, (p.num < 2 ^ 64 ∧ p.to < 2 ^ 64)
  | _, _, .nil => ⟨[], [], rfl, rfl, .nil, by simp⟩
  | _, _, .cons x q => by
    obtain ⟨ps, bvs, e, hl, a, b⟩ := reads_als q
    obtain ⟨p, bv, rfl, s, h1⟩ := reads_al x.2
    refine ⟨p :: ps, bv :: bvs, by simp [e], by simp [hl], .cons s a, fun y hy => ?_⟩
    rcases List.mem_cons.1 hy with rfl | hy
    · exact h1
    · exact b y hy
theorem Rd.als {h : Heap} {v : Value} {d : DT} (r : Rd Tryd.prog h 81 v d) : ∃ ps : List AL, SAl h v ps ∧ ∀ p ∈ ps, (p.num < 2 ^ 64 ∧ p.to < 2 ^ 64) := by
  obtain ⟨f, l, css, rfl, h1, h2, h3⟩ := r.slice (e := 83) (by kernel_rfl)
  obtain ⟨ps, bvs, e, hl, a, b⟩ := reads_als h2
  rw [show Tryd.prog.cellsOf 83 = 6 by kernel_rfl, e, ← hl] at h1
  exact ⟨ps, ⟨bvs, h1.row, a⟩, b⟩
end Go.Am
namespace Go.Am
open Go.Proofs
set_option maxRecDepth 100000
set_option linter.all false
attribute [local congr] obind_congr obH_congr cnd_congr chk_congr retK_congr codeK_congr
theorem ll_in {β : Type} {Q : Option β → Prop} {k : Ex → St → Option β} {es : List E3} {pl : Nat} {h : Heap} {a : Option Addr} {c : Nat} {v1 v5 v7 : Value} (I : LInv 0 es) (hw : wide es) (hlen : es.length < 2 ^ 40) (l0 : h.load1 pl 0 = some (.slice a es.length c)) (s : SE h (.slice a es.length c) es)
    (hk : ∀ y : Nat → Value, y 1 = v1 → y 5 = v5 → y 7 = v7 → Q (k .normal ⟨ar 187 y, h⟩)) :
    ∀ (mm j : Nat), es.length = j + mm → ∀ x : Nat → Value, x 1 = v1 → x 5 = v5 → x 7 = v7 → x 10 = .pointer (some ⟨pl, 0, none⟩) → x 11 = .int .i64 j → Q (lK c7_14 187 x h (blockK 2 k)) := by
  intro mm
  induction mm with
  | zero =>
    intro j hj x Ab Af Ah Ak Al
    rw [lK_eq]
    obtain rfl : j = es.length := by omega
    simp -implicitDefEqProofs (disch := omega) only [↓c7_14_eq, ↓c7_17_eq, dcT, dcF,Ak,Al, faL, ldEs, l0, lnEs, ↓cnd_true, ↓cnd_false, ↓Option.bind_some, ↓obH_some', bin_add, bin_sub, bin_mul, bin_lss, bin_leq, bin_gtr, bin_geq, bin_eql, bin_neq, un_not, un_neg, Option.bind_some, Option.bind_none, Option.map_some, cnd_true, cnd_false, pickV_true, pickV_false, gd_true, gd_false, gdV_true, gdV_false, gdH_true, gdH_false, gdS_true, gdS_false, wt_ff, wt_tt, wt_ft, wt_tf, wt_undef, obH_some', extractV_tuple, nilCheckV_ptr, againK_normal, againK_exit, againK_ret, blockK_normal, blockK_same, blockK_ret, seqK_normal, seqK_exit, seqK_ret, fin_done, if_true', if_false', Bool.not_true, Bool.not_false, idx0, idx1, idx2, idx3, idx4, chk_nil_l, chk_nil_r, done_nm, up_cons, up_nil, cond_true, cond_false, Nat.reduceBEq]
    refine hk _ ?_ ?_ ?_
    · exact Ab
    · exact Af
    · exact Ah
  | succ mm ih =>
    intro j hj x Ab Af Ah Ak Al
    rw [lK_eq]
    have hlt : j < es.length := by omega
    obtain ⟨b, o, hb, hbl, hix, hld⟩ := s.at' (t := 63) (el := 68) (by kernel_rfl) (by kernel_rfl) hlt
    obtain ⟨_, f0, _, f2⟩ := hld h rfl
    have hi := hix .i64
    have t64 := (hw es[j] (List.getElem_mem hlt)).2
    have hh := spec_Has es[j].t t64 0 h
    rw [I.here _ (List.getElem_mem hlt)] at hh
    have hwr : IntKind.wrap .i64 ((j : Int) + 1) = ((j + 1 : Nat) : Int) := by rw [wrap_i64] <;> omega
    by_cases ht : es[j].t = 0
    · have ht' : ((es[j].t : Nat) : Int) = 0 := by omega
      by_cases hn : j + 1 < es.length
      · obtain ⟨b2, o2, hb2, hbl2, hix2, hld2⟩ := s.at' (t := 63) (el := 68) (by kernel_rfl) (by kernel_rfl) hn
        obtain ⟨_, g0, _, g2⟩ := hld2 h rfl
        have hi2 := hix2 .i64
        have nx := I.next j hn ht
        simp -implicitDefEqProofs (disch := omega) only [↓c7_14_eq, ↓c7_17_eq, ↓c7_18_eq, ↓c7_21_eq, ↓c7_22_eq, ↓c7_25_eq, ↓c7_28_eq, ↓c7_29_eq, ↓d7_1_0, ↓d7_1_1, ↓d7_1_2, ↓d7_1_3, ↓d7_1_4, ↓d7_1_5, ↓d7_1_6, ↓d7_1_7, ↓d7_1_8, ↓d7_1_9, ↓d7_1_10, ↓d7_1_11, ↓d7_1_12, ↓d7_1_13, ↓d7_1_14, ↓d7_1_15, ↓d7_1_16, ↓d7_1_17, ↓d7_1_18, ↓d7_1_19, ↓d7_1_20, ↓d7_1_21, ↓d7_1_22, ↓d7_1_23, ↓d7_1_24, ↓d7_1_25, ↓d7_1_26, ↓d7_1_27, ↓d7_1_28, ↓d7_1_29, ↓d7_1_30, ↓d7_1_31, ↓d7_1_32, ↓d7_1_33, ↓d7_1_34, ↓d7_1_35, ↓d7_1_36, ↓d7_1_37, ↓d7_1_38, ↓d7_1_39, ↓d7_1_40, dcT, dcF,Ak,Al, faL, ldEs, l0, lnEs, hi, faE0, faE2, ldS, ldI, f0, f2, hh, hwr, hi2, g0, g2, nx, ↓cnd_true, ↓cnd_false, ↓Option.bind_some, ↓obH_some', bin_add, bin_sub, bin_mul, bin_lss, bin_leq, bin_gtr, bin_geq, bin_eql, bin_neq, un_not, un_neg, Option.bind_some, Option.bind_none, Option.map_some, cnd_true, cnd_false, pickV_true, pickV_false, gd_true, gd_false, gdV_true, gdV_false, gdH_true, gdH_false, gdS_true, gdS_false, wt_ff, wt_tt, wt_ft, wt_tf, wt_undef, obH_some', extractV_tuple, nilCheckV_ptr, againK_normal, againK_exit, againK_ret, blockK_normal, blockK_same, blockK_ret, seqK_normal, seqK_exit, seqK_ret, fin_done, if_true', if_false', Bool.not_true, Bool.not_false, idx0, idx1, idx2, idx3, idx4, chk_nil_l, chk_nil_r, done_nm, up_cons, up_nil, cond_true, cond_false, Nat.reduceBEq]
        refine ih (j + 1) (by omega) _ ?_ ?_ ?_ ?_ ?_
        · exact Ab
        · exact Af
        · exact Ah
        · exact Ak
        · rfl
      · simp -implicitDefEqProofs (disch := omega) only [↓c7_14_eq, ↓c7_17_eq, ↓c7_18_eq, ↓c7_21_eq, ↓c7_22_eq, ↓c7_25_eq, ↓c7_28_eq, ↓c7_29_eq, ↓d7_1_0, ↓d7_1_1, ↓d7_1_2, ↓d7_1_3, ↓d7_1_4, ↓d7_1_5, ↓d7_1_6, ↓d7_1_7, ↓d7_1_8, ↓d7_1_9, ↓d7_1_10, ↓d7_1_11, ↓d7_1_12, ↓d7_1_13, ↓d7_1_14, ↓d7_1_15, ↓d7_1_16, ↓d7_1_17, ↓d7_1_18, ↓d7_1_19, ↓d7_1_20, ↓d7_1_21, ↓d7_1_22, ↓d7_1_23, ↓d7_1_24, ↓d7_1_25, ↓d7_1_26, ↓d7_1_27, ↓d7_1_28, ↓d7_1_29, ↓d7_1_30, ↓d7_1_31, ↓d7_1_32, ↓d7_1_33, ↓d7_1_34, ↓d7_1_35, ↓d7_1_36, ↓d7_1_37, ↓d7_1_38, ↓d7_1_39, ↓d7_1_40, dcT, dcF,Ak,Al, faL, ldEs, l0, lnEs, hi, faE0, faE2, ldS, ldI, f0, f2, hh, hwr, ↓cnd_true, ↓cnd_false, ↓Option.bind_some, ↓obH_some', bin_add, bin_sub, bin_mul, bin_lss, bin_leq, bin_gtr, bin_geq, bin_eql, bin_neq, un_not, un_neg, Option.bind_some, Option.bind_none, Option.map_some, cnd_true, cnd_false, pickV_true, pickV_false, gd_true, gd_false, gdV_true, gdV_false, gdH_true, gdH_false, gdS_true, gdS_false, wt_ff, wt_tt, wt_ft, wt_tf, wt_undef, obH_some', extractV_tuple, nilCheckV_ptr, againK_normal, againK_exit, againK_ret, blockK_normal, blockK_same, blockK_ret, seqK_normal, seqK_exit, seqK_ret, fin_done, if_true', if_false', Bool.not_true, Bool.not_false, idx0, idx1, idx2, idx3, idx4, chk_nil_l, chk_nil_r, done_nm, up_cons, up_nil, cond_true, cond_false, Nat.reduceBEq]
        refine ih (j + 1) (by omega) _ ?_ ?_ ?_ ?_ ?_
        · exact Ab
        · exact Af
        · exact Ah
        · exact Ak
        · rfl
    · simp -implicitDefEqProofs (disch := omega) only [↓c7_14_eq, ↓c7_17_eq, ↓c7_18_eq, ↓c7_21_eq, ↓c7_22_eq, ↓c7_25_eq, ↓c7_28_eq, ↓c7_29_eq, ↓d7_1_0, ↓d7_1_1, ↓d7_1_2, ↓d7_1_3, ↓d7_1_4, ↓d7_1_5, ↓d7_1_6, ↓d7_1_7, ↓d7_1_8, ↓d7_1_9, ↓d7_1_10, ↓d7_1_11, ↓d7_1_12, ↓d7_1_13, ↓d7_1_14, ↓d7_1_15, ↓d7_1_16, ↓d7_1_17, ↓d7_1_18, ↓d7_1_19, ↓d7_1_20, ↓d7_1_21, ↓d7_1_22, ↓d7_1_23, ↓d7_1_24, ↓d7_1_25, ↓d7_1_26, ↓d7_1_27, ↓d7_1_28, ↓d7_1_29, ↓d7_1_30, ↓d7_1_31, ↓d7_1_32, ↓d7_1_33, ↓d7_1_34, ↓d7_1_35, ↓d7_1_36, ↓d7_1_37, ↓d7_1_38, ↓d7_1_39, ↓d7_1_40, dcT, dcF,Ak,Al, faL, ldEs, l0, lnEs, hi, faE0, faE2, ldS, ldI, f0, f2, hh, hwr, ↓cnd_true, ↓cnd_false, ↓Option.bind_some, ↓obH_some', bin_add, bin_sub, bin_mul, bin_lss, bin_leq, bin_gtr, bin_geq, bin_eql, bin_neq, un_not, un_neg, Option.bind_some, Option.bind_none, Option.map_some, cnd_true, cnd_false, pickV_true, pickV_false, gd_true, gd_false, gdV_true, gdV_false, gdH_true, gdH_false, gdS_true, gdS_false, wt_ff, wt_tt, wt_ft, wt_tf, wt_undef, obH_some', extractV_tuple, nilCheckV_ptr, againK_normal, againK_exit, againK_ret, blockK_normal, blockK_same, blockK_ret, seqK_normal, seqK_exit, seqK_ret, fin_done, if_true', if_false', Bool.not_true, Bool.not_false, idx0, idx1, idx2, idx3, idx4, chk_nil_l, chk_nil_r, done_nm, up_cons, up_nil, cond_true, cond_false, Nat.reduceBEq]
      refine ih (j + 1) (by omega) _ ?_ ?_ ?_ ?_ ?_
      · exact Ab
      · exact Af
      · exact Ah
      · exact Ak
      · rfl
theorem logB_pos {es : List E3} (h : es.length < 2 ^ 40) : 0 < (logB es).length := by
  unfold logB
  have : 0 < (putL es.length).length := by unfold putL; split <;> simp
  rw [List.length_append]
  omega
theorem ll_rest {β : Type} {Q : Option β → Prop} {k : Ex → St → Option β} {h : Heap} {p s : Nat} {n me : Int} {num : Nat} {es : List E3} {ns : List Nat} (l : LEn h p s n me num es ns) (I : LInv 0 es) (hw : wide es) (hlen : es.length < 2 ^ 30) {v1 v7 : Value}
    (hk : ∀ (h' : Heap) (y : Nat → Value), Same h h' → y 1 = v1 → y 5 = .pointer (some ⟨p, 0, none⟩) → y 7 = v7 → Q (k .normal ⟨ar 187 y, h'⟩))
    (x : Nat → Value) (Ab : x 1 = v1) (Af : x 5 = .pointer (some ⟨p, 0, none⟩)) (Ah : x 7 = v7) : Q (cK c7_11 187 x h k) := by
  obtain ⟨a, c, h1, q1, y1, s1⟩ := spec_Log l (by omega)
  obtain ⟨h2, t2, y2, g2, s2, _, l2⟩ := newLogT s1
  have g2' := g2 (Same.refl h2)
  obtain ⟨h3, q3, y3⟩ := spec_Good s2 hw (by omega)
  rw [I.good] at q3
  have g3' := g2 y3.same
  have s3 := Sl.same s2 y3.same
  obtain ⟨a4, c4, h4, q4, y4, r4⟩ := spec_Put18 s3 hw (by omega)
  have e4 : putE es = logB es := by unfold putE; rw [if_pos I.good]
  have lp := logB_pos (es := es) (by omega)
  rw [e4] at q4
  have ln4 : lenV Tryd.prog 40 (.slice a4 (logB es).length c4) h4 = some (.int .i64 ((logB es).length : Nat)) := by kernel_rfl
  have hne : ¬ (((logB es).length : Nat) : Int) = 0 := by omega
  simp -implicitDefEqProofs (disch := omega) only [↓c7_11_eq, dcT, dcF,Af, q1, alL, stL, t2, ldL, g2', q3, g3', q4, ln4, hne, decide_false, ↓cnd_true, ↓cnd_false, ↓Option.bind_some, ↓obH_some', bin_add, bin_sub, bin_mul, bin_lss, bin_leq, bin_gtr, bin_geq, bin_eql, bin_neq, un_not, un_neg, Option.bind_some, Option.bind_none, Option.map_some, cnd_true, cnd_false, pickV_true, pickV_false, gd_true, gd_false, gdV_true, gdV_false, gdH_true, gdH_false, gdS_true, gdS_false, wt_ff, wt_tt, wt_ft, wt_tf, wt_undef, obH_some', extractV_tuple, nilCheckV_ptr, againK_normal, againK_exit, againK_ret, blockK_normal, blockK_same, blockK_ret, seqK_normal, seqK_exit, seqK_ret, fin_done, if_true', if_false', Bool.not_true, Bool.not_false, idx0, idx1, idx2, idx3, idx4, chk_nil_l, chk_nil_r, done_nm, up_cons, up_nil, cond_true, cond_false, Nat.reduceBEq]
  have sm := ((y1.same.trans y2).trans y3.same).trans y4.same
  refine ll_in I hw (by omega) (pl := h1.blks.length) (a := a) (c := c) (v1 := v1) (v5 := .pointer (some ⟨p, 0, none⟩)) (v7 := v7) ?_ (Sl.same s3 y4.same) (fun y e1 e5 e7 => hk h4 y sm e1 e5 e7) es.length 0 (by omega) _ ?_ ?_ ?_ ?_ ?_
  · have hb : h1.blks.length < h2.blks.length := by
      rcases Nat.lt_or_ge h1.blks.length h2.blks.length with hh | hh
      · exact hh
      · unfold Heap.load1 at l2
        simp [Heap.cells?, List.getElem?_eq_none hh] at l2
    unfold Heap.load1 Heap.cells? at l2 ⊢
    rw [(y3.same.trans y4.same).2 _ hb]
    exact l2
  · exact Ab
  · exact Af
  · exact Ah
  · rfl
  · rfl
end Go.Am
namespace Go.Am
open Go.Proofs
set_option maxRecDepth 100000
set_option linter.all false
attribute [local congr] obind_congr obH_congr cnd_congr chk_congr retK_congr codeK_congr
theorem hasB_sendT (n : Nat) (hn : n ≤ 16) (to : Nat) : hasB (sendT n 0 to) 0 = false := by
  have h := hasB_outMe (allN n) 0 (allN_lt n (by omega)) (by omega) (by omega)
  unfold sendT
  unfold hasB at h ⊢
  rw [Nat.testBit_and]
  cases hb : (outB (allN n) (ofN 0)).testBit (0 : Int).toNat with
  | false => simp
  | true => rw [hb] at h; simp at h
theorem sendT_le (n : Nat) (me : Int) (to : Nat) : sendT n me to ≤ to := Nat.and_le_left
theorem wide_add' {es : List E3} {x : E3} (w : wide es) (h1 : x.n < 2 ^ 64) (h2 : x.t < 2 ^ 64) : wide (addE es x) := fun e he => by
  rcases mem_addE he with he | rfl
  · exact w e he
  · exact ⟨h1, h2⟩
theorem wide_send {es : List E3} (w : wide es) (me : Int) (num t : Nat) (h1 : num + 1 < 2 ^ 64) (h2 : t < 2 ^ 64) : wide (sendLog es me num t) := wide_purge (wide_add' (wide_lessE w) h1 h2)
theorem wide_take {es g : List E3} (w : wide es) (wg : wide g) (me fr : Int) (k to : Nat) (h1 : k < 2 ^ 64) (h2 : to < 2 ^ 64) : wide (takeLog es me fr k to g) := wide_purge (wide_lessE (wide_join w (wide_lessE (wide_add' wg h1 h2))))
theorem HMod.lows {S : Nat → Prop} {h1 h h' : Heap} (m : HMod S h h') (e : Same h1 h) (hS : ∀ b, b < h1.blks.length → ¬ S b) : Same h1 h' :=
  ⟨Nat.le_trans e.1 m.len, fun b hb => (m.old b (Nat.lt_of_lt_of_le hb e.1) (hS b hb)).trans (e.2 b hb)⟩
theorem ll_loop {h0 h1 : Heap} {n : Nat} {v : Value} {l : List AL} (hn0 : 1 ≤ n) (hn : n ≤ 8) (hl : l.length ≤ 30) (hw : ∀ p ∈ l, p.num < 2 ^ 64 ∧ p.to < 2 ^ 64) (sl : SAl h1 v l) :
    ∀ (mm i : Nat) (h : Heap) (num : Nat) (es : List E3) (ns : List Nat), l.length = i + mm → Same h1 h → LEn h (h1.blks.length + 1) h1.blks.length n (0 : Int) num es ns → ns.length = n → LInv 0 es → wide es → es.length ≤ 400 * i → num ≤ i →
    ∀ x : Nat → Value, x 1 = v → x 5 = .pointer (some ⟨h1.blks.length + 1, 0, none⟩) → x 7 = .int .i64 i →
    ∃ h', lK c7_1 187 x h (blockK 0 (sK c7_2 (retK Tryd.f7 Tryd.prog h0))) = some (.bool true, h') := by
  intro mm
  induction mm with
  | zero =>
    intro i h num es ns hi sm L hnl I we hle hnum x Ab Af Ah
    rw [lK_eq]
    obtain rfl : i = l.length := by omega
    have ln := (sl.same sm).len
    simp -implicitDefEqProofs (disch := omega) only [↓c7_1_eq, ↓c7_2_eq, ↓c7_3_eq, dcT, dcF,Ab,Ah, ln, ↓ret7, ↓cnd_true, ↓cnd_false, ↓Option.bind_some, ↓obH_some', bin_add, bin_sub, bin_mul, bin_lss, bin_leq, bin_gtr, bin_geq, bin_eql, bin_neq, un_not, un_neg, Option.bind_some, Option.bind_none, Option.map_some, cnd_true, cnd_false, pickV_true, pickV_false, gd_true, gd_false, gdV_true, gdV_false, gdH_true, gdH_false, gdS_true, gdS_false, wt_ff, wt_tt, wt_ft, wt_tf, wt_undef, obH_some', extractV_tuple, nilCheckV_ptr, againK_normal, againK_exit, againK_ret, blockK_normal, blockK_same, blockK_ret, seqK_normal, seqK_exit, seqK_ret, fin_done, if_true', if_false', Bool.not_true, Bool.not_false, idx0, idx1, idx2, idx3, idx4, chk_nil_l, chk_nil_r, done_nm, up_cons, up_nil, cond_true, cond_false, Nat.reduceBEq]
    exact ⟨_, rfl⟩
  | succ mm ih =>
    intro i h num es ns hi sm L hnl I we hle hnum x Ab Af Ah
    rw [lK_eq]
    have hlt : i < l.length := by omega
    have ln := (sl.same sm).len
    obtain ⟨b, o, bv, hat⟩ := sl.at hlt
    have hp := hw l[i] (List.getElem_mem hlt)
    generalize l[i] = p at hat hp
    obtain ⟨p0, pf, pa, pn, pt, pb⟩ := p
    have A := hat h sm
    have a0 := A.at_
    have l0 := A.l0
    have l1 := A.l1
    have l3 := A.l3
    have l4 := A.l4
    have l5 := A.l5
    have lb : ∀ h', Same h1 h' → lenV Tryd.prog 40 bv h' = some (.int .i64 pb.length) := fun h' e => (hat h' e).sb.row.len_eq etB.under
    have lbh := lb h sm
    simp only at l0 l1 l3 l4 l5 hp
    have hwr : IntKind.wrap .i64 ((i : Int) + 1) = ((i + 1 : Nat) : Int) := by rw [wrap_i64] <;> omega
    by_cases g1 : pb.length > 300
    · simp -implicitDefEqProofs (disch := omega) only [↓c7_1_eq, ↓c7_2_eq, ↓c7_3_eq, ↓c7_4_eq, ↓c7_5_eq, ↓c7_7_eq, ↓c7_8_eq, dcT, dcF,Ab,Ah, ln, a0, faAl5, ldB, l5, lbh, ↓ret7, ↓cnd_true, ↓cnd_false, ↓Option.bind_some, ↓obH_some', bin_add, bin_sub, bin_mul, bin_lss, bin_leq, bin_gtr, bin_geq, bin_eql, bin_neq, un_not, un_neg, Option.bind_some, Option.bind_none, Option.map_some, cnd_true, cnd_false, pickV_true, pickV_false, gd_true, gd_false, gdV_true, gdV_false, gdH_true, gdH_false, gdS_true, gdS_false, wt_ff, wt_tt, wt_ft, wt_tf, wt_undef, obH_some', extractV_tuple, nilCheckV_ptr, againK_normal, againK_exit, againK_ret, blockK_normal, blockK_same, blockK_ret, seqK_normal, seqK_exit, seqK_ret, fin_done, if_true', if_false', Bool.not_true, Bool.not_false, idx0, idx1, idx2, idx3, idx4, chk_nil_l, chk_nil_r, done_nm, up_cons, up_nil, cond_true, cond_false, Nat.reduceBEq]
      exact ⟨_, rfl⟩
    by_cases g2 : pt > 65535
    · simp -implicitDefEqProofs (disch := omega) only [↓c7_1_eq, ↓c7_2_eq, ↓c7_3_eq, ↓c7_4_eq, ↓c7_5_eq, ↓c7_7_eq, ↓c7_8_eq, dcT, dcF,Ab,Ah, ln, a0, faAl5, ldB, l5, lbh, faAl4, ldU64, l4, ↓ret7, ↓cnd_true, ↓cnd_false, ↓Option.bind_some, ↓obH_some', bin_add, bin_sub, bin_mul, bin_lss, bin_leq, bin_gtr, bin_geq, bin_eql, bin_neq, un_not, un_neg, Option.bind_some, Option.bind_none, Option.map_some, cnd_true, cnd_false, pickV_true, pickV_false, gd_true, gd_false, gdV_true, gdV_false, gdH_true, gdH_false, gdS_true, gdS_false, wt_ff, wt_tt, wt_ft, wt_tf, wt_undef, obH_some', extractV_tuple, nilCheckV_ptr, againK_normal, againK_exit, againK_ret, blockK_normal, blockK_same, blockK_ret, seqK_normal, seqK_exit, seqK_ret, fin_done, if_true', if_false', Bool.not_true, Bool.not_false, idx0, idx1, idx2, idx3, idx4, chk_nil_l, chk_nil_r, done_nm, up_cons, up_nil, cond_true, cond_false, Nat.reduceBEq]
      exact ⟨_, rfl⟩
    have nx : ∀ {h3 : Heap} {num' : Nat} {es' : List E3} {ns' : List Nat}, Same h1 h3 → LEn h3 (h1.blks.length + 1) h1.blks.length n (0 : Int) num' es' ns' → ns'.length = n → LInv 0 es' → wide es' → es'.length ≤ 400 * (i + 1) → num' ≤ i + 1 →
        ∀ y : Nat → Value, y 1 = v → y 5 = .pointer (some ⟨h1.blks.length + 1, 0, none⟩) → y 7 = .int .i64 i →
        ∃ h', cK c7_11 187 y h3 (blockK 1 (sK c7_6 (againK Tryd.prog (evC Tryd.prog) c7_1 (blockK 0 (sK c7_2 (retK Tryd.f7 Tryd.prog h0)))))) = some (.bool true, h') := by
      intro h3 num' es' ns' sm3 L3 hnl3 I3 we3 hle3 hnum3 y y1 y5 y7
      refine ll_rest (Q := fun r => ∃ h' : Heap, r = some (Value.bool true, h')) L3 I3 we3 (by omega) (fun h4 z sm4 z1 z5 z7 => ?_) y y1 y5 y7
      simp -implicitDefEqProofs (disch := omega) only [↓c7_6_eq, z7, hwr, ↓cnd_true, ↓cnd_false, ↓Option.bind_some, ↓obH_some', bin_add, bin_sub, bin_mul, bin_lss, bin_leq, bin_gtr, bin_geq, bin_eql, bin_neq, un_not, un_neg, Option.bind_some, Option.bind_none, Option.map_some, cnd_true, cnd_false, pickV_true, pickV_false, gd_true, gd_false, gdV_true, gdV_false, gdH_true, gdH_false, gdS_true, gdS_false, wt_ff, wt_tt, wt_ft, wt_tf, wt_undef, obH_some', extractV_tuple, nilCheckV_ptr, againK_normal, againK_exit, againK_ret, blockK_normal, blockK_same, blockK_ret, seqK_normal, seqK_exit, seqK_ret, fin_done, if_true', if_false', Bool.not_true, Bool.not_false, idx0, idx1, idx2, idx3, idx4, chk_nil_l, chk_nil_r, done_nm, up_cons, up_nil, cond_true, cond_false, Nat.reduceBEq]
      refine ih (i + 1) h4 num' es' ns' (by omega) (sm3.trans sm4) (L3.same sm4) hnl3 I3 we3 hle3 hnum3 _ ?_ ?_ ?_
      · exact z1
      · exact z5
      · rfl
    by_cases g3 : p0 = 0
    · have hst := hasB_sendT n (by omega) pt
      have hsl := sendT_le n 0 pt
      have hlen := sendLog_len es 0 num (sendT n 0 pt)
      obtain ⟨sv, h2, e2, m2, L2, _⟩ := spec_Send L (by omega) we (by omega) (by omega) pt (by omega) (by omega) (insOk_all (by rw [lessE_len]; omega))
      have I2 := inv_send I num (sendT n 0 pt) (by omega) (by omega) (by omega) hst
      have w2 := wide_send we 0 num (sendT n 0 pt) (by omega) (by omega)
      have sm2 : Same h1 h2 := m2.lows sm fun b hb e => by have e : b = h1.blks.length + 1 := e; omega
      simp -implicitDefEqProofs (disch := omega) only [↓c7_1_eq, ↓c7_3_eq, ↓c7_4_eq, ↓c7_5_eq, ↓c7_7_eq, ↓c7_8_eq, ↓c7_9_eq, ↓c7_10_eq, ↓c7_12_eq, ↓c7_13_eq, ↓c7_15_eq, dcT, dcF,Ab,Af,Ah, ln, a0, faAl5, ldB, l5, lbh, faAl4, ldU64, l4, faAl0, ldI, l0, e2, ↓cnd_true, ↓cnd_false, ↓Option.bind_some, ↓obH_some', bin_add, bin_sub, bin_mul, bin_lss, bin_leq, bin_gtr, bin_geq, bin_eql, bin_neq, un_not, un_neg, Option.bind_some, Option.bind_none, Option.map_some, cnd_true, cnd_false, pickV_true, pickV_false, gd_true, gd_false, gdV_true, gdV_false, gdH_true, gdH_false, gdS_true, gdS_false, wt_ff, wt_tt, wt_ft, wt_tf, wt_undef, obH_some', extractV_tuple, nilCheckV_ptr, againK_normal, againK_exit, againK_ret, blockK_normal, blockK_same, blockK_ret, seqK_normal, seqK_exit, seqK_ret, fin_done, if_true', if_false', Bool.not_true, Bool.not_false, idx0, idx1, idx2, idx3, idx4, chk_nil_l, chk_nil_r, done_nm, up_cons, up_nil, cond_true, cond_false, Nat.reduceBEq]
      refine nx sm2 L2 hnl I2 w2 (by omega) (by omega) _ ?_ ?_ ?_
      · exact Ab
      · exact Af
      · exact Ah
    · have lv := A.sb
      have nv : ∀ q, h1.blks.length ≤ q → blockOf bv ≠ some q := fun q hq e => by have := Sl.lt (hat h1 (Same.refl _)).sb e; omega
      cases hc : canE n 0 ns pf pn pb with
      | false =>
        obtain ⟨h2, e2, y2⟩ := spec_TakeNo L pf pn pt lv (by show pb.length < _; omega) hc
        have L2 := L.same y2.same
        obtain ⟨wa, wc, h3, e3, y3, w3⟩ := spec_Seen L2
        have sm3 := (sm.trans y2.same).trans y3.same
        simp -implicitDefEqProofs (disch := omega) only [↓c7_1_eq, ↓c7_3_eq, ↓c7_4_eq, ↓c7_5_eq, ↓c7_7_eq, ↓c7_8_eq, ↓c7_9_eq, ↓c7_10_eq, ↓c7_12_eq, ↓c7_13_eq, ↓c7_16_eq, ↓c7_19_eq, ↓c7_20_eq, ↓c7_23_eq, ↓c7_24_eq, ↓c7_26_eq, ↓c7_27_eq, ↓d7_0_0, ↓d7_0_1, ↓d7_0_2, ↓d7_0_3, ↓d7_0_4, ↓d7_0_5, ↓d7_0_6, ↓d7_0_7, ↓d7_0_8, ↓d7_0_9, ↓d7_0_10, ↓d7_0_11, ↓d7_0_12, ↓d7_0_13, ↓d7_0_14, ↓d7_0_15, ↓d7_0_16, ↓d7_0_17, ↓d7_0_18, ↓d7_0_19, ↓d7_0_20, ↓d7_0_21, ↓d7_0_22, ↓d7_0_23, ↓d7_0_24, ↓d7_0_25, ↓d7_0_26, ↓d7_0_27, ↓d7_0_28, ↓d7_0_29, ↓d7_0_30, ↓d7_0_31, ↓d7_0_32, ↓d7_0_33, ↓d7_0_34, ↓d7_0_35, dcT, dcF,Ab,Af,Ah, ln, a0, faAl5, ldB, l5, lbh, faAl4, ldU64, l4, faAl0, faAl1, faAl3, ldI, l0, l1, l3, e2, e3, ↓cnd_true, ↓cnd_false, ↓Option.bind_some, ↓obH_some', bin_add, bin_sub, bin_mul, bin_lss, bin_leq, bin_gtr, bin_geq, bin_eql, bin_neq, un_not, un_neg, Option.bind_some, Option.bind_none, Option.map_some, cnd_true, cnd_false, pickV_true, pickV_false, gd_true, gd_false, gdV_true, gdV_false, gdH_true, gdH_false, gdS_true, gdS_false, wt_ff, wt_tt, wt_ft, wt_tf, wt_undef, obH_some', extractV_tuple, nilCheckV_ptr, againK_normal, againK_exit, againK_ret, blockK_normal, blockK_same, blockK_ret, seqK_normal, seqK_exit, seqK_ret, fin_done, if_true', if_false', Bool.not_true, Bool.not_false, idx0, idx1, idx2, idx3, idx4, chk_nil_l, chk_nil_r, done_nm, up_cons, up_nil, cond_true, cond_false, Nat.reduceBEq]
        refine nx sm3 (L2.same y3.same) hnl I we (by omega) (by omega) _ ?_ ?_ ?_
        · exact Ab
        · exact Af
        · exact Ah
      | true =>
        have hc' := hc
        unfold canE at hc'
        cases hg : getP pb with
        | none => rw [hg] at hc'; cases hc'
        | some g =>
          rw [hg] at hc'
          simp only at hc'
          split at hc'
          · cases hc'
          · rename_i hb
            obtain ⟨f, rfl⟩ : ∃ f : Nat, pf = f := ⟨pf.toNat, by omega⟩
            have gl := getP_len pb
            rw [hg, Option.getD_some] at gl
            have hm : mayE ⟨(f : Nat), pn, pt⟩ = true := by
              unfold mayE
              simp only [Bool.and_eq_true, decide_eq_true_eq]
              omega
            have hlen := takeLog_len es 0 f pn pt g
            obtain ⟨h2, e2, m2, L2⟩ := spec_Take L (by omega) hnl we (by omega) (by omega) (f : Nat) pn pt hp.1 hp.2 lv (by show pb.length < _; omega) (nv _ (by omega)) (nv _ (by omega)) hg hc (insOk_all (by omega))
            have I2 := inv_take I (getP_good hg) (f : Nat) pn pt hm (by omega) (by omega)
            have w2 := wide_take we (getP_wide hg) 0 (f : Nat) pn pt hp.1 hp.2
            have sm2 : Same h1 h2 := m2.lows sm fun b hb e => by have e : b = h1.blks.length + 1 ∨ b = h1.blks.length := e; omega
            rw [Int.toNat_natCast] at L2
            have hnl2 : (ns.set f pn).length = n := by rw [List.length_set]; exact hnl
            obtain ⟨wa, wc, h3, e3, y3, w3⟩ := spec_Seen L2
            rw [hnl2] at e3 w3
            have sm3 := sm2.trans y3.same
            have B := hat h3 sm3
            have b1 := B.l1
            have b3 := B.l3
            simp only at b1 b3
            obtain ⟨ad, f1, f2⟩ := su_at w3 etV.under (i := f) (by rw [hnl2]; omega)
            have f3 : (ns.set f pn).getD f 0 = pn := by
              rw [List.getD_eq_getElem?_getD, List.getElem?_set_self (by omega)]; rfl
            rw [f3] at f2
            simp -implicitDefEqProofs (disch := omega) only [↓c7_1_eq, ↓c7_3_eq, ↓c7_4_eq, ↓c7_5_eq, ↓c7_7_eq, ↓c7_8_eq, ↓c7_9_eq, ↓c7_10_eq, ↓c7_12_eq, ↓c7_13_eq, ↓c7_16_eq, ↓c7_19_eq, ↓c7_20_eq, ↓c7_23_eq, ↓c7_24_eq, ↓c7_26_eq, ↓c7_27_eq, ↓d7_0_0, ↓d7_0_1, ↓d7_0_2, ↓d7_0_3, ↓d7_0_4, ↓d7_0_5, ↓d7_0_6, ↓d7_0_7, ↓d7_0_8, ↓d7_0_9, ↓d7_0_10, ↓d7_0_11, ↓d7_0_12, ↓d7_0_13, ↓d7_0_14, ↓d7_0_15, ↓d7_0_16, ↓d7_0_17, ↓d7_0_18, ↓d7_0_19, ↓d7_0_20, ↓d7_0_21, ↓d7_0_22, ↓d7_0_23, ↓d7_0_24, ↓d7_0_25, ↓d7_0_26, ↓d7_0_27, ↓d7_0_28, ↓d7_0_29, ↓d7_0_30, ↓d7_0_31, ↓d7_0_32, ↓d7_0_33, ↓d7_0_34, ↓d7_0_35, dcT, dcF,Ab,Af,Ah, ln, a0, faAl5, ldB, l5, lbh, faAl4, ldU64, l4, faAl0, faAl1, faAl3, ldI, l0, l1, l3, b1, b3, e2, e3, lnVec, f1, f2, ne_eq, eq_self, not_true_eq_false, decide_false, ↓cnd_true, ↓cnd_false, ↓Option.bind_some, ↓obH_some', bin_add, bin_sub, bin_mul, bin_lss, bin_leq, bin_gtr, bin_geq, bin_eql, bin_neq, un_not, un_neg, Option.bind_some, Option.bind_none, Option.map_some, cnd_true, cnd_false, pickV_true, pickV_false, gd_true, gd_false, gdV_true, gdV_false, gdH_true, gdH_false, gdS_true, gdS_false, wt_ff, wt_tt, wt_ft, wt_tf, wt_undef, obH_some', extractV_tuple, nilCheckV_ptr, againK_normal, againK_exit, againK_ret, blockK_normal, blockK_same, blockK_ret, seqK_normal, seqK_exit, seqK_ret, fin_done, if_true', if_false', Bool.not_true, Bool.not_false, idx0, idx1, idx2, idx3, idx4, chk_nil_l, chk_nil_r, done_nm, up_cons, up_nil, cond_true, cond_false, Nat.reduceBEq]
            refine nx sm3 (L2.same y3.same) hnl2 I2 w2 (by omega) (by omega) _ ?_ ?_ ?_
            · exact Ab
            · exact Af
            · exact Ah
theorem mlaw_LeanLogs (n : Int) (v : Value) (l : List AL) (hw : ∀ p ∈ l, p.num < 2 ^ 64 ∧ p.to < 2 ^ 64) (h : Heap) (sl : SAl h v l) : ∃ h', evC Tryd.prog 7 #[.int .i64 n, v] h = some (.bool true, h') := by
  rw [call7]
  obtain ⟨h1, e1,Ab⟩ := spec_awake19 (nm h)
  have sl1 : SAl h1 v l := (sl.same (sameNm h)).same Ab.same
  have ln := sl1.len
  by_cases g0 : n < 1
  · simp -implicitDefEqProofs (disch := omega) only [↓c7_0_eq, dcT, dcF, e1, ↓ret7, ↓cnd_true, ↓cnd_false, ↓Option.bind_some, ↓obH_some', bin_add, bin_sub, bin_mul, bin_lss, bin_leq, bin_gtr, bin_geq, bin_eql, bin_neq, un_not, un_neg, Option.bind_some, Option.bind_none, Option.map_some, cnd_true, cnd_false, pickV_true, pickV_false, gd_true, gd_false, gdV_true, gdV_false, gdH_true, gdH_false, gdS_true, gdS_false, wt_ff, wt_tt, wt_ft, wt_tf, wt_undef, obH_some', extractV_tuple, nilCheckV_ptr, againK_normal, againK_exit, againK_ret, blockK_normal, blockK_same, blockK_ret, seqK_normal, seqK_exit, seqK_ret, fin_done, if_true', if_false', Bool.not_true, Bool.not_false, idx0, idx1, idx2, idx3, idx4, chk_nil_l, chk_nil_r, done_nm, up_cons, up_nil, cond_true, cond_false, Nat.reduceBEq]
    exact ⟨_, rfl⟩
  by_cases g1 : n > 8
  · simp -implicitDefEqProofs (disch := omega) only [↓c7_0_eq, dcT, dcF, e1, ↓ret7, ↓cnd_true, ↓cnd_false, ↓Option.bind_some, ↓obH_some', bin_add, bin_sub, bin_mul, bin_lss, bin_leq, bin_gtr, bin_geq, bin_eql, bin_neq, un_not, un_neg, Option.bind_some, Option.bind_none, Option.map_some, cnd_true, cnd_false, pickV_true, pickV_false, gd_true, gd_false, gdV_true, gdV_false, gdH_true, gdH_false, gdS_true, gdS_false, wt_ff, wt_tt, wt_ft, wt_tf, wt_undef, obH_some', extractV_tuple, nilCheckV_ptr, againK_normal, againK_exit, againK_ret, blockK_normal, blockK_same, blockK_ret, seqK_normal, seqK_exit, seqK_ret, fin_done, if_true', if_false', Bool.not_true, Bool.not_false, idx0, idx1, idx2, idx3, idx4, chk_nil_l, chk_nil_r, done_nm, up_cons, up_nil, cond_true, cond_false, Nat.reduceBEq]
    exact ⟨_, rfl⟩
  by_cases g2 : l.length > 30
  · simp -implicitDefEqProofs (disch := omega) only [↓c7_0_eq, dcT, dcF, e1, ln, ↓ret7, ↓cnd_true, ↓cnd_false, ↓Option.bind_some, ↓obH_some', bin_add, bin_sub, bin_mul, bin_lss, bin_leq, bin_gtr, bin_geq, bin_eql, bin_neq, un_not, un_neg, Option.bind_some, Option.bind_none, Option.map_some, cnd_true, cnd_false, pickV_true, pickV_false, gd_true, gd_false, gdV_true, gdV_false, gdH_true, gdH_false, gdS_true, gdS_false, wt_ff, wt_tt, wt_ft, wt_tf, wt_undef, obH_some', extractV_tuple, nilCheckV_ptr, againK_normal, againK_exit, againK_ret, blockK_normal, blockK_same, blockK_ret, seqK_normal, seqK_exit, seqK_ret, fin_done, if_true', if_false', Bool.not_true, Bool.not_false, idx0, idx1, idx2, idx3, idx4, chk_nil_l, chk_nil_r, done_nm, up_cons, up_nil, cond_true, cond_false, Nat.reduceBEq]
    exact ⟨_, rfl⟩
  obtain ⟨n, rfl⟩ : ∃ k : Nat, n = k := ⟨n.toNat, by omega⟩
  obtain ⟨h2, e2,Ac, L⟩ := spec_leanNew n 0 (by omega) (by omega) (by omega) (by omega) h1
  simp -implicitDefEqProofs (disch := omega) only [↓c7_0_eq, dcT, dcF, e1, ln, e2, pnn, ne_eq, eq_self, not_true_eq_false, decide_false, ↓cnd_true, ↓cnd_false, ↓Option.bind_some, ↓obH_some', bin_add, bin_sub, bin_mul, bin_lss, bin_leq, bin_gtr, bin_geq, bin_eql, bin_neq, un_not, un_neg, Option.bind_some, Option.bind_none, Option.map_some, cnd_true, cnd_false, pickV_true, pickV_false, gd_true, gd_false, gdV_true, gdV_false, gdH_true, gdH_false, gdS_true, gdS_false, wt_ff, wt_tt, wt_ft, wt_tf, wt_undef, obH_some', extractV_tuple, nilCheckV_ptr, againK_normal, againK_exit, againK_ret, blockK_normal, blockK_same, blockK_ret, seqK_normal, seqK_exit, seqK_ret, fin_done, if_true', if_false', Bool.not_true, Bool.not_false, idx0, idx1, idx2, idx3, idx4, chk_nil_l, chk_nil_r, done_nm, up_cons, up_nil, cond_true, cond_false, Nat.reduceBEq]
  refine ll_loop (by omega) (by omega) (by omega) hw sl1 l.length 0 h2 0 [] (List.replicate n 0) (by omega) Ac.same L (List.length_replicate ..) ⟨by decide, (by simp), (by simp)⟩ (by intro e he; cases he) (by simp) (by omega) _ ?_ ?_ ?_
  all_goals rfl
theorem law_LeanLogs (h : Heap) (vs : List Value) (dd : List DT) (r : RdAll Tryd.prog h [3, 81] vs dd) : ∃ h', evC Tryd.prog 7 vs.toArray h = some (.bool true, h') := by
  obtain ⟨v0, d0, vs', ds', rfl, rfl, r0, r1⟩ := r.cons_inv
  obtain ⟨v1, d1, vs', ds', rfl, rfl, ra, r2⟩ := r1.cons_inv
  obtain ⟨rfl, rfl⟩ := r2.nil_inv
  obtain ⟨a, rfl, _⟩ := r0.i64 (by kernel_rfl)
  obtain ⟨l, sl, hw⟩ := ra.als
  exact mlaw_LeanLogs a v1 l hw h sl
end Go.Am
namespace Go.Am.Z
open Go.Proofs
set_option maxRecDepth 100000
set_option linter.all false
@[reducible] def xt0 : Xt Tryd.prog := ⟨fun _ => none⟩
@[reducible] def gl0 : Gl Tryd.prog := ⟨none⟩
attribute [local instance] xt0 gl0
theorem xm0 : XtM Tryd.prog := ⟨fun _ _ h => by cases h⟩
theorem xo0 : XtOk Tryd.prog := ⟨fun _ _ h => (by cases h), fun _ _ _ h => (by cases h)⟩
attribute [local instance] xm0 xo0
section
variable {β : Type}
noncomputable abbrev ev : Ev := evC Tryd.prog
noncomputable abbrev cK (c : Code) (n : Nat) (x : Nat → Value) (h : Heap) (k : Ex → St → Option β) : Option β := codeK Tryd.prog (evC Tryd.prog) loopL c ⟨ar n x, h⟩ k
noncomputable abbrev lK (c : Code) (n : Nat) (x : Nat → Value) (h : Heap) (k : Ex → St → Option β) : Option β := loopK Tryd.prog (evC Tryd.prog) c ⟨ar n x, h⟩ k
noncomputable abbrev sK (c : Code) (k : Ex → St → Option β) : Ex → St → Option β := seqK Tryd.prog (evC Tryd.prog) c k
noncomputable abbrev rD (ops : Array Oper) (j n : Nat) (x : Nat → Value) (h : Heap) (r m : List Nat) (k : St → Option β) : Option β := regD Tryd.prog (evC Tryd.prog) ops j ⟨ar n x, h⟩ r m k
variable (x : Nat → Value) (h : Heap) (k : Ex → St → Option β) (r m : List Nat) (g : Heap)
noncomputable def c89_0 : Code := bodyC Tryd.f89 []
theorem c89_0_eq : cK c89_0 6 x h k =
(bn .neq 3 (x 0) (x 0)).bind fun v0 =>
k .ret ⟨ar 6 (up x [(2,v0),(3,(x 0)),(4,(x 0)),(5,v0)]), h⟩ := by kernel_rfl
theorem call89 (a0 : Value) : evC Tryd.prog 89 #[a0] h = cK c89_0 6 (up un [(0,a0)]) (nm h) (retK Tryd.f89 Tryd.prog h) :=
  (evC_call 89 Tryd.f89 c89_0 Tryd.func89 (by kernel_rfl) #[a0] h).trans (by kernel_rfl)
theorem ret89 : retK Tryd.f89 Tryd.prog g .ret ⟨ar 6 x, h⟩ = fin g (some (x 2)) h := by kernel_rfl
noncomputable def c90_0 : Code := bodyC Tryd.f90 []
theorem c90_0_eq : cK c90_0 6 x h k =
(bn .neq 23 (x 0) (x 0)).bind fun v0 =>
k .ret ⟨ar 6 (up x [(2,v0),(3,(x 0)),(4,(x 0)),(5,v0)]), h⟩ := by kernel_rfl
theorem call90 (a0 : Value) : evC Tryd.prog 90 #[a0] h = cK c90_0 6 (up un [(0,a0)]) (nm h) (retK Tryd.f90 Tryd.prog h) :=
  (evC_call 90 Tryd.f90 c90_0 Tryd.func90 (by kernel_rfl) #[a0] h).trans (by kernel_rfl)
theorem ret90 : retK Tryd.f90 Tryd.prog g .ret ⟨ar 6 x, h⟩ = fin g (some (x 2)) h := by kernel_rfl
noncomputable def c76_0 : Code := bodyC Tryd.f76 []
theorem c76_0_eq : cK c76_0 20 x h k =
obH (ev 89 #[x 0] h) fun v0 h1 =>
obH (ev 89 #[x 1] h1) fun v2 h3 =>
cnd v0 (
cnd v2 (
k .ret ⟨ar 20 (up x [(4,(.int .i64 0)),(5,v0),(6,v2),(7,(x 0)),(8,v0),(9,(x 1)),(10,v2),(11,v0),(12,v2)]), h3⟩) (
k .ret ⟨ar 20 (up x [(4,(.int .i64 (-1))),(5,v0),(6,v2),(7,(x 0)),(8,v0),(9,(x 1)),(10,v2),(11,v0),(12,v2)]), h3⟩)) (
cnd v2 (
k .ret ⟨ar 20 (up x [(4,(.int .i64 1)),(5,v0),(6,v2),(7,(x 0)),(8,v0),(9,(x 1)),(10,v2),(11,v0),(13,v2)]), h3⟩) (
(bn .lss 3 (x 0) (x 1)).bind fun v4 =>
cnd v4 (
k .ret ⟨ar 20 (up x [(4,(.int .i64 (-1))),(5,v0),(6,v2),(7,(x 0)),(8,v0),(9,(x 1)),(10,v2),(11,v0),(13,v2),(14,(x 0)),(15,(x 1)),(16,v4)]), h3⟩) (
(bn .gtr 3 (x 0) (x 1)).bind fun v5 =>
cnd v5 (
k .ret ⟨ar 20 (up x [(4,(.int .i64 1)),(5,v0),(6,v2),(7,(x 0)),(8,v0),(9,(x 1)),(10,v2),(11,v0),(13,v2),(14,(x 0)),(15,(x 1)),(16,v4),(17,(x 0)),(18,(x 1)),(19,v5)]), h3⟩) (
k .ret ⟨ar 20 (up x [(4,(.int .i64 0)),(5,v0),(6,v2),(7,(x 0)),(8,v0),(9,(x 1)),(10,v2),(11,v0),(13,v2),(14,(x 0)),(15,(x 1)),(16,v4),(17,(x 0)),(18,(x 1)),(19,v5)]), h3⟩)))) := by kernel_rfl
theorem call76 (a0 a1 : Value) : evC Tryd.prog 76 #[a0,a1] h = cK c76_0 20 (up un [(0,a0),(1,a1)]) (nm h) (retK Tryd.f76 Tryd.prog h) :=
  (evC_call 76 Tryd.f76 c76_0 Tryd.func76 (by kernel_rfl) #[a0,a1] h).trans (by kernel_rfl)
theorem ret76 : retK Tryd.f76 Tryd.prog g .ret ⟨ar 20 x, h⟩ = fin g (some (x 4)) h := by kernel_rfl
noncomputable def c77_0 : Code := bodyC Tryd.f77 []
theorem c77_0_eq : cK c77_0 20 x h k =
obH (ev 90 #[x 0] h) fun v0 h1 =>
obH (ev 90 #[x 1] h1) fun v2 h3 =>
cnd v0 (
cnd v2 (
k .ret ⟨ar 20 (up x [(4,(.int .i64 0)),(5,v0),(6,v2),(7,(x 0)),(8,v0),(9,(x 1)),(10,v2),(11,v0),(12,v2)]), h3⟩) (
k .ret ⟨ar 20 (up x [(4,(.int .i64 (-1))),(5,v0),(6,v2),(7,(x 0)),(8,v0),(9,(x 1)),(10,v2),(11,v0),(12,v2)]), h3⟩)) (
cnd v2 (
k .ret ⟨ar 20 (up x [(4,(.int .i64 1)),(5,v0),(6,v2),(7,(x 0)),(8,v0),(9,(x 1)),(10,v2),(11,v0),(13,v2)]), h3⟩) (
(bn .lss 23 (x 0) (x 1)).bind fun v4 =>
cnd v4 (
k .ret ⟨ar 20 (up x [(4,(.int .i64 (-1))),(5,v0),(6,v2),(7,(x 0)),(8,v0),(9,(x 1)),(10,v2),(11,v0),(13,v2),(14,(x 0)),(15,(x 1)),(16,v4)]), h3⟩) (
(bn .gtr 23 (x 0) (x 1)).bind fun v5 =>
cnd v5 (
k .ret ⟨ar 20 (up x [(4,(.int .i64 1)),(5,v0),(6,v2),(7,(x 0)),(8,v0),(9,(x 1)),(10,v2),(11,v0),(13,v2),(14,(x 0)),(15,(x 1)),(16,v4),(17,(x 0)),(18,(x 1)),(19,v5)]), h3⟩) (
k .ret ⟨ar 20 (up x [(4,(.int .i64 0)),(5,v0),(6,v2),(7,(x 0)),(8,v0),(9,(x 1)),(10,v2),(11,v0),(13,v2),(14,(x 0)),(15,(x 1)),(16,v4),(17,(x 0)),(18,(x 1)),(19,v5)]), h3⟩)))) := by kernel_rfl
theorem call77 (a0 a1 : Value) : evC Tryd.prog 77 #[a0,a1] h = cK c77_0 20 (up un [(0,a0),(1,a1)]) (nm h) (retK Tryd.f77 Tryd.prog h) :=
  (evC_call 77 Tryd.f77 c77_0 Tryd.func77 (by kernel_rfl) #[a0,a1] h).trans (by kernel_rfl)
theorem ret77 : retK Tryd.f77 Tryd.prog g .ret ⟨ar 20 x, h⟩ = fin g (some (x 4)) h := by kernel_rfl
noncomputable def c75_0 : Code := bodyC Tryd.f75 []
noncomputable def c75_1 : Code := bodyC Tryd.f75 [true, true, false, true, false, false]
noncomputable def c75_2 : Code := bodyC Tryd.f75 [true, true, true]
theorem c75_0_eq : cK c75_0 18 x h k =
(ln 41 (x 0) h).bind fun v0 =>
lK c75_1 18 (up x [(2,(.int .i64 0)),(3,(.int .i64 0)),(6,(x 0)),(7,v0),(8,(.int .i64 0))]) h (blockK 0 (sK c75_2 k)) := by kernel_rfl
theorem c75_1_eq : cK c75_1 18 x h k =
(bn .lss 3 (x 8) (x 7)).bind fun v1 =>
cnd v1 (
(ia 41 (x 6) (x 8)).bind fun v2 =>
(ld 3 v2 h).bind fun v3 =>
(bn .neq 3 v3 (x 3)).bind fun v4 =>
cnd v4 (
k .ret ⟨ar 18 (up x [(2,v3),(5,v3),(9,v1),(10,v2),(11,v3),(12,v3),(13,(x 3)),(14,v4),(15,v3)]), h⟩) (
(bn .add 3 (x 8) (.int .i64 1)).bind fun v5 =>
k .normal ⟨ar 18 (up x [(5,v3),(8,v5),(9,v1),(10,v2),(11,v3),(12,v3),(13,(x 3)),(14,v4),(16,v5)]), h⟩)) (
k (.exit 0) ⟨ar 18 (up x [(9,v1)]), h⟩) := by kernel_rfl
theorem c75_2_eq : cK c75_2 18 x h k =
k .ret ⟨ar 18 (up x [(2,(x 3)),(17,(x 3))]), h⟩ := by kernel_rfl
theorem call75 (a0 : Value) : evC Tryd.prog 75 #[a0] h = cK c75_0 18 (up un [(0,a0)]) (nm h) (retK Tryd.f75 Tryd.prog h) :=
  (evC_call 75 Tryd.f75 c75_0 Tryd.func75 (by kernel_rfl) #[a0] h).trans (by kernel_rfl)
theorem ret75 : retK Tryd.f75 Tryd.prog g .ret ⟨ar 18 x, h⟩ = fin g (some (x 2)) h := by kernel_rfl
noncomputable def c55_0 : Code := bodyC Tryd.f55 []
theorem c55_0_eq : cK c55_0 17 x h k =
obH (boxV Tryd.prog 68 (x 0) h) fun v0 h1 =>
obH (boxV Tryd.prog 68 (x 1) h1) fun v2 h3 =>
(fa 68 v0 0).bind fun v4 =>
(ld 3 v4 h3).bind fun v5 =>
(fa 68 v2 0).bind fun v6 =>
(ld 3 v6 h3).bind fun v7 =>
obH (ev 76 #[v5,v7] (nm h3)) fun v8 h9 =>
(fa 68 v0 1).bind fun v10 =>
(ld 23 v10 (am h9 h3)).bind fun v11 =>
(fa 68 v2 1).bind fun v12 =>
(ld 23 v12 (am h9 h3)).bind fun v13 =>
obH (ev 77 #[v11,v13] (am h9 h3)) fun v14 h15 =>
obH (buildSliceV Tryd.prog 41 2 #[(0, v8), (1, v14)] h15) fun v16 h17 =>
obH (ev 75 #[v16] h17) fun v18 h19 =>
chk ((rb v12) ++ ((rb v10) ++ [])) (h9.mods ++ []) (
k .ret ⟨ar 17 (up x [(2,v0),(3,v2),(4,v18),(5,v4),(6,v5),(7,v6),(8,v7),(9,v8),(10,v10),(11,v11),(12,v12),(13,v13),(14,v14),(15,v16),(16,v18)]), h19⟩) := by kernel_rfl
theorem call55 (a0 a1 : Value) : evC Tryd.prog 55 #[a0,a1] h = cK c55_0 17 (up un [(0,a0),(1,a1)]) (nm h) (retK Tryd.f55 Tryd.prog h) :=
  (evC_call 55 Tryd.f55 c55_0 Tryd.func55 (by kernel_rfl) #[a0,a1] h).trans (by kernel_rfl)
theorem ret55 : retK Tryd.f55 Tryd.prog g .ret ⟨ar 17 x, h⟩ = fin g (some (x 4)) h := by kernel_rfl
end
attribute [local congr] obind_congr obH_congr cnd_congr chk_congr retK_congr codeK_congr
theorem spec_isNaNI (a : Int) (h : Heap) : evC Tryd.prog 89 #[.int .i64 a] h = some (.bool false, h) := by
  rw [call89]
  simp -implicitDefEqProofs only [↓c89_0_eq, eq_self, ne_eq, not_true_eq_false, decide_false, ↓ret89, ↓cnd_true, ↓cnd_false, ↓Option.bind_some, ↓obH_some', bin_add, bin_sub, bin_mul, bin_lss, bin_leq, bin_gtr, bin_geq, bin_eql, bin_neq, un_not, un_neg, Option.bind_some, Option.bind_none, Option.map_some, cnd_true, cnd_false, pickV_true, pickV_false, gd_true, gd_false, gdV_true, gdV_false, gdH_true, gdH_false, gdS_true, gdS_false, wt_ff, wt_tt, wt_ft, wt_tf, wt_undef, obH_some', extractV_tuple, nilCheckV_ptr, againK_normal, againK_exit, againK_ret, blockK_normal, blockK_same, blockK_ret, seqK_normal, seqK_exit, seqK_ret, fin_done, if_true', if_false', Bool.not_true, Bool.not_false, idx0, idx1, idx2, idx3, idx4, chk_nil_l, chk_nil_r, done_nm, up_cons, up_nil, cond_true, cond_false, Nat.reduceBEq]
theorem spec_isNaNW (a : Int) (h : Heap) : evC Tryd.prog 90 #[.int .u64 a] h = some (.bool false, h) := by
  rw [call90]
  simp -implicitDefEqProofs only [↓c90_0_eq, eq_self, ne_eq, not_true_eq_false, decide_false, ↓ret90, ↓cnd_true, ↓cnd_false, ↓Option.bind_some, ↓obH_some', bin_add, bin_sub, bin_mul, bin_lss, bin_leq, bin_gtr, bin_geq, bin_eql, bin_neq, un_not, un_neg, Option.bind_some, Option.bind_none, Option.map_some, cnd_true, cnd_false, pickV_true, pickV_false, gd_true, gd_false, gdV_true, gdV_false, gdH_true, gdH_false, gdS_true, gdS_false, wt_ff, wt_tt, wt_ft, wt_tf, wt_undef, obH_some', extractV_tuple, nilCheckV_ptr, againK_normal, againK_exit, againK_ret, blockK_normal, blockK_same, blockK_ret, seqK_normal, seqK_exit, seqK_ret, fin_done, if_true', if_false', Bool.not_true, Bool.not_false, idx0, idx1, idx2, idx3, idx4, chk_nil_l, chk_nil_r, done_nm, up_cons, up_nil, cond_true, cond_false, Nat.reduceBEq]
def cmpI (a b : Int) : Int := if a < b then -1 else if b < a then 1 else 0
theorem spec_CmpI (a b : Int) (h : Heap) : evC Tryd.prog 76 #[.int .i64 a, .int .i64 b] h = some (.int .i64 (cmpI a b), h) := by
  rw [call76]
  have e1 := fun h => spec_isNaNI a h
  have e2 := fun h => spec_isNaNI b h
  unfold cmpI
  by_cases h1 : a < b
  · rw [if_pos h1]
    simp -implicitDefEqProofs (disch := omega) only [↓c76_0_eq, dcT, dcF, e1, e2, ↓ret76, ↓cnd_true, ↓cnd_false, ↓Option.bind_some, ↓obH_some', bin_add, bin_sub, bin_mul, bin_lss, bin_leq, bin_gtr, bin_geq, bin_eql, bin_neq, un_not, un_neg, Option.bind_some, Option.bind_none, Option.map_some, cnd_true, cnd_false, pickV_true, pickV_false, gd_true, gd_false, gdV_true, gdV_false, gdH_true, gdH_false, gdS_true, gdS_false, wt_ff, wt_tt, wt_ft, wt_tf, wt_undef, obH_some', extractV_tuple, nilCheckV_ptr, againK_normal, againK_exit, againK_ret, blockK_normal, blockK_same, blockK_ret, seqK_normal, seqK_exit, seqK_ret, fin_done, if_true', if_false', Bool.not_true, Bool.not_false, idx0, idx1, idx2, idx3, idx4, chk_nil_l, chk_nil_r, done_nm, up_cons, up_nil, cond_true, cond_false, Nat.reduceBEq]
  · rw [if_neg h1]
    by_cases h2 : b < a
    · rw [if_pos h2]
      simp -implicitDefEqProofs (disch := omega) only [↓c76_0_eq, dcT, dcF, e1, e2, ↓ret76, ↓cnd_true, ↓cnd_false, ↓Option.bind_some, ↓obH_some', bin_add, bin_sub, bin_mul, bin_lss, bin_leq, bin_gtr, bin_geq, bin_eql, bin_neq, un_not, un_neg, Option.bind_some, Option.bind_none, Option.map_some, cnd_true, cnd_false, pickV_true, pickV_false, gd_true, gd_false, gdV_true, gdV_false, gdH_true, gdH_false, gdS_true, gdS_false, wt_ff, wt_tt, wt_ft, wt_tf, wt_undef, obH_some', extractV_tuple, nilCheckV_ptr, againK_normal, againK_exit, againK_ret, blockK_normal, blockK_same, blockK_ret, seqK_normal, seqK_exit, seqK_ret, fin_done, if_true', if_false', Bool.not_true, Bool.not_false, idx0, idx1, idx2, idx3, idx4, chk_nil_l, chk_nil_r, done_nm, up_cons, up_nil, cond_true, cond_false, Nat.reduceBEq]
    · rw [if_neg h2]
      simp -implicitDefEqProofs (disch := omega) only [↓c76_0_eq, dcT, dcF, e1, e2, ↓ret76, ↓cnd_true, ↓cnd_false, ↓Option.bind_some, ↓obH_some', bin_add, bin_sub, bin_mul, bin_lss, bin_leq, bin_gtr, bin_geq, bin_eql, bin_neq, un_not, un_neg, Option.bind_some, Option.bind_none, Option.map_some, cnd_true, cnd_false, pickV_true, pickV_false, gd_true, gd_false, gdV_true, gdV_false, gdH_true, gdH_false, gdS_true, gdS_false, wt_ff, wt_tt, wt_ft, wt_tf, wt_undef, obH_some', extractV_tuple, nilCheckV_ptr, againK_normal, againK_exit, againK_ret, blockK_normal, blockK_same, blockK_ret, seqK_normal, seqK_exit, seqK_ret, fin_done, if_true', if_false', Bool.not_true, Bool.not_false, idx0, idx1, idx2, idx3, idx4, chk_nil_l, chk_nil_r, done_nm, up_cons, up_nil, cond_true, cond_false, Nat.reduceBEq]
theorem spec_CmpW (a b : Int) (h : Heap) : evC Tryd.prog 77 #[.int .u64 a, .int .u64 b] h = some (.int .i64 (cmpI a b), h) := by
  rw [call77]
  have e1 := fun h => spec_isNaNW a h
  have e2 := fun h => spec_isNaNW b h
  unfold cmpI
  by_cases h1 : a < b
  · rw [if_pos h1]
    simp -implicitDefEqProofs (disch := omega) only [↓c77_0_eq, dcT, dcF, e1, e2, ↓ret77, ↓cnd_true, ↓cnd_false, ↓Option.bind_some, ↓obH_some', bin_add, bin_sub, bin_mul, bin_lss, bin_leq, bin_gtr, bin_geq, bin_eql, bin_neq, un_not, un_neg, Option.bind_some, Option.bind_none, Option.map_some, cnd_true, cnd_false, pickV_true, pickV_false, gd_true, gd_false, gdV_true, gdV_false, gdH_true, gdH_false, gdS_true, gdS_false, wt_ff, wt_tt, wt_ft, wt_tf, wt_undef, obH_some', extractV_tuple, nilCheckV_ptr, againK_normal, againK_exit, againK_ret, blockK_normal, blockK_same, blockK_ret, seqK_normal, seqK_exit, seqK_ret, fin_done, if_true', if_false', Bool.not_true, Bool.not_false, idx0, idx1, idx2, idx3, idx4, chk_nil_l, chk_nil_r, done_nm, up_cons, up_nil, cond_true, cond_false, Nat.reduceBEq]
  · rw [if_neg h1]
    by_cases h2 : b < a
    · rw [if_pos h2]
      simp -implicitDefEqProofs (disch := omega) only [↓c77_0_eq, dcT, dcF, e1, e2, ↓ret77, ↓cnd_true, ↓cnd_false, ↓Option.bind_some, ↓obH_some', bin_add, bin_sub, bin_mul, bin_lss, bin_leq, bin_gtr, bin_geq, bin_eql, bin_neq, un_not, un_neg, Option.bind_some, Option.bind_none, Option.map_some, cnd_true, cnd_false, pickV_true, pickV_false, gd_true, gd_false, gdV_true, gdV_false, gdH_true, gdH_false, gdS_true, gdS_false, wt_ff, wt_tt, wt_ft, wt_tf, wt_undef, obH_some', extractV_tuple, nilCheckV_ptr, againK_normal, againK_exit, againK_ret, blockK_normal, blockK_same, blockK_ret, seqK_normal, seqK_exit, seqK_ret, fin_done, if_true', if_false', Bool.not_true, Bool.not_false, idx0, idx1, idx2, idx3, idx4, chk_nil_l, chk_nil_r, done_nm, up_cons, up_nil, cond_true, cond_false, Nat.reduceBEq]
    · rw [if_neg h2]
      simp -implicitDefEqProofs (disch := omega) only [↓c77_0_eq, dcT, dcF, e1, e2, ↓ret77, ↓cnd_true, ↓cnd_false, ↓Option.bind_some, ↓obH_some', bin_add, bin_sub, bin_mul, bin_lss, bin_leq, bin_gtr, bin_geq, bin_eql, bin_neq, un_not, un_neg, Option.bind_some, Option.bind_none, Option.map_some, cnd_true, cnd_false, pickV_true, pickV_false, gd_true, gd_false, gdV_true, gdV_false, gdH_true, gdH_false, gdS_true, gdS_false, wt_ff, wt_tt, wt_ft, wt_tf, wt_undef, obH_some', extractV_tuple, nilCheckV_ptr, againK_normal, againK_exit, againK_ret, blockK_normal, blockK_same, blockK_ret, seqK_normal, seqK_exit, seqK_ret, fin_done, if_true', if_false', Bool.not_true, Bool.not_false, idx0, idx1, idx2, idx3, idx4, chk_nil_l, chk_nil_r, done_nm, up_cons, up_nil, cond_true, cond_false, Nat.reduceBEq]
theorem spec_Or {h : Heap} {p c : Nat} (a b : Int) (hc : Cells h p 3 [.int .i64 a, .int .i64 b]) : evC Tryd.prog 75 #[.slice (some ⟨p, 0, none⟩) 2 c] h = some (.int .i64 (if a = 0 then b else a), h) := by
  rw [call75]
  have l0 : (nm h).load1 p 0 = some (.int .i64 a) := hc.nm.load 0
  have l1 : (nm h).load1 p 1 = some (.int .i64 b) := hc.nm.load 1
  have w1 : IntKind.i64.wrap (0 + 1) = 1 := rfl
  have w2 : IntKind.i64.wrap (1 + 1) = 2 := rfl
  by_cases h1 : a = 0
  · rw [if_pos h1]
    by_cases h2 : b = 0
    · simp -implicitDefEqProofs (disch := omega) only [↓c75_0_eq, ↓c75_1_eq, ↓c75_2_eq, ↓loopK_eq evC_m, dcT, dcF, lnI, iaI0, iaI1, ldI, l0, l1, w1, w2, ↓ret75, ↓cnd_true, ↓cnd_false, ↓Option.bind_some, ↓obH_some', bin_add, bin_sub, bin_mul, bin_lss, bin_leq, bin_gtr, bin_geq, bin_eql, bin_neq, un_not, un_neg, Option.bind_some, Option.bind_none, Option.map_some, cnd_true, cnd_false, pickV_true, pickV_false, gd_true, gd_false, gdV_true, gdV_false, gdH_true, gdH_false, gdS_true, gdS_false, wt_ff, wt_tt, wt_ft, wt_tf, wt_undef, obH_some', extractV_tuple, nilCheckV_ptr, againK_normal, againK_exit, againK_ret, blockK_normal, blockK_same, blockK_ret, seqK_normal, seqK_exit, seqK_ret, fin_done, if_true', if_false', Bool.not_true, Bool.not_false, idx0, idx1, idx2, idx3, idx4, chk_nil_l, chk_nil_r, done_nm, up_cons, up_nil, cond_true, cond_false, Nat.reduceBEq]
      rw [h2]
    · simp -implicitDefEqProofs (disch := omega) only [↓c75_0_eq, ↓c75_1_eq, ↓c75_2_eq, ↓loopK_eq evC_m, dcT, dcF, lnI, iaI0, iaI1, ldI, l0, l1, w1, w2, ↓ret75, ↓cnd_true, ↓cnd_false, ↓Option.bind_some, ↓obH_some', bin_add, bin_sub, bin_mul, bin_lss, bin_leq, bin_gtr, bin_geq, bin_eql, bin_neq, un_not, un_neg, Option.bind_some, Option.bind_none, Option.map_some, cnd_true, cnd_false, pickV_true, pickV_false, gd_true, gd_false, gdV_true, gdV_false, gdH_true, gdH_false, gdS_true, gdS_false, wt_ff, wt_tt, wt_ft, wt_tf, wt_undef, obH_some', extractV_tuple, nilCheckV_ptr, againK_normal, againK_exit, againK_ret, blockK_normal, blockK_same, blockK_ret, seqK_normal, seqK_exit, seqK_ret, fin_done, if_true', if_false', Bool.not_true, Bool.not_false, idx0, idx1, idx2, idx3, idx4, chk_nil_l, chk_nil_r, done_nm, up_cons, up_nil, cond_true, cond_false, Nat.reduceBEq]
  · rw [if_neg h1]
    simp -implicitDefEqProofs (disch := omega) only [↓c75_0_eq, ↓c75_1_eq, ↓c75_2_eq, ↓loopK_eq evC_m, dcT, dcF, lnI, iaI0, iaI1, ldI, l0, l1, w1, w2, ↓ret75, ↓cnd_true, ↓cnd_false, ↓Option.bind_some, ↓obH_some', bin_add, bin_sub, bin_mul, bin_lss, bin_leq, bin_gtr, bin_geq, bin_eql, bin_neq, un_not, un_neg, Option.bind_some, Option.bind_none, Option.map_some, cnd_true, cnd_false, pickV_true, pickV_false, gd_true, gd_false, gdV_true, gdV_false, gdH_true, gdH_false, gdS_true, gdS_false, wt_ff, wt_tt, wt_ft, wt_tf, wt_undef, obH_some', extractV_tuple, nilCheckV_ptr, againK_normal, againK_exit, againK_ret, blockK_normal, blockK_same, blockK_ret, seqK_normal, seqK_exit, seqK_ret, fin_done, if_true', if_false', Bool.not_true, Bool.not_false, idx0, idx1, idx2, idx3, idx4, chk_nil_l, chk_nil_r, done_nm, up_cons, up_nil, cond_true, cond_false, Nat.reduceBEq]
theorem cmpE_or (x y : E3) : (if cmpI x.f y.f = 0 then cmpI x.n y.n else cmpI x.f y.f) = cmpE x y := by
  unfold cmpE cmpI
  by_cases h1 : x.f < y.f
  · simp [h1]
  · by_cases h2 : y.f < x.f
    · simp [h1, h2]
    · have : (x.n : Int) < y.n ↔ x.n < y.n := Int.ofNat_lt
      have : (y.n : Int) < x.n ↔ y.n < x.n := Int.ofNat_lt
      simp [h1, h2]
theorem spec_order (x y : E3) (h : Heap) : ∃ h', evC Tryd.prog 55 #[entV x, entV y] h = some (.int .i64 (cmpE x y), h') ∧ HExt h h' := by
  rw [call55]
  have c1 : Cells (((nm h).new (.cells [.int .i64 x.f, .int .u64 x.n, .int .u64 x.t]) 68).new (.cells [.int .i64 y.f, .int .u64 y.n, .int .u64 y.t]) 68) (nm h).blks.length 68 [.int .i64 x.f, .int .u64 x.n, .int .u64 x.t] := (Cells.new _ _ _).keepNew _ _
  have c2 := Cells.new ((nm h).new (.cells [.int .i64 x.f, .int .u64 x.n, .int .u64 x.t]) 68) 68 [.int .i64 y.f, .int .u64 y.n, .int .u64 y.t]
  have k2 : In h.blks.length No (nm h) (((nm h).new (.cells [.int .i64 x.f, .int .u64 x.n, .int .u64 x.t]) 68).new (.cells [.int .i64 y.f, .int .u64 y.n, .int .u64 y.t]) 68) :=
    In.trans (In.new (h := nm h) (Nat.le_refl h.blks.length) _ _) (In.new (by simp [Heap.new]) _ _)
  generalize hp1 : ((nm h).new (.cells [.int .i64 x.f, .int .u64 x.n, .int .u64 x.t]) 68).blks.length = p1 at c2
  generalize hp0 : (nm h).blks.length = p0 at c1
  generalize hh2 : ((nm h).new (.cells [.int .i64 x.f, .int .u64 x.n, .int .u64 x.t]) 68).new (.cells [.int .i64 y.f, .int .u64 y.n, .int .u64 y.t]) 68 = h2 at c1 c2 k2
  have la : h2.load1 p0 0 = some (.int .i64 x.f) := c1.load 0
  have lb : h2.load1 p0 1 = some (.int .u64 x.n) := c1.load 1
  have lc : h2.load1 p1 0 = some (.int .i64 y.f) := c2.load 0
  have ld : h2.load1 p1 1 = some (.int .u64 y.n) := c2.load 1
  have k3 := k2.trans (In.new (Nat.le_trans k2.le k2.len) (.cells [.int .i64 (cmpI x.f y.f), .int .i64 (cmpI x.n y.n)]) 3)
  have e3 := spec_Or (c := 2) _ _ (Cells.new h2 3 [.int .i64 (cmpI x.f y.f), .int .i64 (cmpI x.n y.n)])
  rw [cmpE_or] at e3
  refine ⟨_, ?_, done_ext' k3⟩
  simp -implicitDefEqProofs (disch := omega) only [↓c55_0_eq, entV, bxE, hp0, hp1, hh2, faE0, faE1, ldI, ldU, la, lb, lc, ld, spec_CmpI, spec_CmpW, am_nm, nm_load1, nm_mods, List.nil_append, List.append_nil, lsI2', e3, ↓ret55, ↓cnd_true, ↓cnd_false, ↓Option.bind_some, ↓obH_some', bin_add, bin_sub, bin_mul, bin_lss, bin_leq, bin_gtr, bin_geq, bin_eql, bin_neq, un_not, un_neg, Option.bind_some, Option.bind_none, Option.map_some, cnd_true, cnd_false, pickV_true, pickV_false, gd_true, gd_false, gdV_true, gdV_false, gdH_true, gdH_false, gdS_true, gdS_false, wt_ff, wt_tt, wt_ft, wt_tf, wt_undef, obH_some', extractV_tuple, nilCheckV_ptr, againK_normal, againK_exit, againK_ret, blockK_normal, blockK_same, blockK_ret, seqK_normal, seqK_exit, seqK_ret, fin_done, if_true', if_false', Bool.not_true, Bool.not_false, idx0, idx1, idx2, idx3, idx4, chk_nil_l, chk_nil_r, done_nm, up_cons, up_nil, cond_true, cond_false, Nat.reduceBEq]
end Go.Am.Z
set_option linter.unusedVariables false
set_option linter.unusedSimpArgs false
namespace Go.Proofs
open Go.RowKit Go.Lib
theorem run_copy_cellsK {P : Program} (w : World) (dT sT ty elem : TypeId) (K b o dLen dCap : Nat) (a : Addr) (sLen sCap n : Nat) (cs : List Value)
    (hu : P.underlying dT = some (.slice elem)) (hs : ∀ w, (Go.sizeOf elem).run P w = .ok K w) (hn : n = Nat.min sLen dLen) (hl : cs.length = n * K)
    (hsrc : ∀ j v, cs[j]? = some v → w.cell? (a.add j) = some v) (hc : ∀ j, j < cs.length → (w.cell? ⟨b, o + j, none⟩).isSome = true) (hf : ∀ j, j < cs.length → w.frozen? ⟨b, o + j, none⟩ = false) (h1 : ∀ v ∈ cs, v.oneCell' = true) :
    (Builtin.copy_ #[dT, sT] ty #[.slice (some ⟨b, o, none⟩) dLen dCap, .slice (some a) sLen sCap]).run P w = .ok (goInt n) (w.setCells b o cs) := by
  have hl2 := run_loadCells_list (P := P) w a cs hsrc
  have hst := run_storeCells_cells (P := P) b o cs 0 w (by simpa using hc) (by simpa using hf) h1
  rw [hl] at hl2
  simp [Builtin.copy_, run_underlying hu, Builtin.lenOf, Builtin.firstCells, hs, ← hn, hl2, hst]
theorem szE : ∀ w, (Go.sizeOf 68).run Tryd.prog w = .ok 3 w := fun w => @Go.Am.run_sizeT Tryd.prog ⟨none⟩ 68 3 (by kernel_rfl) w
theorem uEs : Tryd.prog.underlying 63 = some (.slice 68) := by kernel_rfl
set_option maxHeartbeats 4000000 in
set_option maxRecDepth 100000 in
theorem ins_shift (b off n c i vb voff vc : Nat) (cs vs : List Value) (w : World) (hi : i < n) (hn60 : n < 1152921504606846976) (hroom : n + 1 ≤ c) (hvb : vb ≠ b)
    (hcl : cs.length = n * 3) (hvl : vs.length = 3)
    (hcs : ∀ j v, cs[j]? = some v → w.cell? ⟨b, off + j, none⟩ = some v) (hsp : ∀ j, j < (n + 1) * 3 → (w.cell? ⟨b, off + j, none⟩).isSome = true) (hfz : ∀ j, j < (n + 1) * 3 → w.frozen? ⟨b, off + j, none⟩ = false)
    (hvs : ∀ j v, vs[j]? = some v → w.cell? ⟨vb, voff + j, none⟩ = some v) (h1c : ∀ v ∈ cs, v.oneCell' = true) (h1v : ∀ v ∈ vs, v.oneCell' = true)
    (tA tB : TypeId) (kA kB : Nat) (hsa : w.shape? vb = some (tA, kA)) (hsb : w.shape? b = some (tB, kB)) (hkB : kB ≠ 0) (hfa : w.frozen? ⟨vb, voff, none⟩ = false) (hfe : w.frozen? ⟨vb, kA, none⟩ = false) :
    Calls Tryd.prog 63 #[.slice (some ⟨b, off, none⟩) n c, .int .i64 i, .slice (some ⟨vb, voff, none⟩) (1 : Nat) vc] w fun e w' =>
      e = .returned (.slice (some ⟨b, off, none⟩) (n + 1) c) ∧ w' = (w.drew.setCells b (off + (i + 1) * 3) (cs.drop (i * 3))).setCells b (off + i * 3) vs := by
  have hz2 : ¬ ((i : Int) = (n : Int)) := by omega
  have hov : ∀ lb cb, (callFunc 80 #[.slice (some ⟨vb, voff, none⟩) 1 vc, .slice (some ⟨b, off + (i + 1) * 3, none⟩) lb cb]).run Tryd.prog w = .ok (.value (.bool false)) w := fun lb cb => by
    rw [run_callFunc_extern Tryd.func80 (by kernel_rfl) (by kernel_rfl) (by kernel_rfl) (e := Extern.SlicesOverlaps.overlaps #[63, 63] #[4]) (by kernel_rfl),
      Lib.run_overlaps_apart w 63 4 68 uEs 3 szE ⟨vb, voff, none⟩ ⟨b, off + (i + 1) * 3, none⟩ 1 vc lb cb hvb tA tB kA kB hsa hsb hkB hfa hfe]
    rfl
  have hw1 : IntKind.i64.wrap ((i : Int) + 1) = (i : Int) + 1 := by rw [IntKind.wrap_i64]; omega
  have hw2 : IntKind.i64.wrap ((n : Int) + 1) = (n : Int) + 1 := by rw [IntKind.wrap_i64]; omega
  have hb1 : (0 : Int) ≤ (i : Int) + 1 := by omega
  have hin : i ≤ n := by omega
  have htn : ((i : Int) + 1).toNat = i + 1 := by omega
  have hb2 : ¬ (c = i + 1) := by omega
  have hb3 : (i : Int) ≤ (n : Int) + 1 := by omega
  have hb4 : ¬ (c = i) := by omega
  have hdl : (cs.drop (i * 3)).length = (n - i) * 3 := by rw [List.length_drop, hcl, Nat.sub_mul]
  have hcp1 : ∀ ty dc sc, (Builtin.copy_ #[63, 63] ty #[.slice (some ⟨b, off + (i + 1) * 3, none⟩) (n - i) dc, .slice (some ⟨b, off + i * 3, none⟩) (n + 1 - i) sc]).run Tryd.prog w.drew = .ok (goInt (n - i : Nat)) (w.drew.setCells b (off + (i + 1) * 3) (cs.drop (i * 3))) := fun ty dc sc =>
    run_copy_cellsK w.drew _ _ ty 68 3 b (off + (i + 1) * 3) (n - i) dc ⟨b, off + i * 3, none⟩ (n + 1 - i) sc (n - i) (cs.drop (i * 3)) uEs szE (by simp only [Nat.min_def]; split <;> omega) hdl
      (fun j v hj => by rw [Addr.add_lit, Nat.add_assoc]; exact hcs (i * 3 + j) v (by rwa [List.getElem?_drop] at hj))
      (fun j hj => by rw [Nat.add_assoc]; exact hsp _ (by omega)) (fun j hj => by rw [Nat.add_assoc]; exact hfz _ (by omega)) (fun v hv => h1c v (List.mem_of_mem_drop hv))
  obtain ⟨W1, hW1⟩ : ∃ W1, W1 = w.drew.setCells b (off + (i + 1) * 3) (cs.drop (i * 3)) := ⟨_, rfl⟩
  have hsp1 : ∀ k, k < (n + 1) * 3 → (W1.cell? ⟨b, off + k, none⟩).isSome = true := fun k hk => by
    rw [hW1]
    exact isSome_setCells b _ _ _ (fun j hj => by rw [Nat.add_assoc]; exact hsp _ (by omega)) _ (hsp k hk)
  have hcp2 : ∀ (W : World), (∀ x, W.cell? x = W1.cell? x) → (∀ x, W.frozen? x = W1.frozen? x) → ∀ ty dc, (Builtin.copy_ #[63, 63] ty #[.slice (some ⟨b, off + i * 3, none⟩) (n + 1 - i) dc, .slice (some ⟨vb, voff, none⟩) 1 vc]).run Tryd.prog W = .ok (goInt (1 : Nat)) (W.setCells b (off + i * 3) vs) := fun W hWc hWf ty dc =>
    run_copy_cellsK W _ _ ty 68 3 b (off + i * 3) (n + 1 - i) dc ⟨vb, voff, none⟩ 1 vc 1 vs uEs szE (by simp only [Nat.min_def]; split <;> omega) (by omega)
      (fun j v hj => by
        rw [Addr.add_lit, hWc, hW1, World.cell?_setCells_out b _ _ _ _ (fun h _ => absurd h hvb)]
        exact hvs j v hj)
      (fun j hj => by rw [hWc, Nat.add_assoc]; exact hsp1 _ (by omega)) (fun j hj => by rw [hWf, hW1, World.frozen?_setCells, Nat.add_assoc]; exact hfz _ (by omega)) h1v
  rw [← hW1] at hcp1
  go_enter Tryd.func63, Tryd.ntmps63
  go_wp2_with (simp only [hov])
  go_region_law (refine step_copy_runI rfl _ _ 63 63 rfl _ _ (by simp [Act.eval, Act.put]) (by simp [Act.eval, Act.put]) (hcp1 _ _ _) ?_)
  go_wp2_with (at_builtin; refine wpList_copy_runI _ rfl _ _ 63 63 rfl _ _ rfl rfl (hcp2 _ (fun _ => rfl) (fun _ => rfl) _ _) ?_)
  go_ret
  first | exact ⟨rfl, rfl⟩ | exact ⟨rfl, by rw [hW1]⟩
def zEv : Value := .agg #[.int .i64 0, .int .u64 0, .int .u64 0]
theorem iE : (Tryd.prog.info? 68).map (fun i => (i.zero, i.size, i.bytes)) = some (some zEv, 3, 24) := by kernel_rfl
theorem uInt : Tryd.prog.underlying 3 = some (.int .i64) := by kernel_rfl
theorem zc_size (k : Nat) : (Builtin.zeroCells zEv.cells k).size = k * 3 := by
  simp [Builtin.zeroCells, zEv, Value.cells]
def insRow (w : World) (n c i : Nat) (cs : List Value) : Array Value := (cs.take (i * 3)).toArray ++ Builtin.zeroCells zEv.cells (n + 1 - i) ++ Builtin.zeroCells zEv.cells (grownCap w (n + 1) c 68 - (n + 1))
set_option maxHeartbeats 4000000 in
set_option maxRecDepth 100000 in
theorem ins_grow (b off n c i vb voff vc : Nat) (cs vs : List Value) (w : World) (hi : i < n) (hnc : n ≤ c) (hroom : c < n + 1) (hbig : (n + 1) * 24 ≤ 140737488355328)
    (hcl : cs.length = n * 3) (hvl : vs.length = 3)
    (hcs : ∀ j v, cs[j]? = some v → w.cell? ⟨b, off + j, none⟩ = some v)
    (hvs : ∀ j v, vs[j]? = some v → w.cell? ⟨vb, voff + j, none⟩ = some v) (h1c : ∀ v ∈ cs, v.oneCell' = true) (h1v : ∀ v ∈ vs, v.oneCell' = true) :
    Calls Tryd.prog 63 #[.slice (some ⟨b, off, none⟩) n c, .int .i64 i, .slice (some ⟨vb, voff, none⟩) (1 : Nat) vc] w fun e w' =>
      e = .returned (.slice (some ⟨w.heap.size, 0, none⟩) (n + 1) (grownCap w (n + 1) c 68)) ∧
      w' = (((w.alloc (.cells (insRow w n c i cs) 68)).drew.setCells w.heap.size (i * 3) vs).drew).setCells w.heap.size ((i + 1) * 3) (cs.drop (i * 3)) := by
  obtain ⟨i0, hi0, hz0, hzs, hzb⟩ := info_parts iE
  have hz2 : ¬ ((i : Int) = (n : Int)) := by omega
  have hz3 : (c : Int) < (n : Int) + 1 := by omega
  have hbw : b < w.heap.size := block_lt_of_cell (hcs 0 _ (List.getElem?_eq_getElem (by omega)))
  have hvw : vb < w.heap.size := block_lt_of_cell (hvs 0 _ (List.getElem?_eq_getElem (by omega)))
  have hkk : (n : Int) + 1 - (i : Int) = ((n + 1 - i : Nat) : Int) := by omega
  have hik : i + (n + 1 - i) = n + 1 := by omega
  have hold : (Builtin.firstCells i0.size i (.slice (some ⟨b, off, none⟩) i c)).run Tryd.prog w.drew = .ok (cs.take (i * 3)).toArray w.drew := by
    rw [hzs]
    exact run_firstCells_some w.drew 3 i ⟨b, off, none⟩ i c (cs.take (i * 3)) (by rw [List.length_take]; omega) (fun j v hj => by
      rw [Addr.add_lit]
      rw [List.getElem?_take] at hj
      split at hj
      · exact hcs j v hj
      · cases hj)
  have hrz : ∀ ty, (Builtin.append_ #[63, 3] ty #[.slice (some ⟨b, off, none⟩) i c, .int .i64 ((n : Int) + 1 - (i : Int))]).run Tryd.prog w =
      .ok (.slice (some ⟨w.heap.size, 0, none⟩) (n + 1) (grownCap w (n + 1) c 68)) (w.drew.alloc (.cells (insRow w n c i cs) 68)) := fun ty => by
    have h := Lib.run_append_grow_zeros w 63 3 ty 68 i0 _ .i64 .i64 uEs uInt hi0 hz0 (some ⟨b, off, none⟩) i c (cs.take (i * 3)) hold (n + 1 - i) (by omega) (by omega) (by omega) (by omega) (by rw [hzb]; omega) (by rw [hzb, hik]; exact growslice_fits hroom hbig)
    rw [hik] at h
    rw [hkk]
    exact h
  obtain ⟨G, hG⟩ : ∃ G, G = grownCap w (n + 1) c 68 := ⟨_, rfl⟩
  obtain ⟨ROW, hROW⟩ : ∃ ROW : Array Value, ROW = insRow w n c i cs := ⟨_, rfl⟩
  have hRl : (n + 1) * 3 ≤ ROW.size := by
    rw [hROW]
    unfold insRow
    rw [Array.size_append, Array.size_append, zc_size, zc_size, List.size_toArray, List.length_take]
    omega
  rw [← hG, ← hROW] at hrz ⊢
  obtain ⟨W1, hW1⟩ : ∃ W1, W1 = w.drew.alloc (.cells ROW 68) := ⟨_, rfl⟩
  rw [← hW1] at hrz
  have hN : ∀ j, j < (n + 1) * 3 → (W1.cell? ⟨w.heap.size, j, none⟩).isSome = true := fun j hj => by
    rw [hW1, World.cell?_alloc_at (w := w.drew) ROW _ w.heap.size j rfl, Array.getElem?_eq_getElem (by omega)]; rfl
  have hNf : ∀ j, W1.frozen? ⟨w.heap.size, j, none⟩ = false := fun j => by rw [hW1]; exact World.frozen?_alloc_at (w := w.drew) ROW _ w.heap.size j rfl
  have hOb : ∀ j v, w.cell? ⟨b, j, none⟩ = some v → W1.cell? ⟨b, j, none⟩ = some v := fun j v h => by rw [hW1, World.cell?_alloc_past (w := w.drew) _ b j hbw]; exact h
  have hOv : ∀ j v, w.cell? ⟨vb, j, none⟩ = some v → W1.cell? ⟨vb, j, none⟩ = some v := fun j v h => by rw [hW1, World.cell?_alloc_past (w := w.drew) _ vb j hvw]; exact h
  have hcpA : ∀ (W : World), (∀ x, W.cell? x = W1.cell? x) → (∀ x, W.frozen? x = W1.frozen? x) → ∀ ty dc, (Builtin.copy_ #[63, 63] ty #[.slice (some ⟨w.heap.size, i * 3, none⟩) (n + 1 - i) dc, .slice (some ⟨vb, voff, none⟩) 1 vc]).run Tryd.prog W = .ok (goInt (1 : Nat)) (W.setCells w.heap.size (i * 3) vs) := fun W hWc hWf ty dc =>
    run_copy_cellsK W _ _ ty 68 3 w.heap.size (i * 3) (n + 1 - i) dc ⟨vb, voff, none⟩ 1 vc 1 vs uEs szE (by simp only [Nat.min_def]; split <;> omega) (by omega)
      (fun j v hj => by rw [Addr.add_lit, hWc]; exact hOv _ v (hvs j v hj))
      (fun j hj => by rw [hWc]; exact hN _ (by omega)) (fun j hj => by rw [hWf]; exact hNf _) h1v
  have hGn : n + 1 ≤ G := by rw [hG]; exact grownCap_ge w _ _ _
  have hG63 : G ≤ 9223372036854775807 := by
    have := grownCap_le_maxLen w (n + 1) c 68 (by unfold maxLen; omega)
    rw [← hG] at this
    unfold maxLen at this
    omega
  have hGi : ¬ (G = i) := by omega
  have hGim : ¬ (G = i + 1) := by omega
  have hci : ¬ (c = i) := by omega
  have hbN : b ≠ w.heap.size := by omega
  have hdl : (cs.drop (i * 3)).length = (n - i) * 3 := by rw [List.length_drop, hcl, Nat.sub_mul]
  have hcpB : ∀ (W : World), (∀ x, W.cell? x = (W1.setCells w.heap.size (i * 3) vs).cell? x) → (∀ x, W.frozen? x = (W1.setCells w.heap.size (i * 3) vs).frozen? x) → ∀ ty dc sc, (Builtin.copy_ #[63, 63] ty #[.slice (some ⟨w.heap.size, (i + 1) * 3, none⟩) (n - i) dc, .slice (some ⟨b, off + i * 3, none⟩) (n - i) sc]).run Tryd.prog W = .ok (goInt (n - i : Nat)) (W.setCells w.heap.size ((i + 1) * 3) (cs.drop (i * 3))) := fun W hWc hWf ty dc sc =>
    run_copy_cellsK W _ _ ty 68 3 w.heap.size ((i + 1) * 3) (n - i) dc ⟨b, off + i * 3, none⟩ (n - i) sc (n - i) (cs.drop (i * 3)) uEs szE (by simp) hdl
      (fun j v hj => by
        rw [Addr.add_lit, hWc, World.cell?_setCells_out _ _ _ _ _ (fun h _ => absurd h hbN), Nat.add_assoc]
        exact hOb _ v (hcs (i * 3 + j) v (by rwa [List.getElem?_drop] at hj)))
      (fun j hj => by rw [hWc]; exact isSome_setCells _ _ _ _ (fun t ht => hN _ (by omega)) _ (hN _ (by omega)))
      (fun j hj => by rw [hWf, World.frozen?_setCells]; exact hNf _) (fun v hv => h1c v (List.mem_of_mem_drop hv))
  subst hW1
  have hE1 : ∀ x, ((w.alloc (.cells ROW 68)).drew).cell? x = (w.drew.alloc (.cells ROW 68)).cell? x := fun x => rfl
  have hE2 : ∀ x, ((w.alloc (.cells ROW 68)).drew).frozen? x = (w.drew.alloc (.cells ROW 68)).frozen? x := fun x => rfl
  have hF1 : ∀ x, (((w.alloc (.cells ROW 68)).drew.setCells w.heap.size (i * 3) vs).drew).cell? x = ((w.drew.alloc (.cells ROW 68)).setCells w.heap.size (i * 3) vs).cell? x := fun x => rfl
  have hF2 : ∀ x, (((w.alloc (.cells ROW 68)).drew.setCells w.heap.size (i * 3) vs).drew).frozen? x = ((w.drew.alloc (.cells ROW 68)).setCells w.heap.size (i * 3) vs).frozen? x := fun x => rfl
  have hw1 : IntKind.i64.wrap ((i : Int) + 1) = (i : Int) + 1 := by rw [IntKind.wrap_i64]; omega
  have hw2 : IntKind.i64.wrap ((n : Int) + 1) = (n : Int) + 1 := by rw [IntKind.wrap_i64]; omega
  have hw3 : IntKind.i64.wrap ((n : Int) + 1 - (i : Int)) = (n : Int) + 1 - (i : Int) := by rw [IntKind.wrap_i64]; omega
  have hb1 : (0 : Int) ≤ (i : Int) + 1 := by omega
  have hin : i ≤ n := by omega
  have htn : ((i : Int) + 1).toNat = i + 1 := by omega
  have hb3 : (i : Int) ≤ (n : Int) := by omega
  clear hkk hik hold hROW hG hRl
  go_enter Tryd.func63, Tryd.ntmps63
  go_wp2_with (first
    | (at_builtin; refine Lib.wpList_append_run _ rfl _ _ _ _ rfl _ _ rfl rfl _ _ (hrz _) ?_)
    | (at_builtin; refine wpList_copy_runI _ rfl _ _ 63 63 rfl _ _ rfl rfl (hcpA _ hE1 hE2 _ _) ?_)
    | (at_builtin; refine wpList_copy_runI _ rfl _ _ 63 63 rfl _ _ rfl rfl (hcpB _ (fun _ => rfl) (fun _ => rfl) _ _ _) ?_))
  go_region_law (refine step_copy_runI rfl _ _ 63 63 rfl (.slice (some ⟨w.heap.size, (i + 1) * 3, none⟩) (n - i) (G - (i + 1))) (.slice (some ⟨b, off + i * 3, none⟩) (n - i) (c - i)) (by simp [Act.eval, Act.put]) (by simp [Act.eval, Act.put]) (hcpB _ hF1 hF2 3 (G - (i + 1)) (c - i)) ?_)
  go_wp2
  go_ret
  exact ⟨rfl, rfl⟩
set_option maxHeartbeats 4000000 in
set_option maxRecDepth 100000 in
theorem ins_end (ad : Addr) (n c : Nat) (x : Value) (vb voff vc : Nat) (w w' : World) (v' : Value) (hnc : n ≤ c) (hn : n < 1152921504606846976) (hx : x = .slice (some ⟨vb, voff, none⟩) (1 : Nat) vc)
    (hrun : (Builtin.append_ #[63, 63] 63 #[.slice (some ad) n c, x]).run Tryd.prog w = .ok v' w') :
    Calls Tryd.prog 63 #[.slice (some ad) n c, .int .i64 n, x] w fun e w2 => e = .returned v' ∧ w2 = w' := by
  subst hx
  have hin : n ≤ n := Nat.le_refl n
  go_enter Tryd.func63, Tryd.ntmps63
  go_wp2_with (at_builtin; refine Lib.wpList_append_run _ rfl _ _ _ _ rfl _ _ rfl rfl _ _ hrun ?_)
  all_goals (go_ret; exact ⟨rfl, rfl⟩)
set_option maxHeartbeats 4000000 in
set_option maxRecDepth 100000 in
theorem ins_endN (x : Value) (vb voff vc : Nat) (w w' : World) (v' : Value) (hx : x = .slice (some ⟨vb, voff, none⟩) (1 : Nat) vc)
    (hrun : (Builtin.append_ #[63, 63] 63 #[.slice none 0 0, x]).run Tryd.prog w = .ok v' w') :
    Calls Tryd.prog 63 #[.slice none 0 0, .int .i64 0, x] w fun e w2 => e = .returned v' ∧ w2 = w' := by
  subst hx
  go_enter Tryd.func63, Tryd.ntmps63
  go_wp2_with (at_builtin; refine Lib.wpList_append_run _ rfl _ _ _ _ rfl _ _ rfl rfl _ _ hrun ?_)
  go_ret
  exact ⟨rfl, rfl⟩
end Go.Proofs
namespace Go.Am
open Go.Proofs
set_option maxRecDepth 100000
set_option linter.all false
theorem own_frz {P : Program} {k : Blk} {l : Loc} {w : World} (h : Own P k l w) (he : l.es = 3) (j : Nat) : w.frozen? ⟨l.cb, j, none⟩ = false := by
  obtain ⟨cs, e, lo, hi, hh, hs, _, hf⟩ := h
  have : lo = hi := by omega
  subst this
  simp only [World.frozen?, hh]
  simp
theorem own_shape {P : Program} {k : Blk} {l : Loc} {w : World} (h : Own P k l w) : ∃ e, w.shape? l.cb = some (e, l.sz) := by
  obtain ⟨cs, e, lo, hi, hh, hs, _, hf⟩ := h
  exact ⟨e, by simp only [World.shape?, hh, hs]⟩
theorem own_cell {P : Program} {k : Blk} {l : Loc} {w : World} (h : Own P k l w) {j : Nat} (hj : j < l.sz) : (w.cell? ⟨l.cb, j, none⟩).isSome = true := by
  obtain ⟨cs, e, lo, hi, hh, hs, _, hf⟩ := h
  simp only [World.cell?, hh]
  simp
  omega
theorem Wrote.tr {c : Nat} {a b d : World} (h : Wrote c a b) (k : Wrote c b d) : Wrote c a d :=
  ⟨k.os.trans h.os, k.tape.trans h.tape, k.output.trans h.output, k.size.trans h.size, fun x hx => (k.blk x hx).trans (h.blk x hx), Nat.le_trans h.drawn k.drawn⟩
theorem drew_wrote (c : Nat) (w : World) : Wrote c w w.drew := ⟨rfl, rfl, rfl, rfl, fun _ _ => rfl, Nat.le_succ _⟩
theorem ins_blk {E : Env} {row xs row' xs' : List Value} (hr : LRel E row row') (hx : LRel E xs xs') {w2 : World} {cb s i : Nat} (hi : i * 3 ≤ row.length) (hxl : xs.length = 3)
    (c1 : ∀ j v, j < i * 3 → row'[j]? = some v → w2.cell? ⟨cb, s + j, none⟩ = some v) (c2 : ∀ j v, xs'[j]? = some v → w2.cell? ⟨cb, s + i * 3 + j, none⟩ = some v)
    (c3 : ∀ j v, (row'.drop (i * 3))[j]? = some v → w2.cell? ⟨cb, s + (i + 1) * 3 + j, none⟩ = some v) :
    ∀ (k : Nat) v, (row.take (i * 3) ++ (xs ++ row.drop (i * 3)))[k]? = some v → ∃ v', w2.cell? ⟨cb, s + k, none⟩ = some v' ∧ VR E v v' := by
  intro k v hk
  have hlt : (row.take (i * 3)).length = i * 3 := by rw [List.length_take]; omega
  rcases Nat.lt_or_ge k (i * 3) with h1 | h1
  · rw [List.getElem?_append_left (by omega), List.getElem?_take, if_pos h1] at hk
    obtain ⟨v', h2, h3⟩ := hr.2 k v hk
    exact ⟨v', c1 k v' h1 h2, h3⟩
  · rw [List.getElem?_append_right (by omega), hlt] at hk
    rcases Nat.lt_or_ge (k - i * 3) 3 with h2 | h2
    · rw [List.getElem?_append_left (by omega)] at hk
      obtain ⟨v', h3, h4⟩ := hx.2 _ v hk
      refine ⟨v', ?_, h4⟩
      have := c2 _ v' h3
      rwa [show s + i * 3 + (k - i * 3) = s + k by omega] at this
    · rw [List.getElem?_append_right (by omega), hxl, List.getElem?_drop] at hk
      obtain ⟨v', h3, h4⟩ := hr.2 _ v hk
      refine ⟨v', ?_, h4⟩
      have := c3 (k - i * 3 - 3) v' (by rw [List.getElem?_drop]; exact h3)
      rwa [show s + (i + 1) * 3 + (k - i * 3 - 3) = s + k by omega] at this
theorem set_in {w : World} {b o : Nat} {vs : List Value} (h : ∀ j, j < vs.length → (w.cell? ⟨b, o + j, none⟩).isSome = true) {j : Nat} {v : Value} (hv : vs[j]? = some v) : (w.setCells b o vs).cell? ⟨b, o + j, none⟩ = some v := by
  obtain ⟨hj, e⟩ := List.getElem?_eq_some_iff.1 hv
  rw [World.cell?_setCells_in b vs o w h j hj, e]
theorem set_out {w : World} {b o k : Nat} {vs : List Value} (h : k < o ∨ o + vs.length ≤ k) : (w.setCells b o vs).cell? ⟨b, k, none⟩ = w.cell? ⟨b, k, none⟩ :=
  World.cell?_setCells_out b vs o w _ (fun _ _ => h)
theorem alloc_pushed (w : World) (o : Obj) : Pushed w (w.alloc o) :=
  ⟨rfl, rfl, rfl, by show (w.heap.push o).size = _; rw [Array.size_push], fun c hc => by show (w.heap.push o)[c]? = _; rw [Array.getElem?_push, if_neg (by omega)], Nat.le_refl _⟩
theorem Pushed.wr {w a d : World} (h : Pushed w a) (k : Wrote w.heap.size a d) : Pushed w d :=
  ⟨k.os.trans h.os, k.tape.trans h.tape, k.output.trans h.output, k.size.trans h.size, fun c hc => (k.blk c (by omega)).trans (h.blk c hc), Nat.le_trans h.drawn k.drawn⟩
theorem insRow_size (w : World) (n c i : Nat) (cs : List Value) (hi : i < n) (hl : cs.length = n * 3) : (insRow w n c i cs).size = grownCap w (n + 1) c 68 * 3 := by
  have hg : n + 1 ≤ grownCap w (n + 1) c 68 := grownCap_ge w _ _ _
  unfold insRow
  rw [Array.size_append, Array.size_append, zc_size, zc_size, List.size_toArray, List.length_take, hl]
  omega
theorem insRow_at (w : World) (n c i : Nat) (cs : List Value) {j : Nat} (hj : j < i * 3) (hl : i * 3 ≤ cs.length) : (insRow w n c i cs)[j]? = cs[j]? := by
  unfold insRow
  have h1 : j < ((cs.take (i * 3)).toArray).size := by rw [List.size_toArray, List.length_take]; omega
  rw [Array.append_assoc, Array.getElem?_append_left h1, List.getElem?_toArray, List.getElem?_take, if_pos hj]
theorem ins_sound (base : Nat) (args : Array Value) (h : Heap) (v : Value) (h' : Heap) (E : Env) (w : World) (args' : Array Value) (hv : insX args h = some (v, h')) (hR : Rel Tryd.prog base E h w) (ha : ARel E args args') (hfree : Free E h h') :
    Calls Tryd.prog 63 args' w fun e w' => ∃ v' E', e = .returned v' ∧ Post Tryd.prog base E h w E' h' w' ∧ VR E' v v' := by
  have three : ∀ x y z, args.toList = [x, y, z] → ∃ x' y' z', args' = #[x', y', z'] ∧ VR E x x' ∧ VR E y y' ∧ VR E z z' := fun x y z he => by
    have hl := ha.list
    rw [he] at hl
    obtain ⟨x', h1, r1⟩ := hl.2 0 x rfl
    obtain ⟨y', h2, r2⟩ := hl.2 1 y rfl
    obtain ⟨z', h3, r3⟩ := hl.2 2 z rfl
    have h4 := hl.1
    refine ⟨x', y', z', ?_, r1, r2, r3⟩
    obtain ⟨l⟩ := args'
    match l, h4, h1, h2, h3 with
    | [a, b, c], _, h1, h2, h3 => cases h1; cases h2; cases h3; rfl
  unfold insX at hv
  split at hv
  · rename_i a n c i vb he
    obtain ⟨x', y', z', rfl, r1, r2, r3⟩ := three _ _ _ he
    have hy : y' = .int .i64 i := by cases r2; rfl
    subst hy
    have r30 := r3
    rcases r3.slice_inv with ⟨lz, cz, ez, _, _, _, rfl⟩ | ⟨h0, _⟩
    rotate_left
    · omega
    split at hv
    · rename_i hin
      subst hin
      split at hv
      · rename_i hn
        obtain ⟨E', w', v', g1, g2, g3⟩ := appendV_run (t2 := 63) (ts := #[63, 63]) hR rfl hfree hv r1 r30
        have fin : ∀ e w2, e = Ending.returned v' ∧ w2 = w' → ∃ v' E', e = .returned v' ∧ Post Tryd.prog base E h w E' h' w2 ∧ VR E' v v' := fun e w2 ⟨q1, q2⟩ => ⟨v', E', q1, by rw [q2]; exact g2, g3⟩
        cases r1 with
        | sliceNil => exact (ins_endN _ lz.cb (lz.s + 0) cz w w' v' rfl g1).mono fin
        | slice q1 q2 q3 q4 => exact (ins_end _ n _ _ lz.cb (lz.s + 0) cz w w' v' q3 (by omega) rfl g1).mono fin
        | sliceEmpty q => exact (ins_end _ 0 0 _ lz.cb (lz.s + 0) cz w w' v' (Nat.le_refl _) (by omega) rfl g1).mono fin
      · cases hv
    · split at hv
      · rename_i hne hc
        obtain ⟨i0, i1, n40, hcap⟩ := hc
        obtain ⟨i, rfl⟩ : ∃ k : Nat, i = k := ⟨i.toNat, by omega⟩
        rw [Int.toNat_natCast] at hv
        split at hv
        · rename_i b o
          split at hv
          · rename_i cs ty xs ty2 hk hkv
            split at hv
            · rename_i hc2
              obtain ⟨rfl, rfl, hbv, hle, hxl, hx1, hc1⟩ := hc2
              simp only [Option.some.injEq, Prod.mk.injEq] at hv
              obtain ⟨rfl, rfl⟩ := hv
              rcases r1.slice_inv with ⟨l, c', e1, e2, e3, e4, rfl⟩ | ⟨h0, _⟩
              rotate_left
              · omega
              have hin : i < n := by omega
              have hfr : E h.blks.length = none := hfree _ (Nat.le_refl _) (by rw [Heap.new_len, Heap.put_len]; omega)
              have hsz3 : sizeT Tryd.prog 68 = some 3 := by kernel_rfl
              have hblk := hR.blk b _ l hk e1
              have hblz := hR.blk vb _ lz hkv ez
              have hes : l.es = 3 := by have := hblk.1; simp only at this; rw [hsz3] at this; simpa using this.symm
              have hez : lz.es = 3 := by have := hblz.1; simp only at this; rw [hsz3] at this; simpa using this.symm
              have own := hblk.2.2 rfl
              have ownz := hblz.2.2 rfl
              have hcb : lz.cb ≠ l.cb := fun e => hbv (hR.inj b vb _ _ l lz hk hkv e1 ez rfl rfl trivial trivial e.symm)
              have hload : h.loadN b o (n * 3) = some ((cs.drop o).take (n * 3)) := by
                unfold Heap.loadN Heap.cells?
                simp only [hk]
                rw [if_pos hle]
              have hloadv : h.loadN vb 0 3 = some xs := by
                unfold Heap.loadN Heap.cells?
                simp only [hkv]
                rw [if_pos (by omega), List.drop_zero, List.take_of_length_le (by omega)]
              obtain ⟨row', hr, hcell⟩ := loadN_read hR hload e1
              obtain ⟨xs', hx, hcellx⟩ := loadN_read hR hloadv ez
              have hrl : ((cs.drop o).take (n * 3)).length = n * 3 := by rw [List.length_take, List.length_drop]; omega
              have hr'l : row'.length = n * 3 := by rw [← hr.1]; exact hrl
              have hx'l : xs'.length = 3 := by rw [← hx.1]; exact hxl
              have h1c : ∀ v ∈ row', v.oneCell' = true := hr.all_one hc1
              have h1v : ∀ v ∈ xs', v.oneCell' = true := hx.all_one hx1
              have hcs : ∀ j v, row'[j]? = some v → w.cell? ⟨l.cb, l.s + o + j, none⟩ = some v := fun j v hj => by rw [Nat.add_assoc]; exact hcell j v hj
              have hvs : ∀ j v, xs'[j]? = some v → w.cell? ⟨lz.cb, lz.s + 0 + j, none⟩ = some v := fun j v hj => by rw [Nat.add_assoc]; exact hcellx j v hj
              have htk : (cs.drop o).take (i * 3) = ((cs.drop o).take (n * 3)).take (i * 3) := by rw [List.take_take, Nat.min_eq_left (by omega)]
              rw [htk] at hfree ⊢
              clear htk
              generalize hrow : (cs.drop o).take (n * 3) = row at *
              rcases Nat.lt_or_ge c' (n + 1) with hgrow | hshift
              · have hG := grownCap_ge w (n + 1) c' 68
                have hsz := insRow_size w n c' i row' hin hr'l
                have hat : ∀ j, j < i * 3 → (insRow w n c' i row')[j]? = row'[j]? := fun j hj => insRow_at w n c' i row' hj (by omega)
                refine (ins_grow l.cb (l.s + o) n c' i lz.cb (lz.s + 0) cz row' xs' w hin e3 hgrow (by omega) hr'l hx'l hcs hvs h1c h1v).mono ?_
                rintro e w' ⟨rfl, rfl⟩
                generalize hROW : insRow w n c' i row' = ROW at *
                generalize grownCap w (n + 1) c' 68 = G at *
                have pk := Post.kill hR hk e1 rfl trivial hblk.1
                have hpl : (h.put b .dead).blks.length = h.blks.length := Heap.put_len _ _ _
                have hA : ∀ j, (w.alloc (.cells ROW 68)).drew.cell? ⟨w.heap.size, j, none⟩ = ROW[j]? := fun j => World.cell?_alloc_at (w := w) ROW _ w.heap.size j rfl
                have hAs : ∀ j, j < G * 3 → ((w.alloc (.cells ROW 68)).drew.cell? ⟨w.heap.size, j, none⟩).isSome = true := fun j hj => by
                  rw [hA, Array.getElem?_eq_getElem (by omega)]; rfl
                have hd : (row'.drop (i * 3)).length = (n - i) * 3 := by rw [List.length_drop, hr'l, Nat.sub_mul]
                have hs2 : ∀ j, j < xs'.length → ((w.alloc (.cells ROW 68)).drew.cell? ⟨w.heap.size, i * 3 + j, none⟩).isSome = true := fun j hj => hAs _ (by omega)
                have hs1 : ∀ j, j < (row'.drop (i * 3)).length → (((w.alloc (.cells ROW 68)).drew.setCells w.heap.size (i * 3) xs').drew.cell? ⟨w.heap.size, (i + 1) * 3 + j, none⟩).isSome = true := fun j hj => by
                  show (((w.alloc (.cells ROW 68)).drew.setCells w.heap.size (i * 3) xs').cell? ⟨w.heap.size, (i + 1) * 3 + j, none⟩).isSome = true
                  rw [set_out (.inr (by omega))]
                  exact hAs _ (by omega)
                have pw : Pushed w ((((w.alloc (.cells ROW 68)).drew.setCells w.heap.size (i * 3) xs').drew).setCells w.heap.size ((i + 1) * 3) (row'.drop (i * 3))) :=
                  (alloc_pushed w _).wr ((((drew_wrote _ _).tr (setCells_far _ _ _ _)).tr (drew_wrote _ _)).tr (setCells_far _ _ _ _))
                have hh : (w.alloc (.cells ROW 68)).drew.heap[w.heap.size]? = some (.cells ROW 68 (0, 0)) := by
                  show (w.heap.push (.cells ROW 68))[w.heap.size]? = _
                  simp
                obtain ⟨c2, q2, s2⟩ := setCells_block w.heap.size xs' (i * 3) _ hh
                obtain ⟨c3, q3, s3⟩ := setCells_block w.heap.size (row'.drop (i * 3)) ((i + 1) * 3) (((w.alloc (.cells ROW 68)).drew.setCells w.heap.size (i * 3) xs').drew) q2
                have p2 := Post.new pk.rel (by rw [hpl]; exact hfr) (.cells (row.take (i * 3) ++ (xs ++ row.drop (i * 3)))) 68 ⟨w.heap.size, 0, G * 3, 3⟩ rfl pw ⟨hsz3, by
                  refine ins_blk hr hx (by omega) hxl (fun j v hj hv => ?_) (fun j v hv => ?_) (fun j v hv => ?_)
                  · rw [Nat.zero_add, set_out (.inl (by omega))]
                    show ((w.alloc (.cells ROW 68)).drew.setCells w.heap.size (i * 3) xs').cell? _ = _
                    rw [set_out (.inl hj), hA, hat j hj]
                    exact hv
                  · have hj := (List.getElem?_eq_some_iff.1 hv).1
                    rw [Nat.zero_add, set_out (.inl (by omega))]
                    exact set_in hs2 hv
                  · rw [Nat.zero_add]
                    exact set_in hs1 hv, fun _ => ⟨c3, _, 0, 0, q3, by rw [s3, s2, hsz], hsz3, .inl rfl⟩⟩
                have p3 := pk.trans p2 (Grow.put hk trivial _ rfl) (Grow.new _ _ _ (by simp [Body.kind])) (by intro x hx hx'; exact hfree x hx hx')
                refine ⟨_, _, rfl, p3, ?_⟩
                rw [hpl]
                have := VR.slice (E := E.upd h.blks.length ⟨w.heap.size, 0, G * 3, 3⟩) (b := h.blks.length) (o := 0) (n := n + 1) (c := UNK) (c' := G) (Env.upd_same _ _ _) (.inl rfl) hG (fun _ => by simp)
                simpa using this
              · -- in place
                have hU : c = UNK := by
                  rcases e2 with e | ⟨e, _⟩
                  · exact e
                  · rcases hcap with e' | e'
                    · exact e'
                    · omega
                have hb4 := e4 hU
                rw [hes] at hb4
                have hroom : l.s + o + (n + 1) * 3 ≤ l.sz := by
                  have : (n + 1) * 3 ≤ c' * 3 := Nat.mul_le_mul_right _ hshift
                  omega
                obtain ⟨tA, hsa⟩ := own_shape ownz
                obtain ⟨tB, hsb⟩ := own_shape own
                have hsp : ∀ j, j < (n + 1) * 3 → (w.cell? ⟨l.cb, l.s + o + j, none⟩).isSome = true := fun j hj => own_cell own (by omega)
                refine (ins_shift l.cb (l.s + o) n c' i lz.cb (lz.s + 0) cz row' xs' w hin (by omega) hshift hcb hr'l hx'l hcs hsp (fun j _ => own_frz own hes _) hvs h1c h1v tA tB lz.sz l.sz hsa hsb (by omega) (own_frz ownz hez _) (own_frz ownz hez _)).mono ?_
                rintro e w' ⟨rfl, rfl⟩
                have hd : (row'.drop (i * 3)).length = (n - i) * 3 := by rw [List.length_drop, hr'l, Nat.sub_mul]
                have hs1 : ∀ j, j < (row'.drop (i * 3)).length → (w.drew.cell? ⟨l.cb, l.s + o + (i + 1) * 3 + j, none⟩).isSome = true := fun j hj => by
                  rw [Nat.add_assoc (l.s + o)]; exact hsp _ (by omega)
                have hs2 : ∀ j, j < xs'.length → ((w.drew.setCells l.cb (l.s + o + (i + 1) * 3) (row'.drop (i * 3))).cell? ⟨l.cb, l.s + o + i * 3 + j, none⟩).isSome = true := fun j hj => by
                  rw [set_out (.inl (by omega)), Nat.add_assoc (l.s + o)]; exact hsp _ (by omega)
                refine ⟨_, _, rfl, Post.alias hR hfr hk e1 rfl trivial hblk.1 _ _ ⟨l.cb, l.s + o, l.sz, 3⟩ rfl (((drew_wrote _ _).tr (setCells_far _ _ _ _)).tr (setCells_far _ _ _ _)) ⟨hsz3, ?_, fun _ => ?_⟩, ?_⟩
                · refine ins_blk hr hx (by omega) hxl (fun j v hj hv => ?_) (fun j v hv => set_in hs2 hv) (fun j v hv => ?_)
                  · show ((w.drew.setCells l.cb (l.s + o + (i + 1) * 3) (row'.drop (i * 3))).setCells l.cb (l.s + o + i * 3) xs').cell? ⟨l.cb, l.s + o + j, none⟩ = some v
                    rw [set_out (.inl (by omega)), set_out (.inl (by omega))]
                    exact hcs j v hv
                  · show ((w.drew.setCells l.cb (l.s + o + (i + 1) * 3) (row'.drop (i * 3))).setCells l.cb (l.s + o + i * 3) xs').cell? ⟨l.cb, l.s + o + (i + 1) * 3 + j, none⟩ = some v
                    rw [set_out (.inr (by rw [hx'l]; omega))]
                    exact set_in hs1 hv
                · obtain ⟨c1, ee, lo, hi, hh, hsz, _, hfz⟩ := own
                  obtain ⟨c2, q2, s2⟩ := setCells_block l.cb (row'.drop (i * 3)) (l.s + o + (i + 1) * 3) w.drew hh
                  obtain ⟨c3, q3, s3⟩ := setCells_block l.cb xs' (l.s + o + i * 3) _ q2
                  exact ⟨c3, ee, lo, hi, q3, by rw [s3, s2, hsz], hsz3, by show lo = hi ∨ l.sz ≤ lo ∧ 3 = 1; rw [← hes]; exact hfz⟩
                · have := VR.slice (E := E.upd h.blks.length ⟨l.cb, l.s + o, l.sz, 3⟩) (b := h.blks.length) (o := 0) (n := n + 1) (c := UNK) (c' := c') (Env.upd_same _ _ _) (.inl rfl) hshift (fun _ => by simpa using hb4)
                  simpa using this
            · cases hv
          · cases hv
        · cases hv
      · cases hv
  · cases hv
end Go.Am
