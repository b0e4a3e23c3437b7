/- What the functions answer, in the machine. -/
import Derived.Test.YtclpkcampbhbdaaDoorKD
set_option linter.all false
namespace Go.Am
open Go.Proofs
set_option maxRecDepth 100000
set_option linter.all false
attribute [local congr] obind_congr obH_congr cnd_congr chk_congr retK_congr codeK_congr
def Old (n : Nat) (h h' : Heap) : Prop := h.blks.length ≤ h'.blks.length ∧ ∀ b, b < n → h'.blks[b]? = h.blks[b]?
theorem Old.refl (n : Nat) (h : Heap) : Old n h h := ⟨Nat.le_refl _, fun _ _ => rfl⟩
theorem Old.trans {n : Nat} {a b c : Heap} (h : Old n a b) (k : Old n b c) : Old n a c := ⟨Nat.le_trans h.1 k.1, fun i hi => (k.2 i hi).trans (h.2 i hi)⟩
theorem Same.to {n : Nat} {h h' : Heap} (s : Same h h') (hn : n ≤ h.blks.length) : Old n h h' := ⟨s.1, fun b hb => s.2 b (Nat.lt_of_lt_of_le hb hn)⟩
theorem HMod.to {n p : Nat} {h h' : Heap} (m : HMod (Just p) h h') (hp : n ≤ p) (hn : n ≤ h.blks.length) : Old n h h' := ⟨m.len, fun b hb => m.old b (Nat.lt_of_lt_of_le hb hn) (fun e => by have : b = p := e; omega)⟩
theorem Sl.old {P : Program} {k : Nat} {h h' : Heap} {es n : Nat} {v : Value} {cs : List Value} (r : Sl P h es v n cs) (o : Old k h h') (hv : Lo v k) : Sl P h' es v n cs := r.keep fun b _ hb => o.2 b (hv b hb)
theorem Cells.old {k : Nat} {h h' : Heap} {p : Nat} {ty : TypeId} {cs : List Value} (c : Cells h p ty cs) (o : Old k h h') (hp : p < k) : Cells h' p ty cs := (o.2 p hp).trans c
def encE (e : E3) : List UInt8 := putL e.f.toNat ++ (putL e.n ++ putL e.t)
def encL (es : List E3) : List UInt8 := (es.map encE).flatten
def logB (es : List E3) : List UInt8 := putL es.length ++ encL es
theorem encL_snoc (es : List E3) (e : E3) : encL (es ++ [e]) = encL es ++ encE e := by simp [encL]
theorem putL_le (n : Nat) (h : n < 2 ^ 64) : (putL n).length ≤ 10 := by
  rw [putL_len]; exact sizeN_le n 10 (Nat.lt_of_lt_of_le h (by decide)) (by omega)
theorem encE_le (e : E3) (h0 : e.f < 2 ^ 63) (h1 : e.n < 2 ^ 64) (h2 : e.t < 2 ^ 64) : (encE e).length ≤ 30 := by
  have a := putL_le e.f.toNat (by omega)
  have b := putL_le e.n h1
  have c := putL_le e.t h2
  simp only [encE, List.length_append]; omega
theorem encL_le : ∀ (es : List E3), (∀ e ∈ es, e.f < 2 ^ 63) → wide es → (encL es).length ≤ 30 * es.length
  | [], _, _ => Nat.le_refl _
  | e :: es, h, w => by
    have a := encL_le es (fun x hx => h x (by simp [hx])) (fun x hx => w x (by simp [hx]))
    have b := encE_le e (h e (by simp)) (w e (by simp)).1 (w e (by simp)).2
    simp only [encL, List.map_cons, List.flatten_cons, List.length_append, List.length_cons] at a ⊢
    omega
theorem put_loop18 {h0 h1 : Heap} {v : Value} {es : List E3} {p : Nat} (s : SE h1 v es) (hv : Lo v p) (hw : wide es) (hf : ∀ e ∈ es, 0 ≤ e.f ∧ e.f < 2 ^ 63) (hl : es.length < 2 ^ 32) (hn : h0.blks.length ≤ p) (hp1 : p ≤ h1.blks.length) :
    ∀ (m i : Nat), es.length - i = m → i ≤ es.length → ∀ (x : Nat → Value) (h : Heap),In h0.blks.length No (nm h0) h → Old p h1 h → Wr p h p (putL es.length ++ encL (es.take i)) →
    x 3 = .pointer (some ⟨p, 0, none⟩) → x 17 = v → x 18 = .int .i64 es.length → x 19 = .int .i64 i →
    ∃ a c h', lK c32_1 39 x h (blockK 0 (sK c32_2 (retK Tryd.f32 Tryd.prog h0))) = some (.slice a (logB es).length c, done h0 h') ∧ In h0.blks.length No (nm h0) h' ∧ AB h0.blks.length h' (.slice a (logB es).length c) (logB es) := by
  intro m
  have ll : ∀ i, (encL (es.take i)).length ≤ 30 * es.length := fun i => by
    have := encL_le (es.take i) (fun e he => (hf e (List.mem_of_mem_take he)).2) (fun e he => hw e (List.mem_of_mem_take he))
    have h2 : (es.take i).length ≤ es.length := by rw [List.length_take]; omega
    omega
  have l0 := putL_le es.length (by omega)
  induction m with
  | zero =>
    intro i e1 e2 x h hin ho w Ad As Au Av
    obtain rfl : i = es.length := by omega
    have := ll es.length
    rw [List.take_length] at w this
    obtain ⟨a, c, h2, q1, q2, q3⟩ := spec_WDone w (by rw [List.length_append]; omega)
    rw [lK_eq]
    refine ⟨a, c, h2, ?_, hin.trans (q2.inn (Nat.le_trans hin.le hin.len)), Acc.up q3 (Nat.le_trans hin.le hin.len)⟩
    simp -implicitDefEqProofs (disch := omega) only [↓c32_1_eq, ↓c32_2_eq,Ad,As,Au,Av, dcF, q1, ↓ret32, ↓cnd_true, ↓cnd_false, ↓Option.bind_some, ↓obH_some', bin_add, bin_sub, bin_mul, bin_lss, bin_leq, bin_gtr, bin_geq, bin_eql, bin_neq, un_not, un_neg, Option.bind_some, Option.bind_none, Option.map_some, cnd_true, cnd_false, pickV_true, pickV_false, gd_true, gd_false, gdV_true, gdV_false, gdH_true, gdH_false, gdS_true, gdS_false, wt_ff, wt_tt, wt_ft, wt_tf, wt_undef, obH_some', extractV_tuple, nilCheckV_ptr, againK_normal, againK_exit, againK_ret, blockK_normal, blockK_same, blockK_ret, seqK_normal, seqK_exit, seqK_ret, fin_done, if_true', if_false', Bool.not_true, Bool.not_false, idx0, idx1, idx2, idx3, idx4, chk_nil_l, chk_nil_r, done_nm, up_cons, up_nil, cond_true, cond_false, Nat.reduceBEq]
    rfl
  | succ m ih =>
    intro i hm hi x h hin ho w Ad As Au Av
    have hil : i < es.length := by omega
    have hph : p ≤ h.blks.length := Nat.le_trans hp1 ho.1
    obtain ⟨b, of, hb, hbl, e1, e2⟩ := s.at' (t := 63) (el := 68) (by kernel_rfl) (by kernel_rfl) hil
    obtain ⟨f1, _⟩ := e2 h (ho.2 b (hv b hb))
    obtain ⟨hA, hB, a1, a2, a3, a4, a5, a6⟩ := var_ent (n0 := p) hph es[i]
    have wd := hw es[i] (List.getElem_mem hil)
    have fd := hf es[i] (List.getElem_mem hil)
    have wlt := w.lt
    have bl := ll i
    have lt1 : ∀ {h' : Heap}, Cells h' h.blks.length 68 (entC es[i]) → h'.load1 h.blks.length 0 = some (.int .i64 es[i].f) ∧ h'.load1 h.blks.length (0 + 1) = some (.int .u64 es[i].n) ∧ h'.load1 h.blks.length (0 + 2) = some (.int .u64 es[i].t) := fun c => ⟨c.load 0, c.load 1, c.load 2⟩
    obtain ⟨l1, _, _⟩ := lt1 a3
    have wB := w.same a5
    have p1 := putL_le es[i].f.toNat (by omega)
    have p2 := putL_le es[i].n wd.1
    have p3 := putL_le es[i].t wd.2
    obtain ⟨hC, q1, q2, q3⟩ := spec_WNum wB (by have := a5.1; omega) es[i].f.toNat (by omega) (by rw [List.length_append]; omega)
    rw [Int.toNat_of_nonneg fd.1] at q1
    have hab := a5.1
    have a3C : Cells hC h.blks.length 68 (entC es[i]) := a3.mod q2 (fun e => by have : h.blks.length = p := e; omega)
    obtain ⟨_, l2, _⟩ := lt1 a3C
    have lC := q2.len
    obtain ⟨hD, r1, r2, r3⟩ := spec_WNum (q3.up (n1 := p) (by omega)) (by omega) es[i].n wd.1 (by simp only [List.length_append]; omega)
    have a3D : Cells hD h.blks.length 68 (entC es[i]) := a3C.mod r2 (fun e => by have : h.blks.length = p := e; omega)
    obtain ⟨_, _, l3⟩ := lt1 a3D
    have lD := r2.len
    obtain ⟨hE, s1, s2, s3⟩ := spec_WSet (r3.up (n1 := p) (by omega)) (by omega) es[i].t wd.2 (by simp only [List.length_append]; omega)
    have lE := s2.len
    have cv := fun h => cvI64 es[i].f h fd.1 fd.2
    have wi : IntKind.i64.wrap ((i : Int) + 1) = ((i + 1 : Nat) : Int) := by rw [wrap_i64] <;> omega
    have ht : es.take i ++ [es[i]] = es.take (i + 1) := by rw [List.take_succ, List.getElem?_eq_getElem hil]; rfl
    have hsn := encL_snoc (es.take i) es[i]
    rw [ht] at hsn
    have w2 : Wr p hE p (putL es.length ++ encL (es.take (i + 1))) := by
      have := s3.up (n1 := p) (by omega)
      rw [hsn]
      simpa [encE, List.append_assoc] using this
    have hb0 : ∀ b, b < h0.blks.length → Just p b → No b := fun b hb e => by have : b = p := e; omega
    have hin2 := (((hin.trans (In.dn (a4 No) hn)).trans (q2.inn (by omega) hb0)).trans (r2.inn (by omega) hb0)).trans (s2.inn (by omega) hb0)
    have ho2 := (((ho.trans (a5.to hph)).trans (q2.to (Nat.le_refl _) (by omega))).trans (r2.to (Nat.le_refl _) (by omega))).trans (s2.to (Nat.le_refl _) (by omega))
    rw [lK_eq]
    simp -implicitDefEqProofs (disch := omega) only [↓c32_1_eq, ↓c32_2_eq,Ad,As,Au,Av, dcT, e1, ldE, f1, Option.map_some, entA, a1, a2, faE0, faE1, faE2, ldI, ldU, ldS, l1, cv, q1, l2, r1, l3, s1, wi, ↓cnd_true, ↓cnd_false, ↓Option.bind_some, ↓obH_some', bin_add, bin_sub, bin_mul, bin_lss, bin_leq, bin_gtr, bin_geq, bin_eql, bin_neq, un_not, un_neg, Option.bind_some, Option.bind_none, Option.map_some, cnd_true, cnd_false, pickV_true, pickV_false, gd_true, gd_false, gdV_true, gdV_false, gdH_true, gdH_false, gdS_true, gdS_false, wt_ff, wt_tt, wt_ft, wt_tf, wt_undef, obH_some', extractV_tuple, nilCheckV_ptr, againK_normal, againK_exit, againK_ret, blockK_normal, blockK_same, blockK_ret, seqK_normal, seqK_exit, seqK_ret, fin_done, if_true', if_false', Bool.not_true, Bool.not_false, idx0, idx1, idx2, idx3, idx4, chk_nil_l, chk_nil_r, done_nm, up_cons, up_nil, cond_true, cond_false, Nat.reduceBEq]
    refine ih (i + 1) (by omega) (by omega) _ hE hin2 ho2 w2 ?_ ?_ ?_ ?_
    · exact Ad
    · exact As
    · exact Au
    · rfl
def putE (es : List E3) : List UInt8 := if goodE es then logB es else []
theorem good_f {es : List E3} (h : goodE es = true) : ∀ e ∈ es, 0 ≤ e.f ∧ e.f < 16 ∧ 0 < e.n ∧ e.t < 65536 := fun e he => by
  have := ((goodE_iff es).1 h).1 e he
  unfold mayE at this
  simpa [Bool.and_eq_true] using this
theorem spec_Put18 {h : Heap} {v : Value} {es : List E3} (s : SE h v es) (hw : wide es) (hl : es.length < 2 ^ 32) : ∃ a c h', evC Tryd.prog 32 #[.agg #[v]] h = some (.slice a (putE es).length c, h') ∧ HExt h h' ∧ AB h.blks.length h' (.slice a (putE es).length c) (putE es) := by
  rw [call32]
  have c1 := Cells.new (nm h) 65 [v]
  have s1 : SE ((nm h).new (.cells [v]) 65) v es := s.nm.keepNew _ _
  have k1 : In h.blks.length No (nm h) ((nm h).new (.cells [v]) 65) := In.new (h := nm h) (Nat.le_refl h.blks.length) _ _
  have e0 : (nm h).blks.length = h.blks.length := rfl
  have e1 : ((nm h).new (.cells [v]) 65).blks.length = h.blks.length + 1 := by simp [Heap.new]
  generalize hh : (nm h).new (.cells [v]) 65 = h1 at c1 s1 k1 e1
  rw [e0] at c1
  have lA : (h1.loadN h.blks.length 0 1).map (fun cs => Value.agg cs.toArray) = some (.agg #[v]) := by rw [c1.loadN (n := 1) rfl]; rfl
  obtain ⟨h2, q2,Ac⟩ := spec_Good s1 hw (by omega)
  have hx2 := Ac.len
  unfold putE
  cases hg : goodE es with
  | false =>
    rw [hg] at q2
    refine ⟨none, 0, _, ?_, done_ext' (k1.trans (Ac.inn (by omega))), Acc.done .nil⟩
    simp -implicitDefEqProofs (disch := omega) only [↓c32_0_eq, bxL, e0, hh, ldL, lA, q2, ↓ret32, ↓cnd_true, ↓cnd_false, ↓Option.bind_some, ↓obH_some', bin_add, bin_sub, bin_mul, bin_lss, bin_leq, bin_gtr, bin_geq, bin_eql, bin_neq, un_not, un_neg, Option.bind_some, Option.bind_none, Option.map_some, cnd_true, cnd_false, pickV_true, pickV_false, gd_true, gd_false, gdV_true, gdV_false, gdH_true, gdH_false, gdS_true, gdS_false, wt_ff, wt_tt, wt_ft, wt_tf, wt_undef, obH_some', extractV_tuple, nilCheckV_ptr, againK_normal, againK_exit, againK_ret, blockK_normal, blockK_same, blockK_ret, seqK_normal, seqK_exit, seqK_ret, fin_done, if_true', if_false', Bool.not_true, Bool.not_false, idx0, idx1, idx2, idx3, idx4, chk_nil_l, chk_nil_r, done_nm, up_cons, up_nil, cond_true, cond_false, Nat.reduceBEq]
    rfl
  | true =>
    rw [hg] at q2
    have hf := good_f hg
    obtain ⟨h3, q3,Ad, w3, n3⟩ := spec_NewWriter h2
    have s3 := (s1.ext Ac).ext Ad
    have c3 := (c1.ext Ac).ext Ad
    have l3 : h3.load1 h.blks.length 0 = some v := c3.load 0
    have hx3 := Ad.len
    obtain ⟨a, c, rfl⟩ := s.shape
    have cv := fun h => cvI64 (es.length : Int) h (by omega) (by omega)
    obtain ⟨h4, q4,Ae, w4⟩ := spec_WNum w3 (by omega) es.length (by omega) (by simp)
    have hx4 := Ae.len
    have lo : Lo (.slice a es.length c) h2.blks.length := (s1.ext Ac).lo
    have o4 : Old h2.blks.length h3 h4 := Ae.to (Nat.le_refl _) (by omega)
    have s4 : SE h4 (.slice a es.length c) es := Sl.old s3 o4 lo
    have l4 : h4.load1 h.blks.length 0 = some (.slice a es.length c) := (c3.old o4 (by omega)).load 0
    have k4 := ((k1.trans (Ac.inn (by omega))).trans (Ad.inn (by omega))).trans (Ae.inn (by omega) (fun b hb e => by have : b = h2.blks.length := e; omega))
    have lp := put_loop18 (h0 := h) s4 lo hw (fun e he => ⟨(hf e he).1, by have := (hf e he).2.1; omega⟩) hl (by omega) (by omega) es.length 0 (by omega) (by omega)
    have fin' : ∀ {r : Option (Value × Heap)}, (∃ a c h', r = some (.slice a (logB es).length c, done h h') ∧ In h.blks.length No (nm h) h' ∧ AB h.blks.length h' (.slice a (logB es).length c) (logB es)) → ∃ a c h', r = some (.slice a (logB es).length c, h') ∧ HExt h h' ∧ AB h.blks.length h' (.slice a (logB es).length c) (logB es) := fun ⟨a, c, h', g1, g2, g3⟩ => ⟨a, c, _, g1, done_ext' g2, Acc.done g3⟩
    simp only [if_true]
    simp -implicitDefEqProofs (disch := omega) only [↓c32_0_eq, bxL, e0, hh, ldL, lA, q2, q3, faL, ldEs, l3, lnEs, cv, q4, l4, ↓cnd_true, ↓cnd_false, ↓Option.bind_some, ↓obH_some', bin_add, bin_sub, bin_mul, bin_lss, bin_leq, bin_gtr, bin_geq, bin_eql, bin_neq, un_not, un_neg, Option.bind_some, Option.bind_none, Option.map_some, cnd_true, cnd_false, pickV_true, pickV_false, gd_true, gd_false, gdV_true, gdV_false, gdH_true, gdH_false, gdS_true, gdS_false, wt_ff, wt_tt, wt_ft, wt_tf, wt_undef, obH_some', extractV_tuple, nilCheckV_ptr, againK_normal, againK_exit, againK_ret, blockK_normal, blockK_same, blockK_ret, seqK_normal, seqK_exit, seqK_ret, fin_done, if_true', if_false', Bool.not_true, Bool.not_false, idx0, idx1, idx2, idx3, idx4, chk_nil_l, chk_nil_r, done_nm, up_cons, up_nil, cond_true, cond_false, Nat.reduceBEq]
    refine fin' (lp _ _ k4 (Old.refl _ _) ?_ ?_ ?_ ?_ ?_)
    · rw [List.take_zero, show encL [] = [] from rfl, List.append_nil, ← List.nil_append (putL es.length)]; exact w4.up (by omega)
    all_goals rfl
end Go.Am
namespace Go.Am
theorem chk_ne {β : Type} {r m : List Nat} (h : ∀ b ∈ r, ∀ x ∈ m, b ≠ x) (x : Option β) : chk r m x = x := by
  have : (r.all fun b => !m.contains b) = true := by
    rw [List.all_eq_true]
    intro b hb
    rw [Bool.not_eq_true', ← Bool.not_eq_true, List.contains_iff_mem]
    exact fun hm => h b hb b hm rfl
  unfold chk; rw [this]
theorem HMod.mods_nm {S : Nat → Prop} {h h' : Heap} (e : HMod S (Am.nm h) h') : ∀ m ∈ h'.mods, S m := by
  obtain ⟨d, e1, e2⟩ := e.mods
  intro m hm
  rw [e1] at hm
  rcases List.mem_append.1 hm with hm | hm
  · exact (e2 m hm).1
  · cases hm
theorem HMod.amx {S : Nat → Prop} {h h' : Heap} (e : HMod S (Am.nm h) h') : HMod S h (Am.am h' h) := by
  obtain ⟨d, e1, e2⟩ := e.mods
  refine ⟨e.len, e.old, d, ?_, e2⟩
  show h'.mods ++ h.mods = d ++ h.mods
  rw [e1]; simp
theorem rb_ptr (b o : Nat) : rb (.pointer (some ⟨b, o, Option.none⟩)) = [b] := rfl
end Go.Am
namespace Go.Am
theorem same_np (h : Heap) (b c : Body) (ty : TypeId) : Same h ((h.new b ty).put h.blks.length c) := by
  refine ⟨by rw [Heap.put_len]; simp [Heap.new], fun i hi => ?_⟩
  rw [Heap.put_other (by omega), Heap.new_old hi]
def rdE (most : Nat) (r : Option (List UInt8)) : E3 × Option (List UInt8) :=
  (⟨(numP r most).1, (numP (numP r most).2 (2 ^ 64 - 1)).1, (numP (numP (numP r most).2 (2 ^ 64 - 1)).2 65535).1⟩, (numP (numP (numP r most).2 (2 ^ 64 - 1)).2 65535).2)
def rdN : Nat → Option (List UInt8) → List E3 × Option (List UInt8)
  | 0, r => ([], r)
  | n + 1, r => ((rdE 16 r).1 :: (rdN n (rdE 16 r).2).1, (rdN n (rdE 16 r).2).2)
def logOf (x : List E3 × Option (List UInt8)) : Option (List E3) := if endP x.2 = true ∧ goodE x.1 = true then some x.1 else none
def getP (bs : List UInt8) : Option (List E3) := logOf (rdN (numP (some bs) bs.length).1 (numP (some bs) bs.length).2)
theorem rdN_len : ∀ (n : Nat) (r : Option (List UInt8)), (rdN n r).1.length = n
  | 0, _ => rfl
  | n + 1, r => by simp only [rdN, List.length_cons, rdN_len n]
theorem rdE_wide (m : Nat) (r : Option (List UInt8)) : (rdE m r).1.n < 2 ^ 64 ∧ (rdE m r).1.t < 2 ^ 64 := ⟨(numP_le _ _).2.1, (numP_le _ _).2.1⟩
theorem rdN_wide : ∀ (n : Nat) (r : Option (List UInt8)), wide (rdN n r).1
  | 0, _ => fun e he => (List.not_mem_nil he).elim
  | n + 1, r => fun e he => by
    simp only [rdN] at he
    rcases List.mem_cons.1 he with rfl | he
    · exact rdE_wide 16 r
    · exact rdN_wide n _ e he
theorem getP_len (bs : List UInt8) : ((getP bs).getD []).length ≤ bs.length := by
  unfold getP logOf
  have n1 := (numP_le (some bs) bs.length).1
  split
  · rw [Option.getD_some, rdN_len]; exact n1
  · exact Nat.zero_le _
end Go.Am
namespace Go.Am
open Go.Proofs
set_option maxRecDepth 100000
set_option linter.all false
attribute [local congr] obind_congr obH_congr cnd_congr chk_congr retK_congr codeK_congr
theorem stEs (p : Nat) (a : Option Addr) (n c : Nat) (h : Heap) : storeV Tryd.prog 63 (.pointer (some ⟨p, 0, none⟩)) (.slice a n c) h = h.storeN p 0 [.slice a n c] := by kernel_rfl
theorem bdL0 : buildV Tryd.prog 65 #[] = some (.agg #[.slice none 0 0]) := by kernel_rfl
theorem lnB8 (a : Option Addr) (n c : Nat) (h : Heap) : lenV Tryd.prog 40 (.slice a n c) h = some (.int .i64 n) := by kernel_rfl
theorem setP_num (r : Option (List UInt8)) : setP r (allN 16) = numP r 65535 := by
  cases r with
  | none => rfl
  | some bs =>
    have h := getL_lt bs
    have o := out16 (getL bs).1 h
    simp only [setP, numP]
    have : (outB (getL bs).1 (allN 16) ≠ 0) ↔ 65535 < (getL bs).1 := by
      have := decide_eq_decide.1 o
      constructor
      · intro h1; refine Classical.byContradiction fun h2 => h1 (this.2 (by omega))
      · intro h1 h2; have := this.1 h2; omega
    simp only [this]
theorem RdrL.old {L k : Nat} {h h' : Heap} {p : Nat} {r : Option (List UInt8)} (w : RdrL L h p r) (o : Old k h h') (hp : p < k) : RdrL L h' p r :=
  let ⟨a, c, x, y, z⟩ := w
  ⟨a, c, x.old o hp, y.old o fun b hb => by have := (z b hb).2; omega, z⟩
theorem amSame (h' h : Heap) : Same h' (am h' h) := ⟨Nat.le_refl _, fun _ _ => rfl⟩
theorem get_loop18 {h0 h1 : Heap} {p0 p p2 : Nat} (hn : h0.blks.length ≤ p0) (hp : p0 < p) (hp2 : p < p2) (hp3 : p2 < h1.blks.length) :
    ∀ (n : Nat) (r : Option (List UInt8)) (acc : List E3), (rbs r).length < 2 ^ 30 → acc.length + n < 2 ^ 32 → wide acc → ∀ (x : Nat → Value) (h : Heap) (a : Option Addr) (c : Nat),In h0.blks.length No (nm h0) h → h1.blks.length ≤ h.blks.length → Cells h p0 65 [.slice none 0 0] → Rdr h p r → Cells h p2 65 [.slice a acc.length c] → AE h1.blks.length h (.slice a acc.length c) acc →
    x 2 = .pointer (some ⟨p0, 0, none⟩) → x 4 = .pointer (some ⟨p, 0, none⟩) → x 5 = .pointer (some ⟨p2, 0, none⟩) → x 6 = .int .u64 n →
    ∃ a' c' h', lK c46_1 42 x h (blockK 0 (sK c46_2 (retK Tryd.f46 Tryd.prog h0))) = some (.tuple #[.agg #[.slice a' ((logOf (acc ++ (rdN n r).1, (rdN n r).2)).getD []).length c'], .bool (logOf (acc ++ (rdN n r).1, (rdN n r).2)).isSome], done h0 h') ∧ In h0.blks.length No (nm h0) h' ∧ AE h1.blks.length h' (.slice a' ((logOf (acc ++ (rdN n r).1, (rdN n r).2)).getD []).length c') ((logOf (acc ++ (rdN n r).1, (rdN n r).2)).getD []) := by
  intro n
  induction n with
  | zero =>
    intro r acc hr hl hw x h a c hin hlen c0 w c2 ha Ac Ae Af Ag
    have e1 := spec_REnd w
    simp only [rdN, List.append_nil]
    rw [lK_eq]
    have hz : ((0 : Nat) : Int) = 0 := rfl
    have bad : ∀ {h2 : Heap}, Old h1.blks.length h h2 → In h0.blks.length No (nm h0) h2 → ∃ h3, storeV Tryd.prog 65 (.pointer (some ⟨p0, 0, none⟩)) (.agg #[.slice none 0 0]) h2 = some h3 ∧ (h3.loadN p0 0 1).map (fun cs => Value.agg cs.toArray) = some (.agg #[.slice none 0 0]) ∧ In h0.blks.length No (nm h0) h3 := fun {h2} o k => by
      have d := c0.old o (by omega)
      have d2 := d.put [.slice none 0 0]
      refine ⟨h2.put p0 (.cells [.slice none 0 0]), ?_, ?_, k.trans (In.put (Nat.le_trans k.le k.len) (.inl hn) _)⟩
      · rw [stL, storeN_blk d (by simp)]; rfl
      · rw [d2.loadN (n := 1) rfl]; rfl
    cases hE : endP r with
    | false =>
      rw [hE] at e1
      obtain ⟨h3, g1, g2, g3⟩ := bad (Old.refl _ h) hin
      have hlo : logOf (acc, r) = none := by unfold logOf; rw [if_neg (by simp [hE])]
      rw [hlo]
      refine ⟨none, 0, h3, ?_, g3, AE.nil _ _⟩
      simp -implicitDefEqProofs (disch := omega) only [↓c46_1_eq, ↓c46_2_eq,Ac,Ae,Af,Ag, hz, dcF, e1, bdL0, g1, ldL, g2, Option.bind_some, rvals, ↓ret46, ↓cnd_true, ↓cnd_false, ↓Option.bind_some, ↓obH_some', bin_add, bin_sub, bin_mul, bin_lss, bin_leq, bin_gtr, bin_geq, bin_eql, bin_neq, un_not, un_neg, Option.bind_some, Option.bind_none, Option.map_some, cnd_true, cnd_false, pickV_true, pickV_false, gd_true, gd_false, gdV_true, gdV_false, gdH_true, gdH_false, gdS_true, gdS_false, wt_ff, wt_tt, wt_ft, wt_tf, wt_undef, obH_some', extractV_tuple, nilCheckV_ptr, againK_normal, againK_exit, againK_ret, blockK_normal, blockK_same, blockK_ret, seqK_normal, seqK_exit, seqK_ret, fin_done, if_true', if_false', Bool.not_true, Bool.not_false, idx0, idx1, idx2, idx3, idx4, chk_nil_l, chk_nil_r, done_nm, up_cons, up_nil, cond_true, cond_false, Nat.reduceBEq]
      rfl
    | true =>
      rw [hE] at e1
      obtain ⟨h2, q2, y2⟩ := spec_Good ha.se hw (by omega)
      have lA : (h.loadN p2 0 1).map (fun cs => Value.agg cs.toArray) = some (.agg #[.slice a acc.length c]) := by rw [c2.loadN (n := 1) rfl]; rfl
      have k2 := hin.trans (y2.inn (Nat.le_trans hin.le hin.len))
      have o2 : Old h1.blks.length h h2 := y2.same.to hlen
      cases hg : goodE acc with
      | false =>
        rw [hg] at q2
        obtain ⟨h3, g1, g2, g3⟩ := bad o2 k2
        have hlo : logOf (acc, r) = none := by unfold logOf; rw [if_neg (by simp [hg])]
        rw [hlo]
        refine ⟨none, 0, h3, ?_, g3, AE.nil _ _⟩
        simp -implicitDefEqProofs (disch := omega) only [↓c46_1_eq, ↓c46_2_eq,Ac,Ae,Af,Ag, hz, dcF, e1, ldL, lA, q2, bdL0, g1, g2, Option.bind_some, rvals, ↓ret46, ↓cnd_true, ↓cnd_false, ↓Option.bind_some, ↓obH_some', bin_add, bin_sub, bin_mul, bin_lss, bin_leq, bin_gtr, bin_geq, bin_eql, bin_neq, un_not, un_neg, Option.bind_some, Option.bind_none, Option.map_some, cnd_true, cnd_false, pickV_true, pickV_false, gd_true, gd_false, gdV_true, gdV_false, gdH_true, gdH_false, gdS_true, gdS_false, wt_ff, wt_tt, wt_ft, wt_tf, wt_undef, obH_some', extractV_tuple, nilCheckV_ptr, againK_normal, againK_exit, againK_ret, blockK_normal, blockK_same, blockK_ret, seqK_normal, seqK_exit, seqK_ret, fin_done, if_true', if_false', Bool.not_true, Bool.not_false, idx0, idx1, idx2, idx3, idx4, chk_nil_l, chk_nil_r, done_nm, up_cons, up_nil, cond_true, cond_false, Nat.reduceBEq]
        rfl
      | true =>
        rw [hg] at q2
        have hlo : logOf (acc, r) = some acc := by unfold logOf; rw [if_pos ⟨hE, hg⟩]
        rw [hlo]
        have d := c0.old o2 (by omega)
        have d2 := d.put [.slice a acc.length c]
        have lB : (h2.loadN p2 0 1).map (fun cs => Value.agg cs.toArray) = some (.agg #[.slice a acc.length c]) := by rw [(c2.old o2 hp3).loadN (n := 1) rfl]; rfl
        have lD : (Heap.loadN (h2.put p0 (.cells [.slice a acc.length c])) p0 0 1).map (fun cs => Value.agg cs.toArray) = some (.agg #[.slice a acc.length c]) := by rw [d2.loadN (n := 1) rfl]; rfl
        refine ⟨a, c, h2.put p0 (.cells [.slice a acc.length c]), ?_, k2.trans (In.put (Nat.le_trans k2.le k2.len) (.inl hn) _), (ha.same y2.same).keepPut (fun e => by have := ha.ge e; omega) _⟩
        simp -implicitDefEqProofs (disch := omega) only [↓c46_1_eq, ↓c46_2_eq,Ac,Ae,Af,Ag, hz, dcF, e1, ldL, lA, q2, lB, stL, storeN_blk d (o := 0) (vs := [.slice a acc.length c]) (by simp), List.take_zero, List.nil_append, List.append_nil, List.length_cons, List.length_nil, List.drop_succ_cons, List.drop_zero, Nat.zero_add, lD, Option.bind_some, rvals, Option.getD_some, Option.isSome_some, ↓ret46, ↓cnd_true, ↓cnd_false, ↓Option.bind_some, ↓obH_some', bin_add, bin_sub, bin_mul, bin_lss, bin_leq, bin_gtr, bin_geq, bin_eql, bin_neq, un_not, un_neg, Option.bind_some, Option.bind_none, Option.map_some, cnd_true, cnd_false, pickV_true, pickV_false, gd_true, gd_false, gdV_true, gdV_false, gdH_true, gdH_false, gdS_true, gdS_false, wt_ff, wt_tt, wt_ft, wt_tf, wt_undef, obH_some', extractV_tuple, nilCheckV_ptr, againK_normal, againK_exit, againK_ret, blockK_normal, blockK_same, blockK_ret, seqK_normal, seqK_exit, seqK_ret, fin_done, if_true', if_false', Bool.not_true, Bool.not_false, idx0, idx1, idx2, idx3, idx4, chk_nil_l, chk_nil_r, done_nm, up_cons, up_nil, cond_true, cond_false, Nat.reduceBEq]
  | succ n ih =>
    intro r acc hr hl hw x h a c hin hlen c0 w c2 ha Ac Ae Af Ag
    have l2 : h.load1 p2 0 = some (.slice a acc.length c) := c2.load 0
    have n1 := numP_le r 16
    obtain ⟨hA, q1, y1, w1⟩ := spec_RNum w.nm 16 (by omega) (by omega)
    have m1 := y1.mods_nm
    have z1 := y1.amx
    have w1' := w1.same (amSame hA h)
    have n2 := numP_le (numP r 16).2 (2 ^ 64 - 1)
    obtain ⟨hB, q2, y2, w2⟩ := spec_RNum (h := nm (am hA h)) w1'.nm (2 ^ 64 - 1) (by omega) (by omega)
    have m2 := y2.mods_nm
    have z2 := y2.amx
    have w2' := w2.same (amSame hB (am hA h))
    have q3 := spec_All 16 (by omega) (nm (am hB (am hA h)))
    have n3 := numP_le (numP (numP r 16).2 (2 ^ 64 - 1)).2 65535
    obtain ⟨hC, q4, y4, w4⟩ := spec_RSet (h := nm (am hB (am hA h))) w2'.nm (allN 16) (by unfold allN; omega) (by omega)
    rw [setP_num] at q4 w4
    have m4 := y4.mods_nm
    have z4 := y4.amx
    have w4' := w4.same (amSame hC (am hB (am hA h)))
    have zz : HMod (Just p) h (am hC (am hB (am hA h))) := by
      refine ⟨Nat.le_trans (Nat.le_trans z1.len z2.len) z4.len, fun b hb hs => ((z4.old b (Nat.lt_of_lt_of_le hb (Nat.le_trans z1.len z2.len)) hs).trans (z2.old b (Nat.lt_of_lt_of_le hb z1.len) hs)).trans (z1.old b hb hs), ?_⟩
      obtain ⟨d1, g1, k1⟩ := z1.mods
      obtain ⟨d2, g2, k2⟩ := z2.mods
      obtain ⟨d3, g3, k3⟩ := z4.mods
      have hph := w.lt
      refine ⟨d3 ++ (d2 ++ d1), by rw [g3, g2, g1]; simp, fun m hm => ?_⟩
      have : Just p m := by
        rcases List.mem_append.1 hm with hm | hm
        · exact (k3 m hm).1
        · rcases List.mem_append.1 hm with hm | hm
          · exact (k2 m hm).1
          · exact (k1 m hm).1
      exact ⟨this, by have : m = p := this; omega⟩
    have cvv := fun h => cvU64 ((numP r 16).1 : Int) h (by omega) (by omega)
    have nb : ∀ b, Just p b → b < h0.blks.length → False := fun b e hb => by have : b = p := e; omega
    have hE : (rdE 16 r).1 = ⟨(numP r 16).1, (numP (numP r 16).2 (2 ^ 64 - 1)).1, (numP (numP (numP r 16).2 (2 ^ 64 - 1)).2 65535).1⟩ := rfl
    have kX := hin.trans (zz.inn (Nat.le_trans hin.le hin.len) fun b hb e => (nb b e hb).elim)
    have haX : AE h1.blks.length (am hC (am hB (am hA h))) (.slice a acc.length c) acc := ha.mod zz fun b hb e => by have := ha.ge hb; have : b = p := e; omega
    have cX2 := c2.mod zz (fun e => by have : p2 = p := e; omega)
    have cX0 := c0.mod zz (fun e => by have : p0 = p := e; omega)
    have lX := zz.len
    generalize hX : am hC (am hB (am hA h)) = hx at kX haX cX2 cX0 lX w4'
    obtain ⟨a', c', hD, g1, g2, g3, g4⟩ := app_ent etE (n0 := h1.blks.length) (by omega) haX (rdE 16 r).1 (by omega)
    have bs := bsE (rdE 16 r).1 hx
    rw [hE] at g1 bs
    have oD : Old h1.blks.length hx hD := ⟨g3.len, fun q hq => g4 q (by omega) (Acc.off haX (Nat.le_refl _) hq)⟩
    have dD2 := cX2.old oD hp3
    have dD0 := cX0.old oD (by omega)
    have wD := w4'.old oD (by omega)
    have cF := dD2.put [.slice a' (acc ++ [(rdE 16 r).1]).length c']
    have cF0 : Cells (hD.put p2 (.cells [.slice a' (acc ++ [(rdE 16 r).1]).length c'])) p0 65 [.slice none 0 0] := dD0.keepPut (by omega) _
    have wF := RdrL.keepPut wD hp2 (.cells [.slice a' (acc ++ [(rdE 16 r).1]).length c'])
    have aF : AE h1.blks.length (hD.put p2 (.cells [.slice a' (acc ++ [(rdE 16 r).1]).length c'])) (.slice a' (acc ++ [(rdE 16 r).1]).length c') (acc ++ [(rdE 16 r).1]) := Acc.keepPut g2 (fun e => by have := Acc.ge g2 e; omega) _
    have kD := kX.trans (Keeps.inn (S := No) (g3.dn (by omega)))
    have kF := kD.trans (In.put (S := No) (Nat.le_trans kD.le kD.len) (p := p2) (.inl (by omega)) (.cells [.slice a' (acc ++ [(rdE 16 r).1]).length c']))
    have hst := storeN_blk dD2 (o := 0) (vs := [.slice a' (acc ++ [(rdE 16 r).1]).length c']) (by simp)
    simp only [List.take_zero, List.nil_append, List.append_nil, List.length_cons, List.length_nil, List.drop_succ_cons, List.drop_zero, Nat.zero_add] at hst
    rw [hE] at hst
    have hlF : (hD.put p2 (.cells [.slice a' (acc ++ [(rdE 16 r).1]).length c'])).blks.length = hD.blks.length := Heap.put_len _ _ _
    have lD := g3.len
    have dn : decide (((n + 1 : Nat) : Int) > 0) = true := decide_eq_true (by omega)
    have wn : IntKind.u64.wrap (((n + 1 : Nat) : Int) - 1) = ((n : Nat) : Int) := by rw [wrap_u64] <;> omega
    have hrw : acc ++ (rdN (n + 1) r).1 = (acc ++ [(rdE 16 r).1]) ++ (rdN n (rdE 16 r).2).1 := by simp [rdN]
    have hr2 : (rdN (n + 1) r).2 = (rdN n (rdE 16 r).2).2 := rfl
    rw [show ((16 : Nat) : Int) = 16 from rfl] at q1 q3
    rw [show ((2 ^ 64 - 1 : Nat) : Int) = 18446744073709551615 from rfl] at q2
    have mall : ∀ b ∈ [p2], ∀ x ∈ hC.mods ++ (hB.mods ++ hA.mods), b ≠ x := fun b hb x hx e => by
      rw [List.mem_singleton] at hb
      have : Just p x := by
        rcases List.mem_append.1 hx with hx | hx
        · exact m4 x hx
        · rcases List.mem_append.1 hx with hx | hx
          · exact m2 x hx
          · exact m1 x hx
      have : x = p := this
      omega
    rw [lK_eq, hrw, hr2]
    simp -implicitDefEqProofs (disch := omega) only [↓c46_1_eq, ↓c46_2_eq,Ac,Ae,Af,Ag, dn, faL, ldEs, l2, q1, cvv, q2, q3, am_nm, nm_mods, List.nil_append, q4, hX, bdE3, show ([.int .i64 ((numP r 16).1 : Int), .int .u64 ((numP (numP r 16).2 (2 ^ 64 - 1)).1 : Int), .int .u64 ((numP (numP (numP r 16).2 (2 ^ 64 - 1)).2 65535).1 : Int)] : List Value) = entC ⟨(numP r 16).1, (numP (numP r 16).2 (2 ^ 64 - 1)).1, (numP (numP (numP r 16).2 (2 ^ 64 - 1)).2 65535).1⟩ from rfl, entA, bs, g1, stEs, hst, rb_ptr, List.append_nil, wn, ↓cnd_true, ↓cnd_false, ↓Option.bind_some, ↓obH_some', bin_add, bin_sub, bin_mul, bin_lss, bin_leq, bin_gtr, bin_geq, bin_eql, bin_neq, un_not, un_neg, Option.bind_some, Option.bind_none, Option.map_some, cnd_true, cnd_false, pickV_true, pickV_false, gd_true, gd_false, gdV_true, gdV_false, gdH_true, gdH_false, gdS_true, gdS_false, wt_ff, wt_tt, wt_ft, wt_tf, wt_undef, obH_some', extractV_tuple, nilCheckV_ptr, againK_normal, againK_exit, againK_ret, blockK_normal, blockK_same, blockK_ret, seqK_normal, seqK_exit, seqK_ret, fin_done, if_true', if_false', Bool.not_true, Bool.not_false, idx0, idx1, idx2, idx3, idx4, chk_nil_l, chk_nil_r, done_nm, up_cons, up_nil, cond_true, cond_false, Nat.reduceBEq]
    rw [chk_ne mall]
    refine ih (rdE 16 r).2 _ ?_ ?_ ?_ _ _ a' c' kF (by rw [Heap.put_len]; omega) cF0 wF cF aF ?_ ?_ ?_ ?_
    · unfold rdE; simp only; omega
    · rw [List.length_append, List.length_singleton]; omega
    · intro e he
      rcases List.mem_append.1 he with he | he
      · exact hw e he
      · rw [List.mem_singleton] at he; subst he; exact rdE_wide 16 r
    · exact Ac
    · exact Ae
    · exact Af
    · rfl
end Go.Am
namespace Go.Am
open Go.Proofs
set_option maxRecDepth 100000
set_option linter.all false
attribute [local congr] obind_congr obH_congr cnd_congr chk_congr retK_congr codeK_congr
theorem spec_Get18 {h : Heap} {v : Value} {bs : List UInt8} (s : SB h v bs) (hl : bs.length < 2 ^ 30) : ∃ a c h', evC Tryd.prog 46 #[v] h = some (.tuple #[.agg #[.slice a ((getP bs).getD []).length c], .bool (getP bs).isSome], h') ∧ HExt h h' ∧ AE h.blks.length h' (.slice a ((getP bs).getD []).length c) ((getP bs).getD []) := by
  rw [call46]
  have c1 := Cells.new (nm h) 65 [.slice none 0 0]
  have s1 : SB ((nm h).new (.cells [.slice none 0 0]) 65) v bs := s.nm.keepNew _ _
  have k1 : In h.blks.length No (nm h) ((nm h).new (.cells [.slice none 0 0]) 65) := In.new (h := nm h) (Nat.le_refl h.blks.length) _ _
  have e0 : (nm h).blks.length = h.blks.length := rfl
  have e1 : ((nm h).new (.cells [.slice none 0 0]) 65).blks.length = h.blks.length + 1 := by simp [Heap.new]
  generalize hh : (nm h).new (.cells [.slice none 0 0]) 65 = h1 at c1 s1 k1 e1
  rw [e0] at c1
  obtain ⟨h2, p, q2,Ac, w2, hp⟩ := spec_NewReader s1 (by omega)
  have hx2 := Ac.len
  have c2 := c1.ext Ac
  have k2 := k1.trans (Ac.inn (by omega))
  have c3 := c2.keepNew (.cells [.slice none 0 0]) 65
  have w3 := w2.same (Same.new h2 (.cells [.slice none 0 0]) 65)
  have k3 := k2.trans (In.new (S := No) (by omega) (.cells [.slice none 0 0]) 65)
  have d3 := Cells.new h2 65 [.slice none 0 0]
  have hp2 := w2.lt
  have n3 : (h2.new (.cells [.slice none 0 0]) 65).blks.length = h2.blks.length + 1 := by simp [Heap.new]
  generalize hh3 : h2.new (.cells [.slice none 0 0]) 65 = h3 at c3 w3 k3 d3 n3
  obtain ⟨va, vc, rfl⟩ := s.shape
  have n1 := numP_le (some bs) bs.length
  have hrb : (rbs (some bs)).length = bs.length := rfl
  rw [hrb] at n1
  obtain ⟨h4, q4, y4, w4⟩ := spec_RNum w3 bs.length (by omega) (by rw [hrb]; omega)
  have cv := fun h => cvI64 (bs.length : Int) h (by omega) (by omega)
  have k4 := k3.trans (y4.inn (by omega) (fun b hb e => by have : b = p := e; omega))
  have hy4 := y4.len
  have c4 := c3.mod y4 (fun e => by have : h.blks.length = p := e; omega)
  have d4 := d3.mod y4 (fun e => by have : h2.blks.length = p := e; omega)
  have lp := get_loop18 (h0 := h) (h1 := h4) (p0 := h.blks.length) (p := p) (p2 := h2.blks.length) (by omega) (by omega) (by omega) (by omega) (numP (some bs) bs.length).1 (numP (some bs) bs.length).2 [] (by omega) (by simp; omega) (fun e he => (List.not_mem_nil he).elim)
  have fin' : ∀ {r : Option (Value × Heap)}, (∃ a c h', r = some (.tuple #[.agg #[.slice a ((getP bs).getD []).length c], .bool (getP bs).isSome], done h h') ∧ In h.blks.length No (nm h) h' ∧ AE h4.blks.length h' (.slice a ((getP bs).getD []).length c) ((getP bs).getD [])) → ∃ a c h', r = some (.tuple #[.agg #[.slice a ((getP bs).getD []).length c], .bool (getP bs).isSome], h') ∧ HExt h h' ∧ AE h.blks.length h' (.slice a ((getP bs).getD []).length c) ((getP bs).getD []) := fun ⟨a, c, h', g1, g2, g3⟩ => ⟨a, c, _, g1, done_ext' g2, (Acc.up g3 (by omega)).done⟩
  simp -implicitDefEqProofs (disch := omega) only [↓c46_0_eq, alL, e0, hh, q2, hh3, lnB8, cv, q4, ↓cnd_true, ↓cnd_false, ↓Option.bind_some, ↓obH_some', bin_add, bin_sub, bin_mul, bin_lss, bin_leq, bin_gtr, bin_geq, bin_eql, bin_neq, un_not, un_neg, Option.bind_some, Option.bind_none, Option.map_some, cnd_true, cnd_false, pickV_true, pickV_false, gd_true, gd_false, gdV_true, gdV_false, gdH_true, gdH_false, gdS_true, gdS_false, wt_ff, wt_tt, wt_ft, wt_tf, wt_undef, obH_some', extractV_tuple, nilCheckV_ptr, againK_normal, againK_exit, againK_ret, blockK_normal, blockK_same, blockK_ret, seqK_normal, seqK_exit, seqK_ret, fin_done, if_true', if_false', Bool.not_true, Bool.not_false, idx0, idx1, idx2, idx3, idx4, chk_nil_l, chk_nil_r, done_nm, up_cons, up_nil, cond_true, cond_false, Nat.reduceBEq]
  refine fin' (lp _ _ none 0 k4 (Nat.le_refl _) c4 w4 d4 (AE.nil _ _) ?_ ?_ ?_ ?_)
  all_goals rfl
end Go.Am
namespace Go.Am
open Go.Proofs
set_option maxRecDepth 100000
set_option linter.all false
attribute [local congr] obind_congr obH_congr cnd_congr chk_congr retK_congr codeK_congr
theorem etV : ElemT Tryd.prog 73 23 1 8 (.int .u64 0) := ⟨by kernel_rfl, by kernel_rfl, by kernel_rfl, by kernel_rfl, by omega, rfl, rfl⟩
theorem zeros_list (z : Value) (n : Nat) : ((Array.range (n * #[z].size)).map fun i => #[z][i % #[z].size]!).toList = List.replicate n z := by
  have e : (fun i : Nat => #[z][i % #[z].size]!) = fun _ => z := by
    funext i
    have : i % #[z].size = 0 := Nat.mod_one i
    rw [this]; rfl
  rw [e]
  simp [List.map_const']
theorem mkV (m : Nat) (hm : m ≤ 64) (h : Heap) : makeSliceV Tryd.prog 73 (.int .i64 m) (.int .i64 m) h = some (.slice (some ⟨h.blks.length, 0, none⟩) m m, h.new (.cells ((List.replicate m 0).map u64V)) 23) := by
  unfold makeSliceV
  simp only [etV.under, natOf_int, etV.size, etV.bytes, etV.zero]
  rw [if_pos ⟨Nat.le_refl _, by omega, by omega, by omega, etV.zs, etV.zg⟩]
  have := zeros_list (.int .u64 0) m
  rw [show ((Array.range (m * 1)).map fun x => (Value.int .u64 0).cells[x % (Value.int .u64 0).cells.size]!).toList = List.replicate m (.int .u64 0) from this, List.map_replicate]
  rfl
theorem spec_vecNew (m : Nat) (hm : m ≤ 64) (h : Heap) : ∃ h', evC Tryd.prog 34 #[.int .i64 m] h = some (.slice (some ⟨h.blks.length, 0, none⟩) m m, h') ∧ HExt h h' ∧ h'.blks.length = h.blks.length + 1 ∧ Cells h' h.blks.length 23 ((List.replicate m 0).map u64V) := by
  rw [call34]
  have e1 : max (m : Int) 0 = m := by omega
  have e2 : min (m : Int) 64 = m := by omega
  refine ⟨_, ?_, done_ext' (In.new (h := nm h) (Nat.le_refl _) (.cells ((List.replicate m 0).map u64V)) 23), ?_, (Cells.new (nm h) _ _).done⟩
  · simp -implicitDefEqProofs (disch := omega) only [↓c34_0_eq, vmaxI, vminI, e1, e2, mkV m hm, ↓ret34, ↓cnd_true, ↓cnd_false, ↓Option.bind_some, ↓obH_some', bin_add, bin_sub, bin_mul, bin_lss, bin_leq, bin_gtr, bin_geq, bin_eql, bin_neq, un_not, un_neg, Option.bind_some, Option.bind_none, Option.map_some, cnd_true, cnd_false, pickV_true, pickV_false, gd_true, gd_false, gdV_true, gdV_false, gdH_true, gdH_false, gdS_true, gdS_false, wt_ff, wt_tt, wt_ft, wt_tf, wt_undef, obH_some', extractV_tuple, nilCheckV_ptr, againK_normal, againK_exit, againK_ret, blockK_normal, blockK_same, blockK_ret, seqK_normal, seqK_exit, seqK_ret, fin_done, if_true', if_false', Bool.not_true, Bool.not_false, idx0, idx1, idx2, idx3, idx4, chk_nil_l, chk_nil_r, done_nm, up_cons, up_nil, cond_true, cond_false, Nat.reduceBEq]
    rfl
  · simp [Heap.new, nm]
structure LEn (h : Heap) (p s : Nat) (n me : Int) (num : Nat) (es : List E3) (ns : List Nat) : Prop where
  eng : ∃ la lc, Cells h p 96 [.int .i64 n, .int .i64 me, .slice la es.length lc, .int .u64 num, .slice (some ⟨s, 0, none⟩) ns.length ns.length] ∧ AE 0 h (.slice la es.length lc) es
  seen : Cells h s 23 (ns.map u64V)
  len : ns.length ≤ 64
theorem bdLn (n me : Int) (m : Nat) (s : Nat) : buildV Tryd.prog 96 #[(0, .int .i64 n), (1, .int .i64 me), (4, .slice (some ⟨s, 0, none⟩) m m)] = some (.agg #[.int .i64 n, .int .i64 me, .slice none 0 0, .int .u64 0, .slice (some ⟨s, 0, none⟩) m m]) := by kernel_rfl
theorem bxLn (a b c d e : Value) (h : Heap) : boxV Tryd.prog 96 (.agg #[a, b, c, d, e]) h = some (.pointer (some ⟨h.blks.length, 0, none⟩), h.new (.cells [a, b, c, d, e]) 96) := by kernel_rfl
def badNew (n me : Int) : Prop := n < 1 ∨ 16 < n ∨ me < 0 ∨ n ≤ me
theorem spec_leanNewBad (n me : Int) (hb : badNew n me) (h : Heap) : ∃ h', evC Tryd.prog 11 #[.int .i64 n, .int .i64 me] h = some (.tuple #[.pointer none, .int .i64 1], h') ∧ HExt h h' := by
  rw [call11]
  refine ⟨_, ?_, done_ext' (In.refl (h := nm h) (Nat.le_refl _))⟩
  unfold badNew at hb
  by_cases h1 : n < 1
  · simp -implicitDefEqProofs (disch := omega) only [↓c11_0_eq, dcT, dcF, ↓ret11, ↓cnd_true, ↓cnd_false, ↓Option.bind_some, ↓obH_some', bin_add, bin_sub, bin_mul, bin_lss, bin_leq, bin_gtr, bin_geq, bin_eql, bin_neq, un_not, un_neg, Option.bind_some, Option.bind_none, Option.map_some, cnd_true, cnd_false, pickV_true, pickV_false, gd_true, gd_false, gdV_true, gdV_false, gdH_true, gdH_false, gdS_true, gdS_false, wt_ff, wt_tt, wt_ft, wt_tf, wt_undef, obH_some', extractV_tuple, nilCheckV_ptr, againK_normal, againK_exit, againK_ret, blockK_normal, blockK_same, blockK_ret, seqK_normal, seqK_exit, seqK_ret, fin_done, if_true', if_false', Bool.not_true, Bool.not_false, idx0, idx1, idx2, idx3, idx4, chk_nil_l, chk_nil_r, done_nm, up_cons, up_nil, cond_true, cond_false, Nat.reduceBEq]
  · by_cases h2 : n > 16
    · simp -implicitDefEqProofs (disch := omega) only [↓c11_0_eq, dcT, dcF, ↓ret11, ↓cnd_true, ↓cnd_false, ↓Option.bind_some, ↓obH_some', bin_add, bin_sub, bin_mul, bin_lss, bin_leq, bin_gtr, bin_geq, bin_eql, bin_neq, un_not, un_neg, Option.bind_some, Option.bind_none, Option.map_some, cnd_true, cnd_false, pickV_true, pickV_false, gd_true, gd_false, gdV_true, gdV_false, gdH_true, gdH_false, gdS_true, gdS_false, wt_ff, wt_tt, wt_ft, wt_tf, wt_undef, obH_some', extractV_tuple, nilCheckV_ptr, againK_normal, againK_exit, againK_ret, blockK_normal, blockK_same, blockK_ret, seqK_normal, seqK_exit, seqK_ret, fin_done, if_true', if_false', Bool.not_true, Bool.not_false, idx0, idx1, idx2, idx3, idx4, chk_nil_l, chk_nil_r, done_nm, up_cons, up_nil, cond_true, cond_false, Nat.reduceBEq]
    · by_cases h3 : me < 0
      · simp -implicitDefEqProofs (disch := omega) only [↓c11_0_eq, dcT, dcF, ↓ret11, ↓cnd_true, ↓cnd_false, ↓Option.bind_some, ↓obH_some', bin_add, bin_sub, bin_mul, bin_lss, bin_leq, bin_gtr, bin_geq, bin_eql, bin_neq, un_not, un_neg, Option.bind_some, Option.bind_none, Option.map_some, cnd_true, cnd_false, pickV_true, pickV_false, gd_true, gd_false, gdV_true, gdV_false, gdH_true, gdH_false, gdS_true, gdS_false, wt_ff, wt_tt, wt_ft, wt_tf, wt_undef, obH_some', extractV_tuple, nilCheckV_ptr, againK_normal, againK_exit, againK_ret, blockK_normal, blockK_same, blockK_ret, seqK_normal, seqK_exit, seqK_ret, fin_done, if_true', if_false', Bool.not_true, Bool.not_false, idx0, idx1, idx2, idx3, idx4, chk_nil_l, chk_nil_r, done_nm, up_cons, up_nil, cond_true, cond_false, Nat.reduceBEq]
      · have h4 : me ≥ n := by omega
        simp -implicitDefEqProofs (disch := omega) only [↓c11_0_eq, dcT, dcF, ↓ret11, ↓cnd_true, ↓cnd_false, ↓Option.bind_some, ↓obH_some', bin_add, bin_sub, bin_mul, bin_lss, bin_leq, bin_gtr, bin_geq, bin_eql, bin_neq, un_not, un_neg, Option.bind_some, Option.bind_none, Option.map_some, cnd_true, cnd_false, pickV_true, pickV_false, gd_true, gd_false, gdV_true, gdV_false, gdH_true, gdH_false, gdS_true, gdS_false, wt_ff, wt_tt, wt_ft, wt_tf, wt_undef, obH_some', extractV_tuple, nilCheckV_ptr, againK_normal, againK_exit, againK_ret, blockK_normal, blockK_same, blockK_ret, seqK_normal, seqK_exit, seqK_ret, fin_done, if_true', if_false', Bool.not_true, Bool.not_false, idx0, idx1, idx2, idx3, idx4, chk_nil_l, chk_nil_r, done_nm, up_cons, up_nil, cond_true, cond_false, Nat.reduceBEq]
theorem spec_leanNew (n : Nat) (me : Int) (h1 : 1 ≤ n) (h2 : n ≤ 16) (h3 : 0 ≤ me) (h4 : me < n) (h : Heap) : ∃ h', evC Tryd.prog 11 #[.int .i64 n, .int .i64 me] h = some (.tuple #[.pointer (some ⟨h.blks.length + 1, 0, none⟩), .int .i64 0], h') ∧ HExt h h' ∧ LEn h' (h.blks.length + 1) h.blks.length n me 0 [] (List.replicate n 0) := by
  rw [call11]
  obtain ⟨h2', q2,Ac, l2, c2⟩ := spec_vecNew n (by omega) (nm h)
  have e0 : (nm h).blks.length = h.blks.length := rfl
  rw [e0] at q2 l2 c2
  have k2 : In h.blks.length No (nm h) h2' := Ac.inn (Nat.le_refl h.blks.length)
  have d3 := Cells.new h2' 96 [.int .i64 n, .int .i64 me, .slice none 0 0, .int .u64 0, .slice (some ⟨h.blks.length, 0, none⟩) n n]
  have k3 := k2.trans (In.new (S := No) (by omega) (.cells [.int .i64 n, .int .i64 me, .slice none 0 0, .int .u64 0, .slice (some ⟨h.blks.length, 0, none⟩) n n]) 96)
  have c3 := c2.keepNew (.cells [.int .i64 n, .int .i64 me, .slice none 0 0, .int .u64 0, .slice (some ⟨h.blks.length, 0, none⟩) n n]) 96
  rw [l2] at d3
  refine ⟨_, ?_, done_ext' k3, ⟨⟨none, 0, ?_, AE.nil _ _⟩, c3.done, by rw [List.length_replicate]; omega⟩⟩
  · simp -implicitDefEqProofs (disch := omega) only [↓c11_0_eq, dcT, dcF, q2, bdLn, bxLn, l2, ↓ret11, ↓cnd_true, ↓cnd_false, ↓Option.bind_some, ↓obH_some', bin_add, bin_sub, bin_mul, bin_lss, bin_leq, bin_gtr, bin_geq, bin_eql, bin_neq, un_not, un_neg, Option.bind_some, Option.bind_none, Option.map_some, cnd_true, cnd_false, pickV_true, pickV_false, gd_true, gd_false, gdV_true, gdV_false, gdH_true, gdH_false, gdS_true, gdS_false, wt_ff, wt_tt, wt_ft, wt_tf, wt_undef, obH_some', extractV_tuple, nilCheckV_ptr, againK_normal, againK_exit, againK_ret, blockK_normal, blockK_same, blockK_ret, seqK_normal, seqK_exit, seqK_ret, fin_done, if_true', if_false', Bool.not_true, Bool.not_false, idx0, idx1, idx2, idx3, idx4, chk_nil_l, chk_nil_r, done_nm, up_cons, up_nil, cond_true, cond_false, Nat.reduceBEq]
  · rw [List.length_replicate]; exact d3.done
end Go.Am
namespace Go.Am
open Go.Proofs
set_option maxRecDepth 100000
set_option linter.all false
attribute [local congr] obind_congr obH_congr cnd_congr chk_congr retK_congr codeK_congr
theorem callCan1 (a0 a1 : Value) (h : Heap) : evC Tryd.prog 48 #[a0, a1] h = cK c48_0 32 (up un [(0, a0), (1, a1)]) (nm h) (retK Tryd.f48 Tryd.prog h) :=
  (evC_call 48 Tryd.f48 c48_0 Tryd.func48 (by kernel_rfl) #[a0, a1] h).trans (by kernel_rfl)
theorem faLn0 (p : Nat) : fieldAddrV Tryd.prog 96 (.pointer (some ⟨p, 0, none⟩)) 0 = some (.pointer (some ⟨p, 0, none⟩)) := by kernel_rfl
theorem faLn1 (p : Nat) : fieldAddrV Tryd.prog 96 (.pointer (some ⟨p, 0, none⟩)) 1 = some (.pointer (some ⟨p, 1, none⟩)) := by kernel_rfl
theorem faLn2 (p : Nat) : fieldAddrV Tryd.prog 96 (.pointer (some ⟨p, 0, none⟩)) 2 = some (.pointer (some ⟨p, 2, none⟩)) := by kernel_rfl
theorem faLn3 (p : Nat) : fieldAddrV Tryd.prog 96 (.pointer (some ⟨p, 0, none⟩)) 3 = some (.pointer (some ⟨p, 3, none⟩)) := by kernel_rfl
theorem faLn4 (p : Nat) : fieldAddrV Tryd.prog 96 (.pointer (some ⟨p, 0, none⟩)) 4 = some (.pointer (some ⟨p, 4, none⟩)) := by kernel_rfl
theorem ldLnP (p o : Nat) (h : Heap) : loadV Tryd.prog 33 (.pointer (some ⟨p, o, none⟩)) h = h.load1 p o := by kernel_rfl
theorem ldVec (p o : Nat) (h : Heap) : loadV Tryd.prog 73 (.pointer (some ⟨p, o, none⟩)) h = h.load1 p o := by kernel_rfl
theorem ldU64 (p o : Nat) (h : Heap) : loadV Tryd.prog 23 (.pointer (some ⟨p, o, none⟩)) h = h.load1 p o := by kernel_rfl
theorem lnVec (a : Option Addr) (n c : Nat) (h : Heap) : lenV Tryd.prog 73 (.slice a n c) h = some (.int .i64 n) := by kernel_rfl
def atN (ns : List Nat) (i : Int) : Nat := if i < 0 ∨ (ns.length : Int) ≤ i then 0 else ns.getD i.toNat 0
theorem spec_vecAt {h : Heap} {v : Value} {ns : List Nat} (s : SU h v ns) (i : Int) : evC Tryd.prog 49 #[v, .int .i64 i] h = some (.int .u64 (atN ns i), h) := by
  rw [call49]
  obtain ⟨a, c, rfl⟩ := s.shape
  unfold atN
  by_cases h1 : i < 0
  · rw [if_pos (.inl h1)]
    simp -implicitDefEqProofs (disch := omega) only [↓c49_0_eq, dcT, ↓ret49, ↓cnd_true, ↓cnd_false, ↓Option.bind_some, ↓obH_some', bin_add, bin_sub, bin_mul, bin_lss, bin_leq, bin_gtr, bin_geq, bin_eql, bin_neq, un_not, un_neg, Option.bind_some, Option.bind_none, Option.map_some, cnd_true, cnd_false, pickV_true, pickV_false, gd_true, gd_false, gdV_true, gdV_false, gdH_true, gdH_false, gdS_true, gdS_false, wt_ff, wt_tt, wt_ft, wt_tf, wt_undef, obH_some', extractV_tuple, nilCheckV_ptr, againK_normal, againK_exit, againK_ret, blockK_normal, blockK_same, blockK_ret, seqK_normal, seqK_exit, seqK_ret, fin_done, if_true', if_false', Bool.not_true, Bool.not_false, idx0, idx1, idx2, idx3, idx4, chk_nil_l, chk_nil_r, done_nm, up_cons, up_nil, cond_true, cond_false, Nat.reduceBEq]
    rfl
  · by_cases h2 : (ns.length : Int) ≤ i
    · rw [if_pos (.inr h2)]
      have g : i ≥ (ns.length : Int) := h2
      simp -implicitDefEqProofs (disch := omega) only [↓c49_0_eq, dcT, dcF, lnVec, ↓ret49, ↓cnd_true, ↓cnd_false, ↓Option.bind_some, ↓obH_some', bin_add, bin_sub, bin_mul, bin_lss, bin_leq, bin_gtr, bin_geq, bin_eql, bin_neq, un_not, un_neg, Option.bind_some, Option.bind_none, Option.map_some, cnd_true, cnd_false, pickV_true, pickV_false, gd_true, gd_false, gdV_true, gdV_false, gdH_true, gdH_false, gdS_true, gdS_false, wt_ff, wt_tt, wt_ft, wt_tf, wt_undef, obH_some', extractV_tuple, nilCheckV_ptr, againK_normal, againK_exit, againK_ret, blockK_normal, blockK_same, blockK_ret, seqK_normal, seqK_exit, seqK_ret, fin_done, if_true', if_false', Bool.not_true, Bool.not_false, idx0, idx1, idx2, idx3, idx4, chk_nil_l, chk_nil_r, done_nm, up_cons, up_nil, cond_true, cond_false, Nat.reduceBEq]
      rfl
    · rw [if_neg (by omega)]
      obtain ⟨k, rfl⟩ : ∃ k : Nat, i = k := ⟨i.toNat, by omega⟩
      rw [Int.toNat_natCast]
      obtain ⟨ad, e1, e2⟩ := su_at (Sl.nm s) (t := 73) (by kernel_rfl) (i := k) (by omega)
      simp -implicitDefEqProofs (disch := omega) only [↓c49_0_eq, dcT, dcF, lnVec, e1, e2, ↓ret49, ↓cnd_true, ↓cnd_false, ↓Option.bind_some, ↓obH_some', bin_add, bin_sub, bin_mul, bin_lss, bin_leq, bin_gtr, bin_geq, bin_eql, bin_neq, un_not, un_neg, Option.bind_some, Option.bind_none, Option.map_some, cnd_true, cnd_false, pickV_true, pickV_false, gd_true, gd_false, gdV_true, gdV_false, gdH_true, gdH_false, gdS_true, gdS_false, wt_ff, wt_tt, wt_ft, wt_tf, wt_undef, obH_some', extractV_tuple, nilCheckV_ptr, againK_normal, againK_exit, againK_ret, blockK_normal, blockK_same, blockK_ret, seqK_normal, seqK_exit, seqK_ret, fin_done, if_true', if_false', Bool.not_true, Bool.not_false, idx0, idx1, idx2, idx3, idx4, chk_nil_l, chk_nil_r, done_nm, up_cons, up_nil, cond_true, cond_false, Nat.reduceBEq]
def stopE (me : Int) (ns : List Nat) (x : E3) : Bool := hasB x.t me && (decide (x.f ≠ me) && decide ((atN ns x.f : Int) < x.n))
theorem LEn.seenS {h : Heap} {p s : Nat} {n me : Int} {num : Nat} {es : List E3} {ns : List Nat} (l : LEn h p s n me num es ns) : SU h (.slice (some ⟨s, 0, none⟩) ns.length ns.length) ns :=
  .mk (l.seen.loadN (n := ns.length * 1) (by simp)) (.inr ⟨Nat.le_refl _, by have := l.len; unfold UNK; omega⟩)
theorem LEn.same {h h' : Heap} {p s : Nat} {n me : Int} {num : Nat} {es : List E3} {ns : List Nat} (l : LEn h p s n me num es ns) (e : Same h h') : LEn h' p s n me num es ns :=
  let ⟨la, lc, a, b⟩ := l.eng
  ⟨⟨la, lc, a.same e, b.same e⟩, l.seen.same e, l.len⟩
theorem spec_Can1 {h : Heap} {pb p s : Nat} {n me : Int} {num : Nat} {es : List E3} {ns : List Nat} (cb : Cells h pb 33 [.pointer (some ⟨p, 0, none⟩)]) (l : LEn h p s n me num es ns) (x : E3) (hx : x.t < 2 ^ 64) :
    ∃ h', evC Tryd.prog 48 #[entV x, .pointer (some ⟨pb, 0, none⟩)] h = some (.bool (stopE me ns x), h') ∧ HExt h h' := by
  rw [callCan1]
  have c1 := Cells.new (nm h) 68 (entC x)
  have k1 : In h.blks.length No (nm h) ((nm h).new (.cells (entC x)) 68) := In.new (h := nm h) (Nat.le_refl h.blks.length) _ _
  have sm : Same h ((nm h).new (.cells (entC x)) 68) := Same.new (nm h) _ _
  have e0 : (nm h).blks.length = h.blks.length := rfl
  rw [e0] at c1
  generalize hh : (nm h).new (.cells (entC x)) 68 = h1 at c1 k1 sm
  have l1 := l.same sm
  obtain ⟨la, lc, ce, _⟩ := l1.eng
  have Aa : h1.load1 h.blks.length 0 = some (.int .i64 x.f) := c1.load 0
  have Ab : h1.load1 h.blks.length (0 + 1) = some (.int .u64 x.n) := c1.load 1
  have Ac : h1.load1 h.blks.length (0 + 2) = some (.int .u64 x.t) := c1.load 2
  have p0 : h1.load1 pb 0 = some (.pointer (some ⟨p, 0, none⟩)) := (cb.same sm).load 0
  have m1 : h1.load1 p 1 = some (.int .i64 me) := ce.load 1
  have m4 : h1.load1 p 4 = some (.slice (some ⟨s, 0, none⟩) ns.length ns.length) := ce.load 4
  have q1 := spec_Has x.t hx me h1
  have q2 := spec_vecAt (Sl.nm l1.seenS) x.f
  unfold stopE
  refine ⟨_, ?_, done_ext' k1⟩
  cases hb : hasB x.t me with
  | false =>
    rw [hb] at q1
    simp -implicitDefEqProofs (disch := omega) only [↓c48_0_eq, ↓c48_1_eq, ↓c48_2_eq, ↓c48_3_eq, ↓c48_4_eq, ↓d48_0_0, ↓d48_0_1, ↓d48_0_2, ↓d48_0_3, ↓d48_0_4, ↓d48_0_5, ↓d48_0_6, ↓d48_0_7, ↓d48_0_8, ↓d48_0_9, ↓d48_0_10, ↓d48_0_11, ↓d48_0_12, ↓d48_0_13, ↓d48_0_14, ↓d48_0_15, ↓d48_0_16, ↓d48_0_17, ↓d48_0_18, ↓d48_0_19, ↓d48_0_20, ↓d48_0_21, ↓d48_0_22, ↓d48_0_23, ↓d48_0_24, ↓d48_0_25, ↓d48_0_26, ↓d48_0_27, ↓d48_0_28, ↓d48_0_29, bxEe, e0, hh, faE0, faE1, faE2, ldS, ldInt, ldU64, ldLnP, ldVec,Aa,Ab,Ac, p0, nilCheckV_ptr, faLn1, faLn4, m1, m4, q1, Bool.false_and, am_nm, nm_mods, List.nil_append, List.append_nil, chk_nil_r, ↓ret48, ↓cnd_true, ↓cnd_false, ↓Option.bind_some, ↓obH_some', bin_add, bin_sub, bin_mul, bin_lss, bin_leq, bin_gtr, bin_geq, bin_eql, bin_neq, un_not, un_neg, Option.bind_some, Option.bind_none, Option.map_some, cnd_true, cnd_false, pickV_true, pickV_false, gd_true, gd_false, gdV_true, gdV_false, gdH_true, gdH_false, gdS_true, gdS_false, wt_ff, wt_tt, wt_ft, wt_tf, wt_undef, obH_some', extractV_tuple, nilCheckV_ptr, againK_normal, againK_exit, againK_ret, blockK_normal, blockK_same, blockK_ret, seqK_normal, seqK_exit, seqK_ret, fin_done, if_true', if_false', Bool.not_true, Bool.not_false, idx0, idx1, idx2, idx3, idx4, chk_nil_l, chk_nil_r, done_nm, up_cons, up_nil, cond_true, cond_false, Nat.reduceBEq]
  | true =>
    rw [hb] at q1
    by_cases hf : x.f = me
    · have d1 : decide (x.f ≠ me) = false := decide_eq_false (fun h => h hf)
      simp -implicitDefEqProofs (disch := omega) only [↓c48_0_eq, ↓c48_1_eq, ↓c48_2_eq, ↓c48_3_eq, ↓c48_4_eq, ↓d48_0_0, ↓d48_0_1, ↓d48_0_2, ↓d48_0_3, ↓d48_0_4, ↓d48_0_5, ↓d48_0_6, ↓d48_0_7, ↓d48_0_8, ↓d48_0_9, ↓d48_0_10, ↓d48_0_11, ↓d48_0_12, ↓d48_0_13, ↓d48_0_14, ↓d48_0_15, ↓d48_0_16, ↓d48_0_17, ↓d48_0_18, ↓d48_0_19, ↓d48_0_20, ↓d48_0_21, ↓d48_0_22, ↓d48_0_23, ↓d48_0_24, ↓d48_0_25, ↓d48_0_26, ↓d48_0_27, ↓d48_0_28, ↓d48_0_29, bxEe, e0, hh, faE0, faE1, faE2, ldS, ldInt, ldU64, ldLnP, ldVec,Aa,Ab,Ac, p0, nilCheckV_ptr, faLn1, faLn4, m1, m4, q1, d1, Bool.false_and, Bool.true_and, am_nm, nm_mods, List.nil_append, List.append_nil, chk_nil_r, ↓ret48, ↓cnd_true, ↓cnd_false, ↓Option.bind_some, ↓obH_some', bin_add, bin_sub, bin_mul, bin_lss, bin_leq, bin_gtr, bin_geq, bin_eql, bin_neq, un_not, un_neg, Option.bind_some, Option.bind_none, Option.map_some, cnd_true, cnd_false, pickV_true, pickV_false, gd_true, gd_false, gdV_true, gdV_false, gdH_true, gdH_false, gdS_true, gdS_false, wt_ff, wt_tt, wt_ft, wt_tf, wt_undef, obH_some', extractV_tuple, nilCheckV_ptr, againK_normal, againK_exit, againK_ret, blockK_normal, blockK_same, blockK_ret, seqK_normal, seqK_exit, seqK_ret, fin_done, if_true', if_false', Bool.not_true, Bool.not_false, idx0, idx1, idx2, idx3, idx4, chk_nil_l, chk_nil_r, done_nm, up_cons, up_nil, cond_true, cond_false, Nat.reduceBEq]
    · have d1 : decide (x.f ≠ me) = true := decide_eq_true hf
      simp -implicitDefEqProofs (disch := omega) only [↓c48_0_eq, ↓c48_1_eq, ↓c48_2_eq, ↓c48_3_eq, ↓c48_4_eq, ↓d48_0_0, ↓d48_0_1, ↓d48_0_2, ↓d48_0_3, ↓d48_0_4, ↓d48_0_5, ↓d48_0_6, ↓d48_0_7, ↓d48_0_8, ↓d48_0_9, ↓d48_0_10, ↓d48_0_11, ↓d48_0_12, ↓d48_0_13, ↓d48_0_14, ↓d48_0_15, ↓d48_0_16, ↓d48_0_17, ↓d48_0_18, ↓d48_0_19, ↓d48_0_20, ↓d48_0_21, ↓d48_0_22, ↓d48_0_23, ↓d48_0_24, ↓d48_0_25, ↓d48_0_26, ↓d48_0_27, ↓d48_0_28, ↓d48_0_29, bxEe, e0, hh, faE0, faE1, faE2, ldS, ldInt, ldU64, ldLnP, ldVec,Aa,Ab,Ac, p0, nilCheckV_ptr, faLn1, faLn4, m1, m4, q1, d1, q2, am_nm, nm_mods, List.nil_append, List.append_nil, chk_nil_r, Bool.true_and, ↓ret48, ↓cnd_true, ↓cnd_false, ↓Option.bind_some, ↓obH_some', bin_add, bin_sub, bin_mul, bin_lss, bin_leq, bin_gtr, bin_geq, bin_eql, bin_neq, un_not, un_neg, Option.bind_some, Option.bind_none, Option.map_some, cnd_true, cnd_false, pickV_true, pickV_false, gd_true, gd_false, gdV_true, gdV_false, gdH_true, gdH_false, gdS_true, gdS_false, wt_ff, wt_tt, wt_ft, wt_tf, wt_undef, obH_some', extractV_tuple, nilCheckV_ptr, againK_normal, againK_exit, againK_ret, blockK_normal, blockK_same, blockK_ret, seqK_normal, seqK_exit, seqK_ret, fin_done, if_true', if_false', Bool.not_true, Bool.not_false, idx0, idx1, idx2, idx3, idx4, chk_nil_l, chk_nil_r, done_nm, up_cons, up_nil, cond_true, cond_false, Nat.reduceBEq]
end Go.Am
namespace Go.Am
open Go.Proofs
set_option maxRecDepth 100000
set_option linter.all false
attribute [local congr] obind_congr obH_congr cnd_congr chk_congr retK_congr codeK_congr
theorem sameNm (h : Heap) : Same h (nm h) := ⟨Nat.le_refl _, fun _ _ => rfl⟩
theorem callClos (a b : Value) (h : Heap) : callV Tryd.prog (evC Tryd.prog) (.func (.func 48) #[] #[b]) #[a] h = evC Tryd.prog 48 #[a, b] h := by kernel_rfl
theorem idx_loop {h0 h1 : Heap} {v : Value} {g : List E3} {pb p s : Nat} {n me : Int} {num : Nat} {es : List E3} {ns : List Nat} (sv : SE h1 v g) (hw : wide g) (hl : g.length < 2 ^ 40) (cb : Cells h1 pb 33 [.pointer (some ⟨p, 0, none⟩)]) (l : LEn h1 p s n me num es ns) :
    ∀ (m i : Nat), g.length - i = m → i ≤ g.length → ∀ (x : Nat → Value) (h : Heap),In h0.blks.length No (nm h0) h → Same h1 h → x 0 = v → x 1 = .func (.func 48) #[] #[.pointer (some ⟨pb, 0, none⟩)] → x 7 = .int .i64 g.length → x 8 = .int .i64 i →
    ∃ (k : Int) (h' : Heap), lK c71_1 19 x h (blockK 0 (sK c71_2 (retK Tryd.f71 Tryd.prog h0))) = some (.int .i64 k, done h0 h') ∧ In h0.blks.length No (nm h0) h' ∧ decide (k ≥ 0) = (g.drop i).any (stopE me ns) := by
  intro m
  induction m with
  | zero =>
    intro i e1 e2 x h hin hs Aa Ab Ah Ai
    obtain rfl : i = g.length := by omega
    rw [lK_eq, List.drop_length]
    refine ⟨-1, h, ?_, hin, rfl⟩
    simp -implicitDefEqProofs (disch := omega) only [↓c71_1_eq, ↓c71_2_eq,Ah,Ai, dcF, ↓ret71, ↓cnd_true, ↓cnd_false, ↓Option.bind_some, ↓obH_some', bin_add, bin_sub, bin_mul, bin_lss, bin_leq, bin_gtr, bin_geq, bin_eql, bin_neq, un_not, un_neg, Option.bind_some, Option.bind_none, Option.map_some, cnd_true, cnd_false, pickV_true, pickV_false, gd_true, gd_false, gdV_true, gdV_false, gdH_true, gdH_false, gdS_true, gdS_false, wt_ff, wt_tt, wt_ft, wt_tf, wt_undef, obH_some', extractV_tuple, nilCheckV_ptr, againK_normal, againK_exit, againK_ret, blockK_normal, blockK_same, blockK_ret, seqK_normal, seqK_exit, seqK_ret, fin_done, if_true', if_false', Bool.not_true, Bool.not_false, idx0, idx1, idx2, idx3, idx4, chk_nil_l, chk_nil_r, done_nm, up_cons, up_nil, cond_true, cond_false, Nat.reduceBEq]
  | succ m ih =>
    intro i hm hi x h hin hs Aa Ab Ah Ai
    have hil : i < g.length := by omega
    obtain ⟨b, o, hb, hbl, e1, e2⟩ := sv.at' (t := 63) (el := 68) (by kernel_rfl) (by kernel_rfl) hil
    obtain ⟨f1, _⟩ := e2 h (hs.2 b hbl)
    obtain ⟨h2, q2, y2⟩ := spec_Can1 (cb.same hs) (l.same hs) g[i] (hw _ (List.getElem_mem hil)).2
    have hin2 := hin.trans (y2.inn (Nat.le_trans hin.le hin.len))
    have wi : IntKind.i64.wrap ((i : Int) + 1) = ((i + 1 : Nat) : Int) := by rw [wrap_i64] <;> omega
    rw [lK_eq, List.drop_eq_getElem_cons hil, List.any_cons]
    cases hst : stopE me ns g[i] with
    | true =>
      rw [hst] at q2
      refine ⟨i, h2, ?_, hin2, by simp⟩
      simp -implicitDefEqProofs (disch := omega) only [↓c71_1_eq, ↓c71_2_eq,Aa,Ab,Ah,Ai, dcT, e1, ldE, f1, Option.map_some, entA, callClos, q2, ↓ret71, ↓cnd_true, ↓cnd_false, ↓Option.bind_some, ↓obH_some', bin_add, bin_sub, bin_mul, bin_lss, bin_leq, bin_gtr, bin_geq, bin_eql, bin_neq, un_not, un_neg, Option.bind_some, Option.bind_none, Option.map_some, cnd_true, cnd_false, pickV_true, pickV_false, gd_true, gd_false, gdV_true, gdV_false, gdH_true, gdH_false, gdS_true, gdS_false, wt_ff, wt_tt, wt_ft, wt_tf, wt_undef, obH_some', extractV_tuple, nilCheckV_ptr, againK_normal, againK_exit, againK_ret, blockK_normal, blockK_same, blockK_ret, seqK_normal, seqK_exit, seqK_ret, fin_done, if_true', if_false', Bool.not_true, Bool.not_false, idx0, idx1, idx2, idx3, idx4, chk_nil_l, chk_nil_r, done_nm, up_cons, up_nil, cond_true, cond_false, Nat.reduceBEq]
    | false =>
      rw [hst] at q2
      rw [Bool.false_or]
      simp -implicitDefEqProofs (disch := omega) only [↓c71_1_eq, ↓c71_2_eq,Aa,Ab,Ah,Ai, dcT, e1, ldE, f1, Option.map_some, entA, callClos, q2, wi, ↓cnd_true, ↓cnd_false, ↓Option.bind_some, ↓obH_some', bin_add, bin_sub, bin_mul, bin_lss, bin_leq, bin_gtr, bin_geq, bin_eql, bin_neq, un_not, un_neg, Option.bind_some, Option.bind_none, Option.map_some, cnd_true, cnd_false, pickV_true, pickV_false, gd_true, gd_false, gdV_true, gdV_false, gdH_true, gdH_false, gdS_true, gdS_false, wt_ff, wt_tt, wt_ft, wt_tf, wt_undef, obH_some', extractV_tuple, nilCheckV_ptr, againK_normal, againK_exit, againK_ret, blockK_normal, blockK_same, blockK_ret, seqK_normal, seqK_exit, seqK_ret, fin_done, if_true', if_false', Bool.not_true, Bool.not_false, idx0, idx1, idx2, idx3, idx4, chk_nil_l, chk_nil_r, done_nm, up_cons, up_nil, cond_true, cond_false, Nat.reduceBEq]
      refine ih (i + 1) (by omega) (by omega) _ h2 hin2 (hs.trans y2.same) ?_ ?_ ?_ ?_
      · exact Aa
      · exact Ab
      · exact Ah
      · rfl
theorem spec_Contains {h : Heap} {v : Value} {g : List E3} {pb p s : Nat} {n me : Int} {num : Nat} {es : List E3} {ns : List Nat} (sv : SE h v g) (hw : wide g) (hl : g.length < 2 ^ 40) (cb : Cells h pb 33 [.pointer (some ⟨p, 0, none⟩)]) (l : LEn h p s n me num es ns) :
    ∃ h', evC Tryd.prog 47 #[v, .func (.func 48) #[] #[.pointer (some ⟨pb, 0, none⟩)]] h = some (.bool (g.any (stopE me ns)), h') ∧ HExt h h' := by
  have ix : ∀ h, SE h v g → Cells h pb 33 [.pointer (some ⟨p, 0, none⟩)] → LEn h p s n me num es ns → ∃ (k : Int) (h' : Heap), evC Tryd.prog 71 #[v, .func (.func 48) #[] #[.pointer (some ⟨pb, 0, none⟩)]] h = some (.int .i64 k, h') ∧ HExt h h' ∧ decide (k ≥ 0) = g.any (stopE me ns) := fun h sv cb l => by
    rw [call71]
    have lp := idx_loop (h0 := h) (h1 := nm h) sv.nm hw hl cb (l.same (sameNm h)) g.length 0 (by omega) (by omega)
    obtain ⟨a, c, rfl⟩ := sv.shape
    have fin' : ∀ {r : Option (Value × Heap)}, (∃ (k : Int) (h' : Heap), r = some (.int .i64 k, done h h') ∧ In h.blks.length No (nm h) h' ∧ decide (k ≥ 0) = (g.drop 0).any (stopE me ns)) → ∃ (k : Int) (h' : Heap), r = some (.int .i64 k, h') ∧ HExt h h' ∧ decide (k ≥ 0) = g.any (stopE me ns) := fun ⟨k, h', q1, q2, q3⟩ => ⟨k, _, q1, done_ext' q2, q3⟩
    simp -implicitDefEqProofs (disch := omega) only [↓c71_0_eq, lnEs, ↓cnd_true, ↓cnd_false, ↓Option.bind_some, ↓obH_some', bin_add, bin_sub, bin_mul, bin_lss, bin_leq, bin_gtr, bin_geq, bin_eql, bin_neq, un_not, un_neg, Option.bind_some, Option.bind_none, Option.map_some, cnd_true, cnd_false, pickV_true, pickV_false, gd_true, gd_false, gdV_true, gdV_false, gdH_true, gdH_false, gdS_true, gdS_false, wt_ff, wt_tt, wt_ft, wt_tf, wt_undef, obH_some', extractV_tuple, nilCheckV_ptr, againK_normal, againK_exit, againK_ret, blockK_normal, blockK_same, blockK_ret, seqK_normal, seqK_exit, seqK_ret, fin_done, if_true', if_false', Bool.not_true, Bool.not_false, idx0, idx1, idx2, idx3, idx4, chk_nil_l, chk_nil_r, done_nm, up_cons, up_nil, cond_true, cond_false, Nat.reduceBEq]
    refine fin' (lp _ _ (In.refl (Nat.le_refl _)) (Same.refl _) ?_ ?_ ?_ ?_)
    all_goals rfl
  rw [call47]
  obtain ⟨k, h2, q2,Ac, hk⟩ := ix (nm h) sv.nm cb (l.same (sameNm h))
  refine ⟨_, ?_, done_ext' (Ac.inn (Nat.le_refl h.blks.length))⟩
  simp -implicitDefEqProofs (disch := omega) only [↓c47_0_eq, q2, hk, ↓ret47, ↓cnd_true, ↓cnd_false, ↓Option.bind_some, ↓obH_some', bin_add, bin_sub, bin_mul, bin_lss, bin_leq, bin_gtr, bin_geq, bin_eql, bin_neq, un_not, un_neg, Option.bind_some, Option.bind_none, Option.map_some, cnd_true, cnd_false, pickV_true, pickV_false, gd_true, gd_false, gdV_true, gdV_false, gdH_true, gdH_false, gdS_true, gdS_false, wt_ff, wt_tt, wt_ft, wt_tf, wt_undef, obH_some', extractV_tuple, nilCheckV_ptr, againK_normal, againK_exit, againK_ret, blockK_normal, blockK_same, blockK_ret, seqK_normal, seqK_exit, seqK_ret, fin_done, if_true', if_false', Bool.not_true, Bool.not_false, idx0, idx1, idx2, idx3, idx4, chk_nil_l, chk_nil_r, done_nm, up_cons, up_nil, cond_true, cond_false, Nat.reduceBEq]
def canE (n me : Int) (ns : List Nat) (fr : Int) (num : Nat) (bs : List UInt8) : Bool := match getP bs with
  | none => false
  | some g => if fr < 0 ∨ n ≤ fr ∨ fr = me ∨ num < 1 then false else !g.any (stopE me ns)
theorem bxLnP (p : Nat) (h : Heap) : boxV Tryd.prog 33 (.pointer (some ⟨p, 0, none⟩)) h = some (.pointer (some ⟨h.blks.length, 0, none⟩), h.new (.cells [.pointer (some ⟨p, 0, none⟩)]) 33) := by kernel_rfl
theorem getP_wide {bs : List UInt8} {g : List E3} (h : getP bs = some g) : wide g := by
  unfold getP logOf at h
  split at h
  · cases h; exact rdN_wide _ _
  · cases h
theorem spec_Can {h : Heap} {p s : Nat} {n me : Int} {num : Nat} {es : List E3} {ns : List Nat} (l : LEn h p s n me num es ns) (fr : Int) (k : Nat) {v : Value} {bs : List UInt8} (sb : SB h v bs) (hl : bs.length < 2 ^ 30) :
    ∃ h', evC Tryd.prog 16 #[.pointer (some ⟨p, 0, none⟩), .int .i64 fr, .int .u64 k, v] h = some (.bool (canE n me ns fr k bs), h') ∧ HExt h h' := by
  rw [call16]
  have c1 := Cells.new (nm h) 33 [.pointer (some ⟨p, 0, none⟩)]
  have k1 : In h.blks.length No (nm h) ((nm h).new (.cells [.pointer (some ⟨p, 0, none⟩)]) 33) := In.new (h := nm h) (Nat.le_refl h.blks.length) _ _
  have sm : Same h ((nm h).new (.cells [.pointer (some ⟨p, 0, none⟩)]) 33) := Same.new (nm h) _ _
  have e0 : (nm h).blks.length = h.blks.length := rfl
  have e1 : ((nm h).new (.cells [.pointer (some ⟨p, 0, none⟩)]) 33).blks.length = h.blks.length + 1 := by simp [Heap.new]
  rw [e0] at c1
  generalize hh : (nm h).new (.cells [.pointer (some ⟨p, 0, none⟩)]) 33 = h1 at c1 k1 sm e1
  obtain ⟨a2, c2, h2, q2,Ac, r2⟩ := spec_Get18 (Sl.same sb sm) hl
  have hx2 := Ac.len
  have d3 := Cells.new h2 65 [.slice none 0 0]
  have st := storeN_blk d3 (o := 0) (vs := [.slice a2 ((getP bs).getD []).length c2]) (by simp)
  simp only [List.take_zero, List.nil_append, List.append_nil, List.length_cons, List.length_nil, List.drop_succ_cons, List.drop_zero, Nat.zero_add] at st
  have k2 := k1.trans (Ac.inn (by omega))
  have k3 := (k2.trans (In.new (S := No) (by omega) (.cells [.slice none 0 0]) 65)).trans (In.put (S := No) (by simp [Heap.new]; omega) (p := h2.blks.length) (.inl (by omega)) (.cells [.slice a2 ((getP bs).getD []).length c2]))
  have y3 := same_np h2 (.cells [.slice none 0 0]) (.cells [.slice a2 ((getP bs).getD []).length c2]) 65
  have g3 := d3.put [.slice a2 ((getP bs).getD []).length c2]
  have s3 : SE ((h2.new (.cells [.slice none 0 0]) 65).put h2.blks.length (.cells [.slice a2 ((getP bs).getD []).length c2])) (.slice a2 ((getP bs).getD []).length c2) ((getP bs).getD []) := Sl.same (AE.se r2) y3
  generalize hh3 : (h2.new (.cells [.slice none 0 0]) 65).put h2.blks.length (.cells [.slice a2 ((getP bs).getD []).length c2]) = h3 at st k3 y3 g3 s3
  have sm3 := (sm.trans Ac.same).trans y3
  have l3 := l.same sm3
  obtain ⟨la, lc, ce, _⟩ := l3.eng
  have p0 : h3.load1 h.blks.length 0 = some (.pointer (some ⟨p, 0, none⟩)) := ((c1.ext Ac).same y3).load 0
  have m0 : h3.load1 p 0 = some (.int .i64 n) := ce.load 0
  have m1 : h3.load1 p 1 = some (.int .i64 me) := ce.load 1
  have lg : h3.load1 h2.blks.length 0 = some (.slice a2 ((getP bs).getD []).length c2) := g3.load 0
  unfold canE
  cases hg : getP bs with
  | none =>
    rw [hg] at q2 st
    simp only [Option.getD_none, Option.isSome_none] at q2 st
    refine ⟨_, ?_, done_ext' k3⟩
    simp -implicitDefEqProofs (disch := omega) only [↓c16_0_eq, bxLnP, e0, hh, q2, extractV_tuple, alL, stL, st, ↓ret16, ↓cnd_true, ↓cnd_false, ↓Option.bind_some, ↓obH_some', bin_add, bin_sub, bin_mul, bin_lss, bin_leq, bin_gtr, bin_geq, bin_eql, bin_neq, un_not, un_neg, Option.bind_some, Option.bind_none, Option.map_some, cnd_true, cnd_false, pickV_true, pickV_false, gd_true, gd_false, gdV_true, gdV_false, gdH_true, gdH_false, gdS_true, gdS_false, wt_ff, wt_tt, wt_ft, wt_tf, wt_undef, obH_some', extractV_tuple, nilCheckV_ptr, againK_normal, againK_exit, againK_ret, blockK_normal, blockK_same, blockK_ret, seqK_normal, seqK_exit, seqK_ret, fin_done, if_true', if_false', Bool.not_true, Bool.not_false, idx0, idx1, idx2, idx3, idx4, chk_nil_l, chk_nil_r, done_nm, up_cons, up_nil, cond_true, cond_false, Nat.reduceBEq]
  | some g =>
    rw [hg] at q2 st s3 lg
    simp only [Option.getD_some, Option.isSome_some] at q2 st s3 lg
    by_cases hbad : fr < 0 ∨ n ≤ fr ∨ fr = me ∨ k < 1
    · refine ⟨_, ?_, done_ext' k3⟩
      simp only [if_pos hbad]
      by_cases b1 : fr < 0
      · simp -implicitDefEqProofs (disch := omega) only [↓c16_0_eq, bxLnP, e0, hh, q2, extractV_tuple, alL, stL, st, dcT, ↓ret16, ↓cnd_true, ↓cnd_false, ↓Option.bind_some, ↓obH_some', bin_add, bin_sub, bin_mul, bin_lss, bin_leq, bin_gtr, bin_geq, bin_eql, bin_neq, un_not, un_neg, Option.bind_some, Option.bind_none, Option.map_some, cnd_true, cnd_false, pickV_true, pickV_false, gd_true, gd_false, gdV_true, gdV_false, gdH_true, gdH_false, gdS_true, gdS_false, wt_ff, wt_tt, wt_ft, wt_tf, wt_undef, obH_some', extractV_tuple, nilCheckV_ptr, againK_normal, againK_exit, againK_ret, blockK_normal, blockK_same, blockK_ret, seqK_normal, seqK_exit, seqK_ret, fin_done, if_true', if_false', Bool.not_true, Bool.not_false, idx0, idx1, idx2, idx3, idx4, chk_nil_l, chk_nil_r, done_nm, up_cons, up_nil, cond_true, cond_false, Nat.reduceBEq]
      · by_cases b2 : fr ≥ n
        · simp -implicitDefEqProofs (disch := omega) only [↓c16_0_eq, bxLnP, e0, hh, q2, extractV_tuple, alL, stL, st, dcT, dcF, ldLnP, p0, nilCheckV_ptr, faLn0, ldI, m0, ↓ret16, ↓cnd_true, ↓cnd_false, ↓Option.bind_some, ↓obH_some', bin_add, bin_sub, bin_mul, bin_lss, bin_leq, bin_gtr, bin_geq, bin_eql, bin_neq, un_not, un_neg, Option.bind_some, Option.bind_none, Option.map_some, cnd_true, cnd_false, pickV_true, pickV_false, gd_true, gd_false, gdV_true, gdV_false, gdH_true, gdH_false, gdS_true, gdS_false, wt_ff, wt_tt, wt_ft, wt_tf, wt_undef, obH_some', extractV_tuple, nilCheckV_ptr, againK_normal, againK_exit, againK_ret, blockK_normal, blockK_same, blockK_ret, seqK_normal, seqK_exit, seqK_ret, fin_done, if_true', if_false', Bool.not_true, Bool.not_false, idx0, idx1, idx2, idx3, idx4, chk_nil_l, chk_nil_r, done_nm, up_cons, up_nil, cond_true, cond_false, Nat.reduceBEq]
        · by_cases b3 : fr = me
          · have d3 : decide (fr = me) = true := decide_eq_true b3
            simp -implicitDefEqProofs (disch := omega) only [↓c16_0_eq, bxLnP, e0, hh, q2, extractV_tuple, alL, stL, st, dcT, dcF, ldLnP, p0, nilCheckV_ptr, faLn0, faLn1, ldI, m0, m1, d3, ↓ret16, ↓cnd_true, ↓cnd_false, ↓Option.bind_some, ↓obH_some', bin_add, bin_sub, bin_mul, bin_lss, bin_leq, bin_gtr, bin_geq, bin_eql, bin_neq, un_not, un_neg, Option.bind_some, Option.bind_none, Option.map_some, cnd_true, cnd_false, pickV_true, pickV_false, gd_true, gd_false, gdV_true, gdV_false, gdH_true, gdH_false, gdS_true, gdS_false, wt_ff, wt_tt, wt_ft, wt_tf, wt_undef, obH_some', extractV_tuple, nilCheckV_ptr, againK_normal, againK_exit, againK_ret, blockK_normal, blockK_same, blockK_ret, seqK_normal, seqK_exit, seqK_ret, fin_done, if_true', if_false', Bool.not_true, Bool.not_false, idx0, idx1, idx2, idx3, idx4, chk_nil_l, chk_nil_r, done_nm, up_cons, up_nil, cond_true, cond_false, Nat.reduceBEq]
          · have d3 : decide (fr = me) = false := decide_eq_false b3
            have b4 : (k : Int) < 1 := by omega
            simp -implicitDefEqProofs (disch := omega) only [↓c16_0_eq, bxLnP, e0, hh, q2, extractV_tuple, alL, stL, st, dcT, dcF, ldLnP, p0, nilCheckV_ptr, faLn0, faLn1, ldI, m0, m1, d3, ↓ret16, ↓cnd_true, ↓cnd_false, ↓Option.bind_some, ↓obH_some', bin_add, bin_sub, bin_mul, bin_lss, bin_leq, bin_gtr, bin_geq, bin_eql, bin_neq, un_not, un_neg, Option.bind_some, Option.bind_none, Option.map_some, cnd_true, cnd_false, pickV_true, pickV_false, gd_true, gd_false, gdV_true, gdV_false, gdH_true, gdH_false, gdS_true, gdS_false, wt_ff, wt_tt, wt_ft, wt_tf, wt_undef, obH_some', extractV_tuple, nilCheckV_ptr, againK_normal, againK_exit, againK_ret, blockK_normal, blockK_same, blockK_ret, seqK_normal, seqK_exit, seqK_ret, fin_done, if_true', if_false', Bool.not_true, Bool.not_false, idx0, idx1, idx2, idx3, idx4, chk_nil_l, chk_nil_r, done_nm, up_cons, up_nil, cond_true, cond_false, Nat.reduceBEq]
    · simp only [if_neg hbad]
      have gl : g.length < 2 ^ 40 := by
        have := getP_len bs
        rw [hg] at this
        simp only [Option.getD_some] at this
        omega
      obtain ⟨h4, q4,Ae⟩ := spec_Contains s3 (getP_wide hg) gl ((c1.ext Ac).same y3) l3
      refine ⟨_, ?_, done_ext' (k3.trans (Ae.inn (Nat.le_trans k3.le k3.len)))⟩
      have d3 : decide (fr = me) = false := decide_eq_false (by omega)
      simp -implicitDefEqProofs (disch := omega) only [↓c16_0_eq, bxLnP, e0, hh, q2, extractV_tuple, alL, stL, st, dcT, dcF, ldLnP, p0, nilCheckV_ptr, faLn0, faLn1, ldI, m0, m1, d3, faL, ldEs, lg, q4, ↓ret16, ↓cnd_true, ↓cnd_false, ↓Option.bind_some, ↓obH_some', bin_add, bin_sub, bin_mul, bin_lss, bin_leq, bin_gtr, bin_geq, bin_eql, bin_neq, un_not, un_neg, Option.bind_some, Option.bind_none, Option.map_some, cnd_true, cnd_false, pickV_true, pickV_false, gd_true, gd_false, gdV_true, gdV_false, gdH_true, gdH_false, gdS_true, gdS_false, wt_ff, wt_tt, wt_ft, wt_tf, wt_undef, obH_some', extractV_tuple, nilCheckV_ptr, againK_normal, againK_exit, againK_ret, blockK_normal, blockK_same, blockK_ret, seqK_normal, seqK_exit, seqK_ret, fin_done, if_true', if_false', Bool.not_true, Bool.not_false, idx0, idx1, idx2, idx3, idx4, chk_nil_l, chk_nil_r, done_nm, up_cons, up_nil, cond_true, cond_false, Nat.reduceBEq]
end Go.Am
namespace Go.Am
open Go.Proofs
set_option maxRecDepth 100000
set_option linter.all false
attribute [local congr] obind_congr obH_congr cnd_congr chk_congr retK_congr codeK_congr
theorem ldLo (p o : Nat) (h : Heap) : loadV Tryd.prog 65 (.pointer (some ⟨p, o, none⟩)) h = (h.loadN p o 1).map fun cs => .agg cs.toArray := by kernel_rfl
theorem stLo (p o : Nat) (a : Option Addr) (n c : Nat) (h : Heap) : storeV Tryd.prog 65 (.pointer (some ⟨p, o, none⟩)) (.agg #[.slice a n c]) h = h.storeN p o [.slice a n c] := by kernel_rfl
theorem nilV (xo yo : Operand) : binV Tryd.prog .eql 73 xo yo (.slice none 0 0) (.slice none 0 0) = some (.bool true) := by kernel_rfl
theorem mkV0 (h : Heap) : buildSliceV Tryd.prog 73 0 #[] h = some (.slice (some ⟨h.blks.length, 0, none⟩) 0 0, h.new (.cells []) 23) := by kernel_rfl
end Go.Am
namespace Go.Am
open Go.Proofs
set_option maxRecDepth 100000
set_option linter.all false
attribute [local congr] obind_congr obH_congr cnd_congr chk_congr retK_congr codeK_congr
def KpB (h h' : Heap) : Prop := h.blks.length ≤ h'.blks.length ∧ ∀ p ty cs, Cells h p ty cs → ty ≠ 40 → Cells h' p ty cs
theorem KpB.acc {h h' : Heap} {n0 : Nat} {elem : TypeId} {es n : Nat} {v : Value} {cs : List Value} (k : KpB h h') (a : Acc n0 h elem es v n cs) (ht : elem ≠ 40) : Acc n0 h' elem es v n cs := a.keep fun b _ hb => by
  obtain ⟨all, h1⟩ := a.blk hb
  exact (k.2 b elem all h1 ht).trans h1.symm
theorem Same.kp {h h' : Heap} (s : Same h h') : KpB h h' := ⟨s.1, fun _ _ _ c _ => c.same s⟩
theorem KpB.trans {a b c : Heap} (h : KpB a b) (k : KpB b c) : KpB a c := ⟨Nat.le_trans h.1 k.1, fun p ty cs x ht => k.2 p ty cs (h.2 p ty cs x ht) ht⟩
theorem LEn.kp {h h' : Heap} {p s : Nat} {n me : Int} {num : Nat} {es : List E3} {ns : List Nat} (l : LEn h p s n me num es ns) (k : KpB h h') : LEn h' p s n me num es ns :=
  let ⟨la, lc, a, b⟩ := l.eng
  ⟨⟨la, lc, k.2 _ _ _ a (by decide), k.acc b (by decide)⟩, k.2 _ _ _ l.seen (by decide), l.len⟩
theorem HMod.lEn {S : Nat → Prop} {h h' : Heap} {p s : Nat} {n me : Int} {num : Nat} {es : List E3} {ns : List Nat} (l : LEn h p s n me num es ns) (m : HMod S h h') (hp : ¬ S p) (hs : ¬ S s) (ht : ∀ b all, h.blks[b]? = some ⟨.cells all, 68, true⟩ → ¬ S b) : LEn h' p s n me num es ns :=
  let ⟨la, lc, a, b⟩ := l.eng
  ⟨⟨la, lc, (m.old p a.lt hp).trans a, b.keep fun q hq hb => by obtain ⟨all, h1⟩ := b.blk hb; exact m.old q hq (ht q all h1)⟩, (m.old s l.seen.lt hs).trans l.seen, l.len⟩
def rowF (es : List E3) (t : Nat) (d : Nat) : List UInt8 := putE (purgeE (lessE es (outB t (ofN (d : Int)))))
theorem purgeL_sub' : ∀ l : List E3, (purgeL l).Sublist l
  | [] => .slnil
  | [e] => List.Sublist.refl _
  | e :: e' :: l => by
    rw [purgeL_two]
    split
    · exact (purgeL_sub' (e' :: l)).cons_cons e
    · exact (purgeL_sub' (e' :: l)).cons e
theorem purgeE_sub (l : List E3) : (purgeE l).Sublist l := by
  unfold purgeE
  split
  · exact purgeL_sub' l
  · exact List.Sublist.refl _
theorem wide_purge {l : List E3} (w : wide l) : wide (purgeE l) := fun e he => w e ((purgeE_sub l).subset he)
theorem logN {h : Heap} {p : Nat} {ty : TypeId} {a b c d e : Value} (g : Cells h p ty [a, b, c, d, e]) : (h.loadN p 2 1).map (fun cs => Value.agg cs.toArray) = some (.agg #[c]) := by
  rw [loadN_own g (by simp)]; rfl
theorem si_at {h : Heap} {v : Value} {ns : List Nat} (s : SI h v ns) {i : Nat} (hi : i < ns.length) :
    ∃ a, indexAddrV Tryd.prog 41 v (.int .i64 i) = some (.pointer (some a)) ∧ loadV Tryd.prog 3 (.pointer (some a)) h = some (.int .i64 (ns[i] : Nat)) := by
  obtain ⟨a, e1, e2, _⟩ := s.row.at1 etI.under etI.size (by kernel_rfl) hi .i64
  rw [List.getElem?_map, List.getElem?_eq_getElem hi] at e2
  exact ⟨a, e1, e2⟩
theorem send_loopL {h0 : Heap} {p s : Nat} {n me : Int} {num : Nat} {es : List E3} {ns : List Nat} {ds : List Nat} {dv : Value} {t : Nat} (hw : wide es) (hl : es.length < 2 ^ 30) (ht : t < 2 ^ 64) (hd : ds.length ≤ 64) {S : Nat → Prop} {Q : Option (Value × Heap) → Prop}
    (hk : ∀ (x' : Nat → Value) (h' : Heap) (ov' : Value),In h0.blks.length S (nm h0) h' → LEn h' p s n me num es ns → ABs h0.blks.length h' ov' (ds.map (rowF es t)) → x' 0 = .pointer (some ⟨p, 0, none⟩) → x' 1 = .int .u64 t → x' 5 = ov' → Q (cK c12_2 71 x' h' (retK Tryd.f12 Tryd.prog h0))) :
    ∀ (m i : Nat), ds.length - i = m → i ≤ ds.length → ∀ (x : Nat → Value) (h : Heap) (ov : Value),In h0.blks.length S (nm h0) h → LEn h p s n me num es ns → AI h0.blks.length h dv ds → ABs h0.blks.length h ov ((ds.take i).map (rowF es t)) →
    x 0 = .pointer (some ⟨p, 0, none⟩) → x 1 = .int .u64 t → x 5 = ov → x 30 = dv → x 31 = .int .i64 ds.length → x 32 = .int .i64 i →
    Q (lK c12_1 71 x h (blockK 0 (sK c12_2 (retK Tryd.f12 Tryd.prog h0)))) := by
  intro m
  induction m with
  | zero =>
    intro i e1 e2 x h ov hin l ad ab Aa Ab Af Bg Bh Bi
    obtain rfl : i = ds.length := by omega
    rw [List.take_length] at ab
    rw [lK_eq]
    have dl : decide (((ds.length : Nat) : Int) < ds.length) = false := decide_eq_false (by omega)
    simp -implicitDefEqProofs (disch := omega) only [↓c12_1_eq,Bh,Bi, dl, ↓cnd_true, ↓cnd_false, ↓Option.bind_some, ↓obH_some', bin_add, bin_sub, bin_mul, bin_lss, bin_leq, bin_gtr, bin_geq, bin_eql, bin_neq, un_not, un_neg, Option.bind_some, Option.bind_none, Option.map_some, cnd_true, cnd_false, pickV_true, pickV_false, gd_true, gd_false, gdV_true, gdV_false, gdH_true, gdH_false, gdS_true, gdS_false, wt_ff, wt_tt, wt_ft, wt_tf, wt_undef, obH_some', extractV_tuple, nilCheckV_ptr, againK_normal, againK_exit, againK_ret, blockK_normal, blockK_same, blockK_ret, seqK_normal, seqK_exit, seqK_ret, fin_done, if_true', if_false', Bool.not_true, Bool.not_false, idx0, idx1, idx2, idx3, idx4, chk_nil_l, chk_nil_r, done_nm, up_cons, up_nil, cond_true, cond_false, Nat.reduceBEq]
    exact hk _ h ov hin l ab Aa Ab Af
  | succ m ih =>
    intro i hm hi x h ov hin l ad ab Aa Ab Af Bg Bh Bi
    have hil : i < ds.length := by omega
    have dl : decide (((i : Nat) : Int) < ds.length) = true := decide_eq_true (by omega)
    obtain ⟨da, f1, f2⟩ := si_at (ad.sl etI.size) hil
    obtain ⟨la, lc, ce, ae⟩ := l.eng
    have lA := logN ce
    obtain ⟨a2, c2, h2, q2, y2, r2⟩ := spec_But ae.se hw (by omega) t ht (ds[i] : Int)
    have ll : (lessE es (outB t (ofN (ds[i] : Int)))).length = es.length := lessE_len _ _
    have q2' : evC Tryd.prog 38 #[.agg #[.slice la es.length lc], .int .u64 t, .int .i64 (ds[i] : Int)] h = some (.agg #[.slice a2 (lessE es (outB t (ofN (ds[i] : Int)))).length c2], h2) := by rw [ll]; exact q2
    have r2' : AE h.blks.length h2 (.slice a2 (lessE es (outB t (ofN (ds[i] : Int)))).length c2) (lessE es (outB t (ofN (ds[i] : Int)))) := by
      rw [show (Value.slice a2 (lessE es (outB t (ofN (ds[i] : Int)))).length c2) = .slice a2 es.length c2 by rw [ll]]; exact r2
    obtain ⟨a3, c3, h3, q3, y3, r3⟩ := spec_Purge r2'.se (wide_lessE hw) (by omega)
    have pl : (purgeE (lessE es (outB t (ofN (ds[i] : Int))))).length ≤ es.length := by
      have := (purgeE_sub (lessE es (outB t (ofN (ds[i] : Int))))).length_le
      omega
    obtain ⟨a4, c4, h4, q4, y4, r4⟩ := spec_Put18 (AE.se r3) (wide_purge (wide_lessE hw)) (by omega)
    have z4 := (y2.same.trans y3.same).trans y4.same
    have hlen4 := z4.1
    have ab4 := ab.same z4
    have hn : h0.blks.length ≤ h.blks.length := Nat.le_trans hin.le hin.len
    have r4' : AB h0.blks.length h4 (.slice a4 (rowF es t ds[i]).length c4) (rowF es t ds[i]) := Acc.up r4 (by have := y2.len; have := y3.len; omega)
    obtain ⟨vs, abv⟩ := ab4
    have bs := mkBs1 a4 (rowF es t ds[i]).length c4 h4
    obtain ⟨a5, c5, h5, q5, ab5, k5, o5⟩ := abv.app (by omega) r4' (by rw [List.length_map, List.length_take]; omega)
    have kb : KpB h4 h5 := ⟨k5.len, o5⟩
    have hin5 := (((hin.trans (y2.inn hn)).trans (y3.inn (by have := y2.len; omega))).trans (y4.inn (by have := y2.len; have := y3.len; omega))).trans (Keeps.inn (S := S) k5)
    have hmap : (ds.take i).map (rowF es t) ++ [rowF es t ds[i]] = (ds.take (i + 1)).map (rowF es t) := by
      rw [List.take_succ, List.getElem?_eq_getElem hil, List.map_append]; rfl
    rw [hmap] at q5 ab5
    have wi : IntKind.i64.wrap ((i : Int) + 1) = ((i + 1 : Nat) : Int) := by rw [wrap_i64] <;> omega
    rw [lK_eq]
    have q4' : evC Tryd.prog 32 #[.agg #[.slice a3 (purgeE (lessE es (outB t (ofN (ds[i] : Int))))).length c3]] h3 = some (.slice a4 (rowF es t ds[i]).length c4, h4) := q4
    simp -implicitDefEqProofs (disch := omega) only [↓c12_1_eq,Aa,Ab,Af,Bg,Bh,Bi, dl, f1, f2, nilCheckV_ptr, faLn2, ldLo, lA, q2', q3, q4', bs, q5, wi, ↓cnd_true, ↓cnd_false, ↓Option.bind_some, ↓obH_some', bin_add, bin_sub, bin_mul, bin_lss, bin_leq, bin_gtr, bin_geq, bin_eql, bin_neq, un_not, un_neg, Option.bind_some, Option.bind_none, Option.map_some, cnd_true, cnd_false, pickV_true, pickV_false, gd_true, gd_false, gdV_true, gdV_false, gdH_true, gdH_false, gdS_true, gdS_false, wt_ff, wt_tt, wt_ft, wt_tf, wt_undef, obH_some', extractV_tuple, nilCheckV_ptr, againK_normal, againK_exit, againK_ret, blockK_normal, blockK_same, blockK_ret, seqK_normal, seqK_exit, seqK_ret, fin_done, if_true', if_false', Bool.not_true, Bool.not_false, idx0, idx1, idx2, idx3, idx4, chk_nil_l, chk_nil_r, done_nm, up_cons, up_nil, cond_true, cond_false, Nat.reduceBEq]
    refine ih (i + 1) (by omega) (by omega) _ h5 _ hin5 ((l.same z4).kp kb) (kb.acc (ad.same z4) (by decide)) ab5 ?_ ?_ ?_ ?_ ?_ ?_
    · exact Aa
    · exact Ab
    · rfl
    · exact Bg
    · exact Bh
    · rfl
def sendT (n : Nat) (me : Int) (to : Nat) : Nat := to &&& outB (allN n) (ofN me)
def sendLog (es : List E3) (me : Int) (num t : Nat) : List E3 := purgeE (addE (lessE es t) ⟨me, num + 1, t⟩)
theorem allN_lt (n : Nat) (hn : n < 64) : allN n < 2 ^ 64 := by
  unfold allN
  have : 2 ^ n < 2 ^ 64 := Nat.pow_lt_pow_right (by omega) hn
  omega
theorem mem_addE {es : List E3} {x e : E3} (h : e ∈ addE es x) : e ∈ es ∨ e = x := by
  unfold addE at h
  split at h
  · split at h
    · exact (List.mem_or_eq_of_mem_set h)
    · unfold insE at h
      rcases List.mem_append.1 h with h | h
      · exact .inl (List.mem_of_mem_take h)
      · rcases List.mem_cons.1 h with h | h
        · exact .inr h
        · exact .inl (List.mem_of_mem_drop h)
  · exact .inl h
theorem addE_len (es : List E3) (x : E3) : (addE es x).length ≤ es.length + 1 := by
  unfold addE
  split
  · split
    · rw [List.length_set]; omega
    · unfold insE
      rw [List.length_append, List.length_cons, List.length_take, List.length_drop]; omega
  · omega
theorem spec_Send {h : Heap} {p s : Nat} {n : Nat} {me : Int} {num : Nat} {es : List E3} {ns : List Nat} (l : LEn h p s n me num es ns) (hn : n ≤ 16) (hw : wide es) (hl : es.length < 2 ^ 29) (hnum : num + 1 < 2 ^ 64) (to : Nat) (hto : to < 2 ^ 64) (hps : p ≠ s)
    (hins : InsOk (lessE es (sendT n me to)) ⟨me, num + 1, sendT n me to⟩) :
    ∃ v h', evC Tryd.prog 12 #[.pointer (some ⟨p, 0, none⟩), .int .u64 to] h = some (v, h') ∧ HMod (Just p) h h' ∧ LEn h' p s n me (num + 1) (sendLog es me num (sendT n me to)) ns ∧ ABs h.blks.length h' v ((listW (sendT n me to)).map (rowF es (sendT n me to))) := by
  rw [call12]
  have l0 := l.same (sameNm h)
  obtain ⟨la, lc, ce, ae⟩ := l0.eng
  have hph : p < h.blks.length := ce.lt
  have m0 : (nm h).load1 p 0 = some (.int .i64 n) := ce.load 0
  have m1 : (nm h).load1 p 1 = some (.int .i64 me) := ce.load 1
  have w1 := fun h => spec_All n (by omega) h
  have c9 := Cells.new (nm h) 3 [.int .i64 me]
  have q9 := spec_Of1 (c := 1) c9
  have e9 := ce.keepNew (.cells [.int .i64 me]) 3
  have k9 : In h.blks.length (Just p) (nm h) ((nm h).new (.cells [.int .i64 me]) 3) := In.new (h := nm h) (Nat.le_refl h.blks.length) _ _
  have l9 := l0.same (Same.new (nm h) (.cells [.int .i64 me]) 3)
  have b9 := mkI1 me (nm h)
  generalize hh9 : (nm h).new (.cells [.int .i64 me]) 3 = h9 at c9 q9 e9 k9 l9 b9
  have m3 : h9.load1 p 3 = some (.int .u64 num) := e9.load 3
  have st := storeN_blk e9 (o := 3) (vs := [.int .u64 ((num + 1 : Nat) : Int)]) (by simp)
  simp only [List.take_succ_cons, List.take_zero, List.nil_append, List.append_nil, List.length_cons, List.length_nil, List.drop_succ_cons, List.drop_zero, Nat.zero_add, Nat.reduceAdd, List.drop_nil, List.cons_append, List.singleton_append] at st
  have k10 := k9.trans (In.put (S := Just p) (Nat.le_trans k9.le k9.len) (p := p) (.inr rfl) (.cells [.int .i64 n, .int .i64 me, .slice la es.length lc, .int .u64 ((num + 1 : Nat) : Int), .slice (some ⟨s, 0, none⟩) ns.length ns.length]))
  have d10 := e9.put [.int .i64 n, .int .i64 me, .slice la es.length lc, .int .u64 ((num + 1 : Nat) : Int), .slice (some ⟨s, 0, none⟩) ns.length ns.length]
  have ae9 : AE 0 h9 (.slice la es.length lc) es := by rw [← hh9]; exact ae.keep fun b hb _ => Heap.new_old hb
  have hb : blockOf (.slice la es.length lc) ≠ some p := fun e => by
    obtain ⟨all, h1⟩ := Acc.blk ae9 e
    unfold Cells at e9
    rw [e9] at h1
    simp only [Option.some.injEq, Blk.mk.injEq] at h1
    exact absurd h1.2.1 (by decide)
  have l10 : LEn (h9.put p (.cells [.int .i64 n, .int .i64 me, .slice la es.length lc, .int .u64 ((num + 1 : Nat) : Int), .slice (some ⟨s, 0, none⟩) ns.length ns.length])) p s n me (num + 1) es ns :=
    ⟨⟨la, lc, d10, ae9.keepPut hb _⟩, l9.seen.keepPut (by omega) _, l.len⟩
  generalize hh10 : h9.put p (.cells [.int .i64 n, .int .i64 me, .slice la es.length lc, .int .u64 ((num + 1 : Nat) : Int), .slice (some ⟨s, 0, none⟩) ns.length ns.length]) = h10 at st k10 l10
  have ht : sendT n me to < 2 ^ 64 := Nat.lt_of_le_of_lt Nat.and_le_left hto
  obtain ⟨a11, c11, h11, q11,Al, r11⟩ := spec_List (sendT n me to) ht h10
  have n10 : h.blks.length ≤ h10.blks.length := Nat.le_trans k10.le k10.len
  have k11 := k10.trans (Al.inn (S := Just p) n10)
  have an := fun t xo yo => anS t xo yo (allN n) (ofN me) (allN_lt n (by omega)) (ofN_lt me)
  have aa := fun t xo yo => anU t xo yo to (outB (allN n) (ofN me)) hto (outB_lt (allN_lt n (by omega)))
  have wn : IntKind.u64.wrap ((num : Int) + 1) = ((num + 1 : Nat) : Int) := by rw [wrap_u64] <;> omega
  have lnI : ∀ h, lenV Tryd.prog 41 (.slice a11 (listW (sendT n me to)).length c11) h = some (.int .i64 (listW (sendT n me to)).length) := fun h => by kernel_rfl
  have e0 : (nm h).blks.length = h.blks.length := rfl
  rw [e0] at b9 q9
  have aa' : ∀ t xo yo, binV Tryd.prog .and t xo yo (.int .u64 to) (.int .u64 ((outB (allN n) (ofN me) : Nat) : Int)) = some (.int .u64 ((sendT n me to : Nat) : Int)) := aa
  simp -implicitDefEqProofs (disch := omega) only [↓c12_0_eq, nilCheckV_ptr, faLn0, faLn1, faLn3, ldI, m0, w1, am_nm, nm_mods, List.nil_append, List.append_nil, m1, b9, q9, an, aa', chk_nil_r, ldU, m3, wn, vst64, st, q11, lnI, ↓cnd_true, ↓cnd_false, ↓Option.bind_some, ↓obH_some', bin_add, bin_sub, bin_mul, bin_lss, bin_leq, bin_gtr, bin_geq, bin_eql, bin_neq, un_not, un_neg, Option.bind_some, Option.bind_none, Option.map_some, cnd_true, cnd_false, pickV_true, pickV_false, gd_true, gd_false, gdV_true, gdV_false, gdH_true, gdH_false, gdS_true, gdS_false, wt_ff, wt_tt, wt_ft, wt_tf, wt_undef, obH_some', extractV_tuple, nilCheckV_ptr, againK_normal, againK_exit, againK_ret, blockK_normal, blockK_same, blockK_ret, seqK_normal, seqK_exit, seqK_ret, fin_done, if_true', if_false', Bool.not_true, Bool.not_false, idx0, idx1, idx2, idx3, idx4, chk_nil_l, chk_nil_r, done_nm, up_cons, up_nil, cond_true, cond_false, Nat.reduceBEq]
  refine send_loopL (h0 := h) (S := Just p) (Q := fun r => ∃ v h', r = some (v, h') ∧ HMod (Just p) h h' ∧ LEn h' p s n me (num + 1) (sendLog es me num (sendT n me to)) ns ∧ ABs h.blks.length h' v ((listW (sendT n me to)).map (rowF es (sendT n me to)))) (t := sendT n me to) hw (by omega) ht (listW_len _ ht) ?_ (listW (sendT n me to)).length 0 (by omega) (by omega) _ h11 _ k11 (l10.same Al.same) (Acc.up r11 n10) ⟨[], .nil, .nil⟩ ?_ ?_ ?_ ?_ ?_ ?_
  · intro x h12 ov k12 l12 ab12 y0 y1 y5
    have h12n : h.blks.length ≤ h12.blks.length := Nat.le_trans k12.le k12.len
    obtain ⟨la', lc', ce', ae'⟩ := l12.eng
    have lA := logN ce'
    obtain ⟨a13, c13, h13, q13,Ao, r13⟩ := spec_Less (h := nm h12) (to := sendT n me to) (Sl.nm ae'.se) hw (by omega) ht
    obtain ⟨Ao', m13⟩ := Ao.amx
    have k13 := k12.trans (Ao'.inn (S := Just p) h12n)
    have n13 := Ao'.len
    have ce13 := ce'.ext Ao'
    have m1' : (am h13 h12).load1 p 1 = some (.int .i64 me) := ce13.load 1
    have m3' : (am h13 h12).load1 p 3 = some (.int .u64 ((num + 1 : Nat) : Int)) := ce13.load 3
    have s13 : SE (am h13 h12) (.slice a13 es.length c13) (lessE es (sendT n me to)) := Sl.keep (h' := am h13 h12) (AE.se r13) fun _ _ _ => rfl
    have wl := wide_lessE (to := sendT n me to) hw
    have ll : (lessE es (sendT n me to)).length = es.length := lessE_len _ _
    obtain ⟨a14, c14, h14, q14,Ap, r14⟩ := spec_Add s13 wl (by omega) ⟨me, num + 1, sendT n me to⟩ ht hins
    have wa : wide (addE (lessE es (sendT n me to)) ⟨me, num + 1, sendT n me to⟩) := fun e he => by
      rcases mem_addE he with he | rfl
      · exact wl e he
      · exact ⟨hnum, ht⟩
    have al := addE_len (lessE es (sendT n me to)) ⟨me, num + 1, sendT n me to⟩
    obtain ⟨a15, c15, h15, q15,Aq, r15⟩ := spec_Purge r14.se wa (by omega)
    have n14 := Ap.len
    have n15 := Aq.len
    have k15 := (k13.trans (Ap.inn (S := Just p) (by omega))).trans (Aq.inn (S := Just p) (by omega))
    have ce15 := (ce13.ext Ap).ext Aq
    have st16 := storeN_blk ce15 (o := 2) (vs := [.slice a15 (sendLog es me num (sendT n me to)).length c15]) (by simp)
    simp only [List.take_succ_cons, List.take_zero, List.nil_append, List.append_nil, List.length_cons, List.length_nil, List.drop_succ_cons, List.drop_zero, Nat.zero_add, Nat.reduceAdd, List.drop_nil, List.cons_append, List.singleton_append] at st16
    have d16 := ce15.put [.int .i64 n, .int .i64 me, .slice a15 (sendLog es me num (sendT n me to)).length c15, .int .u64 ((num + 1 : Nat) : Int), .slice (some ⟨s, 0, none⟩) ns.length ns.length]
    have k16 := k15.trans (In.put (S := Just p) (Nat.le_trans k15.le k15.len) (p := p) (.inr rfl) (.cells [.int .i64 n, .int .i64 me, .slice a15 (sendLog es me num (sendT n me to)).length c15, .int .u64 ((num + 1 : Nat) : Int), .slice (some ⟨s, 0, none⟩) ns.length ns.length]))
    have sm := (Ao'.same.trans Ap.same).trans Aq.same
    have rl : AE 0 (h15.put p (.cells [.int .i64 n, .int .i64 me, .slice a15 (sendLog es me num (sendT n me to)).length c15, .int .u64 ((num + 1 : Nat) : Int), .slice (some ⟨s, 0, none⟩) ns.length ns.length])) (.slice a15 (sendLog es me num (sendT n me to)).length c15) (sendLog es me num (sendT n me to)) :=
      Acc.keepPut (Acc.up r15 (Nat.zero_le _)) (fun e => by have := Acc.ge r15 e; omega) _
    have q14' : evC Tryd.prog 39 #[.agg #[.slice a13 es.length c13], .agg #[.int .i64 me, .int .u64 ((num + 1 : Nat) : Int), .int .u64 ((sendT n me to : Nat) : Int)]] (am h13 h12) = some (.agg #[.slice a14 (addE (lessE es (sendT n me to)) ⟨me, num + 1, sendT n me to⟩).length c14], h14) := q14
    have q15' : evC Tryd.prog 37 #[.agg #[.slice a14 (addE (lessE es (sendT n me to)) ⟨me, num + 1, sendT n me to⟩).length c14]] h14 = some (.agg #[.slice a15 (sendLog es me num (sendT n me to)).length c15], h15) := q15
    refine ⟨ov, _, ?_, done_mod k16, ⟨⟨a15, c15, d16.done, rl.done⟩, ((l12.seen.same sm).keepPut (by omega) _).done, l.len⟩, ((ab12.same sm).put ce15 (by decide) (by decide) _).same ⟨Nat.le_refl _, fun _ _ => rfl⟩⟩
    simp -implicitDefEqProofs (disch := omega) only [↓c12_2_eq, y0, y1, y5, nilCheckV_ptr, faLn1, faLn2, faLn3, ldLo, lA, q13, m13, ldI, ldU, m1', m3', bdE3, q14', q15', stLo, st16, List.nil_append, List.append_nil, chk_nil_r, ↓ret12, ↓cnd_true, ↓cnd_false, ↓Option.bind_some, ↓obH_some', bin_add, bin_sub, bin_mul, bin_lss, bin_leq, bin_gtr, bin_geq, bin_eql, bin_neq, un_not, un_neg, Option.bind_some, Option.bind_none, Option.map_some, cnd_true, cnd_false, pickV_true, pickV_false, gd_true, gd_false, gdV_true, gdV_false, gdH_true, gdH_false, gdS_true, gdS_false, wt_ff, wt_tt, wt_ft, wt_tf, wt_undef, obH_some', extractV_tuple, nilCheckV_ptr, againK_normal, againK_exit, againK_ret, blockK_normal, blockK_same, blockK_ret, seqK_normal, seqK_exit, seqK_ret, fin_done, if_true', if_false', Bool.not_true, Bool.not_false, idx0, idx1, idx2, idx3, idx4, chk_nil_l, chk_nil_r, done_nm, up_cons, up_nil, cond_true, cond_false, Nat.reduceBEq]
  all_goals rfl
end Go.Am
namespace Go.Am
open Go.Proofs
set_option maxRecDepth 100000
set_option linter.all false
attribute [local congr] obind_congr obH_congr cnd_congr chk_congr retK_congr codeK_congr
theorem map_set (ns : List Nat) (j : Nat) (hj : j < ns.length) (k : Nat) : (ns.map u64V).take j ++ [.int .u64 (k : Int)] ++ (ns.map u64V).drop (j + 1) = (ns.set j k).map u64V := by
  apply List.ext_getElem?
  intro i
  simp only [List.getElem?_append, List.length_append, List.length_take, List.length_map, List.length_singleton, List.getElem?_take, List.getElem?_map, List.getElem?_drop, List.getElem?_set]
  rw [Nat.min_eq_left (by omega)]
  by_cases h1 : i < j
  · rw [if_pos (by omega), if_pos h1, if_pos h1, if_neg (by omega)]
  · by_cases h2 : i = j
    · subst h2
      rw [if_pos (by omega), if_neg (by omega), if_pos rfl, if_pos hj, Nat.sub_self]
      rfl
    · rw [if_neg (by omega), if_neg (by omega), show j + 1 + (i - (j + 1)) = i by omega]
end Go.Am
namespace Go.Am
open Go.Proofs
set_option maxRecDepth 100000
set_option linter.all false
attribute [local congr] obind_congr obH_congr cnd_congr chk_congr retK_congr codeK_congr
end Go.Am
namespace Go.Am
open Go.Proofs
set_option maxRecDepth 100000
set_option linter.all false
attribute [local congr] obind_congr obH_congr cnd_congr chk_congr retK_congr codeK_congr
end Go.Am
namespace Go.Am
open Go.Proofs
set_option maxRecDepth 100000
set_option linter.all false
attribute [local congr] obind_congr obH_congr cnd_congr chk_congr retK_congr codeK_congr
end Go.Am
namespace Go.Am
open Go.Proofs
set_option maxRecDepth 100000
set_option linter.all false
attribute [local congr] obind_congr obH_congr cnd_congr chk_congr retK_congr codeK_congr
theorem Cells.ty {h : Heap} {p : Nat} {t1 t2 : TypeId} {cs all : List Value} (c : Cells h p t1 cs) (e : h.blks[p]? = some ⟨.cells all, t2, true⟩) : t1 = t2 := by
  unfold Cells at c
  rw [c] at e
  simp only [Option.some.injEq, Blk.mk.injEq] at e
  exact e.2.1
theorem LEn.rows {S : Nat → Prop} {h h' : Heap} {p s : Nat} {n me : Int} {num : Nat} {es : List E3} {ns : List Nat} (l : LEn h p s n me num es ns) (m : HMod S h h') (hS : ∀ b, S b → b = p ∨ b = s) {n0 : Nat} {v : Value} {r : List (List UInt8)} (a : ABs n0 h v r) : ABs n0 h' v r := by
  obtain ⟨vs, x⟩ := a
  obtain ⟨la, lc, ce, _⟩ := l.eng
  refine ⟨vs, x.kp fun b all ty hb ht _ => m.old b (List.getElem?_eq_some_iff.1 hb).1 fun hs => ?_⟩
  rcases hS b hs with rfl | rfl
  · have := ce.ty hb
    rcases ht with ht | ht
    · exact absurd (this.trans ht) (by decide)
    · exact absurd (this.trans ht) (by decide)
  · have := l.seen.ty hb
    rcases ht with ht | ht
    · exact absurd (this.trans ht) (by decide)
    · exact absurd (this.trans ht) (by decide)
theorem LEn.others {S : Nat → Prop} {h h' : Heap} {p s : Nat} {n me : Int} {num : Nat} {es : List E3} {ns : List Nat} (l : LEn h p s n me num es ns) (m : HMod S h h') (hS : ∀ b, S b → b = p ∨ b = s) {p' s' : Nat} {n' me' : Int} {num' : Nat} {es' : List E3} {ns' : List Nat} (l' : LEn h p' s' n' me' num' es' ns')
    (h1 : p' ≠ p) (h2 : s' ≠ s) : LEn h' p' s' n' me' num' es' ns' := by
  obtain ⟨la, lc, ce, _⟩ := l.eng
  obtain ⟨la', lc', ce', _⟩ := l'.eng
  have c1 : p' ≠ s := fun e => by subst e; exact absurd (ce'.ty l.seen) (by decide)
  have c2 : s' ≠ p := fun e => by subst e; exact absurd (l'.seen.ty ce) (by decide)
  refine HMod.lEn l' m (fun h => ?_) (fun h => ?_) (fun b all hb h => ?_)
  · rcases hS _ h with e | e
    · exact h1 e
    · exact c1 e
  · rcases hS _ h with e | e
    · exact c2 e
    · exact h2 e
  · rcases hS _ h with rfl | rfl
    · exact absurd (ce.ty hb) (by decide)
    · exact absurd (l.seen.ty hb) (by decide)
end Go.Am
namespace Go.Am
open Go.Proofs
set_option maxRecDepth 100000
attribute [local congr] obind_congr obH_congr cnd_congr chk_congr retK_congr codeK_congr
theorem spec_New (n : Int) (h : Heap) : ∃ a c h', evC Tryd.prog 34 #[.int .i64 n] h = some (.slice a (List.replicate (min (max n 0) 64).toNat 0).length c, h') ∧ HExt h h' ∧ AU h.blks.length h' (.slice a (List.replicate (min (max n 0) 64).toNat 0).length c) (List.replicate (min (max n 0) 64).toNat 0) := by
  rw [call34]
  obtain ⟨m, hm⟩ : ∃ m : Nat, min (max n 0) 64 = (m : Int) := ⟨(min (max n 0) 64).toNat, by omega⟩
  have hmk : ∀ h, makeSliceV Tryd.prog 73 (.int .i64 m) (.int .i64 m) h = some (.slice (some ⟨h.blks.length, 0, none⟩) m m, h.new (.cells ((List.replicate m 0).map u64V)) 23) := fun h => by
    unfold makeSliceV
    simp only [etV.under, natOf_int, etV.size, etV.bytes, etV.zero]
    rw [if_pos ⟨Nat.le_refl _, by omega, by omega, by omega, etV.zs, etV.zg⟩]
    have := zeros_list (.int .u64 0) m
    rw [show ((Array.range (m * 1)).map fun x => (Value.int .u64 0).cells[x % (Value.int .u64 0).cells.size]!).toList = List.replicate m (.int .u64 0) from this, List.map_replicate]
    rfl
  simp -implicitDefEqProofs only [↓c34_0_eq, vmaxI, vminI, hm, hmk, ↓ret34, ↓cnd_true, ↓cnd_false, ↓Option.bind_some, ↓obH_some', bin_add, bin_sub, bin_mul, bin_lss, bin_leq, bin_gtr, bin_geq, bin_eql, bin_neq, un_not, un_neg, Option.bind_some, Option.bind_none, Option.map_some, cnd_true, cnd_false, pickV_true, pickV_false, gd_true, gd_false, gdV_true, gdV_false, gdH_true, gdH_false, gdS_true, gdS_false, wt_ff, wt_tt, wt_ft, wt_tf, wt_undef, obH_some', extractV_tuple, nilCheckV_ptr, againK_normal, againK_exit, againK_ret, blockK_normal, blockK_same, blockK_ret, seqK_normal, seqK_exit, seqK_ret, fin_done, if_true', if_false', Bool.not_true, Bool.not_false, idx0, idx1, idx2, idx3, idx4, chk_nil_l, chk_nil_r, done_nm, up_cons, up_nil, cond_true, cond_false, Nat.reduceBEq]
  have hl := AU.lit (h := nm h) (n0 := h.blks.length) (by simp) (List.replicate m 0) (by simp; omega)
  have e : (m : Int).toNat = m := Int.toNat_natCast m
  rw [e]
  simp only [List.length_replicate] at hl ⊢
  exact ⟨_, _, _, rfl, done_ext' (In.new (by simp) _ _), hl.done⟩
def atI (ns : List Nat) (i : Int) : Nat := if i < 0 then 0 else ns.getD i.toNat 0
theorem spec_CloneV (h : Heap) (x : Value) (bs : List Nat) (hx : SU h x bs) (hl : bs.length < 2 ^ 39) :
    ∃ a c h', evC Tryd.prog 53 #[x] h = some (.slice a bs.length c, h') ∧ HExt h h' ∧ AU h.blks.length h' (.slice a bs.length c) bs := by
  rw [call53]
  rcases hx.inv with ⟨rfl, _, h3⟩ | ⟨b, o, c, rfl, _, _⟩
  · have : bs = [] := by simpa using h3
    subst this
    simp -implicitDefEqProofs only [↓c53_0_eq, nilV, ↓ret53, ↓cnd_true, ↓cnd_false, ↓Option.bind_some, ↓obH_some', bin_add, bin_sub, bin_mul, bin_lss, bin_leq, bin_gtr, bin_geq, bin_eql, bin_neq, un_not, un_neg, Option.bind_some, Option.bind_none, Option.map_some, cnd_true, cnd_false, pickV_true, pickV_false, gd_true, gd_false, gdV_true, gdV_false, gdH_true, gdH_false, gdS_true, gdS_false, wt_ff, wt_tt, wt_ft, wt_tf, wt_undef, obH_some', extractV_tuple, nilCheckV_ptr, againK_normal, againK_exit, againK_ret, blockK_normal, blockK_same, blockK_ret, seqK_normal, seqK_exit, seqK_ret, fin_done, if_true', if_false', Bool.not_true, Bool.not_false, idx0, idx1, idx2, idx3, idx4, chk_nil_l, chk_nil_r, done_nm, up_cons, up_nil, cond_true, cond_false, Nat.reduceBEq]
    exact ⟨none, 0, h, by simp, HExt.refl h, .nil⟩
  · have hlit := AU.lit (h := nm h) (n0 := h.blks.length) (by simp) [] (by simp)
    obtain ⟨a, c', h', e1, e2, e3, e4⟩ := app_nums etV etV.under (n0 := h.blks.length) (by simp [Heap.new]) hlit (hx.nm.keepNew _ _) (by simp; omega)
    rw [List.nil_append] at e1 e2
    simp only [List.map_nil, List.length_nil, nm_blks] at e1
    simp -implicitDefEqProofs only [↓c53_0_eq, bin_nil_some (P := Tryd.prog) (t := 73) etV.under, mkV0, nm_blks, e1, ↓ret53, ↓cnd_true, ↓cnd_false, ↓Option.bind_some, ↓obH_some', bin_add, bin_sub, bin_mul, bin_lss, bin_leq, bin_gtr, bin_geq, bin_eql, bin_neq, un_not, un_neg, Option.bind_some, Option.bind_none, Option.map_some, cnd_true, cnd_false, pickV_true, pickV_false, gd_true, gd_false, gdV_true, gdV_false, gdH_true, gdH_false, gdS_true, gdS_false, wt_ff, wt_tt, wt_ft, wt_tf, wt_undef, obH_some', extractV_tuple, nilCheckV_ptr, againK_normal, againK_exit, againK_ret, blockK_normal, blockK_same, blockK_ret, seqK_normal, seqK_exit, seqK_ret, fin_done, if_true', if_false', Bool.not_true, Bool.not_false, idx0, idx1, idx2, idx3, idx4, chk_nil_l, chk_nil_r, done_nm, up_cons, up_nil, cond_true, cond_false, Nat.reduceBEq]
    exact ⟨a, c', _, rfl, done_ext' ((In.new (S := No) (by simp) _ _).trans e3.inn), e2.done⟩
def longV (ns : List Nat) (n : Nat) : List Nat := ns ++ List.replicate (n - ns.length) 0
def upV (ns : List Nat) (i : Int) : List Nat × Bool :=
  if i < 0 ∨ 64 ≤ i ∨ atI ns i = 2 ^ 64 - 1 then (ns, false) else ((longV ns (i.toNat + 1)).set i.toNat (atI ns i + 1), true)
theorem set_u64 (ns : List Nat) (i m : Nat) : (ns.map u64V).set i (.int .u64 (m : Nat)) = (ns.set i m).map u64V := by rw [List.map_set]; rfl
end Go.Am
namespace Go.Am
open Go.Proofs
set_option maxRecDepth 100000
attribute [local congr] obind_congr obH_congr cnd_congr chk_congr retK_congr codeK_congr
theorem etM : ElemT Tryd.prog 87 73 1 24 (.slice none 0 0) := ⟨by kernel_rfl, by kernel_rfl, by kernel_rfl, by kernel_rfl, by omega, rfl, rfl⟩
theorem faM0 (p : Nat) : fieldAddrV Tryd.prog 89 (.pointer (some ⟨p, 0, none⟩)) 0 = some (.pointer (some ⟨p, 0, none⟩)) := by kernel_rfl
theorem faM1 (p : Nat) : fieldAddrV Tryd.prog 89 (.pointer (some ⟨p, 0, none⟩)) 1 = some (.pointer (some ⟨p, 1, none⟩)) := by kernel_rfl
theorem bxM (a b : Value) (h : Heap) : boxV Tryd.prog 89 (.agg #[a, b]) h = some (.pointer (some ⟨h.blks.length, 0, none⟩), h.new (.cells [a, b]) 89) := by kernel_rfl
theorem alM (h : Heap) : allocV Tryd.prog 89 h = some (.pointer (some ⟨h.blks.length, 0, none⟩), h.new (.cells [.int .i64 0, .slice none 0 0]) 89) := by kernel_rfl
theorem bdM0 : buildV Tryd.prog 89 #[] = some (.agg #[.int .i64 0, .slice none 0 0]) := by kernel_rfl
theorem bdM1 (n : Int) : buildV Tryd.prog 89 #[(0, .int .i64 n)] = some (.agg #[.int .i64 n, .slice none 0 0]) := by kernel_rfl
theorem ldM (p : Nat) (h : Heap) : loadV Tryd.prog 89 (.pointer (some ⟨p, 0, none⟩)) h = (h.loadN p 0 2).map fun cs => .agg cs.toArray := by kernel_rfl
theorem stM (p : Nat) (k : IntKind) (n : Int) (ad : Option Addr) (l c : Nat) (h : Heap) : storeV Tryd.prog 89 (.pointer (some ⟨p, 0, none⟩)) (.agg #[.int k n, .slice ad l c]) h = h.storeN p 0 [.int k n, .slice ad l c] := by kernel_rfl
theorem ldRs (p o : Nat) (h : Heap) : loadV Tryd.prog 87 (.pointer (some ⟨p, o, none⟩)) h = h.load1 p o := by kernel_rfl
theorem stRs (p o : Nat) (a : Option Addr) (n c : Nat) (h : Heap) : storeV Tryd.prog 87 (.pointer (some ⟨p, o, none⟩)) (.slice a n c) h = h.storeN p o [.slice a n c] := by kernel_rfl
theorem mldInt (p o : Nat) (h : Heap) : loadV Tryd.prog 3 (.pointer (some ⟨p, o, none⟩)) h = h.load1 p o := by kernel_rfl
theorem mkR1 (a : Option Addr) (n c : Nat) (h : Heap) : buildSliceV Tryd.prog 87 1 #[(0, .slice a n c)] h = some (.slice (some ⟨h.blks.length, 0, none⟩) 1 1, h.new (.cells [.slice a n c]) 73) := by kernel_rfl
theorem two1 (a b : Value) : [a, b][0]? = some a := (id rfl)
theorem two2 (a b : Value) : [a, b][1]? = some b := (id rfl)
theorem w2_put (a b c d : Value) : List.take 0 [a, b] ++ [c, d] ++ List.drop (0 + [c, d].length) [a, b] = [c, d] := (id rfl)
theorem w2_put1 (a b d : Value) : List.take 1 [a, b] ++ [d] ++ List.drop (1 + [d].length) [a, b] = [a, d] := (id rfl)
abbrev matV (n : Int) (v : Value) : Value := .agg #[.int .i64 n, v]
def SMv (h : Heap) (v : Value) (vs : List Value) (m : List (List Nat)) : Prop := Sl Tryd.prog h 1 v m.length vs ∧ All2 (SU h) vs m
def SM (h : Heap) (v : Value) (m : List (List Nat)) : Prop := ∃ vs, SMv h v vs m
theorem SMv.kp {h h' : Heap} {v : Value} {vs : List Value} {m : List (List Nat)} (s : SMv h v vs m) (k : ∀ b, b < h.blks.length → h'.blks[b]? = h.blks[b]?) : SMv h' v vs m := ⟨s.1.keep fun b hb _ => k b hb, s.2.mono fun _ _ x => x.keep fun b hb _ => k b hb⟩
theorem SM.kp {h h' : Heap} {v : Value} {m : List (List Nat)} (s : SM h v m) (k : ∀ b, b < h.blks.length → h'.blks[b]? = h.blks[b]?) : SM h' v m := let ⟨vs, x⟩ := s; ⟨vs, x.kp k⟩
theorem SM.ext {h h' : Heap} {v : Value} {m : List (List Nat)} (s : SM h v m) (e : HExt h h') : SM h' v m := s.kp e.old
theorem SM.same {h h' : Heap} {v : Value} {m : List (List Nat)} (s : SM h v m) (e : Same h h') : SM h' v m := s.kp e.2
theorem SM.nm {h : Heap} {v : Value} {m : List (List Nat)} (s : SM h v m) : SM (Am.nm h) v m := s.kp fun _ _ => rfl
theorem SM.done {h0 h : Heap} {v : Value} {m : List (List Nat)} (s : SM h v m) : SM (Am.done h0 h) v m := s.kp fun _ _ => rfl
theorem SM.new {h : Heap} {v : Value} {m : List (List Nat)} (s : SM h v m) (body : Body) (t : TypeId) : SM (h.new body t) v m := s.kp fun _ hb => Heap.new_old hb
theorem SM.put {h0 h : Heap} {v : Value} {m : List (List Nat)} (s : SM h0 v m) (sm : Same h0 h) {p : Nat} (hp : h0.blks.length ≤ p) (body : Body) : SM (h.put p body) v m := s.same (sm.put hp body)
theorem SM.shape {h : Heap} {v : Value} {m : List (List Nat)} (s : SM h v m) : ∃ a c, v = .slice a m.length c := let ⟨_, x, _⟩ := s; x.shape
theorem SM.nil (h : Heap) : SM h (.slice none 0 0) [] := ⟨[], .nil, .nil⟩
theorem SMv.at {h : Heap} {v : Value} {vs : List Value} {m : List (List Nat)} (s : SMv h v vs m) {t e : TypeId} (ht : Tryd.prog.underlying t = some (.slice e)) (hs : sizeT Tryd.prog e = some 1) (ha : isAggT Tryd.prog e = some false) {i : Nat} (hi : i < m.length) :
    ∃ a x, vs[i]? = some x ∧ indexAddrV Tryd.prog t v (.int .i64 i) = some (.pointer (some a)) ∧ loadV Tryd.prog e (.pointer (some a)) h = some x ∧ SU h x (m.getD i []) := by
  obtain ⟨a, e1, e2, _⟩ := s.1.row.at1 ht hs ha hi .i64
  obtain ⟨x, h1, h2⟩ := s.2.get' (i := i) (b := m[i]) (List.getElem?_eq_getElem hi)
  rw [h1] at e2
  refine ⟨a, x, h1, e1, e2, ?_⟩
  rw [List.getD_eq_getElem?_getD, List.getElem?_eq_getElem hi]
  exact h2
theorem SM.at {h : Heap} {v : Value} {m : List (List Nat)} (s : SM h v m) {t e : TypeId} (ht : Tryd.prog.underlying t = some (.slice e)) (hs : sizeT Tryd.prog e = some 1) (ha : isAggT Tryd.prog e = some false) {i : Nat} (hi : i < m.length) :
    ∃ a x, indexAddrV Tryd.prog t v (.int .i64 i) = some (.pointer (some a)) ∧ loadV Tryd.prog e (.pointer (some a)) h = some x ∧ SU h x (m.getD i []) := by
  obtain ⟨vs, x⟩ := s
  obtain ⟨a, y, _, h1, h2, h3⟩ := x.at ht hs ha hi
  exact ⟨a, y, h1, h2, h3⟩
theorem SM.atV {h : Heap} {v : Value} {m : List (List Nat)} (s : SM h v m) {i : Nat} (hi : i < m.length) :
    ∃ a x, indexAddrV Tryd.prog 87 v (.int .i64 i) = some (.pointer (some a)) ∧ loadV Tryd.prog 73 (.pointer (some a)) h = some x ∧ SU h x (m.getD i []) := s.at etM.under etM.size (by kernel_rfl) hi
theorem SM.lenRV {h : Heap} {v : Value} {m : List (List Nat)} (s : SM h v m) : lenV Tryd.prog 87 v h = some (.int .i64 m.length) := let ⟨_, x, _⟩ := s; x.row.len_eq etM.under
structure AMv (eo : TypeId) (n0 : Nat) (h : Heap) (v : Value) (vs : List Value) (m : List (List Nat)) : Prop where
  out : Acc n0 h eo 1 v m.length vs
  rows : All2 (AU n0 h) vs m
  apart : vs.Pairwise fun x y => ∀ b, blockOf x = some b → blockOf y ≠ some b
def AM (eo : TypeId) (n0 : Nat) (h : Heap) (v : Value) (m : List (List Nat)) : Prop := ∃ vs, AMv eo n0 h v vs m
theorem AMv.kp {eo : TypeId} {n0 : Nat} {h h' : Heap} {v : Value} {vs : List Value} {m : List (List Nat)} (a : AMv eo n0 h v vs m) (k : ∀ b all ty, h.blks[b]? = some ⟨.cells all, ty, true⟩ → ty = eo ∨ ty = 23 → n0 ≤ b → h'.blks[b]? = h.blks[b]?) : AMv eo n0 h' v vs m :=
  ⟨a.out.keep fun b _ hv => by obtain ⟨all, h1⟩ := a.out.blk hv; exact k b all _ h1 (.inl rfl) (a.out.ge hv), a.rows.mono fun _ _ x => x.keep fun b _ hv => by obtain ⟨all, h1⟩ := x.blk hv; exact k b all _ h1 (.inr rfl) (x.ge hv), a.apart⟩
theorem AMv.smv {eo : TypeId} (hs : sizeT Tryd.prog eo = some 1) {n0 : Nat} {h : Heap} {v : Value} {vs : List Value} {m : List (List Nat)} (a : AMv eo n0 h v vs m) : SMv h v vs m := ⟨a.out.sl hs, a.rows.mono fun _ _ x => x.su⟩
theorem AM.smV {n0 : Nat} {h : Heap} {v : Value} {m : List (List Nat)} (a : AM 73 n0 h v m) : SM h v m := let ⟨vs, x⟩ := a; ⟨vs, x.smv etM.size⟩
theorem AM.kp {eo : TypeId} {n0 : Nat} {h h' : Heap} {v : Value} {m : List (List Nat)} (a : AM eo n0 h v m) (k : ∀ b all ty, h.blks[b]? = some ⟨.cells all, ty, true⟩ → ty = eo ∨ ty = 23 → n0 ≤ b → h'.blks[b]? = h.blks[b]?) : AM eo n0 h' v m := let ⟨vs, x⟩ := a; ⟨vs, x.kp k⟩
theorem AM.same {eo : TypeId} {n0 : Nat} {h h' : Heap} {v : Value} {m : List (List Nat)} (a : AM eo n0 h v m) (e : Same h h') : AM eo n0 h' v m := a.kp fun b _ _ hb _ _ => e.2 b (List.getElem?_eq_some_iff.1 hb).1
theorem AM.done {eo : TypeId} {n0 : Nat} {h0 h : Heap} {v : Value} {m : List (List Nat)} (a : AM eo n0 h v m) : AM eo n0 (Am.done h0 h) v m := a.kp fun _ _ _ _ _ _ => rfl
theorem AM.nm {eo : TypeId} {n0 : Nat} {h : Heap} {v : Value} {m : List (List Nat)} (a : AM eo n0 h v m) : AM eo n0 (Am.nm h) v m := a.kp fun _ _ _ _ _ _ => rfl
theorem AM.up {eo : TypeId} {n0 n1 : Nat} {h : Heap} {v : Value} {m : List (List Nat)} (a : AM eo n0 h v m) (hn : n1 ≤ n0) : AM eo n1 h v m := let ⟨vs, x⟩ := a; ⟨vs, x.out.up hn, x.rows.mono fun _ _ y => y.up hn, x.apart⟩
theorem AMv.put {eo : TypeId} {n0 : Nat} {h : Heap} {v : Value} {vs : List Value} {m : List (List Nat)} (a : AMv eo n0 h v vs m) {p : Nat} {ty : TypeId} {cs : List Value} (c : Cells h p ty cs) (h1 : ty ≠ eo) (h2 : ty ≠ 23) (body : Body) : AMv eo n0 (h.put p body) v vs m :=
  a.kp fun b all t hb ht _ => Heap.put_other (fun e => by
    subst e
    unfold Cells at c
    rw [hb] at c
    simp only [Option.some.injEq, Blk.mk.injEq] at c
    rcases ht with ht | ht
    · exact h1 (c.2.1.symm.trans ht)
    · exact h2 (c.2.1.symm.trans ht)) _
theorem AM.put {eo : TypeId} {n0 : Nat} {h : Heap} {v : Value} {m : List (List Nat)} (a : AM eo n0 h v m) {p : Nat} {ty : TypeId} {cs : List Value} (c : Cells h p ty cs) (h1 : ty ≠ eo) (h2 : ty ≠ 23) (body : Body) : AM eo n0 (h.put p body) v m := let ⟨vs, x⟩ := a; ⟨vs, x.put c h1 h2 body⟩
theorem AM.shape {eo : TypeId} {n0 : Nat} {h : Heap} {v : Value} {m : List (List Nat)} (a : AM eo n0 h v m) : ∃ a c, v = .slice a m.length c := let ⟨_, x⟩ := a; x.out.shape
theorem AM.nil (eo : TypeId) (n0 : Nat) (h : Heap) : AM eo n0 h (.slice none 0 0) [] := ⟨[], .nil, .nil, .nil⟩
theorem Acc.blk_ne {n0 n1 : Nat} {h : Heap} {e1 e2 : TypeId} {es es' n n' : Nat} {v w : Value} {cs ds : List Value} (a : Acc n0 h e1 es v n cs) (a' : Acc n1 h e2 es' w n' ds) (hne : e1 ≠ e2) {b : Nat} (hv : blockOf v = some b) : blockOf w ≠ some b := fun hw => by
  obtain ⟨_, x⟩ := a.blk hv
  obtain ⟨_, y⟩ := a'.blk hw
  rw [x] at y
  simp only [Option.some.injEq, Blk.mk.injEq] at y
  exact hne y.2.1
theorem AM.app {t eo : TypeId} (et : ElemT Tryd.prog t eo 1 24 (.slice none 0 0)) (hne : eo ≠ 23) {n0 : Nat} {h1 h : Heap} (hn : n0 ≤ h1.blks.length) {v : Value} {m : List (List Nat)} (am : AM eo n0 h1 v m) (sm : Same h1 h) {a : Option Addr} {c : Nat} {r : List Nat} (ax : AU h1.blks.length h (.slice a r.length c) r) (hl : m.length < 2 ^ 38) :
    ∃ a' c' h', appendV Tryd.prog t (some t) v (.slice (some ⟨h.blks.length, 0, none⟩) 1 1) (h.new (.cells [.slice a r.length c]) eo) = some (.slice a' (m ++ [r]).length c', h') ∧ AM eo n0 h' (.slice a' (m ++ [r]).length c') (m ++ [r]) ∧ Keeps n0 h h' ∧ (∀ p ty cs, Cells h p ty cs → ty ≠ eo → Cells h' p ty cs) := by
  obtain ⟨vs, A⟩ := am
  have A1 := A.kp (h' := h) fun b _ _ hb _ _ => sm.2 b (List.getElem?_eq_some_iff.1 hb).1
  have A2 := A1.kp (h' := h.new (.cells [.slice a r.length c]) eo) fun b _ _ hb _ _ => Heap.new_old (List.getElem?_eq_some_iff.1 hb).1
  have hh : n0 ≤ h.blks.length := Nat.le_trans hn sm.1
  have ax2 : AU h1.blks.length (h.new (.cells [.slice a r.length c]) eo) (.slice a r.length c) r := ax.keep fun b hb _ => Heap.new_old hb
  have hrow : Row (h.new (.cells [.slice a r.length c]) eo) 1 (.slice (some ⟨h.blks.length, 0, none⟩) 1 1) 1 [.slice a r.length c] := .mk (loadN_blk (blk_new_self _ _ _) rfl)
  obtain ⟨v', h', e1, e2, e3, e4, e5⟩ := append_acc et (t1 := some t) (n0 := n0) (by simp [Heap.new]; omega) A2.out (newsV_row et.under hrow) (by simp) (by omega) (by omega) (by simp [Value.oneCell'])
  obtain ⟨a', c', rfl⟩ := e2.shape
  have el : m.length + 1 = (m ++ [r]).length := by simp
  rw [el] at e1 e2
  have kr : ∀ b, b < (h.new (.cells [.slice a r.length c]) eo).blks.length → blockOf v ≠ some b → h'.blks[b]? = (h.new (.cells [.slice a r.length c]) eo).blks[b]? := e4
  refine ⟨a', c', h', e1, ⟨vs ++ [.slice a r.length c], e2, (A2.rows.mono fun x y s => ?_).append (.cons ?_ .nil), ?_⟩, (Keeps.new hh _ _).trans e3, fun p ty cs hp ht => ?_⟩
  · exact s.keep fun b hb hv => kr b hb fun e => (s.blk_ne A2.out (Ne.symm hne) hv) e
  · exact (ax2.keep fun b hb hv => kr b hb fun e => (ax2.blk_ne A2.out (Ne.symm hne) hv) e).up hn
  · rw [List.pairwise_append]
    refine ⟨A.apart, List.pairwise_singleton _ _, fun x hx y hy b hb hb' => ?_⟩
    rw [List.mem_singleton] at hy
    subst hy
    obtain ⟨i, hi, rfl⟩ := List.getElem_of_mem hx
    obtain ⟨r', _, hr'⟩ := A.rows.get (i := i) (a := vs[i]) (List.getElem?_eq_getElem hi)
    have l1 := hr'.su.lt hb
    have l2 := ax.ge hb'
    omega
  · have hp' : Cells (h.new (.cells [.slice a r.length c]) eo) p ty cs := hp.keepNew _ _
    refine (kr p hp'.lt fun e => ?_).trans hp'
    obtain ⟨all, x⟩ := A2.out.blk e
    unfold Cells at hp'
    rw [hp'] at x
    simp only [Option.some.injEq, Blk.mk.injEq] at x
    exact ht x.2.1
theorem AMv.set1q {eo : TypeId} (hne : eo ≠ 23) {n0 : Nat} {h : Heap} {v : Value} {vs : List Value} {m : List (List Nat)} (A : AMv eo n0 h v vs m) {t : TypeId} (ht : Tryd.prog.underlying t = some (.slice 23)) {i j : Nat} (hi : i < m.length) (hj : j < (m.getD i []).length) {x : Value} (hx : vs[i]? = some x) (k : Nat) :
    ∃ b o h', indexAddrV Tryd.prog t x (.int .i64 j) = some (.pointer (some ⟨b, o, none⟩)) ∧ h.load1 b o = some (.int .u64 ((m.getD i []).getD j 0 : Nat)) ∧ h.storeN b o [.int .u64 k] = some h' ∧ AMv eo n0 h' v vs (m.set i ((m.getD i []).set j k)) ∧ Keeps n0 h h' ∧ h'.blks.length = h.blks.length ∧
      (∀ p ty cs, Cells h p ty cs → ty ≠ 23 → Cells h' p ty cs) ∧ (∀ q, blockOf x ≠ some q → h'.blks[q]? = h.blks[q]?) := by
  obtain ⟨y, hy, ay⟩ := A.rows.get' (i := i) (b := m[i]) (List.getElem?_eq_getElem hi)
  obtain rfl : x = y := Option.some.inj (hx.symm.trans hy)
  have em : m.getD i [] = m[i] := by rw [List.getD_eq_getElem?_getD, List.getElem?_eq_getElem hi]; rfl
  rw [em] at hj ⊢
  obtain ⟨b, o, h', e1, l1, st, a', k', hl, hb, hq⟩ := ay.set1 ht etU.size hj (.int .u64 (k : Nat)) .i64
  rw [map_get _ hj] at l1
  rw [set_u64] at a'
  obtain ⟨all, hall⟩ := ay.blk hb
  refine ⟨b, o, h', e1, l1, st, ⟨?_, ?_, A.apart⟩, k', hl, fun p ty cs hp hty => (hq p fun e => ?_).trans hp, fun q hne => hq q fun e => hne (by rw [hb, e])⟩
  · rw [List.length_set]
    exact A.out.keep fun c _ hc => hq c fun e => by
      subst e
      exact ay.blk_ne A.out (Ne.symm hne) hb hc
  · have key : ∀ (l : List Value) (l2 : List (List Nat)), All2 (AU n0 h) l l2 → l.Pairwise (fun x y => ∀ b, blockOf x = some b → blockOf y ≠ some b) → ∀ (i : Nat) (r : List Nat), l[i]? = some x → AU n0 h' x r → All2 (AU n0 h') l (l2.set i r) := by
      intro l l2 hR
      induction hR with
      | nil => intro _ i r hi; simp at hi
      | cons p q ih =>
        rename_i aa bb la lb
        intro hp i r hi hr
        rw [List.pairwise_cons] at hp
        cases i with
        | zero =>
          simp only [List.getElem?_cons_zero, Option.some.injEq] at hi
          subst hi
          refine .cons hr ?_
          have : ∀ (l : List Value) (l2 : List (List Nat)), All2 (AU n0 h) l l2 → (∀ z ∈ l, blockOf z ≠ some b) → All2 (AU n0 h') l l2 := by
            intro l l2 hR
            induction hR with
            | nil => intro _; exact .nil
            | cons p q ih => intro hz; exact .cons (p.keep fun c _ hc => hq c fun e => hz _ List.mem_cons_self (by rw [hc, e])) (ih fun z hz' => hz z (by simp [hz']))
          exact this _ _ q fun z hz => hp.1 z hz b hb
        | succ i =>
          simp only [List.getElem?_cons_succ] at hi
          refine .cons (p.keep fun c _ hc => hq c fun e => ?_) (ih hp.2 i r hi hr)
          exact hp.1 x (List.mem_of_getElem? hi) c hc (by rw [e]; exact hb)
    refine key vs m A.rows A.apart i _ hx ?_
    unfold AU
    rw [List.length_set]
    exact a'
  · subst e
    unfold Cells at hp
    rw [hp] at hall
    simp only [Option.some.injEq, Blk.mk.injEq] at hall
    exact hty hall.2.1
theorem AMv.set1 {eo : TypeId} (hne : eo ≠ 23) {n0 : Nat} {h : Heap} {v : Value} {vs : List Value} {m : List (List Nat)} (A : AMv eo n0 h v vs m) {t : TypeId} (ht : Tryd.prog.underlying t = some (.slice 23)) {i j : Nat} (hi : i < m.length) (hj : j < (m.getD i []).length) {x : Value} (hx : vs[i]? = some x) (k : Nat) :
    ∃ b o h', indexAddrV Tryd.prog t x (.int .i64 j) = some (.pointer (some ⟨b, o, none⟩)) ∧ h.load1 b o = some (.int .u64 ((m.getD i []).getD j 0 : Nat)) ∧ h.storeN b o [.int .u64 k] = some h' ∧ AMv eo n0 h' v vs (m.set i ((m.getD i []).set j k)) ∧ Keeps n0 h h' ∧ h'.blks.length = h.blks.length ∧
      (∀ p ty cs, Cells h p ty cs → ty ≠ 23 → Cells h' p ty cs) := by
  obtain ⟨b, o, h', a1, a2, a3, a4, a5, a6, a7, _⟩ := A.set1q hne ht hi hj hx k
  exact ⟨b, o, h', a1, a2, a3, a4, a5, a6, a7⟩
def zerosM (n : Nat) : List (List Nat) := List.replicate n (List.replicate n 0)
theorem mnew_loop {h0 : Heap} {p q n : Nat} (hn : n ≤ 16) (hq : h0.blks.length ≤ q) (hpq : p ≠ q) (hp : h0.blks.length ≤ p) : ∀ (mm i : Nat) (h : Heap) (v : Value), n = i + mm → Cells h q 89 [.int .i64 0, .slice none 0 0] → Cells h p 89 [.int .i64 n, v] → AM 73 h0.blks.length h v (List.replicate i (List.replicate n 0)) → In h0.blks.length No (nm h0) h →
    ∀ (Ab Ad Af Ag Ah Ai Aj Ak Al An Ao Ar As Au Av Aw Ax Ay Az Ba Bb : Value),
    ∃ v' h', loopK Tryd.prog (evC Tryd.prog) c33_1 ⟨#[.int .i64 n,Ab, .pointer (some ⟨q, 0, none⟩),Ad, .pointer (some ⟨p, 0, none⟩),Af,Ag,Ah,Ai,Aj,Ak,Al,An,Ao, .int .i64 n, .int .i64 i,Ar,As,Au,Av,Aw,Ax,Ay,Az,Ba,Bb], h⟩ (blockK 0 (seqK Tryd.prog (evC Tryd.prog) c33_2 (retK Tryd.f33 Tryd.prog h0))) =
      some (.tuple #[matV n v', .int .i64 0], h') ∧ HExt h0 h' ∧ AM 73 h0.blks.length h' v' (zerosM n) := by
  intro mm
  induction mm with
  | zero =>
    intro i h v hi cq cp hA hin Ab Ad Af Ag Ah Ai Aj Ak Al An Ao Ar As Au Av Aw Ax Ay Az Ba Bb
    rw [loopK_eq evC_m, c33_1_eq]
    obtain rfl : n = i := by omega
    obtain ⟨a, c, rfl⟩ := hA.shape
    have cq2 := cq.put [.int .i64 n, .slice a (List.replicate n (List.replicate n 0)).length c]
    simp -implicitDefEqProofs (disch := omega) only [dcT, dcF, ↓c33_2_eq, ldM, cp.loadN (n := 2) rfl, stM, storeN_blk cq (o := 0) (vs := [.int .i64 n, .slice a (List.replicate n (List.replicate n 0)).length c]) (by simp), w2_put, ↓ret33, ↓cnd_true, ↓cnd_false, ↓Option.bind_some, ↓obH_some', bin_add, bin_sub, bin_mul, bin_lss, bin_leq, bin_gtr, bin_geq, bin_eql, bin_neq, un_not, un_neg, Option.bind_some, Option.bind_none, Option.map_some, cnd_true, cnd_false, pickV_true, pickV_false, gd_true, gd_false, gdV_true, gdV_false, gdH_true, gdH_false, gdS_true, gdS_false, wt_ff, wt_tt, wt_ft, wt_tf, wt_undef, obH_some', extractV_tuple, nilCheckV_ptr, againK_normal, againK_exit, againK_ret, blockK_normal, blockK_same, blockK_ret, seqK_normal, seqK_exit, seqK_ret, fin_done, if_true', if_false', Bool.not_true, Bool.not_false, idx0, idx1, idx2, idx3, idx4, chk_nil_l, chk_nil_r, done_nm]
    simp -implicitDefEqProofs only [ldM, cq2.loadN (n := 2) rfl, Option.map_some, Option.bind_some, rvals_two, fin_done]
    exact ⟨_, _, rfl, done_ext' (hin.trans (In.put hin.len (.inl hq) _)), (hA.put cq (by decide) (by decide) _).done⟩
  | succ mm ih =>
    intro i h v hi cq cp hA hin Ab Ad Af Ag Ah Ai Aj Ak Al An Ao Ar As Au Av Aw Ax Ay Az Ba Bb
    rw [loopK_eq evC_m, c33_1_eq]
    obtain ⟨a, c, h1, e1,Ab, s1⟩ := spec_New (n : Int) (nm h)
    have en : (min (max (n : Int) 0) 64).toNat = n := by omega
    rw [en] at e1 s1
    obtain ⟨Ab', m1⟩ := Ab.amx
    have s1' : AU h.blks.length (am h1 h) (.slice a (List.replicate n 0).length c) (List.replicate n 0) := s1.keep fun _ _ _ => rfl
    have hlen : h0.blks.length ≤ h.blks.length := hin.len
    obtain ⟨a2, c2, h2, e2, s2, k2, o2⟩ := hA.app etM (by decide) hlen Ab'.same s1' (by simp; omega)
    have cp2 := o2 _ _ _ (cp.ext Ab') (by decide)
    have cq2 := o2 _ _ _ (cq.ext Ab') (by decide)
    have er : List.replicate i (List.replicate n 0) ++ [List.replicate n 0] = List.replicate (i + 1) (List.replicate n 0) := List.replicate_succ'.symm
    have hw : IntKind.wrap .i64 ((i : Int) + 1) = ((i + 1 : Nat) : Int) := by rw [wrap_i64] <;> omega
    rw [er] at e2 s2
    have cp3 := cp2.put [.int .i64 n, .slice a2 (List.replicate (i + 1) (List.replicate n 0)).length c2]
    simp -implicitDefEqProofs (disch := omega) only [dcT, dcF, faM1, ldRs, cp.load, two2, e1, mkR1, e2, stRs, storeN_blk cp2 (o := 1) (vs := [.slice a2 (List.replicate (i + 1) (List.replicate n 0)).length c2]) (by simp), w2_put1, m1, List.append_nil, hw, ↓cnd_true, ↓cnd_false, ↓Option.bind_some, ↓obH_some', bin_add, bin_sub, bin_mul, bin_lss, bin_leq, bin_gtr, bin_geq, bin_eql, bin_neq, un_not, un_neg, Option.bind_some, Option.bind_none, Option.map_some, cnd_true, cnd_false, pickV_true, pickV_false, gd_true, gd_false, gdV_true, gdV_false, gdH_true, gdH_false, gdS_true, gdS_false, wt_ff, wt_tt, wt_ft, wt_tf, wt_undef, obH_some', extractV_tuple, nilCheckV_ptr, againK_normal, againK_exit, againK_ret, blockK_normal, blockK_same, blockK_ret, seqK_normal, seqK_exit, seqK_ret, fin_done, if_true', if_false', Bool.not_true, Bool.not_false, idx0, idx1, idx2, idx3, idx4, chk_nil_l, chk_nil_r, done_nm]
    exact ih (i + 1) _ _ (by omega) (cq2.keepPut hpq _) cp3 (s2.put cp2 (by decide) (by decide) _) (((hin.trans (Ab'.inn hlen)).trans k2.inn).trans (In.put (by have := Ab'.len; have := k2.len; omega) (.inl hp) _)) _ _ _ _ _ _ _ _ _ _ _ _ _ _ _ _ _ _ _ _ _
theorem spec_MNew (n : Int) (h : Heap) : ∃ v h', evC Tryd.prog 33 #[.int .i64 n] h = some (.tuple #[matV (if 1 ≤ n ∧ n ≤ 16 then n else 0) v, .int .i64 (if 1 ≤ n ∧ n ≤ 16 then 0 else 1)], h') ∧ HExt h h' ∧ AM 73 h.blks.length h' v (if 1 ≤ n ∧ n ≤ 16 then zerosM n.toNat else []) := by
  rw [call33, c33_0_eq]
  have c1 := Cells.new (nm h) 89 [.int .i64 0, .slice none 0 0]
  by_cases hc : 1 ≤ n ∧ n ≤ 16
  · obtain ⟨n, rfl⟩ : ∃ m : Nat, n = m := ⟨n.toNat, by omega⟩
    simp only [if_pos hc, Int.toNat_natCast]
    have i1 : In h.blks.length No (nm h) _ := In.new (by simp) (.cells [.int .i64 0, .slice none 0 0]) 89
    have l1 : ((nm h).new (.cells [.int .i64 0, .slice none 0 0]) 89).blks.length = h.blks.length + 1 := by simp [Heap.new]
    have al1 := alM (nm h)
    have bl : (nm h).blks.length = h.blks.length := rfl
    rw [bl] at al1 c1
    generalize (nm h).new (.cells [.int .i64 0, .slice none 0 0]) 89 = h1 at *
    have c2 := Cells.new h1 89 [.int .i64 0, .slice none 0 0]
    have c1' := c1.keepNew (.cells [.int .i64 0, .slice none 0 0]) 89
    have c3 := c2.put [.int .i64 n, .slice none 0 0]
    have i2 : In h.blks.length No h1 _ := In.new (by omega) (.cells [.int .i64 0, .slice none 0 0]) 89
    have i3 : In h.blks.length No _ _ := In.put (h := h1.new (.cells [.int .i64 0, .slice none 0 0]) 89) (p := h1.blks.length) (S := No) (Nat.le_trans (by omega) i2.len) (.inl (by omega)) (.cells [.int .i64 n, .slice none 0 0])
    simp -implicitDefEqProofs (disch := omega) only [dcT, dcF, al1, alM, bdM1, stM, storeN_blk c2 (o := 0) (vs := [.int .i64 n, .slice none 0 0]) (by simp), w2_put, ↓cnd_true, ↓cnd_false, ↓Option.bind_some, ↓obH_some', bin_add, bin_sub, bin_mul, bin_lss, bin_leq, bin_gtr, bin_geq, bin_eql, bin_neq, un_not, un_neg, Option.bind_some, Option.bind_none, Option.map_some, cnd_true, cnd_false, pickV_true, pickV_false, gd_true, gd_false, gdV_true, gdV_false, gdH_true, gdH_false, gdS_true, gdS_false, wt_ff, wt_tt, wt_ft, wt_tf, wt_undef, obH_some', extractV_tuple, nilCheckV_ptr, againK_normal, againK_exit, againK_ret, blockK_normal, blockK_same, blockK_ret, seqK_normal, seqK_exit, seqK_ret, fin_done, if_true', if_false', Bool.not_true, Bool.not_false, idx0, idx1, idx2, idx3, idx4, chk_nil_l, chk_nil_r, done_nm]
    exact mnew_loop (h0 := h) (n := n) (by omega) (by omega) (by omega) (by omega) n 0 _ _ (by omega) (c1'.keepPut (by omega) _) c3 (AM.nil _ _ _) ((i1.trans i2).trans i3) _ _ _ _ _ _ _ _ _ _ _ _ _ _ _ _ _ _ _ _ _
  · simp only [if_neg hc]
    have c2 := c1.put [.int .i64 0, .slice none 0 0]
    rcases (by omega : n < 1 ∨ 16 < n) with h1 | h1 <;>
    · simp -implicitDefEqProofs (disch := omega) only [dcT, dcF, alM, bdM0, stM, storeN_blk c1 (o := 0) (vs := [.int .i64 0, .slice none 0 0]) (by simp), w2_put, ↓ret33, ↓cnd_true, ↓cnd_false, ↓Option.bind_some, ↓obH_some', bin_add, bin_sub, bin_mul, bin_lss, bin_leq, bin_gtr, bin_geq, bin_eql, bin_neq, un_not, un_neg, Option.bind_some, Option.bind_none, Option.map_some, cnd_true, cnd_false, pickV_true, pickV_false, gd_true, gd_false, gdV_true, gdV_false, gdH_true, gdH_false, gdS_true, gdS_false, wt_ff, wt_tt, wt_ft, wt_tf, wt_undef, obH_some', extractV_tuple, nilCheckV_ptr, againK_normal, againK_exit, againK_ret, blockK_normal, blockK_same, blockK_ret, seqK_normal, seqK_exit, seqK_ret, fin_done, if_true', if_false', Bool.not_true, Bool.not_false, idx0, idx1, idx2, idx3, idx4, chk_nil_l, chk_nil_r, done_nm]
      simp -implicitDefEqProofs only [ldM, c2.loadN (n := 2) rfl, Option.map_some, Option.bind_some, rvals_two, fin_done]
      exact ⟨_, _, rfl, done_ext' ((In.new (h := nm h) (n0 := h.blks.length) (Nat.le_refl _) _ _).trans (In.put (by simp [Heap.new]) (.inl (Nat.le_refl _)) _)), AM.nil _ _ _⟩
def goodM (n : Int) (m : List (List Nat)) : Bool := decide (1 ≤ n ∧ n ≤ 16 ∧ (m.length : Int) = n) && m.all fun r => decide ((r.length : Int) = n)
theorem goodM_iff (n : Int) (m : List (List Nat)) : goodM n m = true ↔ (1 ≤ n ∧ n ≤ 16 ∧ (m.length : Int) = n) ∧ ∀ r ∈ m, (r.length : Int) = n := by
  simp [goodM]
abbrev cloV (p : Nat) : Value := .func (.func 83) #[] #[.pointer (some ⟨p, 0, none⟩)]
theorem clo116 (p : Nat) (x : Value) (h : Heap) : callV Tryd.prog (evC Tryd.prog) (cloV p) #[x] h = evC Tryd.prog 83 #[x, .pointer (some ⟨p, 0, none⟩)] h := by kernel_rfl
theorem call116' (x y : Value) (h : Heap) : evC Tryd.prog 83 #[x, y] h = codeK Tryd.prog (evC Tryd.prog) loopL c83_0 ⟨#[x, y, undef, undef, undef, undef, undef, undef, undef], nm h⟩ (retK Tryd.f83 Tryd.prog h) :=
  (evC_call 83 Tryd.f83 c83_0 Tryd.func83 (by kernel_rfl) #[x, y] h).trans (by kernel_rfl)
theorem spec_clo {h : Heap} {p : Nat} {n : Int} {v x : Value} {r : List Nat} (c : Cells h p 89 [.int .i64 n, v]) (s : SU h x r) : evC Tryd.prog 83 #[x, .pointer (some ⟨p, 0, none⟩)] h = some (.bool (!decide ((r.length : Int) = n)), h) := by
  rw [call116', c83_0_eq]
  have e : decide ((r.length : Int) ≠ n) = !decide ((r.length : Int) = n) := by by_cases g : (r.length : Int) = n <;> simp [g]
  simp -implicitDefEqProofs only [s.nm.row.len_eq etV.under, faM0, mldInt, c.nm.load, two1, e, ↓ret83, ↓cnd_true, ↓cnd_false, ↓Option.bind_some, ↓obH_some', bin_add, bin_sub, bin_mul, bin_lss, bin_leq, bin_gtr, bin_geq, bin_eql, bin_neq, un_not, un_neg, Option.bind_some, Option.bind_none, Option.map_some, cnd_true, cnd_false, pickV_true, pickV_false, gd_true, gd_false, gdV_true, gdV_false, gdH_true, gdH_false, gdS_true, gdS_false, wt_ff, wt_tt, wt_ft, wt_tf, wt_undef, obH_some', extractV_tuple, nilCheckV_ptr, againK_normal, againK_exit, againK_ret, blockK_normal, blockK_same, blockK_ret, seqK_normal, seqK_exit, seqK_ret, fin_done, if_true', if_false', Bool.not_true, Bool.not_false, idx0, idx1, idx2, idx3, idx4, chk_nil_l, chk_nil_r, done_nm]
def idxL (n : Int) : Int → List (List Nat) → Int
  | _, [] => -1
  | i, r :: l => if (r.length : Int) = n then idxL n (i + 1) l else i
theorem idxL_ge (n : Int) : ∀ (l : List (List Nat)) (i : Int), 0 ≤ i → (decide (idxL n i l ≥ 0) = !l.all fun r => decide ((r.length : Int) = n))
  | [], i, h => by simp [idxL]
  | r :: l, i, h => by
    unfold idxL
    by_cases g : (r.length : Int) = n
    · rw [if_pos g, idxL_ge n l (i + 1) (by omega)]; simp [g]
    · rw [if_neg g]; simp [g]; omega
theorem ifunc_loop {h0 h : Heap} {p : Nat} {n : Int} {v w : Value} {m : List (List Nat)} (c : Cells h p 89 [.int .i64 n, w]) (s : SM h v m) (hm : m.length < 2 ^ 40) : ∀ (mm i : Nat), m.length = i + mm → ∀ (Ac Ad Ae Af Ag Aj Ak Al An Ao Ap Aq Ar As Au : Value),
    loopK Tryd.prog (evC Tryd.prog) c92_1 ⟨#[v, cloV p,Ac,Ad,Ae,Af,Ag, .int .i64 m.length, .int .i64 i,Aj,Ak,Al,An,Ao,Ap,Aq,Ar,As,Au], h⟩ (blockK 0 (seqK Tryd.prog (evC Tryd.prog) c92_2 (retK Tryd.f92 Tryd.prog h0))) = some (.int .i64 (idxL n i (m.drop i)), done h0 h) := by
  intro mm
  induction mm with
  | zero =>
    intro i hi Ac Ad Ae Af Ag Aj Ak Al An Ao Ap Aq Ar As Au
    rw [loopK_eq evC_m, c92_1_eq, List.drop_of_length_le (by omega)]
    simp -implicitDefEqProofs (disch := omega) only [dcT, dcF, ↓c92_2_eq, ↓ret92, idxL, ↓cnd_true, ↓cnd_false, ↓Option.bind_some, ↓obH_some', bin_add, bin_sub, bin_mul, bin_lss, bin_leq, bin_gtr, bin_geq, bin_eql, bin_neq, un_not, un_neg, Option.bind_some, Option.bind_none, Option.map_some, cnd_true, cnd_false, pickV_true, pickV_false, gd_true, gd_false, gdV_true, gdV_false, gdH_true, gdH_false, gdS_true, gdS_false, wt_ff, wt_tt, wt_ft, wt_tf, wt_undef, obH_some', extractV_tuple, nilCheckV_ptr, againK_normal, againK_exit, againK_ret, blockK_normal, blockK_same, blockK_ret, seqK_normal, seqK_exit, seqK_ret, fin_done, if_true', if_false', Bool.not_true, Bool.not_false, idx0, idx1, idx2, idx3, idx4, chk_nil_l, chk_nil_r, done_nm]
  | succ mm ih =>
    intro i hi Ac Ad Ae Af Ag Aj Ak Al An Ao Ap Aq Ar As Au
    rw [loopK_eq evC_m, c92_1_eq]
    obtain ⟨a, x, e1, e2, s2⟩ := s.atV (i := i) (by omega)
    have hd : m.drop i = m.getD i [] :: m.drop (i + 1) := by
      rw [List.drop_eq_getElem_cons (by omega), List.getD_eq_getElem?_getD, List.getElem?_eq_getElem (by omega)]; rfl
    rw [hd]
    have hcl := spec_clo c s2
    have hw : IntKind.wrap .i64 ((i : Int) + 1) = ((i + 1 : Nat) : Int) := by rw [wrap_i64] <;> omega
    unfold idxL
    by_cases g : ((m.getD i []).length : Int) = n
    · rw [decide_eq_true g] at hcl
      rw [if_pos g]
      simp -implicitDefEqProofs (disch := omega) only [dcT, dcF, e1, e2, clo116, hcl, hw, ↓cnd_true, ↓cnd_false, ↓Option.bind_some, ↓obH_some', bin_add, bin_sub, bin_mul, bin_lss, bin_leq, bin_gtr, bin_geq, bin_eql, bin_neq, un_not, un_neg, Option.bind_some, Option.bind_none, Option.map_some, cnd_true, cnd_false, pickV_true, pickV_false, gd_true, gd_false, gdV_true, gdV_false, gdH_true, gdH_false, gdS_true, gdS_false, wt_ff, wt_tt, wt_ft, wt_tf, wt_undef, obH_some', extractV_tuple, nilCheckV_ptr, againK_normal, againK_exit, againK_ret, blockK_normal, blockK_same, blockK_ret, seqK_normal, seqK_exit, seqK_ret, fin_done, if_true', if_false', Bool.not_true, Bool.not_false, idx0, idx1, idx2, idx3, idx4, chk_nil_l, chk_nil_r, done_nm]
      exact ih (i + 1) (by omega) _ _ _ _ _ _ _ _ _ _ _ _ _ _ _
    · rw [decide_eq_false g] at hcl
      rw [if_neg g]
      simp -implicitDefEqProofs (disch := omega) only [dcT, dcF, e1, e2, clo116, hcl, ↓ret92, ↓cnd_true, ↓cnd_false, ↓Option.bind_some, ↓obH_some', bin_add, bin_sub, bin_mul, bin_lss, bin_leq, bin_gtr, bin_geq, bin_eql, bin_neq, un_not, un_neg, Option.bind_some, Option.bind_none, Option.map_some, cnd_true, cnd_false, pickV_true, pickV_false, gd_true, gd_false, gdV_true, gdV_false, gdH_true, gdH_false, gdS_true, gdS_false, wt_ff, wt_tt, wt_ft, wt_tf, wt_undef, obH_some', extractV_tuple, nilCheckV_ptr, againK_normal, againK_exit, againK_ret, blockK_normal, blockK_same, blockK_ret, seqK_normal, seqK_exit, seqK_ret, fin_done, if_true', if_false', Bool.not_true, Bool.not_false, idx0, idx1, idx2, idx3, idx4, chk_nil_l, chk_nil_r, done_nm]
theorem spec_contains {h : Heap} {p : Nat} {n : Int} {v w : Value} {m : List (List Nat)} (c : Cells h p 89 [.int .i64 n, w]) (s : SM h v m) (hm : m.length < 2 ^ 40) :
    evC Tryd.prog 82 #[v, cloV p] h = some (.bool (!m.all fun r => decide ((r.length : Int) = n)), h) := by
  rw [call82, c82_0_eq]
  have e1 : evC Tryd.prog 92 #[v, cloV p] (nm h) = some (.int .i64 (idxL n 0 m), nm h) := by
    rw [call92, c92_0_eq]
    simp -implicitDefEqProofs only [s.nm.nm.lenRV, ↓cnd_true, ↓cnd_false, ↓Option.bind_some, ↓obH_some', bin_add, bin_sub, bin_mul, bin_lss, bin_leq, bin_gtr, bin_geq, bin_eql, bin_neq, un_not, un_neg, Option.bind_some, Option.bind_none, Option.map_some, cnd_true, cnd_false, pickV_true, pickV_false, gd_true, gd_false, gdV_true, gdV_false, gdH_true, gdH_false, gdS_true, gdS_false, wt_ff, wt_tt, wt_ft, wt_tf, wt_undef, obH_some', extractV_tuple, nilCheckV_ptr, againK_normal, againK_exit, againK_ret, blockK_normal, blockK_same, blockK_ret, seqK_normal, seqK_exit, seqK_ret, fin_done, if_true', if_false', Bool.not_true, Bool.not_false, idx0, idx1, idx2, idx3, idx4, chk_nil_l, chk_nil_r, done_nm]
    exact ifunc_loop (h0 := nm h) (h := nm (nm h)) c.nm.nm s.nm.nm hm m.length 0 (by omega) _ _ _ _ _ _ _ _ _ _ _ _ _ _ _
  simp -implicitDefEqProofs only [e1, idxL_ge n m 0 (by omega), ↓ret82, ↓cnd_true, ↓cnd_false, ↓Option.bind_some, ↓obH_some', bin_add, bin_sub, bin_mul, bin_lss, bin_leq, bin_gtr, bin_geq, bin_eql, bin_neq, un_not, un_neg, Option.bind_some, Option.bind_none, Option.map_some, cnd_true, cnd_false, pickV_true, pickV_false, gd_true, gd_false, gdV_true, gdV_false, gdH_true, gdH_false, gdS_true, gdS_false, wt_ff, wt_tt, wt_ft, wt_tf, wt_undef, obH_some', extractV_tuple, nilCheckV_ptr, againK_normal, againK_exit, againK_ret, blockK_normal, blockK_same, blockK_ret, seqK_normal, seqK_exit, seqK_ret, fin_done, if_true', if_false', Bool.not_true, Bool.not_false, idx0, idx1, idx2, idx3, idx4, chk_nil_l, chk_nil_r, done_nm]
theorem spec_GoodQ {h : Heap} {n : Int} {v : Value} {m : List (List Nat)} (s : SM h v m) (hm : m.length < 2 ^ 40) : ∃ h', evC Tryd.prog 65 #[matV n v] h = some (.bool (goodM n m), h') ∧ HExt h h' := by
  rw [call65, c65_0_eq]
  have c1 := Cells.new (nm h) 89 [.int .i64 n, v]
  have s1 := s.nm.new (.cells [.int .i64 n, v]) 89
  have hx : HExt h (done h ((nm h).new (.cells [.int .i64 n, v]) 89)) := done_ext' (In.new (by simp) _ _)
  by_cases h1 : n < 1
  · have e : goodM n m = false := by unfold goodM; rw [decide_eq_false (by omega)]; rfl
    simp -implicitDefEqProofs (disch := omega) only [dcT, dcF, matV, bxM, faM0, mldInt, c1.load, two1, e, ↓ret65, ↓cnd_true, ↓cnd_false, ↓Option.bind_some, ↓obH_some', bin_add, bin_sub, bin_mul, bin_lss, bin_leq, bin_gtr, bin_geq, bin_eql, bin_neq, un_not, un_neg, Option.bind_some, Option.bind_none, Option.map_some, cnd_true, cnd_false, pickV_true, pickV_false, gd_true, gd_false, gdV_true, gdV_false, gdH_true, gdH_false, gdS_true, gdS_false, wt_ff, wt_tt, wt_ft, wt_tf, wt_undef, obH_some', extractV_tuple, nilCheckV_ptr, againK_normal, againK_exit, againK_ret, blockK_normal, blockK_same, blockK_ret, seqK_normal, seqK_exit, seqK_ret, fin_done, if_true', if_false', Bool.not_true, Bool.not_false, idx0, idx1, idx2, idx3, idx4, chk_nil_l, chk_nil_r, done_nm]
    exact ⟨_, rfl, hx⟩
  by_cases h2 : 16 < n
  · have e : goodM n m = false := by unfold goodM; rw [decide_eq_false (by omega)]; rfl
    simp -implicitDefEqProofs (disch := omega) only [dcT, dcF, matV, bxM, faM0, mldInt, c1.load, two1, e, ↓ret65, ↓cnd_true, ↓cnd_false, ↓Option.bind_some, ↓obH_some', bin_add, bin_sub, bin_mul, bin_lss, bin_leq, bin_gtr, bin_geq, bin_eql, bin_neq, un_not, un_neg, Option.bind_some, Option.bind_none, Option.map_some, cnd_true, cnd_false, pickV_true, pickV_false, gd_true, gd_false, gdV_true, gdV_false, gdH_true, gdH_false, gdS_true, gdS_false, wt_ff, wt_tt, wt_ft, wt_tf, wt_undef, obH_some', extractV_tuple, nilCheckV_ptr, againK_normal, againK_exit, againK_ret, blockK_normal, blockK_same, blockK_ret, seqK_normal, seqK_exit, seqK_ret, fin_done, if_true', if_false', Bool.not_true, Bool.not_false, idx0, idx1, idx2, idx3, idx4, chk_nil_l, chk_nil_r, done_nm]
    exact ⟨_, rfl, hx⟩
  by_cases h3 : (m.length : Int) = n
  · have e : goodM n m = m.all fun r => decide ((r.length : Int) = n) := by unfold goodM; rw [decide_eq_true (by omega)]; rfl
    have ec := spec_contains c1 s1 hm
    simp -implicitDefEqProofs (disch := omega) only [dcT, dcF, matV, bxM, faM0, faM1, mldInt, ldRs, c1.load, two1, two2, s1.lenRV, ec, e, Bool.not_not, ↓ret65, ↓cnd_true, ↓cnd_false, ↓Option.bind_some, ↓obH_some', bin_add, bin_sub, bin_mul, bin_lss, bin_leq, bin_gtr, bin_geq, bin_eql, bin_neq, un_not, un_neg, Option.bind_some, Option.bind_none, Option.map_some, cnd_true, cnd_false, pickV_true, pickV_false, gd_true, gd_false, gdV_true, gdV_false, gdH_true, gdH_false, gdS_true, gdS_false, wt_ff, wt_tt, wt_ft, wt_tf, wt_undef, obH_some', extractV_tuple, nilCheckV_ptr, againK_normal, againK_exit, againK_ret, blockK_normal, blockK_same, blockK_ret, seqK_normal, seqK_exit, seqK_ret, fin_done, if_true', if_false', Bool.not_true, Bool.not_false, idx0, idx1, idx2, idx3, idx4, chk_nil_l, chk_nil_r, done_nm]
    exact ⟨_, rfl, hx⟩
  · have e : goodM n m = false := by unfold goodM; rw [decide_eq_false (by omega)]; rfl
    simp -implicitDefEqProofs (disch := omega) only [dcT, dcF, matV, bxM, faM0, faM1, mldInt, ldRs, c1.load, two1, two2, s1.lenRV, e, ↓ret65, ↓cnd_true, ↓cnd_false, ↓Option.bind_some, ↓obH_some', bin_add, bin_sub, bin_mul, bin_lss, bin_leq, bin_gtr, bin_geq, bin_eql, bin_neq, un_not, un_neg, Option.bind_some, Option.bind_none, Option.map_some, cnd_true, cnd_false, pickV_true, pickV_false, gd_true, gd_false, gdV_true, gdV_false, gdH_true, gdH_false, gdS_true, gdS_false, wt_ff, wt_tt, wt_ft, wt_tf, wt_undef, obH_some', extractV_tuple, nilCheckV_ptr, againK_normal, againK_exit, againK_ret, blockK_normal, blockK_same, blockK_ret, seqK_normal, seqK_exit, seqK_ret, fin_done, if_true', if_false', Bool.not_true, Bool.not_false, idx0, idx1, idx2, idx3, idx4, chk_nil_l, chk_nil_r, done_nm]
    exact ⟨_, rfl, hx⟩
end Go.Am
namespace Go.Am
open Go.Proofs
set_option maxRecDepth 100000
attribute [local congr] obind_congr obH_congr cnd_congr chk_congr retK_congr codeK_congr
end Go.Am
namespace Go.Am
open Go.Proofs
set_option maxRecDepth 100000
attribute [local congr] obind_congr obH_congr cnd_congr chk_congr retK_congr codeK_congr
def joinV (a b : List Nat) : List Nat := (List.range (max a.length b.length)).map fun j => max (a.getD j 0) (b.getD j 0)
theorem joinV_len (a b : List Nat) : (joinV a b).length = max a.length b.length := by simp [joinV]
theorem joinV_get (a b : List Nat) (j : Nat) : (joinV a b).getD j 0 = max (a.getD j 0) (b.getD j 0) := by
  by_cases hj : j < max a.length b.length
  · simp only [joinV, List.getD_eq_getElem?_getD, List.getElem?_map, List.getElem?_range hj]; rfl
  · have e : ∀ l : List Nat, l.length ≤ j → l.getD j 0 = 0 := fun l h => by rw [List.getD_eq_getElem?_getD, List.getElem?_eq_none h]; rfl
    rw [e _ (by rw [joinV_len]; omega), e a (by omega), e b (by omega)]; rfl
end Go.Am
namespace Go.Am
open Go.Proofs
set_option maxRecDepth 100000
set_option linter.all false
attribute [local congr] obind_congr obH_congr cnd_congr chk_congr retK_congr codeK_congr
theorem take_succ_getD {α : Type} (l : List α) (d : α) {i : Nat} (hi : i < l.length) : l.take i ++ [l.getD i d] = l.take (i + 1) := by
  rw [List.take_add_one, List.getD_eq_getElem?_getD, List.getElem?_eq_getElem hi]; rfl
def Small (m : List (List Nat)) : Prop := m.length < 2 ^ 37 ∧ ∀ i, (m.getD i []).length < 2 ^ 37
theorem clone_loop {h0 : Heap} {p q : Nat} {n : Int} {v : Value} {m : List (List Nat)} (s0 : SM h0 v m) (sml : Small m) (hq : h0.blks.length ≤ q) (hpq : p ≠ q) (hp : h0.blks.length ≤ p) : ∀ (mm i : Nat) (h : Heap) (w : Value), m.length = i + mm → Cells h q 89 [.int .i64 0, .slice none 0 0] → Cells h p 89 [.int .i64 n, w] → AM 73 h0.blks.length h w (m.take i) → In h0.blks.length No (nm h0) h →
    ∀ (Aa Ab Ae Af Ag Ah Ai Aj Ao Ap Aq Ar As Au Av Aw Ax Ay Az Ba : Value),
    ∃ v' h', loopK Tryd.prog (evC Tryd.prog) c66_1 ⟨#[Aa,Ab, .pointer (some ⟨q, 0, none⟩), .pointer (some ⟨p, 0, none⟩),Ae,Af,Ag,Ah,Ai,Aj, v, .int .i64 m.length, .int .i64 i,Ao,Ap,Aq,Ar,As,Au,Av,Aw,Ax,Ay,Az,Ba], h⟩ (blockK 0 (seqK Tryd.prog (evC Tryd.prog) c66_2 (retK Tryd.f66 Tryd.prog h0))) =
      some (matV n v', h') ∧ HExt h0 h' ∧ AM 73 h0.blks.length h' v' m := by
  intro mm
  induction mm with
  | zero =>
    intro i h w hi cq cp hA hin Aa Ab Ae Af Ag Ah Ai Aj Ao Ap Aq Ar As Au Av Aw Ax Ay Az Ba
    rw [loopK_eq evC_m, c66_1_eq]
    rw [List.take_of_length_le (by omega)] at hA
    obtain ⟨a, c, rfl⟩ := hA.shape
    have cq2 := cq.put [.int .i64 n, .slice a m.length c]
    simp -implicitDefEqProofs (disch := omega) only [dcT, dcF, ↓c66_2_eq, ldM, cp.loadN (n := 2) rfl, stM, storeN_blk cq (o := 0) (vs := [.int .i64 n, .slice a m.length c]) (by simp), w2_put, ↓ret66, ↓cnd_true, ↓cnd_false, ↓Option.bind_some, ↓obH_some', bin_add, bin_sub, bin_mul, bin_lss, bin_leq, bin_gtr, bin_geq, bin_eql, bin_neq, un_not, un_neg, Option.bind_some, Option.bind_none, Option.map_some, cnd_true, cnd_false, pickV_true, pickV_false, gd_true, gd_false, gdV_true, gdV_false, gdH_true, gdH_false, gdS_true, gdS_false, wt_ff, wt_tt, wt_ft, wt_tf, wt_undef, obH_some', extractV_tuple, nilCheckV_ptr, againK_normal, againK_exit, againK_ret, blockK_normal, blockK_same, blockK_ret, seqK_normal, seqK_exit, seqK_ret, fin_done, if_true', if_false', Bool.not_true, Bool.not_false, idx0, idx1, idx2, idx3, idx4, chk_nil_l, chk_nil_r, done_nm]
    simp -implicitDefEqProofs only [ldM, cq2.loadN (n := 2) rfl, Option.map_some, Option.bind_some, rvals_one, fin_done]
    exact ⟨_, _, rfl, done_ext' (hin.trans (In.put hin.len (.inl hq) _)), (hA.put cq (by decide) (by decide) _).done⟩
  | succ mm ih =>
    intro i h w hi cq cp hA hin Aa Ab Ae Af Ag Ah Ai Aj Ao Ap Aq Ar As Au Av Aw Ax Ay Az Ba
    rw [loopK_eq evC_m, c66_1_eq]
    have hlen : h0.blks.length ≤ h.blks.length := hin.len
    have s1 := s0.same hin.same0
    obtain ⟨ad, x, ea, ex, sx⟩ := s1.atV (i := i) (by omega)
    obtain ⟨a, c, h1, e1,Ab, s2⟩ := spec_CloneV (nm h) x _ sx.nm (by have := sml.2 i; omega)
    obtain ⟨Ab', m1⟩ := Ab.amx
    have s2' : AU h.blks.length (Am.am h1 h) (.slice a (m.getD i []).length c) (m.getD i []) := s2.keep fun _ _ _ => rfl
    obtain ⟨a2, c2, h2, e2, s3, k2, o2⟩ := hA.app etM (by decide) hlen Ab'.same s2' (by have := sml.1; simp; omega)
    have cp2 := o2 _ _ _ (cp.ext Ab') (by decide)
    have cq2 := o2 _ _ _ (cq.ext Ab') (by decide)
    have hw : IntKind.wrap .i64 ((i : Int) + 1) = ((i + 1 : Nat) : Int) := by have := sml.1; rw [wrap_i64] <;> omega
    rw [take_succ_getD m [] (by omega)] at e2 s3
    have cp3 := cp2.put [.int .i64 n, .slice a2 (m.take (i + 1)).length c2]
    simp -implicitDefEqProofs (disch := omega) only [dcT, dcF, ea, ex, faM1, ldRs, cp.load, two2, e1, mkR1, e2, stRs, storeN_blk cp2 (o := 1) (vs := [.slice a2 (m.take (i + 1)).length c2]) (by simp), w2_put1, m1, List.append_nil, hw, ↓cnd_true, ↓cnd_false, ↓Option.bind_some, ↓obH_some', bin_add, bin_sub, bin_mul, bin_lss, bin_leq, bin_gtr, bin_geq, bin_eql, bin_neq, un_not, un_neg, Option.bind_some, Option.bind_none, Option.map_some, cnd_true, cnd_false, pickV_true, pickV_false, gd_true, gd_false, gdV_true, gdV_false, gdH_true, gdH_false, gdS_true, gdS_false, wt_ff, wt_tt, wt_ft, wt_tf, wt_undef, obH_some', extractV_tuple, nilCheckV_ptr, againK_normal, againK_exit, againK_ret, blockK_normal, blockK_same, blockK_ret, seqK_normal, seqK_exit, seqK_ret, fin_done, if_true', if_false', Bool.not_true, Bool.not_false, idx0, idx1, idx2, idx3, idx4, chk_nil_l, chk_nil_r, done_nm]
    exact ih (i + 1) _ _ (by omega) (cq2.keepPut hpq _) cp3 (s3.put cp2 (by decide) (by decide) _) (((hin.trans (Ab'.inn hlen)).trans k2.inn).trans (In.put (by have := Ab'.len; have := k2.len; omega) (.inl hp) _)) _ _ _ _ _ _ _ _ _ _ _ _ _ _ _ _ _ _ _ _
theorem spec_cloneQ {h : Heap} {n : Int} {v : Value} {m : List (List Nat)} (s : SM h v m) (sml : Small m) : ∃ v' h', evC Tryd.prog 66 #[matV n v] h = some (matV n v', h') ∧ HExt h h' ∧ AM 73 h.blks.length h' v' m := by
  rw [call66, c66_0_eq]
  have k0 := bxM (.int .i64 n) v (nm h)
  have c0 := Cells.new (nm h) 89 [.int .i64 n, v]
  have i0 : In h.blks.length No (nm h) _ := In.new (by simp) (.cells [.int .i64 n, v]) 89
  have l0 : ((nm h).new (.cells [.int .i64 n, v]) 89).blks.length = h.blks.length + 1 := by simp [Heap.new]
  have bl : (nm h).blks.length = h.blks.length := rfl
  rw [bl] at k0 c0
  generalize (nm h).new (.cells [.int .i64 n, v]) 89 = g0 at *
  have k1 := alM g0
  have c1 := Cells.new g0 89 [.int .i64 0, .slice none 0 0]
  have i1 : In h.blks.length No g0 _ := In.new i0.len (.cells [.int .i64 0, .slice none 0 0]) 89
  have c01 := c0.keepNew (.cells [.int .i64 0, .slice none 0 0]) 89
  have l1 : (g0.new (.cells [.int .i64 0, .slice none 0 0]) 89).blks.length = g0.blks.length + 1 := by simp [Heap.new]
  generalize g0.new (.cells [.int .i64 0, .slice none 0 0]) 89 = g1 at *
  have k2 := alM g1
  have c2 := Cells.new g1 89 [.int .i64 0, .slice none 0 0]
  have i2 : In h.blks.length No g1 _ := In.new (by omega) (.cells [.int .i64 0, .slice none 0 0]) 89
  have c02 := (c01.keepNew (.cells [.int .i64 0, .slice none 0 0]) 89).keepPut (q := g1.blks.length) (by omega) (.cells [.int .i64 n, .slice none 0 0])
  have c12 := (c1.keepNew (.cells [.int .i64 0, .slice none 0 0]) 89).keepPut (q := g1.blks.length) (by omega) (.cells [.int .i64 n, .slice none 0 0])
  have c22 := c2.put [.int .i64 n, .slice none 0 0]
  have i3 : In h.blks.length No _ _ := In.put (h := g1.new (.cells [.int .i64 0, .slice none 0 0]) 89) (p := g1.blks.length) (S := No) (Nat.le_trans (by omega) i2.len) (.inl (by omega)) (.cells [.int .i64 n, .slice none 0 0])
  have hin := ((i0.trans i1).trans i2).trans i3
  have sv := s.same hin.same0
  simp -implicitDefEqProofs (disch := omega) only [matV, k0, k1, faM0, faM1, mldInt, c01.load, two1, bdM1, k2, stM, storeN_blk c2 (o := 0) (vs := [.int .i64 n, .slice none 0 0]) (by simp), w2_put, ldRs, c02.load, two2, sv.lenRV, ↓cnd_true, ↓cnd_false, ↓Option.bind_some, ↓obH_some', bin_add, bin_sub, bin_mul, bin_lss, bin_leq, bin_gtr, bin_geq, bin_eql, bin_neq, un_not, un_neg, Option.bind_some, Option.bind_none, Option.map_some, cnd_true, cnd_false, pickV_true, pickV_false, gd_true, gd_false, gdV_true, gdV_false, gdH_true, gdH_false, gdS_true, gdS_false, wt_ff, wt_tt, wt_ft, wt_tf, wt_undef, obH_some', extractV_tuple, nilCheckV_ptr, againK_normal, againK_exit, againK_ret, blockK_normal, blockK_same, blockK_ret, seqK_normal, seqK_exit, seqK_ret, fin_done, if_true', if_false', Bool.not_true, Bool.not_false, idx0, idx1, idx2, idx3, idx4, chk_nil_l, chk_nil_r, done_nm]
  exact clone_loop (h0 := h) s sml (by omega) (by omega) (by omega) m.length 0 _ _ (by omega) c12 c22 (AM.nil _ _ _) hin _ _ _ _ _ _ _ _ _ _ _ _ _ _ _ _ _ _ _ _
def up1 (to : Nat) (k : Nat) (r : List Nat) : List Nat := (List.range r.length).map fun j => if j < k ∧ hasB to j = true ∧ r.getD j 0 < 2 ^ 64 - 1 then r.getD j 0 + 1 else r.getD j 0
theorem up1_len (to k : Nat) (r : List Nat) : (up1 to k r).length = r.length := by simp [up1]
theorem list_ext (a b : List Nat) (hl : a.length = b.length) (h : ∀ j, j < a.length → a.getD j 0 = b.getD j 0) : a = b := by
  refine List.ext_getElem hl fun j h1 h2 => ?_
  have := h j h1
  rwa [List.getD_eq_getElem?_getD, List.getD_eq_getElem?_getD, List.getElem?_eq_getElem h1, List.getElem?_eq_getElem h2] at this
theorem up1_get (to k : Nat) (r : List Nat) (j : Nat) (hj : j < r.length) : (up1 to k r).getD j 0 = if j < k ∧ hasB to j = true ∧ r.getD j 0 < 2 ^ 64 - 1 then r.getD j 0 + 1 else r.getD j 0 := by
  rw [List.getD_eq_getElem?_getD, List.getElem?_eq_getElem (by rw [up1_len]; exact hj)]
  simp [up1]
theorem up1_zero (to : Nat) (r : List Nat) : up1 to 0 r = r := by
  refine list_ext _ _ (up1_len ..) fun j hj => ?_
  rw [up1_get _ _ _ _ (by rw [up1_len] at hj; exact hj), if_neg (by omega)]
theorem set_getD (l : List Nat) (i x j : Nat) (hi : i < l.length) : (l.set i x).getD j 0 = if j = i then x else l.getD j 0 := by
  rw [List.getD_eq_getElem?_getD, List.getElem?_set]
  by_cases h : j = i
  · subst h; simp [hi]
  · rw [if_neg (Ne.symm h), if_neg h, List.getD_eq_getElem?_getD]
theorem up1_succ_yes (to k : Nat) (r : List Nat) (hk : k < r.length) (h1 : hasB to k = true) (h2 : r.getD k 0 < 2 ^ 64 - 1) : (up1 to k r).set k (r.getD k 0 + 1) = up1 to (k + 1) r := by
  refine list_ext _ _ (by rw [List.length_set, up1_len, up1_len]) fun j hj => ?_
  rw [List.length_set, up1_len] at hj
  rw [set_getD _ _ _ _ (by rw [up1_len]; exact hk), up1_get _ _ _ _ hj, up1_get _ _ _ _ hj]
  by_cases h : j = k
  · subst h; rw [if_pos rfl, if_pos ⟨by omega, h1, h2⟩]
  · rw [if_neg h]
    by_cases h3 : hasB to j = true ∧ r.getD j 0 < 2 ^ 64 - 1
    · by_cases h4 : j < k
      · rw [if_pos ⟨h4, h3⟩, if_pos ⟨by omega, h3⟩]
      · rw [if_neg (by omega), if_neg (by omega)]
    · rw [if_neg (fun x => h3 x.2), if_neg (fun x => h3 x.2)]
theorem up1_succ_no (to k : Nat) (r : List Nat) (h1 : ¬ (hasB to k = true ∧ r.getD k 0 < 2 ^ 64 - 1)) : up1 to (k + 1) r = up1 to k r := by
  refine list_ext _ _ (by rw [up1_len, up1_len]) fun j hj => ?_
  rw [up1_len] at hj
  rw [up1_get _ _ _ _ hj, up1_get _ _ _ _ hj]
  by_cases h : j = k
  · subst h; rw [if_neg (fun x => h1 x.2), if_neg (fun x => h1 x.2)]
  · by_cases h3 : hasB to j = true ∧ r.getD j 0 < 2 ^ 64 - 1
    · by_cases h4 : j < k
      · rw [if_pos ⟨by omega, h3⟩, if_pos ⟨h4, h3⟩]
      · rw [if_neg (by omega), if_neg (by omega)]
    · rw [if_neg (fun x => h3 x.2), if_neg (fun x => h3 x.2)]
def upM (n : Int) (m : List (List Nat)) (i : Int) (to : Nat) : List (List Nat) := if goodM n m = true ∧ 0 ≤ i ∧ i < n then m.set i.toNat (up1 to n.toNat (m.getD i.toNat [])) else m
theorem lset_getD {m : List (List Nat)} {i : Nat} (hi : i < m.length) (r : List Nat) : (m.set i r).getD i [] = r := by
  rw [List.getD_eq_getElem?_getD, List.getElem?_set_self hi]; rfl
theorem up_loop {h0 : Heap} {p q i n : Nat} {to : Nat} (hto : to < 2 ^ 64) {w x : Value} {vs : List Value} {m : List (List Nat)} (hi : i < m.length) (hx : vs[i]? = some x) (hr : (m.getD i []).length = n) (hn : n ≤ 16) (hq : h0.blks.length ≤ q) (hpq : p ≠ q) (hmb : ∀ r ∈ m, ∀ y ∈ r, y < 2 ^ 64) :
    ∀ (mm j : Nat) (h : Heap), n = j + mm → Cells h q 89 [.int .i64 0, .slice none 0 0] → Cells h p 89 [.int .i64 n, w] → AMv 73 h0.blks.length h w vs (m.set i (up1 to j (m.getD i []))) → In h0.blks.length No (nm h0) h →
    ∀ (Aa Ad Ae Af Ai Aj Ak Al An Ao Ap Aq Ar As Au Av Aw Ax Ay Az Ba Bb Bc Bd Be Bf Bj Bk Bl Bm Bn Bo Bp Bq Br Bs Bt Bu Bv Bw Bx By Bz Ca Cb Cc Cd Ce Cf : Value),
    ∃ v' h', loopK Tryd.prog (evC Tryd.prog) c43_1 ⟨#[Aa, .int .i64 i, .int .u64 to,Ad,Ae,Af, .pointer (some ⟨q, 0, none⟩), .pointer (some ⟨p, 0, none⟩),Ai,Aj,Ak,Al,An,Ao,Ap,Aq,Ar,As,Au,Av,Aw,Ax,Ay,Az,Ba,Bb,Bc,Bd,Be,Bf, x, .int .i64 n, .int .i64 j,Bj,Bk,Bl,Bm,Bn,Bo,Bp,Bq,Br,Bs,Bt,Bu,Bv,Bw,Bx,By,Bz,Ca,Cb,Cc,Cd,Ce,Cf], h⟩ (blockK 0 (seqK Tryd.prog (evC Tryd.prog) c43_2 (retK Tryd.f43 Tryd.prog h0))) =
      some (matV n v', h') ∧ HExt h0 h' ∧ AM 73 h0.blks.length h' v' (m.set i (up1 to n (m.getD i []))) := by
  intro mm
  induction mm with
  | zero =>
    intro j h hj cq cp hA hin Aa Ad Ae Af Ai Aj Ak Al An Ao Ap Aq Ar As Au Av Aw Ax Ay Az Ba Bb Bc Bd Be Bf Bj Bk Bl Bm Bn Bo Bp Bq Br Bs Bt Bu Bv Bw Bx By Bz Ca Cb Cc Cd Ce Cf
    rw [loopK_eq evC_m, c43_1_eq]
    obtain rfl : n = j := by omega
    have hA' : AM 73 h0.blks.length h w (m.set i (up1 to n (m.getD i []))) := ⟨_, hA⟩
    obtain ⟨a, c, rfl⟩ := hA'.shape
    have cq2 := cq.put [.int .i64 n, .slice a (m.set i (up1 to n (m.getD i []))).length c]
    simp -implicitDefEqProofs (disch := omega) only [dcT, dcF, ↓c43_2_eq, ldM, cp.loadN (n := 2) rfl, stM, storeN_blk cq (o := 0) (vs := [.int .i64 n, .slice a (m.set i (up1 to n (m.getD i []))).length c]) (by simp), w2_put, ↓ret43, ↓cnd_true, ↓cnd_false, ↓Option.bind_some, ↓obH_some', bin_add, bin_sub, bin_mul, bin_lss, bin_leq, bin_gtr, bin_geq, bin_eql, bin_neq, un_not, un_neg, Option.bind_some, Option.bind_none, Option.map_some, cnd_true, cnd_false, pickV_true, pickV_false, gd_true, gd_false, gdV_true, gdV_false, gdH_true, gdH_false, gdS_true, gdS_false, wt_ff, wt_tt, wt_ft, wt_tf, wt_undef, obH_some', extractV_tuple, nilCheckV_ptr, againK_normal, againK_exit, againK_ret, blockK_normal, blockK_same, blockK_ret, seqK_normal, seqK_exit, seqK_ret, fin_done, if_true', if_false', Bool.not_true, Bool.not_false, idx0, idx1, idx2, idx3, idx4, chk_nil_l, chk_nil_r, done_nm]
    simp -implicitDefEqProofs only [ldM, cq2.loadN (n := 2) rfl, Option.map_some, Option.bind_some, rvals_one, fin_done]
    exact ⟨_, _, rfl, done_ext' (hin.trans (In.put hin.len (.inl hq) _)), (hA'.put cq (by decide) (by decide) _).done⟩
  | succ mm ih =>
    intro j h hj cq cp hA hin Aa Ad Ae Af Ai Aj Ak Al An Ao Ap Aq Ar As Au Av Aw Ax Ay Az Ba Bb Bc Bd Be Bf Bj Bk Bl Bm Bn Bo Bp Bq Br Bs Bt Bu Bv Bw Bx By Bz Ca Cb Cc Cd Ce Cf
    rw [loopK_eq evC_m, c43_1_eq]
    have him : i < (m.set i (up1 to j (m.getD i []))).length := by rw [List.length_set]; exact hi
    have hgl : ((m.set i (up1 to j (m.getD i []))).getD i []) = up1 to j (m.getD i []) := lset_getD hi _
    have hjl : j < ((m.set i (up1 to j (m.getD i []))).getD i []).length := by rw [hgl, up1_len]; omega
    have hv : (up1 to j (m.getD i [])).getD j 0 = (m.getD i []).getD j 0 := by rw [up1_get _ _ _ _ (by omega), if_neg (by omega)]
    have h64 : (m.getD i []).getD j 0 < 2 ^ 64 := by
      refine getD_lt _ (fun y hy => hmb _ ?_ y hy) j
      rw [List.getD_eq_getElem?_getD, List.getElem?_eq_getElem hi]; exact List.getElem_mem ..
    have hh := spec_Has to hto (j : Int)
    obtain ⟨b, o, h', e1, l1, st, A', k', hl', o'⟩ := hA.set1 (by decide) etV.under him hjl hx ((m.getD i []).getD j 0 + 1)
    rw [hgl, hv] at l1
    rw [hgl] at A'
    have hw : IntKind.wrap .i64 ((j : Int) + 1) = ((j + 1 : Nat) : Int) := by rw [wrap_i64] <;> omega
    by_cases hc : hasB to j = true ∧ (m.getD i []).getD j 0 < 2 ^ 64 - 1
    · obtain ⟨g1, g2⟩ := hc
      have smv := hA.smv etM.size
      obtain ⟨ad, y, hy, ea, ey, _⟩ := smv.at etM.under etM.size (by kernel_rfl) him
      obtain rfl : x = y := Option.some.inj (hx.symm.trans hy)
      have hw2 : IntKind.wrap .u64 (((m.getD i []).getD j 0 : Nat) + 1 : Int) = (((m.getD i []).getD j 0 + 1 : Nat) : Int) := by rw [wrap_u64] <;> omega
      rw [List.set_set, up1_succ_yes to j _ (by omega) g1 g2] at A'
      simp -implicitDefEqProofs (disch := omega) only [dcT, dcF, e1, vld64, l1, hh, g1, faM1, ldRs, cp.load, two2, ea, ey, hw2, vst64, st, hw, ↓cnd_true, ↓cnd_false, ↓Option.bind_some, ↓obH_some', bin_add, bin_sub, bin_mul, bin_lss, bin_leq, bin_gtr, bin_geq, bin_eql, bin_neq, un_not, un_neg, Option.bind_some, Option.bind_none, Option.map_some, cnd_true, cnd_false, pickV_true, pickV_false, gd_true, gd_false, gdV_true, gdV_false, gdH_true, gdH_false, gdS_true, gdS_false, wt_ff, wt_tt, wt_ft, wt_tf, wt_undef, obH_some', extractV_tuple, nilCheckV_ptr, againK_normal, againK_exit, againK_ret, blockK_normal, blockK_same, blockK_ret, seqK_normal, seqK_exit, seqK_ret, fin_done, if_true', if_false', Bool.not_true, Bool.not_false, idx0, idx1, idx2, idx3, idx4, chk_nil_l, chk_nil_r, done_nm]
      exact ih (j + 1) h' (by omega) (o' _ _ _ cq (by decide)) (o' _ _ _ cp (by decide)) A' (hin.trans k'.inn) _ _ _ _ _ _ _ _ _ _ _ _ _ _ _ _ _ _ _ _ _ _ _ _ _ _ _ _ _ _ _ _ _ _ _ _ _ _ _ _ _ _ _ _ _ _ _ _ _
    · rw [← up1_succ_no to j _ hc] at hA
      have := ih (j + 1) h (by omega) cq cp hA hin
      by_cases g1 : hasB to j = true
      · have g2 : ¬ (m.getD i []).getD j 0 < 2 ^ 64 - 1 := fun x => hc ⟨g1, x⟩
        simp -implicitDefEqProofs (disch := omega) only [dcT, dcF, e1, vld64, l1, hh, g1, hw, ↓cnd_true, ↓cnd_false, ↓Option.bind_some, ↓obH_some', bin_add, bin_sub, bin_mul, bin_lss, bin_leq, bin_gtr, bin_geq, bin_eql, bin_neq, un_not, un_neg, Option.bind_some, Option.bind_none, Option.map_some, cnd_true, cnd_false, pickV_true, pickV_false, gd_true, gd_false, gdV_true, gdV_false, gdH_true, gdH_false, gdS_true, gdS_false, wt_ff, wt_tt, wt_ft, wt_tf, wt_undef, obH_some', extractV_tuple, nilCheckV_ptr, againK_normal, againK_exit, againK_ret, blockK_normal, blockK_same, blockK_ret, seqK_normal, seqK_exit, seqK_ret, fin_done, if_true', if_false', Bool.not_true, Bool.not_false, idx0, idx1, idx2, idx3, idx4, chk_nil_l, chk_nil_r, done_nm]
        exact this _ _ _ _ _ _ _ _ _ _ _ _ _ _ _ _ _ _ _ _ _ _ _ _ _ _ _ _ _ _ _ _ _ _ _ _ _ _ _ _ _ _ _ _ _ _ _ _ _
      · have g1' : hasB to j = false := by simpa using g1
        simp -implicitDefEqProofs (disch := omega) only [dcT, dcF, e1, vld64, l1, hh, g1', hw, ↓cnd_true, ↓cnd_false, ↓Option.bind_some, ↓obH_some', bin_add, bin_sub, bin_mul, bin_lss, bin_leq, bin_gtr, bin_geq, bin_eql, bin_neq, un_not, un_neg, Option.bind_some, Option.bind_none, Option.map_some, cnd_true, cnd_false, pickV_true, pickV_false, gd_true, gd_false, gdV_true, gdV_false, gdH_true, gdH_false, gdS_true, gdS_false, wt_ff, wt_tt, wt_ft, wt_tf, wt_undef, obH_some', extractV_tuple, nilCheckV_ptr, againK_normal, againK_exit, againK_ret, blockK_normal, blockK_same, blockK_ret, seqK_normal, seqK_exit, seqK_ret, fin_done, if_true', if_false', Bool.not_true, Bool.not_false, idx0, idx1, idx2, idx3, idx4, chk_nil_l, chk_nil_r, done_nm]
        exact this _ _ _ _ _ _ _ _ _ _ _ _ _ _ _ _ _ _ _ _ _ _ _ _ _ _ _ _ _ _ _ _ _ _ _ _ _ _ _ _ _ _ _ _ _ _ _ _ _
theorem goodM_rows {n : Int} {m : List (List Nat)} (g : goodM n m = true) {i : Nat} (hi : i < m.length) : ((m.getD i []).length : Int) = n := by
  have := ((goodM_iff n m).1 g).2
  rw [List.getD_eq_getElem?_getD, List.getElem?_eq_getElem hi]; exact this _ (List.getElem_mem ..)
theorem spec_MUp {h : Heap} {n : Int} {v : Value} {m : List (List Nat)} (s : SM h v m) (sml : Small m) (hmb : ∀ r ∈ m, ∀ y ∈ r, y < 2 ^ 64) (i : Int) (to : Nat) (hto : to < 2 ^ 64) :
    ∃ v' h', evC Tryd.prog 43 #[matV n v, .int .i64 i, .int .u64 to] h = some (matV n v', h') ∧ HExt h h' ∧ AM 73 h.blks.length h' v' (upM n m i to) := by
  rw [call43, c43_0_eq]
  have k0 := bxM (.int .i64 n) v (nm h)
  have c0 := Cells.new (nm h) 89 [.int .i64 n, v]
  have i0 : In h.blks.length No (nm h) _ := In.new (by simp) (.cells [.int .i64 n, v]) 89
  have l0 : ((nm h).new (.cells [.int .i64 n, v]) 89).blks.length = h.blks.length + 1 := by simp [Heap.new]
  have bl : (nm h).blks.length = h.blks.length := rfl
  rw [bl] at k0 c0
  generalize (nm h).new (.cells [.int .i64 n, v]) 89 = g0 at *
  have k1 := alM g0
  have c1 := Cells.new g0 89 [.int .i64 0, .slice none 0 0]
  have i1 : In h.blks.length No g0 _ := In.new i0.len (.cells [.int .i64 0, .slice none 0 0]) 89
  have c01 := c0.keepNew (.cells [.int .i64 0, .slice none 0 0]) 89
  have l1 : (g0.new (.cells [.int .i64 0, .slice none 0 0]) 89).blks.length = g0.blks.length + 1 := by simp [Heap.new]
  generalize g0.new (.cells [.int .i64 0, .slice none 0 0]) 89 = g1 at *
  obtain ⟨w, g2, e2,Ac, a2⟩ := spec_cloneQ (n := n) (s.same (i0.trans i1).same0) sml
  have l2 := Ac.len
  have a2 := a2.up (n1 := h.blks.length) (by omega)
  obtain ⟨aw, cw, rfl⟩ := a2.shape
  have k3 := alM g2
  have c3 := Cells.new g2 89 [.int .i64 0, .slice none 0 0]
  have i3 : In h.blks.length No g2 _ := In.new (by omega) (.cells [.int .i64 0, .slice none 0 0]) 89
  have c03 := ((c01.ext Ac).keepNew (.cells [.int .i64 0, .slice none 0 0]) 89).keepPut (q := g2.blks.length) (by omega) (.cells [.int .i64 n, .slice aw m.length cw])
  have c13 := ((c1.ext Ac).keepNew (.cells [.int .i64 0, .slice none 0 0]) 89).keepPut (q := g2.blks.length) (by have := c1.lt; omega) (.cells [.int .i64 n, .slice aw m.length cw])
  have c33 := c3.put [.int .i64 n, .slice aw m.length cw]
  have a3 := (a2.same (Same.new g2 (.cells [.int .i64 0, .slice none 0 0]) 89)).put c3 (by decide) (by decide) (.cells [.int .i64 n, .slice aw m.length cw])
  have i33 : In h.blks.length No _ _ := In.put (h := g2.new (.cells [.int .i64 0, .slice none 0 0]) 89) (p := g2.blks.length) (S := No) (Nat.le_trans (by omega) i3.len) (.inl (by omega)) (.cells [.int .i64 n, .slice aw m.length cw])
  have st3 := storeN_blk c3 (o := 0) (vs := [.int .i64 n, .slice aw m.length cw]) (by simp)
  have hin := (((i0.trans i1).trans (Ac.inn (by omega))).trans i3).trans i33
  rw [w2_put] at st3
  generalize (g2.new (.cells [.int .i64 0, .slice none 0 0]) 89).put g2.blks.length (.cells [.int .i64 n, .slice aw m.length cw]) = g3 at *
  obtain ⟨g4, e4,Ae⟩ := spec_GoodQ (n := n) (s.same hin.same0) (by have := sml.1; omega)
  have hin4 := hin.trans (Ae.inn hin.len)
  have a4 := a3.same Ae.same
  have c34 := c33.ext Ae
  have c04 := c03.ext Ae
  have c14 := c13.ext Ae
  unfold matV at e2 e4
  have hlen := hin4.len
  have fl : (g0.blks.length ≠ g2.blks.length) := by have := c1.lt; omega
  have cput := c14.put [.int .i64 n, .slice aw m.length cw]
  have fin2 : ∃ v' h', (some (matV n (.slice aw m.length cw), done h (g4.put g0.blks.length (.cells [.int .i64 n, .slice aw m.length cw])))) = some (matV n v', h') ∧ HExt h h' ∧ AM 73 h.blks.length h' v' m :=
    ⟨_, _, rfl, done_ext' (hin4.trans (In.put hlen (.inl i0.len) _)), (a4.put c14 (by decide) (by decide) _).done⟩
  by_cases hc : goodM n m = true ∧ 0 ≤ i ∧ i < n
  · obtain ⟨hg, h0, h1⟩ := hc
    have hgg := (goodM_iff n m).1 hg
    obtain ⟨i, rfl⟩ : ∃ k : Nat, i = k := ⟨i.toNat, by omega⟩
    obtain ⟨n, rfl⟩ : ∃ k : Nat, n = k := ⟨n.toNat, by omega⟩
    unfold upM
    rw [if_pos ⟨hg, h0, h1⟩, Int.toNat_natCast, Int.toNat_natCast]
    have hr := goodM_rows hg (i := i) (by omega)
    obtain ⟨vs, A4⟩ := a4
    obtain ⟨ad, x, hx, ea, ex, sx⟩ := (A4.smv etM.size).at etM.under etM.size (by kernel_rfl) (i := i) (by omega)
    have lx := sx.row.len_eq etV.under
    rw [show (m.getD i []).length = n by omega] at lx
    rw [hg] at e4
    have A5 : AMv 73 h.blks.length g4 (.slice aw m.length cw) vs (m.set i (up1 to 0 (m.getD i []))) := by
      rw [up1_zero, List.getD_eq_getElem?_getD, List.getElem?_eq_getElem (by omega), Option.getD_some, List.set_getElem_self]; exact A4
    have := up_loop (h0 := h) (p := g2.blks.length) (q := g0.blks.length) (n := n) (w := .slice aw m.length cw) hto (by omega) hx (by omega) (by omega) i0.len (by omega) hmb n 0 g4 (by omega) c14 c34 A5 hin4
    simp -implicitDefEqProofs (disch := omega) only [dcT, dcF, matV, k0, k1, ldM, c01.loadN (n := 2) rfl, e2, k3, stM, st3, c03.loadN (n := 2) rfl, e4, faM0, faM1, mldInt, ldRs, c04.load, two1, c34.load, two2, ea, ex, lx, ↓cnd_true, ↓cnd_false, ↓Option.bind_some, ↓obH_some', bin_add, bin_sub, bin_mul, bin_lss, bin_leq, bin_gtr, bin_geq, bin_eql, bin_neq, un_not, un_neg, Option.bind_some, Option.bind_none, Option.map_some, cnd_true, cnd_false, pickV_true, pickV_false, gd_true, gd_false, gdV_true, gdV_false, gdH_true, gdH_false, gdS_true, gdS_false, wt_ff, wt_tt, wt_ft, wt_tf, wt_undef, obH_some', extractV_tuple, nilCheckV_ptr, againK_normal, againK_exit, againK_ret, blockK_normal, blockK_same, blockK_ret, seqK_normal, seqK_exit, seqK_ret, fin_done, if_true', if_false', Bool.not_true, Bool.not_false, idx0, idx1, idx2, idx3, idx4, chk_nil_l, chk_nil_r, done_nm]
    exact this _ _ _ _ _ _ _ _ _ _ _ _ _ _ _ _ _ _ _ _ _ _ _ _ _ _ _ _ _ _ _ _ _ _ _ _ _ _ _ _ _ _ _ _ _ _ _ _ _
  · have eu : upM n m i to = m := if_neg hc
    rw [eu]
    by_cases hg : goodM n m = true
    · rw [hg] at e4
      by_cases h0 : i < 0
      · simp -implicitDefEqProofs (disch := omega) only [dcT, dcF, matV, k0, k1, ldM, c01.loadN (n := 2) rfl, e2, k3, stM, st3, c03.loadN (n := 2) rfl, e4, faM0, mldInt, c04.load, two1, c34.loadN (n := 2) rfl, storeN_blk c14 (o := 0) (vs := [.int .i64 n, .slice aw m.length cw]) (by simp), w2_put, ↓ret43, ↓cnd_true, ↓cnd_false, ↓Option.bind_some, ↓obH_some', bin_add, bin_sub, bin_mul, bin_lss, bin_leq, bin_gtr, bin_geq, bin_eql, bin_neq, un_not, un_neg, Option.bind_some, Option.bind_none, Option.map_some, cnd_true, cnd_false, pickV_true, pickV_false, gd_true, gd_false, gdV_true, gdV_false, gdH_true, gdH_false, gdS_true, gdS_false, wt_ff, wt_tt, wt_ft, wt_tf, wt_undef, obH_some', extractV_tuple, nilCheckV_ptr, againK_normal, againK_exit, againK_ret, blockK_normal, blockK_same, blockK_ret, seqK_normal, seqK_exit, seqK_ret, fin_done, if_true', if_false', Bool.not_true, Bool.not_false, idx0, idx1, idx2, idx3, idx4, chk_nil_l, chk_nil_r, done_nm]
        simp -implicitDefEqProofs only [ldM, cput.loadN (n := 2) rfl, Option.map_some, Option.bind_some, rvals_one, fin_done]
        exact fin2
      · have h1 : ¬ i < n := fun x => hc ⟨hg, by omega, x⟩
        simp -implicitDefEqProofs (disch := omega) only [dcT, dcF, matV, k0, k1, ldM, c01.loadN (n := 2) rfl, e2, k3, stM, st3, c03.loadN (n := 2) rfl, e4, faM0, mldInt, c04.load, two1, c34.loadN (n := 2) rfl, storeN_blk c14 (o := 0) (vs := [.int .i64 n, .slice aw m.length cw]) (by simp), w2_put, ↓ret43, ↓cnd_true, ↓cnd_false, ↓Option.bind_some, ↓obH_some', bin_add, bin_sub, bin_mul, bin_lss, bin_leq, bin_gtr, bin_geq, bin_eql, bin_neq, un_not, un_neg, Option.bind_some, Option.bind_none, Option.map_some, cnd_true, cnd_false, pickV_true, pickV_false, gd_true, gd_false, gdV_true, gdV_false, gdH_true, gdH_false, gdS_true, gdS_false, wt_ff, wt_tt, wt_ft, wt_tf, wt_undef, obH_some', extractV_tuple, nilCheckV_ptr, againK_normal, againK_exit, againK_ret, blockK_normal, blockK_same, blockK_ret, seqK_normal, seqK_exit, seqK_ret, fin_done, if_true', if_false', Bool.not_true, Bool.not_false, idx0, idx1, idx2, idx3, idx4, chk_nil_l, chk_nil_r, done_nm]
        simp -implicitDefEqProofs only [ldM, cput.loadN (n := 2) rfl, Option.map_some, Option.bind_some, rvals_one, fin_done]
        exact fin2
    · have hg' : goodM n m = false := by simpa using hg
      rw [hg'] at e4
      simp -implicitDefEqProofs (disch := omega) only [dcT, dcF, matV, k0, k1, ldM, c01.loadN (n := 2) rfl, e2, k3, stM, st3, c03.loadN (n := 2) rfl, e4, faM0, mldInt, c04.load, two1, c34.loadN (n := 2) rfl, storeN_blk c14 (o := 0) (vs := [.int .i64 n, .slice aw m.length cw]) (by simp), w2_put, ↓ret43, ↓cnd_true, ↓cnd_false, ↓Option.bind_some, ↓obH_some', bin_add, bin_sub, bin_mul, bin_lss, bin_leq, bin_gtr, bin_geq, bin_eql, bin_neq, un_not, un_neg, Option.bind_some, Option.bind_none, Option.map_some, cnd_true, cnd_false, pickV_true, pickV_false, gd_true, gd_false, gdV_true, gdV_false, gdH_true, gdH_false, gdS_true, gdS_false, wt_ff, wt_tt, wt_ft, wt_tf, wt_undef, obH_some', extractV_tuple, nilCheckV_ptr, againK_normal, againK_exit, againK_ret, blockK_normal, blockK_same, blockK_ret, seqK_normal, seqK_exit, seqK_ret, fin_done, if_true', if_false', Bool.not_true, Bool.not_false, idx0, idx1, idx2, idx3, idx4, chk_nil_l, chk_nil_r, done_nm]
      simp -implicitDefEqProofs only [ldM, cput.loadN (n := 2) rfl, Option.map_some, Option.bind_some, rvals_one, fin_done]
      exact fin2
end Go.Am
namespace Go.Am
open Go.Proofs
set_option maxRecDepth 100000
set_option linter.all false
attribute [local congr] obind_congr obH_congr cnd_congr chk_congr retK_congr codeK_congr
def joinM (a b : List (List Nat)) : List (List Nat) := (List.range a.length).map fun i => joinV (a.getD i []) (b.getD i [])
end Go.Am
namespace Go.Am
open Go.Proofs
set_option maxRecDepth 100000
set_option linter.all false
attribute [local congr] obind_congr obH_congr cnd_congr chk_congr retK_congr codeK_congr
theorem mkV1 (k : IntKind) (n : Int) (h : Heap) : buildSliceV Tryd.prog 73 1 #[(0, .int k n)] h = some (.slice (some ⟨h.blks.length, 0, none⟩) 1 1, h.new (.cells [.int k n]) 23) := by kernel_rfl
theorem app_numV {n0 : Nat} {h : Heap} (hn0 : n0 ≤ h.blks.length) {v : Value} {bs : List Nat} (ha : AU n0 h v bs) (b : Nat) (hl : bs.length < 2 ^ 39) :
    ∃ a c h', appendV Tryd.prog 73 (some 73) v (.slice (some ⟨h.blks.length, 0, none⟩) 1 1) (h.new (.cells [.int .u64 b]) 23) = some (.slice a (bs ++ [b]).length c, h') ∧ AU n0 h' (.slice a (bs ++ [b]).length c) (bs ++ [b]) ∧ Keeps n0 h h' := by
  have hb : AU n0 (h.new (.cells [.int .u64 (b : Nat)]) 23) (.slice (some ⟨h.blks.length, 0, none⟩) 1 1) [b] := AU.lit (h := h) hn0 [b] (by simp)
  obtain ⟨a, c, h', e1, e2, e3, e4⟩ := app_nums etV etV.under (n0 := n0) (by simp [Heap.new]; omega) (ha.keep fun _ hb _ => Heap.new_old hb) hb.su (by simp; omega)
  exact ⟨a, c, h', e1, e2, (Keeps.new hn0 _ _).trans e3⟩
def colM (m : List (List Nat)) (j : Nat) : List Nat := m.map fun r => r.getD j 0
theorem colM_succ (m : List (List Nat)) (j : Nat) {i : Nat} (hi : i < m.length) : colM (m.take i) j ++ [(m.getD i []).getD j 0] = colM (m.take (i + 1)) j := by
  rw [← take_succ_getD m [] hi]; simp [colM]
theorem column_loop {h0 : Heap} {v : Value} {m : List (List Nat)} {j : Nat} (s0 : SM h0 v m) (hm : m.length < 2 ^ 37) (hj : ∀ i, i < m.length → j < (m.getD i []).length) : ∀ (mm i : Nat) (h : Heap) (w : Value), m.length = i + mm → AU h0.blks.length h w (colM (m.take i) j) → In h0.blks.length No (nm h0) h →
    ∀ (Aa Ac Ad Ae Ag Ah Ai Aj Ak Al An Ao Ap Aq Ar As Au Av Aw Ax Bb Bc Bd Be Bf Bg Bh Bi Bj Bk Bl Bm : Value),
    ∃ a c h', loopK Tryd.prog (evC Tryd.prog) c45_1 ⟨#[Aa, .int .i64 j,Ac,Ad,Ae, w,Ag,Ah,Ai,Aj,Ak,Al,An,Ao,Ap,Aq,Ar,As,Au,Av,Aw,Ax, v, .int .i64 m.length, .int .i64 i,Bb,Bc,Bd,Be,Bf,Bg,Bh,Bi,Bj,Bk,Bl,Bm], h⟩ (blockK 0 (seqK Tryd.prog (evC Tryd.prog) c45_2 (retK Tryd.f45 Tryd.prog h0))) =
      some (.slice a (colM m j).length c, h') ∧ HExt h0 h' ∧ AU h0.blks.length h' (.slice a (colM m j).length c) (colM m j) := by
  intro mm
  induction mm with
  | zero =>
    intro i h w hi hA hin Aa Ac Ad Ae Ag Ah Ai Aj Ak Al An Ao Ap Aq Ar As Au Av Aw Ax Bb Bc Bd Be Bf Bg Bh Bi Bj Bk Bl Bm
    rw [loopK_eq evC_m, c45_1_eq]
    rw [List.take_of_length_le (by omega)] at hA
    obtain ⟨a, c, rfl⟩ := hA.shape
    simp -implicitDefEqProofs (disch := omega) only [dcT, dcF, ↓c45_2_eq, ↓ret45, ↓cnd_true, ↓cnd_false, ↓Option.bind_some, ↓obH_some', bin_add, bin_sub, bin_mul, bin_lss, bin_leq, bin_gtr, bin_geq, bin_eql, bin_neq, un_not, un_neg, Option.bind_some, Option.bind_none, Option.map_some, cnd_true, cnd_false, pickV_true, pickV_false, gd_true, gd_false, gdV_true, gdV_false, gdH_true, gdH_false, gdS_true, gdS_false, wt_ff, wt_tt, wt_ft, wt_tf, wt_undef, obH_some', extractV_tuple, nilCheckV_ptr, againK_normal, againK_exit, againK_ret, blockK_normal, blockK_same, blockK_ret, seqK_normal, seqK_exit, seqK_ret, fin_done, if_true', if_false', Bool.not_true, Bool.not_false, idx0, idx1, idx2, idx3, idx4, chk_nil_l, chk_nil_r, done_nm]
    exact ⟨a, c, _, rfl, done_ext' hin, hA.done⟩
  | succ mm ih =>
    intro i h w hi hA hin Aa Ac Ad Ae Ag Ah Ai Aj Ak Al An Ao Ap Aq Ar As Au Av Aw Ax Bb Bc Bd Be Bf Bg Bh Bi Bj Bk Bl Bm
    rw [loopK_eq evC_m, c45_1_eq]
    have hlen : h0.blks.length ≤ h.blks.length := hin.len
    obtain ⟨ad, x, ea, ex, sx⟩ := (s0.same hin.same0).atV (i := i) (by omega)
    obtain ⟨bd, eb, ey⟩ := su_at sx etV.under (i := j) (hj i (by omega))
    obtain ⟨a2, c2, h2, e2, s2, k2⟩ := app_numV hlen hA ((m.getD i []).getD j 0) (by simp [colM]; omega)
    rw [colM_succ m j (by omega)] at e2 s2
    have hw : IntKind.wrap .i64 ((i : Int) + 1) = ((i + 1 : Nat) : Int) := by rw [wrap_i64] <;> omega
    simp -implicitDefEqProofs (disch := omega) only [dcT, dcF, ea, ex, eb, ey, mkV1, e2, hw, ↓cnd_true, ↓cnd_false, ↓Option.bind_some, ↓obH_some', bin_add, bin_sub, bin_mul, bin_lss, bin_leq, bin_gtr, bin_geq, bin_eql, bin_neq, un_not, un_neg, Option.bind_some, Option.bind_none, Option.map_some, cnd_true, cnd_false, pickV_true, pickV_false, gd_true, gd_false, gdV_true, gdV_false, gdH_true, gdH_false, gdS_true, gdS_false, wt_ff, wt_tt, wt_ft, wt_tf, wt_undef, obH_some', extractV_tuple, nilCheckV_ptr, againK_normal, againK_exit, againK_ret, blockK_normal, blockK_same, blockK_ret, seqK_normal, seqK_exit, seqK_ret, fin_done, if_true', if_false', Bool.not_true, Bool.not_false, idx0, idx1, idx2, idx3, idx4, chk_nil_l, chk_nil_r, done_nm]
    exact ih (i + 1) _ _ (by omega) s2 (hin.trans k2.inn) _ _ _ _ _ _ _ _ _ _ _ _ _ _ _ _ _ _ _ _ _ _ _ _ _ _ _ _ _ _ _ _
def okC (n : Int) (m : List (List Nat)) (j : Int) : Prop := goodM n m = true ∧ 0 ≤ j ∧ j < n
instance (n : Int) (m : List (List Nat)) (j : Int) : Decidable (okC n m j) := inferInstanceAs (Decidable (_ ∧ _))
def columnM (n : Int) (m : List (List Nat)) (j : Int) : List Nat := if okC n m j then colM m j.toNat else []
theorem spec_Column {h : Heap} {n : Int} {v : Value} {m : List (List Nat)} (s : SM h v m) (hm : m.length < 2 ^ 37) (j : Int) :
    ∃ a c h', evC Tryd.prog 45 #[matV n v, .int .i64 j] h = some (.slice a (columnM n m j).length c, h') ∧ HExt h h' ∧ AU h.blks.length h' (.slice a (columnM n m j).length c) (columnM n m j) := by
  rw [call45, c45_0_eq]
  have k0 := bxM (.int .i64 n) v (nm h)
  have c0 := Cells.new (nm h) 89 [.int .i64 n, v]
  have i0 : In h.blks.length No (nm h) _ := In.new (by simp) (.cells [.int .i64 n, v]) 89
  have bl : (nm h).blks.length = h.blks.length := rfl
  rw [bl] at k0 c0
  generalize (nm h).new (.cells [.int .i64 n, v]) 89 = g0 at *
  obtain ⟨g1, e1,Ab⟩ := spec_GoodQ (n := n) (s.same i0.same0) (by omega)
  unfold matV at e1
  have hin := i0.trans (Ab.inn i0.len)
  have c1 := c0.ext Ab
  have sv := s.same hin.same0
  unfold columnM
  by_cases hc : okC n m j
  · rw [if_pos hc]
    obtain ⟨hg, h0, h1⟩ := hc
    obtain ⟨j, rfl⟩ : ∃ k : Nat, j = k := ⟨j.toNat, by omega⟩
    rw [hg] at e1
    rw [Int.toNat_natCast]
    have := column_loop (h0 := h) (j := j) s hm (fun i hi => by have := goodM_rows hg hi; omega) m.length 0 g1 (.slice none 0 0) (by omega) .nil hin
    simp -implicitDefEqProofs (disch := omega) only [dcT, dcF, matV, k0, ldM, c0.loadN (n := 2) rfl, e1, faM0, faM1, mldInt, c1.load, two1, two2, ldRs, sv.lenRV, ↓cnd_true, ↓cnd_false, ↓Option.bind_some, ↓obH_some', bin_add, bin_sub, bin_mul, bin_lss, bin_leq, bin_gtr, bin_geq, bin_eql, bin_neq, un_not, un_neg, Option.bind_some, Option.bind_none, Option.map_some, cnd_true, cnd_false, pickV_true, pickV_false, gd_true, gd_false, gdV_true, gdV_false, gdH_true, gdH_false, gdS_true, gdS_false, wt_ff, wt_tt, wt_ft, wt_tf, wt_undef, obH_some', extractV_tuple, nilCheckV_ptr, againK_normal, againK_exit, againK_ret, blockK_normal, blockK_same, blockK_ret, seqK_normal, seqK_exit, seqK_ret, fin_done, if_true', if_false', Bool.not_true, Bool.not_false, idx0, idx1, idx2, idx3, idx4, chk_nil_l, chk_nil_r, done_nm]
    exact this _ _ _ _ _ _ _ _ _ _ _ _ _ _ _ _ _ _ _ _ _ _ _ _ _ _ _ _ _ _ _ _
  · rw [if_neg hc]
    by_cases hg : goodM n m = true
    · rw [hg] at e1
      by_cases h0 : j < 0
      · simp -implicitDefEqProofs (disch := omega) only [dcT, dcF, matV, k0, ldM, c0.loadN (n := 2) rfl, e1, ↓ret45, ↓cnd_true, ↓cnd_false, ↓Option.bind_some, ↓obH_some', bin_add, bin_sub, bin_mul, bin_lss, bin_leq, bin_gtr, bin_geq, bin_eql, bin_neq, un_not, un_neg, Option.bind_some, Option.bind_none, Option.map_some, cnd_true, cnd_false, pickV_true, pickV_false, gd_true, gd_false, gdV_true, gdV_false, gdH_true, gdH_false, gdS_true, gdS_false, wt_ff, wt_tt, wt_ft, wt_tf, wt_undef, obH_some', extractV_tuple, nilCheckV_ptr, againK_normal, againK_exit, againK_ret, blockK_normal, blockK_same, blockK_ret, seqK_normal, seqK_exit, seqK_ret, fin_done, if_true', if_false', Bool.not_true, Bool.not_false, idx0, idx1, idx2, idx3, idx4, chk_nil_l, chk_nil_r, done_nm]
        exact ⟨_, _, _, rfl, done_ext' hin, .nil⟩
      · have h1 : ¬ j < n := fun x => hc ⟨hg, by omega, x⟩
        simp -implicitDefEqProofs (disch := omega) only [dcT, dcF, matV, k0, ldM, c0.loadN (n := 2) rfl, e1, faM0, mldInt, c1.load, two1, ↓ret45, ↓cnd_true, ↓cnd_false, ↓Option.bind_some, ↓obH_some', bin_add, bin_sub, bin_mul, bin_lss, bin_leq, bin_gtr, bin_geq, bin_eql, bin_neq, un_not, un_neg, Option.bind_some, Option.bind_none, Option.map_some, cnd_true, cnd_false, pickV_true, pickV_false, gd_true, gd_false, gdV_true, gdV_false, gdH_true, gdH_false, gdS_true, gdS_false, wt_ff, wt_tt, wt_ft, wt_tf, wt_undef, obH_some', extractV_tuple, nilCheckV_ptr, againK_normal, againK_exit, againK_ret, blockK_normal, blockK_same, blockK_ret, seqK_normal, seqK_exit, seqK_ret, fin_done, if_true', if_false', Bool.not_true, Bool.not_false, idx0, idx1, idx2, idx3, idx4, chk_nil_l, chk_nil_r, done_nm]
        exact ⟨_, _, _, rfl, done_ext' hin, .nil⟩
    · have hg' : goodM n m = false := by simpa using hg
      rw [hg'] at e1
      simp -implicitDefEqProofs (disch := omega) only [dcT, dcF, matV, k0, ldM, c0.loadN (n := 2) rfl, e1, ↓ret45, ↓cnd_true, ↓cnd_false, ↓Option.bind_some, ↓obH_some', bin_add, bin_sub, bin_mul, bin_lss, bin_leq, bin_gtr, bin_geq, bin_eql, bin_neq, un_not, un_neg, Option.bind_some, Option.bind_none, Option.map_some, cnd_true, cnd_false, pickV_true, pickV_false, gd_true, gd_false, gdV_true, gdV_false, gdH_true, gdH_false, gdS_true, gdS_false, wt_ff, wt_tt, wt_ft, wt_tf, wt_undef, obH_some', extractV_tuple, nilCheckV_ptr, againK_normal, againK_exit, againK_ret, blockK_normal, blockK_same, blockK_ret, seqK_normal, seqK_exit, seqK_ret, fin_done, if_true', if_false', Bool.not_true, Bool.not_false, idx0, idx1, idx2, idx3, idx4, chk_nil_l, chk_nil_r, done_nm]
      exact ⟨_, _, _, rfl, done_ext' hin, .nil⟩
end Go.Am
namespace Go.Am
open Go.Proofs
set_option maxRecDepth 100000
set_option linter.all false
attribute [local congr] obind_congr obH_congr cnd_congr chk_congr retK_congr codeK_congr
theorem drop_cons {α : Type} (l : List α) (d : α) {i : Nat} (hi : i < l.length) : l.drop i = l.getD i d :: l.drop (i + 1) := by
  rw [List.drop_eq_getElem_cons hi, List.getD_eq_getElem?_getD, List.getElem?_eq_getElem hi]; rfl
theorem All2.set {α β : Type} {R : α → β → Prop} {l : List α} {m : List β} (h : All2 R l m) : ∀ (i : Nat) (a : α) (b : β), R a b → All2 R (l.set i a) (m.set i b) := by
  induction h with
  | nil => intro i a b _; exact .nil
  | cons p q ih =>
    intro i a b r
    cases i with
    | zero => exact .cons r q
    | succ i => exact .cons p (ih i a b r)
end Go.Am
namespace Go.Am
open Go.Proofs
set_option maxRecDepth 100000
set_option linter.all false
attribute [local congr] obind_congr obH_congr cnd_congr chk_congr retK_congr codeK_congr
def intV (n : Int) : Value := .int .i64 n
abbrev SIQ (h : Heap) (v : Value) (ns : List Int) : Prop := Sl Tryd.prog h 1 v ns.length (ns.map intV)
theorem si_atQ {h : Heap} {v : Value} {ns : List Int} (s : SIQ h v ns) {i : Nat} (hi : i < ns.length) :
    ∃ a, indexAddrV Tryd.prog 41 v (.int .i64 i) = some (.pointer (some a)) ∧ loadV Tryd.prog 3 (.pointer (some a)) h = some (.int .i64 (ns.getD i 0)) := by
  obtain ⟨a, e1, e2, _⟩ := s.row.at1 etI.under etI.size (by kernel_rfl) hi .i64
  rw [List.getElem?_map, List.getElem?_eq_getElem hi] at e2
  refine ⟨a, e1, ?_⟩
  rw [e2, List.getD_eq_getElem?_getD, List.getElem?_eq_getElem hi]; rfl
def or1 (s : Nat) (p : Int) : Nat := if 0 ≤ p ∧ p < 64 then s ||| 2 ^ p.toNat else s
def ofL (l : List Int) : Nat := l.foldl or1 0
theorem or1_lt {s : Nat} (hs : s < 2 ^ 64) (p : Int) : or1 s p < 2 ^ 64 := by
  unfold or1
  split
  · rename_i h
    exact Nat.or_lt_two_pow hs (Nat.pow_lt_pow_right (by omega) (by omega))
  · exact hs
theorem orN (t : TypeId) (xo yo : Operand) (a b : Nat) (ha : a < 2 ^ 64) (hb : b < 2 ^ 64) : binV Tryd.prog .or t xo yo (.int .u64 a) (.int .u64 b) = some (.int .u64 ((a ||| b : Nat) : Int)) := by
  rw [bin_or64 _ _ _ _ _ (by omega) (by omega) (by omega) (by omega), Int.toNat_natCast, Int.toNat_natCast]
theorem of_loop {h0 h : Heap} {v : Value} {l : List Int} (sl : SIQ h v l) (hl : l.length < 2 ^ 40) : ∀ (mm i : Nat) (s : Nat), s < 2 ^ 64 → l.length = i + mm → ∀ (x : Nat → Value), x 3 = .int .u64 s → x 6 = v → x 7 = .int .i64 l.length → x 8 = .int .i64 i →
    lK c26_1 24 x h (blockK 0 (sK c26_2 (retK Tryd.f26 Tryd.prog h0))) = some (.int .u64 ((l.drop i).foldl or1 s : Nat), done h0 h) := by
  intro mm
  induction mm with
  | zero =>
    intro i s hs hi x Ad Ag Ah Ai
    rw [lK_eq, List.drop_of_length_le (by omega)]
    simp -implicitDefEqProofs (disch := omega) only [↓c26_1_eq, ↓c26_2_eq, dcT, dcF,Ad,Ag,Ah,Ai, ↓ret26, ↓cnd_true, ↓cnd_false, ↓Option.bind_some, ↓obH_some', bin_add, bin_sub, bin_mul, bin_lss, bin_leq, bin_gtr, bin_geq, bin_eql, bin_neq, un_not, un_neg, Option.bind_some, Option.bind_none, Option.map_some, cnd_true, cnd_false, pickV_true, pickV_false, gd_true, gd_false, gdV_true, gdV_false, gdH_true, gdH_false, gdS_true, gdS_false, wt_ff, wt_tt, wt_ft, wt_tf, wt_undef, obH_some', extractV_tuple, nilCheckV_ptr, againK_normal, againK_exit, againK_ret, blockK_normal, blockK_same, blockK_ret, seqK_normal, seqK_exit, seqK_ret, fin_done, if_true', if_false', Bool.not_true, Bool.not_false, idx0, idx1, idx2, idx3, idx4, chk_nil_l, chk_nil_r, done_nm, up_cons, up_nil, cond_true, cond_false, Nat.reduceBEq]
    rfl
  | succ mm ih =>
    intro i s hs hi x Ad Ag Ah Ai
    rw [lK_eq, drop_cons l 0 (by omega), List.foldl_cons]
    obtain ⟨a, ea, el⟩ := si_atQ sl (i := i) (by omega)
    have hw : IntKind.wrap .i64 ((i : Int) + 1) = ((i + 1 : Nat) : Int) := by rw [wrap_i64] <;> omega
    have ih' := ih (i + 1) _ (or1_lt hs (l.getD i 0)) (by omega)
    unfold or1 at ih' ⊢
    generalize l.getD i 0 = p at *
    by_cases hc : 0 ≤ p ∧ p < 64
    · rw [if_pos hc] at ih' ⊢
      obtain ⟨p, rfl⟩ : ∃ k : Nat, p = k := ⟨p.toNat, by omega⟩
      rw [Int.toNat_natCast] at ih' ⊢
      have h2 : 2 ^ p < 2 ^ 64 := Nat.pow_lt_pow_right (by omega) (by omega)
      have e1 := fun t xo yo => shl1 t xo yo p (by omega)
      have e2 := fun t xo yo => orN t xo yo s (2 ^ p) hs h2
      simp -implicitDefEqProofs (disch := omega) only [↓c26_1_eq, dcT, dcF,Ad,Ag,Ah,Ai, ea, el, e1, e2, hw, ↓cnd_true, ↓cnd_false, ↓Option.bind_some, ↓obH_some', bin_add, bin_sub, bin_mul, bin_lss, bin_leq, bin_gtr, bin_geq, bin_eql, bin_neq, un_not, un_neg, Option.bind_some, Option.bind_none, Option.map_some, cnd_true, cnd_false, pickV_true, pickV_false, gd_true, gd_false, gdV_true, gdV_false, gdH_true, gdH_false, gdS_true, gdS_false, wt_ff, wt_tt, wt_ft, wt_tf, wt_undef, obH_some', extractV_tuple, nilCheckV_ptr, againK_normal, againK_exit, againK_ret, blockK_normal, blockK_same, blockK_ret, seqK_normal, seqK_exit, seqK_ret, fin_done, if_true', if_false', Bool.not_true, Bool.not_false, idx0, idx1, idx2, idx3, idx4, chk_nil_l, chk_nil_r, done_nm, up_cons, up_nil, cond_true, cond_false, Nat.reduceBEq]
      exact ih' _ rfl Ag Ah rfl
    · rw [if_neg hc] at ih' ⊢
      by_cases h0 : 0 ≤ p
      · have h1 : ¬ p < 64 := fun x => hc ⟨h0, x⟩
        simp -implicitDefEqProofs (disch := omega) only [↓c26_1_eq, dcT, dcF,Ad,Ag,Ah,Ai, ea, el, hw, ↓cnd_true, ↓cnd_false, ↓Option.bind_some, ↓obH_some', bin_add, bin_sub, bin_mul, bin_lss, bin_leq, bin_gtr, bin_geq, bin_eql, bin_neq, un_not, un_neg, Option.bind_some, Option.bind_none, Option.map_some, cnd_true, cnd_false, pickV_true, pickV_false, gd_true, gd_false, gdV_true, gdV_false, gdH_true, gdH_false, gdS_true, gdS_false, wt_ff, wt_tt, wt_ft, wt_tf, wt_undef, obH_some', extractV_tuple, nilCheckV_ptr, againK_normal, againK_exit, againK_ret, blockK_normal, blockK_same, blockK_ret, seqK_normal, seqK_exit, seqK_ret, fin_done, if_true', if_false', Bool.not_true, Bool.not_false, idx0, idx1, idx2, idx3, idx4, chk_nil_l, chk_nil_r, done_nm, up_cons, up_nil, cond_true, cond_false, Nat.reduceBEq]
        exact ih' _ Ad Ag Ah rfl
      · simp -implicitDefEqProofs (disch := omega) only [↓c26_1_eq, dcT, dcF,Ad,Ag,Ah,Ai, ea, el, hw, ↓cnd_true, ↓cnd_false, ↓Option.bind_some, ↓obH_some', bin_add, bin_sub, bin_mul, bin_lss, bin_leq, bin_gtr, bin_geq, bin_eql, bin_neq, un_not, un_neg, Option.bind_some, Option.bind_none, Option.map_some, cnd_true, cnd_false, pickV_true, pickV_false, gd_true, gd_false, gdV_true, gdV_false, gdH_true, gdH_false, gdS_true, gdS_false, wt_ff, wt_tt, wt_ft, wt_tf, wt_undef, obH_some', extractV_tuple, nilCheckV_ptr, againK_normal, againK_exit, againK_ret, blockK_normal, blockK_same, blockK_ret, seqK_normal, seqK_exit, seqK_ret, fin_done, if_true', if_false', Bool.not_true, Bool.not_false, idx0, idx1, idx2, idx3, idx4, chk_nil_l, chk_nil_r, done_nm, up_cons, up_nil, cond_true, cond_false, Nat.reduceBEq]
        exact ih' _ Ad Ag Ah rfl
theorem spec_Of {h : Heap} {v : Value} {l : List Int} (sl : SIQ h v l) (hl : l.length < 2 ^ 40) : evC Tryd.prog 26 #[v] h = some (.int .u64 (ofL l : Nat), h) := by
  rw [call26]
  simp -implicitDefEqProofs (disch := omega) only [↓c26_0_eq, sl.nm.row.len_eq etI.under, ↓cnd_true, ↓cnd_false, ↓Option.bind_some, ↓obH_some', bin_add, bin_sub, bin_mul, bin_lss, bin_leq, bin_gtr, bin_geq, bin_eql, bin_neq, un_not, un_neg, Option.bind_some, Option.bind_none, Option.map_some, cnd_true, cnd_false, pickV_true, pickV_false, gd_true, gd_false, gdV_true, gdV_false, gdH_true, gdH_false, gdS_true, gdS_false, wt_ff, wt_tt, wt_ft, wt_tf, wt_undef, obH_some', extractV_tuple, nilCheckV_ptr, againK_normal, againK_exit, againK_ret, blockK_normal, blockK_same, blockK_ret, seqK_normal, seqK_exit, seqK_ret, fin_done, if_true', if_false', Bool.not_true, Bool.not_false, idx0, idx1, idx2, idx3, idx4, chk_nil_l, chk_nil_r, done_nm, up_cons, up_nil, cond_true, cond_false, Nat.reduceBEq]
  exact of_loop (h0 := h) sl.nm hl l.length 0 0 (by omega) (by omega) _ rfl rfl rfl rfl
theorem mkI1Q (k : IntKind) (n : Int) (h : Heap) : buildSliceV Tryd.prog 41 1 #[(0, .int k n)] h = some (.slice (some ⟨h.blks.length, 0, none⟩) 1 1, h.new (.cells [.int k n]) 3) := by kernel_rfl
theorem litI1 (h : Heap) (n : Int) : SIQ (h.new (.cells [.int .i64 n]) 3) (.slice (some ⟨h.blks.length, 0, none⟩) 1 1) [n] :=
  .mk (by simp [Heap.loadN, Heap.cells?, blk_new_self]; rfl) (.inr ⟨Nat.le_refl _, by unfold UNK; decide⟩)
theorem SM.slices {h : Heap} {v : Value} {vs : List Value} {m : List (List Nat)} (s : SMv h v vs m) {i : Nat} {x : Value} (hx : vs[i]? = some x) : ∃ a l c, x = .slice a l c := by
  obtain ⟨r, _, hr⟩ := s.2.get hx
  obtain ⟨a, c, rfl⟩ := hr.shape
  exact ⟨_, _, _, rfl⟩
end Go.Am
namespace Go.Am
open Go.Proofs
set_option maxRecDepth 100000
set_option linter.all false
attribute [local congr] obind_congr obH_congr cnd_congr chk_congr retK_congr codeK_congr
theorem nmm (h : Heap) : (nm h).mods = [] := rfl
theorem mvar {h : Heap} (n : Int) (a : Option Addr) (l c : Nat) : storeV Tryd.prog 89 (.pointer (some ⟨h.blks.length, 0, none⟩)) (.agg #[.int .i64 n, .slice a l c]) (h.new (.cells [.int .i64 0, .slice none 0 0]) 89) = some ((h.new (.cells [.int .i64 0, .slice none 0 0]) 89).put h.blks.length (.cells [.int .i64 n, .slice a l c])) := by
  rw [stM, storeN_blk (Cells.new h 89 [.int .i64 0, .slice none 0 0]) (o := 0) (vs := [.int .i64 n, .slice a l c]) (by simp), w2_put]
theorem mvar_same (h : Heap) (body body2 : Body) (t : TypeId) : Same h ((h.new body t).put h.blks.length body2) := (Same.new h body t).put (Nat.le_refl _) body2
theorem mvar_in {n0 : Nat} {h : Heap} (hn : n0 ≤ h.blks.length) (body body2 : Body) (t : TypeId) : In n0 No h ((h.new body t).put h.blks.length body2) :=
  (In.new hn body t).trans (In.put (Nat.le_trans hn (Same.new h body t).1) (.inl hn) _)
theorem mvar_cells (h : Heap) (cs cs' : List Value) (t : TypeId) : Cells ((h.new (.cells cs) t).put h.blks.length (.cells cs')) h.blks.length t cs' := (Cells.new h t cs).put cs'
theorem ldM' {h : Heap} {p : Nat} {n : Int} {v : Value} (c : Cells h p 89 [.int .i64 n, v]) : loadV Tryd.prog 89 (.pointer (some ⟨p, 0, none⟩)) h = some (matV n v) := by
  rw [ldM, c.loadN (n := 2) rfl]; rfl
theorem Small.of {m : List (List Nat)} (h1 : m.length ≤ 100) (h2 : ∀ r ∈ m, r.length ≤ 100) : Small m := ⟨by omega, fun i => by
  rw [List.getD_eq_getElem?_getD]
  rcases Nat.lt_or_ge i m.length with hi | hi
  · rw [List.getElem?_eq_getElem hi]; have := h2 _ (List.getElem_mem hi); simp only [Option.getD_some]; omega
  · rw [List.getElem?_eq_none hi]; simp⟩
end Go.Am
namespace Go.Am
end Go.Am
namespace Go.Am
open Go.Proofs
set_option maxRecDepth 100000
set_option linter.all false
theorem joinM_len (a b : List (List Nat)) : (joinM a b).length = a.length := by simp [joinM]
theorem joinM_get (a b : List (List Nat)) (k : Nat) (hk : k < a.length) : (joinM a b).getD k [] = joinV (a.getD k []) (b.getD k []) := by
  rw [List.getD_eq_getElem?_getD, List.getElem?_eq_getElem (by rw [joinM_len]; exact hk)]; simp [joinM]
theorem goodM_getD {n : Int} {m : List (List Nat)} (hl : 1 ≤ n ∧ n ≤ 16 ∧ (m.length : Int) = n) (h : ∀ k, k < m.length → ((m.getD k []).length : Int) = n) : goodM n m = true := by
  rw [goodM_iff]
  refine ⟨hl, fun r hr => ?_⟩
  obtain ⟨k, hk, rfl⟩ := List.getElem_of_mem hr
  have := h k hk
  rwa [List.getD_eq_getElem?_getD, List.getElem?_eq_getElem hk] at this
theorem goodM_join {n : Int} {a b : List (List Nat)} (ga : goodM n a = true) (gb : goodM n b = true) : goodM n (joinM a b) = true := by
  have ha := ((goodM_iff n a).1 ga).1
  have hb := ((goodM_iff n b).1 gb).1
  refine goodM_getD ⟨ha.1, ha.2.1, by rw [joinM_len]; exact ha.2.2⟩ fun k hk => ?_
  rw [joinM_len] at hk
  rw [joinM_get a b k hk, joinV_len]
  have h1 := goodM_rows ga hk
  have h2 := goodM_rows gb (i := k) (by omega)
  omega
theorem Small.good {n : Int} {m : List (List Nat)} (g : goodM n m = true) : Small m := by
  have h := (goodM_iff n m).1 g
  exact Small.of (by omega) fun r hr => by have := h.2 r hr; omega
end Go.Am
namespace Go.Am
open Go.Proofs
set_option maxRecDepth 100000
set_option linter.all false
attribute [local congr] obind_congr obH_congr cnd_congr chk_congr retK_congr codeK_congr
def putLs (l : List Nat) : List UInt8 := l.flatMap putL
theorem putLs_app (a b : List Nat) : putLs (a ++ b) = putLs a ++ putLs b := by simp [putLs]
def stampM (n : Int) (m : List (List Nat)) : List UInt8 := if goodM n m = true then putLs m.flatten else []
theorem putLs_len (l : List Nat) (h : ∀ n ∈ l, n < 2 ^ 64) : (putLs l).length ≤ 10 * l.length := by
  induction l with
  | nil => simp [putLs]
  | cons n l ih =>
    have hn := h n (by simp)
    have h1 := sizeN_le n 10 (by omega) (by omega)
    have h2 := ih fun m hm => h m (by simp [hm])
    have h3 := putL_len n
    simp only [putLs, List.flatMap_cons, List.length_append, List.length_cons] at h2 ⊢
    omega
def MAX : Nat := 18446744073709551615
def readRow : Nat → Option (List UInt8) → List Nat × Option (List UInt8)
  | 0, r => ([], r)
  | k + 1, r => let x := numP r MAX; let y := readRow k x.2; (x.1 :: y.1, y.2)
def readRows (n : Nat) : Nat → Option (List UInt8) → List (List Nat) × Option (List UInt8)
  | 0, r => ([], r)
  | k + 1, r => let x := readRow n r; let y := readRows n k x.2; (x.1 :: y.1, y.2)
theorem readRow_len : ∀ (k : Nat) (r : Option (List UInt8)), (readRow k r).1.length = k
  | 0, r => rfl
  | k + 1, r => by simp only [readRow, List.length_cons]; rw [readRow_len k]
theorem readRow_le : ∀ (k : Nat) (r : Option (List UInt8)), (rbs (readRow k r).2).length ≤ (rbs r).length ∧ ∀ x ∈ (readRow k r).1, x < 2 ^ 64
  | 0, r => by simp [readRow]
  | k + 1, r => by
    have h1 := numP_le r MAX
    have h2 := readRow_le k (numP r MAX).2
    simp only [readRow]
    refine ⟨by omega, fun x hx => ?_⟩
    rcases List.mem_cons.1 hx with rfl | hx
    · exact h1.2.1
    · exact h2.2 x hx
theorem readRows_len (n : Nat) : ∀ (k : Nat) (r : Option (List UInt8)), (readRows n k r).1.length = k
  | 0, r => rfl
  | k + 1, r => by simp only [readRows, List.length_cons]; rw [readRows_len n k]
theorem readRows_row (n : Nat) : ∀ (k : Nat) (r : Option (List UInt8)), ∀ x ∈ (readRows n k r).1, x.length = n ∧ ∀ y ∈ x, y < 2 ^ 64
  | 0, r => by simp [readRows]
  | k + 1, r => by
    simp only [readRows]
    intro x hx
    rcases List.mem_cons.1 hx with rfl | hx
    · exact ⟨readRow_len n r, (readRow_le n r).2⟩
    · exact readRows_row n k _ x hx
def readM (n : Int) (bs : List UInt8) : Option (List (List Nat)) := if 1 ≤ n ∧ n ≤ 16 then (if endP (readRows n.toNat n.toNat (some bs)).2 = true then some (readRows n.toNat n.toNat (some bs)).1 else none) else none
theorem readM_good {n : Int} {bs : List UInt8} {m : List (List Nat)} (h : readM n bs = some m) : goodM n m = true ∧ ∀ r ∈ m, ∀ y ∈ r, y < 2 ^ 64 := by
  unfold readM at h
  split at h
  · rename_i hn
    split at h
    · cases h
      have hr := readRows_row n.toNat n.toNat (some bs)
      refine ⟨goodM_getD ⟨hn.1, hn.2, by rw [readRows_len]; omega⟩ fun k hk => ?_, fun r hr' => (hr r hr').2⟩
      have := (hr _ (List.getElem_mem hk)).1
      rw [List.getD_eq_getElem?_getD, List.getElem?_eq_getElem hk]
      simp only [Option.getD_some]
      omega
    · cases h
  · cases h
theorem SM.lo {h : Heap} {v : Value} {m : List (List Nat)} (s : SM h v m) : Lo v h.blks.length := let ⟨_, x, _⟩ := s; x.lo
theorem stamp_inner {Q : Option (Value × Heap) → Prop} {N p : Nat} {mv row : Value} {ml : Int} {r : List Nat} (i : Nat) (hr : r.length ≤ 16) (h64 : ∀ n ∈ r, n < 2 ^ 64) (hlo : Lo row N) (hmv : Lo mv N) (hp : N ≤ p) (k : Ex → St → Option (Value × Heap)) {h0 : Heap} (hN : h0.blks.length ≤ N) :
    ∀ (m j : Nat) (h : Heap) (acc : List UInt8), r.length = j + m → SU h row r → Wr 0 h p acc → acc.length + 10 * m < 2 ^ 38 → In N No h0 h →
    (∀ h', Wr 0 h' p (acc ++ putLs (r.drop j)) → In N No h0 h' → ∀ (Aa Ab Ae Af Ag Ah Ai Aj Ak Al An Ar As Au Av Aw Ax Ay Az Ba Bb Bc Bd Be Bf Bg Bh : Value), Q (k .normal ⟨#[Aa,Ab, .slice none 0 0, .pointer (some ⟨p, 0, none⟩),Ae,Af,Ag,Ah,Ai,Aj,Ak,Al,An, mv, .int .i64 ml, .int .i64 i,Ar,As,Au,Av,Aw,Ax,Ay,Az,Ba,Bb,Bc,Bd,Be,Bf,Bg,Bh], h'⟩)) →
    ∀ (Aa Ab Ae Af Ag Ah Ai Aj Ak Al An Ar As Au Ay Az Ba Bb Bc Bd Be Bf Bg Bh : Value), Q (loopK Tryd.prog (evC Tryd.prog) c42_3 ⟨#[Aa,Ab, .slice none 0 0, .pointer (some ⟨p, 0, none⟩),Ae,Af,Ag,Ah,Ai,Aj,Ak,Al,An, mv, .int .i64 ml, .int .i64 i,Ar,As,Au, row, .int .i64 r.length, .int .i64 j,Ay,Az,Ba,Bb,Bc,Bd,Be,Bf,Bg,Bh], h⟩ (blockK 2 k)) := by
  intro m
  induction m with
  | zero =>
    intro j h acc hj s w _ hin hk Aa Ab Ae Af Ag Ah Ai Aj Ak Al An Ar As Au Ay Az Ba Bb Bc Bd Be Bf Bg Bh
    rw [loopK_eq evC_m, c42_3_eq]
    rw [List.drop_of_length_le (by omega), show putLs [] = [] from rfl, List.append_nil] at hk
    have := hk h w hin
    simp -implicitDefEqProofs (disch := omega) only [dcT, dcF, ↓cnd_true, ↓cnd_false, ↓Option.bind_some, ↓obH_some', bin_add, bin_sub, bin_mul, bin_lss, bin_leq, bin_gtr, bin_geq, bin_eql, bin_neq, un_not, un_neg, Option.bind_some, Option.bind_none, Option.map_some, cnd_true, cnd_false, pickV_true, pickV_false, gd_true, gd_false, gdV_true, gdV_false, gdH_true, gdH_false, gdS_true, gdS_false, wt_ff, wt_tt, wt_ft, wt_tf, wt_undef, obH_some', extractV_tuple, nilCheckV_ptr, againK_normal, againK_exit, againK_ret, blockK_normal, blockK_same, blockK_ret, seqK_normal, seqK_exit, seqK_ret, fin_done, if_true', if_false', Bool.not_true, Bool.not_false, idx0, idx1, idx2, idx3, idx4, chk_nil_l, chk_nil_r, done_nm]
    exact this _ _ _ _ _ _ _ _ _ _ _ _ _ _ _ _ _ _ _ _ _ _ _ _ _ _ _
  | succ m ih =>
    intro j h acc hj s w hacc hin hk Aa Ab Ae Af Ag Ah Ai Aj Ak Al An Ar As Au Ay Az Ba Bb Bc Bd Be Bf Bg Bh
    rw [loopK_eq evC_m, c42_3_eq]
    obtain ⟨a, e1, e2⟩ := su_at s etV.under (i := j) (by omega)
    have hn := getD_lt r h64 j
    have hs := sizeN_le (r.getD j 0) 10 (by omega) (by omega)
    have hz := putL_len (r.getD j 0)
    obtain ⟨h2, e3,Ac, w2⟩ := spec_WNum w (Nat.zero_le _) (r.getD j 0) hn (by omega)
    have hw : IntKind.wrap .i64 ((j : Int) + 1) = ((j + 1 : Nat) : Int) := by rw [wrap_i64] <;> omega
    have s2 : SU h2 row r := s.mod Ac fun b hb e => by have := hlo b hb; have : b = p := e; omega
    have hd : r.drop j = r.getD j 0 :: r.drop (j + 1) := drop_cons r 0 (by omega)
    rw [hd] at hk
    have ih' := ih (j + 1) h2 (acc ++ putL (r.getD j 0)) (by omega) s2 (w2.up (Nat.zero_le _)) (by rw [List.length_append]; omega)
      (hin.trans (Ac.inn (by have := hin.len; have := hin.le; omega) fun b hb e => by have : b = p := e; omega)) (fun h' w' i' => hk h' (by rw [List.append_assoc] at w'; simpa [putLs] using w') i')
    simp -implicitDefEqProofs (disch := omega) only [dcT, dcF, e1, e2, e3, hw, ↓cnd_true, ↓cnd_false, ↓Option.bind_some, ↓obH_some', bin_add, bin_sub, bin_mul, bin_lss, bin_leq, bin_gtr, bin_geq, bin_eql, bin_neq, un_not, un_neg, Option.bind_some, Option.bind_none, Option.map_some, cnd_true, cnd_false, pickV_true, pickV_false, gd_true, gd_false, gdV_true, gdV_false, gdH_true, gdH_false, gdS_true, gdS_false, wt_ff, wt_tt, wt_ft, wt_tf, wt_undef, obH_some', extractV_tuple, nilCheckV_ptr, againK_normal, againK_exit, againK_ret, blockK_normal, blockK_same, blockK_ret, seqK_normal, seqK_exit, seqK_ret, fin_done, if_true', if_false', Bool.not_true, Bool.not_false, idx0, idx1, idx2, idx3, idx4, chk_nil_l, chk_nil_r, done_nm]
    exact ih' _ _ _ _ _ _ _ _ _ _ _ _ _ _ _ _ _ _ _ _ _ _ _ _
theorem putLs_take (m : List (List Nat)) {i : Nat} (hi : i < m.length) : putLs (m.take i).flatten ++ putLs (m.getD i []) = putLs (m.take (i + 1)).flatten := by
  rw [← take_succ_getD m [] hi, List.flatten_append, putLs_app]; simp
theorem good_total {n : Int} {m : List (List Nat)} (g : goodM n m = true) (h : ∀ r ∈ m, ∀ y ∈ r, y < 2 ^ 64) (i : Nat) : (putLs (m.take i).flatten).length ≤ 2560 := by
  have hg := (goodM_iff n m).1 g
  have h1 := putLs_len (m.take i).flatten fun x hx => by
    obtain ⟨r, hr, hx⟩ := List.mem_flatten.1 hx
    exact h r (List.mem_of_mem_take hr) x hx
  have h2 : ∀ (l : List (List Nat)), (∀ r ∈ l, r.length ≤ 16) → l.flatten.length ≤ 16 * l.length := by
    intro l
    induction l with
    | nil => simp
    | cons r l ih =>
      intro hl
      have a := hl r (by simp)
      have b := ih fun q hq => hl q (by simp [hq])
      rw [List.flatten_cons, List.length_append, List.length_cons]
      omega
  have h3 := h2 (m.take i) fun r hr => by have := hg.2 r (List.mem_of_mem_take hr); omega
  have h4 : (m.take i).length ≤ 16 := by simp; omega
  omega
theorem stamp_loop {h0 : Heap} {n : Int} {p : Nat} {mv : Value} {m : List (List Nat)} (g : goodM n m = true) (h64 : ∀ r ∈ m, ∀ y ∈ r, y < 2 ^ 64) {vs : List Value} (s0 : SMv h0 mv vs m) (hp : h0.blks.length ≤ p) : ∀ (mm i : Nat) (h : Heap), m.length = i + mm → Wr 0 h p (putLs (m.take i).flatten) → In h0.blks.length No (nm h0) h →
    ∀ (Aa Ab Ae Af Ag Ah Ai Aj Ak Al An Ar As Au Av Aw Ax Ay Az Ba Bb Bc Bd Be Bf Bg Bh : Value),
    ∃ a c h', loopK Tryd.prog (evC Tryd.prog) c42_1 ⟨#[Aa,Ab, .slice none 0 0, .pointer (some ⟨p, 0, none⟩),Ae,Af,Ag,Ah,Ai,Aj,Ak,Al,An, mv, .int .i64 m.length, .int .i64 i,Ar,As,Au,Av,Aw,Ax,Ay,Az,Ba,Bb,Bc,Bd,Be,Bf,Bg,Bh], h⟩ (blockK 0 (seqK Tryd.prog (evC Tryd.prog) c42_2 (retK Tryd.f42 Tryd.prog h0))) =
      some (.slice a (putLs m.flatten).length c, h') ∧ HExt h0 h' ∧ AB h0.blks.length h' (.slice a (putLs m.flatten).length c) (putLs m.flatten) := by
  have hg := (goodM_iff n m).1 g
  intro mm
  induction mm with
  | zero =>
    intro i h hi w hin Aa Ab Ae Af Ag Ah Ai Aj Ak Al An Ar As Au Av Aw Ax Ay Az Ba Bb Bc Bd Be Bf Bg Bh
    rw [loopK_eq evC_m, c42_1_eq]
    have ht := good_total g h64 i
    rw [List.take_of_length_le (by omega)] at w ht
    obtain ⟨a, c, h2, e2,Ac, s2⟩ := spec_WDone w (by omega)
    have hl := hin.len
    simp only [nm_blks] at hl
    simp -implicitDefEqProofs (disch := omega) only [dcT, dcF, ↓c42_2_eq, e2, ↓ret42, ↓cnd_true, ↓cnd_false, ↓Option.bind_some, ↓obH_some', bin_add, bin_sub, bin_mul, bin_lss, bin_leq, bin_gtr, bin_geq, bin_eql, bin_neq, un_not, un_neg, Option.bind_some, Option.bind_none, Option.map_some, cnd_true, cnd_false, pickV_true, pickV_false, gd_true, gd_false, gdV_true, gdV_false, gdH_true, gdH_false, gdS_true, gdS_false, wt_ff, wt_tt, wt_ft, wt_tf, wt_undef, obH_some', extractV_tuple, nilCheckV_ptr, againK_normal, againK_exit, againK_ret, blockK_normal, blockK_same, blockK_ret, seqK_normal, seqK_exit, seqK_ret, fin_done, if_true', if_false', Bool.not_true, Bool.not_false, idx0, idx1, idx2, idx3, idx4, chk_nil_l, chk_nil_r, done_nm]
    exact ⟨a, c, _, rfl, done_ext' (hin.trans (Ac.inn hl)), (s2.up (by omega)).done⟩
  | succ mm ih =>
    intro i h hi w hin Aa Ab Ae Af Ag Ah Ai Aj Ak Al An Ar As Au Av Aw Ax Ay Az Ba Bb Bc Bd Be Bf Bg Bh
    rw [loopK_eq evC_m, c42_1_eq]
    have ht := good_total g h64 i
    obtain ⟨ad, x, hx, ea, ex, sx⟩ := (s0.kp hin.same0.2).at etM.under etM.size (by kernel_rfl) (i := i) (by omega)
    obtain ⟨ad0, y, hy, ea0, ex0, sx0⟩ := s0.at etM.under etM.size (by kernel_rfl) (i := i) (by omega)
    obtain rfl : x = y := Option.some.inj (hx.symm.trans hy)
    have hrl := goodM_rows g (i := i) (by omega)
    have hr64 : ∀ y ∈ m.getD i [], y < 2 ^ 64 := by
      rw [List.getD_eq_getElem?_getD, List.getElem?_eq_getElem (by omega)]; exact h64 _ (List.getElem_mem _)
    have hw : IntKind.wrap .i64 ((i : Int) + 1) = ((i + 1 : Nat) : Int) := by rw [wrap_i64] <;> omega
    have inner := stamp_inner (Q := fun r => ∃ a c h', r = some (.slice a (putLs m.flatten).length c, h') ∧ HExt h0 h' ∧ AB h0.blks.length h' (.slice a (putLs m.flatten).length c) (putLs m.flatten)) (N := h0.blks.length) (p := p) (mv := mv) (row := x) (ml := m.length) (r := m.getD i []) i (by omega) hr64 sx0.lo s0.1.lo hp
      (blockK 1 (seqK Tryd.prog (evC Tryd.prog) c42_4 (againK Tryd.prog (evC Tryd.prog) c42_1 (blockK 0 (seqK Tryd.prog (evC Tryd.prog) c42_2 (retK Tryd.f42 Tryd.prog h0)))))) (h0 := nm h0) (Nat.le_refl _)
      (m.getD i []).length 0 h _ (by omega) sx w (by omega) hin (by
        intro h' w' i' Aa Ab Ae Af Ag Ah Ai Aj Ak Al An Ar As Au Av Aw Ax Ay Az Ba Bb Bc Bd Be Bf Bg Bh
        rw [List.drop_zero, putLs_take m (by omega)] at w'
        have ih' := ih (i + 1) h' (by omega) w' i'
        simp -implicitDefEqProofs (disch := omega) only [↓c42_4_eq, hw, ↓cnd_true, ↓cnd_false, ↓Option.bind_some, ↓obH_some', bin_add, bin_sub, bin_mul, bin_lss, bin_leq, bin_gtr, bin_geq, bin_eql, bin_neq, un_not, un_neg, Option.bind_some, Option.bind_none, Option.map_some, cnd_true, cnd_false, pickV_true, pickV_false, gd_true, gd_false, gdV_true, gdV_false, gdH_true, gdH_false, gdS_true, gdS_false, wt_ff, wt_tt, wt_ft, wt_tf, wt_undef, obH_some', extractV_tuple, nilCheckV_ptr, againK_normal, againK_exit, againK_ret, blockK_normal, blockK_same, blockK_ret, seqK_normal, seqK_exit, seqK_ret, fin_done, if_true', if_false', Bool.not_true, Bool.not_false, idx0, idx1, idx2, idx3, idx4, chk_nil_l, chk_nil_r, done_nm]
        exact ih' _ _ _ _ _ _ _ _ _ _ _ _ _ _ _ _ _ _ _ _ _ _ _ _ _ _ _)
    simp -implicitDefEqProofs (disch := omega) only [dcT, dcF, ea, ex, sx.row.len_eq etV.under, ↓cnd_true, ↓cnd_false, ↓Option.bind_some, ↓obH_some', bin_add, bin_sub, bin_mul, bin_lss, bin_leq, bin_gtr, bin_geq, bin_eql, bin_neq, un_not, un_neg, Option.bind_some, Option.bind_none, Option.map_some, cnd_true, cnd_false, pickV_true, pickV_false, gd_true, gd_false, gdV_true, gdV_false, gdH_true, gdH_false, gdS_true, gdS_false, wt_ff, wt_tt, wt_ft, wt_tf, wt_undef, obH_some', extractV_tuple, nilCheckV_ptr, againK_normal, againK_exit, againK_ret, blockK_normal, blockK_same, blockK_ret, seqK_normal, seqK_exit, seqK_ret, fin_done, if_true', if_false', Bool.not_true, Bool.not_false, idx0, idx1, idx2, idx3, idx4, chk_nil_l, chk_nil_r, done_nm]
    exact inner _ _ _ _ _ _ _ _ _ _ _ _ _ _ _ _ _ _ _ _ _ _ _ _
theorem spec_Stamp {h : Heap} {n : Int} {v : Value} {m : List (List Nat)} (s : SM h v m) (hm : m.length < 2 ^ 37) (h64 : ∀ r ∈ m, ∀ y ∈ r, y < 2 ^ 64) :
    ∃ a c h', evC Tryd.prog 42 #[matV n v] h = some (.slice a (stampM n m).length c, h') ∧ HExt h h' ∧ AB h.blks.length h' (.slice a (stampM n m).length c) (stampM n m) := by
  rw [call42, c42_0_eq]
  have k0 := bxM (.int .i64 n) v (nm h)
  have c0 := Cells.new (nm h) 89 [.int .i64 n, v]
  have i0 : In h.blks.length No (nm h) _ := In.new (by simp) (.cells [.int .i64 n, v]) 89
  have bl : (nm h).blks.length = h.blks.length := rfl
  rw [bl] at k0 c0
  generalize (nm h).new (.cells [.int .i64 n, v]) 89 = g0 at *
  obtain ⟨g1, e1,Ab⟩ := spec_GoodQ (n := n) (s.same i0.same0) (by omega)
  have hin := i0.trans (Ab.inn i0.len)
  have c1 := c0.ext Ab
  unfold stampM
  by_cases g : goodM n m = true
  · rw [if_pos g]
    rw [g] at e1
    obtain ⟨g2, e2,Ac, w2, l2⟩ := spec_NewWriter g1
    have hin2 := hin.trans (Ac.inn hin.len)
    have c2 := c1.ext Ac
    have sv := s.same hin2.same0
    have hl1 := hin.len
    obtain ⟨vs, s0⟩ := s
    have := stamp_loop (h0 := h) (p := g1.blks.length) g h64 s0 hl1 m.length 0 g2 (by omega) (w2.up (Nat.zero_le _)) hin2
    rw [show ((0 : Nat) : Int) = 0 from rfl] at this
    simp -implicitDefEqProofs (disch := omega) only [dcT, dcF, k0, ldM' c0, e1, e2, faM1, ldRs, c2.load, two2, sv.lenRV, ↓cnd_true, ↓cnd_false, ↓Option.bind_some, ↓obH_some', bin_add, bin_sub, bin_mul, bin_lss, bin_leq, bin_gtr, bin_geq, bin_eql, bin_neq, un_not, un_neg, Option.bind_some, Option.bind_none, Option.map_some, cnd_true, cnd_false, pickV_true, pickV_false, gd_true, gd_false, gdV_true, gdV_false, gdH_true, gdH_false, gdS_true, gdS_false, wt_ff, wt_tt, wt_ft, wt_tf, wt_undef, obH_some', extractV_tuple, nilCheckV_ptr, againK_normal, againK_exit, againK_ret, blockK_normal, blockK_same, blockK_ret, seqK_normal, seqK_exit, seqK_ret, fin_done, if_true', if_false', Bool.not_true, Bool.not_false, idx0, idx1, idx2, idx3, idx4, chk_nil_l, chk_nil_r, done_nm]
    exact this _ _ _ _ _ _ _ _ _ _ _ _ _ _ _ _ _ _ _ _ _ _ _ _ _ _ _
  · have g' : goodM n m = false := by simpa using g
    rw [if_neg g]
    rw [g'] at e1
    simp -implicitDefEqProofs (disch := omega) only [dcT, dcF, k0, ldM' c0, e1, ↓ret42, ↓cnd_true, ↓cnd_false, ↓Option.bind_some, ↓obH_some', bin_add, bin_sub, bin_mul, bin_lss, bin_leq, bin_gtr, bin_geq, bin_eql, bin_neq, un_not, un_neg, Option.bind_some, Option.bind_none, Option.map_some, cnd_true, cnd_false, pickV_true, pickV_false, gd_true, gd_false, gdV_true, gdV_false, gdH_true, gdH_false, gdS_true, gdS_false, wt_ff, wt_tt, wt_ft, wt_tf, wt_undef, obH_some', extractV_tuple, nilCheckV_ptr, againK_normal, againK_exit, againK_ret, blockK_normal, blockK_same, blockK_ret, seqK_normal, seqK_exit, seqK_ret, fin_done, if_true', if_false', Bool.not_true, Bool.not_false, idx0, idx1, idx2, idx3, idx4, chk_nil_l, chk_nil_r, done_nm]
    exact ⟨_, _, _, rfl, done_ext' hin, .nil⟩
end Go.Am
namespace Go.Am
open Go.Proofs
set_option maxRecDepth 100000
set_option linter.all false
attribute [local congr] obind_congr obH_congr cnd_congr chk_congr retK_congr codeK_congr
end Go.Am
namespace Go.Am
open Go.Proofs
set_option maxRecDepth 100000
set_option linter.all false
attribute [local congr] obind_congr obH_congr cnd_congr chk_congr retK_congr codeK_congr
theorem AMv.modp {eo : TypeId} {n0 : Nat} {h h' : Heap} {v : Value} {vs : List Value} {m : List (List Nat)} (a : AMv eo n0 h v vs m) {S : Nat → Prop} (e : HMod S h h') (k : ∀ b, S b → ∃ T cs, Cells h b T cs ∧ T ≠ eo ∧ T ≠ 23) : AMv eo n0 h' v vs m :=
  a.kp fun b all ty hb ht _ => e.old b (List.getElem?_eq_some_iff.1 hb).1 fun hs => by
    obtain ⟨T, cs, hc, h1, h2⟩ := k b hs
    unfold Cells at hc
    rw [hb] at hc
    simp only [Option.some.injEq, Blk.mk.injEq] at hc
    rcases ht with ht | ht
    · exact h1 (hc.2.1.symm.trans ht)
    · exact h2 (hc.2.1.symm.trans ht)
theorem set_mid (pre : List Nat) (x y : Nat) (l : List Nat) : (pre ++ x :: l).set pre.length y = pre ++ y :: l := by
  rw [List.set_append_right _ _ (Nat.le_refl _), Nat.sub_self, List.set_cons_zero]
theorem set_midM (pre : List (List Nat)) (x y : List Nat) (l : List (List Nat)) : (pre ++ x :: l).set pre.length y = pre ++ y :: l := by
  rw [List.set_append_right _ _ (Nat.le_refl _), Nat.sub_self, List.set_cons_zero]
theorem RdrL.keepB {L : Nat} {h h' : Heap} {p : Nat} {r : Option (List UInt8)} (w : RdrL L h p r) (hc : ∀ T cs, Cells h p T cs → T ≠ 23 → Cells h' p T cs) (hb : ∀ b, L ≤ b → h'.blks[b]? = h.blks[b]?) : RdrL L h' p r :=
  let ⟨a, c, x, y, z⟩ := w
  ⟨a, c, hc _ _ x (by decide), y.keep fun b _ hv => hb b (z b hv).1, z⟩
theorem read_inner {Q : Option (Value × Heap) → Prop} {h0 : Heap} {L q4 p6 rp : Nat} {rows x bv : Value} {vs : List Value} {m : List (List Nat)} {i n : Nat} {ml : Int} (hi : i < m.length) (hx : vs[i]? = some x) (hn : n ≤ 16) (hxL : Lo x L) (k : Ex → St → Option (Value × Heap)) :
    ∀ (mm j : Nat) (h : Heap) (pre : List Nat) (r : Option (List UInt8)), n = j + mm → pre.length = j → AMv 73 h0.blks.length h rows vs (m.set i (pre ++ List.replicate mm 0)) → RdrL L h rp r → h0.blks.length ≤ rp → (rbs r).length < 2 ^ 40 → Cells h q4 89 [.int .i64 0, .slice none 0 0] → Cells h p6 89 [.int .i64 n, rows] → In h0.blks.length No (nm h0) h →
    (∀ h', AMv 73 h0.blks.length h' rows vs (m.set i (pre ++ (readRow mm r).1)) → RdrL L h' rp (readRow mm r).2 → Cells h' q4 89 [.int .i64 0, .slice none 0 0] → Cells h' p6 89 [.int .i64 n, rows] → In h0.blks.length No (nm h0) h' → ∀ (Aa Ab Ac Ad Af Ah Aj Ak Al An Ao Ap Aq Ar As Au Av Aw Ax Ay Bc Bd Be Bf Bg Bh Bi Bj Bk Bl Bm Bn Bo Bp Bq Br Bs Bt Bu Bv : Value), Q (k .normal ⟨#[Aa,Ab,Ac,Ad, .pointer (some ⟨q4, 0, none⟩),Af, .pointer (some ⟨p6, 0, none⟩),Ah, .pointer (some ⟨rp, 0, none⟩),Aj,Ak,Al,An,Ao,Ap,Aq,Ar,As,Au,Av,Aw,Ax,Ay, rows, .int .i64 ml, .int .i64 i,Bc,Bd,Be,Bf,Bg,Bh,Bi,Bj,Bk,Bl,Bm,Bn,Bo,Bp,Bq,Br,Bs,Bt,Bu,Bv], h'⟩)) →
    ∀ (Aa Ab Ac Ad Af Ah Aj Al An Ao Ap Aq Ar As Au Av Aw Ax Ay Bc Bd Be Bf Bi Bj Bk Bl Bm Bn Bo Bp Bq Br Bs Bt Bu Bv : Value), Q (loopK Tryd.prog (evC Tryd.prog) c44_3 ⟨#[Aa,Ab,Ac,Ad, .pointer (some ⟨q4, 0, none⟩),Af, .pointer (some ⟨p6, 0, none⟩),Ah, .pointer (some ⟨rp, 0, none⟩),Aj, x,Al,An,Ao,Ap,Aq,Ar,As,Au,Av,Aw,Ax,Ay, rows, .int .i64 ml, .int .i64 i,Bc,Bd,Be,Bf, .int .i64 n, .int .i64 j,Bi,Bj,Bk,Bl,Bm,Bn,Bo,Bp,Bq,Br,Bs,Bt,Bu,Bv], h⟩ (blockK 2 k)) := by
  intro mm
  induction mm with
  | zero =>
    intro j h pre r hj hpre A w hrp _ c4 c6 hin hk Aa Ab Ac Ad Af Ah Aj Al An Ao Ap Aq Ar As Au Av Aw Ax Ay Bc Bd Be Bf Bi Bj Bk Bl Bm Bn Bo Bp Bq Br Bs Bt Bu Bv
    rw [loopK_eq evC_m, c44_3_eq]
    have := hk h A w c4 c6 hin
    simp -implicitDefEqProofs (disch := omega) only [dcT, dcF, ↓cnd_true, ↓cnd_false, ↓Option.bind_some, ↓obH_some', bin_add, bin_sub, bin_mul, bin_lss, bin_leq, bin_gtr, bin_geq, bin_eql, bin_neq, un_not, un_neg, Option.bind_some, Option.bind_none, Option.map_some, cnd_true, cnd_false, pickV_true, pickV_false, gd_true, gd_false, gdV_true, gdV_false, gdH_true, gdH_false, gdS_true, gdS_false, wt_ff, wt_tt, wt_ft, wt_tf, wt_undef, obH_some', extractV_tuple, nilCheckV_ptr, againK_normal, againK_exit, againK_ret, blockK_normal, blockK_same, blockK_ret, seqK_normal, seqK_exit, seqK_ret, fin_done, if_true', if_false', Bool.not_true, Bool.not_false, idx0, idx1, idx2, idx3, idx4, chk_nil_l, chk_nil_r, done_nm]
    exact this _ _ _ _ _ _ _ _ _ _ _ _ _ _ _ _ _ _ _ _ _ _ _ _ _ _ _ _ _ _ _ _ _ _ _ _ _ _ _ _
  | succ mm ih =>
    intro j h pre r hj hpre A w hrp hlen c4 c6 hin hk Aa Ab Ac Ad Af Ah Aj Al An Ao Ap Aq Ar As Au Av Aw Ax Ay Bc Bd Be Bf Bi Bj Bk Bl Bm Bn Bo Bp Bq Br Bs Bt Bu Bv
    rw [loopK_eq evC_m, c44_3_eq]
    obtain ⟨h2, e2,Ac, w2⟩ := spec_RNum w MAX (by unfold MAX; omega) hlen
    rw [show ((MAX : Nat) : Int) = 18446744073709551615 from rfl] at e2
    have nl := numP_le r MAX
    have hrpne : ∀ {p : Nat} {cs : List Value}, Cells h p 89 cs → ¬ Just rp p := fun hc e => by
      have e : _ = rp := e
      obtain ⟨_, _, hr, _⟩ := w
      subst e
      unfold Cells at hc hr
      rw [hc] at hr
      simp only [Option.some.injEq, Blk.mk.injEq] at hr
      exact absurd hr.2.1 (by decide)
    have c42 := c4.mod Ac (hrpne c4)
    have c62 := c6.mod Ac (hrpne c6)
    have A2 := A.modp Ac fun b hb => by
      have hb : b = rp := hb
      subst hb
      obtain ⟨_, _, hr, _⟩ := w
      exact ⟨_, _, hr, by decide, by decide⟩
    have hin2 := hin.trans (Ac.inn hin.len fun b hb e => by have : b = rp := e; omega)
    have hrow : (m.set i (pre ++ List.replicate (mm + 1) 0)).getD i [] = pre ++ 0 :: List.replicate mm 0 := by rw [lset_getD hi]; rfl
    obtain ⟨b, o, h3, e3, l3, st3, A3, k3, hl3, o3, q3⟩ := A2.set1q (by decide) etV.under (i := i) (j := j) (by rw [List.length_set]; exact hi) (by rw [hrow]; simp; omega) hx (numP r MAX).1
    rw [hrow, List.set_set, ← hpre, set_mid] at A3
    rw [show pre ++ (numP r MAX).1 :: List.replicate mm 0 = (pre ++ [(numP r MAX).1]) ++ List.replicate mm 0 by simp] at A3
    have w3 := w2.keepB (fun T cs hc ht => o3 rp T cs hc ht) fun c hc => q3 c fun e => by have := hxL c e; omega
    have hw : IntKind.wrap .i64 ((j : Int) + 1) = ((j + 1 : Nat) : Int) := by rw [wrap_i64] <;> omega
    have ih' := ih (j + 1) h3 (pre ++ [(numP r MAX).1]) (numP r MAX).2 (by omega) (by simp; omega) A3 w3 hrp (by omega) (o3 _ _ _ c42 (by decide)) (o3 _ _ _ c62 (by decide)) (hin2.trans k3.inn)
      (fun h' a' b' c' d' i' => hk h' (by simpa [readRow] using a') (by simpa [readRow] using b') c' d' i')
    rw [← hpre] at e3
    simp -implicitDefEqProofs (disch := omega) only [dcT, dcF, e2, hpre ▸ e3, vst64, st3, hw, ↓cnd_true, ↓cnd_false, ↓Option.bind_some, ↓obH_some', bin_add, bin_sub, bin_mul, bin_lss, bin_leq, bin_gtr, bin_geq, bin_eql, bin_neq, un_not, un_neg, Option.bind_some, Option.bind_none, Option.map_some, cnd_true, cnd_false, pickV_true, pickV_false, gd_true, gd_false, gdV_true, gdV_false, gdH_true, gdH_false, gdS_true, gdS_false, wt_ff, wt_tt, wt_ft, wt_tf, wt_undef, obH_some', extractV_tuple, nilCheckV_ptr, againK_normal, againK_exit, againK_ret, blockK_normal, blockK_same, blockK_ret, seqK_normal, seqK_exit, seqK_ret, fin_done, if_true', if_false', Bool.not_true, Bool.not_false, idx0, idx1, idx2, idx3, idx4, chk_nil_l, chk_nil_r, done_nm]
    exact ih' _ _ _ _ _ _ _ _ _ _ _ _ _ _ _ _ _ _ _ _ _ _ _ _ _ _ _ _ _ _ _ _ _ _ _ _ _
def readV (n : Int) (o : Option (List (List Nat))) : Int := if o.isSome = true then n else 0
theorem read_loop {h0 : Heap} {L q4 p6 rp n : Nat} {rows : Value} {vs : List Value} (hn : n ≤ 16) (hvL : ∀ x ∈ vs,Lo x L) (hrp : h0.blks.length ≤ rp) (hq4 : h0.blks.length ≤ q4) :
    ∀ (mm i : Nat) (h : Heap) (dn : List (List Nat)) (r : Option (List UInt8)), n = i + mm → dn.length = i → (∀ x ∈ dn, x.length = n) → AMv 73 h0.blks.length h rows vs (dn ++ List.replicate mm (List.replicate n 0)) → RdrL L h rp r → (rbs r).length < 2 ^ 40 → Cells h q4 89 [.int .i64 0, .slice none 0 0] → Cells h p6 89 [.int .i64 n, rows] → In h0.blks.length No (nm h0) h →
    ∀ (Aa Ab Ac Ad Af Ah Aj Ak Al An Ao Ap Aq Ar As Au Av Aw Ax Ay Bc Bd Be Bf Bg Bh Bi Bj Bk Bl Bm Bn Bo Bp Bq Br Bs Bt Bu Bv : Value),
    ∃ v' h', loopK Tryd.prog (evC Tryd.prog) c44_1 ⟨#[Aa,Ab,Ac,Ad, .pointer (some ⟨q4, 0, none⟩),Af, .pointer (some ⟨p6, 0, none⟩),Ah, .pointer (some ⟨rp, 0, none⟩),Aj,Ak,Al,An,Ao,Ap,Aq,Ar,As,Au,Av,Aw,Ax,Ay, rows, .int .i64 n, .int .i64 i,Bc,Bd,Be,Bf,Bg,Bh,Bi,Bj,Bk,Bl,Bm,Bn,Bo,Bp,Bq,Br,Bs,Bt,Bu,Bv], h⟩ (blockK 0 (seqK Tryd.prog (evC Tryd.prog) c44_2 (retK Tryd.f44 Tryd.prog h0))) =
      some (.tuple #[matV (if endP (readRows n mm r).2 = true then n else 0) v', .bool (endP (readRows n mm r).2)], h') ∧ HExt h0 h' ∧ AM 73 h0.blks.length h' v' (if endP (readRows n mm r).2 = true then dn ++ (readRows n mm r).1 else []) := by
  intro mm
  induction mm with
  | zero =>
    intro i h dn r hi hd hdl A w hlen c4 c6 hin Aa Ab Ac Ad Af Ah Aj Ak Al An Ao Ap Aq Ar As Au Av Aw Ax Ay Bc Bd Be Bf Bg Bh Bi Bj Bk Bl Bm Bn Bo Bp Bq Br Bs Bt Bu Bv
    rw [loopK_eq evC_m, c44_1_eq]
    have e1 := spec_REnd w
    simp only [readRows]
    rw [List.append_nil]
    rw [show dn ++ List.replicate 0 (List.replicate n 0) = dn by simp] at A
    rcases Bool.eq_false_or_eq_true (endP r) with he | he
    · rw [he] at e1
      simp only [he, if_true]
      obtain ⟨ra, rc, rfl⟩ := A.out.shape
      have c42 := c4.put [.int .i64 n, .slice ra dn.length rc]
      simp -implicitDefEqProofs (disch := omega) only [dcT, dcF, ↓c44_2_eq, e1, ldM' c6, stM, storeN_blk c4 (o := 0) (vs := [.int .i64 n, .slice ra dn.length rc]) (by simp), w2_put, ↓ret44, ↓cnd_true, ↓cnd_false, ↓Option.bind_some, ↓obH_some', bin_add, bin_sub, bin_mul, bin_lss, bin_leq, bin_gtr, bin_geq, bin_eql, bin_neq, un_not, un_neg, Option.bind_some, Option.bind_none, Option.map_some, cnd_true, cnd_false, pickV_true, pickV_false, gd_true, gd_false, gdV_true, gdV_false, gdH_true, gdH_false, gdS_true, gdS_false, wt_ff, wt_tt, wt_ft, wt_tf, wt_undef, obH_some', extractV_tuple, nilCheckV_ptr, againK_normal, againK_exit, againK_ret, blockK_normal, blockK_same, blockK_ret, seqK_normal, seqK_exit, seqK_ret, fin_done, if_true', if_false', Bool.not_true, Bool.not_false, idx0, idx1, idx2, idx3, idx4, chk_nil_l, chk_nil_r, done_nm]
      simp -implicitDefEqProofs only [ldM' c42, Option.bind_some, rvals_two, fin_done, if_true]
      exact ⟨_, _, rfl, done_ext' (hin.trans (In.put hin.len (.inl hq4) _)), (AM.put ⟨vs, A⟩ c4 (by decide) (by decide) _).done⟩
    · rw [he] at e1
      simp only [he, Bool.false_eq_true, if_false]
      have c42 := c4.put [.int .i64 0, .slice none 0 0]
      simp -implicitDefEqProofs (disch := omega) only [dcT, dcF, ↓c44_2_eq, e1, bdM0, stM, storeN_blk c4 (o := 0) (vs := [.int .i64 0, .slice none 0 0]) (by simp), w2_put, ↓ret44, ↓cnd_true, ↓cnd_false, ↓Option.bind_some, ↓obH_some', bin_add, bin_sub, bin_mul, bin_lss, bin_leq, bin_gtr, bin_geq, bin_eql, bin_neq, un_not, un_neg, Option.bind_some, Option.bind_none, Option.map_some, cnd_true, cnd_false, pickV_true, pickV_false, gd_true, gd_false, gdV_true, gdV_false, gdH_true, gdH_false, gdS_true, gdS_false, wt_ff, wt_tt, wt_ft, wt_tf, wt_undef, obH_some', extractV_tuple, nilCheckV_ptr, againK_normal, againK_exit, againK_ret, blockK_normal, blockK_same, blockK_ret, seqK_normal, seqK_exit, seqK_ret, fin_done, if_true', if_false', Bool.not_true, Bool.not_false, idx0, idx1, idx2, idx3, idx4, chk_nil_l, chk_nil_r, done_nm]
      simp -implicitDefEqProofs only [ldM' c42, Option.bind_some, rvals_two, fin_done, Bool.false_eq_true, if_false]
      exact ⟨_, _, rfl, done_ext' (hin.trans (In.put hin.len (.inl hq4) _)), AM.nil _ _ _⟩
  | succ mm ih =>
    intro i h dn r hi hd hdl A w hlen c4 c6 hin Aa Ab Ac Ad Af Ah Aj Ak Al An Ao Ap Aq Ar As Au Av Aw Ax Ay Bc Bd Be Bf Bg Bh Bi Bj Bk Bl Bm Bn Bo Bp Bq Br Bs Bt Bu Bv
    rw [loopK_eq evC_m, c44_1_eq]
    have hml : (dn ++ List.replicate (mm + 1) (List.replicate n 0)).length = n := by simp; omega
    obtain ⟨ad, x, hx, ea, ex, sx⟩ := (A.smv etM.size).at etM.under etM.size (by kernel_rfl) (i := i) (by omega)
    have hgi : (dn ++ List.replicate (mm + 1) (List.replicate n 0)).getD i [] = List.replicate n 0 := by rw [← hd]; simp
    rw [hgi] at sx
    have hA0 : dn ++ List.replicate (mm + 1) (List.replicate n 0) = (dn ++ List.replicate (mm + 1) (List.replicate n 0)).set i ([] ++ List.replicate n 0) := by
      rw [List.nil_append, show List.replicate (mm + 1) (List.replicate n 0) = List.replicate n 0 :: List.replicate mm (List.replicate n 0) from rfl, ← hd, set_midM]
    rw [hA0] at A
    have hw : IntKind.wrap .i64 ((i : Int) + 1) = ((i + 1 : Nat) : Int) := by rw [wrap_i64] <;> omega
    have hlr : ((List.replicate n 0).length : Int) = n := by simp
    have lx := sx.row.len_eq etV.under
    rw [hlr] at lx
    have hle := readRow_le n r
    have inner := read_inner (Q := fun res => ∃ v' h', res = some (.tuple #[matV (if endP (readRows n (mm + 1) r).2 = true then n else 0) v', .bool (endP (readRows n (mm + 1) r).2)], h') ∧ HExt h0 h' ∧ AM 73 h0.blks.length h' v' (if endP (readRows n (mm + 1) r).2 = true then dn ++ (readRows n (mm + 1) r).1 else [])) (h0 := h0) (L := L) (q4 := q4) (p6 := p6) (rp := rp) (rows := rows) (vs := vs) (bv := .bool true) (ml := n) (i := i) (n := n) (m := dn ++ List.replicate (mm + 1) (List.replicate n 0)) (by omega) hx hn (hvL x (List.mem_of_getElem? hx))
      (blockK 1 (seqK Tryd.prog (evC Tryd.prog) c44_4 (againK Tryd.prog (evC Tryd.prog) c44_1 (blockK 0 (seqK Tryd.prog (evC Tryd.prog) c44_2 (retK Tryd.f44 Tryd.prog h0))))))
      n 0 h [] r (by omega) rfl A w hrp hlen c4 c6 hin (by
        intro h' A' w' c4' c6' hin' Aa Ab Ac Ad Af Ah Aj Ak Al An Ao Ap Aq Ar As Au Av Aw Ax Ay Bc Bd Be Bf Bg Bh Bi Bj Bk Bl Bm Bn Bo Bp Bq Br Bs Bt Bu Bv
        rw [List.nil_append, show List.replicate (mm + 1) (List.replicate n 0) = List.replicate n 0 :: List.replicate mm (List.replicate n 0) from rfl, ← hd, set_midM, show dn ++ (readRow n r).1 :: List.replicate mm (List.replicate n 0) = (dn ++ [(readRow n r).1]) ++ List.replicate mm (List.replicate n 0) by simp] at A'
        have ih' := ih (i + 1) h' (dn ++ [(readRow n r).1]) (readRow n r).2 (by omega) (by simp; omega) (fun y hy => by
          rcases List.mem_append.1 hy with hy | hy
          · exact hdl y hy
          · rw [List.mem_singleton] at hy; subst hy; exact readRow_len n r) A' w' (by omega) c4' c6' hin'
        simp only [List.append_assoc, List.singleton_append] at ih'
        simp -implicitDefEqProofs (disch := omega) only [↓c44_4_eq, hw, ↓cnd_true, ↓cnd_false, ↓Option.bind_some, ↓obH_some', bin_add, bin_sub, bin_mul, bin_lss, bin_leq, bin_gtr, bin_geq, bin_eql, bin_neq, un_not, un_neg, Option.bind_some, Option.bind_none, Option.map_some, cnd_true, cnd_false, pickV_true, pickV_false, gd_true, gd_false, gdV_true, gdV_false, gdH_true, gdH_false, gdS_true, gdS_false, wt_ff, wt_tt, wt_ft, wt_tf, wt_undef, obH_some', extractV_tuple, nilCheckV_ptr, againK_normal, againK_exit, againK_ret, blockK_normal, blockK_same, blockK_ret, seqK_normal, seqK_exit, seqK_ret, fin_done, if_true', if_false', Bool.not_true, Bool.not_false, idx0, idx1, idx2, idx3, idx4, chk_nil_l, chk_nil_r, done_nm]
        exact ih' _ _ _ _ _ _ _ _ _ _ _ _ _ _ _ _ _ _ _ _ _ _ _ _ _ _ _ _ _ _ _ _ _ _ _ _ _ _ _ _)
    rw [show ((0 : Nat) : Int) = 0 from rfl] at inner
    simp -implicitDefEqProofs (disch := omega) only [dcT, dcF, ea, ex, lx, ↓cnd_true, ↓cnd_false, ↓Option.bind_some, ↓obH_some', bin_add, bin_sub, bin_mul, bin_lss, bin_leq, bin_gtr, bin_geq, bin_eql, bin_neq, un_not, un_neg, Option.bind_some, Option.bind_none, Option.map_some, cnd_true, cnd_false, pickV_true, pickV_false, gd_true, gd_false, gdV_true, gdV_false, gdH_true, gdH_false, gdS_true, gdS_false, wt_ff, wt_tt, wt_ft, wt_tf, wt_undef, obH_some', extractV_tuple, nilCheckV_ptr, againK_normal, againK_exit, againK_ret, blockK_normal, blockK_same, blockK_ret, seqK_normal, seqK_exit, seqK_ret, fin_done, if_true', if_false', Bool.not_true, Bool.not_false, idx0, idx1, idx2, idx3, idx4, chk_nil_l, chk_nil_r, done_nm]
    exact inner _ _ _ _ _ _ _ _ _ _ _ _ _ _ _ _ _ _ _ _ _ _ _ _ _ _ _ _ _ _ _ _ _ _ _ _ _
theorem spec_Read {h : Heap} {n : Int} {b : Value} {bs : List UInt8} (sb : SB h b bs) (hl : bs.length < 2 ^ 38) :
    ∃ v' h', evC Tryd.prog 44 #[.int .i64 n, b] h = some (.tuple #[matV (readV n (readM n bs)) v', .bool (readM n bs).isSome], h') ∧ HExt h h' ∧ AM 73 h.blks.length h' v' ((readM n bs).getD []) := by
  rw [call44, c44_0_eq]
  have k1 := alM (nm h)
  have c1 := Cells.new (nm h) 89 [.int .i64 0, .slice none 0 0]
  have i1 : In h.blks.length No (nm h) _ := In.new (by simp) (.cells [.int .i64 0, .slice none 0 0]) 89
  have bl : (nm h).blks.length = h.blks.length := rfl
  rw [bl] at k1 c1
  generalize (nm h).new (.cells [.int .i64 0, .slice none 0 0]) 89 = g1 at *
  obtain ⟨vm, g2, e2,Ac, a2⟩ := spec_MNew n g1
  have i2 := i1.trans (Ac.inn i1.len)
  have c2 := c1.ext Ac
  by_cases hc : 1 ≤ n ∧ n ≤ 16
  · rw [if_pos hc, if_pos hc] at e2
    rw [if_pos hc] at a2
    obtain ⟨n, rfl⟩ : ∃ k : Nat, n = k := ⟨n.toNat, by omega⟩
    rw [Int.toNat_natCast] at a2
    obtain ⟨va, vc, rfl⟩ := a2.shape
    have k3 := alM g2
    have k3' := mvar (h := g2) n va (zerosM n).length vc
    have c3 := mvar_cells g2 [.int .i64 0, .slice none 0 0] [.int .i64 n, .slice va (zerosM n).length vc] 89
    have s3 := mvar_same g2 (.cells [.int .i64 0, .slice none 0 0]) (.cells [.int .i64 n, .slice va (zerosM n).length vc]) 89
    have i3 := i2.trans (mvar_in (h := g2) i2.len (.cells [.int .i64 0, .slice none 0 0]) (.cells [.int .i64 n, .slice va (zerosM n).length vc]) 89)
    generalize (g2.new (.cells [.int .i64 0, .slice none 0 0]) 89).put g2.blks.length (.cells [.int .i64 n, .slice va (zerosM n).length vc]) = g3 at *
    obtain ⟨g4, rp, e4,Ae, r4, lr⟩ := spec_NewReaderL (sb.same i3.same0) (by omega)
    have i4 := i3.trans (Ae.inn i3.len)
    have l3 := i3.len
    simp only [nm_blks] at l3
    have c24 := (c2.same s3).ext Ae
    have c34 := c3.ext Ae
    obtain ⟨vs, A⟩ := ((a2.up (n1 := h.blks.length) i1.len).same s3)
    have hvL : ∀ x ∈ vs,Lo x g3.blks.length := fun x hx => by
      obtain ⟨i, hi, rfl⟩ := List.getElem_of_mem hx
      obtain ⟨r', _, hr'⟩ := A.rows.get (i := i) (a := vs[i]) (List.getElem?_eq_getElem hi)
      exact hr'.su.lo
    have A4 := A.kp (h' := g4) fun b _ _ hb _ _ => Ae.old b (List.getElem?_eq_some_iff.1 hb).1
    have lv := (AM.smV ⟨vs, A4⟩).lenRV
    have hz : ((zerosM n).length : Int) = n := by simp [zerosM]
    rw [hz] at lv
    have main := read_loop (h0 := h) (L := g3.blks.length) (rows := .slice va (zerosM n).length vc) (by omega) hvL (by omega) (Nat.le_refl _) n 0 g4 [] (some bs) (by omega) rfl (by simp) (by rw [List.nil_append]; exact A4) r4 (by simp only [rbs, Option.getD_some]; omega) c24 c34 i4
    have em : readM n bs = if endP (readRows n n (some bs)).2 = true then some (readRows n n (some bs)).1 else none := by
      unfold readM; rw [if_pos hc, Int.toNat_natCast]
    have e1 : readV n (readM n bs) = if endP (readRows n n (some bs)).2 = true then (n : Int) else 0 := by rw [em]; unfold readV; split <;> simp
    have e2' : (readM n bs).isSome = endP (readRows n n (some bs)).2 := by rw [em]; split <;> simp_all
    have e3' : (readM n bs).getD [] = if endP (readRows n n (some bs)).2 = true then [] ++ (readRows n n (some bs)).1 else [] := by rw [em]; split <;> simp
    rw [e1, e2', e3']
    rw [show ((0 : Nat) : Int) = 0 from rfl] at main
    simp -implicitDefEqProofs (disch := omega) only [dcT, dcF, k1, e2, k3, k3', e4, faM1, ldRs, c34.load, two2, lv, ne_eq, eq_self, not_true_eq_false, decide_false, ↓cnd_true, ↓cnd_false, ↓Option.bind_some, ↓obH_some', bin_add, bin_sub, bin_mul, bin_lss, bin_leq, bin_gtr, bin_geq, bin_eql, bin_neq, un_not, un_neg, Option.bind_some, Option.bind_none, Option.map_some, cnd_true, cnd_false, pickV_true, pickV_false, gd_true, gd_false, gdV_true, gdV_false, gdH_true, gdH_false, gdS_true, gdS_false, wt_ff, wt_tt, wt_ft, wt_tf, wt_undef, obH_some', extractV_tuple, nilCheckV_ptr, againK_normal, againK_exit, againK_ret, blockK_normal, blockK_same, blockK_ret, seqK_normal, seqK_exit, seqK_ret, fin_done, if_true', if_false', Bool.not_true, Bool.not_false, idx0, idx1, idx2, idx3, idx4, chk_nil_l, chk_nil_r, done_nm]
    exact main _ _ _ _ _ _ _ _ _ _ _ _ _ _ _ _ _ _ _ _ _ _ _ _ _ _ _ _ _ _ _ _ _ _ _ _ _ _ _ _
  · rw [if_neg hc, if_neg hc] at e2
    rw [if_neg hc] at a2
    have em : readM n bs = none := by unfold readM; rw [if_neg hc]
    rw [em]
    obtain ⟨va, vc, rfl⟩ := a2.shape
    have k3 := alM g2
    have k3' := mvar (h := g2) 0 va ([] : List (List Nat)).length vc
    have s3 := mvar_same g2 (.cells [.int .i64 0, .slice none 0 0]) (.cells [.int .i64 0, .slice va ([] : List (List Nat)).length vc]) 89
    have i3 := i2.trans (mvar_in (h := g2) i2.len (.cells [.int .i64 0, .slice none 0 0]) (.cells [.int .i64 0, .slice va ([] : List (List Nat)).length vc]) 89)
    generalize (g2.new (.cells [.int .i64 0, .slice none 0 0]) 89).put g2.blks.length (.cells [.int .i64 0, .slice va ([] : List (List Nat)).length vc]) = g3 at *
    have c3 := c2.same s3
    have c4 := c3.put [.int .i64 0, .slice none 0 0]
    have st : storeV Tryd.prog 89 (.pointer (some ⟨h.blks.length, 0, none⟩)) (.agg #[.int .i64 0, .slice none 0 0]) g3 = some (g3.put h.blks.length (.cells [.int .i64 0, .slice none 0 0])) := by
      rw [stM, storeN_blk c3 (o := 0) (vs := [.int .i64 0, .slice none 0 0]) (by simp), w2_put]
    simp -implicitDefEqProofs (disch := omega) only [dcT, dcF, k1, e2, k3, k3', bdM0, st, ↓ret44, ↓cnd_true, ↓cnd_false, ↓Option.bind_some, ↓obH_some', bin_add, bin_sub, bin_mul, bin_lss, bin_leq, bin_gtr, bin_geq, bin_eql, bin_neq, un_not, un_neg, Option.bind_some, Option.bind_none, Option.map_some, cnd_true, cnd_false, pickV_true, pickV_false, gd_true, gd_false, gdV_true, gdV_false, gdH_true, gdH_false, gdS_true, gdS_false, wt_ff, wt_tt, wt_ft, wt_tf, wt_undef, obH_some', extractV_tuple, nilCheckV_ptr, againK_normal, againK_exit, againK_ret, blockK_normal, blockK_same, blockK_ret, seqK_normal, seqK_exit, seqK_ret, fin_done, if_true', if_false', Bool.not_true, Bool.not_false, idx0, idx1, idx2, idx3, idx4, chk_nil_l, chk_nil_r, done_nm]
    simp -implicitDefEqProofs only [ldM' c4, Option.bind_some, rvals_two, fin_done]
    exact ⟨_, _, rfl, done_ext' (i3.trans (In.put i3.len (.inl (Nat.le_refl _)) _)), AM.nil _ _ _⟩
end Go.Am
namespace Go.Am
open Go.Proofs
set_option maxRecDepth 100000
set_option linter.all false
attribute [local congr] obind_congr obH_congr cnd_congr chk_congr retK_congr codeK_congr
theorem AMv.app {t eo : TypeId} (et : ElemT Tryd.prog t eo 1 24 (.slice none 0 0)) (hne : eo ≠ 23) {n0 n1 : Nat} {h : Heap} (hn : n0 ≤ h.blks.length) (hn1 : n0 ≤ n1) {v : Value} {vs : List Value} {m : List (List Nat)} (A : AMv eo n0 h v vs m) (hvs : ∀ x ∈ vs,Lo x n1) {a : Option Addr} {c : Nat} {r : List Nat} (ax : AU n1 h (.slice a r.length c) r) (hl : m.length < 2 ^ 38) :
    ∃ a' c' h', appendV Tryd.prog t (some t) v (.slice (some ⟨h.blks.length, 0, none⟩) 1 1) (h.new (.cells [.slice a r.length c]) eo) = some (.slice a' (m ++ [r]).length c', h') ∧ AMv eo n0 h' (.slice a' (m ++ [r]).length c') (vs ++ [.slice a r.length c]) (m ++ [r]) ∧ Keeps n0 h h' ∧ (∀ p ty cs, Cells h p ty cs → ty ≠ eo → Cells h' p ty cs) := by
  have A2 := A.kp (h' := h.new (.cells [.slice a r.length c]) eo) fun b _ _ hb _ _ => Heap.new_old (List.getElem?_eq_some_iff.1 hb).1
  have ax2 : AU n1 (h.new (.cells [.slice a r.length c]) eo) (.slice a r.length c) r := ax.keep fun b hb _ => Heap.new_old hb
  have hrow : Row (h.new (.cells [.slice a r.length c]) eo) 1 (.slice (some ⟨h.blks.length, 0, none⟩) 1 1) 1 [.slice a r.length c] := .mk (loadN_blk (blk_new_self _ _ _) rfl)
  obtain ⟨v', h', e1, e2, e3, e4, e5⟩ := append_acc et (t1 := some t) (n0 := n0) (by simp [Heap.new]; omega) A2.out (newsV_row et.under hrow) (by simp) (by omega) (by omega) (by simp [Value.oneCell'])
  obtain ⟨a', c', rfl⟩ := e2.shape
  have el : m.length + 1 = (m ++ [r]).length := by simp
  rw [el] at e1 e2
  have kr : ∀ b, b < (h.new (.cells [.slice a r.length c]) eo).blks.length → blockOf v ≠ some b → h'.blks[b]? = (h.new (.cells [.slice a r.length c]) eo).blks[b]? := e4
  refine ⟨a', c', h', e1, ⟨e2, (A2.rows.mono fun x y s => ?_).append (.cons ?_ .nil), ?_⟩, (Keeps.new hn _ _).trans e3, fun p ty cs hp ht => ?_⟩
  · exact s.keep fun b hb hv => kr b hb fun e => (s.blk_ne A2.out (Ne.symm hne) hv) e
  · exact (ax2.keep fun b hb hv => kr b hb fun e => (ax2.blk_ne A2.out (Ne.symm hne) hv) e).up hn1
  · rw [List.pairwise_append]
    refine ⟨A.apart, List.pairwise_singleton _ _, fun x hx y hy b hb hb' => ?_⟩
    rw [List.mem_singleton] at hy
    subst hy
    have l1 := hvs x hx b hb
    have l2 := ax.ge hb'
    omega
  · have hp' : Cells (h.new (.cells [.slice a r.length c]) eo) p ty cs := hp.keepNew _ _
    refine (kr p hp'.lt fun e => ?_).trans hp'
    obtain ⟨all, x⟩ := A2.out.blk e
    unfold Cells at hp'
    rw [hp'] at x
    simp only [Option.some.injEq, Blk.mk.injEq] at x
    exact ht x.2.1
end Go.Am
namespace Go.Am
open Go.Proofs
set_option maxRecDepth 100000
set_option linter.all false
attribute [local congr] obind_congr obH_congr cnd_congr chk_congr retK_congr codeK_congr
theorem addNu (t : TypeId) (xo yo : Operand) (a b : Nat) : binV Tryd.prog .add t xo yo (.int .u64 a) (.int .u64 b) = some (.int .u64 (((a + b) % 2 ^ 64 : Nat) : Int)) := by
  rw [bin_add, ← Int.natCast_add, wrap_u64_nat]
theorem andNu (t : TypeId) (xo yo : Operand) (a b : Nat) (ha : a < 2 ^ 64) (hb : b < 2 ^ 64) : binV Tryd.prog .and t xo yo (.int .u64 a) (.int .u64 b) = some (.int .u64 ((a &&& b : Nat) : Int)) := by
  rw [bin_and64 _ _ _ _ _ (by omega) (by omega) (by omega) (by omega), Int.toNat_natCast, Int.toNat_natCast]
theorem andNotN (t : TypeId) (xo yo : Operand) (a b : Nat) (ha : a < 2 ^ 64) (hb : b < 2 ^ 64) : binV Tryd.prog .andNot t xo yo (.int .u64 a) (.int .u64 b) = some (.int .u64 ((a &&& (2 ^ 64 - 1 - b) : Nat) : Int)) := by
  rw [bin_andNot64 _ _ _ _ _ (by omega) (by omega) (by omega) (by omega), Int.toNat_natCast, Int.toNat_natCast]
theorem shrU (t : TypeId) (xo yo : Operand) (s p : Nat) (hs : s < 2 ^ 64) (hp : p < 64) : binV Tryd.prog .shr t xo yo (.int .u64 s) (.int .u64 p) = some (.int .u64 ((s / 2 ^ p : Nat) : Int)) := shrN t xo yo .u64 s p hs hp
theorem andLtU {a b : Nat} (ha : a < 2 ^ 64) : a &&& b < 2 ^ 64 := Nat.lt_of_le_of_lt Nat.and_le_left ha
theorem divLtU {a b : Nat} (ha : a < 2 ^ 64) : a / b < 2 ^ 64 := Nat.lt_of_le_of_lt (Nat.div_le_self ..) ha
theorem modLtU (a : Nat) : a % 2 ^ 64 < 2 ^ 64 := Nat.mod_lt _ (by decide)
theorem andIu (t : TypeId) (xo yo : Operand) (a b : Nat) (z : Int) (hz : z = b) (ha : a < 2 ^ 64) (hb : b < 2 ^ 64) : binV Tryd.prog .and t xo yo (.int .u64 a) (.int .u64 z) = some (.int .u64 ((a &&& b : Nat) : Int)) := by subst hz; exact andNu t xo yo a b ha hb
theorem shrIu (t : TypeId) (xo yo : Operand) (s p : Nat) (z : Int) (hz : z = p) (hs : s < 2 ^ 64) (hp : p < 64) : binV Tryd.prog .shr t xo yo (.int .u64 s) (.int .u64 z) = some (.int .u64 ((s / 2 ^ p : Nat) : Int)) := by subst hz; exact shrU t xo yo s p hs hp
def pop1 (x : Nat) : Nat := ((x / 2 ^ 1 &&& 6148914691236517205) + (x &&& 6148914691236517205)) % 2 ^ 64
def pop2 (x : Nat) : Nat := ((x / 2 ^ 2 &&& 3689348814741910323) + (x &&& 3689348814741910323)) % 2 ^ 64
def pop3 (x : Nat) : Nat := ((x / 2 ^ 4 + x) % 2 ^ 64) &&& 1085102592571150095
def pop4 (x : Nat) : Nat := (x + x / 2 ^ 8) % 2 ^ 64
def pop5 (x : Nat) : Nat := (x + x / 2 ^ 16) % 2 ^ 64
def pop6 (x : Nat) : Nat := (x + x / 2 ^ 32) % 2 ^ 64
def pop (x : Nat) : Nat := pop6 (pop5 (pop4 (pop3 (pop2 (pop1 x))))) % 128
theorem pop_lt (x : Nat) : pop x < 128 := Nat.mod_lt _ (by decide)
theorem popAnd127 (t : TypeId) (xo yo : Operand) (f : Nat) (hf : f < 2 ^ 64) : binV Tryd.prog .and t xo yo (.int .i64 (IntKind.wrap .i64 f)) (.int .i64 127) = some (.int .i64 ((f % 128 : Nat) : Int)) := by
  rw [bin_andB]
  have e : (BitVec.ofInt IntKind.i64.bits (IntKind.wrap .i64 f) &&& BitVec.ofInt IntKind.i64.bits 127).toNat = f % 128 := by
    show (BitVec.ofInt 64 (IntKind.wrap .i64 (f : Int)) &&& BitVec.ofInt 64 127).toNat = f % 128
    rw [BitVec.toNat_and, show BitVec.ofInt 64 (IntKind.wrap .i64 (f : Int)) = BitVec.ofNat 64 f from ?_, BitVec.toNat_ofNat, Nat.mod_eq_of_lt hf, show (BitVec.ofInt 64 127).toNat = 2 ^ 7 - 1 from by decide, Nat.and_two_pow_sub_one_eq_mod]
    have e0 : ∀ z : Int, IntKind.wrap .i64 z = if decide (z % 2 ^ 64 ≥ 2 ^ 63) = true then z % 2 ^ 64 - 2 ^ 64 else z % 2 ^ 64 := fun z => rfl
    apply BitVec.eq_of_toNat_eq
    rw [BitVec.toNat_ofInt, BitVec.toNat_ofNat, e0]
    by_cases hc : (f : Int) % 2 ^ 64 ≥ 2 ^ 63
    · rw [if_pos (decide_eq_true hc)]; omega
    · rw [if_neg (by simpa using hc)]; omega
  rw [e, wrap_i64 (by omega) (by omega)]
theorem spec_Ones (x : Nat) (hx : x < 2 ^ 64) (h : Heap) : evC Tryd.prog 64 #[.int .u64 x] h = some (.int .i64 (pop x : Nat), h) := by
  rw [call64, c64_0_eq]
  have cv : ∀ (f : Nat) (h : Heap), convV Tryd.prog 23 3 (.int .u64 f) h = some (.int .i64 (IntKind.wrap .i64 f), h) := fun f h => conv_int (ks := .u64) (by kernel_rfl) (by kernel_rfl) _ _ _
  have a1 := fun t xo yo => shrIu t xo yo x 1 1 rfl hx (by omega)
  have a2 := fun t xo yo => andIu t xo yo (x / 2 ^ 1) 6148914691236517205 6148914691236517205 rfl (divLtU hx) (by omega)
  have a3 := fun t xo yo => andIu t xo yo x 6148914691236517205 6148914691236517205 rfl hx (by omega)
  have a4 := fun t xo yo => addNu t xo yo (x / 2 ^ 1 &&& 6148914691236517205) (x &&& 6148914691236517205)
  have b0 : pop1 x < 2 ^ 64 := modLtU _
  rw [show ((x / 2 ^ 1 &&& 6148914691236517205) + (x &&& 6148914691236517205)) % 2 ^ 64 = pop1 x from rfl] at a4
  unfold pop
  generalize pop1 x = y at *
  have b1 := fun t xo yo => shrIu t xo yo y 2 2 rfl b0 (by omega)
  have b2 := fun t xo yo => andIu t xo yo (y / 2 ^ 2) 3689348814741910323 3689348814741910323 rfl (divLtU b0) (by omega)
  have b3 := fun t xo yo => andIu t xo yo y 3689348814741910323 3689348814741910323 rfl b0 (by omega)
  have b4 := fun t xo yo => addNu t xo yo (y / 2 ^ 2 &&& 3689348814741910323) (y &&& 3689348814741910323)
  have c0 : pop2 y < 2 ^ 64 := modLtU _
  rw [show ((y / 2 ^ 2 &&& 3689348814741910323) + (y &&& 3689348814741910323)) % 2 ^ 64 = pop2 y from rfl] at b4
  generalize pop2 y = z at *
  have c1 := fun t xo yo => shrIu t xo yo z 4 4 rfl c0 (by omega)
  have c2 := fun t xo yo => addNu t xo yo (z / 2 ^ 4) z
  have c3 := fun t xo yo => andIu t xo yo ((z / 2 ^ 4 + z) % 2 ^ 64) 1085102592571150095 1085102592571150095 rfl (modLtU _) (by omega)
  have d0 : pop3 z < 2 ^ 64 := andLtU (modLtU _)
  rw [show ((z / 2 ^ 4 + z) % 2 ^ 64) &&& 1085102592571150095 = pop3 z from rfl] at c3
  generalize pop3 z = u at *
  have d1 := fun t xo yo => shrIu t xo yo u 8 8 rfl d0 (by omega)
  have d2 := fun t xo yo => addNu t xo yo u (u / 2 ^ 8)
  have f0 : pop4 u < 2 ^ 64 := modLtU _
  rw [show (u + u / 2 ^ 8) % 2 ^ 64 = pop4 u from rfl] at d2
  generalize pop4 u = v at *
  have f1 := fun t xo yo => shrIu t xo yo v 16 16 rfl f0 (by omega)
  have f2 := fun t xo yo => addNu t xo yo v (v / 2 ^ 16)
  have g0 : pop5 v < 2 ^ 64 := modLtU _
  rw [show (v + v / 2 ^ 16) % 2 ^ 64 = pop5 v from rfl] at f2
  generalize pop5 v = w at *
  have g1 := fun t xo yo => shrIu t xo yo w 32 32 rfl g0 (by omega)
  have g2 := fun t xo yo => addNu t xo yo w (w / 2 ^ 32)
  have k0 : pop6 w < 2 ^ 64 := modLtU _
  rw [show (w + w / 2 ^ 32) % 2 ^ 64 = pop6 w from rfl] at g2
  generalize pop6 w = s at *
  have k1 := fun t xo yo => popAnd127 t xo yo s k0
  simp -implicitDefEqProofs only [a1, a2, a3, a4, b1, b2, b3, b4, c1, c2, c3, d1, d2, f1, f2, g1, g2, cv, k1, ↓ret64, ↓cnd_true, ↓cnd_false, ↓Option.bind_some, ↓obH_some', bin_add, bin_sub, bin_mul, bin_lss, bin_leq, bin_gtr, bin_geq, bin_eql, bin_neq, un_not, un_neg, Option.bind_some, Option.bind_none, Option.map_some, cnd_true, cnd_false, pickV_true, pickV_false, gd_true, gd_false, gdV_true, gdV_false, gdH_true, gdH_false, gdS_true, gdS_false, wt_ff, wt_tt, wt_ft, wt_tf, wt_undef, obH_some', extractV_tuple, nilCheckV_ptr, againK_normal, againK_exit, againK_ret, blockK_normal, blockK_same, blockK_ret, seqK_normal, seqK_exit, seqK_ret, fin_done, if_true', if_false', Bool.not_true, Bool.not_false, idx0, idx1, idx2, idx3, idx4, chk_nil_l, chk_nil_r, done_nm]
theorem spec_Count (x : Nat) (hx : x < 2 ^ 64) (h : Heap) : evC Tryd.prog 41 #[.int .u64 x] h = some (.int .i64 (pop x : Nat), h) := by
  rw [call41, c41_0_eq]
  simp -implicitDefEqProofs only [spec_Ones x hx, ↓ret41, ↓cnd_true, ↓cnd_false, ↓Option.bind_some, ↓obH_some', bin_add, bin_sub, bin_mul, bin_lss, bin_leq, bin_gtr, bin_geq, bin_eql, bin_neq, un_not, un_neg, Option.bind_some, Option.bind_none, Option.map_some, cnd_true, cnd_false, pickV_true, pickV_false, gd_true, gd_false, gdV_true, gdV_false, gdH_true, gdH_false, gdS_true, gdS_false, wt_ff, wt_tt, wt_ft, wt_tf, wt_undef, obH_some', extractV_tuple, nilCheckV_ptr, againK_normal, againK_exit, againK_ret, blockK_normal, blockK_same, blockK_ret, seqK_normal, seqK_exit, seqK_ret, fin_done, if_true', if_false', Bool.not_true, Bool.not_false, idx0, idx1, idx2, idx3, idx4, chk_nil_l, chk_nil_r, done_nm]
end Go.Am
namespace Go.Am
open Go.Proofs
set_option maxRecDepth 100000
set_option linter.all false
attribute [local congr] obind_congr obH_congr cnd_congr chk_congr retK_congr codeK_congr
theorem bdE (n me k : Int) (a b : Option Addr) (l c l2 c2 : Nat) : buildV Tryd.prog 94 #[(0, .int .i64 n), (1, .int .i64 me), (2, .agg #[.int .i64 k, .slice a l c]), (3, .slice b l2 c2)] = some (.agg #[.int .i64 n, .int .i64 me, .int .i64 k, .slice a l c, .slice b l2 c2]) := by kernel_rfl
theorem bxFE (n me k : Int) (v w : Value) (h : Heap) : boxV Tryd.prog 94 (.agg #[.int .i64 n, .int .i64 me, .int .i64 k, v, w]) h = some (.pointer (some ⟨h.blks.length, 0, none⟩), h.new (.cells [.int .i64 n, .int .i64 me, .int .i64 k, v, w]) 94) := by kernel_rfl
theorem faFE0 (p : Nat) : fieldAddrV Tryd.prog 94 (.pointer (some ⟨p, 0, none⟩)) 0 = some (.pointer (some ⟨p, 0, none⟩)) := by kernel_rfl
theorem faFE1 (p : Nat) : fieldAddrV Tryd.prog 94 (.pointer (some ⟨p, 0, none⟩)) 1 = some (.pointer (some ⟨p, 1, none⟩)) := by kernel_rfl
theorem faFE2 (p : Nat) : fieldAddrV Tryd.prog 94 (.pointer (some ⟨p, 0, none⟩)) 2 = some (.pointer (some ⟨p, 2, none⟩)) := by kernel_rfl
theorem faFE3 (p : Nat) : fieldAddrV Tryd.prog 94 (.pointer (some ⟨p, 0, none⟩)) 3 = some (.pointer (some ⟨p, 4, none⟩)) := by kernel_rfl
theorem ldVv (p o : Nat) (h : Heap) : loadV Tryd.prog 73 (.pointer (some ⟨p, o, none⟩)) h = h.load1 p o := by kernel_rfl
theorem ldMo (p o : Nat) (h : Heap) : loadV Tryd.prog 89 (.pointer (some ⟨p, o, none⟩)) h = (h.loadN p o 2).map fun vs => .agg vs.toArray := by kernel_rfl
theorem stMo (p o : Nat) (n : Int) (a : Option Addr) (l c : Nat) (h : Heap) : storeV Tryd.prog 89 (.pointer (some ⟨p, o, none⟩)) (.agg #[.int .i64 n, .slice a l c]) h = h.storeN p o [.int .i64 n, .slice a l c] := by kernel_rfl
structure EnC (L : Nat) (h : Heap) (p : Nat) (n me : Int) (rv gv : Value) (m : List (List Nat)) (g : List Nat) : Prop where
  c : Cells h p 94 [.int .i64 n, .int .i64 me, .int .i64 n, rv, gv]
  am : AM 73 L h rv m
  au : AU L h gv g
def En (L : Nat) (h : Heap) (p : Nat) (n me : Int) (m : List (List Nat)) (g : List Nat) : Prop := ∃ rv gv, EnC L h p n me rv gv m g
variable {L : Nat} {h h' : Heap} {p : Nat} {n me : Int} {rv gv : Value} {m : List (List Nat)} {g : List Nat}
theorem EnC.kp (E : EnC L h p n me rv gv m g) (k : ∀ b all ty, h.blks[b]? = some ⟨.cells all, ty, true⟩ → ty = 94 ∧ b = p ∨ ty = 73 ∨ ty = 23 → h'.blks[b]? = h.blks[b]?) : EnC L h' p n me rv gv m g :=
  ⟨(k _ _ _ E.c (.inl ⟨rfl, rfl⟩)).trans E.c, E.am.kp fun b all ty hb ht _ => k b all ty hb (.inr ht), E.au.keep fun b _ hv => by obtain ⟨all, h1⟩ := E.au.blk hv; exact k b all _ h1 (.inr (.inr rfl))⟩
theorem EnC.same (E : EnC L h p n me rv gv m g) (s : Same h h') : EnC L h' p n me rv gv m g := E.kp fun b _ _ hb _ => s.2 b (List.getElem?_eq_some_iff.1 hb).1
theorem EnC.ext (E : EnC L h p n me rv gv m g) (e : HExt h h') : EnC L h' p n me rv gv m g := E.same e.same
theorem EnC.kpT (E : EnC L h p n me rv gv m g) {T : TypeId} (h1 : 94 ≠ T) (h2 : 73 ≠ T) (h3 : 23 ≠ T) (k : ∀ q ty cs, Cells h q ty cs → ty ≠ T → Cells h' q ty cs) : EnC L h' p n me rv gv m g :=
  E.kp fun b all ty hb ht => (k b ty all hb (by rcases ht with ⟨rfl, _⟩ | rfl | rfl <;> assumption)).trans hb.symm
theorem En.same (E : En L h p n me m g) (s : Same h h') : En L h' p n me m g := let ⟨_, _, x⟩ := E; ⟨_, _, x.same s⟩
theorem En.ext (E : En L h p n me m g) (s : HExt h h') : En L h' p n me m g := E.same s.same
theorem En.nm (E : En L h p n me m g) : En L (Am.nm h) p n me m g := E.same ⟨Nat.le_refl _, fun _ _ => rfl⟩
theorem En.done {h0 : Heap} (E : En L h p n me m g) : En L (Am.done h0 h) p n me m g := E.same ⟨Nat.le_refl _, fun _ _ => rfl⟩
theorem En.mod {S : Nat → Prop} (E : En L h p n me m g) (e : HMod S h h') (hp : ¬ S p) (k : ∀ b, S b → ∃ T cs, Cells h b T cs ∧ T ≠ 73 ∧ T ≠ 23) : En L h' p n me m g :=
  let ⟨rv, gv, x⟩ := E
  ⟨rv, gv, x.kp fun b all ty hb ht => e.old b (List.getElem?_eq_some_iff.1 hb).1 fun hs => by
    rcases ht with ⟨_, rfl⟩ | ht
    · exact hp hs
    · obtain ⟨T, cs, hc, h1, h2⟩ := k b hs
      unfold Cells at hc
      rw [hc] at hb
      simp only [Option.some.injEq, Blk.mk.injEq] at hb
      rcases ht with ht | ht
      · exact h1 (hb.2.1.trans ht)
      · exact h2 (hb.2.1.trans ht)⟩
theorem EnC.lt (E : EnC L h p n me rv gv m g) : p < h.blks.length := E.c.lt
theorem EnC.l0 (E : EnC L h p n me rv gv m g) : h.load1 p 0 = some (.int .i64 n) := by rw [E.c.load]; rfl
theorem EnC.l1 (E : EnC L h p n me rv gv m g) : h.load1 p 1 = some (.int .i64 me) := by rw [E.c.load]; rfl
theorem EnC.l3 (E : EnC L h p n me rv gv m g) : h.load1 p 3 = some rv := by rw [E.c.load]; rfl
theorem EnC.l4 (E : EnC L h p n me rv gv m g) : h.load1 p 4 = some gv := by rw [E.c.load]; rfl
theorem EnC.ldm (E : EnC L h p n me rv gv m g) : loadV Tryd.prog 89 (.pointer (some ⟨p, 2, none⟩)) h = some (matV n rv) := by
  rw [ldMo]
  have : h.loadN p 2 2 = some [.int .i64 n, rv] := by
    have c := E.c
    unfold Cells at c
    simp [Heap.loadN, Heap.cells?, c]
  rw [this]; rfl
structure EnOk (n me : Int) (m : List (List Nat)) (g : List Nat) : Prop where
  gd : goodM n m = true
  me0 : 0 ≤ me
  men : me < n
  gl : (g.length : Int) = n
  m64 : ∀ r ∈ m, ∀ y ∈ r, y < 2 ^ 64
  g64 : ∀ y ∈ g, y < 2 ^ 64
theorem spec_ENew (n me : Int) (h : Heap) : (∃ (q : Nat) (h' : Heap), evC Tryd.prog 10 #[.int .i64 n, .int .i64 me] h = some (.tuple #[if 1 ≤ n ∧ n ≤ 16 ∧ 0 ≤ me ∧ me < n then .pointer (some ⟨q, 0, none⟩) else .pointer none, .int .i64 (if 1 ≤ n ∧ n ≤ 16 ∧ 0 ≤ me ∧ me < n then 0 else 1)], h') ∧ HExt h h' ∧
    (1 ≤ n ∧ n ≤ 16 ∧ 0 ≤ me ∧ me < n → h.blks.length ≤ q ∧ En h.blks.length h' q n me (zerosM n.toNat) (List.replicate n.toNat 0))) := by
  rw [call10, c10_0_eq]
  obtain ⟨v, g1, e1,Ab, a1⟩ := spec_MNew n (nm h)
  have i1 : In h.blks.length No (nm h) g1 := Ab.inn (Nat.le_refl _)
  by_cases hn : 1 ≤ n ∧ n ≤ 16
  · rw [if_pos hn, if_pos hn] at e1
    rw [if_pos hn] at a1
    obtain ⟨va, vc, rfl⟩ := a1.shape
    have k2 := alM g1
    have k2' := mvar (h := g1) n va (zerosM n.toNat).length vc
    have c2 := mvar_cells g1 [.int .i64 0, .slice none 0 0] [.int .i64 n, .slice va (zerosM n.toNat).length vc] 89
    have s2 := mvar_same g1 (.cells [.int .i64 0, .slice none 0 0]) (.cells [.int .i64 n, .slice va (zerosM n.toNat).length vc]) 89
    have i2 := i1.trans (mvar_in (h := g1) i1.len (.cells [.int .i64 0, .slice none 0 0]) (.cells [.int .i64 n, .slice va (zerosM n.toNat).length vc]) 89)
    have l2 := i2.len
    generalize (g1.new (.cells [.int .i64 0, .slice none 0 0]) 89).put g1.blks.length (.cells [.int .i64 n, .slice va (zerosM n.toNat).length vc]) = g2 at *
    by_cases h0 : 0 ≤ me
    · by_cases h1 : me < n
      · simp only [if_pos (show 1 ≤ n ∧ n ≤ 16 ∧ 0 ≤ me ∧ me < n from ⟨hn.1, hn.2, h0, h1⟩)]
        obtain ⟨ua, uc, g3, e3,Ad, a3⟩ := spec_New n (nm g2)
        obtain ⟨Ad', m3⟩ := Ad.amx
        have hz : List.replicate (min (max n 0) 64).toNat 0 = List.replicate n.toNat 0 := by congr 1; omega
        rw [hz] at e3 a3
        have c5 := Cells.new (am g3 g2) 94 [.int .i64 n, .int .i64 me, .int .i64 n, .slice va (zerosM n.toNat).length vc, .slice ua (List.replicate n.toNat 0).length uc]
        have i5 := (i2.trans (Ad'.inn i2.len)).trans (In.new (i2.trans (Ad'.inn i2.len)).len (.cells [.int .i64 n, .int .i64 me, .int .i64 n, .slice va (zerosM n.toNat).length vc, .slice ua (List.replicate n.toNat 0).length uc]) 94)
        have am5 := ((a1.same s2).same Ad'.same).same (Same.new (am g3 g2) (.cells [.int .i64 n, .int .i64 me, .int .i64 n, .slice va (zerosM n.toNat).length vc, .slice ua (List.replicate n.toNat 0).length uc]) 94)
        have a3' : AU h.blks.length (am g3 g2) (.slice ua (List.replicate n.toNat 0).length uc) (List.replicate n.toNat 0) := (a3.keep (h' := am g3 g2) fun _ _ _ => rfl).up l2
        have au5 := a3'.same (Same.new (am g3 g2) (.cells [.int .i64 n, .int .i64 me, .int .i64 n, .slice va (zerosM n.toNat).length vc, .slice ua (List.replicate n.toNat 0).length uc]) 94)
        have l3 := Ad'.len
        have hl : ((am g3 g2).new (.cells [.int .i64 n, .int .i64 me, .int .i64 n, .slice va (zerosM n.toNat).length vc, .slice ua (List.replicate n.toNat 0).length uc]) 94).blks.length = (am g3 g2).blks.length + 1 := by simp [Heap.new]
        have hq : ¬ me ≥ n := by omega
        simp -implicitDefEqProofs (disch := omega) only [dcT, dcF, e1, k2, k2', ldM' c2, e3, bdE, bxFE, m3, List.append_nil, ↓ret10, ↓cnd_true, ↓cnd_false, ↓Option.bind_some, ↓obH_some', bin_add, bin_sub, bin_mul, bin_lss, bin_leq, bin_gtr, bin_geq, bin_eql, bin_neq, un_not, un_neg, Option.bind_some, Option.bind_none, Option.map_some, cnd_true, cnd_false, pickV_true, pickV_false, gd_true, gd_false, gdV_true, gdV_false, gdH_true, gdH_false, gdS_true, gdS_false, wt_ff, wt_tt, wt_ft, wt_tf, wt_undef, obH_some', extractV_tuple, nilCheckV_ptr, againK_normal, againK_exit, againK_ret, blockK_normal, blockK_same, blockK_ret, seqK_normal, seqK_exit, seqK_ret, fin_done, if_true', if_false', Bool.not_true, Bool.not_false, idx0, idx1, idx2, idx3, idx4, chk_nil_l, chk_nil_r, done_nm]
        exact ⟨_, _, rfl, done_ext' i5, fun _ => ⟨by have := l3; have : h.blks.length ≤ g2.blks.length := l2; omega,En.done ⟨_, _, ⟨c5, am5.up (Nat.le_refl _), au5⟩⟩⟩⟩
      · simp only [if_neg (show ¬ (1 ≤ n ∧ n ≤ 16 ∧ 0 ≤ me ∧ me < n) from fun x => h1 x.2.2.2)]
        simp -implicitDefEqProofs (disch := omega) only [dcT, dcF, e1, k2, k2', ↓ret10, ↓cnd_true, ↓cnd_false, ↓Option.bind_some, ↓obH_some', bin_add, bin_sub, bin_mul, bin_lss, bin_leq, bin_gtr, bin_geq, bin_eql, bin_neq, un_not, un_neg, Option.bind_some, Option.bind_none, Option.map_some, cnd_true, cnd_false, pickV_true, pickV_false, gd_true, gd_false, gdV_true, gdV_false, gdH_true, gdH_false, gdS_true, gdS_false, wt_ff, wt_tt, wt_ft, wt_tf, wt_undef, obH_some', extractV_tuple, nilCheckV_ptr, againK_normal, againK_exit, againK_ret, blockK_normal, blockK_same, blockK_ret, seqK_normal, seqK_exit, seqK_ret, fin_done, if_true', if_false', Bool.not_true, Bool.not_false, idx0, idx1, idx2, idx3, idx4, chk_nil_l, chk_nil_r, done_nm]
        exact ⟨0, _, rfl, done_ext' i2, fun x => absurd x.2.2.2 h1⟩
    · simp only [if_neg (show ¬ (1 ≤ n ∧ n ≤ 16 ∧ 0 ≤ me ∧ me < n) from fun x => h0 x.2.2.1)]
      simp -implicitDefEqProofs (disch := omega) only [dcT, dcF, e1, k2, k2', ↓ret10, ↓cnd_true, ↓cnd_false, ↓Option.bind_some, ↓obH_some', bin_add, bin_sub, bin_mul, bin_lss, bin_leq, bin_gtr, bin_geq, bin_eql, bin_neq, un_not, un_neg, Option.bind_some, Option.bind_none, Option.map_some, cnd_true, cnd_false, pickV_true, pickV_false, gd_true, gd_false, gdV_true, gdV_false, gdH_true, gdH_false, gdS_true, gdS_false, wt_ff, wt_tt, wt_ft, wt_tf, wt_undef, obH_some', extractV_tuple, nilCheckV_ptr, againK_normal, againK_exit, againK_ret, blockK_normal, blockK_same, blockK_ret, seqK_normal, seqK_exit, seqK_ret, fin_done, if_true', if_false', Bool.not_true, Bool.not_false, idx0, idx1, idx2, idx3, idx4, chk_nil_l, chk_nil_r, done_nm]
      exact ⟨0, _, rfl, done_ext' i2, fun x => absurd x.2.2.1 h0⟩
  · rw [if_neg hn, if_neg hn] at e1
    rw [if_neg hn] at a1
    obtain ⟨va, vc, rfl⟩ := a1.shape
    have k2 := alM g1
    have k2' := mvar (h := g1) 0 va ([] : List (List Nat)).length vc
    have i2 := i1.trans (mvar_in (h := g1) i1.len (.cells [.int .i64 0, .slice none 0 0]) (.cells [.int .i64 0, .slice va ([] : List (List Nat)).length vc]) 89)
    simp only [if_neg (show ¬ (1 ≤ n ∧ n ≤ 16 ∧ 0 ≤ me ∧ me < n) from fun x => hn ⟨x.1, x.2.1⟩)]
    simp -implicitDefEqProofs (disch := omega) only [dcT, dcF, e1, k2, k2', ↓ret10, ↓cnd_true, ↓cnd_false, ↓Option.bind_some, ↓obH_some', bin_add, bin_sub, bin_mul, bin_lss, bin_leq, bin_gtr, bin_geq, bin_eql, bin_neq, un_not, un_neg, Option.bind_some, Option.bind_none, Option.map_some, cnd_true, cnd_false, pickV_true, pickV_false, gd_true, gd_false, gdV_true, gdV_false, gdH_true, gdH_false, gdS_true, gdS_false, wt_ff, wt_tt, wt_ft, wt_tf, wt_undef, obH_some', extractV_tuple, nilCheckV_ptr, againK_normal, againK_exit, againK_ret, blockK_normal, blockK_same, blockK_ret, seqK_normal, seqK_exit, seqK_ret, fin_done, if_true', if_false', Bool.not_true, Bool.not_false, idx0, idx1, idx2, idx3, idx4, chk_nil_l, chk_nil_r, done_nm]
    exact ⟨0, _, rfl, done_ext' i2, fun x => absurd ⟨x.1, x.2.1⟩ hn⟩
end Go.Am
