/- What the functions answer, in the machine. -/
import Derived.Test.YtckmbpfimofhdaaKD
set_option linter.all false
namespace Go.Am.Z
open Go.Proofs
set_option maxRecDepth 100000
set_option linter.all false
attribute [local instance] xt0 gl0
attribute [local instance] xm0 xo0
attribute [local congr] obind_congr obH_congr cnd_congr chk_congr retK_congr codeK_congr
def NR (h : Heap) (p : Nat) (l : List Nat) : Prop := Cells h p 30 (l.map natV)
abbrev sv (p n c : Nat) : Value := .slice (some ⟨p, 0, none⟩) n c
theorem retN (f : Func) (g : Heap) (s : St) : retK f Try.prog g .normal s = retK f Try.prog g .ret s := (id rfl)
theorem wa (i : Nat) (h : i < 2 ^ 40) : IntKind.i64.wrap ((i : Int) + 1) = ((i + 1 : Nat) : Int) := by rw [wrap_i64] <;> omega
theorem ws (i : Nat) (h : i < 2 ^ 40) (h1 : 1 ≤ i) : IntKind.i64.wrap ((i : Int) - 1) = ((i - 1 : Nat) : Int) := by rw [wrap_i64] <;> omega
theorem wd (i j : Nat) (h : i < 2 ^ 40) (h1 : j ≤ i) : IntKind.i64.wrap ((i : Int) - j) = ((i - j : Nat) : Int) := by rw [wrap_i64] <;> omega
theorem iaS (p n c i : Nat) (h : i < n) : indexAddrV Try.prog 32 (sv p n c) (.int .i64 i) = some (.pointer (some ⟨p, i, none⟩)) := by
  have hu : Try.prog.underlying 32 = some (.slice 30) := by kernel_rfl
  have hz : sizeT Try.prog 30 = some 1 := by kernel_rfl
  unfold indexAddrV
  simp only [hu, natOf_int, hz, if_pos h, Nat.zero_add, Nat.mul_one]
theorem NR.at {h : Heap} {p : Nat} {l : List Nat} (c : NR h p l) {i : Nat} (hi : i < l.length) : h.load1 p i = some (.int .u64 (gt0 l i : Nat)) := by
  rw [Cells.load c, List.getElem?_map, List.getElem?_eq_getElem hi, gt0_of hi]; rfl
theorem NR.set {h : Heap} {p : Nat} {l : List Nat} (c : NR h p l) {i : Nat} (hi : i < l.length) (v : Nat) : h.storeN p i [.int .u64 v] = some (h.put p (.cells ((l.set i v).map natV))) := by
  rw [storeN_blk c (by simp; omega), List.map_set]
  congr 3
  rw [List.set_eq_take_append_cons_drop, if_pos (by simpa using hi)]
  simp [natV]
theorem NR.put {h : Heap} {p : Nat} {l : List Nat} (c : NR h p l) (m : List Nat) : NR (h.put p (.cells (m.map natV))) p m := Cells.put c _
theorem NR.nm {h : Heap} {p : Nat} {l : List Nat} (c : NR h p l) : NR (nm h) p l := c
theorem NR.done {h0 h : Heap} {p : Nat} {l : List Nat} (c : NR h p l) : NR (done h0 h) p l := c
theorem NR.ext {h h' : Heap} {p : Nat} {l : List Nat} (c : NR h p l) (e : HExt h h') : NR h' p l := Cells.ext c e
theorem NR.swap {n0 : Nat} {h : Heap} {p : Nat} {l : List Nat} (hn : n0 ≤ h.blks.length) (c : NR h p l) {i j : Nat} (hi : i < l.length) (hj : j < l.length) :
    ∃ h1 h2, h.storeN p i [.int .u64 (gt0 l j : Nat)] = some h1 ∧ h1.storeN p j [.int .u64 (gt0 l i : Nat)] = some h2 ∧ NR h2 p (swp l i j) ∧ In n0 (Just p) h h2 := by
  refine ⟨h.put p (.cells ((l.set i (gt0 l j)).map natV)), (h.put p (.cells ((l.set i (gt0 l j)).map natV))).put p (.cells ((swp l i j).map natV)), c.set hi _, (c.put _).set (by rw [List.length_set]; exact hj) _, (c.put _).put _, ?_⟩
  have e1 : In n0 (Just p) h (h.put p (.cells ((l.set i (gt0 l j)).map natV))) := In.put hn (.inr (show Just p p from rfl)) _
  exact e1.trans (In.put (by rw [Heap.put_len]; exact hn) (.inr (show Just p p from rfl)) _)
theorem spec_isNaN (a : Int) (h : Heap) : evC Try.prog 40 #[.int .u64 a] h = some (.bool false, h) := by
  rw [call40]
  simp -implicitDefEqProofs only [↓c40_0_eq, eq_self, ne_eq, not_true_eq_false, decide_false, ↓ret40, ↓cnd_true, ↓cnd_false, ↓Option.bind_some, ↓obH_some', bin_add, bin_sub, bin_mul, bin_lss, bin_leq, bin_gtr, bin_geq, bin_eql, bin_neq, un_not, un_neg, Option.bind_some, Option.bind_none, Option.map_some, cnd_true, cnd_false, pickV_true, pickV_false, gd_true, gd_false, gdV_true, gdV_false, gdH_true, gdH_false, gdS_true, gdS_false, wt_ff, wt_tt, wt_ft, wt_tf, wt_undef, obH_some', extractV_tuple, nilCheckV_ptr, againK_normal, againK_exit, againK_ret, blockK_normal, blockK_same, blockK_ret, seqK_normal, seqK_exit, seqK_ret, fin_done, if_true', if_false', Bool.not_true, Bool.not_false, idx0, idx1, idx2, idx3, idx4, chk_nil_l, chk_nil_r, done_nm, up_cons, up_nil, cond_true, cond_false, Nat.reduceBEq]
theorem spec_Less (a b : Nat) (h : Heap) : evC Try.prog 30 #[.int .u64 a, .int .u64 b] h = some (.bool (decide (a < b)), h) := by
  rw [call30]
  have e1 := fun h => spec_isNaN a h
  have e2 := fun h => spec_isNaN b h
  have e3 : decide ((a : Int) < b) = decide (a < b) := by simp
  simp -implicitDefEqProofs (disch := omega) only [↓c30_0_eq, e1, e2, e3, ↓ret30, ↓cnd_true, ↓cnd_false, ↓Option.bind_some, ↓obH_some', bin_add, bin_sub, bin_mul, bin_lss, bin_leq, bin_gtr, bin_geq, bin_eql, bin_neq, un_not, un_neg, Option.bind_some, Option.bind_none, Option.map_some, cnd_true, cnd_false, pickV_true, pickV_false, gd_true, gd_false, gdV_true, gdV_false, gdH_true, gdH_false, gdS_true, gdS_false, wt_ff, wt_tt, wt_ft, wt_tf, wt_undef, obH_some', extractV_tuple, nilCheckV_ptr, againK_normal, againK_exit, againK_ret, blockK_normal, blockK_same, blockK_ret, seqK_normal, seqK_exit, seqK_ret, fin_done, if_true', if_false', Bool.not_true, Bool.not_false, idx0, idx1, idx2, idx3, idx4, chk_nil_l, chk_nil_r, done_nm, up_cons, up_nil, cond_true, cond_false, Nat.reduceBEq]
section
variable {n0 p n c : Nat} {b : Nat}
theorem ins_in {β : Type} {Q : Option β → Prop} {a i : Nat} {l : List Nat} {g : Heap} {k : Ex → St → Option β} (hn : n < 2 ^ 40) (hin : i < n) :
    ∀ (j : Nat), a ≤ j → j ≤ i → ∀ (x : Nat → Value) (h : Heap) (m : List Nat),In n0 (Just p) g h → n0 ≤ h.blks.length → NR h p m → m.length = n → InsQ a i j m → Sw a (i + 1) l m →
    x 0 = sv p n c → x 1 = .int .i64 a → x 2 = .int .i64 b → x 6 = .int .i64 i → x 7 = .int .i64 j →
    (∀ (x' : Nat → Value) (h' : Heap) (m' : List Nat),In n0 (Just p) g h' → n0 ≤ h'.blks.length → NR h' p m' → m'.length = n → Srt a (i + 1) m' → Sw a (i + 1) l m' → x' 0 = sv p n c → x' 1 = .int .i64 a → x' 2 = .int .i64 b → x' 6 = .int .i64 i → Q (k .normal ⟨ar 49 x', h'⟩)) →
    Q (lK c24_2 49 x h (blockK 2 k)) := by
  intro j
  induction j with
  | zero =>
    intro ha hj x h m hin' h0 hm hl q s Aa Ab Ac Ag Ah hk
    rw [lK_eq]
    have e := fun x' y0 y1 y2 y6 => hk x' h m hin' h0 hm hl (q.stop (.inl (by omega))) s y0 y1 y2 y6
    simp -implicitDefEqProofs (disch := omega) only [↓c24_2_eq,Aa,Ab,Ah, dcF, ↓cnd_true, ↓cnd_false, ↓Option.bind_some, ↓obH_some', bin_add, bin_sub, bin_mul, bin_lss, bin_leq, bin_gtr, bin_geq, bin_eql, bin_neq, un_not, un_neg, Option.bind_some, Option.bind_none, Option.map_some, cnd_true, cnd_false, pickV_true, pickV_false, gd_true, gd_false, gdV_true, gdV_false, gdH_true, gdH_false, gdS_true, gdS_false, wt_ff, wt_tt, wt_ft, wt_tf, wt_undef, obH_some', extractV_tuple, nilCheckV_ptr, againK_normal, againK_exit, againK_ret, blockK_normal, blockK_same, blockK_ret, seqK_normal, seqK_exit, seqK_ret, fin_done, if_true', if_false', Bool.not_true, Bool.not_false, idx0, idx1, idx2, idx3, idx4, chk_nil_l, chk_nil_r, done_nm, up_cons, up_nil, cond_true, cond_false, Nat.reduceBEq]
    exact e _ Aa Ab Ac Ag
  | succ j ih =>
    intro ha hj x h m hin' h0 hm hl q s Aa Ab Ac Ag Ah hk
    rw [lK_eq]
    by_cases h1 : a < j + 1
    · have d1 : ((j + 1 : Nat) : Int) > (a : Int) := by omega
      have i1 := iaS p n c (j + 1) (by omega)
      have i2 := iaS p n c j (by omega)
      have w1 : IntKind.i64.wrap (((j + 1 : Nat) : Int) - 1) = (j : Int) := by rw [wrap_i64] <;> omega
      have l1 := hm.at (i := j + 1) (by omega)
      have l2 := hm.at (i := j) (by omega)
      have e1 := fun h => spec_Less (gt0 m (j + 1)) (gt0 m j) h
      by_cases h2 : gt0 m (j + 1) < gt0 m j
      · obtain ⟨ha1, ha2, s1, s2, hm2, hin2⟩ := hm.swap (n0 := n0) h0 (i := j + 1) (j := j) (by omega) (by omega)
        simp -implicitDefEqProofs (disch := omega) only [↓c24_2_eq,Aa,Ab,Ah, d1, i1, i2, w1, vld64, vst64, l1, l2, e1, h2, s1, s2, decide_true, ↓cnd_true, ↓cnd_false, ↓Option.bind_some, ↓obH_some', bin_add, bin_sub, bin_mul, bin_lss, bin_leq, bin_gtr, bin_geq, bin_eql, bin_neq, un_not, un_neg, Option.bind_some, Option.bind_none, Option.map_some, cnd_true, cnd_false, pickV_true, pickV_false, gd_true, gd_false, gdV_true, gdV_false, gdH_true, gdH_false, gdS_true, gdS_false, wt_ff, wt_tt, wt_ft, wt_tf, wt_undef, obH_some', extractV_tuple, nilCheckV_ptr, againK_normal, againK_exit, againK_ret, blockK_normal, blockK_same, blockK_ret, seqK_normal, seqK_exit, seqK_ret, fin_done, if_true', if_false', Bool.not_true, Bool.not_false, idx0, idx1, idx2, idx3, idx4, chk_nil_l, chk_nil_r, done_nm, up_cons, up_nil, cond_true, cond_false, Nat.reduceBEq]
        refine ih (by omega) (by omega) _ _ _ (hin'.trans hin2) (Nat.le_trans h0 hin2.len) hm2 (by rw [swp_len, hl]) (q.step h1 hj (by omega) h2) (.step s (by omega) (by omega) (by omega) (by omega) (by have := s.len; omega)) ?_ ?_ ?_ ?_ ?_ hk
        · exact Aa
        · exact Ab
        · exact Ac
        · exact Ag
        · rfl
      · have e := fun x' y0 y1 y2 y6 => hk x' h m hin' h0 hm hl (q.stop (.inr (by simpa using h2))) s y0 y1 y2 y6
        simp -implicitDefEqProofs (disch := omega) only [↓c24_2_eq,Aa,Ab,Ah, d1, i1, i2, w1, vld64, vst64, l1, l2, e1, h2, decide_true, decide_false, ↓cnd_true, ↓cnd_false, ↓Option.bind_some, ↓obH_some', bin_add, bin_sub, bin_mul, bin_lss, bin_leq, bin_gtr, bin_geq, bin_eql, bin_neq, un_not, un_neg, Option.bind_some, Option.bind_none, Option.map_some, cnd_true, cnd_false, pickV_true, pickV_false, gd_true, gd_false, gdV_true, gdV_false, gdH_true, gdH_false, gdS_true, gdS_false, wt_ff, wt_tt, wt_ft, wt_tf, wt_undef, obH_some', extractV_tuple, nilCheckV_ptr, againK_normal, againK_exit, againK_ret, blockK_normal, blockK_same, blockK_ret, seqK_normal, seqK_exit, seqK_ret, fin_done, if_true', if_false', Bool.not_true, Bool.not_false, idx0, idx1, idx2, idx3, idx4, chk_nil_l, chk_nil_r, done_nm, up_cons, up_nil, cond_true, cond_false, Nat.reduceBEq]
        exact e _ Aa Ab Ac Ag
    · have e := fun x' y0 y1 y2 y6 => hk x' h m hin' h0 hm hl (q.stop (.inl (by omega))) s y0 y1 y2 y6
      have d1 : ¬ ((j + 1 : Nat) : Int) > (a : Int) := by omega
      simp -implicitDefEqProofs (disch := omega) only [↓c24_2_eq,Aa,Ab,Ah, d1, decide_false, ↓cnd_true, ↓cnd_false, ↓Option.bind_some, ↓obH_some', bin_add, bin_sub, bin_mul, bin_lss, bin_leq, bin_gtr, bin_geq, bin_eql, bin_neq, un_not, un_neg, Option.bind_some, Option.bind_none, Option.map_some, cnd_true, cnd_false, pickV_true, pickV_false, gd_true, gd_false, gdV_true, gdV_false, gdH_true, gdH_false, gdS_true, gdS_false, wt_ff, wt_tt, wt_ft, wt_tf, wt_undef, obH_some', extractV_tuple, nilCheckV_ptr, againK_normal, againK_exit, againK_ret, blockK_normal, blockK_same, blockK_ret, seqK_normal, seqK_exit, seqK_ret, fin_done, if_true', if_false', Bool.not_true, Bool.not_false, idx0, idx1, idx2, idx3, idx4, chk_nil_l, chk_nil_r, done_nm, up_cons, up_nil, cond_true, cond_false, Nat.reduceBEq]
      exact e _ Aa Ab Ac Ag
theorem ins_out {a : Nat} {l : List Nat} {g : Heap} (hn : n < 2 ^ 40) (hb : b ≤ n) (hp : p < g.blks.length) :
    ∀ (d i : Nat), b - i = d → a ≤ i → ∀ (x : Nat → Value) (h : Heap) (m : List Nat),In g.blks.length (Just p) (nm g) h → NR h p m → m.length = n → l.length = n → Srt a i m → Sw a b l m →
    x 0 = sv p n c → x 1 = .int .i64 a → x 2 = .int .i64 b → x 6 = .int .i64 i →
    ∃ h' m', lK c24_1 49 x h (blockK 0 (retK Try.f24 Try.prog g)) = some (.tuple #[], h') ∧ HMod (Just p) g h' ∧ NR h' p m' ∧ Srt a b m' ∧ Sw a b l m' := by
  intro d
  induction d with
  | zero =>
    intro i e1 e2 x h m hin hm hl hl2 hs sw Aa Ab Ac Ag
    rw [lK_eq]
    have d1 : ¬ (i : Int) < b := by omega
    refine ⟨_, m, ?_, done_mod hin, hm.done, fun u v h1 h2 h3 => hs u v h1 h2 (by omega), sw⟩
    simp -implicitDefEqProofs (disch := omega) only [↓c24_1_eq,Aa,Ab,Ac,Ag, d1, decide_false, retN, ret24, ↓cnd_true, ↓cnd_false, ↓Option.bind_some, ↓obH_some', bin_add, bin_sub, bin_mul, bin_lss, bin_leq, bin_gtr, bin_geq, bin_eql, bin_neq, un_not, un_neg, Option.bind_some, Option.bind_none, Option.map_some, cnd_true, cnd_false, pickV_true, pickV_false, gd_true, gd_false, gdV_true, gdV_false, gdH_true, gdH_false, gdS_true, gdS_false, wt_ff, wt_tt, wt_ft, wt_tf, wt_undef, obH_some', extractV_tuple, nilCheckV_ptr, againK_normal, againK_exit, againK_ret, blockK_normal, blockK_same, blockK_ret, seqK_normal, seqK_exit, seqK_ret, fin_done, if_true', if_false', Bool.not_true, Bool.not_false, idx0, idx1, idx2, idx3, idx4, chk_nil_l, chk_nil_r, done_nm, up_cons, up_nil, cond_true, cond_false, Nat.reduceBEq]
  | succ d ih =>
    intro i e1 e2 x h m hin hm hl hl2 hs sw Aa Ab Ac Ag
    rw [lK_eq]
    have d1 : (i : Int) < b := by omega
    simp -implicitDefEqProofs (disch := omega) only [↓c24_1_eq,Aa,Ab,Ac,Ag, d1, decide_true, ↓cnd_true, ↓cnd_false, ↓Option.bind_some, ↓obH_some', bin_add, bin_sub, bin_mul, bin_lss, bin_leq, bin_gtr, bin_geq, bin_eql, bin_neq, un_not, un_neg, Option.bind_some, Option.bind_none, Option.map_some, cnd_true, cnd_false, pickV_true, pickV_false, gd_true, gd_false, gdV_true, gdV_false, gdH_true, gdH_false, gdS_true, gdS_false, wt_ff, wt_tt, wt_ft, wt_tf, wt_undef, obH_some', extractV_tuple, nilCheckV_ptr, againK_normal, againK_exit, againK_ret, blockK_normal, blockK_same, blockK_ret, seqK_normal, seqK_exit, seqK_ret, fin_done, if_true', if_false', Bool.not_true, Bool.not_false, idx0, idx1, idx2, idx3, idx4, chk_nil_l, chk_nil_r, done_nm, up_cons, up_nil, cond_true, cond_false, Nat.reduceBEq]
    refine ins_in (c := c) (b := b) (Q := fun o => ∃ h' m', o = some (Value.tuple #[], h') ∧ HMod (Just p) g h' ∧ NR h' p m' ∧ Srt a b m' ∧ Sw a b l m') (l := m) hn (by omega) i e2 (Nat.le_refl _) _ _ m hin (Nat.le_trans hin.le hin.len) hm hl (.start hs) (.refl _) ?_ ?_ ?_ ?_ ?_ ?_
    · exact Aa
    · exact Ab
    · exact Ac
    · exact Ag
    · rfl
    · intro x' h' m' hin' _ hm' hl' hs' sw' y0 y1 y2 y6
      have w1 := wa i (by omega)
      simp -implicitDefEqProofs (disch := omega) only [↓c24_3_eq, y0, y1, y2, y6, w1, ↓cnd_true, ↓cnd_false, ↓Option.bind_some, ↓obH_some', bin_add, bin_sub, bin_mul, bin_lss, bin_leq, bin_gtr, bin_geq, bin_eql, bin_neq, un_not, un_neg, Option.bind_some, Option.bind_none, Option.map_some, cnd_true, cnd_false, pickV_true, pickV_false, gd_true, gd_false, gdV_true, gdV_false, gdH_true, gdH_false, gdS_true, gdS_false, wt_ff, wt_tt, wt_ft, wt_tf, wt_undef, obH_some', extractV_tuple, nilCheckV_ptr, againK_normal, againK_exit, againK_ret, blockK_normal, blockK_same, blockK_ret, seqK_normal, seqK_exit, seqK_ret, fin_done, if_true', if_false', Bool.not_true, Bool.not_false, idx0, idx1, idx2, idx3, idx4, chk_nil_l, chk_nil_r, done_nm, up_cons, up_nil, cond_true, cond_false, Nat.reduceBEq]
      refine ih (i + 1) (by omega) (by omega) _ _ _ hin' hm' hl' hl2 hs' (sw.trans (sw'.wide (Nat.le_refl _) (by omega) (by omega))) ?_ ?_ ?_ ?_
      · exact y0
      · exact y1
      · exact y2
      · rfl
theorem spec_ins {h : Heap} {l : List Nat} (hm : NR h p l) (hl : l.length = n) (hn : n < 2 ^ 40) {a : Nat} (ha : a ≤ b) (hb : b ≤ n) :
    ∃ h' m, evC Try.prog 24 #[sv p n c, .int .i64 a, .int .i64 b] h = some (.tuple #[], h') ∧ HMod (Just p) h h' ∧ NR h' p m ∧ Srt a b m ∧ Sw a b l m := by
  rw [call24]
  have w1 := wa a (by omega)
  by_cases e : a + 1 ≤ b
  · have := ins_out (c := c) (l := l) (a := a) (g := h) hn hb (Cells.lt hm) (b - (a + 1)) (a + 1) rfl (by omega)
    simp -implicitDefEqProofs (disch := omega) only [↓c24_0_eq, w1, ↓cnd_true, ↓cnd_false, ↓Option.bind_some, ↓obH_some', bin_add, bin_sub, bin_mul, bin_lss, bin_leq, bin_gtr, bin_geq, bin_eql, bin_neq, un_not, un_neg, Option.bind_some, Option.bind_none, Option.map_some, cnd_true, cnd_false, pickV_true, pickV_false, gd_true, gd_false, gdV_true, gdV_false, gdH_true, gdH_false, gdS_true, gdS_false, wt_ff, wt_tt, wt_ft, wt_tf, wt_undef, obH_some', extractV_tuple, nilCheckV_ptr, againK_normal, againK_exit, againK_ret, blockK_normal, blockK_same, blockK_ret, seqK_normal, seqK_exit, seqK_ret, fin_done, if_true', if_false', Bool.not_true, Bool.not_false, idx0, idx1, idx2, idx3, idx4, chk_nil_l, chk_nil_r, done_nm, up_cons, up_nil, cond_true, cond_false, Nat.reduceBEq]
    refine this _ (Am.nm h) l (In.refl (Nat.le_refl h.blks.length)) hm.nm hl hl (.nil (by omega)) (.refl _) ?_ ?_ ?_ ?_ <;> rfl
  · simp -implicitDefEqProofs (disch := omega) only [↓c24_0_eq, w1, ↓cnd_true, ↓cnd_false, ↓Option.bind_some, ↓obH_some', bin_add, bin_sub, bin_mul, bin_lss, bin_leq, bin_gtr, bin_geq, bin_eql, bin_neq, un_not, un_neg, Option.bind_some, Option.bind_none, Option.map_some, cnd_true, cnd_false, pickV_true, pickV_false, gd_true, gd_false, gdV_true, gdV_false, gdH_true, gdH_false, gdS_true, gdS_false, wt_ff, wt_tt, wt_ft, wt_tf, wt_undef, obH_some', extractV_tuple, nilCheckV_ptr, againK_normal, againK_exit, againK_ret, blockK_normal, blockK_same, blockK_ret, seqK_normal, seqK_exit, seqK_ret, fin_done, if_true', if_false', Bool.not_true, Bool.not_false, idx0, idx1, idx2, idx3, idx4, chk_nil_l, chk_nil_r, done_nm, up_cons, up_nil, cond_true, cond_false, Nat.reduceBEq]
    rw [lK_eq]
    have d1 : ¬ ((a + 1 : Nat) : Int) < b := by omega
    refine ⟨_, l, ?_, done_mod (In.refl (Nat.le_refl h.blks.length)), hm.nm.done, .nil (by omega), .refl _⟩
    simp -implicitDefEqProofs (disch := omega) only [↓c24_1_eq, d1, decide_false, retN, ret24, ↓cnd_true, ↓cnd_false, ↓Option.bind_some, ↓obH_some', bin_add, bin_sub, bin_mul, bin_lss, bin_leq, bin_gtr, bin_geq, bin_eql, bin_neq, un_not, un_neg, Option.bind_some, Option.bind_none, Option.map_some, cnd_true, cnd_false, pickV_true, pickV_false, gd_true, gd_false, gdV_true, gdV_false, gdH_true, gdH_false, gdS_true, gdS_false, wt_ff, wt_tt, wt_ft, wt_tf, wt_undef, obH_some', extractV_tuple, nilCheckV_ptr, againK_normal, againK_exit, againK_ret, blockK_normal, blockK_same, blockK_ret, seqK_normal, seqK_exit, seqK_ret, fin_done, if_true', if_false', Bool.not_true, Bool.not_false, idx0, idx1, idx2, idx3, idx4, chk_nil_l, chk_nil_r, done_nm, up_cons, up_nil, cond_true, cond_false, Nat.reduceBEq]
theorem pin_loop {β : Type} {Q : Option β → Prop} {a : Nat} {l : List Nat} {k : Ex → St → Option β} {h : Heap} (hn : n < 2 ^ 40) (hb : b ≤ n) (hm : NR h p l) (hl : l.length = n) :
    ∀ (d i : Nat), b - i = d → a < i → i ≤ b → Srt a i l → ∀ (x : Nat → Value), x 0 = sv p n c → x 1 = .int .i64 a → x 2 = .int .i64 b → x 7 = .int .i64 i →
    (∀ (x' : Nat → Value) (i : Nat), a < i → i ≤ b → Srt a i l → x' 0 = sv p n c → x' 1 = .int .i64 a → x' 2 = .int .i64 b → x' 7 = .int .i64 i → Q (k .normal ⟨ar 133 x', h⟩)) →
    Q (lK c29_3 133 x h (blockK 2 k)) := by
  intro d
  induction d with
  | zero =>
    intro i e1 e2 e3 hs x Aa Ab Ac Ah hk
    rw [lK_eq]
    have e := fun x' y0 y1 y2 y7 => hk x' i e2 e3 hs y0 y1 y2 y7
    have d1 : ¬ (i : Int) < b := by omega
    simp -implicitDefEqProofs (disch := omega) only [↓c29_3_eq,Aa,Ab,Ac,Ah, d1, decide_false, ↓cnd_true, ↓cnd_false, ↓Option.bind_some, ↓obH_some', bin_add, bin_sub, bin_mul, bin_lss, bin_leq, bin_gtr, bin_geq, bin_eql, bin_neq, un_not, un_neg, Option.bind_some, Option.bind_none, Option.map_some, cnd_true, cnd_false, pickV_true, pickV_false, gd_true, gd_false, gdV_true, gdV_false, gdH_true, gdH_false, gdS_true, gdS_false, wt_ff, wt_tt, wt_ft, wt_tf, wt_undef, obH_some', extractV_tuple, nilCheckV_ptr, againK_normal, againK_exit, againK_ret, blockK_normal, blockK_same, blockK_ret, seqK_normal, seqK_exit, seqK_ret, fin_done, if_true', if_false', Bool.not_true, Bool.not_false, idx0, idx1, idx2, idx3, idx4, chk_nil_l, chk_nil_r, done_nm, up_cons, up_nil, cond_true, cond_false, Nat.reduceBEq]
    exact e _ Aa Ab Ac Ah
  | succ d ih =>
    intro i e1 e2 e3 hs x Aa Ab Ac Ah hk
    rw [lK_eq]
    have d1 : (i : Int) < b := by omega
    have i1 := iaS p n c i (by omega)
    have i2 := iaS p n c (i - 1) (by omega)
    have w1 := ws i (by omega) (by omega)
    have w2 := wa i (by omega)
    have l1 := hm.at (i := i) (by omega)
    have l2 := hm.at (i := i - 1) (by omega)
    have e1' := fun h => spec_Less (gt0 l i) (gt0 l (i - 1)) h
    by_cases h2 : gt0 l i < gt0 l (i - 1)
    · have e := fun x' y0 y1 y2 y7 => hk x' i e2 e3 hs y0 y1 y2 y7
      simp -implicitDefEqProofs (disch := omega) only [↓c29_3_eq,Aa,Ab,Ac,Ah, d1, i1, i2, w1, vld64, l1, l2, e1', h2, decide_true, decide_false, ↓cnd_true, ↓cnd_false, ↓Option.bind_some, ↓obH_some', bin_add, bin_sub, bin_mul, bin_lss, bin_leq, bin_gtr, bin_geq, bin_eql, bin_neq, un_not, un_neg, Option.bind_some, Option.bind_none, Option.map_some, cnd_true, cnd_false, pickV_true, pickV_false, gd_true, gd_false, gdV_true, gdV_false, gdH_true, gdH_false, gdS_true, gdS_false, wt_ff, wt_tt, wt_ft, wt_tf, wt_undef, obH_some', extractV_tuple, nilCheckV_ptr, againK_normal, againK_exit, againK_ret, blockK_normal, blockK_same, blockK_ret, seqK_normal, seqK_exit, seqK_ret, fin_done, if_true', if_false', Bool.not_true, Bool.not_false, idx0, idx1, idx2, idx3, idx4, chk_nil_l, chk_nil_r, done_nm, up_cons, up_nil, cond_true, cond_false, Nat.reduceBEq]
      exact e _ Aa Ab Ac Ah
    · simp -implicitDefEqProofs (disch := omega) only [↓c29_3_eq,Aa,Ab,Ac,Ah, d1, i1, i2, w1, w2, vld64, l1, l2, e1', h2, decide_true, decide_false, ↓cnd_true, ↓cnd_false, ↓Option.bind_some, ↓obH_some', bin_add, bin_sub, bin_mul, bin_lss, bin_leq, bin_gtr, bin_geq, bin_eql, bin_neq, un_not, un_neg, Option.bind_some, Option.bind_none, Option.map_some, cnd_true, cnd_false, pickV_true, pickV_false, gd_true, gd_false, gdV_true, gdV_false, gdH_true, gdH_false, gdS_true, gdS_false, wt_ff, wt_tt, wt_ft, wt_tf, wt_undef, obH_some', extractV_tuple, nilCheckV_ptr, againK_normal, againK_exit, againK_ret, blockK_normal, blockK_same, blockK_ret, seqK_normal, seqK_exit, seqK_ret, fin_done, if_true', if_false', Bool.not_true, Bool.not_false, idx0, idx1, idx2, idx3, idx4, chk_nil_l, chk_nil_r, done_nm, up_cons, up_nil, cond_true, cond_false, Nat.reduceBEq]
      refine ih (i + 1) (by omega) (by omega) (by omega) (.of_adj fun u h1 h2' => ?_) _ ?_ ?_ ?_ ?_ hk
      · by_cases e : u = i
        · subst e; omega
        · exact hs (u - 1) u (by omega) (by omega) (by omega)
      · exact Aa
      · exact Ab
      · exact Ac
      · rfl
theorem spec_pin {h : Heap} {l : List Nat} (hm : NR h p l) (hl : l.length = n) (hn : n < 2 ^ 40) {a : Nat} (ha : a < b) (hb : b ≤ n) (hs : b - a < 50) :
    ∃ r, evC Try.prog 29 #[sv p n c, .int .i64 a, .int .i64 b] h = some (.bool r, h) ∧ (r = true → Srt a b l) := by
  rw [call29]
  have w1 := wa a (by omega)
  have w2 := wd b a (by omega) (by omega)
  have d5 : (0 : Int) < 5 := by omega
  simp -implicitDefEqProofs (disch := omega) only [↓c29_0_eq, w1, ↓cnd_true, ↓cnd_false, ↓Option.bind_some, ↓obH_some', bin_add, bin_sub, bin_mul, bin_lss, bin_leq, bin_gtr, bin_geq, bin_eql, bin_neq, un_not, un_neg, Option.bind_some, Option.bind_none, Option.map_some, cnd_true, cnd_false, pickV_true, pickV_false, gd_true, gd_false, gdV_true, gdV_false, gdH_true, gdH_false, gdS_true, gdS_false, wt_ff, wt_tt, wt_ft, wt_tf, wt_undef, obH_some', extractV_tuple, nilCheckV_ptr, againK_normal, againK_exit, againK_ret, blockK_normal, blockK_same, blockK_ret, seqK_normal, seqK_exit, seqK_ret, fin_done, if_true', if_false', Bool.not_true, Bool.not_false, idx0, idx1, idx2, idx3, idx4, chk_nil_l, chk_nil_r, done_nm, up_cons, up_nil, cond_true, cond_false, Nat.reduceBEq]
  rw [lK_eq]
  simp -implicitDefEqProofs (disch := omega) only [↓c29_1_eq, d5, decide_true, ↓cnd_true, ↓cnd_false, ↓Option.bind_some, ↓obH_some', bin_add, bin_sub, bin_mul, bin_lss, bin_leq, bin_gtr, bin_geq, bin_eql, bin_neq, un_not, un_neg, Option.bind_some, Option.bind_none, Option.map_some, cnd_true, cnd_false, pickV_true, pickV_false, gd_true, gd_false, gdV_true, gdV_false, gdH_true, gdH_false, gdS_true, gdS_false, wt_ff, wt_tt, wt_ft, wt_tf, wt_undef, obH_some', extractV_tuple, nilCheckV_ptr, againK_normal, againK_exit, againK_ret, blockK_normal, blockK_same, blockK_ret, seqK_normal, seqK_exit, seqK_ret, fin_done, if_true', if_false', Bool.not_true, Bool.not_false, idx0, idx1, idx2, idx3, idx4, chk_nil_l, chk_nil_r, done_nm, up_cons, up_nil, cond_true, cond_false, Nat.reduceBEq]
  refine pin_loop (a := a) (c := c) (b := b) (Q := fun o => ∃ r, o = some (Value.bool r, h) ∧ (r = true → Srt a b l)) hn hb hm.nm hl (b - (a + 1)) (a + 1) rfl (by omega) (by omega) (.nil (by omega)) _ ?_ ?_ ?_ ?_ ?_
  · rfl
  · rfl
  · rfl
  · rfl
  · intro x' i h1 h2 h3 y0 y1 y2 y7
    by_cases e : i = b
    · subst e
      refine ⟨true, ?_, fun _ => h3⟩
      simp -implicitDefEqProofs (disch := omega) only [↓c29_4_eq, y0, y1, y2, y7, decide_true, ↓ret29, ↓cnd_true, ↓cnd_false, ↓Option.bind_some, ↓obH_some', bin_add, bin_sub, bin_mul, bin_lss, bin_leq, bin_gtr, bin_geq, bin_eql, bin_neq, un_not, un_neg, Option.bind_some, Option.bind_none, Option.map_some, cnd_true, cnd_false, pickV_true, pickV_false, gd_true, gd_false, gdV_true, gdV_false, gdH_true, gdH_false, gdS_true, gdS_false, wt_ff, wt_tt, wt_ft, wt_tf, wt_undef, obH_some', extractV_tuple, nilCheckV_ptr, againK_normal, againK_exit, againK_ret, blockK_normal, blockK_same, blockK_ret, seqK_normal, seqK_exit, seqK_ret, fin_done, if_true', if_false', Bool.not_true, Bool.not_false, idx0, idx1, idx2, idx3, idx4, chk_nil_l, chk_nil_r, done_nm, up_cons, up_nil, cond_true, cond_false, Nat.reduceBEq]
    · have d1 : ¬ (i : Int) = b := by omega
      have d2 : ((b - a : Nat) : Int) < 50 := by omega
      refine ⟨false, ?_, fun h => by cases h⟩
      simp -implicitDefEqProofs (disch := omega) only [↓c29_4_eq, y0, y1, y2, y7, d1, d2, w2, decide_true, decide_false, ↓ret29, ↓cnd_true, ↓cnd_false, ↓Option.bind_some, ↓obH_some', bin_add, bin_sub, bin_mul, bin_lss, bin_leq, bin_gtr, bin_geq, bin_eql, bin_neq, un_not, un_neg, Option.bind_some, Option.bind_none, Option.map_some, cnd_true, cnd_false, pickV_true, pickV_false, gd_true, gd_false, gdV_true, gdV_false, gdH_true, gdH_false, gdS_true, gdS_false, wt_ff, wt_tt, wt_ft, wt_tf, wt_undef, obH_some', extractV_tuple, nilCheckV_ptr, againK_normal, againK_exit, againK_ret, blockK_normal, blockK_same, blockK_ret, seqK_normal, seqK_exit, seqK_ret, fin_done, if_true', if_false', Bool.not_true, Bool.not_false, idx0, idx1, idx2, idx3, idx4, chk_nil_l, chk_nil_r, done_nm, up_cons, up_nil, cond_true, cond_false, Nat.reduceBEq]
end
end Go.Am.Z
namespace Go.Am.Z
open Go.Proofs
set_option maxRecDepth 100000
set_option linter.all false
attribute [local instance] xt0 gl0
attribute [local instance] xm0 xo0
attribute [local congr] obind_congr obH_congr cnd_congr chk_congr retK_congr codeK_congr
section
variable {p n c : Nat}
theorem vldI (p o : Nat) (h : Heap) : loadV Try.prog 3 (.pointer (some ⟨p, o, none⟩)) h = h.load1 p o := by kernel_rfl
theorem vstI (p o : Nat) (k : IntKind) (n : Int) (h : Heap) : storeV Try.prog 3 (.pointer (some ⟨p, o, none⟩)) (.int k n) h = h.storeN p o [.int k n] := by kernel_rfl
theorem alI (h : Heap) : allocV Try.prog 3 h = some (.pointer (some ⟨h.blks.length, 0, none⟩), h.new (.cells [.int .i64 0]) 3) := by kernel_rfl
abbrev Bx (h : Heap) (q s : Nat) : Prop := Cells h q 3 [.int .i64 s]
theorem spec_order2 {h : Heap} {l : List Nat} {q s i j : Nat} (hm : NR h p l) (hl : l.length = n) (hq : Bx h q s) (hs : s < 2 ^ 40) (hi : i < n) (hj : j < n) :
    ∃ h' s', evC Try.prog 41 #[sv p n c, .int .i64 i, .int .i64 j, .pointer (some ⟨q, 0, none⟩)] h = some (.tuple #[.int .i64 (if gt0 l j < gt0 l i then j else i : Nat), .int .i64 (if gt0 l j < gt0 l i then i else j : Nat)], h') ∧
      HMod (Just q) h h' ∧ Bx h' q s' ∧ s' ≤ s + 1 := by
  rw [call41]
  have i1 := iaS p n c i hi
  have i2 := iaS p n c j hj
  have l1 := hm.nm.at (i := i) (by omega)
  have l2 := hm.nm.at (i := j) (by omega)
  have e1 := fun h => spec_Less (gt0 l j) (gt0 l i) h
  have w1 := wa s hs
  by_cases e : gt0 l j < gt0 l i
  · rw [if_pos e, if_pos e]
    have l3 : (nm h).load1 q 0 = some (.int .i64 s) := Cells.load (Cells.nm hq) 0
    have s1 : (nm h).storeN q 0 [.int .i64 ((s + 1 : Nat) : Int)] = some ((nm h).put q (.cells [.int .i64 ((s + 1 : Nat) : Int)])) := by
      rw [storeN_blk (Cells.nm hq) (by simp)]; rfl
    refine ⟨_, s + 1, ?_, done_mod (In.put (h := nm h) (Nat.le_refl h.blks.length) (.inr (show Just q q from rfl)) (.cells [.int .i64 ((s + 1 : Nat) : Int)])), Cells.done (Cells.put (Cells.nm hq) _), by omega⟩
    simp -implicitDefEqProofs (disch := omega) only [↓c41_0_eq, i1, i2, vld64, vldI, vstI, l1, l2, l3, s1, w1, e1, e, decide_true, ↓ret41, ↓cnd_true, ↓cnd_false, ↓Option.bind_some, ↓obH_some', bin_add, bin_sub, bin_mul, bin_lss, bin_leq, bin_gtr, bin_geq, bin_eql, bin_neq, un_not, un_neg, Option.bind_some, Option.bind_none, Option.map_some, cnd_true, cnd_false, pickV_true, pickV_false, gd_true, gd_false, gdV_true, gdV_false, gdH_true, gdH_false, gdS_true, gdS_false, wt_ff, wt_tt, wt_ft, wt_tf, wt_undef, obH_some', extractV_tuple, nilCheckV_ptr, againK_normal, againK_exit, againK_ret, blockK_normal, blockK_same, blockK_ret, seqK_normal, seqK_exit, seqK_ret, fin_done, if_true', if_false', Bool.not_true, Bool.not_false, idx0, idx1, idx2, idx3, idx4, chk_nil_l, chk_nil_r, done_nm, up_cons, up_nil, cond_true, cond_false, Nat.reduceBEq]
  · rw [if_neg e, if_neg e]
    refine ⟨h, s, ?_, (HExt.refl h).mod _, hq, by omega⟩
    simp -implicitDefEqProofs (disch := omega) only [↓c41_0_eq, i1, i2, vld64, l1, l2, e1, e, decide_false, ↓ret41, ↓cnd_true, ↓cnd_false, ↓Option.bind_some, ↓obH_some', bin_add, bin_sub, bin_mul, bin_lss, bin_leq, bin_gtr, bin_geq, bin_eql, bin_neq, un_not, un_neg, Option.bind_some, Option.bind_none, Option.map_some, cnd_true, cnd_false, pickV_true, pickV_false, gd_true, gd_false, gdV_true, gdV_false, gdH_true, gdH_false, gdS_true, gdS_false, wt_ff, wt_tt, wt_ft, wt_tf, wt_undef, obH_some', extractV_tuple, nilCheckV_ptr, againK_normal, againK_exit, againK_ret, blockK_normal, blockK_same, blockK_ret, seqK_normal, seqK_exit, seqK_ret, fin_done, if_true', if_false', Bool.not_true, Bool.not_false, idx0, idx1, idx2, idx3, idx4, chk_nil_l, chk_nil_r, done_nm, up_cons, up_nil, cond_true, cond_false, Nat.reduceBEq]
theorem spec_median {h : Heap} {l : List Nat} {q s i j k : Nat} (hm : NR h p l) (hl : l.length = n) (hq : Bx h q s) (hpq : p ≠ q) (hs : s < 2 ^ 20) (hi : i < n) (hj : j < n) (hk : k < n) (h1 : i ≠ j) (h2 : j ≠ k) (h3 : i ≠ k) :
    ∃ h' s' r lo hi', evC Try.prog 39 #[sv p n c, .int .i64 i, .int .i64 j, .int .i64 k, .pointer (some ⟨q, 0, none⟩)] h = some (.int .i64 (r : Nat), h') ∧
      HMod (Just q) h h' ∧ Bx h' q s' ∧ s' ≤ s + 3 ∧ (r = i ∨ r = j ∨ r = k) ∧ (lo = i ∨ lo = j ∨ lo = k) ∧ (hi' = i ∨ hi' = j ∨ hi' = k) ∧ lo ≠ r ∧ hi' ≠ r ∧ gt0 l lo ≤ gt0 l r ∧ gt0 l r ≤ gt0 l hi' := by
  rw [call39]
  obtain ⟨ha, s1, e1, m1, b1, le1⟩ := spec_order2 (c := c) (n := n) hm.nm hl (Cells.nm hq) (by omega) hi hj
  have hm1 : NR ha p l := Cells.mod hm.nm m1 hpq
  generalize hx : (if gt0 l j < gt0 l i then j else i) = x at e1
  generalize hy : (if gt0 l j < gt0 l i then i else j) = y at e1
  have hxn : x < n := by rw [← hx]; split <;> omega
  have hyn : y < n := by rw [← hy]; split <;> omega
  obtain ⟨hb, s2, e2, m2, b2, le2⟩ := spec_order2 (c := c) (n := n) hm1 hl b1 (by omega) hyn hk
  have hm2 : NR hb p l := Cells.mod hm1 m2 hpq
  generalize hy' : (if gt0 l k < gt0 l y then k else y) = y' at e2
  generalize hz : (if gt0 l k < gt0 l y then y else k) = z at e2
  have hyn' : y' < n := by rw [← hy']; split <;> omega
  obtain ⟨hc, s3, e3, m3, b3, le3⟩ := spec_order2 (c := c) (n := n) hm2 hl b2 (by omega) hxn hyn'
  generalize hx' : (if gt0 l y' < gt0 l x then y' else x) = x' at e3
  generalize hy2 : (if gt0 l y' < gt0 l x then x else y') = y2 at e3
  have k1 : In h.blks.length (Just q) (nm h) hc := ((m1.inn (Nat.le_refl h.blks.length) (fun _ _ x => x)).trans (m2.inn m1.len (fun _ _ x => x))).trans (m3.inn (Nat.le_trans m1.len m2.len) (fun _ _ x => x))
  have key : (y2 = i ∨ y2 = j ∨ y2 = k) ∧ (x' = i ∨ x' = j ∨ x' = k) ∧ (z = i ∨ z = j ∨ z = k) ∧ x' ≠ y2 ∧ z ≠ y2 ∧ gt0 l x' ≤ gt0 l y2 ∧ gt0 l y2 ≤ gt0 l z := by
    clear e1 e2 e3 m1 m2 m3 b1 b2 b3 k1 hm1 hm2
    by_cases c1 : gt0 l j < gt0 l i
    · rw [if_pos c1] at hx hy
      subst hx hy
      by_cases c2 : gt0 l k < gt0 l i
      · rw [if_pos c2] at hy' hz
        subst hy' hz
        by_cases c3 : gt0 l k < gt0 l j
        · rw [if_pos c3] at hx' hy2
          subst hx' hy2
          simp only [true_or, or_true, true_and]; omega
        · rw [if_neg c3] at hx' hy2
          subst hx' hy2
          simp only [true_or, or_true, true_and]; omega
      · rw [if_neg c2] at hy' hz
        subst hy' hz
        rw [if_neg (by omega)] at hx' hy2
        subst hx' hy2
        simp only [true_or, or_true, true_and]; omega
    · rw [if_neg c1] at hx hy
      subst hx hy
      by_cases c2 : gt0 l k < gt0 l j
      · rw [if_pos c2] at hy' hz
        subst hy' hz
        by_cases c3 : gt0 l k < gt0 l i
        · rw [if_pos c3] at hx' hy2
          subst hx' hy2
          simp only [true_or, or_true, true_and]; omega
        · rw [if_neg c3] at hx' hy2
          subst hx' hy2
          simp only [true_or, or_true, true_and]; omega
      · rw [if_neg c2] at hy' hz
        subst hy' hz
        rw [if_neg (by omega)] at hx' hy2
        subst hx' hy2
        simp only [true_or, or_true, true_and]; omega
  refine ⟨done h hc, s3, y2, x', z, ?_, done_mod k1, Cells.done b3, by omega, key⟩
  simp -implicitDefEqProofs (disch := omega) only [↓c39_0_eq, e1, e2, e3, am_nm, nm_mods, List.nil_append, List.append_nil, ↓ret39, ↓cnd_true, ↓cnd_false, ↓Option.bind_some, ↓obH_some', bin_add, bin_sub, bin_mul, bin_lss, bin_leq, bin_gtr, bin_geq, bin_eql, bin_neq, un_not, un_neg, Option.bind_some, Option.bind_none, Option.map_some, cnd_true, cnd_false, pickV_true, pickV_false, gd_true, gd_false, gdV_true, gdV_false, gdH_true, gdH_false, gdS_true, gdS_false, wt_ff, wt_tt, wt_ft, wt_tf, wt_undef, obH_some', extractV_tuple, nilCheckV_ptr, againK_normal, againK_exit, againK_ret, blockK_normal, blockK_same, blockK_ret, seqK_normal, seqK_exit, seqK_ret, fin_done, if_true', if_false', Bool.not_true, Bool.not_false, idx0, idx1, idx2, idx3, idx4, chk_nil_l, chk_nil_r, done_nm, up_cons, up_nil, cond_true, cond_false, Nat.reduceBEq]
theorem q4 (k : Nat) (h1 : 13 ≤ k) (h2 : k ≤ 15) : binV Try.prog .quo 3 (.tmp 0) (.tmp 0) (.int .i64 k) (.int .i64 4) = some (.int .i64 3) := by
  obtain rfl | rfl | rfl : k = 13 ∨ k = 14 ∨ k = 15 := by omega
  all_goals kernel_rfl
theorem q8 (k : Nat) (h1 : 13 ≤ k) (h2 : k ≤ 15) : binV Try.prog .quo 3 (.tmp 0) (.tmp 0) (.int .i64 k) (.int .i64 8) = some (.int .i64 1) := by
  obtain rfl | rfl | rfl : k = 13 ∨ k = 14 ∨ k = 15 := by omega
  all_goals kernel_rfl
theorem spec_pivot {h : Heap} {l : List Nat} (hm : NR h p l) (hl : l.length = n) (hn : n < 2 ^ 20) {a b : Nat} (h1 : a + 13 ≤ b) (h2 : b ≤ a + 15) (hb : b ≤ n) :
    ∃ (h' : Heap) (r lo hi' : Nat) (t : Int), evC Try.prog 27 #[sv p n c, .int .i64 a, .int .i64 b] h = some (.tuple #[.int .i64 (r : Nat), .int .i64 t], h') ∧
      HExt h h' ∧ (t = 0 ∨ t = 1) ∧ a ≤ r ∧ r < b ∧ a ≤ lo ∧ lo < b ∧ a ≤ hi' ∧ hi' < b ∧ lo ≠ r ∧ hi' ≠ r ∧ gt0 l lo ≤ gt0 l r ∧ gt0 l r ≤ gt0 l hi' := by
  rw [call27]
  have w0 := wd b a (by omega) (by omega)
  have u1 := q4 (b - a) (by omega) (by omega)
  have w1 : IntKind.i64.wrap (3 * 1) = 3 := rfl
  have w2 : IntKind.i64.wrap (3 * 2) = 6 := rfl
  have w3 : IntKind.i64.wrap (3 * 3) = 9 := rfl
  have v1 : IntKind.i64.wrap ((a : Int) + 3) = ((a + 3 : Nat) : Int) := by rw [wrap_i64] <;> omega
  have v2 : IntKind.i64.wrap ((a : Int) + 6) = ((a + 6 : Nat) : Int) := by rw [wrap_i64] <;> omega
  have v3 : IntKind.i64.wrap ((a : Int) + 9) = ((a + 9 : Nat) : Int) := by rw [wrap_i64] <;> omega
  have d1 : ((b - a : Nat) : Int) ≥ 8 := by omega
  have d2 : ¬ ((b - a : Nat) : Int) ≥ 50 := by omega
  have hp := Cells.lt hm
  have q0 : Bx ((nm h).new (.cells [.int .i64 0]) 3) (nm h).blks.length 0 := Cells.new _ _ _
  have hne : p ≠ (nm h).blks.length := by simp; omega
  have k0 : In h.blks.length No (nm h) ((nm h).new (.cells [.int .i64 0]) 3) := In.new (h := nm h) (Nat.le_refl h.blks.length) _ _
  obtain ⟨h', s', r, lo, hi', e1, m1, b1, le1, r1, r2, r3, r4, r5, r6, r7⟩ := spec_median (c := c) (n := n) (q := (nm h).blks.length) (s := 0) (Cells.keepNew hm.nm _ _) hl q0 hne (by omega) (i := a + 3) (j := a + 6) (k := a + 9) (by omega) (by omega) (by omega) (by omega) (by omega) (by omega)
  have k1 : In h.blks.length No (nm h) h' := k0.trans (m1.inn k0.len (fun q hq (hh : q = _) => absurd hq (by subst hh; simp)))
  have ls : h'.load1 (nm h).blks.length 0 = some (.int .i64 s') := Cells.load b1 0
  have a1 := alI (nm h)
  generalize hg : (nm h).new (.cells [.int .i64 0]) 3 = g at *
  generalize hq : (nm h).blks.length = q at *
  by_cases hz : s' = 0
  · have d3 : ((s' : Nat) : Int) = 0 := by omega
    refine ⟨done h h', r, lo, hi', 1, ?_, done_ext' k1, .inr rfl, by omega, by omega, by omega, by omega, by omega, by omega, r4, r5, r6, r7⟩
    simp -implicitDefEqProofs (disch := omega) only [↓c27_0_eq, w0, u1, w1, w2, w3, v1, v2, v3, d1, d2, a1, e1, vldI, ls, d3, am_nm, nm_mods, List.nil_append, List.append_nil, decide_true, decide_false, ↓ret27, ↓cnd_true, ↓cnd_false, ↓Option.bind_some, ↓obH_some', bin_add, bin_sub, bin_mul, bin_lss, bin_leq, bin_gtr, bin_geq, bin_eql, bin_neq, un_not, un_neg, Option.bind_some, Option.bind_none, Option.map_some, cnd_true, cnd_false, pickV_true, pickV_false, gd_true, gd_false, gdV_true, gdV_false, gdH_true, gdH_false, gdS_true, gdS_false, wt_ff, wt_tt, wt_ft, wt_tf, wt_undef, obH_some', extractV_tuple, nilCheckV_ptr, againK_normal, againK_exit, againK_ret, blockK_normal, blockK_same, blockK_ret, seqK_normal, seqK_exit, seqK_ret, fin_done, if_true', if_false', Bool.not_true, Bool.not_false, idx0, idx1, idx2, idx3, idx4, chk_nil_l, chk_nil_r, done_nm, up_cons, up_nil, cond_true, cond_false, Nat.reduceBEq]
  · have d3 : ¬ ((s' : Nat) : Int) = 0 := by omega
    have d4 : ¬ ((s' : Nat) : Int) = 12 := by omega
    refine ⟨done h h', r, lo, hi', 0, ?_, done_ext' k1, .inl rfl, by omega, by omega, by omega, by omega, by omega, by omega, r4, r5, r6, r7⟩
    simp -implicitDefEqProofs (disch := omega) only [↓c27_0_eq, w0, u1, w1, w2, w3, v1, v2, v3, d1, d2, a1, e1, vldI, ls, d3, d4, am_nm, nm_mods, List.nil_append, List.append_nil, decide_true, decide_false, ↓ret27, ↓cnd_true, ↓cnd_false, ↓Option.bind_some, ↓obH_some', bin_add, bin_sub, bin_mul, bin_lss, bin_leq, bin_gtr, bin_geq, bin_eql, bin_neq, un_not, un_neg, Option.bind_some, Option.bind_none, Option.map_some, cnd_true, cnd_false, pickV_true, pickV_false, gd_true, gd_false, gdV_true, gdV_false, gdH_true, gdH_false, gdS_true, gdS_false, wt_ff, wt_tt, wt_ft, wt_tf, wt_undef, obH_some', extractV_tuple, nilCheckV_ptr, againK_normal, againK_exit, againK_ret, blockK_normal, blockK_same, blockK_ret, seqK_normal, seqK_exit, seqK_ret, fin_done, if_true', if_false', Bool.not_true, Bool.not_false, idx0, idx1, idx2, idx3, idx4, chk_nil_l, chk_nil_r, done_nm, up_cons, up_nil, cond_true, cond_false, Nat.reduceBEq]
end
end Go.Am.Z
namespace Go.Am.Z
open Go.Proofs
set_option maxRecDepth 100000
set_option linter.all false
attribute [local instance] xt0 gl0
attribute [local instance] xm0 xo0
attribute [local congr] obind_congr obH_congr cnd_congr chk_congr retK_congr codeK_congr
structure PI (n a b i j : Nat) (m : List Nat) : Prop where
  len : m.length = n
  hb : b ≤ n
  hn : n < 2 ^ 40
  ai : a < i
  ij : i ≤ j + 1
  jb : j < b
  le : ∀ k, a < k → k < i → gt0 m k < gt0 m a
  ge : ∀ k, j < k → k < b → gt0 m a ≤ gt0 m k
section
variable {p n c a b : Nat}
theorem PI.swap {i j : Nat} {m : List Nat} (q : PI n a b i j m) (h : i ≤ j) (h1 : ¬ gt0 m i < gt0 m a) (h2 : gt0 m j < gt0 m a) : PI n a b (i + 1) (j - 1) (swp m i j) := by
  obtain ⟨len, hb, hn, ai, ij, jb, le, ge⟩ := q
  have ne : i ≠ j := fun e => by subst e; omega
  have g := fun k => gt0_swp (l := m) (i := i) (j := j) (by omega) (by omega) k
  have ga : gt0 (swp m i j) a = gt0 m a := by rw [g, if_neg (by omega), if_neg (by omega)]
  refine ⟨by rw [swp_len, len], hb, hn, by omega, by omega, by omega, fun k k1 k2 => ?_, fun k k1 k2 => ?_⟩
  · rw [ga, g, if_neg (by omega)]
    split
    · exact h2
    · exact le k k1 (by omega)
  · rw [ga, g]
    split
    · omega
    · rw [if_neg (by omega)]
      exact ge k (by omega) k2
theorem par_inc1 {β : Type} {Q : Option β → Prop} {k : Ex → St → Option β} {h : Heap} {m : List Nat} {j : Nat} (hm : NR h p m) :
    ∀ (d i : Nat), j + 1 - i = d → PI n a b i j m → ∀ (x : Nat → Value), x 0 = sv p n c → x 1 = .int .i64 a → x 2 = .int .i64 b → x 10 = .int .i64 i → x 11 = .int .i64 j →
    (∀ (x' : Nat → Value) (i' : Nat), i ≤ i' → PI n a b i' j m → (j < i' ∨ ¬ gt0 m i' < gt0 m a) → x' 0 = sv p n c → x' 1 = .int .i64 a → x' 2 = .int .i64 b → x' 10 = .int .i64 i' → x' 11 = .int .i64 j → Q (k .normal ⟨ar 168 x', h⟩)) →
    Q (lK c32_1 168 x h (blockK 0 k)) := by
  intro d
  induction d with
  | zero =>
    intro i e1 q x Aa Ab Ac Ak Al hk
    have e := fun x' => hk x' i (Nat.le_refl _) q (.inl (by omega))
    have d1 : ¬ (i : Int) ≤ j := by omega
    rw [lK_eq]
    simp -implicitDefEqProofs (disch := omega) only [↓c32_1_eq,Aa,Ab,Ac,Ak,Al, d1, decide_false, ↓cnd_true, ↓cnd_false, ↓Option.bind_some, ↓obH_some', bin_add, bin_sub, bin_mul, bin_lss, bin_leq, bin_gtr, bin_geq, bin_eql, bin_neq, un_not, un_neg, Option.bind_some, Option.bind_none, Option.map_some, cnd_true, cnd_false, pickV_true, pickV_false, gd_true, gd_false, gdV_true, gdV_false, gdH_true, gdH_false, gdS_true, gdS_false, wt_ff, wt_tt, wt_ft, wt_tf, wt_undef, obH_some', extractV_tuple, nilCheckV_ptr, againK_normal, againK_exit, againK_ret, blockK_normal, blockK_same, blockK_ret, seqK_normal, seqK_exit, seqK_ret, fin_done, if_true', if_false', Bool.not_true, Bool.not_false, idx0, idx1, idx2, idx3, idx4, chk_nil_l, chk_nil_r, done_nm, up_cons, up_nil, cond_true, cond_false, Nat.reduceBEq]
    exact e _ Aa Ab Ac Ak Al
  | succ d ih =>
    intro i e1 q x Aa Ab Ac Ak Al hk
    obtain ⟨len, hb, hn, ai, ij, jb, le, ge⟩ := q
    have d1 : (i : Int) ≤ j := by omega
    have i1 := iaS p n c i (by omega)
    have i2 := iaS p n c a (by omega)
    have l1 := hm.at (i := i) (by omega)
    have l2 := hm.at (i := a) (by omega)
    have w1 := wa i (by omega)
    have e2 := fun h => spec_Less (gt0 m i) (gt0 m a) h
    rw [lK_eq]
    by_cases h2 : gt0 m i < gt0 m a
    · simp -implicitDefEqProofs (disch := omega) only [↓c32_1_eq,Aa,Ab,Ac,Ak,Al, d1, i1, i2, vld64, l1, l2, w1, e2, h2, decide_true, ↓cnd_true, ↓cnd_false, ↓Option.bind_some, ↓obH_some', bin_add, bin_sub, bin_mul, bin_lss, bin_leq, bin_gtr, bin_geq, bin_eql, bin_neq, un_not, un_neg, Option.bind_some, Option.bind_none, Option.map_some, cnd_true, cnd_false, pickV_true, pickV_false, gd_true, gd_false, gdV_true, gdV_false, gdH_true, gdH_false, gdS_true, gdS_false, wt_ff, wt_tt, wt_ft, wt_tf, wt_undef, obH_some', extractV_tuple, nilCheckV_ptr, againK_normal, againK_exit, againK_ret, blockK_normal, blockK_same, blockK_ret, seqK_normal, seqK_exit, seqK_ret, fin_done, if_true', if_false', Bool.not_true, Bool.not_false, idx0, idx1, idx2, idx3, idx4, chk_nil_l, chk_nil_r, done_nm, up_cons, up_nil, cond_true, cond_false, Nat.reduceBEq]
      refine ih (i + 1) (by omega) ⟨len, hb, hn, by omega, by omega, jb, fun k k1 k2 => ?_, ge⟩ _ ?_ ?_ ?_ ?_ ?_ (fun x' i' le' => hk x' i' (by omega))
      · by_cases e : k = i
        · subst e; exact h2
        · exact le k k1 (by omega)
      · exact Aa
      · exact Ab
      · exact Ac
      · rfl
      · exact Al
    · have e := fun x' => hk x' i (Nat.le_refl _) ⟨len, hb, hn, ai, ij, jb, le, ge⟩ (.inr h2)
      simp -implicitDefEqProofs (disch := omega) only [↓c32_1_eq,Aa,Ab,Ac,Ak,Al, d1, i1, i2, vld64, l1, l2, w1, e2, h2, decide_true, decide_false, ↓cnd_true, ↓cnd_false, ↓Option.bind_some, ↓obH_some', bin_add, bin_sub, bin_mul, bin_lss, bin_leq, bin_gtr, bin_geq, bin_eql, bin_neq, un_not, un_neg, Option.bind_some, Option.bind_none, Option.map_some, cnd_true, cnd_false, pickV_true, pickV_false, gd_true, gd_false, gdV_true, gdV_false, gdH_true, gdH_false, gdS_true, gdS_false, wt_ff, wt_tt, wt_ft, wt_tf, wt_undef, obH_some', extractV_tuple, nilCheckV_ptr, againK_normal, againK_exit, againK_ret, blockK_normal, blockK_same, blockK_ret, seqK_normal, seqK_exit, seqK_ret, fin_done, if_true', if_false', Bool.not_true, Bool.not_false, idx0, idx1, idx2, idx3, idx4, chk_nil_l, chk_nil_r, done_nm, up_cons, up_nil, cond_true, cond_false, Nat.reduceBEq]
      exact e _ Aa Ab Ac Ak Al
theorem par_inc7 {β : Type} {Q : Option β → Prop} {k : Ex → St → Option β} {h : Heap} {m : List Nat} {j : Nat} (hm : NR h p m) :
    ∀ (d i : Nat), j + 1 - i = d → PI n a b i j m → ∀ (x : Nat → Value), x 0 = sv p n c → x 1 = .int .i64 a → x 2 = .int .i64 b → x 10 = .int .i64 i → x 11 = .int .i64 j →
    (∀ (x' : Nat → Value) (i' : Nat), i ≤ i' → PI n a b i' j m → (j < i' ∨ ¬ gt0 m i' < gt0 m a) → x' 0 = sv p n c → x' 1 = .int .i64 a → x' 2 = .int .i64 b → x' 10 = .int .i64 i' → x' 11 = .int .i64 j → Q (k .normal ⟨ar 168 x', h⟩)) →
    Q (lK c32_7 168 x h (blockK 6 k)) := by
  intro d
  induction d with
  | zero =>
    intro i e1 q x Aa Ab Ac Ak Al hk
    have e := fun x' => hk x' i (Nat.le_refl _) q (.inl (by omega))
    have d1 : ¬ (i : Int) ≤ j := by omega
    rw [lK_eq]
    simp -implicitDefEqProofs (disch := omega) only [↓c32_7_eq,Aa,Ab,Ac,Ak,Al, d1, decide_false, ↓cnd_true, ↓cnd_false, ↓Option.bind_some, ↓obH_some', bin_add, bin_sub, bin_mul, bin_lss, bin_leq, bin_gtr, bin_geq, bin_eql, bin_neq, un_not, un_neg, Option.bind_some, Option.bind_none, Option.map_some, cnd_true, cnd_false, pickV_true, pickV_false, gd_true, gd_false, gdV_true, gdV_false, gdH_true, gdH_false, gdS_true, gdS_false, wt_ff, wt_tt, wt_ft, wt_tf, wt_undef, obH_some', extractV_tuple, nilCheckV_ptr, againK_normal, againK_exit, againK_ret, blockK_normal, blockK_same, blockK_ret, seqK_normal, seqK_exit, seqK_ret, fin_done, if_true', if_false', Bool.not_true, Bool.not_false, idx0, idx1, idx2, idx3, idx4, chk_nil_l, chk_nil_r, done_nm, up_cons, up_nil, cond_true, cond_false, Nat.reduceBEq]
    exact e _ Aa Ab Ac Ak Al
  | succ d ih =>
    intro i e1 q x Aa Ab Ac Ak Al hk
    obtain ⟨len, hb, hn, ai, ij, jb, le, ge⟩ := q
    have d1 : (i : Int) ≤ j := by omega
    have i1 := iaS p n c i (by omega)
    have i2 := iaS p n c a (by omega)
    have l1 := hm.at (i := i) (by omega)
    have l2 := hm.at (i := a) (by omega)
    have w1 := wa i (by omega)
    have e2 := fun h => spec_Less (gt0 m i) (gt0 m a) h
    rw [lK_eq]
    by_cases h2 : gt0 m i < gt0 m a
    · simp -implicitDefEqProofs (disch := omega) only [↓c32_7_eq,Aa,Ab,Ac,Ak,Al, d1, i1, i2, vld64, l1, l2, w1, e2, h2, decide_true, ↓cnd_true, ↓cnd_false, ↓Option.bind_some, ↓obH_some', bin_add, bin_sub, bin_mul, bin_lss, bin_leq, bin_gtr, bin_geq, bin_eql, bin_neq, un_not, un_neg, Option.bind_some, Option.bind_none, Option.map_some, cnd_true, cnd_false, pickV_true, pickV_false, gd_true, gd_false, gdV_true, gdV_false, gdH_true, gdH_false, gdS_true, gdS_false, wt_ff, wt_tt, wt_ft, wt_tf, wt_undef, obH_some', extractV_tuple, nilCheckV_ptr, againK_normal, againK_exit, againK_ret, blockK_normal, blockK_same, blockK_ret, seqK_normal, seqK_exit, seqK_ret, fin_done, if_true', if_false', Bool.not_true, Bool.not_false, idx0, idx1, idx2, idx3, idx4, chk_nil_l, chk_nil_r, done_nm, up_cons, up_nil, cond_true, cond_false, Nat.reduceBEq]
      refine ih (i + 1) (by omega) ⟨len, hb, hn, by omega, by omega, jb, fun k k1 k2 => ?_, ge⟩ _ ?_ ?_ ?_ ?_ ?_ (fun x' i' le' => hk x' i' (by omega))
      · by_cases e : k = i
        · subst e; exact h2
        · exact le k k1 (by omega)
      · exact Aa
      · exact Ab
      · exact Ac
      · rfl
      · exact Al
    · have e := fun x' => hk x' i (Nat.le_refl _) ⟨len, hb, hn, ai, ij, jb, le, ge⟩ (.inr h2)
      simp -implicitDefEqProofs (disch := omega) only [↓c32_7_eq,Aa,Ab,Ac,Ak,Al, d1, i1, i2, vld64, l1, l2, w1, e2, h2, decide_true, decide_false, ↓cnd_true, ↓cnd_false, ↓Option.bind_some, ↓obH_some', bin_add, bin_sub, bin_mul, bin_lss, bin_leq, bin_gtr, bin_geq, bin_eql, bin_neq, un_not, un_neg, Option.bind_some, Option.bind_none, Option.map_some, cnd_true, cnd_false, pickV_true, pickV_false, gd_true, gd_false, gdV_true, gdV_false, gdH_true, gdH_false, gdS_true, gdS_false, wt_ff, wt_tt, wt_ft, wt_tf, wt_undef, obH_some', extractV_tuple, nilCheckV_ptr, againK_normal, againK_exit, againK_ret, blockK_normal, blockK_same, blockK_ret, seqK_normal, seqK_exit, seqK_ret, fin_done, if_true', if_false', Bool.not_true, Bool.not_false, idx0, idx1, idx2, idx3, idx4, chk_nil_l, chk_nil_r, done_nm, up_cons, up_nil, cond_true, cond_false, Nat.reduceBEq]
      exact e _ Aa Ab Ac Ak Al
theorem par_dec3 {β : Type} {Q : Option β → Prop} {k : Ex → St → Option β} {h : Heap} {m : List Nat} {i : Nat} (hm : NR h p m) :
    ∀ (d j : Nat), j + 1 - i = d → PI n a b i j m → ∀ (x : Nat → Value), x 0 = sv p n c → x 1 = .int .i64 a → x 2 = .int .i64 b → x 10 = .int .i64 i → x 11 = .int .i64 j →
    (∀ (x' : Nat → Value) (j' : Nat), j' ≤ j → PI n a b i j' m → (j' < i ∨ gt0 m j' < gt0 m a) → x' 0 = sv p n c → x' 1 = .int .i64 a → x' 2 = .int .i64 b → x' 10 = .int .i64 i → x' 11 = .int .i64 j' → Q (k .normal ⟨ar 168 x', h⟩)) →
    Q (lK c32_3 168 x h (blockK 2 k)) := by
  intro d
  induction d with
  | zero =>
    intro j e1 q x Aa Ab Ac Ak Al hk
    have e := fun x' => hk x' j (Nat.le_refl _) q (.inl (by omega))
    have d1 : ¬ (i : Int) ≤ j := by omega
    rw [lK_eq]
    simp -implicitDefEqProofs (disch := omega) only [↓c32_3_eq,Aa,Ab,Ac,Ak,Al, d1, decide_false, ↓cnd_true, ↓cnd_false, ↓Option.bind_some, ↓obH_some', bin_add, bin_sub, bin_mul, bin_lss, bin_leq, bin_gtr, bin_geq, bin_eql, bin_neq, un_not, un_neg, Option.bind_some, Option.bind_none, Option.map_some, cnd_true, cnd_false, pickV_true, pickV_false, gd_true, gd_false, gdV_true, gdV_false, gdH_true, gdH_false, gdS_true, gdS_false, wt_ff, wt_tt, wt_ft, wt_tf, wt_undef, obH_some', extractV_tuple, nilCheckV_ptr, againK_normal, againK_exit, againK_ret, blockK_normal, blockK_same, blockK_ret, seqK_normal, seqK_exit, seqK_ret, fin_done, if_true', if_false', Bool.not_true, Bool.not_false, idx0, idx1, idx2, idx3, idx4, chk_nil_l, chk_nil_r, done_nm, up_cons, up_nil, cond_true, cond_false, Nat.reduceBEq]
    exact e _ Aa Ab Ac Ak Al
  | succ d ih =>
    intro j e1 q x Aa Ab Ac Ak Al hk
    obtain ⟨len, hb, hn, ai, ij, jb, le, ge⟩ := q
    have d1 : (i : Int) ≤ j := by omega
    have i1 := iaS p n c j (by omega)
    have i2 := iaS p n c a (by omega)
    have l1 := hm.at (i := j) (by omega)
    have l2 := hm.at (i := a) (by omega)
    have w1 := ws j (by omega) (by omega)
    have e2 := fun h => spec_Less (gt0 m j) (gt0 m a) h
    rw [lK_eq]
    by_cases h2 : gt0 m j < gt0 m a
    · have e := fun x' => hk x' j (Nat.le_refl _) ⟨len, hb, hn, ai, ij, jb, le, ge⟩ (.inr h2)
      simp -implicitDefEqProofs (disch := omega) only [↓c32_3_eq,Aa,Ab,Ac,Ak,Al, d1, i1, i2, vld64, l1, l2, w1, e2, h2, decide_true, decide_false, ↓cnd_true, ↓cnd_false, ↓Option.bind_some, ↓obH_some', bin_add, bin_sub, bin_mul, bin_lss, bin_leq, bin_gtr, bin_geq, bin_eql, bin_neq, un_not, un_neg, Option.bind_some, Option.bind_none, Option.map_some, cnd_true, cnd_false, pickV_true, pickV_false, gd_true, gd_false, gdV_true, gdV_false, gdH_true, gdH_false, gdS_true, gdS_false, wt_ff, wt_tt, wt_ft, wt_tf, wt_undef, obH_some', extractV_tuple, nilCheckV_ptr, againK_normal, againK_exit, againK_ret, blockK_normal, blockK_same, blockK_ret, seqK_normal, seqK_exit, seqK_ret, fin_done, if_true', if_false', Bool.not_true, Bool.not_false, idx0, idx1, idx2, idx3, idx4, chk_nil_l, chk_nil_r, done_nm, up_cons, up_nil, cond_true, cond_false, Nat.reduceBEq]
      exact e _ Aa Ab Ac Ak Al
    · simp -implicitDefEqProofs (disch := omega) only [↓c32_3_eq,Aa,Ab,Ac,Ak,Al, d1, i1, i2, vld64, l1, l2, w1, e2, h2, decide_true, decide_false, ↓cnd_true, ↓cnd_false, ↓Option.bind_some, ↓obH_some', bin_add, bin_sub, bin_mul, bin_lss, bin_leq, bin_gtr, bin_geq, bin_eql, bin_neq, un_not, un_neg, Option.bind_some, Option.bind_none, Option.map_some, cnd_true, cnd_false, pickV_true, pickV_false, gd_true, gd_false, gdV_true, gdV_false, gdH_true, gdH_false, gdS_true, gdS_false, wt_ff, wt_tt, wt_ft, wt_tf, wt_undef, obH_some', extractV_tuple, nilCheckV_ptr, againK_normal, againK_exit, againK_ret, blockK_normal, blockK_same, blockK_ret, seqK_normal, seqK_exit, seqK_ret, fin_done, if_true', if_false', Bool.not_true, Bool.not_false, idx0, idx1, idx2, idx3, idx4, chk_nil_l, chk_nil_r, done_nm, up_cons, up_nil, cond_true, cond_false, Nat.reduceBEq]
      refine ih (j - 1) (by omega) ⟨len, hb, hn, by omega, by omega, by omega, le, fun k k1 k2 => ?_⟩ _ ?_ ?_ ?_ ?_ ?_ (fun x' i' le' => hk x' i' (by omega))
      · by_cases e : k = j
        · subst e; omega
        · exact ge k (by omega) k2
      · exact Aa
      · exact Ab
      · exact Ac
      · exact Ak
      · rfl
theorem par_dec9 {β : Type} {Q : Option β → Prop} {k : Ex → St → Option β} {h : Heap} {m : List Nat} {i : Nat} (hm : NR h p m) :
    ∀ (d j : Nat), j + 1 - i = d → PI n a b i j m → ∀ (x : Nat → Value), x 0 = sv p n c → x 1 = .int .i64 a → x 2 = .int .i64 b → x 10 = .int .i64 i → x 11 = .int .i64 j →
    (∀ (x' : Nat → Value) (j' : Nat), j' ≤ j → PI n a b i j' m → (j' < i ∨ gt0 m j' < gt0 m a) → x' 0 = sv p n c → x' 1 = .int .i64 a → x' 2 = .int .i64 b → x' 10 = .int .i64 i → x' 11 = .int .i64 j' → Q (k .normal ⟨ar 168 x', h⟩)) →
    Q (lK c32_9 168 x h (blockK 8 k)) := by
  intro d
  induction d with
  | zero =>
    intro j e1 q x Aa Ab Ac Ak Al hk
    have e := fun x' => hk x' j (Nat.le_refl _) q (.inl (by omega))
    have d1 : ¬ (i : Int) ≤ j := by omega
    rw [lK_eq]
    simp -implicitDefEqProofs (disch := omega) only [↓c32_9_eq,Aa,Ab,Ac,Ak,Al, d1, decide_false, ↓cnd_true, ↓cnd_false, ↓Option.bind_some, ↓obH_some', bin_add, bin_sub, bin_mul, bin_lss, bin_leq, bin_gtr, bin_geq, bin_eql, bin_neq, un_not, un_neg, Option.bind_some, Option.bind_none, Option.map_some, cnd_true, cnd_false, pickV_true, pickV_false, gd_true, gd_false, gdV_true, gdV_false, gdH_true, gdH_false, gdS_true, gdS_false, wt_ff, wt_tt, wt_ft, wt_tf, wt_undef, obH_some', extractV_tuple, nilCheckV_ptr, againK_normal, againK_exit, againK_ret, blockK_normal, blockK_same, blockK_ret, seqK_normal, seqK_exit, seqK_ret, fin_done, if_true', if_false', Bool.not_true, Bool.not_false, idx0, idx1, idx2, idx3, idx4, chk_nil_l, chk_nil_r, done_nm, up_cons, up_nil, cond_true, cond_false, Nat.reduceBEq]
    exact e _ Aa Ab Ac Ak Al
  | succ d ih =>
    intro j e1 q x Aa Ab Ac Ak Al hk
    obtain ⟨len, hb, hn, ai, ij, jb, le, ge⟩ := q
    have d1 : (i : Int) ≤ j := by omega
    have i1 := iaS p n c j (by omega)
    have i2 := iaS p n c a (by omega)
    have l1 := hm.at (i := j) (by omega)
    have l2 := hm.at (i := a) (by omega)
    have w1 := ws j (by omega) (by omega)
    have e2 := fun h => spec_Less (gt0 m j) (gt0 m a) h
    rw [lK_eq]
    by_cases h2 : gt0 m j < gt0 m a
    · have e := fun x' => hk x' j (Nat.le_refl _) ⟨len, hb, hn, ai, ij, jb, le, ge⟩ (.inr h2)
      simp -implicitDefEqProofs (disch := omega) only [↓c32_9_eq,Aa,Ab,Ac,Ak,Al, d1, i1, i2, vld64, l1, l2, w1, e2, h2, decide_true, decide_false, ↓cnd_true, ↓cnd_false, ↓Option.bind_some, ↓obH_some', bin_add, bin_sub, bin_mul, bin_lss, bin_leq, bin_gtr, bin_geq, bin_eql, bin_neq, un_not, un_neg, Option.bind_some, Option.bind_none, Option.map_some, cnd_true, cnd_false, pickV_true, pickV_false, gd_true, gd_false, gdV_true, gdV_false, gdH_true, gdH_false, gdS_true, gdS_false, wt_ff, wt_tt, wt_ft, wt_tf, wt_undef, obH_some', extractV_tuple, nilCheckV_ptr, againK_normal, againK_exit, againK_ret, blockK_normal, blockK_same, blockK_ret, seqK_normal, seqK_exit, seqK_ret, fin_done, if_true', if_false', Bool.not_true, Bool.not_false, idx0, idx1, idx2, idx3, idx4, chk_nil_l, chk_nil_r, done_nm, up_cons, up_nil, cond_true, cond_false, Nat.reduceBEq]
      exact e _ Aa Ab Ac Ak Al
    · simp -implicitDefEqProofs (disch := omega) only [↓c32_9_eq,Aa,Ab,Ac,Ak,Al, d1, i1, i2, vld64, l1, l2, w1, e2, h2, decide_true, decide_false, ↓cnd_true, ↓cnd_false, ↓Option.bind_some, ↓obH_some', bin_add, bin_sub, bin_mul, bin_lss, bin_leq, bin_gtr, bin_geq, bin_eql, bin_neq, un_not, un_neg, Option.bind_some, Option.bind_none, Option.map_some, cnd_true, cnd_false, pickV_true, pickV_false, gd_true, gd_false, gdV_true, gdV_false, gdH_true, gdH_false, gdS_true, gdS_false, wt_ff, wt_tt, wt_ft, wt_tf, wt_undef, obH_some', extractV_tuple, nilCheckV_ptr, againK_normal, againK_exit, againK_ret, blockK_normal, blockK_same, blockK_ret, seqK_normal, seqK_exit, seqK_ret, fin_done, if_true', if_false', Bool.not_true, Bool.not_false, idx0, idx1, idx2, idx3, idx4, chk_nil_l, chk_nil_r, done_nm, up_cons, up_nil, cond_true, cond_false, Nat.reduceBEq]
      refine ih (j - 1) (by omega) ⟨len, hb, hn, by omega, by omega, by omega, le, fun k k1 k2 => ?_⟩ _ ?_ ?_ ?_ ?_ ?_ (fun x' i' le' => hk x' i' (by omega))
      · by_cases e : k = j
        · subst e; omega
        · exact ge k (by omega) k2
      · exact Aa
      · exact Ab
      · exact Ac
      · exact Ak
      · rfl
def PQ (p n a b v : Nat) (g : Heap) (l : List Nat) (o : Option (Value × Heap)) : Prop :=
  ∃ h' m mid al, o = some (.tuple #[.int .i64 (mid : Nat), .bool al], h') ∧ HMod (Just p) g h' ∧ NR h' p m ∧ Sw a b l m ∧ PartOk a b mid m ∧ gt0 m mid = v
theorem par_end {i j : Nat} {g h : Heap} {l m : List Nat} (q : PI n a b i j m) (hij : j < i) (hm : NR h p m) (hin : In g.blks.length (Just p) (nm g) h) (sw : Sw a b l m) (hl : l.length = n) (hn0 : g.blks.length ≤ h.blks.length) :
    ∃ h1 h2, h.storeN p j [.int .u64 (gt0 m a : Nat)] = some h1 ∧ h1.storeN p a [.int .u64 (gt0 m j : Nat)] = some h2 ∧ NR h2 p (swp m j a) ∧ In g.blks.length (Just p) (nm g) h2 ∧ Sw a b l (swp m j a) ∧ PartOk a b j (swp m j a) ∧ gt0 (swp m j a) j = gt0 m a := by
  obtain ⟨len, hb, hn, ai, ij, jb, le, ge⟩ := q
  obtain ⟨h1, h2, e1, e2, e3, e4⟩ := hm.swap (n0 := g.blks.length) hn0 (i := j) (j := a) (by omega) (by omega)
  refine ⟨h1, h2, e1, e2, e3, hin.trans e4, .step sw (by omega) jb (Nat.le_refl _) (by omega) (by omega), .stop (by omega) (by omega) jb (fun k k1 k2 => le k k1 (by omega)) ge, ?_⟩
  rw [gt0_swp (by omega) (by omega)]
  split
  · rename_i e; rw [e]
  · rw [if_pos rfl]
theorem par_loop {g : Heap} {l : List Nat} {v : Nat} (hl : l.length = n) :
    ∀ (d i j : Nat), j + 1 - i ≤ d → ∀ (x : Nat → Value) (h : Heap) (m : List Nat), PI n a b i j m → NR h p m → In g.blks.length (Just p) (nm g) h → g.blks.length ≤ h.blks.length → Sw a b l m → gt0 m a = v →
    x 0 = sv p n c → x 1 = .int .i64 a → x 2 = .int .i64 b → x 10 = .int .i64 i → x 11 = .int .i64 j →
    PQ p n a b v g l (lK c32_5 168 x h (blockK 4 (sK c32_6 (retK Try.f32 Try.prog g)))) := by
  intro d
  induction d with
  | zero =>
    intro i j e1 x h m q hm hin hn0 sw hv Aa Ab Ac Ak Al
    rw [lK_eq]
    simp -implicitDefEqProofs (disch := omega) only [↓c32_5_eq, ↓cnd_true, ↓cnd_false, ↓Option.bind_some, ↓obH_some', bin_add, bin_sub, bin_mul, bin_lss, bin_leq, bin_gtr, bin_geq, bin_eql, bin_neq, un_not, un_neg, Option.bind_some, Option.bind_none, Option.map_some, cnd_true, cnd_false, pickV_true, pickV_false, gd_true, gd_false, gdV_true, gdV_false, gdH_true, gdH_false, gdS_true, gdS_false, wt_ff, wt_tt, wt_ft, wt_tf, wt_undef, obH_some', extractV_tuple, nilCheckV_ptr, againK_normal, againK_exit, againK_ret, blockK_normal, blockK_same, blockK_ret, seqK_normal, seqK_exit, seqK_ret, fin_done, if_true', if_false', Bool.not_true, Bool.not_false, idx0, idx1, idx2, idx3, idx4, chk_nil_l, chk_nil_r, done_nm, up_cons, up_nil, cond_true, cond_false, Nat.reduceBEq]
    refine par_inc7 (a := a) (b := b) (c := c) (Q := PQ p n a b v g l) hm _ i rfl q x Aa Ab Ac Ak Al ?_
    intro y i' lei q1 r1 y0 y1 y2 y10 y11
    simp -implicitDefEqProofs (disch := omega) only [↓c32_8_eq, ↓cnd_true, ↓cnd_false, ↓Option.bind_some, ↓obH_some', bin_add, bin_sub, bin_mul, bin_lss, bin_leq, bin_gtr, bin_geq, bin_eql, bin_neq, un_not, un_neg, Option.bind_some, Option.bind_none, Option.map_some, cnd_true, cnd_false, pickV_true, pickV_false, gd_true, gd_false, gdV_true, gdV_false, gdH_true, gdH_false, gdS_true, gdS_false, wt_ff, wt_tt, wt_ft, wt_tf, wt_undef, obH_some', extractV_tuple, nilCheckV_ptr, againK_normal, againK_exit, againK_ret, blockK_normal, blockK_same, blockK_ret, seqK_normal, seqK_exit, seqK_ret, fin_done, if_true', if_false', Bool.not_true, Bool.not_false, idx0, idx1, idx2, idx3, idx4, chk_nil_l, chk_nil_r, done_nm, up_cons, up_nil, cond_true, cond_false, Nat.reduceBEq]
    refine par_dec9 (a := a) (b := b) (c := c) (Q := PQ p n a b v g l) hm _ j rfl q1 y y0 y1 y2 y10 y11 ?_
    intro z j' lej q2 r2 z0 z1 z2 z10 z11
    have ⟨len, hb, hn, ai, ij, jb, le, ge⟩ := q2
    by_cases hlt : j' < i'
    · have d1 : (i' : Int) > j' := by omega
      have i1 := iaS p n c a (by omega)
      have i2 := iaS p n c j' (by omega)
      have l1 := hm.at (i := a) (by omega)
      have l2 := hm.at (i := j') (by omega)
      obtain ⟨g1, g2, s1, s2, f1, f2, f3, f4, f5⟩ := par_end q2 hlt hm hin sw hl hn0
      have bx : ∀ (k : Ex → St → Option (Value × Heap)) s, blockK 5 k (.exit 4) s = k (.exit 4) s := fun _ _ => rfl
      refine ⟨done g g2, swp m j' a, j', false, ?_, done_mod f2, f1.done, f3, f4, by rw [f5, hv]⟩
      simp -implicitDefEqProofs (disch := omega) only [↓c32_10_eq, ↓c32_6_eq, z0, z1, z2, z10, z11, d1, i1, i2, vld64, vst64, l1, l2, s1, s2, bx, decide_true, ↓ret32, ↓cnd_true, ↓cnd_false, ↓Option.bind_some, ↓obH_some', bin_add, bin_sub, bin_mul, bin_lss, bin_leq, bin_gtr, bin_geq, bin_eql, bin_neq, un_not, un_neg, Option.bind_some, Option.bind_none, Option.map_some, cnd_true, cnd_false, pickV_true, pickV_false, gd_true, gd_false, gdV_true, gdV_false, gdH_true, gdH_false, gdS_true, gdS_false, wt_ff, wt_tt, wt_ft, wt_tf, wt_undef, obH_some', extractV_tuple, nilCheckV_ptr, againK_normal, againK_exit, againK_ret, blockK_normal, blockK_same, blockK_ret, seqK_normal, seqK_exit, seqK_ret, fin_done, if_true', if_false', Bool.not_true, Bool.not_false, idx0, idx1, idx2, idx3, idx4, chk_nil_l, chk_nil_r, done_nm, up_cons, up_nil, cond_true, cond_false, Nat.reduceBEq]
    · omega
  | succ d ih =>
    intro i j e1 x h m q hm hin hn0 sw hv Aa Ab Ac Ak Al
    rw [lK_eq]
    simp -implicitDefEqProofs (disch := omega) only [↓c32_5_eq, ↓cnd_true, ↓cnd_false, ↓Option.bind_some, ↓obH_some', bin_add, bin_sub, bin_mul, bin_lss, bin_leq, bin_gtr, bin_geq, bin_eql, bin_neq, un_not, un_neg, Option.bind_some, Option.bind_none, Option.map_some, cnd_true, cnd_false, pickV_true, pickV_false, gd_true, gd_false, gdV_true, gdV_false, gdH_true, gdH_false, gdS_true, gdS_false, wt_ff, wt_tt, wt_ft, wt_tf, wt_undef, obH_some', extractV_tuple, nilCheckV_ptr, againK_normal, againK_exit, againK_ret, blockK_normal, blockK_same, blockK_ret, seqK_normal, seqK_exit, seqK_ret, fin_done, if_true', if_false', Bool.not_true, Bool.not_false, idx0, idx1, idx2, idx3, idx4, chk_nil_l, chk_nil_r, done_nm, up_cons, up_nil, cond_true, cond_false, Nat.reduceBEq]
    refine par_inc7 (a := a) (b := b) (c := c) (Q := PQ p n a b v g l) hm _ i rfl q x Aa Ab Ac Ak Al ?_
    intro y i' lei q1 r1 y0 y1 y2 y10 y11
    simp -implicitDefEqProofs (disch := omega) only [↓c32_8_eq, ↓cnd_true, ↓cnd_false, ↓Option.bind_some, ↓obH_some', bin_add, bin_sub, bin_mul, bin_lss, bin_leq, bin_gtr, bin_geq, bin_eql, bin_neq, un_not, un_neg, Option.bind_some, Option.bind_none, Option.map_some, cnd_true, cnd_false, pickV_true, pickV_false, gd_true, gd_false, gdV_true, gdV_false, gdH_true, gdH_false, gdS_true, gdS_false, wt_ff, wt_tt, wt_ft, wt_tf, wt_undef, obH_some', extractV_tuple, nilCheckV_ptr, againK_normal, againK_exit, againK_ret, blockK_normal, blockK_same, blockK_ret, seqK_normal, seqK_exit, seqK_ret, fin_done, if_true', if_false', Bool.not_true, Bool.not_false, idx0, idx1, idx2, idx3, idx4, chk_nil_l, chk_nil_r, done_nm, up_cons, up_nil, cond_true, cond_false, Nat.reduceBEq]
    refine par_dec9 (a := a) (b := b) (c := c) (Q := PQ p n a b v g l) hm _ j rfl q1 y y0 y1 y2 y10 y11 ?_
    intro z j' lej q2 r2 z0 z1 z2 z10 z11
    have ⟨len, hb, hn, ai, ij, jb, le, ge⟩ := q2
    by_cases hlt : j' < i'
    · have d1 : (i' : Int) > j' := by omega
      have i1 := iaS p n c a (by omega)
      have i2 := iaS p n c j' (by omega)
      have l1 := hm.at (i := a) (by omega)
      have l2 := hm.at (i := j') (by omega)
      obtain ⟨g1, g2, s1, s2, f1, f2, f3, f4, f5⟩ := par_end q2 hlt hm hin sw hl hn0
      have bx : ∀ (k : Ex → St → Option (Value × Heap)) s, blockK 5 k (.exit 4) s = k (.exit 4) s := fun _ _ => rfl
      refine ⟨done g g2, swp m j' a, j', false, ?_, done_mod f2, f1.done, f3, f4, by rw [f5, hv]⟩
      simp -implicitDefEqProofs (disch := omega) only [↓c32_10_eq, ↓c32_6_eq, z0, z1, z2, z10, z11, d1, i1, i2, vld64, vst64, l1, l2, s1, s2, bx, decide_true, ↓ret32, ↓cnd_true, ↓cnd_false, ↓Option.bind_some, ↓obH_some', bin_add, bin_sub, bin_mul, bin_lss, bin_leq, bin_gtr, bin_geq, bin_eql, bin_neq, un_not, un_neg, Option.bind_some, Option.bind_none, Option.map_some, cnd_true, cnd_false, pickV_true, pickV_false, gd_true, gd_false, gdV_true, gdV_false, gdH_true, gdH_false, gdS_true, gdS_false, wt_ff, wt_tt, wt_ft, wt_tf, wt_undef, obH_some', extractV_tuple, nilCheckV_ptr, againK_normal, againK_exit, againK_ret, blockK_normal, blockK_same, blockK_ret, seqK_normal, seqK_exit, seqK_ret, fin_done, if_true', if_false', Bool.not_true, Bool.not_false, idx0, idx1, idx2, idx3, idx4, chk_nil_l, chk_nil_r, done_nm, up_cons, up_nil, cond_true, cond_false, Nat.reduceBEq]
    · have n1 : ¬ gt0 m i' < gt0 m a := r1.resolve_left (by omega)
      have n2 : gt0 m j' < gt0 m a := r2.resolve_left hlt
      have d1 : ¬ (i' : Int) > j' := by omega
      have i1 := iaS p n c i' (by omega)
      have i2 := iaS p n c j' (by omega)
      have l1 := hm.at (i := i') (by omega)
      have l2 := hm.at (i := j') (by omega)
      have w1 := wa i' (by omega)
      have w2 := ws j' (by omega) (by omega)
      obtain ⟨g1, g2, s1, s2, f1, f2⟩ := hm.swap (n0 := g.blks.length) hn0 (i := i') (j := j') (by omega) (by omega)
      simp -implicitDefEqProofs (disch := omega) only [↓c32_10_eq, z0, z1, z2, z10, z11, d1, i1, i2, vld64, vst64, l1, l2, s1, s2, w1, w2, decide_true, decide_false, ↓cnd_true, ↓cnd_false, ↓Option.bind_some, ↓obH_some', bin_add, bin_sub, bin_mul, bin_lss, bin_leq, bin_gtr, bin_geq, bin_eql, bin_neq, un_not, un_neg, Option.bind_some, Option.bind_none, Option.map_some, cnd_true, cnd_false, pickV_true, pickV_false, gd_true, gd_false, gdV_true, gdV_false, gdH_true, gdH_false, gdS_true, gdS_false, wt_ff, wt_tt, wt_ft, wt_tf, wt_undef, obH_some', extractV_tuple, nilCheckV_ptr, againK_normal, againK_exit, againK_ret, blockK_normal, blockK_same, blockK_ret, seqK_normal, seqK_exit, seqK_ret, fin_done, if_true', if_false', Bool.not_true, Bool.not_false, idx0, idx1, idx2, idx3, idx4, chk_nil_l, chk_nil_r, done_nm, up_cons, up_nil, cond_true, cond_false, Nat.reduceBEq]
      refine ih (i' + 1) (j' - 1) (by omega) _ _ _ (q2.swap (by omega) n1 n2) f1 (hin.trans f2) (Nat.le_trans hn0 f2.len) (.step sw (by omega) (by omega) (by omega) (by omega) (by omega)) (by rw [gt0_swp (by omega) (by omega), if_neg (by omega), if_neg (by omega), hv]) ?_ ?_ ?_ ?_ ?_
      · exact z0
      · exact z1
      · exact z2
      · rfl
      · rfl
theorem spec_part {h : Heap} {l : List Nat} {pv : Nat} (hm : NR h p l) (hl : l.length = n) (hn : n < 2 ^ 40) (h1 : a ≤ pv) (h2 : pv < b) (hb : b ≤ n) (h3 : a + 1 < b) :
    PQ p n a b (gt0 l pv) h l (evC Try.prog 32 #[sv p n c, .int .i64 a, .int .i64 b, .int .i64 pv] h) := by
  rw [call32]
  have i1 := iaS p n c a (by omega)
  have i2 := iaS p n c pv (by omega)
  have l1 := hm.nm.at (i := a) (by omega)
  have l2 := hm.nm.at (i := pv) (by omega)
  have w1 := wa a (by omega)
  have w2 := ws b (by omega) (by omega)
  have hp := Cells.lt hm
  obtain ⟨g1, g2, s1, s2, f1, f2⟩ := NR.swap (h := nm h) (n0 := h.blks.length) (Nat.le_refl _) hm.nm (i := a) (j := pv) (by omega) (by omega)
  have sw : Sw a b l (swp l a pv) := .one (Nat.le_refl _) (by omega) h1 h2 (by omega)
  have q0 : PI n a b (a + 1) (b - 1) (swp l a pv) := ⟨by rw [swp_len, hl], hb, hn, by omega, by omega, by omega, fun k k1 k2 => by omega, fun k k1 k2 => by omega⟩
  have hv : gt0 (swp l a pv) a = gt0 l pv := by
    rw [gt0_swp (by omega) (by omega)]
    split
    · rename_i e; rw [e]
    · rw [if_pos rfl]
  simp -implicitDefEqProofs (disch := omega) only [↓c32_0_eq, i1, i2, vld64, vst64, l1, l2, s1, s2, w1, w2, ↓cnd_true, ↓cnd_false, ↓Option.bind_some, ↓obH_some', bin_add, bin_sub, bin_mul, bin_lss, bin_leq, bin_gtr, bin_geq, bin_eql, bin_neq, un_not, un_neg, Option.bind_some, Option.bind_none, Option.map_some, cnd_true, cnd_false, pickV_true, pickV_false, gd_true, gd_false, gdV_true, gdV_false, gdH_true, gdH_false, gdS_true, gdS_false, wt_ff, wt_tt, wt_ft, wt_tf, wt_undef, obH_some', extractV_tuple, nilCheckV_ptr, againK_normal, againK_exit, againK_ret, blockK_normal, blockK_same, blockK_ret, seqK_normal, seqK_exit, seqK_ret, fin_done, if_true', if_false', Bool.not_true, Bool.not_false, idx0, idx1, idx2, idx3, idx4, chk_nil_l, chk_nil_r, done_nm, up_cons, up_nil, cond_true, cond_false, Nat.reduceBEq]
  refine par_inc1 (a := a) (b := b) (c := c) (Q := PQ p n a b (gt0 l pv) h l) f1 _ (a + 1) rfl q0 _ ?_ ?_ ?_ ?_ ?_ ?_
  · rfl
  · rfl
  · rfl
  · rfl
  · rfl
  intro y i' lei q1 r1 y0 y1 y2 y10 y11
  simp -implicitDefEqProofs (disch := omega) only [↓c32_2_eq, ↓cnd_true, ↓cnd_false, ↓Option.bind_some, ↓obH_some', bin_add, bin_sub, bin_mul, bin_lss, bin_leq, bin_gtr, bin_geq, bin_eql, bin_neq, un_not, un_neg, Option.bind_some, Option.bind_none, Option.map_some, cnd_true, cnd_false, pickV_true, pickV_false, gd_true, gd_false, gdV_true, gdV_false, gdH_true, gdH_false, gdS_true, gdS_false, wt_ff, wt_tt, wt_ft, wt_tf, wt_undef, obH_some', extractV_tuple, nilCheckV_ptr, againK_normal, againK_exit, againK_ret, blockK_normal, blockK_same, blockK_ret, seqK_normal, seqK_exit, seqK_ret, fin_done, if_true', if_false', Bool.not_true, Bool.not_false, idx0, idx1, idx2, idx3, idx4, chk_nil_l, chk_nil_r, done_nm, up_cons, up_nil, cond_true, cond_false, Nat.reduceBEq]
  refine par_dec3 (a := a) (b := b) (c := c) (Q := PQ p n a b (gt0 l pv) h l) f1 _ (b - 1) rfl q1 y y0 y1 y2 y10 y11 ?_
  intro z j' lej q2 r2 z0 z1 z2 z10 z11
  have ⟨len, hb, hn, ai, ij, jb, le, ge⟩ := q2
  by_cases hlt : j' < i'
  · have d1 : (i' : Int) > j' := by omega
    have i1 := iaS p n c a (by omega)
    have i2 := iaS p n c j' (by omega)
    have l1 := f1.at (i := a) (by omega)
    have l2 := f1.at (i := j') (by omega)
    obtain ⟨g3, g4, s1, s2, e1, e2, e3, e4, e5⟩ := par_end q2 hlt f1 f2 sw hl f2.len
    refine ⟨done h g4, swp (swp l a pv) j' a, j', true, ?_, done_mod e2, e1.done, e3, e4, by rw [e5, hv]⟩
    simp -implicitDefEqProofs (disch := omega) only [↓c32_4_eq, z0, z1, z2, z10, z11, d1, i1, i2, vld64, vst64, l1, l2, s1, s2, decide_true, ↓ret32, ↓cnd_true, ↓cnd_false, ↓Option.bind_some, ↓obH_some', bin_add, bin_sub, bin_mul, bin_lss, bin_leq, bin_gtr, bin_geq, bin_eql, bin_neq, un_not, un_neg, Option.bind_some, Option.bind_none, Option.map_some, cnd_true, cnd_false, pickV_true, pickV_false, gd_true, gd_false, gdV_true, gdV_false, gdH_true, gdH_false, gdS_true, gdS_false, wt_ff, wt_tt, wt_ft, wt_tf, wt_undef, obH_some', extractV_tuple, nilCheckV_ptr, againK_normal, againK_exit, againK_ret, blockK_normal, blockK_same, blockK_ret, seqK_normal, seqK_exit, seqK_ret, fin_done, if_true', if_false', Bool.not_true, Bool.not_false, idx0, idx1, idx2, idx3, idx4, chk_nil_l, chk_nil_r, done_nm, up_cons, up_nil, cond_true, cond_false, Nat.reduceBEq]
  · have n1 : ¬ gt0 (swp l a pv) i' < gt0 (swp l a pv) a := r1.resolve_left (by omega)
    have n2 : gt0 (swp l a pv) j' < gt0 (swp l a pv) a := r2.resolve_left hlt
    have d1 : ¬ (i' : Int) > j' := by omega
    have i1 := iaS p n c i' (by omega)
    have i2 := iaS p n c j' (by omega)
    have l1 := f1.at (i := i') (by omega)
    have l2 := f1.at (i := j') (by omega)
    have w1 := wa i' (by omega)
    have w2 := ws j' (by omega) (by omega)
    obtain ⟨g3, g4, s1, s2, e1, e2⟩ := f1.swap (n0 := h.blks.length) f2.len (i := i') (j := j') (by omega) (by omega)
    simp -implicitDefEqProofs (disch := omega) only [↓c32_4_eq, z0, z1, z2, z10, z11, d1, i1, i2, vld64, vst64, l1, l2, s1, s2, w1, w2, decide_true, decide_false, ↓cnd_true, ↓cnd_false, ↓Option.bind_some, ↓obH_some', bin_add, bin_sub, bin_mul, bin_lss, bin_leq, bin_gtr, bin_geq, bin_eql, bin_neq, un_not, un_neg, Option.bind_some, Option.bind_none, Option.map_some, cnd_true, cnd_false, pickV_true, pickV_false, gd_true, gd_false, gdV_true, gdV_false, gdH_true, gdH_false, gdS_true, gdS_false, wt_ff, wt_tt, wt_ft, wt_tf, wt_undef, obH_some', extractV_tuple, nilCheckV_ptr, againK_normal, againK_exit, againK_ret, blockK_normal, blockK_same, blockK_ret, seqK_normal, seqK_exit, seqK_ret, fin_done, if_true', if_false', Bool.not_true, Bool.not_false, idx0, idx1, idx2, idx3, idx4, chk_nil_l, chk_nil_r, done_nm, up_cons, up_nil, cond_true, cond_false, Nat.reduceBEq]
    refine par_loop (c := c) hl _ (i' + 1) (j' - 1) (Nat.le_refl _) _ g4 _ (q2.swap (by omega) n1 n2) e1 (f2.trans e2) (Nat.le_trans f2.len e2.len) (.step sw (by omega) (by omega) (by omega) (by omega) (by omega)) (by rw [gt0_swp (by omega) (by omega), if_neg (by omega), if_neg (by omega), hv]) ?_ ?_ ?_ ?_ ?_
    · exact z0
    · exact z1
    · exact z2
    · rfl
    · rfl
end
end Go.Am.Z
namespace Go.Am.Z
open Go.Proofs
set_option maxRecDepth 100000
set_option linter.all false
attribute [local instance] xt0 gl0
attribute [local instance] xm0 xo0
attribute [local congr] obind_congr obH_congr cnd_congr chk_congr retK_congr codeK_congr
theorem Sw.ex {a b : Nat} {l m : List Nat} (s : Sw a b l m) {P : Nat → Prop} (h : ∃ k, a ≤ k ∧ k < b ∧ P (gt0 l k)) : ∃ k, a ≤ k ∧ k < b ∧ P (gt0 m k) := by
  induction s with
  | refl => exact h
  | step s h1 h2 h3 h4 h5 ih =>
    rename_i m i j
    obtain ⟨k, k1, k2, k3⟩ := ih
    have := s.len
    have g := fun k => gt0_swp (l := m) (i := i) (j := j) (by omega) (by omega) k
    by_cases e : k = i
    · exact ⟨j, h3, h4, by rw [g, if_pos rfl, ← e]; exact k3⟩
    · by_cases e2 : k = j
      · refine ⟨i, h1, h2, ?_⟩
        rw [g]
        split
        · rename_i e3; rw [e3, ← e2]; exact k3
        · rw [if_pos rfl, ← e2]; exact k3
      · exact ⟨k, k1, k2, by rw [g, if_neg e2, if_neg e]; exact k3⟩
theorem spec_Len64 (k : Nat) (hk : k ≤ 15) (h : Heap) : ∃ m : Int, evC Try.prog 34 #[.int .u64 k] h = some (.int .i64 m, h) ∧ (k ≠ 0 → m ≠ 0) := by
  rw [call34]
  obtain rfl | rfl | rfl | rfl | rfl | rfl | rfl | rfl | rfl | rfl | rfl | rfl | rfl | rfl | rfl | rfl : k = 0 ∨ k = 1 ∨ k = 2 ∨ k = 3 ∨ k = 4 ∨ k = 5 ∨ k = 6 ∨ k = 7 ∨ k = 8 ∨ k = 9 ∨ k = 10 ∨ k = 11 ∨ k = 12 ∨ k = 13 ∨ k = 14 ∨ k = 15 := by omega
  · refine ⟨0, ?_, by omega⟩
    have d1 : ¬ ((0 : Nat) : Int) ≥ 4294967296 := by omega
    have d2 : ¬ ((0 : Nat) : Int) ≥ 65536 := by omega
    have d3 : ¬ ((0 : Nat) : Int) ≥ 256 := by omega
    simp -implicitDefEqProofs (disch := omega) only [↓c34_0_eq, d1, d2, d3, decide_true, decide_false, ↓cnd_true, ↓cnd_false, ↓Option.bind_some, ↓obH_some', bin_add, bin_sub, bin_mul, bin_lss, bin_leq, bin_gtr, bin_geq, bin_eql, bin_neq, un_not, un_neg, Option.bind_some, Option.bind_none, Option.map_some, cnd_true, cnd_false, pickV_true, pickV_false, gd_true, gd_false, gdV_true, gdV_false, gdH_true, gdH_false, gdS_true, gdS_false, wt_ff, wt_tt, wt_ft, wt_tf, wt_undef, obH_some', extractV_tuple, nilCheckV_ptr, againK_normal, againK_exit, againK_ret, blockK_normal, blockK_same, blockK_ret, seqK_normal, seqK_exit, seqK_ret, fin_done, if_true', if_false', Bool.not_true, Bool.not_false, idx0, idx1, idx2, idx3, idx4, chk_nil_l, chk_nil_r, done_nm, up_cons, up_nil, cond_true, cond_false, Nat.reduceBEq]
    refine Eq.trans ?_ (Eq.refl _)
    kernel_rfl
  · refine ⟨1, ?_, by omega⟩
    have d1 : ¬ ((1 : Nat) : Int) ≥ 4294967296 := by omega
    have d2 : ¬ ((1 : Nat) : Int) ≥ 65536 := by omega
    have d3 : ¬ ((1 : Nat) : Int) ≥ 256 := by omega
    simp -implicitDefEqProofs (disch := omega) only [↓c34_0_eq, d1, d2, d3, decide_true, decide_false, ↓cnd_true, ↓cnd_false, ↓Option.bind_some, ↓obH_some', bin_add, bin_sub, bin_mul, bin_lss, bin_leq, bin_gtr, bin_geq, bin_eql, bin_neq, un_not, un_neg, Option.bind_some, Option.bind_none, Option.map_some, cnd_true, cnd_false, pickV_true, pickV_false, gd_true, gd_false, gdV_true, gdV_false, gdH_true, gdH_false, gdS_true, gdS_false, wt_ff, wt_tt, wt_ft, wt_tf, wt_undef, obH_some', extractV_tuple, nilCheckV_ptr, againK_normal, againK_exit, againK_ret, blockK_normal, blockK_same, blockK_ret, seqK_normal, seqK_exit, seqK_ret, fin_done, if_true', if_false', Bool.not_true, Bool.not_false, idx0, idx1, idx2, idx3, idx4, chk_nil_l, chk_nil_r, done_nm, up_cons, up_nil, cond_true, cond_false, Nat.reduceBEq]
    refine Eq.trans ?_ (Eq.refl _)
    kernel_rfl
  · refine ⟨2, ?_, by omega⟩
    have d1 : ¬ ((2 : Nat) : Int) ≥ 4294967296 := by omega
    have d2 : ¬ ((2 : Nat) : Int) ≥ 65536 := by omega
    have d3 : ¬ ((2 : Nat) : Int) ≥ 256 := by omega
    simp -implicitDefEqProofs (disch := omega) only [↓c34_0_eq, d1, d2, d3, decide_true, decide_false, ↓cnd_true, ↓cnd_false, ↓Option.bind_some, ↓obH_some', bin_add, bin_sub, bin_mul, bin_lss, bin_leq, bin_gtr, bin_geq, bin_eql, bin_neq, un_not, un_neg, Option.bind_some, Option.bind_none, Option.map_some, cnd_true, cnd_false, pickV_true, pickV_false, gd_true, gd_false, gdV_true, gdV_false, gdH_true, gdH_false, gdS_true, gdS_false, wt_ff, wt_tt, wt_ft, wt_tf, wt_undef, obH_some', extractV_tuple, nilCheckV_ptr, againK_normal, againK_exit, againK_ret, blockK_normal, blockK_same, blockK_ret, seqK_normal, seqK_exit, seqK_ret, fin_done, if_true', if_false', Bool.not_true, Bool.not_false, idx0, idx1, idx2, idx3, idx4, chk_nil_l, chk_nil_r, done_nm, up_cons, up_nil, cond_true, cond_false, Nat.reduceBEq]
    refine Eq.trans ?_ (Eq.refl _)
    kernel_rfl
  · refine ⟨2, ?_, by omega⟩
    have d1 : ¬ ((3 : Nat) : Int) ≥ 4294967296 := by omega
    have d2 : ¬ ((3 : Nat) : Int) ≥ 65536 := by omega
    have d3 : ¬ ((3 : Nat) : Int) ≥ 256 := by omega
    simp -implicitDefEqProofs (disch := omega) only [↓c34_0_eq, d1, d2, d3, decide_true, decide_false, ↓cnd_true, ↓cnd_false, ↓Option.bind_some, ↓obH_some', bin_add, bin_sub, bin_mul, bin_lss, bin_leq, bin_gtr, bin_geq, bin_eql, bin_neq, un_not, un_neg, Option.bind_some, Option.bind_none, Option.map_some, cnd_true, cnd_false, pickV_true, pickV_false, gd_true, gd_false, gdV_true, gdV_false, gdH_true, gdH_false, gdS_true, gdS_false, wt_ff, wt_tt, wt_ft, wt_tf, wt_undef, obH_some', extractV_tuple, nilCheckV_ptr, againK_normal, againK_exit, againK_ret, blockK_normal, blockK_same, blockK_ret, seqK_normal, seqK_exit, seqK_ret, fin_done, if_true', if_false', Bool.not_true, Bool.not_false, idx0, idx1, idx2, idx3, idx4, chk_nil_l, chk_nil_r, done_nm, up_cons, up_nil, cond_true, cond_false, Nat.reduceBEq]
    refine Eq.trans ?_ (Eq.refl _)
    kernel_rfl
  · refine ⟨3, ?_, by omega⟩
    have d1 : ¬ ((4 : Nat) : Int) ≥ 4294967296 := by omega
    have d2 : ¬ ((4 : Nat) : Int) ≥ 65536 := by omega
    have d3 : ¬ ((4 : Nat) : Int) ≥ 256 := by omega
    simp -implicitDefEqProofs (disch := omega) only [↓c34_0_eq, d1, d2, d3, decide_true, decide_false, ↓cnd_true, ↓cnd_false, ↓Option.bind_some, ↓obH_some', bin_add, bin_sub, bin_mul, bin_lss, bin_leq, bin_gtr, bin_geq, bin_eql, bin_neq, un_not, un_neg, Option.bind_some, Option.bind_none, Option.map_some, cnd_true, cnd_false, pickV_true, pickV_false, gd_true, gd_false, gdV_true, gdV_false, gdH_true, gdH_false, gdS_true, gdS_false, wt_ff, wt_tt, wt_ft, wt_tf, wt_undef, obH_some', extractV_tuple, nilCheckV_ptr, againK_normal, againK_exit, againK_ret, blockK_normal, blockK_same, blockK_ret, seqK_normal, seqK_exit, seqK_ret, fin_done, if_true', if_false', Bool.not_true, Bool.not_false, idx0, idx1, idx2, idx3, idx4, chk_nil_l, chk_nil_r, done_nm, up_cons, up_nil, cond_true, cond_false, Nat.reduceBEq]
    refine Eq.trans ?_ (Eq.refl _)
    kernel_rfl
  · refine ⟨3, ?_, by omega⟩
    have d1 : ¬ ((5 : Nat) : Int) ≥ 4294967296 := by omega
    have d2 : ¬ ((5 : Nat) : Int) ≥ 65536 := by omega
    have d3 : ¬ ((5 : Nat) : Int) ≥ 256 := by omega
    simp -implicitDefEqProofs (disch := omega) only [↓c34_0_eq, d1, d2, d3, decide_true, decide_false, ↓cnd_true, ↓cnd_false, ↓Option.bind_some, ↓obH_some', bin_add, bin_sub, bin_mul, bin_lss, bin_leq, bin_gtr, bin_geq, bin_eql, bin_neq, un_not, un_neg, Option.bind_some, Option.bind_none, Option.map_some, cnd_true, cnd_false, pickV_true, pickV_false, gd_true, gd_false, gdV_true, gdV_false, gdH_true, gdH_false, gdS_true, gdS_false, wt_ff, wt_tt, wt_ft, wt_tf, wt_undef, obH_some', extractV_tuple, nilCheckV_ptr, againK_normal, againK_exit, againK_ret, blockK_normal, blockK_same, blockK_ret, seqK_normal, seqK_exit, seqK_ret, fin_done, if_true', if_false', Bool.not_true, Bool.not_false, idx0, idx1, idx2, idx3, idx4, chk_nil_l, chk_nil_r, done_nm, up_cons, up_nil, cond_true, cond_false, Nat.reduceBEq]
    refine Eq.trans ?_ (Eq.refl _)
    kernel_rfl
  · refine ⟨3, ?_, by omega⟩
    have d1 : ¬ ((6 : Nat) : Int) ≥ 4294967296 := by omega
    have d2 : ¬ ((6 : Nat) : Int) ≥ 65536 := by omega
    have d3 : ¬ ((6 : Nat) : Int) ≥ 256 := by omega
    simp -implicitDefEqProofs (disch := omega) only [↓c34_0_eq, d1, d2, d3, decide_true, decide_false, ↓cnd_true, ↓cnd_false, ↓Option.bind_some, ↓obH_some', bin_add, bin_sub, bin_mul, bin_lss, bin_leq, bin_gtr, bin_geq, bin_eql, bin_neq, un_not, un_neg, Option.bind_some, Option.bind_none, Option.map_some, cnd_true, cnd_false, pickV_true, pickV_false, gd_true, gd_false, gdV_true, gdV_false, gdH_true, gdH_false, gdS_true, gdS_false, wt_ff, wt_tt, wt_ft, wt_tf, wt_undef, obH_some', extractV_tuple, nilCheckV_ptr, againK_normal, againK_exit, againK_ret, blockK_normal, blockK_same, blockK_ret, seqK_normal, seqK_exit, seqK_ret, fin_done, if_true', if_false', Bool.not_true, Bool.not_false, idx0, idx1, idx2, idx3, idx4, chk_nil_l, chk_nil_r, done_nm, up_cons, up_nil, cond_true, cond_false, Nat.reduceBEq]
    refine Eq.trans ?_ (Eq.refl _)
    kernel_rfl
  · refine ⟨3, ?_, by omega⟩
    have d1 : ¬ ((7 : Nat) : Int) ≥ 4294967296 := by omega
    have d2 : ¬ ((7 : Nat) : Int) ≥ 65536 := by omega
    have d3 : ¬ ((7 : Nat) : Int) ≥ 256 := by omega
    simp -implicitDefEqProofs (disch := omega) only [↓c34_0_eq, d1, d2, d3, decide_true, decide_false, ↓cnd_true, ↓cnd_false, ↓Option.bind_some, ↓obH_some', bin_add, bin_sub, bin_mul, bin_lss, bin_leq, bin_gtr, bin_geq, bin_eql, bin_neq, un_not, un_neg, Option.bind_some, Option.bind_none, Option.map_some, cnd_true, cnd_false, pickV_true, pickV_false, gd_true, gd_false, gdV_true, gdV_false, gdH_true, gdH_false, gdS_true, gdS_false, wt_ff, wt_tt, wt_ft, wt_tf, wt_undef, obH_some', extractV_tuple, nilCheckV_ptr, againK_normal, againK_exit, againK_ret, blockK_normal, blockK_same, blockK_ret, seqK_normal, seqK_exit, seqK_ret, fin_done, if_true', if_false', Bool.not_true, Bool.not_false, idx0, idx1, idx2, idx3, idx4, chk_nil_l, chk_nil_r, done_nm, up_cons, up_nil, cond_true, cond_false, Nat.reduceBEq]
    refine Eq.trans ?_ (Eq.refl _)
    kernel_rfl
  · refine ⟨4, ?_, by omega⟩
    have d1 : ¬ ((8 : Nat) : Int) ≥ 4294967296 := by omega
    have d2 : ¬ ((8 : Nat) : Int) ≥ 65536 := by omega
    have d3 : ¬ ((8 : Nat) : Int) ≥ 256 := by omega
    simp -implicitDefEqProofs (disch := omega) only [↓c34_0_eq, d1, d2, d3, decide_true, decide_false, ↓cnd_true, ↓cnd_false, ↓Option.bind_some, ↓obH_some', bin_add, bin_sub, bin_mul, bin_lss, bin_leq, bin_gtr, bin_geq, bin_eql, bin_neq, un_not, un_neg, Option.bind_some, Option.bind_none, Option.map_some, cnd_true, cnd_false, pickV_true, pickV_false, gd_true, gd_false, gdV_true, gdV_false, gdH_true, gdH_false, gdS_true, gdS_false, wt_ff, wt_tt, wt_ft, wt_tf, wt_undef, obH_some', extractV_tuple, nilCheckV_ptr, againK_normal, againK_exit, againK_ret, blockK_normal, blockK_same, blockK_ret, seqK_normal, seqK_exit, seqK_ret, fin_done, if_true', if_false', Bool.not_true, Bool.not_false, idx0, idx1, idx2, idx3, idx4, chk_nil_l, chk_nil_r, done_nm, up_cons, up_nil, cond_true, cond_false, Nat.reduceBEq]
    refine Eq.trans ?_ (Eq.refl _)
    kernel_rfl
  · refine ⟨4, ?_, by omega⟩
    have d1 : ¬ ((9 : Nat) : Int) ≥ 4294967296 := by omega
    have d2 : ¬ ((9 : Nat) : Int) ≥ 65536 := by omega
    have d3 : ¬ ((9 : Nat) : Int) ≥ 256 := by omega
    simp -implicitDefEqProofs (disch := omega) only [↓c34_0_eq, d1, d2, d3, decide_true, decide_false, ↓cnd_true, ↓cnd_false, ↓Option.bind_some, ↓obH_some', bin_add, bin_sub, bin_mul, bin_lss, bin_leq, bin_gtr, bin_geq, bin_eql, bin_neq, un_not, un_neg, Option.bind_some, Option.bind_none, Option.map_some, cnd_true, cnd_false, pickV_true, pickV_false, gd_true, gd_false, gdV_true, gdV_false, gdH_true, gdH_false, gdS_true, gdS_false, wt_ff, wt_tt, wt_ft, wt_tf, wt_undef, obH_some', extractV_tuple, nilCheckV_ptr, againK_normal, againK_exit, againK_ret, blockK_normal, blockK_same, blockK_ret, seqK_normal, seqK_exit, seqK_ret, fin_done, if_true', if_false', Bool.not_true, Bool.not_false, idx0, idx1, idx2, idx3, idx4, chk_nil_l, chk_nil_r, done_nm, up_cons, up_nil, cond_true, cond_false, Nat.reduceBEq]
    refine Eq.trans ?_ (Eq.refl _)
    kernel_rfl
  · refine ⟨4, ?_, by omega⟩
    have d1 : ¬ ((10 : Nat) : Int) ≥ 4294967296 := by omega
    have d2 : ¬ ((10 : Nat) : Int) ≥ 65536 := by omega
    have d3 : ¬ ((10 : Nat) : Int) ≥ 256 := by omega
    simp -implicitDefEqProofs (disch := omega) only [↓c34_0_eq, d1, d2, d3, decide_true, decide_false, ↓cnd_true, ↓cnd_false, ↓Option.bind_some, ↓obH_some', bin_add, bin_sub, bin_mul, bin_lss, bin_leq, bin_gtr, bin_geq, bin_eql, bin_neq, un_not, un_neg, Option.bind_some, Option.bind_none, Option.map_some, cnd_true, cnd_false, pickV_true, pickV_false, gd_true, gd_false, gdV_true, gdV_false, gdH_true, gdH_false, gdS_true, gdS_false, wt_ff, wt_tt, wt_ft, wt_tf, wt_undef, obH_some', extractV_tuple, nilCheckV_ptr, againK_normal, againK_exit, againK_ret, blockK_normal, blockK_same, blockK_ret, seqK_normal, seqK_exit, seqK_ret, fin_done, if_true', if_false', Bool.not_true, Bool.not_false, idx0, idx1, idx2, idx3, idx4, chk_nil_l, chk_nil_r, done_nm, up_cons, up_nil, cond_true, cond_false, Nat.reduceBEq]
    refine Eq.trans ?_ (Eq.refl _)
    kernel_rfl
  · refine ⟨4, ?_, by omega⟩
    have d1 : ¬ ((11 : Nat) : Int) ≥ 4294967296 := by omega
    have d2 : ¬ ((11 : Nat) : Int) ≥ 65536 := by omega
    have d3 : ¬ ((11 : Nat) : Int) ≥ 256 := by omega
    simp -implicitDefEqProofs (disch := omega) only [↓c34_0_eq, d1, d2, d3, decide_true, decide_false, ↓cnd_true, ↓cnd_false, ↓Option.bind_some, ↓obH_some', bin_add, bin_sub, bin_mul, bin_lss, bin_leq, bin_gtr, bin_geq, bin_eql, bin_neq, un_not, un_neg, Option.bind_some, Option.bind_none, Option.map_some, cnd_true, cnd_false, pickV_true, pickV_false, gd_true, gd_false, gdV_true, gdV_false, gdH_true, gdH_false, gdS_true, gdS_false, wt_ff, wt_tt, wt_ft, wt_tf, wt_undef, obH_some', extractV_tuple, nilCheckV_ptr, againK_normal, againK_exit, againK_ret, blockK_normal, blockK_same, blockK_ret, seqK_normal, seqK_exit, seqK_ret, fin_done, if_true', if_false', Bool.not_true, Bool.not_false, idx0, idx1, idx2, idx3, idx4, chk_nil_l, chk_nil_r, done_nm, up_cons, up_nil, cond_true, cond_false, Nat.reduceBEq]
    refine Eq.trans ?_ (Eq.refl _)
    kernel_rfl
  · refine ⟨4, ?_, by omega⟩
    have d1 : ¬ ((12 : Nat) : Int) ≥ 4294967296 := by omega
    have d2 : ¬ ((12 : Nat) : Int) ≥ 65536 := by omega
    have d3 : ¬ ((12 : Nat) : Int) ≥ 256 := by omega
    simp -implicitDefEqProofs (disch := omega) only [↓c34_0_eq, d1, d2, d3, decide_true, decide_false, ↓cnd_true, ↓cnd_false, ↓Option.bind_some, ↓obH_some', bin_add, bin_sub, bin_mul, bin_lss, bin_leq, bin_gtr, bin_geq, bin_eql, bin_neq, un_not, un_neg, Option.bind_some, Option.bind_none, Option.map_some, cnd_true, cnd_false, pickV_true, pickV_false, gd_true, gd_false, gdV_true, gdV_false, gdH_true, gdH_false, gdS_true, gdS_false, wt_ff, wt_tt, wt_ft, wt_tf, wt_undef, obH_some', extractV_tuple, nilCheckV_ptr, againK_normal, againK_exit, againK_ret, blockK_normal, blockK_same, blockK_ret, seqK_normal, seqK_exit, seqK_ret, fin_done, if_true', if_false', Bool.not_true, Bool.not_false, idx0, idx1, idx2, idx3, idx4, chk_nil_l, chk_nil_r, done_nm, up_cons, up_nil, cond_true, cond_false, Nat.reduceBEq]
    refine Eq.trans ?_ (Eq.refl _)
    kernel_rfl
  · refine ⟨4, ?_, by omega⟩
    have d1 : ¬ ((13 : Nat) : Int) ≥ 4294967296 := by omega
    have d2 : ¬ ((13 : Nat) : Int) ≥ 65536 := by omega
    have d3 : ¬ ((13 : Nat) : Int) ≥ 256 := by omega
    simp -implicitDefEqProofs (disch := omega) only [↓c34_0_eq, d1, d2, d3, decide_true, decide_false, ↓cnd_true, ↓cnd_false, ↓Option.bind_some, ↓obH_some', bin_add, bin_sub, bin_mul, bin_lss, bin_leq, bin_gtr, bin_geq, bin_eql, bin_neq, un_not, un_neg, Option.bind_some, Option.bind_none, Option.map_some, cnd_true, cnd_false, pickV_true, pickV_false, gd_true, gd_false, gdV_true, gdV_false, gdH_true, gdH_false, gdS_true, gdS_false, wt_ff, wt_tt, wt_ft, wt_tf, wt_undef, obH_some', extractV_tuple, nilCheckV_ptr, againK_normal, againK_exit, againK_ret, blockK_normal, blockK_same, blockK_ret, seqK_normal, seqK_exit, seqK_ret, fin_done, if_true', if_false', Bool.not_true, Bool.not_false, idx0, idx1, idx2, idx3, idx4, chk_nil_l, chk_nil_r, done_nm, up_cons, up_nil, cond_true, cond_false, Nat.reduceBEq]
    refine Eq.trans ?_ (Eq.refl _)
    kernel_rfl
  · refine ⟨4, ?_, by omega⟩
    have d1 : ¬ ((14 : Nat) : Int) ≥ 4294967296 := by omega
    have d2 : ¬ ((14 : Nat) : Int) ≥ 65536 := by omega
    have d3 : ¬ ((14 : Nat) : Int) ≥ 256 := by omega
    simp -implicitDefEqProofs (disch := omega) only [↓c34_0_eq, d1, d2, d3, decide_true, decide_false, ↓cnd_true, ↓cnd_false, ↓Option.bind_some, ↓obH_some', bin_add, bin_sub, bin_mul, bin_lss, bin_leq, bin_gtr, bin_geq, bin_eql, bin_neq, un_not, un_neg, Option.bind_some, Option.bind_none, Option.map_some, cnd_true, cnd_false, pickV_true, pickV_false, gd_true, gd_false, gdV_true, gdV_false, gdH_true, gdH_false, gdS_true, gdS_false, wt_ff, wt_tt, wt_ft, wt_tf, wt_undef, obH_some', extractV_tuple, nilCheckV_ptr, againK_normal, againK_exit, againK_ret, blockK_normal, blockK_same, blockK_ret, seqK_normal, seqK_exit, seqK_ret, fin_done, if_true', if_false', Bool.not_true, Bool.not_false, idx0, idx1, idx2, idx3, idx4, chk_nil_l, chk_nil_r, done_nm, up_cons, up_nil, cond_true, cond_false, Nat.reduceBEq]
    refine Eq.trans ?_ (Eq.refl _)
    kernel_rfl
  · refine ⟨4, ?_, by omega⟩
    have d1 : ¬ ((15 : Nat) : Int) ≥ 4294967296 := by omega
    have d2 : ¬ ((15 : Nat) : Int) ≥ 65536 := by omega
    have d3 : ¬ ((15 : Nat) : Int) ≥ 256 := by omega
    simp -implicitDefEqProofs (disch := omega) only [↓c34_0_eq, d1, d2, d3, decide_true, decide_false, ↓cnd_true, ↓cnd_false, ↓Option.bind_some, ↓obH_some', bin_add, bin_sub, bin_mul, bin_lss, bin_leq, bin_gtr, bin_geq, bin_eql, bin_neq, un_not, un_neg, Option.bind_some, Option.bind_none, Option.map_some, cnd_true, cnd_false, pickV_true, pickV_false, gd_true, gd_false, gdV_true, gdV_false, gdH_true, gdH_false, gdS_true, gdS_false, wt_ff, wt_tt, wt_ft, wt_tf, wt_undef, obH_some', extractV_tuple, nilCheckV_ptr, againK_normal, againK_exit, againK_ret, blockK_normal, blockK_same, blockK_ret, seqK_normal, seqK_exit, seqK_ret, fin_done, if_true', if_false', Bool.not_true, Bool.not_false, idx0, idx1, idx2, idx3, idx4, chk_nil_l, chk_nil_r, done_nm, up_cons, up_nil, cond_true, cond_false, Nat.reduceBEq]
    refine Eq.trans ?_ (Eq.refl _)
    kernel_rfl
theorem spec_Len (k : Nat) (hk : k ≤ 15) (h : Heap) : ∃ m : Int, evC Try.prog 23 #[.int .u64 k] h = some (.int .i64 m, h) ∧ (k ≠ 0 → m ≠ 0) := by
  rw [call23]
  obtain ⟨m, e1, e2⟩ := spec_Len64 k hk (nm h)
  refine ⟨m, ?_, e2⟩
  simp -implicitDefEqProofs (disch := omega) only [↓c23_0_eq, e1, am_nm, nm_mods, List.nil_append, List.append_nil, ↓ret23, ↓cnd_true, ↓cnd_false, ↓Option.bind_some, ↓obH_some', bin_add, bin_sub, bin_mul, bin_lss, bin_leq, bin_gtr, bin_geq, bin_eql, bin_neq, un_not, un_neg, Option.bind_some, Option.bind_none, Option.map_some, cnd_true, cnd_false, pickV_true, pickV_false, gd_true, gd_false, gdV_true, gdV_false, gdH_true, gdH_false, gdS_true, gdS_false, wt_ff, wt_tt, wt_ft, wt_tf, wt_undef, obH_some', extractV_tuple, nilCheckV_ptr, againK_normal, againK_exit, againK_ret, blockK_normal, blockK_same, blockK_ret, seqK_normal, seqK_exit, seqK_ret, fin_done, if_true', if_false', Bool.not_true, Bool.not_false, idx0, idx1, idx2, idx3, idx4, chk_nil_l, chk_nil_r, done_nm, up_cons, up_nil, cond_true, cond_false, Nat.reduceBEq]
section
variable {p n c : Nat}
def SQ (p n : Nat) (g : Heap) (l : List Nat) (o : Option (Value × Heap)) : Prop :=
  ∃ h' m, o = some (.tuple #[], h') ∧ HMod (Just p) g h' ∧ NR h' p m ∧ Srt 0 n m ∧ Sw 0 n l m
theorem pdq_small {h : Heap} {l : List Nat} (hm : NR h p l) (hl : l.length = n) (hn : n < 2 ^ 40) {a b : Nat} (ha : a ≤ b) (hb : b ≤ n) (hs : b - a ≤ 12) (v : Value) :
    ∃ h' m, evC Try.prog 22 #[sv p n c, .int .i64 a, .int .i64 b, v] h = some (.tuple #[], h') ∧ HMod (Just p) h h' ∧ NR h' p m ∧ Srt a b m ∧ Sw a b l m := by
  rw [call22]
  obtain ⟨h', m, e1, e2, e3, e4, e5⟩ := spec_ins (c := c) hm.nm hl hn ha hb
  have w0 := wd b a (by omega) ha
  have d1 : ((b - a : Nat) : Int) ≤ 12 := by omega
  refine ⟨done h h', m, ?_, done_mod (e2.inn (Nat.le_refl h.blks.length) (fun _ _ x => x)), e3.done, e4, e5⟩
  simp -implicitDefEqProofs (disch := omega) only [↓c22_0_eq, ↓cnd_true, ↓cnd_false, ↓Option.bind_some, ↓obH_some', bin_add, bin_sub, bin_mul, bin_lss, bin_leq, bin_gtr, bin_geq, bin_eql, bin_neq, un_not, un_neg, Option.bind_some, Option.bind_none, Option.map_some, cnd_true, cnd_false, pickV_true, pickV_false, gd_true, gd_false, gdV_true, gdV_false, gdH_true, gdH_false, gdS_true, gdS_false, wt_ff, wt_tt, wt_ft, wt_tf, wt_undef, obH_some', extractV_tuple, nilCheckV_ptr, againK_normal, againK_exit, againK_ret, blockK_normal, blockK_same, blockK_ret, seqK_normal, seqK_exit, seqK_ret, fin_done, if_true', if_false', Bool.not_true, Bool.not_false, idx0, idx1, idx2, idx3, idx4, chk_nil_l, chk_nil_r, done_nm, up_cons, up_nil, cond_true, cond_false, Nat.reduceBEq]
  rw [lK_eq]
  simp -implicitDefEqProofs (disch := omega) only [↓c22_1_eq, w0, d1, e1, decide_true, ↓ret22, am_nm, nm_mods, List.nil_append, List.append_nil, ↓cnd_true, ↓cnd_false, ↓Option.bind_some, ↓obH_some', bin_add, bin_sub, bin_mul, bin_lss, bin_leq, bin_gtr, bin_geq, bin_eql, bin_neq, un_not, un_neg, Option.bind_some, Option.bind_none, Option.map_some, cnd_true, cnd_false, pickV_true, pickV_false, gd_true, gd_false, gdV_true, gdV_false, gdH_true, gdH_false, gdS_true, gdS_false, wt_ff, wt_tt, wt_ft, wt_tf, wt_undef, obH_some', extractV_tuple, nilCheckV_ptr, againK_normal, againK_exit, againK_ret, blockK_normal, blockK_same, blockK_ret, seqK_normal, seqK_exit, seqK_ret, fin_done, if_true', if_false', Bool.not_true, Bool.not_false, idx0, idx1, idx2, idx3, idx4, chk_nil_l, chk_nil_r, done_nm, up_cons, up_nil, cond_true, cond_false, Nat.reduceBEq]
theorem pdq_loop {g : Heap} {l : List Nat} (hl : l.length = n) (hn : n ≤ 15) (nd : l.Nodup) :
    ∀ (d a b : Nat), b - a ≤ d → a ≤ b → b ≤ n → ∀ (x : Nat → Value) (h : Heap) (m : List Nat) (w : Bool) (t : Int),In g.blks.length (Just p) (nm g) h → g.blks.length ≤ h.blks.length → NR h p m → Ord2 n a b m → Sw 0 n l m →
    x 0 = sv p n c → x 1 = .int .i64 a → x 2 = .int .i64 b → x 3 = .int .i64 t → t ≠ 0 → x 8 = .bool true → x 9 = .bool w →
    SQ p n g l (lK c22_1 134 x h (blockK 0 (retK Try.f22 Try.prog g))) := by
  intro d
  induction d with
  | zero =>
    intro a b e1 hab hbn x h m w t hin hn0 hm o sw Aa Ab Ac Ad ht Ai Aj
    obtain ⟨h', m', e1, e2, e3, e4, e5⟩ := spec_ins (c := c) hm (by rw [sw.len, hl]) (by omega) hab hbn
    have w0 := wd b a (by omega) hab
    have d1 : ((b - a : Nat) : Int) ≤ 12 := by omega
    rw [lK_eq]
    refine ⟨done g h', m', ?_, done_mod (hin.trans (e2.inn hn0 (fun _ _ x => x))), e3.done, o.done e5 e4 hbn, sw.trans (e5.wide (Nat.zero_le _) hbn (by rw [sw.len, hl]; exact Nat.le_refl _))⟩
    simp -implicitDefEqProofs (disch := omega) only [↓c22_1_eq,Aa,Ab,Ac, w0, d1, e1, decide_true, ↓ret22, ↓cnd_true, ↓cnd_false, ↓Option.bind_some, ↓obH_some', bin_add, bin_sub, bin_mul, bin_lss, bin_leq, bin_gtr, bin_geq, bin_eql, bin_neq, un_not, un_neg, Option.bind_some, Option.bind_none, Option.map_some, cnd_true, cnd_false, pickV_true, pickV_false, gd_true, gd_false, gdV_true, gdV_false, gdH_true, gdH_false, gdS_true, gdS_false, wt_ff, wt_tt, wt_ft, wt_tf, wt_undef, obH_some', extractV_tuple, nilCheckV_ptr, againK_normal, againK_exit, againK_ret, blockK_normal, blockK_same, blockK_ret, seqK_normal, seqK_exit, seqK_ret, fin_done, if_true', if_false', Bool.not_true, Bool.not_false, idx0, idx1, idx2, idx3, idx4, chk_nil_l, chk_nil_r, done_nm, up_cons, up_nil, cond_true, cond_false, Nat.reduceBEq]
  | succ d ih =>
    intro a b e1 hab hbn x h m w t hin hn0 hm o sw Aa Ab Ac Ad ht Ai Aj
    by_cases hs : b - a ≤ 12
    · obtain ⟨h', m', e1, e2, e3, e4, e5⟩ := spec_ins (c := c) hm (by rw [sw.len, hl]) (by omega) hab hbn
      have w0 := wd b a (by omega) hab
      have d1 : ((b - a : Nat) : Int) ≤ 12 := by omega
      rw [lK_eq]
      refine ⟨done g h', m', ?_, done_mod (hin.trans (e2.inn hn0 (fun _ _ x => x))), e3.done, o.done e5 e4 hbn, sw.trans (e5.wide (Nat.zero_le _) hbn (by rw [sw.len, hl]; exact Nat.le_refl _))⟩
      simp -implicitDefEqProofs (disch := omega) only [↓c22_1_eq,Aa,Ab,Ac, w0, d1, e1, decide_true, ↓ret22, ↓cnd_true, ↓cnd_false, ↓Option.bind_some, ↓obH_some', bin_add, bin_sub, bin_mul, bin_lss, bin_leq, bin_gtr, bin_geq, bin_eql, bin_neq, un_not, un_neg, Option.bind_some, Option.bind_none, Option.map_some, cnd_true, cnd_false, pickV_true, pickV_false, gd_true, gd_false, gdV_true, gdV_false, gdH_true, gdH_false, gdS_true, gdS_false, wt_ff, wt_tt, wt_ft, wt_tf, wt_undef, obH_some', extractV_tuple, nilCheckV_ptr, againK_normal, againK_exit, againK_ret, blockK_normal, blockK_same, blockK_ret, seqK_normal, seqK_exit, seqK_ret, fin_done, if_true', if_false', Bool.not_true, Bool.not_false, idx0, idx1, idx2, idx3, idx4, chk_nil_l, chk_nil_r, done_nm, up_cons, up_nil, cond_true, cond_false, Nat.reduceBEq]
    have ml : m.length = n := by rw [sw.len, hl]
    obtain ⟨h1, r, lo, hi', u, ev1, ex1, hu, r1, r2, lo1, lo2, _, _, lo3, _, lo4, _⟩ := spec_pivot (c := c) hm ml (by omega) (a := a) (b := b) (by omega) (by omega) hbn
    have hm1 := hm.ext ex1
    have mnd : m.Nodup := (sw.perm.nodup_iff).2 nd
    have lo5 : gt0 m lo < gt0 m r := by
      have := nodup_lt mnd (i := lo) (j := r) (by omega) (by omega) lo3
      omega
    obtain ⟨h2, m2, mid, al, ev2, md2, hm2, sw2, po, pv⟩ := spec_part (c := c) hm1 ml (by omega) r1 r2 hbn (by omega)
    have o2 := o.sw sw2 hbn
    have ml2 : m2.length = n := by rw [sw2.len, ml]
    have amid : a < mid := by
      obtain ⟨k, k1, k2, k3⟩ := Sw.ex sw2 (P := fun y => y < gt0 m r) ⟨lo, lo1, lo2, lo5⟩
      rcases Nat.lt_trichotomy k mid with hk | hk | hk
      · omega
      · subst hk; omega
      · have := po.2.2.2 k hk k2; omega
    have bmid := po.2.1
    have in2 : In g.blks.length (Just p) (nm g) h2 := (hin.trans (ex1.inn hn0)).trans (md2.inn (Nat.le_trans hn0 ex1.len) (fun _ _ x => x))
    have hn2 : g.blks.length ≤ h2.blks.length := Nat.le_trans hn0 (Nat.le_trans ex1.len md2.len)
    have swA : Sw 0 n l m2 := sw.trans (sw2.wide (Nat.zero_le _) hbn (by omega))
    have d1 : ¬ ((b - a : Nat) : Int) ≤ 12 := by omega
    have w0 := wd b a (by omega) hab
    have w1 := wd mid a (by omega) (by omega)
    have w2 := wd b mid (by omega) (by omega)
    have w3 := wa mid (by omega)
    have u8 := q8 (b - a) (by omega) (by omega)
    have c1 : ¬ (0 : Int) = 2 := by omega
    have c2 : ¬ (1 : Int) = 2 := by omega
    have c3 : ¬ (0 : Int) = 1 := by omega
    have bl : ((mid - a : Nat) : Int) ≥ 1 := by omega
    have br : ((b - mid : Nat) : Int) ≥ 1 := by omega
    have lk := lK_eq c22_1 134 x h (blockK 0 (retK Try.f22 Try.prog g))
    have fin1 : Srt a b m → SQ p n g l (some (.tuple #[], done g h1)) := fun s =>
      ⟨_, m, rfl, done_mod (hin.trans (ex1.inn hn0)), hm1.done, o.done (.refl m) s hbn, sw⟩
    by_cases hlr : mid - a < b - mid
    · obtain ⟨h3, m3, ev3, md3, hm3, st3, sw3⟩ := pdq_small (c := c) hm2 ml2 (by omega) (a := a) (b := mid) (by omega) (by omega) (by omega) (.int .i64 t)
      have d4 : ((mid - a : Nat) : Int) < ((b - mid : Nat) : Int) := by omega
      have in3 := in2.trans (md3.inn hn2 (fun _ _ x => x))
      have nx := fun x' w' (y0 : x' 0 = sv p n c) (y1 : x' 1 = .int .i64 ((mid + 1 : Nat) : Int)) (y2 : x' 2 = .int .i64 b) (y3 : x' 3 = .int .i64 t) (y8 : x' 8 = .bool true) (y9 : x' 9 = .bool w') =>
        ih (mid + 1) b (by omega) (by omega) hbn x' h3 m3 w' t in3 (Nat.le_trans hn2 md3.len) hm3 (o2.left po sw3 st3 hbn (by omega)) (swA.trans (sw3.wide (Nat.zero_le _) (by omega) (by omega))) y0 y1 y2 y3 ht y8 y9
      rcases hu with rfl | rfl
      · cases w
        · have vv := 0
          by_cases a0 : 0 < a
          · have d3 : (a : Int) > 0 := by omega
            have i1 := iaS p n c (a - 1) (by omega)
            have i2 := iaS p n c r (by omega)
            have l1 := hm1.at (i := a - 1) (by omega)
            have l2 := hm1.at (i := r) (by omega)
            have w4 := ws a (by omega) (by omega)
            have lt : gt0 m (a - 1) < gt0 m r := by
              have := nodup_lt mnd (i := a - 1) (j := r) (by omega) (by omega) (by omega)
              have := o (a - 1) r (by omega) (by omega) (.inl (by omega))
              omega
            have el := fun h => spec_Less (gt0 m (a - 1)) (gt0 m r) h
            rw [lk]
            simp -implicitDefEqProofs (disch := omega) only [↓c22_1_eq,Aa,Ab,Ac,Ad,Ai,Aj, w0, w1, w2, w3, d1, d4, ht, ev1, ev2, ev3, u8, c1, c2, c3, bl, br, decide_true, decide_false, c1, d3, i1, i2, vld64, l1, l2, w4, lt, el, ↓cnd_true, ↓cnd_false, ↓Option.bind_some, ↓obH_some', bin_add, bin_sub, bin_mul, bin_lss, bin_leq, bin_gtr, bin_geq, bin_eql, bin_neq, un_not, un_neg, Option.bind_some, Option.bind_none, Option.map_some, cnd_true, cnd_false, pickV_true, pickV_false, gd_true, gd_false, gdV_true, gdV_false, gdH_true, gdH_false, gdS_true, gdS_false, wt_ff, wt_tt, wt_ft, wt_tf, wt_undef, obH_some', extractV_tuple, nilCheckV_ptr, againK_normal, againK_exit, againK_ret, blockK_normal, blockK_same, blockK_ret, seqK_normal, seqK_exit, seqK_ret, fin_done, if_true', if_false', Bool.not_true, Bool.not_false, idx0, idx1, idx2, idx3, idx4, chk_nil_l, chk_nil_r, done_nm, up_cons, up_nil, cond_true, cond_false, Nat.reduceBEq]
            refine nx _ al ?_ ?_ ?_ ?_ ?_ ?_
            · first | rfl | exact Aa | exact Ab | exact Ac | exact Ad | exact Ai | exact Aj
            · first | rfl | exact Aa | exact Ab | exact Ac | exact Ad | exact Ai | exact Aj
            · first | rfl | exact Aa | exact Ab | exact Ac | exact Ad | exact Ai | exact Aj
            · first | rfl | exact Aa | exact Ab | exact Ac | exact Ad | exact Ai | exact Aj
            · first | rfl | exact Aa | exact Ab | exact Ac | exact Ad | exact Ai | exact Aj
            · first | rfl | exact Aa | exact Ab | exact Ac | exact Ad | exact Ai | exact Aj
          · have d3 : ¬ (a : Int) > 0 := by omega
            rw [lk]
            simp -implicitDefEqProofs (disch := omega) only [↓c22_1_eq,Aa,Ab,Ac,Ad,Ai,Aj, w0, w1, w2, w3, d1, d4, ht, ev1, ev2, ev3, u8, c1, c2, c3, bl, br, decide_true, decide_false, c1, d3, ↓cnd_true, ↓cnd_false, ↓Option.bind_some, ↓obH_some', bin_add, bin_sub, bin_mul, bin_lss, bin_leq, bin_gtr, bin_geq, bin_eql, bin_neq, un_not, un_neg, Option.bind_some, Option.bind_none, Option.map_some, cnd_true, cnd_false, pickV_true, pickV_false, gd_true, gd_false, gdV_true, gdV_false, gdH_true, gdH_false, gdS_true, gdS_false, wt_ff, wt_tt, wt_ft, wt_tf, wt_undef, obH_some', extractV_tuple, nilCheckV_ptr, againK_normal, againK_exit, againK_ret, blockK_normal, blockK_same, blockK_ret, seqK_normal, seqK_exit, seqK_ret, fin_done, if_true', if_false', Bool.not_true, Bool.not_false, idx0, idx1, idx2, idx3, idx4, chk_nil_l, chk_nil_r, done_nm, up_cons, up_nil, cond_true, cond_false, Nat.reduceBEq]
            refine nx _ al ?_ ?_ ?_ ?_ ?_ ?_
            · first | rfl | exact Aa | exact Ab | exact Ac | exact Ad | exact Ai | exact Aj
            · first | rfl | exact Aa | exact Ab | exact Ac | exact Ad | exact Ai | exact Aj
            · first | rfl | exact Aa | exact Ab | exact Ac | exact Ad | exact Ai | exact Aj
            · first | rfl | exact Aa | exact Ab | exact Ac | exact Ad | exact Ai | exact Aj
            · first | rfl | exact Aa | exact Ab | exact Ac | exact Ad | exact Ai | exact Aj
            · first | rfl | exact Aa | exact Ab | exact Ac | exact Ad | exact Ai | exact Aj
        · have vv := 0
          by_cases a0 : 0 < a
          · have d3 : (a : Int) > 0 := by omega
            have i1 := iaS p n c (a - 1) (by omega)
            have i2 := iaS p n c r (by omega)
            have l1 := hm1.at (i := a - 1) (by omega)
            have l2 := hm1.at (i := r) (by omega)
            have w4 := ws a (by omega) (by omega)
            have lt : gt0 m (a - 1) < gt0 m r := by
              have := nodup_lt mnd (i := a - 1) (j := r) (by omega) (by omega) (by omega)
              have := o (a - 1) r (by omega) (by omega) (.inl (by omega))
              omega
            have el := fun h => spec_Less (gt0 m (a - 1)) (gt0 m r) h
            rw [lk]
            simp -implicitDefEqProofs (disch := omega) only [↓c22_1_eq,Aa,Ab,Ac,Ad,Ai,Aj, w0, w1, w2, w3, d1, d4, ht, ev1, ev2, ev3, u8, c1, c2, c3, bl, br, decide_true, decide_false, c1, d3, i1, i2, vld64, l1, l2, w4, lt, el, ↓cnd_true, ↓cnd_false, ↓Option.bind_some, ↓obH_some', bin_add, bin_sub, bin_mul, bin_lss, bin_leq, bin_gtr, bin_geq, bin_eql, bin_neq, un_not, un_neg, Option.bind_some, Option.bind_none, Option.map_some, cnd_true, cnd_false, pickV_true, pickV_false, gd_true, gd_false, gdV_true, gdV_false, gdH_true, gdH_false, gdS_true, gdS_false, wt_ff, wt_tt, wt_ft, wt_tf, wt_undef, obH_some', extractV_tuple, nilCheckV_ptr, againK_normal, againK_exit, againK_ret, blockK_normal, blockK_same, blockK_ret, seqK_normal, seqK_exit, seqK_ret, fin_done, if_true', if_false', Bool.not_true, Bool.not_false, idx0, idx1, idx2, idx3, idx4, chk_nil_l, chk_nil_r, done_nm, up_cons, up_nil, cond_true, cond_false, Nat.reduceBEq]
            refine nx _ al ?_ ?_ ?_ ?_ ?_ ?_
            · first | rfl | exact Aa | exact Ab | exact Ac | exact Ad | exact Ai | exact Aj
            · first | rfl | exact Aa | exact Ab | exact Ac | exact Ad | exact Ai | exact Aj
            · first | rfl | exact Aa | exact Ab | exact Ac | exact Ad | exact Ai | exact Aj
            · first | rfl | exact Aa | exact Ab | exact Ac | exact Ad | exact Ai | exact Aj
            · first | rfl | exact Aa | exact Ab | exact Ac | exact Ad | exact Ai | exact Aj
            · first | rfl | exact Aa | exact Ab | exact Ac | exact Ad | exact Ai | exact Aj
          · have d3 : ¬ (a : Int) > 0 := by omega
            rw [lk]
            simp -implicitDefEqProofs (disch := omega) only [↓c22_1_eq,Aa,Ab,Ac,Ad,Ai,Aj, w0, w1, w2, w3, d1, d4, ht, ev1, ev2, ev3, u8, c1, c2, c3, bl, br, decide_true, decide_false, c1, d3, ↓cnd_true, ↓cnd_false, ↓Option.bind_some, ↓obH_some', bin_add, bin_sub, bin_mul, bin_lss, bin_leq, bin_gtr, bin_geq, bin_eql, bin_neq, un_not, un_neg, Option.bind_some, Option.bind_none, Option.map_some, cnd_true, cnd_false, pickV_true, pickV_false, gd_true, gd_false, gdV_true, gdV_false, gdH_true, gdH_false, gdS_true, gdS_false, wt_ff, wt_tt, wt_ft, wt_tf, wt_undef, obH_some', extractV_tuple, nilCheckV_ptr, againK_normal, againK_exit, againK_ret, blockK_normal, blockK_same, blockK_ret, seqK_normal, seqK_exit, seqK_ret, fin_done, if_true', if_false', Bool.not_true, Bool.not_false, idx0, idx1, idx2, idx3, idx4, chk_nil_l, chk_nil_r, done_nm, up_cons, up_nil, cond_true, cond_false, Nat.reduceBEq]
            refine nx _ al ?_ ?_ ?_ ?_ ?_ ?_
            · first | rfl | exact Aa | exact Ab | exact Ac | exact Ad | exact Ai | exact Aj
            · first | rfl | exact Aa | exact Ab | exact Ac | exact Ad | exact Ai | exact Aj
            · first | rfl | exact Aa | exact Ab | exact Ac | exact Ad | exact Ai | exact Aj
            · first | rfl | exact Aa | exact Ab | exact Ac | exact Ad | exact Ai | exact Aj
            · first | rfl | exact Aa | exact Ab | exact Ac | exact Ad | exact Ai | exact Aj
            · first | rfl | exact Aa | exact Ab | exact Ac | exact Ad | exact Ai | exact Aj
      · cases w
        · have vv := 0
          by_cases a0 : 0 < a
          · have d3 : (a : Int) > 0 := by omega
            have i1 := iaS p n c (a - 1) (by omega)
            have i2 := iaS p n c r (by omega)
            have l1 := hm1.at (i := a - 1) (by omega)
            have l2 := hm1.at (i := r) (by omega)
            have w4 := ws a (by omega) (by omega)
            have lt : gt0 m (a - 1) < gt0 m r := by
              have := nodup_lt mnd (i := a - 1) (j := r) (by omega) (by omega) (by omega)
              have := o (a - 1) r (by omega) (by omega) (.inl (by omega))
              omega
            have el := fun h => spec_Less (gt0 m (a - 1)) (gt0 m r) h
            rw [lk]
            simp -implicitDefEqProofs (disch := omega) only [↓c22_1_eq,Aa,Ab,Ac,Ad,Ai,Aj, w0, w1, w2, w3, d1, d4, ht, ev1, ev2, ev3, u8, c1, c2, c3, bl, br, decide_true, decide_false, c1, d3, i1, i2, vld64, l1, l2, w4, lt, el, ↓cnd_true, ↓cnd_false, ↓Option.bind_some, ↓obH_some', bin_add, bin_sub, bin_mul, bin_lss, bin_leq, bin_gtr, bin_geq, bin_eql, bin_neq, un_not, un_neg, Option.bind_some, Option.bind_none, Option.map_some, cnd_true, cnd_false, pickV_true, pickV_false, gd_true, gd_false, gdV_true, gdV_false, gdH_true, gdH_false, gdS_true, gdS_false, wt_ff, wt_tt, wt_ft, wt_tf, wt_undef, obH_some', extractV_tuple, nilCheckV_ptr, againK_normal, againK_exit, againK_ret, blockK_normal, blockK_same, blockK_ret, seqK_normal, seqK_exit, seqK_ret, fin_done, if_true', if_false', Bool.not_true, Bool.not_false, idx0, idx1, idx2, idx3, idx4, chk_nil_l, chk_nil_r, done_nm, up_cons, up_nil, cond_true, cond_false, Nat.reduceBEq]
            refine nx _ al ?_ ?_ ?_ ?_ ?_ ?_
            · first | rfl | exact Aa | exact Ab | exact Ac | exact Ad | exact Ai | exact Aj
            · first | rfl | exact Aa | exact Ab | exact Ac | exact Ad | exact Ai | exact Aj
            · first | rfl | exact Aa | exact Ab | exact Ac | exact Ad | exact Ai | exact Aj
            · first | rfl | exact Aa | exact Ab | exact Ac | exact Ad | exact Ai | exact Aj
            · first | rfl | exact Aa | exact Ab | exact Ac | exact Ad | exact Ai | exact Aj
            · first | rfl | exact Aa | exact Ab | exact Ac | exact Ad | exact Ai | exact Aj
          · have d3 : ¬ (a : Int) > 0 := by omega
            rw [lk]
            simp -implicitDefEqProofs (disch := omega) only [↓c22_1_eq,Aa,Ab,Ac,Ad,Ai,Aj, w0, w1, w2, w3, d1, d4, ht, ev1, ev2, ev3, u8, c1, c2, c3, bl, br, decide_true, decide_false, c1, d3, ↓cnd_true, ↓cnd_false, ↓Option.bind_some, ↓obH_some', bin_add, bin_sub, bin_mul, bin_lss, bin_leq, bin_gtr, bin_geq, bin_eql, bin_neq, un_not, un_neg, Option.bind_some, Option.bind_none, Option.map_some, cnd_true, cnd_false, pickV_true, pickV_false, gd_true, gd_false, gdV_true, gdV_false, gdH_true, gdH_false, gdS_true, gdS_false, wt_ff, wt_tt, wt_ft, wt_tf, wt_undef, obH_some', extractV_tuple, nilCheckV_ptr, againK_normal, againK_exit, againK_ret, blockK_normal, blockK_same, blockK_ret, seqK_normal, seqK_exit, seqK_ret, fin_done, if_true', if_false', Bool.not_true, Bool.not_false, idx0, idx1, idx2, idx3, idx4, chk_nil_l, chk_nil_r, done_nm, up_cons, up_nil, cond_true, cond_false, Nat.reduceBEq]
            refine nx _ al ?_ ?_ ?_ ?_ ?_ ?_
            · first | rfl | exact Aa | exact Ab | exact Ac | exact Ad | exact Ai | exact Aj
            · first | rfl | exact Aa | exact Ab | exact Ac | exact Ad | exact Ai | exact Aj
            · first | rfl | exact Aa | exact Ab | exact Ac | exact Ad | exact Ai | exact Aj
            · first | rfl | exact Aa | exact Ab | exact Ac | exact Ad | exact Ai | exact Aj
            · first | rfl | exact Aa | exact Ab | exact Ac | exact Ad | exact Ai | exact Aj
            · first | rfl | exact Aa | exact Ab | exact Ac | exact Ad | exact Ai | exact Aj
        · obtain ⟨rr, ev4, hr⟩ := spec_pin (c := c) hm1 ml (by omega) (a := a) (b := b) (by omega) hbn (by omega)
          cases rr
          · have vv := 0
            by_cases a0 : 0 < a
            · have d3 : (a : Int) > 0 := by omega
              have i1 := iaS p n c (a - 1) (by omega)
              have i2 := iaS p n c r (by omega)
              have l1 := hm1.at (i := a - 1) (by omega)
              have l2 := hm1.at (i := r) (by omega)
              have w4 := ws a (by omega) (by omega)
              have lt : gt0 m (a - 1) < gt0 m r := by
                have := nodup_lt mnd (i := a - 1) (j := r) (by omega) (by omega) (by omega)
                have := o (a - 1) r (by omega) (by omega) (.inl (by omega))
                omega
              have el := fun h => spec_Less (gt0 m (a - 1)) (gt0 m r) h
              rw [lk]
              simp -implicitDefEqProofs (disch := omega) only [↓c22_1_eq,Aa,Ab,Ac,Ad,Ai,Aj, w0, w1, w2, w3, d1, d4, ht, ev1, ev2, ev3, u8, c1, c2, c3, bl, br, decide_true, decide_false, ev4, d3, i1, i2, vld64, l1, l2, w4, lt, el, ↓cnd_true, ↓cnd_false, ↓Option.bind_some, ↓obH_some', bin_add, bin_sub, bin_mul, bin_lss, bin_leq, bin_gtr, bin_geq, bin_eql, bin_neq, un_not, un_neg, Option.bind_some, Option.bind_none, Option.map_some, cnd_true, cnd_false, pickV_true, pickV_false, gd_true, gd_false, gdV_true, gdV_false, gdH_true, gdH_false, gdS_true, gdS_false, wt_ff, wt_tt, wt_ft, wt_tf, wt_undef, obH_some', extractV_tuple, nilCheckV_ptr, againK_normal, againK_exit, againK_ret, blockK_normal, blockK_same, blockK_ret, seqK_normal, seqK_exit, seqK_ret, fin_done, if_true', if_false', Bool.not_true, Bool.not_false, idx0, idx1, idx2, idx3, idx4, chk_nil_l, chk_nil_r, done_nm, up_cons, up_nil, cond_true, cond_false, Nat.reduceBEq]
              refine nx _ al ?_ ?_ ?_ ?_ ?_ ?_
              · first | rfl | exact Aa | exact Ab | exact Ac | exact Ad | exact Ai | exact Aj
              · first | rfl | exact Aa | exact Ab | exact Ac | exact Ad | exact Ai | exact Aj
              · first | rfl | exact Aa | exact Ab | exact Ac | exact Ad | exact Ai | exact Aj
              · first | rfl | exact Aa | exact Ab | exact Ac | exact Ad | exact Ai | exact Aj
              · first | rfl | exact Aa | exact Ab | exact Ac | exact Ad | exact Ai | exact Aj
              · first | rfl | exact Aa | exact Ab | exact Ac | exact Ad | exact Ai | exact Aj
            · have d3 : ¬ (a : Int) > 0 := by omega
              rw [lk]
              simp -implicitDefEqProofs (disch := omega) only [↓c22_1_eq,Aa,Ab,Ac,Ad,Ai,Aj, w0, w1, w2, w3, d1, d4, ht, ev1, ev2, ev3, u8, c1, c2, c3, bl, br, decide_true, decide_false, ev4, d3, ↓cnd_true, ↓cnd_false, ↓Option.bind_some, ↓obH_some', bin_add, bin_sub, bin_mul, bin_lss, bin_leq, bin_gtr, bin_geq, bin_eql, bin_neq, un_not, un_neg, Option.bind_some, Option.bind_none, Option.map_some, cnd_true, cnd_false, pickV_true, pickV_false, gd_true, gd_false, gdV_true, gdV_false, gdH_true, gdH_false, gdS_true, gdS_false, wt_ff, wt_tt, wt_ft, wt_tf, wt_undef, obH_some', extractV_tuple, nilCheckV_ptr, againK_normal, againK_exit, againK_ret, blockK_normal, blockK_same, blockK_ret, seqK_normal, seqK_exit, seqK_ret, fin_done, if_true', if_false', Bool.not_true, Bool.not_false, idx0, idx1, idx2, idx3, idx4, chk_nil_l, chk_nil_r, done_nm, up_cons, up_nil, cond_true, cond_false, Nat.reduceBEq]
              refine nx _ al ?_ ?_ ?_ ?_ ?_ ?_
              · first | rfl | exact Aa | exact Ab | exact Ac | exact Ad | exact Ai | exact Aj
              · first | rfl | exact Aa | exact Ab | exact Ac | exact Ad | exact Ai | exact Aj
              · first | rfl | exact Aa | exact Ab | exact Ac | exact Ad | exact Ai | exact Aj
              · first | rfl | exact Aa | exact Ab | exact Ac | exact Ad | exact Ai | exact Aj
              · first | rfl | exact Aa | exact Ab | exact Ac | exact Ad | exact Ai | exact Aj
              · first | rfl | exact Aa | exact Ab | exact Ac | exact Ad | exact Ai | exact Aj
          · have q := fin1 (hr rfl)
            rw [lk]
            simp -implicitDefEqProofs (disch := omega) only [↓c22_1_eq,Aa,Ab,Ac,Ad,Ai,Aj, w0, w1, w2, w3, d1, d4, ht, ev1, ev2, ev3, u8, c1, c2, c3, bl, br, decide_true, decide_false, ev4, ↓ret22, ↓cnd_true, ↓cnd_false, ↓Option.bind_some, ↓obH_some', bin_add, bin_sub, bin_mul, bin_lss, bin_leq, bin_gtr, bin_geq, bin_eql, bin_neq, un_not, un_neg, Option.bind_some, Option.bind_none, Option.map_some, cnd_true, cnd_false, pickV_true, pickV_false, gd_true, gd_false, gdV_true, gdV_false, gdH_true, gdH_false, gdS_true, gdS_false, wt_ff, wt_tt, wt_ft, wt_tf, wt_undef, obH_some', extractV_tuple, nilCheckV_ptr, againK_normal, againK_exit, againK_ret, blockK_normal, blockK_same, blockK_ret, seqK_normal, seqK_exit, seqK_ret, fin_done, if_true', if_false', Bool.not_true, Bool.not_false, idx0, idx1, idx2, idx3, idx4, chk_nil_l, chk_nil_r, done_nm, up_cons, up_nil, cond_true, cond_false, Nat.reduceBEq]
            exact q
    · obtain ⟨h3, m3, ev3, md3, hm3, st3, sw3⟩ := pdq_small (c := c) hm2 ml2 (by omega) (a := mid + 1) (b := b) (by omega) hbn (by omega) (.int .i64 t)
      have d4 : ¬ ((mid - a : Nat) : Int) < ((b - mid : Nat) : Int) := by omega
      have in3 := in2.trans (md3.inn hn2 (fun _ _ x => x))
      have nx := fun x' w' (y0 : x' 0 = sv p n c) (y1 : x' 1 = .int .i64 a) (y2 : x' 2 = .int .i64 ((mid : Nat) : Int)) (y3 : x' 3 = .int .i64 t) (y8 : x' 8 = .bool true) (y9 : x' 9 = .bool w') =>
        ih a mid (by omega) (by omega) (by omega) x' h3 m3 w' t in3 (Nat.le_trans hn2 md3.len) hm3 (o2.right po sw3 st3 hbn (by omega)) (swA.trans (sw3.wide (Nat.zero_le _) (by omega) (by omega))) y0 y1 y2 y3 ht y8 y9
      rcases hu with rfl | rfl
      · cases w
        · have vv := 0
          by_cases a0 : 0 < a
          · have d3 : (a : Int) > 0 := by omega
            have i1 := iaS p n c (a - 1) (by omega)
            have i2 := iaS p n c r (by omega)
            have l1 := hm1.at (i := a - 1) (by omega)
            have l2 := hm1.at (i := r) (by omega)
            have w4 := ws a (by omega) (by omega)
            have lt : gt0 m (a - 1) < gt0 m r := by
              have := nodup_lt mnd (i := a - 1) (j := r) (by omega) (by omega) (by omega)
              have := o (a - 1) r (by omega) (by omega) (.inl (by omega))
              omega
            have el := fun h => spec_Less (gt0 m (a - 1)) (gt0 m r) h
            rw [lk]
            simp -implicitDefEqProofs (disch := omega) only [↓c22_1_eq,Aa,Ab,Ac,Ad,Ai,Aj, w0, w1, w2, w3, d1, d4, ht, ev1, ev2, ev3, u8, c1, c2, c3, bl, br, decide_true, decide_false, c1, d3, i1, i2, vld64, l1, l2, w4, lt, el, ↓cnd_true, ↓cnd_false, ↓Option.bind_some, ↓obH_some', bin_add, bin_sub, bin_mul, bin_lss, bin_leq, bin_gtr, bin_geq, bin_eql, bin_neq, un_not, un_neg, Option.bind_some, Option.bind_none, Option.map_some, cnd_true, cnd_false, pickV_true, pickV_false, gd_true, gd_false, gdV_true, gdV_false, gdH_true, gdH_false, gdS_true, gdS_false, wt_ff, wt_tt, wt_ft, wt_tf, wt_undef, obH_some', extractV_tuple, nilCheckV_ptr, againK_normal, againK_exit, againK_ret, blockK_normal, blockK_same, blockK_ret, seqK_normal, seqK_exit, seqK_ret, fin_done, if_true', if_false', Bool.not_true, Bool.not_false, idx0, idx1, idx2, idx3, idx4, chk_nil_l, chk_nil_r, done_nm, up_cons, up_nil, cond_true, cond_false, Nat.reduceBEq]
            refine nx _ al ?_ ?_ ?_ ?_ ?_ ?_
            · first | rfl | exact Aa | exact Ab | exact Ac | exact Ad | exact Ai | exact Aj
            · first | rfl | exact Aa | exact Ab | exact Ac | exact Ad | exact Ai | exact Aj
            · first | rfl | exact Aa | exact Ab | exact Ac | exact Ad | exact Ai | exact Aj
            · first | rfl | exact Aa | exact Ab | exact Ac | exact Ad | exact Ai | exact Aj
            · first | rfl | exact Aa | exact Ab | exact Ac | exact Ad | exact Ai | exact Aj
            · first | rfl | exact Aa | exact Ab | exact Ac | exact Ad | exact Ai | exact Aj
          · have d3 : ¬ (a : Int) > 0 := by omega
            rw [lk]
            simp -implicitDefEqProofs (disch := omega) only [↓c22_1_eq,Aa,Ab,Ac,Ad,Ai,Aj, w0, w1, w2, w3, d1, d4, ht, ev1, ev2, ev3, u8, c1, c2, c3, bl, br, decide_true, decide_false, c1, d3, ↓cnd_true, ↓cnd_false, ↓Option.bind_some, ↓obH_some', bin_add, bin_sub, bin_mul, bin_lss, bin_leq, bin_gtr, bin_geq, bin_eql, bin_neq, un_not, un_neg, Option.bind_some, Option.bind_none, Option.map_some, cnd_true, cnd_false, pickV_true, pickV_false, gd_true, gd_false, gdV_true, gdV_false, gdH_true, gdH_false, gdS_true, gdS_false, wt_ff, wt_tt, wt_ft, wt_tf, wt_undef, obH_some', extractV_tuple, nilCheckV_ptr, againK_normal, againK_exit, againK_ret, blockK_normal, blockK_same, blockK_ret, seqK_normal, seqK_exit, seqK_ret, fin_done, if_true', if_false', Bool.not_true, Bool.not_false, idx0, idx1, idx2, idx3, idx4, chk_nil_l, chk_nil_r, done_nm, up_cons, up_nil, cond_true, cond_false, Nat.reduceBEq]
            refine nx _ al ?_ ?_ ?_ ?_ ?_ ?_
            · first | rfl | exact Aa | exact Ab | exact Ac | exact Ad | exact Ai | exact Aj
            · first | rfl | exact Aa | exact Ab | exact Ac | exact Ad | exact Ai | exact Aj
            · first | rfl | exact Aa | exact Ab | exact Ac | exact Ad | exact Ai | exact Aj
            · first | rfl | exact Aa | exact Ab | exact Ac | exact Ad | exact Ai | exact Aj
            · first | rfl | exact Aa | exact Ab | exact Ac | exact Ad | exact Ai | exact Aj
            · first | rfl | exact Aa | exact Ab | exact Ac | exact Ad | exact Ai | exact Aj
        · have vv := 0
          by_cases a0 : 0 < a
          · have d3 : (a : Int) > 0 := by omega
            have i1 := iaS p n c (a - 1) (by omega)
            have i2 := iaS p n c r (by omega)
            have l1 := hm1.at (i := a - 1) (by omega)
            have l2 := hm1.at (i := r) (by omega)
            have w4 := ws a (by omega) (by omega)
            have lt : gt0 m (a - 1) < gt0 m r := by
              have := nodup_lt mnd (i := a - 1) (j := r) (by omega) (by omega) (by omega)
              have := o (a - 1) r (by omega) (by omega) (.inl (by omega))
              omega
            have el := fun h => spec_Less (gt0 m (a - 1)) (gt0 m r) h
            rw [lk]
            simp -implicitDefEqProofs (disch := omega) only [↓c22_1_eq,Aa,Ab,Ac,Ad,Ai,Aj, w0, w1, w2, w3, d1, d4, ht, ev1, ev2, ev3, u8, c1, c2, c3, bl, br, decide_true, decide_false, c1, d3, i1, i2, vld64, l1, l2, w4, lt, el, ↓cnd_true, ↓cnd_false, ↓Option.bind_some, ↓obH_some', bin_add, bin_sub, bin_mul, bin_lss, bin_leq, bin_gtr, bin_geq, bin_eql, bin_neq, un_not, un_neg, Option.bind_some, Option.bind_none, Option.map_some, cnd_true, cnd_false, pickV_true, pickV_false, gd_true, gd_false, gdV_true, gdV_false, gdH_true, gdH_false, gdS_true, gdS_false, wt_ff, wt_tt, wt_ft, wt_tf, wt_undef, obH_some', extractV_tuple, nilCheckV_ptr, againK_normal, againK_exit, againK_ret, blockK_normal, blockK_same, blockK_ret, seqK_normal, seqK_exit, seqK_ret, fin_done, if_true', if_false', Bool.not_true, Bool.not_false, idx0, idx1, idx2, idx3, idx4, chk_nil_l, chk_nil_r, done_nm, up_cons, up_nil, cond_true, cond_false, Nat.reduceBEq]
            refine nx _ al ?_ ?_ ?_ ?_ ?_ ?_
            · first | rfl | exact Aa | exact Ab | exact Ac | exact Ad | exact Ai | exact Aj
            · first | rfl | exact Aa | exact Ab | exact Ac | exact Ad | exact Ai | exact Aj
            · first | rfl | exact Aa | exact Ab | exact Ac | exact Ad | exact Ai | exact Aj
            · first | rfl | exact Aa | exact Ab | exact Ac | exact Ad | exact Ai | exact Aj
            · first | rfl | exact Aa | exact Ab | exact Ac | exact Ad | exact Ai | exact Aj
            · first | rfl | exact Aa | exact Ab | exact Ac | exact Ad | exact Ai | exact Aj
          · have d3 : ¬ (a : Int) > 0 := by omega
            rw [lk]
            simp -implicitDefEqProofs (disch := omega) only [↓c22_1_eq,Aa,Ab,Ac,Ad,Ai,Aj, w0, w1, w2, w3, d1, d4, ht, ev1, ev2, ev3, u8, c1, c2, c3, bl, br, decide_true, decide_false, c1, d3, ↓cnd_true, ↓cnd_false, ↓Option.bind_some, ↓obH_some', bin_add, bin_sub, bin_mul, bin_lss, bin_leq, bin_gtr, bin_geq, bin_eql, bin_neq, un_not, un_neg, Option.bind_some, Option.bind_none, Option.map_some, cnd_true, cnd_false, pickV_true, pickV_false, gd_true, gd_false, gdV_true, gdV_false, gdH_true, gdH_false, gdS_true, gdS_false, wt_ff, wt_tt, wt_ft, wt_tf, wt_undef, obH_some', extractV_tuple, nilCheckV_ptr, againK_normal, againK_exit, againK_ret, blockK_normal, blockK_same, blockK_ret, seqK_normal, seqK_exit, seqK_ret, fin_done, if_true', if_false', Bool.not_true, Bool.not_false, idx0, idx1, idx2, idx3, idx4, chk_nil_l, chk_nil_r, done_nm, up_cons, up_nil, cond_true, cond_false, Nat.reduceBEq]
            refine nx _ al ?_ ?_ ?_ ?_ ?_ ?_
            · first | rfl | exact Aa | exact Ab | exact Ac | exact Ad | exact Ai | exact Aj
            · first | rfl | exact Aa | exact Ab | exact Ac | exact Ad | exact Ai | exact Aj
            · first | rfl | exact Aa | exact Ab | exact Ac | exact Ad | exact Ai | exact Aj
            · first | rfl | exact Aa | exact Ab | exact Ac | exact Ad | exact Ai | exact Aj
            · first | rfl | exact Aa | exact Ab | exact Ac | exact Ad | exact Ai | exact Aj
            · first | rfl | exact Aa | exact Ab | exact Ac | exact Ad | exact Ai | exact Aj
      · cases w
        · have vv := 0
          by_cases a0 : 0 < a
          · have d3 : (a : Int) > 0 := by omega
            have i1 := iaS p n c (a - 1) (by omega)
            have i2 := iaS p n c r (by omega)
            have l1 := hm1.at (i := a - 1) (by omega)
            have l2 := hm1.at (i := r) (by omega)
            have w4 := ws a (by omega) (by omega)
            have lt : gt0 m (a - 1) < gt0 m r := by
              have := nodup_lt mnd (i := a - 1) (j := r) (by omega) (by omega) (by omega)
              have := o (a - 1) r (by omega) (by omega) (.inl (by omega))
              omega
            have el := fun h => spec_Less (gt0 m (a - 1)) (gt0 m r) h
            rw [lk]
            simp -implicitDefEqProofs (disch := omega) only [↓c22_1_eq,Aa,Ab,Ac,Ad,Ai,Aj, w0, w1, w2, w3, d1, d4, ht, ev1, ev2, ev3, u8, c1, c2, c3, bl, br, decide_true, decide_false, c1, d3, i1, i2, vld64, l1, l2, w4, lt, el, ↓cnd_true, ↓cnd_false, ↓Option.bind_some, ↓obH_some', bin_add, bin_sub, bin_mul, bin_lss, bin_leq, bin_gtr, bin_geq, bin_eql, bin_neq, un_not, un_neg, Option.bind_some, Option.bind_none, Option.map_some, cnd_true, cnd_false, pickV_true, pickV_false, gd_true, gd_false, gdV_true, gdV_false, gdH_true, gdH_false, gdS_true, gdS_false, wt_ff, wt_tt, wt_ft, wt_tf, wt_undef, obH_some', extractV_tuple, nilCheckV_ptr, againK_normal, againK_exit, againK_ret, blockK_normal, blockK_same, blockK_ret, seqK_normal, seqK_exit, seqK_ret, fin_done, if_true', if_false', Bool.not_true, Bool.not_false, idx0, idx1, idx2, idx3, idx4, chk_nil_l, chk_nil_r, done_nm, up_cons, up_nil, cond_true, cond_false, Nat.reduceBEq]
            refine nx _ al ?_ ?_ ?_ ?_ ?_ ?_
            · first | rfl | exact Aa | exact Ab | exact Ac | exact Ad | exact Ai | exact Aj
            · first | rfl | exact Aa | exact Ab | exact Ac | exact Ad | exact Ai | exact Aj
            · first | rfl | exact Aa | exact Ab | exact Ac | exact Ad | exact Ai | exact Aj
            · first | rfl | exact Aa | exact Ab | exact Ac | exact Ad | exact Ai | exact Aj
            · first | rfl | exact Aa | exact Ab | exact Ac | exact Ad | exact Ai | exact Aj
            · first | rfl | exact Aa | exact Ab | exact Ac | exact Ad | exact Ai | exact Aj
          · have d3 : ¬ (a : Int) > 0 := by omega
            rw [lk]
            simp -implicitDefEqProofs (disch := omega) only [↓c22_1_eq,Aa,Ab,Ac,Ad,Ai,Aj, w0, w1, w2, w3, d1, d4, ht, ev1, ev2, ev3, u8, c1, c2, c3, bl, br, decide_true, decide_false, c1, d3, ↓cnd_true, ↓cnd_false, ↓Option.bind_some, ↓obH_some', bin_add, bin_sub, bin_mul, bin_lss, bin_leq, bin_gtr, bin_geq, bin_eql, bin_neq, un_not, un_neg, Option.bind_some, Option.bind_none, Option.map_some, cnd_true, cnd_false, pickV_true, pickV_false, gd_true, gd_false, gdV_true, gdV_false, gdH_true, gdH_false, gdS_true, gdS_false, wt_ff, wt_tt, wt_ft, wt_tf, wt_undef, obH_some', extractV_tuple, nilCheckV_ptr, againK_normal, againK_exit, againK_ret, blockK_normal, blockK_same, blockK_ret, seqK_normal, seqK_exit, seqK_ret, fin_done, if_true', if_false', Bool.not_true, Bool.not_false, idx0, idx1, idx2, idx3, idx4, chk_nil_l, chk_nil_r, done_nm, up_cons, up_nil, cond_true, cond_false, Nat.reduceBEq]
            refine nx _ al ?_ ?_ ?_ ?_ ?_ ?_
            · first | rfl | exact Aa | exact Ab | exact Ac | exact Ad | exact Ai | exact Aj
            · first | rfl | exact Aa | exact Ab | exact Ac | exact Ad | exact Ai | exact Aj
            · first | rfl | exact Aa | exact Ab | exact Ac | exact Ad | exact Ai | exact Aj
            · first | rfl | exact Aa | exact Ab | exact Ac | exact Ad | exact Ai | exact Aj
            · first | rfl | exact Aa | exact Ab | exact Ac | exact Ad | exact Ai | exact Aj
            · first | rfl | exact Aa | exact Ab | exact Ac | exact Ad | exact Ai | exact Aj
        · obtain ⟨rr, ev4, hr⟩ := spec_pin (c := c) hm1 ml (by omega) (a := a) (b := b) (by omega) hbn (by omega)
          cases rr
          · have vv := 0
            by_cases a0 : 0 < a
            · have d3 : (a : Int) > 0 := by omega
              have i1 := iaS p n c (a - 1) (by omega)
              have i2 := iaS p n c r (by omega)
              have l1 := hm1.at (i := a - 1) (by omega)
              have l2 := hm1.at (i := r) (by omega)
              have w4 := ws a (by omega) (by omega)
              have lt : gt0 m (a - 1) < gt0 m r := by
                have := nodup_lt mnd (i := a - 1) (j := r) (by omega) (by omega) (by omega)
                have := o (a - 1) r (by omega) (by omega) (.inl (by omega))
                omega
              have el := fun h => spec_Less (gt0 m (a - 1)) (gt0 m r) h
              rw [lk]
              simp -implicitDefEqProofs (disch := omega) only [↓c22_1_eq,Aa,Ab,Ac,Ad,Ai,Aj, w0, w1, w2, w3, d1, d4, ht, ev1, ev2, ev3, u8, c1, c2, c3, bl, br, decide_true, decide_false, ev4, d3, i1, i2, vld64, l1, l2, w4, lt, el, ↓cnd_true, ↓cnd_false, ↓Option.bind_some, ↓obH_some', bin_add, bin_sub, bin_mul, bin_lss, bin_leq, bin_gtr, bin_geq, bin_eql, bin_neq, un_not, un_neg, Option.bind_some, Option.bind_none, Option.map_some, cnd_true, cnd_false, pickV_true, pickV_false, gd_true, gd_false, gdV_true, gdV_false, gdH_true, gdH_false, gdS_true, gdS_false, wt_ff, wt_tt, wt_ft, wt_tf, wt_undef, obH_some', extractV_tuple, nilCheckV_ptr, againK_normal, againK_exit, againK_ret, blockK_normal, blockK_same, blockK_ret, seqK_normal, seqK_exit, seqK_ret, fin_done, if_true', if_false', Bool.not_true, Bool.not_false, idx0, idx1, idx2, idx3, idx4, chk_nil_l, chk_nil_r, done_nm, up_cons, up_nil, cond_true, cond_false, Nat.reduceBEq]
              refine nx _ al ?_ ?_ ?_ ?_ ?_ ?_
              · first | rfl | exact Aa | exact Ab | exact Ac | exact Ad | exact Ai | exact Aj
              · first | rfl | exact Aa | exact Ab | exact Ac | exact Ad | exact Ai | exact Aj
              · first | rfl | exact Aa | exact Ab | exact Ac | exact Ad | exact Ai | exact Aj
              · first | rfl | exact Aa | exact Ab | exact Ac | exact Ad | exact Ai | exact Aj
              · first | rfl | exact Aa | exact Ab | exact Ac | exact Ad | exact Ai | exact Aj
              · first | rfl | exact Aa | exact Ab | exact Ac | exact Ad | exact Ai | exact Aj
            · have d3 : ¬ (a : Int) > 0 := by omega
              rw [lk]
              simp -implicitDefEqProofs (disch := omega) only [↓c22_1_eq,Aa,Ab,Ac,Ad,Ai,Aj, w0, w1, w2, w3, d1, d4, ht, ev1, ev2, ev3, u8, c1, c2, c3, bl, br, decide_true, decide_false, ev4, d3, ↓cnd_true, ↓cnd_false, ↓Option.bind_some, ↓obH_some', bin_add, bin_sub, bin_mul, bin_lss, bin_leq, bin_gtr, bin_geq, bin_eql, bin_neq, un_not, un_neg, Option.bind_some, Option.bind_none, Option.map_some, cnd_true, cnd_false, pickV_true, pickV_false, gd_true, gd_false, gdV_true, gdV_false, gdH_true, gdH_false, gdS_true, gdS_false, wt_ff, wt_tt, wt_ft, wt_tf, wt_undef, obH_some', extractV_tuple, nilCheckV_ptr, againK_normal, againK_exit, againK_ret, blockK_normal, blockK_same, blockK_ret, seqK_normal, seqK_exit, seqK_ret, fin_done, if_true', if_false', Bool.not_true, Bool.not_false, idx0, idx1, idx2, idx3, idx4, chk_nil_l, chk_nil_r, done_nm, up_cons, up_nil, cond_true, cond_false, Nat.reduceBEq]
              refine nx _ al ?_ ?_ ?_ ?_ ?_ ?_
              · first | rfl | exact Aa | exact Ab | exact Ac | exact Ad | exact Ai | exact Aj
              · first | rfl | exact Aa | exact Ab | exact Ac | exact Ad | exact Ai | exact Aj
              · first | rfl | exact Aa | exact Ab | exact Ac | exact Ad | exact Ai | exact Aj
              · first | rfl | exact Aa | exact Ab | exact Ac | exact Ad | exact Ai | exact Aj
              · first | rfl | exact Aa | exact Ab | exact Ac | exact Ad | exact Ai | exact Aj
              · first | rfl | exact Aa | exact Ab | exact Ac | exact Ad | exact Ai | exact Aj
          · have q := fin1 (hr rfl)
            rw [lk]
            simp -implicitDefEqProofs (disch := omega) only [↓c22_1_eq,Aa,Ab,Ac,Ad,Ai,Aj, w0, w1, w2, w3, d1, d4, ht, ev1, ev2, ev3, u8, c1, c2, c3, bl, br, decide_true, decide_false, ev4, ↓ret22, ↓cnd_true, ↓cnd_false, ↓Option.bind_some, ↓obH_some', bin_add, bin_sub, bin_mul, bin_lss, bin_leq, bin_gtr, bin_geq, bin_eql, bin_neq, un_not, un_neg, Option.bind_some, Option.bind_none, Option.map_some, cnd_true, cnd_false, pickV_true, pickV_false, gd_true, gd_false, gdV_true, gdV_false, gdH_true, gdH_false, gdS_true, gdS_false, wt_ff, wt_tt, wt_ft, wt_tf, wt_undef, obH_some', extractV_tuple, nilCheckV_ptr, againK_normal, againK_exit, againK_ret, blockK_normal, blockK_same, blockK_ret, seqK_normal, seqK_exit, seqK_ret, fin_done, if_true', if_false', Bool.not_true, Bool.not_false, idx0, idx1, idx2, idx3, idx4, chk_nil_l, chk_nil_r, done_nm, up_cons, up_nil, cond_true, cond_false, Nat.reduceBEq]
            exact q
theorem spec_Sort {h : Heap} {l : List Nat} (hm : NR h p l) (hl : l.length = n) (h0 : n ≠ 0) (hn : n ≤ 15) (nd : l.Nodup) :
    SQ p n h l (evC Try.prog 19 #[sv p n c] h) := by
  have key : ∀ t : Int, t ≠ 0 → SQ p n (nm h) l (evC Try.prog 22 #[sv p n c, .int .i64 0, .int .i64 n, .int .i64 t] (nm h)) := by
    intro t ht
    rw [call22]
    simp -implicitDefEqProofs (disch := omega) only [↓c22_0_eq, ↓cnd_true, ↓cnd_false, ↓Option.bind_some, ↓obH_some', bin_add, bin_sub, bin_mul, bin_lss, bin_leq, bin_gtr, bin_geq, bin_eql, bin_neq, un_not, un_neg, Option.bind_some, Option.bind_none, Option.map_some, cnd_true, cnd_false, pickV_true, pickV_false, gd_true, gd_false, gdV_true, gdV_false, gdH_true, gdH_false, gdS_true, gdS_false, wt_ff, wt_tt, wt_ft, wt_tf, wt_undef, obH_some', extractV_tuple, nilCheckV_ptr, againK_normal, againK_exit, againK_ret, blockK_normal, blockK_same, blockK_ret, seqK_normal, seqK_exit, seqK_ret, fin_done, if_true', if_false', Bool.not_true, Bool.not_false, idx0, idx1, idx2, idx3, idx4, chk_nil_l, chk_nil_r, done_nm, up_cons, up_nil, cond_true, cond_false, Nat.reduceBEq]
    refine pdq_loop (c := c) hl hn nd n 0 n (Nat.le_refl _) (Nat.zero_le _) (Nat.le_refl _) _ (nm (nm h)) l true t (In.refl (Nat.le_refl (nm h).blks.length)) (Nat.le_refl (nm h).blks.length) hm.nm.nm (.start n l) (.refl l) ?_ ?_ ?_ ?_ ht ?_ ?_
    all_goals rfl
  rw [call19]
  obtain ⟨m, e1, e2⟩ := spec_Len n hn (nm h)
  obtain ⟨h', m', g1, g2, g3, g4, g5⟩ := key m (e2 h0)
  have lnS : lenV Try.prog 32 (sv p n c) (nm h) = some (.int .i64 n) := by
    have hu : Try.prog.underlying 32 = some (.slice 30) := by kernel_rfl
    unfold lenV; rw [hu]
  have cv1 : convV Try.prog 3 67 (.int .i64 n) (nm h) = some (.int .u64 n, nm h) := conv_u64 (ks := .i64) (by kernel_rfl) (by kernel_rfl) _ _ _ (by omega) (by omega)
  refine ⟨done h h', m', ?_, done_mod (g2.inn (Nat.le_refl h.blks.length) (fun _ _ x => x)), g3.done, g4, g5⟩
  simp -implicitDefEqProofs (disch := omega) only [↓c19_0_eq, lnS, cv1, e1, g1, retN, am_nm, nm_mods, List.nil_append, List.append_nil, ret19, ↓cnd_true, ↓cnd_false, ↓Option.bind_some, ↓obH_some', bin_add, bin_sub, bin_mul, bin_lss, bin_leq, bin_gtr, bin_geq, bin_eql, bin_neq, un_not, un_neg, Option.bind_some, Option.bind_none, Option.map_some, cnd_true, cnd_false, pickV_true, pickV_false, gd_true, gd_false, gdV_true, gdV_false, gdH_true, gdH_false, gdS_true, gdS_false, wt_ff, wt_tt, wt_ft, wt_tf, wt_undef, obH_some', extractV_tuple, nilCheckV_ptr, againK_normal, againK_exit, againK_ret, blockK_normal, blockK_same, blockK_ret, seqK_normal, seqK_exit, seqK_ret, fin_done, if_true', if_false', Bool.not_true, Bool.not_false, idx0, idx1, idx2, idx3, idx4, chk_nil_l, chk_nil_r, done_nm, up_cons, up_nil, cond_true, cond_false, Nat.reduceBEq]
end
end Go.Am.Z
namespace Go.Am.Z
open Go.Proofs Go.RowKit
set_option maxRecDepth 100000
set_option linter.all false
section
attribute [local instance] xt0 gl0
attribute [local instance] xm0 xo0
attribute [local congr] obind_congr obH_congr cnd_congr chk_congr retK_congr codeK_congr
theorem ins_nil (v : Value) (h : Heap) : evC Try.prog 24 #[v, .int .i64 0, .int .i64 0] h = some (.tuple #[], h) := by
  rw [call24]
  have w1 : IntKind.i64.wrap (0 + 1) = 1 := rfl
  have d1 : ¬ (1 : Int) < 0 := by omega
  simp -implicitDefEqProofs (disch := omega) only [↓c24_0_eq, w1, ↓cnd_true, ↓cnd_false, ↓Option.bind_some, ↓obH_some', bin_add, bin_sub, bin_mul, bin_lss, bin_leq, bin_gtr, bin_geq, bin_eql, bin_neq, un_not, un_neg, Option.bind_some, Option.bind_none, Option.map_some, cnd_true, cnd_false, pickV_true, pickV_false, gd_true, gd_false, gdV_true, gdV_false, gdH_true, gdH_false, gdS_true, gdS_false, wt_ff, wt_tt, wt_ft, wt_tf, wt_undef, obH_some', extractV_tuple, nilCheckV_ptr, againK_normal, againK_exit, againK_ret, blockK_normal, blockK_same, blockK_ret, seqK_normal, seqK_exit, seqK_ret, fin_done, if_true', if_false', Bool.not_true, Bool.not_false, idx0, idx1, idx2, idx3, idx4, chk_nil_l, chk_nil_r, done_nm, up_cons, up_nil, cond_true, cond_false, Nat.reduceBEq]
  rw [lK_eq]
  simp -implicitDefEqProofs (disch := omega) only [↓c24_1_eq, d1, decide_false, retN, ret24, ↓cnd_true, ↓cnd_false, ↓Option.bind_some, ↓obH_some', bin_add, bin_sub, bin_mul, bin_lss, bin_leq, bin_gtr, bin_geq, bin_eql, bin_neq, un_not, un_neg, Option.bind_some, Option.bind_none, Option.map_some, cnd_true, cnd_false, pickV_true, pickV_false, gd_true, gd_false, gdV_true, gdV_false, gdH_true, gdH_false, gdS_true, gdS_false, wt_ff, wt_tt, wt_ft, wt_tf, wt_undef, obH_some', extractV_tuple, nilCheckV_ptr, againK_normal, againK_exit, againK_ret, blockK_normal, blockK_same, blockK_ret, seqK_normal, seqK_exit, seqK_ret, fin_done, if_true', if_false', Bool.not_true, Bool.not_false, idx0, idx1, idx2, idx3, idx4, chk_nil_l, chk_nil_r, done_nm, up_cons, up_nil, cond_true, cond_false, Nat.reduceBEq]
theorem pdq_nil (v : Value) (t : Int) (h : Heap) : evC Try.prog 22 #[v, .int .i64 0, .int .i64 0, .int .i64 t] h = some (.tuple #[], h) := by
  rw [call22]
  have w1 : IntKind.i64.wrap (0 - 0) = 0 := rfl
  have d1 : (0 : Int) ≤ 12 := by omega
  simp -implicitDefEqProofs (disch := omega) only [↓c22_0_eq, ↓cnd_true, ↓cnd_false, ↓Option.bind_some, ↓obH_some', bin_add, bin_sub, bin_mul, bin_lss, bin_leq, bin_gtr, bin_geq, bin_eql, bin_neq, un_not, un_neg, Option.bind_some, Option.bind_none, Option.map_some, cnd_true, cnd_false, pickV_true, pickV_false, gd_true, gd_false, gdV_true, gdV_false, gdH_true, gdH_false, gdS_true, gdS_false, wt_ff, wt_tt, wt_ft, wt_tf, wt_undef, obH_some', extractV_tuple, nilCheckV_ptr, againK_normal, againK_exit, againK_ret, blockK_normal, blockK_same, blockK_ret, seqK_normal, seqK_exit, seqK_ret, fin_done, if_true', if_false', Bool.not_true, Bool.not_false, idx0, idx1, idx2, idx3, idx4, chk_nil_l, chk_nil_r, done_nm, up_cons, up_nil, cond_true, cond_false, Nat.reduceBEq]
  rw [lK_eq]
  simp -implicitDefEqProofs (disch := omega) only [↓c22_1_eq, w1, d1, ins_nil, decide_true, ↓ret22, am_nm, nm_mods, List.nil_append, List.append_nil, ↓cnd_true, ↓cnd_false, ↓Option.bind_some, ↓obH_some', bin_add, bin_sub, bin_mul, bin_lss, bin_leq, bin_gtr, bin_geq, bin_eql, bin_neq, un_not, un_neg, Option.bind_some, Option.bind_none, Option.map_some, cnd_true, cnd_false, pickV_true, pickV_false, gd_true, gd_false, gdV_true, gdV_false, gdH_true, gdH_false, gdS_true, gdS_false, wt_ff, wt_tt, wt_ft, wt_tf, wt_undef, obH_some', extractV_tuple, nilCheckV_ptr, againK_normal, againK_exit, againK_ret, blockK_normal, blockK_same, blockK_ret, seqK_normal, seqK_exit, seqK_ret, fin_done, if_true', if_false', Bool.not_true, Bool.not_false, idx0, idx1, idx2, idx3, idx4, chk_nil_l, chk_nil_r, done_nm, up_cons, up_nil, cond_true, cond_false, Nat.reduceBEq]
theorem sort_nil (h : Heap) : evC Try.prog 19 #[.slice none 0 0] h = some (.tuple #[], h) := by
  rw [call19]
  obtain ⟨m, e1, _⟩ := spec_Len 0 (by omega) (nm h)
  have lnS : lenV Try.prog 32 (.slice none 0 0) (nm h) = some (.int .i64 0) := by kernel_rfl
  have cv1 : convV Try.prog 3 67 (.int .i64 0) (nm h) = some (.int .u64 0, nm h) := conv_u64 (ks := .i64) (by kernel_rfl) (by kernel_rfl) _ _ _ (by omega) (by omega)
  simp -implicitDefEqProofs (disch := omega) only [↓c19_0_eq, lnS, cv1, show ((0 : Nat) : Int) = 0 from rfl, show evC Try.prog 23 #[.int .u64 0] (nm h) = some (.int .i64 m, nm h) from e1, pdq_nil, retN, am_nm, nm_mods, List.nil_append, List.append_nil, ret19, ↓cnd_true, ↓cnd_false, ↓Option.bind_some, ↓obH_some', bin_add, bin_sub, bin_mul, bin_lss, bin_leq, bin_gtr, bin_geq, bin_eql, bin_neq, un_not, un_neg, Option.bind_some, Option.bind_none, Option.map_some, cnd_true, cnd_false, pickV_true, pickV_false, gd_true, gd_false, gdV_true, gdV_false, gdH_true, gdH_false, gdS_true, gdS_false, wt_ff, wt_tt, wt_ft, wt_tf, wt_undef, obH_some', extractV_tuple, nilCheckV_ptr, againK_normal, againK_exit, againK_ret, blockK_normal, blockK_same, blockK_ret, seqK_normal, seqK_exit, seqK_ret, fin_done, if_true', if_false', Bool.not_true, Bool.not_false, idx0, idx1, idx2, idx3, idx4, chk_nil_l, chk_nil_r, done_nm, up_cons, up_nil, cond_true, cond_false, Nat.reduceBEq]
theorem mixedS : Try.prog.follows .mixedOrders = true := by kernel_rfl
theorem does_nil (W : World) : Calls Try.prog fSo #[.slice none 0 0] W fun e W' => e = .returned (.tuple #[]) ∧ Below W.heap.size W W' := by
  have hA : ARel noE #[.slice none 0 0] #[.slice none 0 0] := ⟨rfl, fun i h1 h2 => by
    have : i = 0 := by simp at h1; omega
    subst this; exact .sliceNil⟩
  refine (evC_sound mixedS W.heap.size fSo #[.slice none 0 0] ⟨[], []⟩ _ _ noE W _ (sort_nil _) (rel_none _ (GlobW.none rfl _ _)) hA (fun b _ _ => rfl)).mono ?_
  rintro e W' ⟨v', E', rfl, h2, h3⟩
  obtain rfl : v' = .tuple #[] := h3.ground_eq (by simp [ground])
  exact ⟨rfl, h2.fr.os, h2.fr.tape, h2.fr.output, h2.fr.size, fun k hk => h2.fr.blk k hk fun ⟨b, kk, l, _, h1, _⟩ => by cases h1⟩
theorem srt_merge {n : Nat} {l m : List Nat} (hs : Srt 0 n m) (sw : Sw 0 n l m) (hl : l.length = n) : m = l.mergeSort := by
  have ml : m.length = n := by rw [sw.len, hl]
  subst ml
  have tr : ∀ a b c : Nat, decide (a ≤ b) = true → decide (b ≤ c) = true → decide (a ≤ c) = true := fun a b c h1 h2 => by simp at *; omega
  have to : ∀ a b : Nat, (decide (a ≤ b) || decide (b ≤ a)) = true := fun a b => by simp; omega
  refine List.Perm.eq_of_pairwise (le := fun a b => decide (a ≤ b) = true) (fun a b _ _ h1 h2 => ?_) (hs.sorted.imp fun h => by simpa using h) (List.pairwise_mergeSort tr to l) (sw.perm.trans (List.mergeSort_perm l _).symm)
  simp at h1 h2; omega
theorem does_row (W : World) (g cap : Nat) (cur : Array Value) (ns : List Nat) (hg : W.heap[g]? = some (.cells cur 30 (0, 0))) (h1 : ns.length ≤ cap) (h2 : cap ≤ maxLen) (h3 : cur.size = cap) (h4 : cur.toList.take ns.length = ns.map (fun n : Nat => kU (Int.ofNat n)))
    (hp : 1 ≤ ns.length) (h15 : ns.length ≤ 15) (nd : ns.Nodup) :
    Calls Try.prog fSo #[.slice (some ⟨g, 0, none⟩) ns.length cap] W fun e W' => e = .returned (.tuple #[]) ∧ SoAt W' g cap ns ∧ But g W W' := by
  have hlt : g < W.heap.size := (Array.getElem?_eq_some_iff.1 hg).1
  let E : Env := fun b => if b = 0 then some ⟨g, 0, cap, 1⟩ else none
  let hh : Heap := ⟨[⟨.cells (ns.map natV), 30, true⟩], []⟩
  have e0 : E 0 = some ⟨g, 0, cap, 1⟩ := rfl
  have eo : ∀ b l, E b = some l → b = 0 ∧ l = ⟨g, 0, cap, 1⟩ := fun b l h => by
    show b = 0 ∧ _
    by_cases hb : b = 0
    · subst hb; rw [e0] at h; cases h; exact ⟨rfl, rfl⟩
    · have : E b = none := if_neg hb
      rw [this] at h; cases h
  have hsz : sizeT Try.prog 30 = some 1 := by kernel_rfl
  have hk0 : ∀ b k, hh.blks[b]? = some k → b = 0 ∧ k = ⟨.cells (ns.map natV), 30, true⟩ := fun b k h => by
    match b, h with
    | 0, h => cases h; exact ⟨rfl, rfl⟩
    | b + 1, h => cases h
  have hcell : ∀ (i : Nat) v, (ns.map natV)[i]? = some v → W.cell? ⟨g, i, none⟩ = some v := fun i v hv => by
    obtain ⟨hi, _⟩ := List.getElem?_eq_some_iff.1 hv
    rw [List.length_map] at hi
    have : (cur.toList.take ns.length)[i]? = some v := by rw [h4]; exact hv
    rw [List.getElem?_take, if_pos hi] at this
    simp only [World.cell?, hg]
    simpa using this
  have hR : Rel Try.prog 0 E hh W := by
    refine ⟨fun b k l hk hl => ?_, fun _ _ _ _ _ _ => Nat.zero_le _, fun b k l hk hl ho => ?_, fun b l hl => ?_, fun b b2 k k2 l l2 hk hk2 _ _ _ _ _ _ _ => ?_, GlobW.none rfl _ _, Nat.zero_le _⟩
    · obtain ⟨rfl, rfl⟩ := hk0 b k hk
      obtain ⟨_, rfl⟩ := eo _ _ hl
      refine ⟨hsz, fun i v hv => ⟨v, by rw [Nat.zero_add]; exact hcell i v hv, ?_⟩, fun _ => ⟨cur, _, 0, 0, hg, h3, hsz, .inl rfl⟩⟩
      rw [List.getElem?_map] at hv
      obtain ⟨x, _, rfl⟩ := Option.map_eq_some_iff.1 hv
      exact .int _ _
    · obtain ⟨rfl, rfl⟩ := hk0 b k hk
      cases ho
    · obtain ⟨_, rfl⟩ := eo _ _ hl
      exact hlt
    · rw [(hk0 b k hk).1, (hk0 b2 k2 hk2).1]
  obtain ⟨h', m, ev, _, hm, hs, sw⟩ := spec_Sort (p := 0) (n := ns.length) (c := UNK) (h := hh) (l := ns) (show Cells hh 0 30 (ns.map natV) from rfl) rfl (by omega) h15 nd
  have hA : ARel E #[sv 0 ns.length UNK] #[.slice (some ⟨g, 0, none⟩) ns.length cap] := ⟨rfl, fun i h1' h2' => by
    have : i = 0 := by simp at h1'; omega
    subst this
    have := VR.slice (E := E) (b := 0) (o := 0) (n := ns.length) (c := UNK) (c' := cap) e0 (.inl rfl) h1 (fun _ => by simp)
    simpa using this⟩
  have hfree : Free E hh h' := fun b hb _ => by
    have : b ≠ 0 := by have : hh.blks.length = 1 := rfl; omega
    exact if_neg this
  refine (evC_sound mixedS 0 fSo #[sv 0 ns.length UNK] hh _ _ E W _ ev hR hA hfree).mono ?_
  rintro e W' ⟨v', E', rfl, p, h3'⟩
  obtain rfl : v' = .tuple #[] := h3'.ground_eq (by simp [ground])
  have hb := p.rel.blk 0 _ _ hm (p.ext 0 _ e0)
  obtain ⟨_, b2, b3⟩ := hb
  obtain ⟨cs, e, lo, hi, q1, q2, _, q4⟩ := b3 rfl
  refine ⟨rfl, ⟨m, cs, e, lo, hi, srt_merge hs sw rfl, q1, q2, ?_, fun i v hv => ?_⟩, p.fr.os, p.fr.tape, p.fr.output, p.fr.size, fun k hk hne => p.fr.blk k hk fun ⟨b, kk, l, _, hl, _, _, hc⟩ => ?_⟩
  · rcases q4 with q | q
    · exact .inl q
    · exact .inr q.1
  · obtain ⟨v2, c1, c2⟩ := b2 i (natV v) (by rw [List.getElem?_map, hv]; rfl)
    rw [Nat.zero_add] at c1
    have : v2 = natV v := c2.ground_eq rfl
    rw [c1, this]; rfl
  · obtain ⟨_, rfl⟩ := eo _ _ hl
    exact hne hc.symm
theorem sort_does : SortDoes := ⟨does_nil, does_row⟩
end
end Go.Am.Z
namespace Go.Am
open Go.Proofs Go.RowKit
set_option maxRecDepth 100000
set_option linter.all false
theorem Post.same {P : Program} [Gl P] {base : Nat} {E : Env} {h : Heap} {w w' : World} (hR : Rel P base E h w) (hw : Below w.heap.size w w') : Post P base E h w E h w' :=
  ⟨Ext.refl _, fun _ h0 h1 => absurd h0 h1, ⟨fun b k l hk hl => (hR.blk b k l hk hl).congr (Ext.refl _) (hw.block _ (hR.bnd b l hl)), hR.low, hR.ro, fun b l hl => Nat.lt_of_lt_of_le (hR.bnd b l hl) hw.size, hR.inj, hR.glob.keep fun c hc => hw.block c (Nat.lt_of_lt_of_le hc hR.base), Nat.le_trans hR.base hw.size⟩,
    ⟨hw.os, hw.tape, hw.output, hw.size, fun c hc _ => hw.block c hc, Nat.le_refl _⟩, fun b k l h0 h1 => by rw [h0] at h1; cases h1⟩
theorem Post.newB {P : Program} [Gl P] {base : Nat} {E : Env} {h : Heap} {w w' : World} (hR : Rel P base E h w) (hf : E h.blks.length = none) (body : Body) (ty : TypeId) (l : Loc) (hl : w.heap.size ≤ l.cb) (hl2 : l.cb < w'.heap.size) (hw : Below w.heap.size w w')
    (hb : BlkR P E ⟨body, ty, true⟩ l w') : Post P base E h w (E.upd h.blks.length l) (h.new body ty) w' := by
  have hext := Env.upd_ext (l := l) hf
  have hE : ∀ b l', E.upd h.blks.length l b = some l' → (b = h.blks.length ∧ l' = l) ∨ (b ≠ h.blks.length ∧ E b = some l') := fun b l' he => by
    by_cases e : b = h.blks.length
    · subst e; rw [Env.upd_same] at he; cases he; exact .inl ⟨rfl, rfl⟩
    · rw [Env.upd_other _ _ e] at he; exact .inr ⟨e, he⟩
  refine ⟨hext, fun b h0 hn => ?_, ⟨fun b k l' hk he => ?_, fun b k l' hk he ho => ?_, fun b k l' hk he ho => ?_, fun b l' he => ?_, fun b b2 k k2 l1 l2 hk hk2 he he2 ho ho2 hv hv2 hc => ?_, hR.glob.keep fun c hc => hw.block c (Nat.lt_of_lt_of_le hc hR.base), Nat.le_trans hR.base hw.size⟩,
    ⟨hw.os, hw.tape, hw.output, hw.size, fun c hc _ => hw.block c hc, Nat.le_refl _⟩, fun b k l' h0 he hk ho hv => ?_⟩
  · by_cases e : b = h.blks.length
    · subst e; exact ⟨Nat.le_refl _, by rw [Heap.new_len]; omega⟩
    · rw [Env.upd_other _ _ e] at hn; exact absurd h0 hn
  · rcases Heap.new_get hk with ⟨hlt, hk⟩ | ⟨rfl, rfl⟩
    · rcases hE b l' he with ⟨rfl, _⟩ | ⟨_, he⟩
      · omega
      · exact (hR.blk b k l' hk he).congr hext (hw.block _ (hR.bnd b l' he))
    · rw [Env.upd_same] at he; cases he
      exact hb.congr hext rfl
  · rcases Heap.new_get hk with ⟨hlt, hk⟩ | ⟨rfl, rfl⟩
    · rcases hE b l' he with ⟨rfl, _⟩ | ⟨_, he⟩
      · omega
      · exact hR.low b k l' hk he ho
    · rw [Env.upd_same] at he; cases he; exact Nat.le_trans hR.base hl
  · rcases Heap.new_get hk with ⟨hlt, hk⟩ | ⟨rfl, rfl⟩
    · rcases hE b l' he with ⟨rfl, _⟩ | ⟨_, he⟩
      · omega
      · exact hR.ro b k l' hk he ho
    · cases ho
  · rcases hE b l' he with ⟨rfl, rfl⟩ | ⟨_, he⟩
    · exact hl2
    · exact Nat.lt_of_lt_of_le (hR.bnd b l' he) hw.size
  · rcases Heap.new_get hk with ⟨hlt, hk⟩ | ⟨rfl, rfl⟩ <;> rcases Heap.new_get hk2 with ⟨hlt2, hk2⟩ | ⟨rfl, rfl⟩
    · rcases hE b l1 he with ⟨rfl, _⟩ | ⟨_, he⟩
      · omega
      · rcases hE b2 l2 he2 with ⟨rfl, _⟩ | ⟨_, he2⟩
        · omega
        · exact hR.inj b b2 k k2 l1 l2 hk hk2 he he2 ho ho2 hv hv2 hc
    · rw [Env.upd_same] at he2; cases he2
      rcases hE b l1 he with ⟨rfl, _⟩ | ⟨_, he⟩
      · rfl
      · have := hR.bnd b l1 he; omega
    · rw [Env.upd_same] at he; cases he
      rcases hE b2 l2 he2 with ⟨rfl, _⟩ | ⟨_, he2⟩
      · rfl
      · have := hR.bnd b2 l2 he2; omega
    · rfl
  · rcases hE b l' he with ⟨rfl, rfl⟩ | ⟨_, he⟩
    · exact .inl hl
    · rw [h0] at he; cases he
theorem keysN_at : ∀ {es : List (Value × Value)} {ks : List Nat}, keysN es = some ks → es.length = ks.length ∧ ∀ (i : Nat) e, es[i]? = some e → ∃ n, ks[i]? = some n ∧ e.1 = natV n ∧ n < 2 ^ 64
  | [], ks, h => by cases h; exact ⟨rfl, fun i e he => by simp at he⟩
  | (.int .u64 n, v) :: es, ks, h => by
    simp only [keysN] at h
    split at h
    · rename_i hc
      obtain ⟨ks', h1, rfl⟩ := Option.map_eq_some_iff.1 h
      obtain ⟨h2, h3⟩ := keysN_at h1
      refine ⟨by simp [h2], fun i e he => ?_⟩
      cases i with
      | zero => cases he; exact ⟨n.toNat, rfl, by unfold natV; rw [Int.toNat_of_nonneg hc.1], by omega⟩
      | succ i => exact h3 i e he
    · cases h
theorem keyU (n : Nat) (h : n < 2 ^ 64) : keyOf Try.prog 30 (natV n) = some (lU n) := by
  simp [keyOf, kU_under, mapKey, natV, Lit.wf]
  exact ⟨by show (0 : Int) ≤ n; omega, by show (n : Int) ≤ 18446744073709551615; omega⟩
theorem natV_inj {E : Env} {n : Nat} {v : Value} (h : VR E (natV n) v) : v = natV n := h.ground_eq rfl
abbrev RR : Value → Option (DataW Unit × List MemPlace) := fun _ => some (.nil, [])
theorem held_sound (base : Nat) (args : Array Value) (h : Heap) (v : Value) (h' : Heap) (E : Env) (w : World) (args' : Array Value) (hv : heldX args h = some (v, h')) (hR : Rel Try.prog base E h w) (ha : ARel E args args') (hfree : Free E h h') :
    Calls Try.prog 10 args' w fun e w' => ∃ v' E', e = .returned v' ∧ Post Try.prog base E h w E' h' w' ∧ VR E' v v' := by
  obtain ⟨p, r, es, rfl, hl1, hmp, hres⟩ := heldX_h hv
  obtain ⟨l, rfl, hEp⟩ : ∃ l : Loc, args' = #[.pointer (some ⟨l.cb, l.s, none⟩)] ∧ E p = some l := by
    obtain ⟨a'⟩ := args'
    have hs := ha.1
    match a', hs with
    | [x], _ =>
      have := ha.2 0 (by simp) (by simp)
      simp only [List.getElem_toArray, List.getElem_cons_zero] at this
      cases this with
      | ptr he => exact ⟨_, rfl, he⟩
  have hkp : ∃ cs ty ow, h.blks[p]? = some ⟨.cells cs, ty, ow⟩ ∧ cs[2]? = some (.map (some r)) := by
    unfold Heap.load1 Heap.cells? at hl1
    split at hl1
    · rename_i cs hc
      split at hc
      · rename_i cs' ty ow hk
        cases hc
        exact ⟨cs, ty, ow, hk, hl1⟩
      · cases hc
    · cases hl1
  obtain ⟨cs, ty, ow, hk, hc2⟩ := hkp
  obtain ⟨_, hcell, _⟩ := hR.blk p _ l hk hEp
  obtain ⟨v2, hcv, hv2⟩ := hcell 2 _ hc2
  obtain ⟨lr, rfl, hEr⟩ : ∃ lr : Loc, v2 = .map (some lr.cb) ∧ E r = some lr := by
    cases hv2 with
    | map he => exact ⟨_, rfl, he⟩
  obtain ⟨es', clock, hheap, ⟨hlen, her⟩, hst⟩ := map_readS hR hmp hEr
  obtain ⟨ks, hks, hkn, hk15⟩ : ∃ ks, keysN es = some ks ∧ ks.Nodup ∧ ks.length ≤ 15 := by
    rcases hres with ⟨h1, _⟩ | ⟨k, ks, h1, h2, h3, _⟩
    · exact ⟨[], h1, List.nodup_nil, by simp⟩
    · exact ⟨k :: ks, h1, h2, by simp; omega⟩
  obtain ⟨hkl, hka⟩ := keysN_at hks
  have hsz : es'.size = ks.length := by omega
  -- each entry's key is one of the numbers
  have hent : ∀ x ∈ es'.toList, ∃ n, n ∈ ks ∧ x.key = natV n ∧ n < 2 ^ 64 := fun x hx => by
    obtain ⟨i, hi, rfl⟩ := List.getElem_of_mem hx
    have hi' : i < es'.size := by simpa using hi
    obtain ⟨n, h1, h2, h3⟩ := hka i es[i] (List.getElem?_eq_getElem (by omega))
    have := (her i es[i] es'[i] (List.getElem?_eq_getElem (by omega)) (Array.getElem?_eq_getElem hi')).1
    rw [h2] at this
    exact ⟨n, List.mem_of_getElem? h1, by simpa using natV_inj this, h3⟩
  have hkey : ∀ n ∈ ks, ∃ x ∈ es'.toList, x.key = natV n ∧ n < 2 ^ 64 := fun n hn => by
    obtain ⟨i, hi, rfl⟩ := List.getElem_of_mem hn
    obtain ⟨n', h1, h2, h3⟩ := hka i es[i] (List.getElem?_eq_getElem (by omega))
    rw [List.getElem?_eq_getElem hi] at h1; cases h1
    have := (her i es[i] es'[i] (List.getElem?_eq_getElem (by omega)) (Array.getElem?_eq_getElem (by omega))).1
    rw [h2] at this
    exact ⟨es'[i], by simp, natV_inj this, h3⟩
  have hrd : ∀ x ∈ es'.toList, ∃ n, n ∈ ks ∧ x.key = natV n ∧ Go.WideElems.rd Try.prog 30 RR x = some (lU n, .nil) := fun x hx => by
    obtain ⟨n, h1, h2, h3⟩ := hent x hx
    exact ⟨n, h1, h2, by unfold Go.WideElems.rd; rw [h2, keyU n h3]; rfl⟩
  have hown : w.ownsMap Try.prog 30 RR lr.cb 15 (.map ((es'.toList.map (Go.WideElems.rg Try.prog 30 RR)).foldr DataW.insert [])) :=
    ⟨es', clock, hheap, ⟨by rw [hsz]; unfold maxLen; omega, hst, fun x hx => by obtain ⟨n, _, _, h⟩ := hrd x hx; exact ⟨_, h⟩⟩, by omega, rfl⟩
  have hhas : ∀ x : Int, Maps.has (.map ((es'.toList.map (Go.WideElems.rg Try.prog 30 RR)).foldr DataW.insert [])) (lU x) = true ↔ x ∈ ks.map Int.ofNat := fun x => by
    rw [Maps.has_eq, List.any_eq_true, List.mem_map]
    constructor
    · rintro ⟨q, hq, hs⟩
      obtain ⟨y, hy, rfl⟩ := List.mem_map.1 (mem_sorted.1 hq)
      obtain ⟨n, h1, _, h2⟩ := hrd y hy
      rw [Go.WideElems.rg_of h2] at hs
      exact ⟨n, h1, by simpa [Lit.sameKey] using hs⟩
    · rintro ⟨n, hn, rfl⟩
      obtain ⟨y, hy, h1, h2⟩ := hkey n hn
      obtain ⟨n', _, h3, h4⟩ := hrd y hy
      have : n' = n := by rw [h1] at h3; unfold natV at h3; injection h3 with _ h3; omega
      subst this
      exact ⟨_, mem_sorted.2 (List.mem_map.2 ⟨y, hy, rfl⟩), by rw [Go.WideElems.rg_of h4]; simp [Lit.sameKey]⟩
  have hN : Maps.size (.map ((es'.toList.map (Go.WideElems.rg Try.prog 30 RR)).foldr DataW.insert []) : DataW Unit) ≤ 15 := hown.size_le
  have perm_of : ∀ ns : List Nat, ns.Nodup → (∀ x : Int, x ∈ ns.map Int.ofNat ↔ x ∈ ks.map Int.ofNat) → ns.Perm ks := fun ns hnd hm =>
    (List.perm_ext_iff_of_nodup hnd hkn).2 fun n => by
      have key : ∀ l : List Nat, Int.ofNat n ∈ l.map Int.ofNat ↔ n ∈ l := fun l => ⟨fun h => by
        obtain ⟨a, ha, e⟩ := List.mem_map.1 h
        have : a = n := by injection e
        exact this ▸ ha, fun h => List.mem_map.2 ⟨n, h, rfl⟩⟩
      rw [← key ns, ← key ks]
      exact hm (Int.ofNat n)
  have hSN : ∀ ss : List Int, (ss.Nodup ∧ ∀ x, x ∈ ss ↔ Maps.has (.map ((es'.toList.map (Go.WideElems.rg Try.prog 30 RR)).foldr DataW.insert [])) (lU x) = true) → ∃ ns : List Nat, ss = ns.map Int.ofNat ∧ ns.Nodup ∧ ns.length ≤ 15 := by
    rintro ss ⟨hnd, hm⟩
    have h0 : ∀ x ∈ ss, 0 ≤ x := fun x hx => by
      obtain ⟨n, _, rfl⟩ := List.mem_map.1 ((hhas x).1 ((hm x).1 hx))
      exact Int.natCast_nonneg n
    have e1 : ss = (ss.map Int.toNat).map Int.ofNat := by
      rw [List.map_map]
      conv => lhs; rw [← List.map_id ss]
      exact List.map_congr_left fun x hx => by show x = Int.ofNat x.toNat; have := h0 x hx; simp; omega
    have nd2 : (ss.map Int.toNat).Nodup := by
      rw [e1] at hnd
      exact (List.pairwise_map.1 hnd).imp fun h e => h (by rw [e])
    refine ⟨ss.map Int.toNat, e1, nd2, ?_⟩
    rw [(perm_of _ nd2 fun x => by rw [← e1, hm x, hhas x]).length_eq]
    exact hk15
  refine (held_in Z.sort_does w l.cb l.s lr.cb 15 _ hcv hown hN hSN).mono ?_
  rintro e w' ⟨v', ns, rfl, hmem, hnd, hnl, hb, hfin⟩
  have hp := perm_of ns hnd fun x => by rw [hmem x, hhas x]
  have hmg : ns.mergeSort = ks.mergeSort := by
    have tr : ∀ a b c : Nat, decide (a ≤ b) = true → decide (b ≤ c) = true → decide (a ≤ c) = true := fun a b c h1 h2 => by simp at *; omega
    have to : ∀ a b : Nat, (decide (a ≤ b) || decide (b ≤ a)) = true := fun a b => by simp; omega
    refine List.Perm.eq_of_pairwise (le := fun a b => decide (a ≤ b) = true) (fun a b _ _ h1 h2 => by simp at h1 h2; omega) (List.pairwise_mergeSort tr to ns) (List.pairwise_mergeSort tr to ks) (((List.mergeSort_perm ns _).trans hp).trans (List.mergeSort_perm ks _).symm)
  rcases hres with ⟨h1, rfl, rfl⟩ | ⟨k, ks', h1, _, _, rfl, rfl⟩
  · rw [hks] at h1; cases h1
    obtain rfl : ns = [] := hp.eq_nil
    rcases hfin with ⟨_, rfl⟩ | ⟨h2, _⟩
    · exact ⟨_, E, rfl, Post.same hR hb, .sliceNil⟩
    · simp at h2
  · rw [hks] at h1; cases h1
    have hlen2 : ns.length = ks'.length + 1 := by rw [hp.length_eq]; rfl
    rcases hfin with ⟨rfl, _⟩ | ⟨_, g, cap, rfl, hg1, hg2, hcap, hso⟩
    · simp at hlen2
    obtain ⟨m, cur, ce, lo, hi, rfl, hgb, hgs, hfz, hgc⟩ := hso
    have hf : E h.blks.length = none := hfree _ (Nat.le_refl _) (by rw [Heap.new_len]; omega)
    refine ⟨_, E.upd h.blks.length ⟨g, 0, cap, 1⟩, rfl, Post.newB hR hf _ _ ⟨g, 0, cap, 1⟩ hg1 hg2 hb ?_, ?_⟩
    · have hs1 : sizeT Try.prog 30 = some 1 := by kernel_rfl
      refine ⟨hs1, fun i x hx => ?_, fun _ => ⟨cur, ce, lo, hi, hgb, hgs, hs1, ?_⟩⟩
      · rw [List.getElem?_map] at hx
        obtain ⟨y, hy, rfl⟩ := Option.map_eq_some_iff.1 hx
        exact ⟨natV y, by rw [Nat.zero_add]; exact hgc i y (by rw [hmg]; exact hy), .int _ _⟩
      · rcases hfz with q | q
        · exact .inl q
        · exact .inr ⟨q, rfl⟩
    · have := VR.slice (E := E.upd h.blks.length ⟨g, 0, cap, 1⟩) (b := h.blks.length) (o := 0) (n := ks'.length + 1) (c := UNK) (c' := cap) (Env.upd_same _ _ _) (.inl rfl) (by omega) (fun _ => by simp)
      rw [hlen2]
      simpa using this
instance : XtOk Try.prog := ⟨fun f g hX args h v h' hv => by
    obtain ⟨_, rfl⟩ := xt_inv hX
    exact heldX_grow _ _ _ _ hv,
  fun base f g hX args h v h' E w args' hv hR ha hf => by
    obtain ⟨rfl, rfl⟩ := xt_inv hX
    exact held_sound base args h v h' E w args' hv hR ha hf⟩
end Go.Am
