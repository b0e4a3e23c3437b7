/- What the functions answer, in the machine. -/
import Derived.Test.YtclpkcampbhbdaaDoorKE
import Derived.Test.YtclpkcampbhbdaaDoorChecked
import Derived.Shelf.Spec.SlicesInsert
import Derived.WalkKit
import Derived.KernelRfl
import Derived.Lib.AppendZerosOnto
import Derived.Laws.NewBlocks
import Derived.Shelf.SlSortCmp.NoneTotal
import Derived.Shelf.Spec.TrailingZeros
set_option linter.all false
namespace Go.Am
open Go.Proofs
set_option maxRecDepth 100000
set_option linter.all false
attribute [local congr] obind_congr obH_congr cnd_congr chk_congr retK_congr codeK_congr
theorem K9.trans {a b c : Nat → Value} (h : K9 a b) (k : K9 b c) : K9 a c := ⟨k.e0.trans h.e0, k.e1.trans h.e1, k.e5.trans h.e5, k.e9.trans h.e9, k.e10.trans h.e10, k.e11.trans h.e11, k.e12.trans h.e12⟩
theorem LS.eng {h0 h : Heap} {n bw bn k : Nat} {ps : List (Nat × Nat)} {pv : Value} {E : Nat → List E3} {S : Nat → List Nat} {num : Nat → Nat} {wv : Nat → Value} {lv : Nat → List Value} {W : Nat → List Wd} {nums : List Nat} (L : LS h0 h n bw bn k ps pv E S num wv lv W nums) {P : Nat} (pP : P < ps.length) :
    ∃ ad, indexAddrV Tryd.prog 51 pv (.int .i64 P) = some (.pointer (some ad)) ∧ loadV Tryd.prog 33 (.pointer (some ad)) h = some (.pointer (some ⟨ps[P].1, 0, none⟩)) := by
  have hP : P < n := by have := L.lps; omega
  obtain ⟨a, e1, e2, _⟩ := (Acc.sl L.pr etP.size).row.at1 etP.under etP.size (by kernel_rfl) hP .i64
  refine ⟨a, e1, ?_⟩
  rw [e2, List.getElem?_map, List.getElem?_eq_getElem pP]; rfl
theorem LS.nuv {h0 h : Heap} {n bw bn k : Nat} {ps : List (Nat × Nat)} {pv : Value} {E : Nat → List E3} {S : Nat → List Nat} {num : Nat → Nat} {wv : Nat → Value} {lv : Nat → List Value} {W : Nat → List Wd} {nums : List Nat} (L : LS h0 h n bw bn k ps pv E S num wv lv W nums) (hn : n ≤ 6) : SU h (.slice (some ⟨bn, 0, none⟩) n n) nums := by
  have h1 := L.nr.loadN (n := n * 1) (by simp [L.ln])
  have h2 : Sl Tryd.prog h 1 (.slice (some ⟨bn, 0, none⟩) n n) n (nums.map u64V) := .mk h1 (.inr ⟨Nat.le_refl _, by unfold UNK; omega⟩)
  unfold SU
  rw [L.ln]
  exact h2
theorem ls_look {β : Type} {Q : Option β → Prop} {kk : Ex → St → Option β} {h0 h : Heap} {n bw bn k P pm : Nat} {ps : List (Nat × Nat)} {pv : Value} {E : Nat → List E3} {S : Nat → List Nat} {num : Nat → Nat} {wv : Nat → Value} {lv : Nat → List Value} {W : Nat → List Wd} {nums : List Nat} {mv : List Value} {b : Nat → Value}
    (L : LS h0 h n bw bn k ps pv E S num wv lv W nums) (hn : n ≤ 6) (hkk : k ≤ 100) (hP : P < n) (cm : Cells h pm 55 mv) (hm1 : mv[1]? = some (.int .i64 (P : Nat))) (b0 : b 0 = .int .i64 n) (b5 : b 5 = pv) (b10 : b 10 = .slice (some ⟨bn, 0, none⟩) n n) (b12 : b 12 = .pointer (some ⟨pm, 0, none⟩))
    (hk : ∀ (h' : Heap) (y : Nat → Value), Same h h' → K9 b y → Q (kk .normal ⟨ar 292 y, h'⟩)) : ∀ x : Nat → Value, K9 b x → Q (cK c4_15 292 x h kk) := by
  intro x K
  have pP : P < ps.length := by rw [L.lps]; exact hP
  have Af := K.e5.trans b5
  have An := K.e12.trans b12
  have lp : h.load1 pm 1 = some (.int .i64 (P : Nat)) := (cm.load 1).trans hm1
  obtain ⟨ad, i1, i2⟩ := L.eng pP
  have q := L.one P hP
  have hlen := q.inv.len q.lin.next
  have hnn : n * n + n ≤ 42 := by
    have : n * n ≤ 6 * 6 := Nat.mul_le_mul hn hn
    omega
  have hw := nb_wide q.inv (by omega) q.nb fun i => by have := L.getD i; omega
  obtain ⟨a, c, h1, q1, y1, s1⟩ := spec_Log (L.G.eng P pP) (by omega)
  obtain ⟨h2, t2, y2, _, s2, _, l2⟩ := newLogT s1
  have sm := y1.same.trans y2
  have L2 := L.same sm
  have lp2 : h2.load1 pm 1 = some (.int .i64 (P : Nat)) := ((cm.same sm).load 1).trans hm1
  simp -implicitDefEqProofs (disch := omega) only [↓c4_15_eq,Af,An, faMv1, ldI, lp, i1, i2, q1, alL, stL, t2, ↓cnd_true, ↓cnd_false, ↓Option.bind_some, ↓obH_some', bin_add, bin_sub, bin_mul, bin_lss, bin_leq, bin_gtr, bin_geq, bin_eql, bin_neq, un_not, un_neg, Option.bind_some, Option.bind_none, Option.map_some, cnd_true, cnd_false, pickV_true, pickV_false, gd_true, gd_false, gdV_true, gdV_false, gdH_true, gdH_false, gdS_true, gdS_false, wt_ff, wt_tt, wt_ft, wt_tf, wt_undef, obH_some', extractV_tuple, nilCheckV_ptr, againK_normal, againK_exit, againK_ret, blockK_normal, blockK_same, blockK_ret, seqK_normal, seqK_exit, seqK_ret, fin_done, if_true', if_false', Bool.not_true, Bool.not_false, idx0, idx1, idx2, idx3, idx4, chk_nil_l, chk_nil_r, done_nm, up_cons, up_nil, cond_true, cond_false, Nat.reduceBEq]
  refine ls_out (b := b) q.inv hw (by omega) l2 s2 q.nb L.ln (fun i hi => by have := L.small i hi; omega) (L2.nuv hn) b10 b12 lp2 q.lin.here (fun y Ky y19 => ?_) (E P).length 0 (by omega) _ ⟨K.e0, K.e1, K.e5, K.e9, K.e10, K.e11, K.e12⟩ rfl rfl
  have y0 : y 0 = .int .i64 n := Ky.e0.trans b0
  have w1 : IntKind.wrap .i64 ((n : Int) * (n : Int)) = ((n * n : Nat) : Int) := by rw [← Int.natCast_mul, wrap_i64] <;> omega
  have w2 : IntKind.wrap .i64 (((n * n : Nat) : Int) + (n : Int)) = ((n * n + n : Nat) : Int) := by rw [wrap_i64] <;> omega
  simp -implicitDefEqProofs (disch := omega) only [↓c4_19_eq, dcF, y0, y19, faL, ldEs, l2, lnEs, w1, w2, ↓cnd_true, ↓cnd_false, ↓Option.bind_some, ↓obH_some', bin_add, bin_sub, bin_mul, bin_lss, bin_leq, bin_gtr, bin_geq, bin_eql, bin_neq, un_not, un_neg, Option.bind_some, Option.bind_none, Option.map_some, cnd_true, cnd_false, pickV_true, pickV_false, gd_true, gd_false, gdV_true, gdV_false, gdH_true, gdH_false, gdS_true, gdS_false, wt_ff, wt_tt, wt_ft, wt_tf, wt_undef, obH_some', extractV_tuple, nilCheckV_ptr, againK_normal, againK_exit, againK_ret, blockK_normal, blockK_same, blockK_ret, seqK_normal, seqK_exit, seqK_ret, fin_done, if_true', if_false', Bool.not_true, Bool.not_false, idx0, idx1, idx2, idx3, idx4, chk_nil_l, chk_nil_r, done_nm, up_cons, up_nil, cond_true, cond_false, Nat.reduceBEq]
  exact hk h2 _ sm ⟨Ky.e0,Ky.e1,Ky.e5,Ky.e9,Ky.e10,Ky.e11,Ky.e12⟩
end Go.Am
namespace Go.Am
open Go.Proofs
set_option maxRecDepth 100000
set_option linter.all false
attribute [local congr] obind_congr obH_congr cnd_congr chk_congr retK_congr codeK_congr
theorem faMv3 (p : Nat) : fieldAddrV Tryd.prog 55 (.pointer (some ⟨p, 0, none⟩)) 3 = some (.pointer (some ⟨p, 3, none⟩)) := by kernel_rfl
theorem sendT_idem (n : Nat) (me : Int) (to : Nat) : sendT n me (sendT n me to) = sendT n me to := by
  unfold sendT
  rw [Nat.and_assoc, Nat.and_self]
theorem sendT_eq (n P to : Nat) (hP : P < 64) : outB (to &&& allN n) (2 ^ P) = sendT n (P : Nat) to := by
  unfold sendT outB
  have e : ofN (P : Nat) = 2 ^ P := by unfold ofN; rw [if_pos (by omega), Int.toNat_natCast]
  rw [e, Nat.and_assoc]
theorem sendT_lt (n : Nat) (me : Int) (to : Nat) : sendT n me to < 2 ^ n := by
  have h1 : sendT n me to ≤ allN n := Nat.le_trans Nat.and_le_right Nat.and_le_left
  have h2 : 1 ≤ 2 ^ n := Nat.one_le_two_pow
  unfold allN at h1
  omega
theorem bits_lt {s n d : Nat} (hs : s < 2 ^ n) (hd : d ∈ bitsTo s 64) : d < n := by
  unfold bitsTo at hd
  have h := (List.mem_filter.1 hd).2
  refine Nat.lt_of_not_le fun hge => ?_
  rw [Nat.testBit_lt_two_pow (Nat.lt_of_lt_of_le hs (Nat.pow_le_pow_right (by omega) hge))] at h
  cases h
theorem adN1 (t : TypeId) (xo yo : Operand) (k : Nat) (hk : k + 1 < 2 ^ 64) : binV Tryd.prog .add t xo yo (.int .u64 k) (.int .u64 1) = some (.int .u64 ((k + 1 : Nat) : Int)) := by
  rw [bin_add, show (k : Int) + 1 = ((k + 1 : Nat) : Int) by omega, wrap_u64 (by omega) (by omega)]
theorem stU64N (p o : Nat) (k : Nat) (h : Heap) : storeV Tryd.prog 23 (.pointer (some ⟨p, o, none⟩)) (.int .u64 k) h = h.storeN p o [.int .u64 k] := by kernel_rfl
theorem ls_send {β : Type} {Q : Option β → Prop} {kk : Ex → St → Option β} {h0 h : Heap} {n bw bn k P pm : Nat} {ps : List (Nat × Nat)} {pv : Value} {E : Nat → List E3} {S : Nat → List Nat} {num : Nat → Nat} {wv : Nat → Value} {lv : Nat → List Value} {W : Nat → List Wd} {nums : List Nat} {mv : List Value} {b : Nat → Value} {to : Nat}
    (L : LS h0 h n bw bn k ps pv E S num wv lv W nums) (hn : n ≤ 6) (hkk : k ≤ 40) (hP : P < n) (cm : Cells h pm 55 mv) (hm1 : mv[1]? = some (.int .i64 (P : Nat))) (hm3 : mv[3]? = some (.int .u64 to)) (hto : to < 2 ^ 64) (hW : ∀ i, (W i).length ≤ 64 * k)
    (b0 : b 0 = .int .i64 n) (b5 : b 5 = pv) (b9 : b 9 = .slice (some ⟨bw, 0, none⟩) (n * n) (n * n)) (b10 : b 10 = .slice (some ⟨bn, 0, none⟩) n n) (b12 : b 12 = .pointer (some ⟨pm, 0, none⟩))
    (hk : ∀ (h' : Heap) (y : Nat → Value) (E' : Nat → List E3) (S' : Nat → List Nat) (num' : Nat → Nat) (wv' : Nat → Value) (lv' : Nat → List Value) (W' : Nat → List Wd) (nums' : List Nat), LS h0 h' n bw bn (k + 1) ps pv E' S' num' wv' lv' W' nums' → Cells h' pm 55 mv → (∀ i, (W' i).length ≤ 64 * (k + 1)) → K9 b y → Q (kk .normal ⟨ar 292 y, h'⟩)) :
    ∀ x : Nat → Value, K9 b x → Q (cK c4_20 292 x h kk) := by
  intro x K
  have pP : P < ps.length := by rw [L.lps]; exact hP
  have Aa := K.e0.trans b0
  have Af := K.e5.trans b5
  have Ak := K.e10.trans b10
  have An := K.e12.trans b12
  have lp1 : h.load1 pm 1 = some (.int .i64 (P : Nat)) := (cm.load 1).trans hm1
  have lp3 : h.load1 pm 3 = some (.int .u64 to) := (cm.load 3).trans hm3
  have al := spec_AllOfS n (by omega)
  have cvu := fun h => cvUint (P : Int) h (by omega) (by omega)
  have an := fun t xo yo => anU t xo yo to (allN n) hto (allN_ltS (by omega))
  have sl := fun t xo yo => shlS t xo yo P (by omega)
  have ao := fun t xo yo => anS t xo yo (to &&& allN n) (2 ^ P) (Nat.lt_of_le_of_lt Nat.and_le_left hto) (Nat.pow_lt_pow_right (by omega) (by omega))
  rw [sendT_eq n P to (by omega)] at ao
  have tlt := sendT_lt n (P : Nat) to
  have h16 : (2 : Nat) ^ n ≤ 2 ^ 6 := Nat.pow_le_pow_right (by omega) hn
  obtain ⟨ad, i1, i2⟩ := L.eng pP
  have Qe := L.one P hP
  have hlen := Qe.inv.len Qe.lin.next
  have hd := L.getD P
  obtain ⟨sv, h1, h2, e1, m1, ld1, st1, m2, L2, B2⟩ := L.send hn (by omega) hP (sendT n (P : Nat) to) (by omega) pP
  rw [sendT_idem] at L2 B2
  have i3 := iaUn bn n P hP
  have cm1 : Cells h1 pm 55 mv := (m1.old pm cm.lt fun e => by
    have e : pm = ps[P].1 := e
    obtain ⟨_, _, c, _⟩ := (L.G.eng P pP).eng
    subst e
    exact absurd (c.ty cm) (by decide)).trans cm
  have cm2 : Cells h2 pm 55 mv := (m2.old pm cm1.lt fun e => by
    have e : pm = bn := e
    subst e
    exact absurd (L.nr.ty cm) (by decide)).trans cm1
  have lp1' : h1.load1 pm 1 = some (.int .i64 (P : Nat)) := (cm1.load 1).trans hm1
  have ad1 := fun t xo yo => adN1 t xo yo (nums.getD P 0) (by omega)
  have st1' := (stU64N bn P (nums.getD P 0 + 1) h1).trans st1
  obtain ⟨da, dc, h3, e3, y3, A3⟩ := spec_ListS (sendT n (P : Nat) to) (by omega) h2
  have L3 := L2.same y3.same
  have cm3 := cm2.same y3.same
  have B3 := B2.same y3.same
  rw [listW_bits _ (by omega), show bitsL (sendT n (P : Nat) to) = bitsTo (sendT n (P : Nat) to) 64 from rfl] at B3
  have lo : h0.blks.length ≤ h2.blks.length := L2.sm.1
  have blen := bitsTo_len (sendT n (P : Nat) to) 64
  simp -implicitDefEqProofs (disch := omega) only [↓c4_20_eq,Aa,Af,Ak,An, faMv1, faMv3, ldI, ldU64, lp1, lp3, al, am_nm, nm_mods, List.nil_append, List.append_nil, an, cvu, sl, ao, i1, i2, e1, lp1', i3, ld1, ad1, st1', e3, ↓cnd_true, ↓cnd_false, ↓Option.bind_some, ↓obH_some', bin_add, bin_sub, bin_mul, bin_lss, bin_leq, bin_gtr, bin_geq, bin_eql, bin_neq, un_not, un_neg, Option.bind_some, Option.bind_none, Option.map_some, cnd_true, cnd_false, pickV_true, pickV_false, gd_true, gd_false, gdV_true, gdV_false, gdH_true, gdH_false, gdS_true, gdS_false, wt_ff, wt_tt, wt_ft, wt_tf, wt_undef, obH_some', extractV_tuple, nilCheckV_ptr, againK_normal, againK_exit, againK_ret, blockK_normal, blockK_same, blockK_ret, seqK_normal, seqK_exit, seqK_ret, fin_done, if_true', if_false', Bool.not_true, Bool.not_false, idx0, idx1, idx2, idx3, idx4, chk_nil_l, chk_nil_r, done_nm, up_cons, up_nil, cond_true, cond_false, Nat.reduceBEq]
  refine ls_words (B := 64 * (k + 1)) (b := b) (t := sendT n (P : Nat) to) (es := E P) (ds := bitsTo (sendT n (P : Nat) to) 64) (by omega) hn hP hm1 b0 b9 b10 b12 (fun d hd => ?_) blen (fun h' y wv' lv' W' L' c' w' K' => hk h' y _ _ _ wv' lv' W' _ L' c' w' K') (bitsTo (sendT n (P : Nat) to) 64).length 0 (by omega) _ h3 wv lv W L3 cm3 (Acc.up A3 lo) (ABs.up B3 L.sm.1) (fun i => by have := hW i; omega) ⟨K.e0, K.e1, K.e5, K.e9, K.e10, K.e11, K.e12⟩ ?_ ?_ ?_ ?_
  · have dn := bits_lt tlt hd
    have gg : goodE (gOf (E P) (sendT n (P : Nat) to) d) = true := ((Qe.inv.less _).purge).good
    have up : ∀ i, nums.getD i 0 ≤ (nums.set P (nums.getD P 0 + 1)).getD i 0 := fun i => by
      rw [getD_set _ _ _ _ (by rw [L.ln]; exact hP)]
      split
      · rename_i e; subst e; omega
      · exact Nat.le_refl _
    refine ⟨dn, ?_, ⟨rfl, (Qe.inv.less _).purge, (Qe.nb.more up).stamp _, Nat.le_refl _, tlt, stamp_own Qe.inv.good _ _, ?_⟩⟩
    · show putE _ = _
      unfold putE
      rw [if_pos (show goodE (purgeE (lessE (E P) (outB (sendT n (P : Nat) to) (ofN (d : Nat))))) = true from gg)]
      rfl
    · have a := (purgeE_sub (lessE (E P) (outB (sendT n (P : Nat) to) (ofN (d : Nat))))).length_le
      rw [lessE_len] at a
      exact Nat.le_trans a hlen
  all_goals rfl
end Go.Am
namespace Go.Am
open Go.Proofs
set_option maxRecDepth 100000
set_option linter.all false
attribute [local congr] obind_congr obH_congr cnd_congr chk_congr retK_congr codeK_congr
structure MV where
  op : Int
  p : Int
  k : Int
  to : Nat
def mvC (p : MV) : List Value := [.int .i64 p.op, .int .i64 p.p, .int .i64 p.k, .int .u64 p.to]
def mvO (p : MV) : Value := .agg (mvC p).toArray
def SMv (h : Heap) (v : Value) (l : List MV) : Prop := Row h 4 v l.length (l.map mvC).flatten
theorem SMv.same {h h' : Heap} {v : Value} {l : List MV} (s : SMv h v l) (e : Same h h') : SMv h' v l := Row.keep s fun b hb _ => e.2 b hb
theorem SMv.len {h : Heap} {v : Value} {l : List MV} (s : SMv h v l) : lenV Tryd.prog 50 v h = some (.int .i64 l.length) := by
  have hu : Tryd.prog.underlying 50 = some (.slice 55) := by kernel_rfl
  exact Row.len_eq s hu
theorem flat4M : ∀ (l : List MV) (i : Nat) (hi : i < l.length), ((l.map mvC).flatten.drop (i * 4)).take 4 = mvC l[i]
  | p :: l, 0, _ => rfl
  | p :: l, i + 1, hi => by
    rw [show (i + 1) * 4 = i * 4 + 1 + 1 + 1 + 1 by omega]
    simp only [List.map_cons, List.flatten_cons, mvC, List.cons_append, List.nil_append, List.drop_succ_cons]
    exact flat4M l i (by simpa using hi)
theorem ldMv (p o : Nat) (h : Heap) : loadV Tryd.prog 55 (.pointer (some ⟨p, o, none⟩)) h = (h.loadN p o 4).map fun cs => .agg cs.toArray := by kernel_rfl
theorem stMv (p : Nat) (e : MV) (h : Heap) : storeV Tryd.prog 55 (.pointer (some ⟨p, 0, none⟩)) (mvO e) h = h.storeN p 0 (mvC e) := by kernel_rfl
theorem alMv (h : Heap) : allocV Tryd.prog 55 h = some (.pointer (some ⟨h.blks.length, 0, none⟩), h.new (.cells [.int .i64 0, .int .i64 0, .int .i64 0, .int .u64 0]) 55) := by kernel_rfl
theorem SMv.at {v : Value} {h : Heap} {l : List MV} (s : SMv h v l) {i : Nat} (hi : i < l.length) : ∃ b o, indexAddrV Tryd.prog 50 v (.int .i64 i) = some (.pointer (some ⟨b, o, none⟩)) ∧ ∀ h', Same h h' → loadV Tryd.prog 55 (.pointer (some ⟨b, o, none⟩)) h' = some (mvO l[i]) := by
  have hu : Tryd.prog.underlying 50 = some (.slice 55) := by kernel_rfl
  have hs : sizeT Tryd.prog 55 = some 4 := by kernel_rfl
  unfold SMv at s
  generalize hn : l.length = n at s
  generalize hcs : (l.map mvC).flatten = cs at s
  cases s with
  | nil => omega
  | mk hld =>
    rename_i b o c
    rw [← hn, ← hcs] at hld
    refine ⟨b, o + i * 4, ?_, fun h' e => ?_⟩
    · unfold indexAddrV
      simp only [hu, natOf_int, hs]
      rw [if_pos (by omega)]
    · have h1 : h'.loadN b (o + i * 4) 4 = some (mvC l[i]) := by
        rw [loadN_of (e.2 b (loadN_lt hld)), loadN_sub hld (by omega), flat4M l i hi]
      rw [ldMv, h1]; rfl
theorem var_mv (h : Heap) (e : MV) : ∃ hA h', allocV Tryd.prog 55 h = some (.pointer (some ⟨h.blks.length, 0, none⟩), hA) ∧ Same h hA ∧ storeV Tryd.prog 55 (.pointer (some ⟨h.blks.length, 0, none⟩)) (mvO e) hA = some h' ∧
    Cells h' h.blks.length 55 (mvC e) ∧ Same h h' := by
  have c := Cells.new h 55 [.int .i64 0, .int .i64 0, .int .i64 0, .int .u64 0]
  have c' : Cells ((h.new (.cells [.int .i64 0, .int .i64 0, .int .i64 0, .int .u64 0]) 55).put h.blks.length (.cells (mvC e))) h.blks.length 55 (mvC e) := c.put _
  refine ⟨_, _, alMv h, Same.new h _ _, ?_, c', (Same.new h _ _).put (Nat.le_refl _) _⟩
  rw [stMv, storeN_blk c (by simp [mvC])]; rfl
theorem reads_mv {h : Heap} {f : Nat} {cs : List Value} {d : DT} (x : Reads Tryd.prog h f 55 cs d) : ∃ p, cs = mvC p ∧ p.to < 2 ^ 64 := by
  obtain ⟨g, l, rfl, hlen, ha⟩ := reads_struct Tryd.underlying55 x
  rw [show Tryd.prog.cellsOf 55 = 4 by kernel_rfl] at hlen
  obtain ⟨c0, c1, c2, c3, rfl⟩ : ∃ c0 c1 c2 c3, cs = [c0, c1, c2, c3] := by
    match cs, hlen with
    | [a, b, c, d], _ => exact ⟨a, b, c, d, rfl⟩
  have h0 : Tryd.prog.cellsOf 3 = 1 := by kernel_rfl
  have h1 : Tryd.prog.cellsOf 23 = 1 := by kernel_rfl
  cases ha with
  | cons a0 ha => cases ha with
    | cons a1 ha => cases ha with
      | cons a2 ha => cases ha with
        | cons a3 ha =>
            cases ha
            simp only [h0, h1] at a0 a1 a2 a3
            obtain ⟨z, _, z2, z3⟩ := reads_int (k := .i64) (by kernel_rfl) a0
            obtain ⟨u, _, u2, u3⟩ := reads_int (k := .i64) (by kernel_rfl) a1
            obtain ⟨w, _, w2, w3⟩ := reads_int (k := .i64) (by kernel_rfl) a2
            obtain ⟨y, _, y2, y3⟩ := reads_int (k := .u64) (by kernel_rfl) a3
            simp only [List.drop_zero, List.drop_succ_cons, List.take_succ_cons, List.take_zero, List.cons.injEq, and_true] at z2 u2 w2 y2
            subst z2 u2 w2 y2
            have hy := wf_nat rfl y3
            simp only [IntKind.bits] at hy
            refine ⟨⟨z, u, w, y.toNat⟩, ?_, by show y.toNat < 2 ^ 64; omega⟩
            unfold mvC
            simp only
            rw [Int.toNat_of_nonneg hy.1]
theorem reads_mvs {h : Heap} {f : Nat} : ∀ {css : List (List Value)} {l : List DT}, All2 (fun c d => c.length = Tryd.prog.cellsOf 55 ∧ Reads Tryd.prog h f 55 c d) css l → ∃ (ps : List MV), css.flatten = (ps.map mvC).flatten ∧ ps.length = l.length ∧ ∀ p ∈ ps, p.to < 2 ^ 64
  | _, _, .nil => ⟨[], rfl, rfl, by simp⟩
  | _, _, .cons x q => by
    obtain ⟨ps, e, hl, b⟩ := reads_mvs q
    obtain ⟨p, rfl, h1⟩ := reads_mv x.2
    refine ⟨p :: ps, by simp [e], by simp [hl], fun y hy => ?_⟩
    rcases List.mem_cons.1 hy with rfl | hy
    · exact h1
    · exact b y hy
theorem Rd.mvs {h : Heap} {v : Value} {d : DT} (r : Rd Tryd.prog h 50 v d) : ∃ ps : List MV, SMv h v ps ∧ ∀ p ∈ ps, p.to < 2 ^ 64 := by
  obtain ⟨f, l, css, rfl, h1, h2, h3⟩ := r.slice (e := 55) (by kernel_rfl)
  obtain ⟨ps, e, hl, b⟩ := reads_mvs h2
  rw [show Tryd.prog.cellsOf 55 = 4 by kernel_rfl, e, ← hl] at h1
  exact ⟨ps, h1.row, b⟩
end Go.Am
namespace Go.Am
open Go.Proofs
set_option maxRecDepth 100000
set_option linter.all false
attribute [local congr] obind_congr obH_congr cnd_congr chk_congr retK_congr codeK_congr
theorem etWs : ElemT Tryd.prog 52 59 1 24 (.slice none 0 0) := ⟨by kernel_rfl, by kernel_rfl, by kernel_rfl, by kernel_rfl, by omega, rfl, by simp [ground, ground0]⟩
theorem etU6 : ElemT Tryd.prog 53 23 1 8 (.int .u64 0) := ⟨by kernel_rfl, by kernel_rfl, by kernel_rfl, by kernel_rfl, by omega, rfl, by simp [ground, ground0]⟩
theorem zeros_listW (z : Value) (hz : z.cells = #[z]) (m : Nat) : ((Array.range (m * 1)).map fun x => z.cells[x % z.cells.size]!).toList = List.replicate m z := by
  rw [hz, Nat.mul_one]
  have e : (fun x : Nat => (#[z] : Array Value)[x % (#[z] : Array Value).size]!) = fun _ => z := by
    funext i
    have : i % (#[z] : Array Value).size = 0 := Nat.mod_one i
    rw [this]; rfl
  rw [e]
  simp [List.map_const']
theorem mkWs (m : Nat) (hm : m ≤ 64) (h : Heap) : makeSliceV Tryd.prog 52 (.int .i64 m) (.int .i64 m) h = some (.slice (some ⟨h.blks.length, 0, none⟩) m m, h.new (.cells ((List.range m).map fun _ => .slice none 0 0)) 59) := by
  unfold makeSliceV
  simp only [etWs.under, natOf_int, etWs.size, etWs.bytes, etWs.zero]
  rw [if_pos ⟨Nat.le_refl _, by omega, by omega, by omega, etWs.zs, etWs.zg⟩]
  rw [zeros_listW _ rfl, show ((List.range m).map fun _ => (Value.slice none 0 0)) = List.replicate m (.slice none 0 0) by simp [List.map_const']]
theorem mkNs (m : Nat) (hm : m ≤ 64) (h : Heap) : makeSliceV Tryd.prog 53 (.int .i64 m) (.int .i64 m) h = some (.slice (some ⟨h.blks.length, 0, none⟩) m m, h.new (.cells ((List.replicate m 0).map u64V)) 23) := by
  unfold makeSliceV
  simp only [etU6.under, natOf_int, etU6.size, etU6.bytes, etU6.zero]
  rw [if_pos ⟨Nat.le_refl _, by omega, by omega, by omega, etU6.zs, etU6.zg⟩]
  rw [zeros_listW _ rfl, List.map_replicate]
  rfl
theorem LS.start {h0 h : Heap} {n : Nat} {ps : List (Nat × Nat)} {pv : Value} (sm : Same h0 h) (lps : ps.length = n) (G : LGrp h n h0.blks.length ps (fun _ => []) (fun _ => List.replicate n 0) (fun _ => 0)) (pr : Acc h0.blks.length h 33 1 pv n (ps.map ptrW)) :
    LS h0 ((h.new (.cells ((List.range (n * n)).map fun _ => .slice none 0 0)) 59).new (.cells ((List.replicate n 0).map u64V)) 23) n h.blks.length (h.blks.length + 1) 0 ps pv (fun _ => []) (fun _ => List.replicate n 0) (fun _ => 0) (fun _ => .slice none 0 0) (fun _ => []) (fun _ => []) (List.replicate n 0) := by
  have s1 : Same h (h.new (.cells ((List.range (n * n)).map fun _ => .slice none 0 0)) 59) := Same.new _ _ _
  have s2 : Same (h.new (.cells ((List.range (n * n)).map fun _ => .slice none 0 0)) 59) ((h.new (.cells ((List.range (n * n)).map fun _ => .slice none 0 0)) 59).new (.cells ((List.replicate n 0).map u64V)) 23) := Same.new _ _ _
  have el : (h.new (.cells ((List.range (n * n)).map fun _ => .slice none 0 0)) 59).blks.length = h.blks.length + 1 := by simp [Heap.new]
  have cw : Cells (h.new (.cells ((List.range (n * n)).map fun _ => .slice none 0 0)) 59) h.blks.length 59 ((List.range (n * n)).map fun _ => .slice none 0 0) := Cells.new _ _ _
  have cn := Cells.new (h.new (.cells ((List.range (n * n)).map fun _ => .slice none 0 0)) 59) 23 ((List.replicate n 0).map u64V)
  rw [el] at cn
  refine ⟨sm.trans (s1.trans s2), G.same (s1.trans s2), lps, pr.same (s1.trans s2), ⟨cw.same s2, fun i _ => WayV.nil _ _, fun i j _ _ _ b hb => (by cases hb), sm.1⟩, cn, List.length_replicate .., Nat.le_succ_of_le sm.1, fun i hi => ?_, fun i hi => ?_, fun a b _ _ w hw => (by cases hw), fun x hx => ?_⟩
  · obtain ⟨_, _, c, _⟩ := (G.eng i hi).eng
    have := c.lt
    have := (G.eng i hi).seen.lt
    omega
  · refine ⟨⟨by decide, (by simp), (by simp), .nil⟩, ⟨by decide, (by simp), (by simp)⟩, (by intro e he; cases he), ?_, List.length_replicate ..⟩
    rw [List.getD_eq_getElem?_getD, List.getElem?_replicate]
    split <;> rfl
  · rw [List.eq_of_mem_replicate hx]
    exact Nat.le_refl _
theorem LS.up {h0 h : Heap} {n bw bn k : Nat} {ps : List (Nat × Nat)} {pv : Value} {E : Nat → List E3} {S : Nat → List Nat} {num : Nat → Nat} {wv : Nat → Value} {lv : Nat → List Value} {W : Nat → List Wd} {nums : List Nat} (L : LS h0 h n bw bn k ps pv E S num wv lv W nums) : LS h0 h n bw bn (k + 1) ps pv E S num wv lv W nums :=
  { L with small := fun x hx => Nat.le_succ_of_le (L.small x hx) }
end Go.Am
namespace Go.Am
open Go.Proofs
set_option maxRecDepth 100000
set_option linter.all false
attribute [local congr] obind_congr obH_congr cnd_congr chk_congr retK_congr codeK_congr
theorem remI (t : TypeId) (xo yo : Operand) (a : Int) (b : Nat) (ha : 0 ≤ a) (hb : 0 < b) (hb2 : b < 2 ^ 62) : binV Tryd.prog .rem t xo yo (.int .i64 a) (.int .i64 b) = some (.int .i64 ((a.toNat % b : Nat) : Int)) := by
  refine bin_int t xo yo .i64 .i64 a b .rem rfl ?_
  have h1 : ¬ ((b : Int) = 0) := by omega
  have e : ((a.toNat % b : Nat) : Int) = a.tmod b := by
    rw [Int.tmod_eq_emod_of_nonneg ha]
    push_cast
    rw [Int.toNat_of_nonneg ha]
  have hlt := Nat.mod_lt a.toNat hb
  simp only [eqGuard,Go.binOp,Op.intDiv]
  rw [if_neg h1, ← e]
  rfl
theorem faMv2 (p : Nat) : fieldAddrV Tryd.prog 55 (.pointer (some ⟨p, 0, none⟩)) 2 = some (.pointer (some ⟨p, 2, none⟩)) := by kernel_rfl
theorem lnWd (a : Option Addr) (n c : Nat) (h : Heap) : lenV Tryd.prog 59 (.slice a n c) h = some (.int .i64 n) := by kernel_rfl
theorem WayV.shape {n0 : Nat} {h : Heap} {v : Value} {lvs : List Value} {ws : List Wd} (w : WayV n0 h v lvs ws) : ∃ a c, v = .slice a ws.length c := Acc.shape w.row
theorem KpT.refl (t : TypeId) (h : Heap) : KpT t h h := ⟨Nat.le_refl _, fun _ _ _ _ _ => rfl⟩
theorem ls_tk {β : Type} {Q : Option β → Prop} {kk : Ex → St → Option β} {h0 h : Heap} {n bw bn k P pm : Nat} {ps : List (Nat × Nat)} {pv : Value} {E : Nat → List E3} {S : Nat → List Nat} {num : Nat → Nat} {wv : Nat → Value} {lv : Nat → List Value} {W : Nat → List Wd} {nums : List Nat} {mv : List Value} {b : Nat → Value} {kz : Int}
    (L : LS h0 h n bw bn k ps pv E S num wv lv W nums) (hn : n ≤ 6) (hkk : k ≤ 40) (hP : P < n) (cm : Cells h pm 55 mv) (hm1 : mv[1]? = some (.int .i64 (P : Nat))) (hm2 : mv[2]? = some (.int .i64 kz)) (hW : ∀ i, (W i).length ≤ 64 * k)
    (b0 : b 0 = .int .i64 n) (b5 : b 5 = pv) (b9 : b 9 = .slice (some ⟨bw, 0, none⟩) (n * n) (n * n)) (b10 : b 10 = .slice (some ⟨bn, 0, none⟩) n n) (b12 : b 12 = .pointer (some ⟨pm, 0, none⟩))
    (hk : ∀ (h' : Heap) (y : Nat → Value) (E' : Nat → List E3) (S' : Nat → List Nat) (wv' : Nat → Value) (lv' : Nat → List Value) (W' : Nat → List Wd), LS h0 h' n bw bn (k + 1) ps pv E' S' num wv' lv' W' nums → Cells h' pm 55 mv → (∀ i, (W' i).length ≤ 64 * (k + 1)) → K9 b y → Q (kk .normal ⟨ar 292 y, h'⟩)) :
    ∀ x : Nat → Value, K9 b x → Q (cK c4_21 292 x h kk) := by
  intro x K
  have pP : P < ps.length := by rw [L.lps]; exact hP
  have Aa := K.e0.trans b0
  have Af := K.e5.trans b5
  have Aj := K.e9.trans b9
  have An := K.e12.trans b12
  have lp1 : h.load1 pm 1 = some (.int .i64 (P : Nat)) := (cm.load 1).trans hm1
  have lp2 : h.load1 pm 2 = some (.int .i64 kz) := (cm.load 2).trans hm2
  have W1 : ∀ i, (W i).length ≤ 64 * (k + 1) := fun i => by have := hW i; omega
  by_cases hz : kz ≥ 0
  · have rm := fun t xo yo => remI t xo yo kz n hz (by omega) (by omega)
    have am : kz.toNat % n < n := Nat.mod_lt _ (by omega)
    generalize kz.toNat % n = a at rm am
    have hat := at_lt am hP
    have hNN : n * n ≤ 36 := Nat.le_trans (Nat.mul_le_mul hn hn) (by omega)
    have hPn : a * n < 2 ^ 20 := by omega
    have w1 : IntKind.wrap .i64 ((a : Int) * (n : Int)) = ((a * n : Nat) : Int) := by rw [← Int.natCast_mul, wrap_i64] <;> omega
    have w2 : IntKind.wrap .i64 (((a * n : Nat) : Int) + (P : Nat)) = ((a * n + P : Nat) : Int) := by rw [wrap_i64] <;> omega
    have ia1 := iaWs bw (n * n) (a * n + P) hat
    have la1 := L.Wy.at hat
    have WY := L.Wy.one _ hat
    obtain ⟨va, vc, ev⟩ := WY.shape
    rw [ev] at la1
    simp -implicitDefEqProofs (disch := omega) only [↓c4_21_eq, ↓c4_26_eq, ↓c4_27_eq, ↓c4_28_eq, ↓c4_30_eq, ↓c4_31_eq, dcT,Aa,An, faMv1, faMv2, ldI, lp1, lp2, decide_eq_true hz, rm, w1, w2, ↓cnd_true, ↓cnd_false, ↓Option.bind_some, ↓obH_some', bin_add, bin_sub, bin_mul, bin_lss, bin_leq, bin_gtr, bin_geq, bin_eql, bin_neq, un_not, un_neg, Option.bind_some, Option.bind_none, Option.map_some, cnd_true, cnd_false, pickV_true, pickV_false, gd_true, gd_false, gdV_true, gdV_false, gdH_true, gdH_false, gdS_true, gdS_false, wt_ff, wt_tt, wt_ft, wt_tf, wt_undef, obH_some', extractV_tuple, nilCheckV_ptr, againK_normal, againK_exit, againK_ret, blockK_normal, blockK_same, blockK_ret, seqK_normal, seqK_exit, seqK_ret, fin_done, if_true', if_false', Bool.not_true, Bool.not_false, idx0, idx1, idx2, idx3, idx4, chk_nil_l, chk_nil_r, done_nm, up_cons, up_nil, cond_true, cond_false, Nat.reduceBEq]
    cases hws : W (a * n + P) with
    | nil =>
      rw [hws] at la1 ev WY
      simp -implicitDefEqProofs (disch := omega) only [↓c4_32_eq, ↓c4_33_eq, ↓d4_0_0, ↓d4_0_1, ↓d4_0_2, ↓d4_0_3, ↓d4_0_4, ↓d4_0_5, ↓d4_0_6, ↓d4_0_7, ↓d4_0_8, ↓d4_0_9, ↓d4_0_10, ↓d4_0_11, ↓d4_0_12, ↓d4_0_13, ↓d4_0_14, ↓d4_0_15, ↓d4_0_16, ↓d4_0_17, ↓d4_0_18, ↓d4_0_19, ↓d4_0_20, ↓d4_0_21, ↓d4_0_22, ↓d4_0_23, ↓d4_0_24, ↓d4_0_25, ↓d4_0_26, ↓d4_0_27, ↓d4_0_28, ↓d4_0_29, ↓d4_0_30, ↓d4_0_31, ↓d4_0_32, ↓d4_0_33, ↓d4_0_34, ↓d4_0_35, ↓d4_0_36, ↓d4_0_37, ↓d4_0_38, ↓d4_0_39, ↓d4_0_40, ↓d4_0_41, ↓d4_0_42,Aj, ia1, ldWd, la1, lnWd, List.length_nil, dcF, ↓cnd_true, ↓cnd_false, ↓Option.bind_some, ↓obH_some', bin_add, bin_sub, bin_mul, bin_lss, bin_leq, bin_gtr, bin_geq, bin_eql, bin_neq, un_not, un_neg, Option.bind_some, Option.bind_none, Option.map_some, cnd_true, cnd_false, pickV_true, pickV_false, gd_true, gd_false, gdV_true, gdV_false, gdH_true, gdH_false, gdS_true, gdS_false, wt_ff, wt_tt, wt_ft, wt_tf, wt_undef, obH_some', extractV_tuple, nilCheckV_ptr, againK_normal, againK_exit, againK_ret, blockK_normal, blockK_same, blockK_ret, seqK_normal, seqK_exit, seqK_ret, fin_done, if_true', if_false', Bool.not_true, Bool.not_false, idx0, idx1, idx2, idx3, idx4, chk_nil_l, chk_nil_r, done_nm, up_cons, up_nil, cond_true, cond_false, Nat.reduceBEq]
      exact hk h _ E S wv lv W L.up cm W1 ⟨K.e0, K.e1, K.e5, K.e9, K.e10, K.e11, K.e12⟩
    | cons w ws =>
      rw [hws, List.length_cons] at la1 ev
      rw [hws] at WY
      obtain ⟨wb, wo, l1, ls, els, f0, f1, f2, f3, f4, fb⟩ := WY.first
      rw [ev] at f0
      obtain ⟨ad, i1, i2⟩ := L.eng pP
      have okw := L.wds a P am hP w (by rw [hws]; exact List.mem_cons_self)
      obtain ⟨r, h1, E', S', e1, m1, L1⟩ := L.take hn (by omega) am hP pP okw fb
      have cm1 : Cells h1 pm 55 mv := (m1.old pm cm.lt fun e => by
        rcases (L.G.eng P pP).tyOf e cm with h | h
        · exact absurd h (by decide)
        · exact absurd h (by decide)).trans cm
      have gt : decide (((ws.length + 1 : Nat) : Int) > 0) = true := decide_eq_true (by omega)
      cases r with
      | false =>
        simp -implicitDefEqProofs (disch := omega) only [↓c4_32_eq, ↓c4_33_eq, ↓d4_0_0, ↓d4_0_1, ↓d4_0_2, ↓d4_0_3, ↓d4_0_4, ↓d4_0_5, ↓d4_0_6, ↓d4_0_7, ↓d4_0_8, ↓d4_0_9, ↓d4_0_10, ↓d4_0_11, ↓d4_0_12, ↓d4_0_13, ↓d4_0_14, ↓d4_0_15, ↓d4_0_16, ↓d4_0_17, ↓d4_0_18, ↓d4_0_19, ↓d4_0_20, ↓d4_0_21, ↓d4_0_22, ↓d4_0_23, ↓d4_0_24, ↓d4_0_25, ↓d4_0_26, ↓d4_0_27, ↓d4_0_28, ↓d4_0_29, ↓d4_0_30, ↓d4_0_31, ↓d4_0_32, ↓d4_0_33, ↓d4_0_34, ↓d4_0_35, ↓d4_0_36, ↓d4_0_37, ↓d4_0_38, ↓d4_0_39, ↓d4_0_40, ↓d4_0_41, ↓d4_0_42,Af,Aj,An, ia1, ldWd, la1, lnWd, List.length_cons, gt, faMv1, ldI, lp1, i1, i2, f0, faWd0, faWd2, faWd3, faWd4, ldU64, ldB, f1, f2, f3, f4, e1, ↓cnd_true, ↓cnd_false, ↓Option.bind_some, ↓obH_some', bin_add, bin_sub, bin_mul, bin_lss, bin_leq, bin_gtr, bin_geq, bin_eql, bin_neq, un_not, un_neg, Option.bind_some, Option.bind_none, Option.map_some, cnd_true, cnd_false, pickV_true, pickV_false, gd_true, gd_false, gdV_true, gdV_false, gdH_true, gdH_false, gdS_true, gdS_false, wt_ff, wt_tt, wt_ft, wt_tf, wt_undef, obH_some', extractV_tuple, nilCheckV_ptr, againK_normal, againK_exit, againK_ret, blockK_normal, blockK_same, blockK_ret, seqK_normal, seqK_exit, seqK_ret, fin_done, if_true', if_false', Bool.not_true, Bool.not_false, idx0, idx1, idx2, idx3, idx4, chk_nil_l, chk_nil_r, done_nm, up_cons, up_nil, cond_true, cond_false, Nat.reduceBEq]
        exact hk h1 _ E' S' wv lv W L1.up cm1 W1 ⟨K.e0, K.e1, K.e5, K.e9, K.e10, K.e11, K.e12⟩
      | true =>
        have la2 := L1.Wy.at hat
        rw [ev] at la2
        have WY1 := L1.Wy.one _ hat
        rw [hws, els] at WY1
        obtain ⟨v', t1, t2, t3⟩ := WY1.tail
        rw [ev] at t1
        obtain ⟨h2, st, L2, kk2, _⟩ := L1.word am hP (KpT.refl _ h1) (fun _ _ _ => rfl) (fun _ _ => rfl) t2 (.inl t3) fun w' hw => L1.wds a P am hP w' (by rw [hws]; exact List.mem_cons_of_mem _ hw)
        obtain ⟨va', vc', rfl⟩ := t2.shape
        simp -implicitDefEqProofs (disch := omega) only [↓c4_32_eq, ↓c4_33_eq, ↓d4_0_0, ↓d4_0_1, ↓d4_0_2, ↓d4_0_3, ↓d4_0_4, ↓d4_0_5, ↓d4_0_6, ↓d4_0_7, ↓d4_0_8, ↓d4_0_9, ↓d4_0_10, ↓d4_0_11, ↓d4_0_12, ↓d4_0_13, ↓d4_0_14, ↓d4_0_15, ↓d4_0_16, ↓d4_0_17, ↓d4_0_18, ↓d4_0_19, ↓d4_0_20, ↓d4_0_21, ↓d4_0_22, ↓d4_0_23, ↓d4_0_24, ↓d4_0_25, ↓d4_0_26, ↓d4_0_27, ↓d4_0_28, ↓d4_0_29, ↓d4_0_30, ↓d4_0_31, ↓d4_0_32, ↓d4_0_33, ↓d4_0_34, ↓d4_0_35, ↓d4_0_36, ↓d4_0_37, ↓d4_0_38, ↓d4_0_39, ↓d4_0_40, ↓d4_0_41, ↓d4_0_42,Af,Aj,An, ia1, ldWd, la1, la2, lnWd, List.length_cons, gt, faMv1, ldI, lp1, i1, i2, f0, faWd0, faWd2, faWd3, faWd4, ldU64, ldB, f1, f2, f3, f4, e1, t1, stWd, st, ↓cnd_true, ↓cnd_false, ↓Option.bind_some, ↓obH_some', bin_add, bin_sub, bin_mul, bin_lss, bin_leq, bin_gtr, bin_geq, bin_eql, bin_neq, un_not, un_neg, Option.bind_some, Option.bind_none, Option.map_some, cnd_true, cnd_false, pickV_true, pickV_false, gd_true, gd_false, gdV_true, gdV_false, gdH_true, gdH_false, gdS_true, gdS_false, wt_ff, wt_tt, wt_ft, wt_tf, wt_undef, obH_some', extractV_tuple, nilCheckV_ptr, againK_normal, againK_exit, againK_ret, blockK_normal, blockK_same, blockK_ret, seqK_normal, seqK_exit, seqK_ret, fin_done, if_true', if_false', Bool.not_true, Bool.not_false, idx0, idx1, idx2, idx3, idx4, chk_nil_l, chk_nil_r, done_nm, up_cons, up_nil, cond_true, cond_false, Nat.reduceBEq]
        refine hk h2 _ E' S' _ _ _ L2.up (cm1.kpT kk2 (by decide)) (fun i => ?_) ⟨K.e0, K.e1, K.e5, K.e9, K.e10, K.e11, K.e12⟩
        by_cases e : i = a * n + P
        · subst e
          rw [updN_self]
          have := W1 (a * n + P)
          rw [hws, List.length_cons] at this
          omega
        · rw [updN_ne _ _ e]
          exact W1 i
  · simp -implicitDefEqProofs (disch := omega) only [↓c4_21_eq, ↓c4_26_eq, ↓c4_27_eq, ↓c4_29_eq, dcF,An, faMv2, ldI, lp2, ↓cnd_true, ↓cnd_false, ↓Option.bind_some, ↓obH_some', bin_add, bin_sub, bin_mul, bin_lss, bin_leq, bin_gtr, bin_geq, bin_eql, bin_neq, un_not, un_neg, Option.bind_some, Option.bind_none, Option.map_some, cnd_true, cnd_false, pickV_true, pickV_false, gd_true, gd_false, gdV_true, gdV_false, gdH_true, gdH_false, gdS_true, gdS_false, wt_ff, wt_tt, wt_ft, wt_tf, wt_undef, obH_some', extractV_tuple, nilCheckV_ptr, againK_normal, againK_exit, againK_ret, blockK_normal, blockK_same, blockK_ret, seqK_normal, seqK_exit, seqK_ret, fin_done, if_true', if_false', Bool.not_true, Bool.not_false, idx0, idx1, idx2, idx3, idx4, chk_nil_l, chk_nil_r, done_nm, up_cons, up_nil, cond_true, cond_false, Nat.reduceBEq]
    exact hk h _ E S wv lv W L.up cm W1 ⟨K.e0, K.e1, K.e5, K.e9, K.e10, K.e11, K.e12⟩
end Go.Am
namespace Go.Am
open Go.Proofs
set_option maxRecDepth 100000
set_option linter.all false
attribute [local congr] obind_congr obH_congr cnd_congr chk_congr retK_congr codeK_congr
theorem faMv0 (p : Nat) : fieldAddrV Tryd.prog 55 (.pointer (some ⟨p, 0, none⟩)) 0 = some (.pointer (some ⟨p, 0, none⟩)) := by kernel_rfl
theorem ls_loop {h0 h1 : Heap} {n bw bn : Nat} {v pv : Value} {l : List MV} {ps : List (Nat × Nat)} (hn : n ≤ 6) (hl : l.length ≤ 40) (hw : ∀ p ∈ l, p.to < 2 ^ 64) (sl : SMv h1 v l) :
    ∀ (mm i : Nat) (h : Heap) (E : Nat → List E3) (S : Nat → List Nat) (num : Nat → Nat) (wv : Nat → Value) (lv : Nat → List Value) (W : Nat → List Wd) (nums : List Nat), l.length = i + mm → LS h1 h n bw bn i ps pv E S num wv lv W nums → (∀ j, (W j).length ≤ 64 * i) →
    ∀ x : Nat → Value, x 0 = .int .i64 n → x 1 = v → x 5 = pv → x 9 = .slice (some ⟨bw, 0, none⟩) (n * n) (n * n) → x 10 = .slice (some ⟨bn, 0, none⟩) n n → x 11 = .int .i64 i →
    ∃ h', lK c4_3 292 x h (blockK 2 (sK c4_4 (retK Tryd.f4 Tryd.prog h0))) = some (.bool true, h') := by
  intro mm
  induction mm with
  | zero =>
    intro i h E S num wv lv W nums hi L hW x Aa Ab Af Aj Ak Al
    rw [lK_eq]
    obtain rfl : i = l.length := by omega
    have ln := (sl.same L.sm).len
    simp -implicitDefEqProofs (disch := omega) only [↓c4_3_eq, ↓c4_4_eq, ↓c4_5_eq, dcT, dcF,Ab,Al, ln, ↓ret4, ↓cnd_true, ↓cnd_false, ↓Option.bind_some, ↓obH_some', bin_add, bin_sub, bin_mul, bin_lss, bin_leq, bin_gtr, bin_geq, bin_eql, bin_neq, un_not, un_neg, Option.bind_some, Option.bind_none, Option.map_some, cnd_true, cnd_false, pickV_true, pickV_false, gd_true, gd_false, gdV_true, gdV_false, gdH_true, gdH_false, gdS_true, gdS_false, wt_ff, wt_tt, wt_ft, wt_tf, wt_undef, obH_some', extractV_tuple, nilCheckV_ptr, againK_normal, againK_exit, againK_ret, blockK_normal, blockK_same, blockK_ret, seqK_normal, seqK_exit, seqK_ret, fin_done, if_true', if_false', Bool.not_true, Bool.not_false, idx0, idx1, idx2, idx3, idx4, chk_nil_l, chk_nil_r, done_nm, up_cons, up_nil, cond_true, cond_false, Nat.reduceBEq]
    exact ⟨_, rfl⟩
  | succ mm ih =>
    intro i h E S num wv lv W nums hi L hW x Aa Ab Af Aj Ak Al
    rw [lK_eq]
    have hlt : i < l.length := by omega
    have ln := (sl.same L.sm).len
    obtain ⟨b, o, hat, hld⟩ := sl.at hlt
    have hp := hw l[i] (List.getElem_mem hlt)
    have hld1 := hld h L.sm
    generalize l[i] = p at hld1 hp
    obtain ⟨p0, pP, pk, pto⟩ := p
    obtain ⟨hA, hB, e1, sA, e2, cm, sB⟩ := var_mv h ⟨p0, pP, pk, pto⟩
    have LB := L.same sB
    have l0 : hB.load1 h.blks.length 0 = some (.int .i64 p0) := cm.load 0
    have l1 : hB.load1 h.blks.length 1 = some (.int .i64 pP) := cm.load 1
    have hwr : IntKind.wrap .i64 ((i : Int) + 1) = ((i + 1 : Nat) : Int) := by rw [wrap_i64] <;> omega
    by_cases g1 : pP < 0
    · simp -implicitDefEqProofs (disch := omega) only [↓c4_3_eq, ↓c4_5_eq, ↓c4_6_eq, ↓c4_7_eq, ↓c4_9_eq, ↓c4_10_eq, ↓c4_11_eq, ↓c4_12_eq, dcT, dcF,Aa,Ab,Al, ln, hat, hld1, e1, e2, faMv1, ldI, l1, ↓ret4, ↓cnd_true, ↓cnd_false, ↓Option.bind_some, ↓obH_some', bin_add, bin_sub, bin_mul, bin_lss, bin_leq, bin_gtr, bin_geq, bin_eql, bin_neq, un_not, un_neg, Option.bind_some, Option.bind_none, Option.map_some, cnd_true, cnd_false, pickV_true, pickV_false, gd_true, gd_false, gdV_true, gdV_false, gdH_true, gdH_false, gdS_true, gdS_false, wt_ff, wt_tt, wt_ft, wt_tf, wt_undef, obH_some', extractV_tuple, nilCheckV_ptr, againK_normal, againK_exit, againK_ret, blockK_normal, blockK_same, blockK_ret, seqK_normal, seqK_exit, seqK_ret, fin_done, if_true', if_false', Bool.not_true, Bool.not_false, idx0, idx1, idx2, idx3, idx4, chk_nil_l, chk_nil_r, done_nm, up_cons, up_nil, cond_true, cond_false, Nat.reduceBEq]
      exact ⟨_, rfl⟩
    by_cases g2 : pP ≥ (n : Int)
    · simp -implicitDefEqProofs (disch := omega) only [↓c4_3_eq, ↓c4_5_eq, ↓c4_6_eq, ↓c4_7_eq, ↓c4_9_eq, ↓c4_10_eq, ↓c4_11_eq, ↓c4_12_eq, dcT, dcF,Aa,Ab,Al, ln, hat, hld1, e1, e2, faMv1, ldI, l1, ↓ret4, ↓cnd_true, ↓cnd_false, ↓Option.bind_some, ↓obH_some', bin_add, bin_sub, bin_mul, bin_lss, bin_leq, bin_gtr, bin_geq, bin_eql, bin_neq, un_not, un_neg, Option.bind_some, Option.bind_none, Option.map_some, cnd_true, cnd_false, pickV_true, pickV_false, gd_true, gd_false, gdV_true, gdV_false, gdH_true, gdH_false, gdS_true, gdS_false, wt_ff, wt_tt, wt_ft, wt_tf, wt_undef, obH_some', extractV_tuple, nilCheckV_ptr, againK_normal, againK_exit, againK_ret, blockK_normal, blockK_same, blockK_ret, seqK_normal, seqK_exit, seqK_ret, fin_done, if_true', if_false', Bool.not_true, Bool.not_false, idx0, idx1, idx2, idx3, idx4, chk_nil_l, chk_nil_r, done_nm, up_cons, up_nil, cond_true, cond_false, Nat.reduceBEq]
      exact ⟨_, rfl⟩
    obtain ⟨P, rfl⟩ : ∃ k : Nat, pP = k := ⟨pP.toNat, by omega⟩
    have hP : P < n := by omega
    have nx : ∀ (h3 : Heap) (y : Nat → Value) (E' : Nat → List E3) (S' : Nat → List Nat) (num' : Nat → Nat) (wv' : Nat → Value) (lv' : Nat → List Value) (W' : Nat → List Wd) (nums' : List Nat), LS h1 h3 n bw bn (i + 1) ps pv E' S' num' wv' lv' W' nums' → Cells h3 h.blks.length 55 (mvC ⟨p0, (P : Nat), pk, pto⟩) → (∀ j, (W' j).length ≤ 64 * (i + 1)) →
        y 0 = .int .i64 n → y 1 = v → y 5 = pv → y 9 = .slice (some ⟨bw, 0, none⟩) (n * n) (n * n) → y 10 = .slice (some ⟨bn, 0, none⟩) n n → y 11 = .int .i64 i → y 12 = .pointer (some ⟨h.blks.length, 0, none⟩) →
        ∃ h', cK c4_15 292 y h3 (blockK 3 (sK c4_8 (againK Tryd.prog (evC Tryd.prog) c4_3 (blockK 2 (sK c4_4 (retK Tryd.f4 Tryd.prog h0)))))) = some (.bool true, h') := by
      intro h3 y E' S' num' wv' lv' W' nums' L3 c3 hW3 y0 y1 y5 y9 y10 y11 y12
      refine ls_look (Q := fun r => ∃ h' : Heap, r = some (Value.bool true, h')) (b := y) L3 hn (by omega) hP c3 rfl y0 y5 y10 y12 (fun h4 z sm4 K => ?_) y ⟨rfl, rfl, rfl, rfl, rfl, rfl, rfl⟩
      have z11 := K.e11.trans y11
      simp -implicitDefEqProofs (disch := omega) only [↓c4_8_eq, z11, hwr, ↓cnd_true, ↓cnd_false, ↓Option.bind_some, ↓obH_some', bin_add, bin_sub, bin_mul, bin_lss, bin_leq, bin_gtr, bin_geq, bin_eql, bin_neq, un_not, un_neg, Option.bind_some, Option.bind_none, Option.map_some, cnd_true, cnd_false, pickV_true, pickV_false, gd_true, gd_false, gdV_true, gdV_false, gdH_true, gdH_false, gdS_true, gdS_false, wt_ff, wt_tt, wt_ft, wt_tf, wt_undef, obH_some', extractV_tuple, nilCheckV_ptr, againK_normal, againK_exit, againK_ret, blockK_normal, blockK_same, blockK_ret, seqK_normal, seqK_exit, seqK_ret, fin_done, if_true', if_false', Bool.not_true, Bool.not_false, idx0, idx1, idx2, idx3, idx4, chk_nil_l, chk_nil_r, done_nm, up_cons, up_nil, cond_true, cond_false, Nat.reduceBEq]
      exact ih (i + 1) h4 E' S' num' wv' lv' W' nums' (by omega) (L3.same sm4) hW3 _ (K.e0.trans y0) (K.e1.trans y1) (K.e5.trans y5) (K.e9.trans y9) (K.e10.trans y10) rfl
    by_cases g3 : p0 = 0
    · simp -implicitDefEqProofs (disch := omega) only [↓c4_3_eq, ↓c4_5_eq, ↓c4_6_eq, ↓c4_7_eq, ↓c4_9_eq, ↓c4_10_eq, ↓c4_11_eq, ↓c4_12_eq, ↓c4_13_eq, ↓c4_14_eq, ↓c4_16_eq, ↓c4_17_eq, dcT, dcF,Aa,Ab,Al, ln, hat, hld1, e1, e2, faMv0, faMv1, ldI, l0, l1, ↓cnd_true, ↓cnd_false, ↓Option.bind_some, ↓obH_some', bin_add, bin_sub, bin_mul, bin_lss, bin_leq, bin_gtr, bin_geq, bin_eql, bin_neq, un_not, un_neg, Option.bind_some, Option.bind_none, Option.map_some, cnd_true, cnd_false, pickV_true, pickV_false, gd_true, gd_false, gdV_true, gdV_false, gdH_true, gdH_false, gdS_true, gdS_false, wt_ff, wt_tt, wt_ft, wt_tf, wt_undef, obH_some', extractV_tuple, nilCheckV_ptr, againK_normal, againK_exit, againK_ret, blockK_normal, blockK_same, blockK_ret, seqK_normal, seqK_exit, seqK_ret, fin_done, if_true', if_false', Bool.not_true, Bool.not_false, idx0, idx1, idx2, idx3, idx4, chk_nil_l, chk_nil_r, done_nm, up_cons, up_nil, cond_true, cond_false, Nat.reduceBEq]
      refine ls_send (Q := fun r => ∃ h' : Heap, r = some (Value.bool true, h')) (b := up x [(12, .pointer (some ⟨h.blks.length, 0, none⟩))]) LB hn (by omega) hP cm rfl rfl hp hW Aa Af Aj Ak rfl (fun h' y E' S' num' wv' lv' W' nums' L' c' w' K => ?_) _ ⟨rfl, rfl, rfl, rfl, rfl, rfl, rfl⟩
      simp -implicitDefEqProofs (disch := omega) only [↓cnd_true, ↓cnd_false, ↓Option.bind_some, ↓obH_some', bin_add, bin_sub, bin_mul, bin_lss, bin_leq, bin_gtr, bin_geq, bin_eql, bin_neq, un_not, un_neg, Option.bind_some, Option.bind_none, Option.map_some, cnd_true, cnd_false, pickV_true, pickV_false, gd_true, gd_false, gdV_true, gdV_false, gdH_true, gdH_false, gdS_true, gdS_false, wt_ff, wt_tt, wt_ft, wt_tf, wt_undef, obH_some', extractV_tuple, nilCheckV_ptr, againK_normal, againK_exit, againK_ret, blockK_normal, blockK_same, blockK_ret, seqK_normal, seqK_exit, seqK_ret, fin_done, if_true', if_false', Bool.not_true, Bool.not_false, idx0, idx1, idx2, idx3, idx4, chk_nil_l, chk_nil_r, done_nm, up_cons, up_nil, cond_true, cond_false, Nat.reduceBEq]
      exact nx h' y E' S' num' wv' lv' W' nums' L' c' w' (K.e0.trans Aa) (K.e1.trans Ab) (K.e5.trans Af) (K.e9.trans Aj) (K.e10.trans Ak) (K.e11.trans Al) K.e12
    · simp -implicitDefEqProofs (disch := omega) only [↓c4_3_eq, ↓c4_5_eq, ↓c4_6_eq, ↓c4_7_eq, ↓c4_9_eq, ↓c4_10_eq, ↓c4_11_eq, ↓c4_12_eq, ↓c4_13_eq, ↓c4_14_eq, ↓c4_16_eq, ↓c4_17_eq, dcT, dcF,Aa,Ab,Al, ln, hat, hld1, e1, e2, faMv0, faMv1, ldI, l0, l1, ↓cnd_true, ↓cnd_false, ↓Option.bind_some, ↓obH_some', bin_add, bin_sub, bin_mul, bin_lss, bin_leq, bin_gtr, bin_geq, bin_eql, bin_neq, un_not, un_neg, Option.bind_some, Option.bind_none, Option.map_some, cnd_true, cnd_false, pickV_true, pickV_false, gd_true, gd_false, gdV_true, gdV_false, gdH_true, gdH_false, gdS_true, gdS_false, wt_ff, wt_tt, wt_ft, wt_tf, wt_undef, obH_some', extractV_tuple, nilCheckV_ptr, againK_normal, againK_exit, againK_ret, blockK_normal, blockK_same, blockK_ret, seqK_normal, seqK_exit, seqK_ret, fin_done, if_true', if_false', Bool.not_true, Bool.not_false, idx0, idx1, idx2, idx3, idx4, chk_nil_l, chk_nil_r, done_nm, up_cons, up_nil, cond_true, cond_false, Nat.reduceBEq]
      refine ls_tk (Q := fun r => ∃ h' : Heap, r = some (Value.bool true, h')) (b := up x [(12, .pointer (some ⟨h.blks.length, 0, none⟩))]) LB hn (by omega) hP cm rfl rfl hW Aa Af Aj Ak rfl (fun h' y E' S' wv' lv' W' L' c' w' K => ?_) _ ⟨rfl, rfl, rfl, rfl, rfl, rfl, rfl⟩
      simp -implicitDefEqProofs (disch := omega) only [↓cnd_true, ↓cnd_false, ↓Option.bind_some, ↓obH_some', bin_add, bin_sub, bin_mul, bin_lss, bin_leq, bin_gtr, bin_geq, bin_eql, bin_neq, un_not, un_neg, Option.bind_some, Option.bind_none, Option.map_some, cnd_true, cnd_false, pickV_true, pickV_false, gd_true, gd_false, gdV_true, gdV_false, gdH_true, gdH_false, gdS_true, gdS_false, wt_ff, wt_tt, wt_ft, wt_tf, wt_undef, obH_some', extractV_tuple, nilCheckV_ptr, againK_normal, againK_exit, againK_ret, blockK_normal, blockK_same, blockK_ret, seqK_normal, seqK_exit, seqK_ret, fin_done, if_true', if_false', Bool.not_true, Bool.not_false, idx0, idx1, idx2, idx3, idx4, chk_nil_l, chk_nil_r, done_nm, up_cons, up_nil, cond_true, cond_false, Nat.reduceBEq]
      exact nx h' y E' S' num wv' lv' W' nums L' c' w' (K.e0.trans Aa) (K.e1.trans Ab) (K.e5.trans Af) (K.e9.trans Aj) (K.e10.trans Ak) (K.e11.trans Al) K.e12
theorem mlaw_LeanShort (n : Int) (v : Value) (l : List MV) (hw : ∀ p ∈ l, p.to < 2 ^ 64) (h : Heap) (sl : SMv h v l) : ∃ h', evC Tryd.prog 4 #[.int .i64 n, v] h = some (.bool true, h') := by
  rw [call4]
  obtain ⟨h1, e1,Ab⟩ := spec_awake19 (nm h)
  have sl1 : SMv h1 v l := (sl.same (sameNm h)).same Ab.same
  have ln := sl1.len
  by_cases g0 : n < 1
  · simp -implicitDefEqProofs (disch := omega) only [↓c4_0_eq, dcT, dcF, e1, ↓ret4, ↓cnd_true, ↓cnd_false, ↓Option.bind_some, ↓obH_some', bin_add, bin_sub, bin_mul, bin_lss, bin_leq, bin_gtr, bin_geq, bin_eql, bin_neq, un_not, un_neg, Option.bind_some, Option.bind_none, Option.map_some, cnd_true, cnd_false, pickV_true, pickV_false, gd_true, gd_false, gdV_true, gdV_false, gdH_true, gdH_false, gdS_true, gdS_false, wt_ff, wt_tt, wt_ft, wt_tf, wt_undef, obH_some', extractV_tuple, nilCheckV_ptr, againK_normal, againK_exit, againK_ret, blockK_normal, blockK_same, blockK_ret, seqK_normal, seqK_exit, seqK_ret, fin_done, if_true', if_false', Bool.not_true, Bool.not_false, idx0, idx1, idx2, idx3, idx4, chk_nil_l, chk_nil_r, done_nm, up_cons, up_nil, cond_true, cond_false, Nat.reduceBEq]
    exact ⟨_, rfl⟩
  by_cases g1 : n > 6
  · simp -implicitDefEqProofs (disch := omega) only [↓c4_0_eq, dcT, dcF, e1, ↓ret4, ↓cnd_true, ↓cnd_false, ↓Option.bind_some, ↓obH_some', bin_add, bin_sub, bin_mul, bin_lss, bin_leq, bin_gtr, bin_geq, bin_eql, bin_neq, un_not, un_neg, Option.bind_some, Option.bind_none, Option.map_some, cnd_true, cnd_false, pickV_true, pickV_false, gd_true, gd_false, gdV_true, gdV_false, gdH_true, gdH_false, gdS_true, gdS_false, wt_ff, wt_tt, wt_ft, wt_tf, wt_undef, obH_some', extractV_tuple, nilCheckV_ptr, againK_normal, againK_exit, againK_ret, blockK_normal, blockK_same, blockK_ret, seqK_normal, seqK_exit, seqK_ret, fin_done, if_true', if_false', Bool.not_true, Bool.not_false, idx0, idx1, idx2, idx3, idx4, chk_nil_l, chk_nil_r, done_nm, up_cons, up_nil, cond_true, cond_false, Nat.reduceBEq]
    exact ⟨_, rfl⟩
  by_cases g2 : l.length > 40
  · simp -implicitDefEqProofs (disch := omega) only [↓c4_0_eq, dcT, dcF, e1, ln, ↓ret4, ↓cnd_true, ↓cnd_false, ↓Option.bind_some, ↓obH_some', bin_add, bin_sub, bin_mul, bin_lss, bin_leq, bin_gtr, bin_geq, bin_eql, bin_neq, un_not, un_neg, Option.bind_some, Option.bind_none, Option.map_some, cnd_true, cnd_false, pickV_true, pickV_false, gd_true, gd_false, gdV_true, gdV_false, gdH_true, gdH_false, gdS_true, gdS_false, wt_ff, wt_tt, wt_ft, wt_tf, wt_undef, obH_some', extractV_tuple, nilCheckV_ptr, againK_normal, againK_exit, againK_ret, blockK_normal, blockK_same, blockK_ret, seqK_normal, seqK_exit, seqK_ret, fin_done, if_true', if_false', Bool.not_true, Bool.not_false, idx0, idx1, idx2, idx3, idx4, chk_nil_l, chk_nil_r, done_nm, up_cons, up_nil, cond_true, cond_false, Nat.reduceBEq]
    exact ⟨_, rfl⟩
  obtain ⟨n, rfl⟩ : ∃ k : Nat, n = k := ⟨n.toNat, by omega⟩
  have hn : n ≤ 6 := by omega
  have hNN : n * n ≤ 36 := Nat.le_trans (Nat.mul_le_mul hn hn) (by omega)
  simp -implicitDefEqProofs (disch := omega) only [↓c4_0_eq, dcT, dcF, e1, ln, ↓cnd_true, ↓cnd_false, ↓Option.bind_some, ↓obH_some', bin_add, bin_sub, bin_mul, bin_lss, bin_leq, bin_gtr, bin_geq, bin_eql, bin_neq, un_not, un_neg, Option.bind_some, Option.bind_none, Option.map_some, cnd_true, cnd_false, pickV_true, pickV_false, gd_true, gd_false, gdV_true, gdV_false, gdH_true, gdH_false, gdS_true, gdS_false, wt_ff, wt_tt, wt_ft, wt_tf, wt_undef, obH_some', extractV_tuple, nilCheckV_ptr, againK_normal, againK_exit, againK_ret, blockK_normal, blockK_same, blockK_ret, seqK_normal, seqK_exit, seqK_ret, fin_done, if_true', if_false', Bool.not_true, Bool.not_false, idx0, idx1, idx2, idx3, idx4, chk_nil_l, chk_nil_r, done_nm, up_cons, up_nil, cond_true, cond_false, Nat.reduceBEq]
  refine ls_new (Q := fun r => ∃ h' : Heap, r = some (Value.bool true, h')) (h00 := h1) (v1 := v) (by omega) (fun h2 y ps a c lps G A sm y0 y1 y5 => ?_) n 0 (by omega) h1 _ [] none 0 rfl (Same.refl _) ⟨fun i hi => (by simp at hi), fun i hi => (by simp at hi), .nil⟩ .nil rfl rfl rfl rfl
  have w1 : IntKind.wrap .i64 ((n : Int) * (n : Int)) = ((n * n : Nat) : Int) := by rw [← Int.natCast_mul, wrap_i64] <;> omega
  have mk1 := mkWs (n * n) (by omega) h2
  have mk2 := mkNs n (by omega) (h2.new (.cells ((List.range (n * n)).map fun _ => .slice none 0 0)) 59)
  have L := LS.start sm lps G A
  have el : (h2.new (.cells ((List.range (n * n)).map fun _ => .slice none 0 0)) 59).blks.length = h2.blks.length + 1 := by simp [Heap.new]
  rw [el] at mk2
  simp -implicitDefEqProofs (disch := omega) only [↓c4_2_eq, y0, w1, mk1, mk2, ↓cnd_true, ↓cnd_false, ↓Option.bind_some, ↓obH_some', bin_add, bin_sub, bin_mul, bin_lss, bin_leq, bin_gtr, bin_geq, bin_eql, bin_neq, un_not, un_neg, Option.bind_some, Option.bind_none, Option.map_some, cnd_true, cnd_false, pickV_true, pickV_false, gd_true, gd_false, gdV_true, gdV_false, gdH_true, gdH_false, gdS_true, gdS_false, wt_ff, wt_tt, wt_ft, wt_tf, wt_undef, obH_some', extractV_tuple, nilCheckV_ptr, againK_normal, againK_exit, againK_ret, blockK_normal, blockK_same, blockK_ret, seqK_normal, seqK_exit, seqK_ret, fin_done, if_true', if_false', Bool.not_true, Bool.not_false, idx0, idx1, idx2, idx3, idx4, chk_nil_l, chk_nil_r, done_nm, up_cons, up_nil, cond_true, cond_false, Nat.reduceBEq]
  exact ls_loop hn (by omega) hw sl1 l.length 0 _ _ _ _ _ _ _ _ (by omega) L (fun _ => Nat.zero_le _) _ y0 y1 y5 rfl rfl rfl
theorem law_LeanShort (h : Heap) (vs : List Value) (dd : List DT) (r : RdAll Tryd.prog h [3, 50] vs dd) : ∃ h', evC Tryd.prog 4 vs.toArray h = some (.bool true, h') := by
  obtain ⟨v0, d0, vs', ds', rfl, rfl, r0, r1⟩ := r.cons_inv
  obtain ⟨v1, d1, vs', ds', rfl, rfl, ra, r2⟩ := r1.cons_inv
  obtain ⟨rfl, rfl⟩ := r2.nil_inv
  obtain ⟨a, rfl, _⟩ := r0.i64 (by kernel_rfl)
  obtain ⟨l, sl, hw⟩ := ra.mvs
  exact mlaw_LeanShort a v1 l hw h sl
end Go.Am
namespace Go.Am.Z
open Go.Proofs
set_option maxRecDepth 100000
set_option linter.all false
@[reducible] def xt0 : Xt Tryd.prog := ⟨fun _ => none⟩
@[reducible] def gl0 : Gl Tryd.prog := ⟨none⟩
attribute [local instance] xt0 gl0
theorem xm0 : XtM Tryd.prog := ⟨fun _ _ h => by cases h⟩
theorem xo0 : XtOk Tryd.prog := ⟨fun _ _ h => (by cases h), fun _ _ _ h => (by cases h)⟩
attribute [local instance] xm0 xo0
section
variable {β : Type}
noncomputable abbrev ev : Ev := evC Tryd.prog
noncomputable abbrev cK (c : Code) (n : Nat) (x : Nat → Value) (h : Heap) (k : Ex → St → Option β) : Option β := codeK Tryd.prog (evC Tryd.prog) loopL c ⟨ar n x, h⟩ k
noncomputable abbrev lK (c : Code) (n : Nat) (x : Nat → Value) (h : Heap) (k : Ex → St → Option β) : Option β := loopK Tryd.prog (evC Tryd.prog) c ⟨ar n x, h⟩ k
noncomputable abbrev sK (c : Code) (k : Ex → St → Option β) : Ex → St → Option β := seqK Tryd.prog (evC Tryd.prog) c k
noncomputable abbrev rD (ops : Array Oper) (j n : Nat) (x : Nat → Value) (h : Heap) (r m : List Nat) (k : St → Option β) : Option β := regD Tryd.prog (evC Tryd.prog) ops j ⟨ar n x, h⟩ r m k
variable (x : Nat → Value) (h : Heap) (k : Ex → St → Option β) (r m : List Nat) (g : Heap)
noncomputable def c89_0 : Code := bodyC Tryd.f89 []
theorem c89_0_eq : cK c89_0 6 x h k =
(bn .neq 3 (x 0) (x 0)).bind fun v0 =>
k .ret ⟨ar 6 (up x [(2,v0),(3,(x 0)),(4,(x 0)),(5,v0)]), h⟩ := by kernel_rfl
theorem call89 (a0 : Value) : evC Tryd.prog 89 #[a0] h = cK c89_0 6 (up un [(0,a0)]) (nm h) (retK Tryd.f89 Tryd.prog h) :=
  (evC_call 89 Tryd.f89 c89_0 Tryd.func89 (by kernel_rfl) #[a0] h).trans (by kernel_rfl)
theorem ret89 : retK Tryd.f89 Tryd.prog g .ret ⟨ar 6 x, h⟩ = fin g (some (x 2)) h := by kernel_rfl
noncomputable def c90_0 : Code := bodyC Tryd.f90 []
theorem c90_0_eq : cK c90_0 6 x h k =
(bn .neq 23 (x 0) (x 0)).bind fun v0 =>
k .ret ⟨ar 6 (up x [(2,v0),(3,(x 0)),(4,(x 0)),(5,v0)]), h⟩ := by kernel_rfl
theorem call90 (a0 : Value) : evC Tryd.prog 90 #[a0] h = cK c90_0 6 (up un [(0,a0)]) (nm h) (retK Tryd.f90 Tryd.prog h) :=
  (evC_call 90 Tryd.f90 c90_0 Tryd.func90 (by kernel_rfl) #[a0] h).trans (by kernel_rfl)
theorem ret90 : retK Tryd.f90 Tryd.prog g .ret ⟨ar 6 x, h⟩ = fin g (some (x 2)) h := by kernel_rfl
noncomputable def c76_0 : Code := bodyC Tryd.f76 []
theorem c76_0_eq : cK c76_0 20 x h k =
obH (ev 89 #[x 0] h) fun v0 h1 =>
obH (ev 89 #[x 1] h1) fun v2 h3 =>
cnd v0 (
cnd v2 (
k .ret ⟨ar 20 (up x [(4,(.int .i64 0)),(5,v0),(6,v2),(7,(x 0)),(8,v0),(9,(x 1)),(10,v2),(11,v0),(12,v2)]), h3⟩) (
k .ret ⟨ar 20 (up x [(4,(.int .i64 (-1))),(5,v0),(6,v2),(7,(x 0)),(8,v0),(9,(x 1)),(10,v2),(11,v0),(12,v2)]), h3⟩)) (
cnd v2 (
k .ret ⟨ar 20 (up x [(4,(.int .i64 1)),(5,v0),(6,v2),(7,(x 0)),(8,v0),(9,(x 1)),(10,v2),(11,v0),(13,v2)]), h3⟩) (
(bn .lss 3 (x 0) (x 1)).bind fun v4 =>
cnd v4 (
k .ret ⟨ar 20 (up x [(4,(.int .i64 (-1))),(5,v0),(6,v2),(7,(x 0)),(8,v0),(9,(x 1)),(10,v2),(11,v0),(13,v2),(14,(x 0)),(15,(x 1)),(16,v4)]), h3⟩) (
(bn .gtr 3 (x 0) (x 1)).bind fun v5 =>
cnd v5 (
k .ret ⟨ar 20 (up x [(4,(.int .i64 1)),(5,v0),(6,v2),(7,(x 0)),(8,v0),(9,(x 1)),(10,v2),(11,v0),(13,v2),(14,(x 0)),(15,(x 1)),(16,v4),(17,(x 0)),(18,(x 1)),(19,v5)]), h3⟩) (
k .ret ⟨ar 20 (up x [(4,(.int .i64 0)),(5,v0),(6,v2),(7,(x 0)),(8,v0),(9,(x 1)),(10,v2),(11,v0),(13,v2),(14,(x 0)),(15,(x 1)),(16,v4),(17,(x 0)),(18,(x 1)),(19,v5)]), h3⟩)))) := by kernel_rfl
theorem call76 (a0 a1 : Value) : evC Tryd.prog 76 #[a0,a1] h = cK c76_0 20 (up un [(0,a0),(1,a1)]) (nm h) (retK Tryd.f76 Tryd.prog h) :=
  (evC_call 76 Tryd.f76 c76_0 Tryd.func76 (by kernel_rfl) #[a0,a1] h).trans (by kernel_rfl)
theorem ret76 : retK Tryd.f76 Tryd.prog g .ret ⟨ar 20 x, h⟩ = fin g (some (x 4)) h := by kernel_rfl
noncomputable def c77_0 : Code := bodyC Tryd.f77 []
theorem c77_0_eq : cK c77_0 20 x h k =
obH (ev 90 #[x 0] h) fun v0 h1 =>
obH (ev 90 #[x 1] h1) fun v2 h3 =>
cnd v0 (
cnd v2 (
k .ret ⟨ar 20 (up x [(4,(.int .i64 0)),(5,v0),(6,v2),(7,(x 0)),(8,v0),(9,(x 1)),(10,v2),(11,v0),(12,v2)]), h3⟩) (
k .ret ⟨ar 20 (up x [(4,(.int .i64 (-1))),(5,v0),(6,v2),(7,(x 0)),(8,v0),(9,(x 1)),(10,v2),(11,v0),(12,v2)]), h3⟩)) (
cnd v2 (
k .ret ⟨ar 20 (up x [(4,(.int .i64 1)),(5,v0),(6,v2),(7,(x 0)),(8,v0),(9,(x 1)),(10,v2),(11,v0),(13,v2)]), h3⟩) (
(bn .lss 23 (x 0) (x 1)).bind fun v4 =>
cnd v4 (
k .ret ⟨ar 20 (up x [(4,(.int .i64 (-1))),(5,v0),(6,v2),(7,(x 0)),(8,v0),(9,(x 1)),(10,v2),(11,v0),(13,v2),(14,(x 0)),(15,(x 1)),(16,v4)]), h3⟩) (
(bn .gtr 23 (x 0) (x 1)).bind fun v5 =>
cnd v5 (
k .ret ⟨ar 20 (up x [(4,(.int .i64 1)),(5,v0),(6,v2),(7,(x 0)),(8,v0),(9,(x 1)),(10,v2),(11,v0),(13,v2),(14,(x 0)),(15,(x 1)),(16,v4),(17,(x 0)),(18,(x 1)),(19,v5)]), h3⟩) (
k .ret ⟨ar 20 (up x [(4,(.int .i64 0)),(5,v0),(6,v2),(7,(x 0)),(8,v0),(9,(x 1)),(10,v2),(11,v0),(13,v2),(14,(x 0)),(15,(x 1)),(16,v4),(17,(x 0)),(18,(x 1)),(19,v5)]), h3⟩)))) := by kernel_rfl
theorem call77 (a0 a1 : Value) : evC Tryd.prog 77 #[a0,a1] h = cK c77_0 20 (up un [(0,a0),(1,a1)]) (nm h) (retK Tryd.f77 Tryd.prog h) :=
  (evC_call 77 Tryd.f77 c77_0 Tryd.func77 (by kernel_rfl) #[a0,a1] h).trans (by kernel_rfl)
theorem ret77 : retK Tryd.f77 Tryd.prog g .ret ⟨ar 20 x, h⟩ = fin g (some (x 4)) h := by kernel_rfl
noncomputable def c75_0 : Code := bodyC Tryd.f75 []
noncomputable def c75_1 : Code := bodyC Tryd.f75 [true, true, false, true, false, false]
noncomputable def c75_2 : Code := bodyC Tryd.f75 [true, true, true]
theorem c75_0_eq : cK c75_0 18 x h k =
(ln 41 (x 0) h).bind fun v0 =>
lK c75_1 18 (up x [(2,(.int .i64 0)),(3,(.int .i64 0)),(6,(x 0)),(7,v0),(8,(.int .i64 0))]) h (blockK 0 (sK c75_2 k)) := by kernel_rfl
theorem c75_1_eq : cK c75_1 18 x h k =
(bn .lss 3 (x 8) (x 7)).bind fun v1 =>
cnd v1 (
(ia 41 (x 6) (x 8)).bind fun v2 =>
(ld 3 v2 h).bind fun v3 =>
(bn .neq 3 v3 (x 3)).bind fun v4 =>
cnd v4 (
k .ret ⟨ar 18 (up x [(2,v3),(5,v3),(9,v1),(10,v2),(11,v3),(12,v3),(13,(x 3)),(14,v4),(15,v3)]), h⟩) (
(bn .add 3 (x 8) (.int .i64 1)).bind fun v5 =>
k .normal ⟨ar 18 (up x [(5,v3),(8,v5),(9,v1),(10,v2),(11,v3),(12,v3),(13,(x 3)),(14,v4),(16,v5)]), h⟩)) (
k (.exit 0) ⟨ar 18 (up x [(9,v1)]), h⟩) := by kernel_rfl
theorem c75_2_eq : cK c75_2 18 x h k =
k .ret ⟨ar 18 (up x [(2,(x 3)),(17,(x 3))]), h⟩ := by kernel_rfl
theorem call75 (a0 : Value) : evC Tryd.prog 75 #[a0] h = cK c75_0 18 (up un [(0,a0)]) (nm h) (retK Tryd.f75 Tryd.prog h) :=
  (evC_call 75 Tryd.f75 c75_0 Tryd.func75 (by kernel_rfl) #[a0] h).trans (by kernel_rfl)
theorem ret75 : retK Tryd.f75 Tryd.prog g .ret ⟨ar 18 x, h⟩ = fin g (some (x 2)) h := by kernel_rfl
noncomputable def c55_0 : Code := bodyC Tryd.f55 []
theorem c55_0_eq : cK c55_0 17 x h k =
obH (boxV Tryd.prog 68 (x 0) h) fun v0 h1 =>
obH (boxV Tryd.prog 68 (x 1) h1) fun v2 h3 =>
(fa 68 v0 0).bind fun v4 =>
(ld 3 v4 h3).bind fun v5 =>
(fa 68 v2 0).bind fun v6 =>
(ld 3 v6 h3).bind fun v7 =>
obH (ev 76 #[v5,v7] (nm h3)) fun v8 h9 =>
(fa 68 v0 1).bind fun v10 =>
(ld 23 v10 (am h9 h3)).bind fun v11 =>
(fa 68 v2 1).bind fun v12 =>
(ld 23 v12 (am h9 h3)).bind fun v13 =>
obH (ev 77 #[v11,v13] (am h9 h3)) fun v14 h15 =>
obH (buildSliceV Tryd.prog 41 2 #[(0, v8), (1, v14)] h15) fun v16 h17 =>
obH (ev 75 #[v16] h17) fun v18 h19 =>
chk ((rb v12) ++ ((rb v10) ++ [])) (h9.mods ++ []) (
k .ret ⟨ar 17 (up x [(2,v0),(3,v2),(4,v18),(5,v4),(6,v5),(7,v6),(8,v7),(9,v8),(10,v10),(11,v11),(12,v12),(13,v13),(14,v14),(15,v16),(16,v18)]), h19⟩) := by kernel_rfl
theorem call55 (a0 a1 : Value) : evC Tryd.prog 55 #[a0,a1] h = cK c55_0 17 (up un [(0,a0),(1,a1)]) (nm h) (retK Tryd.f55 Tryd.prog h) :=
  (evC_call 55 Tryd.f55 c55_0 Tryd.func55 (by kernel_rfl) #[a0,a1] h).trans (by kernel_rfl)
theorem ret55 : retK Tryd.f55 Tryd.prog g .ret ⟨ar 17 x, h⟩ = fin g (some (x 4)) h := by kernel_rfl
end
attribute [local congr] obind_congr obH_congr cnd_congr chk_congr retK_congr codeK_congr
theorem spec_isNaNI (a : Int) (h : Heap) : evC Tryd.prog 89 #[.int .i64 a] h = some (.bool false, h) := by
  rw [call89]
  simp -implicitDefEqProofs only [↓c89_0_eq, eq_self, ne_eq, not_true_eq_false, decide_false, ↓ret89, ↓cnd_true, ↓cnd_false, ↓Option.bind_some, ↓obH_some', bin_add, bin_sub, bin_mul, bin_lss, bin_leq, bin_gtr, bin_geq, bin_eql, bin_neq, un_not, un_neg, Option.bind_some, Option.bind_none, Option.map_some, cnd_true, cnd_false, pickV_true, pickV_false, gd_true, gd_false, gdV_true, gdV_false, gdH_true, gdH_false, gdS_true, gdS_false, wt_ff, wt_tt, wt_ft, wt_tf, wt_undef, obH_some', extractV_tuple, nilCheckV_ptr, againK_normal, againK_exit, againK_ret, blockK_normal, blockK_same, blockK_ret, seqK_normal, seqK_exit, seqK_ret, fin_done, if_true', if_false', Bool.not_true, Bool.not_false, idx0, idx1, idx2, idx3, idx4, chk_nil_l, chk_nil_r, done_nm, up_cons, up_nil, cond_true, cond_false, Nat.reduceBEq]
theorem spec_isNaNW (a : Int) (h : Heap) : evC Tryd.prog 90 #[.int .u64 a] h = some (.bool false, h) := by
  rw [call90]
  simp -implicitDefEqProofs only [↓c90_0_eq, eq_self, ne_eq, not_true_eq_false, decide_false, ↓ret90, ↓cnd_true, ↓cnd_false, ↓Option.bind_some, ↓obH_some', bin_add, bin_sub, bin_mul, bin_lss, bin_leq, bin_gtr, bin_geq, bin_eql, bin_neq, un_not, un_neg, Option.bind_some, Option.bind_none, Option.map_some, cnd_true, cnd_false, pickV_true, pickV_false, gd_true, gd_false, gdV_true, gdV_false, gdH_true, gdH_false, gdS_true, gdS_false, wt_ff, wt_tt, wt_ft, wt_tf, wt_undef, obH_some', extractV_tuple, nilCheckV_ptr, againK_normal, againK_exit, againK_ret, blockK_normal, blockK_same, blockK_ret, seqK_normal, seqK_exit, seqK_ret, fin_done, if_true', if_false', Bool.not_true, Bool.not_false, idx0, idx1, idx2, idx3, idx4, chk_nil_l, chk_nil_r, done_nm, up_cons, up_nil, cond_true, cond_false, Nat.reduceBEq]
def cmpI (a b : Int) : Int := if a < b then -1 else if b < a then 1 else 0
theorem spec_CmpI (a b : Int) (h : Heap) : evC Tryd.prog 76 #[.int .i64 a, .int .i64 b] h = some (.int .i64 (cmpI a b), h) := by
  rw [call76]
  have e1 := fun h => spec_isNaNI a h
  have e2 := fun h => spec_isNaNI b h
  unfold cmpI
  by_cases h1 : a < b
  · rw [if_pos h1]
    simp -implicitDefEqProofs (disch := omega) only [↓c76_0_eq, dcT, dcF, e1, e2, ↓ret76, ↓cnd_true, ↓cnd_false, ↓Option.bind_some, ↓obH_some', bin_add, bin_sub, bin_mul, bin_lss, bin_leq, bin_gtr, bin_geq, bin_eql, bin_neq, un_not, un_neg, Option.bind_some, Option.bind_none, Option.map_some, cnd_true, cnd_false, pickV_true, pickV_false, gd_true, gd_false, gdV_true, gdV_false, gdH_true, gdH_false, gdS_true, gdS_false, wt_ff, wt_tt, wt_ft, wt_tf, wt_undef, obH_some', extractV_tuple, nilCheckV_ptr, againK_normal, againK_exit, againK_ret, blockK_normal, blockK_same, blockK_ret, seqK_normal, seqK_exit, seqK_ret, fin_done, if_true', if_false', Bool.not_true, Bool.not_false, idx0, idx1, idx2, idx3, idx4, chk_nil_l, chk_nil_r, done_nm, up_cons, up_nil, cond_true, cond_false, Nat.reduceBEq]
  · rw [if_neg h1]
    by_cases h2 : b < a
    · rw [if_pos h2]
      simp -implicitDefEqProofs (disch := omega) only [↓c76_0_eq, dcT, dcF, e1, e2, ↓ret76, ↓cnd_true, ↓cnd_false, ↓Option.bind_some, ↓obH_some', bin_add, bin_sub, bin_mul, bin_lss, bin_leq, bin_gtr, bin_geq, bin_eql, bin_neq, un_not, un_neg, Option.bind_some, Option.bind_none, Option.map_some, cnd_true, cnd_false, pickV_true, pickV_false, gd_true, gd_false, gdV_true, gdV_false, gdH_true, gdH_false, gdS_true, gdS_false, wt_ff, wt_tt, wt_ft, wt_tf, wt_undef, obH_some', extractV_tuple, nilCheckV_ptr, againK_normal, againK_exit, againK_ret, blockK_normal, blockK_same, blockK_ret, seqK_normal, seqK_exit, seqK_ret, fin_done, if_true', if_false', Bool.not_true, Bool.not_false, idx0, idx1, idx2, idx3, idx4, chk_nil_l, chk_nil_r, done_nm, up_cons, up_nil, cond_true, cond_false, Nat.reduceBEq]
    · rw [if_neg h2]
      simp -implicitDefEqProofs (disch := omega) only [↓c76_0_eq, dcT, dcF, e1, e2, ↓ret76, ↓cnd_true, ↓cnd_false, ↓Option.bind_some, ↓obH_some', bin_add, bin_sub, bin_mul, bin_lss, bin_leq, bin_gtr, bin_geq, bin_eql, bin_neq, un_not, un_neg, Option.bind_some, Option.bind_none, Option.map_some, cnd_true, cnd_false, pickV_true, pickV_false, gd_true, gd_false, gdV_true, gdV_false, gdH_true, gdH_false, gdS_true, gdS_false, wt_ff, wt_tt, wt_ft, wt_tf, wt_undef, obH_some', extractV_tuple, nilCheckV_ptr, againK_normal, againK_exit, againK_ret, blockK_normal, blockK_same, blockK_ret, seqK_normal, seqK_exit, seqK_ret, fin_done, if_true', if_false', Bool.not_true, Bool.not_false, idx0, idx1, idx2, idx3, idx4, chk_nil_l, chk_nil_r, done_nm, up_cons, up_nil, cond_true, cond_false, Nat.reduceBEq]
theorem spec_CmpW (a b : Int) (h : Heap) : evC Tryd.prog 77 #[.int .u64 a, .int .u64 b] h = some (.int .i64 (cmpI a b), h) := by
  rw [call77]
  have e1 := fun h => spec_isNaNW a h
  have e2 := fun h => spec_isNaNW b h
  unfold cmpI
  by_cases h1 : a < b
  · rw [if_pos h1]
    simp -implicitDefEqProofs (disch := omega) only [↓c77_0_eq, dcT, dcF, e1, e2, ↓ret77, ↓cnd_true, ↓cnd_false, ↓Option.bind_some, ↓obH_some', bin_add, bin_sub, bin_mul, bin_lss, bin_leq, bin_gtr, bin_geq, bin_eql, bin_neq, un_not, un_neg, Option.bind_some, Option.bind_none, Option.map_some, cnd_true, cnd_false, pickV_true, pickV_false, gd_true, gd_false, gdV_true, gdV_false, gdH_true, gdH_false, gdS_true, gdS_false, wt_ff, wt_tt, wt_ft, wt_tf, wt_undef, obH_some', extractV_tuple, nilCheckV_ptr, againK_normal, againK_exit, againK_ret, blockK_normal, blockK_same, blockK_ret, seqK_normal, seqK_exit, seqK_ret, fin_done, if_true', if_false', Bool.not_true, Bool.not_false, idx0, idx1, idx2, idx3, idx4, chk_nil_l, chk_nil_r, done_nm, up_cons, up_nil, cond_true, cond_false, Nat.reduceBEq]
  · rw [if_neg h1]
    by_cases h2 : b < a
    · rw [if_pos h2]
      simp -implicitDefEqProofs (disch := omega) only [↓c77_0_eq, dcT, dcF, e1, e2, ↓ret77, ↓cnd_true, ↓cnd_false, ↓Option.bind_some, ↓obH_some', bin_add, bin_sub, bin_mul, bin_lss, bin_leq, bin_gtr, bin_geq, bin_eql, bin_neq, un_not, un_neg, Option.bind_some, Option.bind_none, Option.map_some, cnd_true, cnd_false, pickV_true, pickV_false, gd_true, gd_false, gdV_true, gdV_false, gdH_true, gdH_false, gdS_true, gdS_false, wt_ff, wt_tt, wt_ft, wt_tf, wt_undef, obH_some', extractV_tuple, nilCheckV_ptr, againK_normal, againK_exit, againK_ret, blockK_normal, blockK_same, blockK_ret, seqK_normal, seqK_exit, seqK_ret, fin_done, if_true', if_false', Bool.not_true, Bool.not_false, idx0, idx1, idx2, idx3, idx4, chk_nil_l, chk_nil_r, done_nm, up_cons, up_nil, cond_true, cond_false, Nat.reduceBEq]
    · rw [if_neg h2]
      simp -implicitDefEqProofs (disch := omega) only [↓c77_0_eq, dcT, dcF, e1, e2, ↓ret77, ↓cnd_true, ↓cnd_false, ↓Option.bind_some, ↓obH_some', bin_add, bin_sub, bin_mul, bin_lss, bin_leq, bin_gtr, bin_geq, bin_eql, bin_neq, un_not, un_neg, Option.bind_some, Option.bind_none, Option.map_some, cnd_true, cnd_false, pickV_true, pickV_false, gd_true, gd_false, gdV_true, gdV_false, gdH_true, gdH_false, gdS_true, gdS_false, wt_ff, wt_tt, wt_ft, wt_tf, wt_undef, obH_some', extractV_tuple, nilCheckV_ptr, againK_normal, againK_exit, againK_ret, blockK_normal, blockK_same, blockK_ret, seqK_normal, seqK_exit, seqK_ret, fin_done, if_true', if_false', Bool.not_true, Bool.not_false, idx0, idx1, idx2, idx3, idx4, chk_nil_l, chk_nil_r, done_nm, up_cons, up_nil, cond_true, cond_false, Nat.reduceBEq]
theorem spec_Or {h : Heap} {p c : Nat} (a b : Int) (hc : Cells h p 3 [.int .i64 a, .int .i64 b]) : evC Tryd.prog 75 #[.slice (some ⟨p, 0, none⟩) 2 c] h = some (.int .i64 (if a = 0 then b else a), h) := by
  rw [call75]
  have l0 : (nm h).load1 p 0 = some (.int .i64 a) := hc.nm.load 0
  have l1 : (nm h).load1 p 1 = some (.int .i64 b) := hc.nm.load 1
  have w1 : IntKind.i64.wrap (0 + 1) = 1 := rfl
  have w2 : IntKind.i64.wrap (1 + 1) = 2 := rfl
  by_cases h1 : a = 0
  · rw [if_pos h1]
    by_cases h2 : b = 0
    · simp -implicitDefEqProofs (disch := omega) only [↓c75_0_eq, ↓c75_1_eq, ↓c75_2_eq, ↓loopK_eq evC_m, dcT, dcF, lnI, iaI0, iaI1, ldI, l0, l1, w1, w2, ↓ret75, ↓cnd_true, ↓cnd_false, ↓Option.bind_some, ↓obH_some', bin_add, bin_sub, bin_mul, bin_lss, bin_leq, bin_gtr, bin_geq, bin_eql, bin_neq, un_not, un_neg, Option.bind_some, Option.bind_none, Option.map_some, cnd_true, cnd_false, pickV_true, pickV_false, gd_true, gd_false, gdV_true, gdV_false, gdH_true, gdH_false, gdS_true, gdS_false, wt_ff, wt_tt, wt_ft, wt_tf, wt_undef, obH_some', extractV_tuple, nilCheckV_ptr, againK_normal, againK_exit, againK_ret, blockK_normal, blockK_same, blockK_ret, seqK_normal, seqK_exit, seqK_ret, fin_done, if_true', if_false', Bool.not_true, Bool.not_false, idx0, idx1, idx2, idx3, idx4, chk_nil_l, chk_nil_r, done_nm, up_cons, up_nil, cond_true, cond_false, Nat.reduceBEq]
      rw [h2]
    · simp -implicitDefEqProofs (disch := omega) only [↓c75_0_eq, ↓c75_1_eq, ↓c75_2_eq, ↓loopK_eq evC_m, dcT, dcF, lnI, iaI0, iaI1, ldI, l0, l1, w1, w2, ↓ret75, ↓cnd_true, ↓cnd_false, ↓Option.bind_some, ↓obH_some', bin_add, bin_sub, bin_mul, bin_lss, bin_leq, bin_gtr, bin_geq, bin_eql, bin_neq, un_not, un_neg, Option.bind_some, Option.bind_none, Option.map_some, cnd_true, cnd_false, pickV_true, pickV_false, gd_true, gd_false, gdV_true, gdV_false, gdH_true, gdH_false, gdS_true, gdS_false, wt_ff, wt_tt, wt_ft, wt_tf, wt_undef, obH_some', extractV_tuple, nilCheckV_ptr, againK_normal, againK_exit, againK_ret, blockK_normal, blockK_same, blockK_ret, seqK_normal, seqK_exit, seqK_ret, fin_done, if_true', if_false', Bool.not_true, Bool.not_false, idx0, idx1, idx2, idx3, idx4, chk_nil_l, chk_nil_r, done_nm, up_cons, up_nil, cond_true, cond_false, Nat.reduceBEq]
  · rw [if_neg h1]
    simp -implicitDefEqProofs (disch := omega) only [↓c75_0_eq, ↓c75_1_eq, ↓c75_2_eq, ↓loopK_eq evC_m, dcT, dcF, lnI, iaI0, iaI1, ldI, l0, l1, w1, w2, ↓ret75, ↓cnd_true, ↓cnd_false, ↓Option.bind_some, ↓obH_some', bin_add, bin_sub, bin_mul, bin_lss, bin_leq, bin_gtr, bin_geq, bin_eql, bin_neq, un_not, un_neg, Option.bind_some, Option.bind_none, Option.map_some, cnd_true, cnd_false, pickV_true, pickV_false, gd_true, gd_false, gdV_true, gdV_false, gdH_true, gdH_false, gdS_true, gdS_false, wt_ff, wt_tt, wt_ft, wt_tf, wt_undef, obH_some', extractV_tuple, nilCheckV_ptr, againK_normal, againK_exit, againK_ret, blockK_normal, blockK_same, blockK_ret, seqK_normal, seqK_exit, seqK_ret, fin_done, if_true', if_false', Bool.not_true, Bool.not_false, idx0, idx1, idx2, idx3, idx4, chk_nil_l, chk_nil_r, done_nm, up_cons, up_nil, cond_true, cond_false, Nat.reduceBEq]
theorem cmpE_or (x y : E3) : (if cmpI x.f y.f = 0 then cmpI x.n y.n else cmpI x.f y.f) = cmpE x y := by
  unfold cmpE cmpI
  by_cases h1 : x.f < y.f
  · simp [h1]
  · by_cases h2 : y.f < x.f
    · simp [h1, h2]
    · have : (x.n : Int) < y.n ↔ x.n < y.n := Int.ofNat_lt
      have : (y.n : Int) < x.n ↔ y.n < x.n := Int.ofNat_lt
      simp [h1, h2]
theorem spec_order (x y : E3) (h : Heap) : ∃ h', evC Tryd.prog 55 #[entV x, entV y] h = some (.int .i64 (cmpE x y), h') ∧ HExt h h' := by
  rw [call55]
  have c1 : Cells (((nm h).new (.cells [.int .i64 x.f, .int .u64 x.n, .int .u64 x.t]) 68).new (.cells [.int .i64 y.f, .int .u64 y.n, .int .u64 y.t]) 68) (nm h).blks.length 68 [.int .i64 x.f, .int .u64 x.n, .int .u64 x.t] := (Cells.new _ _ _).keepNew _ _
  have c2 := Cells.new ((nm h).new (.cells [.int .i64 x.f, .int .u64 x.n, .int .u64 x.t]) 68) 68 [.int .i64 y.f, .int .u64 y.n, .int .u64 y.t]
  have k2 : In h.blks.length No (nm h) (((nm h).new (.cells [.int .i64 x.f, .int .u64 x.n, .int .u64 x.t]) 68).new (.cells [.int .i64 y.f, .int .u64 y.n, .int .u64 y.t]) 68) :=
    In.trans (In.new (h := nm h) (Nat.le_refl h.blks.length) _ _) (In.new (by simp [Heap.new]) _ _)
  generalize hp1 : ((nm h).new (.cells [.int .i64 x.f, .int .u64 x.n, .int .u64 x.t]) 68).blks.length = p1 at c2
  generalize hp0 : (nm h).blks.length = p0 at c1
  generalize hh2 : ((nm h).new (.cells [.int .i64 x.f, .int .u64 x.n, .int .u64 x.t]) 68).new (.cells [.int .i64 y.f, .int .u64 y.n, .int .u64 y.t]) 68 = h2 at c1 c2 k2
  have la : h2.load1 p0 0 = some (.int .i64 x.f) := c1.load 0
  have lb : h2.load1 p0 1 = some (.int .u64 x.n) := c1.load 1
  have lc : h2.load1 p1 0 = some (.int .i64 y.f) := c2.load 0
  have ld : h2.load1 p1 1 = some (.int .u64 y.n) := c2.load 1
  have k3 := k2.trans (In.new (Nat.le_trans k2.le k2.len) (.cells [.int .i64 (cmpI x.f y.f), .int .i64 (cmpI x.n y.n)]) 3)
  have e3 := spec_Or (c := 2) _ _ (Cells.new h2 3 [.int .i64 (cmpI x.f y.f), .int .i64 (cmpI x.n y.n)])
  rw [cmpE_or] at e3
  refine ⟨_, ?_, done_ext' k3⟩
  simp -implicitDefEqProofs (disch := omega) only [↓c55_0_eq, entV, bxE, hp0, hp1, hh2, faE0, faE1, ldI, ldU, la, lb, lc, ld, spec_CmpI, spec_CmpW, am_nm, nm_load1, nm_mods, List.nil_append, List.append_nil, lsI2', e3, ↓ret55, ↓cnd_true, ↓cnd_false, ↓Option.bind_some, ↓obH_some', bin_add, bin_sub, bin_mul, bin_lss, bin_leq, bin_gtr, bin_geq, bin_eql, bin_neq, un_not, un_neg, Option.bind_some, Option.bind_none, Option.map_some, cnd_true, cnd_false, pickV_true, pickV_false, gd_true, gd_false, gdV_true, gdV_false, gdH_true, gdH_false, gdS_true, gdS_false, wt_ff, wt_tt, wt_ft, wt_tf, wt_undef, obH_some', extractV_tuple, nilCheckV_ptr, againK_normal, againK_exit, againK_ret, blockK_normal, blockK_same, blockK_ret, seqK_normal, seqK_exit, seqK_ret, fin_done, if_true', if_false', Bool.not_true, Bool.not_false, idx0, idx1, idx2, idx3, idx4, chk_nil_l, chk_nil_r, done_nm, up_cons, up_nil, cond_true, cond_false, Nat.reduceBEq]
end Go.Am.Z
set_option linter.unusedVariables false
set_option linter.unusedSimpArgs false
namespace Go.Proofs
open Go.RowKit Go.Lib
theorem run_copy_cellsK {P : Program} (w : World) (dT sT ty elem : TypeId) (K b o dLen dCap : Nat) (a : Addr) (sLen sCap n : Nat) (cs : List Value)
    (hu : P.underlying dT = some (.slice elem)) (hs : ∀ w, (Go.sizeOf elem).run P w = .ok K w) (hn : n = Nat.min sLen dLen) (hl : cs.length = n * K)
    (hsrc : ∀ j v, cs[j]? = some v → w.cell? (a.add j) = some v) (hc : ∀ j, j < cs.length → (w.cell? ⟨b, o + j, none⟩).isSome = true) (hf : ∀ j, j < cs.length → w.frozen? ⟨b, o + j, none⟩ = false) (h1 : ∀ v ∈ cs, v.oneCell' = true) :
    (Builtin.copy_ #[dT, sT] ty #[.slice (some ⟨b, o, none⟩) dLen dCap, .slice (some a) sLen sCap]).run P w = .ok (goInt n) (w.setCells b o cs) := by
  have hl2 := run_loadCells_list (P := P) w a cs hsrc
  have hst := run_storeCells_cells (P := P) b o cs 0 w (by simpa using hc) (by simpa using hf) h1
  rw [hl] at hl2
  simp [Builtin.copy_, run_underlying hu, Builtin.lenOf, Builtin.firstCells, hs, ← hn, hl2, hst]
theorem szE : ∀ w, (Go.sizeOf 68).run Tryd.prog w = .ok 3 w := fun w => @Go.Am.run_sizeT Tryd.prog ⟨none⟩ 68 3 (by kernel_rfl) w
theorem uEs : Tryd.prog.underlying 63 = some (.slice 68) := by kernel_rfl
set_option maxHeartbeats 4000000 in
set_option maxRecDepth 100000 in
theorem ins_shift (b off n c i vb voff vc : Nat) (cs vs : List Value) (w : World) (hi : i < n) (hn60 : n < 1152921504606846976) (hroom : n + 1 ≤ c) (hvb : vb ≠ b)
    (hcl : cs.length = n * 3) (hvl : vs.length = 3)
    (hcs : ∀ j v, cs[j]? = some v → w.cell? ⟨b, off + j, none⟩ = some v) (hsp : ∀ j, j < (n + 1) * 3 → (w.cell? ⟨b, off + j, none⟩).isSome = true) (hfz : ∀ j, j < (n + 1) * 3 → w.frozen? ⟨b, off + j, none⟩ = false)
    (hvs : ∀ j v, vs[j]? = some v → w.cell? ⟨vb, voff + j, none⟩ = some v) (h1c : ∀ v ∈ cs, v.oneCell' = true) (h1v : ∀ v ∈ vs, v.oneCell' = true)
    (tA tB : TypeId) (kA kB : Nat) (hsa : w.shape? vb = some (tA, kA)) (hsb : w.shape? b = some (tB, kB)) (hkB : kB ≠ 0) (hfa : w.frozen? ⟨vb, voff, none⟩ = false) (hfe : w.frozen? ⟨vb, kA, none⟩ = false) :
    Calls Tryd.prog 63 #[.slice (some ⟨b, off, none⟩) n c, .int .i64 i, .slice (some ⟨vb, voff, none⟩) (1 : Nat) vc] w fun e w' =>
      e = .returned (.slice (some ⟨b, off, none⟩) (n + 1) c) ∧ w' = (w.drew.setCells b (off + (i + 1) * 3) (cs.drop (i * 3))).setCells b (off + i * 3) vs := by
  have hz2 : ¬ ((i : Int) = (n : Int)) := by omega
  have hov : ∀ lb cb, (callFunc 80 #[.slice (some ⟨vb, voff, none⟩) 1 vc, .slice (some ⟨b, off + (i + 1) * 3, none⟩) lb cb]).run Tryd.prog w = .ok (.value (.bool false)) w := fun lb cb => by
    rw [run_callFunc_extern Tryd.func80 (by kernel_rfl) (by kernel_rfl) (by kernel_rfl) (e := Extern.SlicesOverlaps.overlaps #[63, 63] #[4]) (by kernel_rfl),
      Lib.run_overlaps_apart w 63 4 68 uEs 3 szE ⟨vb, voff, none⟩ ⟨b, off + (i + 1) * 3, none⟩ 1 vc lb cb hvb tA tB kA kB hsa hsb hkB hfa hfe]
    rfl
  have hw1 : IntKind.i64.wrap ((i : Int) + 1) = (i : Int) + 1 := by rw [IntKind.wrap_i64]; omega
  have hw2 : IntKind.i64.wrap ((n : Int) + 1) = (n : Int) + 1 := by rw [IntKind.wrap_i64]; omega
  have hb1 : (0 : Int) ≤ (i : Int) + 1 := by omega
  have hin : i ≤ n := by omega
  have htn : ((i : Int) + 1).toNat = i + 1 := by omega
  have hb2 : ¬ (c = i + 1) := by omega
  have hb3 : (i : Int) ≤ (n : Int) + 1 := by omega
  have hb4 : ¬ (c = i) := by omega
  have hdl : (cs.drop (i * 3)).length = (n - i) * 3 := by rw [List.length_drop, hcl, Nat.sub_mul]
  have hcp1 : ∀ ty dc sc, (Builtin.copy_ #[63, 63] ty #[.slice (some ⟨b, off + (i + 1) * 3, none⟩) (n - i) dc, .slice (some ⟨b, off + i * 3, none⟩) (n + 1 - i) sc]).run Tryd.prog w.drew = .ok (goInt (n - i : Nat)) (w.drew.setCells b (off + (i + 1) * 3) (cs.drop (i * 3))) := fun ty dc sc =>
    run_copy_cellsK w.drew _ _ ty 68 3 b (off + (i + 1) * 3) (n - i) dc ⟨b, off + i * 3, none⟩ (n + 1 - i) sc (n - i) (cs.drop (i * 3)) uEs szE (by simp only [Nat.min_def]; split <;> omega) hdl
      (fun j v hj => by rw [Addr.add_lit, Nat.add_assoc]; exact hcs (i * 3 + j) v (by rwa [List.getElem?_drop] at hj))
      (fun j hj => by rw [Nat.add_assoc]; exact hsp _ (by omega)) (fun j hj => by rw [Nat.add_assoc]; exact hfz _ (by omega)) (fun v hv => h1c v (List.mem_of_mem_drop hv))
  obtain ⟨W1, hW1⟩ : ∃ W1, W1 = w.drew.setCells b (off + (i + 1) * 3) (cs.drop (i * 3)) := ⟨_, rfl⟩
  have hsp1 : ∀ k, k < (n + 1) * 3 → (W1.cell? ⟨b, off + k, none⟩).isSome = true := fun k hk => by
    rw [hW1]
    exact isSome_setCells b _ _ _ (fun j hj => by rw [Nat.add_assoc]; exact hsp _ (by omega)) _ (hsp k hk)
  have hcp2 : ∀ (W : World), (∀ x, W.cell? x = W1.cell? x) → (∀ x, W.frozen? x = W1.frozen? x) → ∀ ty dc, (Builtin.copy_ #[63, 63] ty #[.slice (some ⟨b, off + i * 3, none⟩) (n + 1 - i) dc, .slice (some ⟨vb, voff, none⟩) 1 vc]).run Tryd.prog W = .ok (goInt (1 : Nat)) (W.setCells b (off + i * 3) vs) := fun W hWc hWf ty dc =>
    run_copy_cellsK W _ _ ty 68 3 b (off + i * 3) (n + 1 - i) dc ⟨vb, voff, none⟩ 1 vc 1 vs uEs szE (by simp only [Nat.min_def]; split <;> omega) (by omega)
      (fun j v hj => by
        rw [Addr.add_lit, hWc, hW1, World.cell?_setCells_out b _ _ _ _ (fun h _ => absurd h hvb)]
        exact hvs j v hj)
      (fun j hj => by rw [hWc, Nat.add_assoc]; exact hsp1 _ (by omega)) (fun j hj => by rw [hWf, hW1, World.frozen?_setCells, Nat.add_assoc]; exact hfz _ (by omega)) h1v
  rw [← hW1] at hcp1
  go_enter Tryd.func63, Tryd.ntmps63
  go_wp2_with (simp only [hov])
  go_region_law (refine step_copy_runI rfl _ _ 63 63 rfl _ _ (by simp [Act.eval, Act.put]) (by simp [Act.eval, Act.put]) (hcp1 _ _ _) ?_)
  go_wp2_with (at_builtin; refine wpList_copy_runI _ rfl _ _ 63 63 rfl _ _ rfl rfl (hcp2 _ (fun _ => rfl) (fun _ => rfl) _ _) ?_)
  go_ret
  first | exact ⟨rfl, rfl⟩ | exact ⟨rfl, by rw [hW1]⟩
def zEv : Value := .agg #[.int .i64 0, .int .u64 0, .int .u64 0]
theorem iE : (Tryd.prog.info? 68).map (fun i => (i.zero, i.size, i.bytes)) = some (some zEv, 3, 24) := by kernel_rfl
theorem uInt : Tryd.prog.underlying 3 = some (.int .i64) := by kernel_rfl
theorem zc_size (k : Nat) : (Builtin.zeroCells zEv.cells k).size = k * 3 := by
  simp [Builtin.zeroCells, zEv, Value.cells]
def insRow (w : World) (n c i : Nat) (cs : List Value) : Array Value := (cs.take (i * 3)).toArray ++ Builtin.zeroCells zEv.cells (n + 1 - i) ++ Builtin.zeroCells zEv.cells (grownCap w (n + 1) c 68 - (n + 1))
set_option maxHeartbeats 4000000 in
set_option maxRecDepth 100000 in
theorem ins_grow (b off n c i vb voff vc : Nat) (cs vs : List Value) (w : World) (hi : i < n) (hnc : n ≤ c) (hroom : c < n + 1) (hbig : (n + 1) * 24 ≤ 140737488355328)
    (hcl : cs.length = n * 3) (hvl : vs.length = 3)
    (hcs : ∀ j v, cs[j]? = some v → w.cell? ⟨b, off + j, none⟩ = some v)
    (hvs : ∀ j v, vs[j]? = some v → w.cell? ⟨vb, voff + j, none⟩ = some v) (h1c : ∀ v ∈ cs, v.oneCell' = true) (h1v : ∀ v ∈ vs, v.oneCell' = true) :
    Calls Tryd.prog 63 #[.slice (some ⟨b, off, none⟩) n c, .int .i64 i, .slice (some ⟨vb, voff, none⟩) (1 : Nat) vc] w fun e w' =>
      e = .returned (.slice (some ⟨w.heap.size, 0, none⟩) (n + 1) (grownCap w (n + 1) c 68)) ∧
      w' = (((w.alloc (.cells (insRow w n c i cs) 68)).drew.setCells w.heap.size (i * 3) vs).drew).setCells w.heap.size ((i + 1) * 3) (cs.drop (i * 3)) := by
  obtain ⟨i0, hi0, hz0, hzs, hzb⟩ := info_parts iE
  have hz2 : ¬ ((i : Int) = (n : Int)) := by omega
  have hz3 : (c : Int) < (n : Int) + 1 := by omega
  have hbw : b < w.heap.size := block_lt_of_cell (hcs 0 _ (List.getElem?_eq_getElem (by omega)))
  have hvw : vb < w.heap.size := block_lt_of_cell (hvs 0 _ (List.getElem?_eq_getElem (by omega)))
  have hkk : (n : Int) + 1 - (i : Int) = ((n + 1 - i : Nat) : Int) := by omega
  have hik : i + (n + 1 - i) = n + 1 := by omega
  have hold : (Builtin.firstCells i0.size i (.slice (some ⟨b, off, none⟩) i c)).run Tryd.prog w.drew = .ok (cs.take (i * 3)).toArray w.drew := by
    rw [hzs]
    exact run_firstCells_some w.drew 3 i ⟨b, off, none⟩ i c (cs.take (i * 3)) (by rw [List.length_take]; omega) (fun j v hj => by
      rw [Addr.add_lit]
      rw [List.getElem?_take] at hj
      split at hj
      · exact hcs j v hj
      · cases hj)
  have hrz : ∀ ty, (Builtin.append_ #[63, 3] ty #[.slice (some ⟨b, off, none⟩) i c, .int .i64 ((n : Int) + 1 - (i : Int))]).run Tryd.prog w =
      .ok (.slice (some ⟨w.heap.size, 0, none⟩) (n + 1) (grownCap w (n + 1) c 68)) (w.drew.alloc (.cells (insRow w n c i cs) 68)) := fun ty => by
    have h := Lib.run_append_grow_zeros w 63 3 ty 68 i0 _ .i64 .i64 uEs uInt hi0 hz0 (some ⟨b, off, none⟩) i c (cs.take (i * 3)) hold (n + 1 - i) (by omega) (by omega) (by omega) (by omega) (by rw [hzb]; omega) (by rw [hzb, hik]; exact growslice_fits hroom hbig)
    rw [hik] at h
    rw [hkk]
    exact h
  obtain ⟨G, hG⟩ : ∃ G, G = grownCap w (n + 1) c 68 := ⟨_, rfl⟩
  obtain ⟨ROW, hROW⟩ : ∃ ROW : Array Value, ROW = insRow w n c i cs := ⟨_, rfl⟩
  have hRl : (n + 1) * 3 ≤ ROW.size := by
    rw [hROW]
    unfold insRow
    rw [Array.size_append, Array.size_append, zc_size, zc_size, List.size_toArray, List.length_take]
    omega
  rw [← hG, ← hROW] at hrz ⊢
  obtain ⟨W1, hW1⟩ : ∃ W1, W1 = w.drew.alloc (.cells ROW 68) := ⟨_, rfl⟩
  rw [← hW1] at hrz
  have hN : ∀ j, j < (n + 1) * 3 → (W1.cell? ⟨w.heap.size, j, none⟩).isSome = true := fun j hj => by
    rw [hW1, World.cell?_alloc_at (w := w.drew) ROW _ w.heap.size j rfl, Array.getElem?_eq_getElem (by omega)]; rfl
  have hNf : ∀ j, W1.frozen? ⟨w.heap.size, j, none⟩ = false := fun j => by rw [hW1]; exact World.frozen?_alloc_at (w := w.drew) ROW _ w.heap.size j rfl
  have hOb : ∀ j v, w.cell? ⟨b, j, none⟩ = some v → W1.cell? ⟨b, j, none⟩ = some v := fun j v h => by rw [hW1, World.cell?_alloc_past (w := w.drew) _ b j hbw]; exact h
  have hOv : ∀ j v, w.cell? ⟨vb, j, none⟩ = some v → W1.cell? ⟨vb, j, none⟩ = some v := fun j v h => by rw [hW1, World.cell?_alloc_past (w := w.drew) _ vb j hvw]; exact h
  have hcpA : ∀ (W : World), (∀ x, W.cell? x = W1.cell? x) → (∀ x, W.frozen? x = W1.frozen? x) → ∀ ty dc, (Builtin.copy_ #[63, 63] ty #[.slice (some ⟨w.heap.size, i * 3, none⟩) (n + 1 - i) dc, .slice (some ⟨vb, voff, none⟩) 1 vc]).run Tryd.prog W = .ok (goInt (1 : Nat)) (W.setCells w.heap.size (i * 3) vs) := fun W hWc hWf ty dc =>
    run_copy_cellsK W _ _ ty 68 3 w.heap.size (i * 3) (n + 1 - i) dc ⟨vb, voff, none⟩ 1 vc 1 vs uEs szE (by simp only [Nat.min_def]; split <;> omega) (by omega)
      (fun j v hj => by rw [Addr.add_lit, hWc]; exact hOv _ v (hvs j v hj))
      (fun j hj => by rw [hWc]; exact hN _ (by omega)) (fun j hj => by rw [hWf]; exact hNf _) h1v
  have hGn : n + 1 ≤ G := by rw [hG]; exact grownCap_ge w _ _ _
  have hG63 : G ≤ 9223372036854775807 := by
    have := grownCap_le_maxLen w (n + 1) c 68 (by unfold maxLen; omega)
    rw [← hG] at this
    unfold maxLen at this
    omega
  have hGi : ¬ (G = i) := by omega
  have hGim : ¬ (G = i + 1) := by omega
  have hci : ¬ (c = i) := by omega
  have hbN : b ≠ w.heap.size := by omega
  have hdl : (cs.drop (i * 3)).length = (n - i) * 3 := by rw [List.length_drop, hcl, Nat.sub_mul]
  have hcpB : ∀ (W : World), (∀ x, W.cell? x = (W1.setCells w.heap.size (i * 3) vs).cell? x) → (∀ x, W.frozen? x = (W1.setCells w.heap.size (i * 3) vs).frozen? x) → ∀ ty dc sc, (Builtin.copy_ #[63, 63] ty #[.slice (some ⟨w.heap.size, (i + 1) * 3, none⟩) (n - i) dc, .slice (some ⟨b, off + i * 3, none⟩) (n - i) sc]).run Tryd.prog W = .ok (goInt (n - i : Nat)) (W.setCells w.heap.size ((i + 1) * 3) (cs.drop (i * 3))) := fun W hWc hWf ty dc sc =>
    run_copy_cellsK W _ _ ty 68 3 w.heap.size ((i + 1) * 3) (n - i) dc ⟨b, off + i * 3, none⟩ (n - i) sc (n - i) (cs.drop (i * 3)) uEs szE (by simp) hdl
      (fun j v hj => by
        rw [Addr.add_lit, hWc, World.cell?_setCells_out _ _ _ _ _ (fun h _ => absurd h hbN), Nat.add_assoc]
        exact hOb _ v (hcs (i * 3 + j) v (by rwa [List.getElem?_drop] at hj)))
      (fun j hj => by rw [hWc]; exact isSome_setCells _ _ _ _ (fun t ht => hN _ (by omega)) _ (hN _ (by omega)))
      (fun j hj => by rw [hWf, World.frozen?_setCells]; exact hNf _) (fun v hv => h1c v (List.mem_of_mem_drop hv))
  subst hW1
  have hE1 : ∀ x, ((w.alloc (.cells ROW 68)).drew).cell? x = (w.drew.alloc (.cells ROW 68)).cell? x := fun x => rfl
  have hE2 : ∀ x, ((w.alloc (.cells ROW 68)).drew).frozen? x = (w.drew.alloc (.cells ROW 68)).frozen? x := fun x => rfl
  have hF1 : ∀ x, (((w.alloc (.cells ROW 68)).drew.setCells w.heap.size (i * 3) vs).drew).cell? x = ((w.drew.alloc (.cells ROW 68)).setCells w.heap.size (i * 3) vs).cell? x := fun x => rfl
  have hF2 : ∀ x, (((w.alloc (.cells ROW 68)).drew.setCells w.heap.size (i * 3) vs).drew).frozen? x = ((w.drew.alloc (.cells ROW 68)).setCells w.heap.size (i * 3) vs).frozen? x := fun x => rfl
  have hw1 : IntKind.i64.wrap ((i : Int) + 1) = (i : Int) + 1 := by rw [IntKind.wrap_i64]; omega
  have hw2 : IntKind.i64.wrap ((n : Int) + 1) = (n : Int) + 1 := by rw [IntKind.wrap_i64]; omega
  have hw3 : IntKind.i64.wrap ((n : Int) + 1 - (i : Int)) = (n : Int) + 1 - (i : Int) := by rw [IntKind.wrap_i64]; omega
  have hb1 : (0 : Int) ≤ (i : Int) + 1 := by omega
  have hin : i ≤ n := by omega
  have htn : ((i : Int) + 1).toNat = i + 1 := by omega
  have hb3 : (i : Int) ≤ (n : Int) := by omega
  clear hkk hik hold hROW hG hRl
  go_enter Tryd.func63, Tryd.ntmps63
  go_wp2_with (first
    | (at_builtin; refine Lib.wpList_append_run _ rfl _ _ _ _ rfl _ _ rfl rfl _ _ (hrz _) ?_)
    | (at_builtin; refine wpList_copy_runI _ rfl _ _ 63 63 rfl _ _ rfl rfl (hcpA _ hE1 hE2 _ _) ?_)
    | (at_builtin; refine wpList_copy_runI _ rfl _ _ 63 63 rfl _ _ rfl rfl (hcpB _ (fun _ => rfl) (fun _ => rfl) _ _ _) ?_))
  go_region_law (refine step_copy_runI rfl _ _ 63 63 rfl (.slice (some ⟨w.heap.size, (i + 1) * 3, none⟩) (n - i) (G - (i + 1))) (.slice (some ⟨b, off + i * 3, none⟩) (n - i) (c - i)) (by simp [Act.eval, Act.put]) (by simp [Act.eval, Act.put]) (hcpB _ hF1 hF2 3 (G - (i + 1)) (c - i)) ?_)
  go_wp2
  go_ret
  exact ⟨rfl, rfl⟩
set_option maxHeartbeats 4000000 in
set_option maxRecDepth 100000 in
theorem ins_end (ad : Addr) (n c : Nat) (x : Value) (vb voff vc : Nat) (w w' : World) (v' : Value) (hnc : n ≤ c) (hn : n < 1152921504606846976) (hx : x = .slice (some ⟨vb, voff, none⟩) (1 : Nat) vc)
    (hrun : (Builtin.append_ #[63, 63] 63 #[.slice (some ad) n c, x]).run Tryd.prog w = .ok v' w') :
    Calls Tryd.prog 63 #[.slice (some ad) n c, .int .i64 n, x] w fun e w2 => e = .returned v' ∧ w2 = w' := by
  subst hx
  have hin : n ≤ n := Nat.le_refl n
  go_enter Tryd.func63, Tryd.ntmps63
  go_wp2_with (at_builtin; refine Lib.wpList_append_run _ rfl _ _ _ _ rfl _ _ rfl rfl _ _ hrun ?_)
  all_goals (go_ret; exact ⟨rfl, rfl⟩)
set_option maxHeartbeats 4000000 in
set_option maxRecDepth 100000 in
theorem ins_endN (x : Value) (vb voff vc : Nat) (w w' : World) (v' : Value) (hx : x = .slice (some ⟨vb, voff, none⟩) (1 : Nat) vc)
    (hrun : (Builtin.append_ #[63, 63] 63 #[.slice none 0 0, x]).run Tryd.prog w = .ok v' w') :
    Calls Tryd.prog 63 #[.slice none 0 0, .int .i64 0, x] w fun e w2 => e = .returned v' ∧ w2 = w' := by
  subst hx
  go_enter Tryd.func63, Tryd.ntmps63
  go_wp2_with (at_builtin; refine Lib.wpList_append_run _ rfl _ _ _ _ rfl _ _ rfl rfl _ _ hrun ?_)
  go_ret
  exact ⟨rfl, rfl⟩
end Go.Proofs
namespace Go.Am
open Go.Proofs
set_option maxRecDepth 100000
set_option linter.all false
theorem own_frz {P : Program} {k : Blk} {l : Loc} {w : World} (h : Own P k l w) (he : l.es = 3) (j : Nat) : w.frozen? ⟨l.cb, j, none⟩ = false := by
  obtain ⟨cs, e, lo, hi, hh, hs, _, hf⟩ := h
  have : lo = hi := by omega
  subst this
  simp only [World.frozen?, hh]
  simp
theorem own_shape {P : Program} {k : Blk} {l : Loc} {w : World} (h : Own P k l w) : ∃ e, w.shape? l.cb = some (e, l.sz) := by
  obtain ⟨cs, e, lo, hi, hh, hs, _, hf⟩ := h
  exact ⟨e, by simp only [World.shape?, hh, hs]⟩
theorem own_cell {P : Program} {k : Blk} {l : Loc} {w : World} (h : Own P k l w) {j : Nat} (hj : j < l.sz) : (w.cell? ⟨l.cb, j, none⟩).isSome = true := by
  obtain ⟨cs, e, lo, hi, hh, hs, _, hf⟩ := h
  simp only [World.cell?, hh]
  simp
  omega
theorem Wrote.tr {c : Nat} {a b d : World} (h : Wrote c a b) (k : Wrote c b d) : Wrote c a d :=
  ⟨k.os.trans h.os, k.tape.trans h.tape, k.output.trans h.output, k.size.trans h.size, fun x hx => (k.blk x hx).trans (h.blk x hx), Nat.le_trans h.drawn k.drawn⟩
theorem drew_wrote (c : Nat) (w : World) : Wrote c w w.drew := ⟨rfl, rfl, rfl, rfl, fun _ _ => rfl, Nat.le_succ _⟩
theorem ins_blk {E : Env} {row xs row' xs' : List Value} (hr : LRel E row row') (hx : LRel E xs xs') {w2 : World} {cb s i : Nat} (hi : i * 3 ≤ row.length) (hxl : xs.length = 3)
    (c1 : ∀ j v, j < i * 3 → row'[j]? = some v → w2.cell? ⟨cb, s + j, none⟩ = some v) (c2 : ∀ j v, xs'[j]? = some v → w2.cell? ⟨cb, s + i * 3 + j, none⟩ = some v)
    (c3 : ∀ j v, (row'.drop (i * 3))[j]? = some v → w2.cell? ⟨cb, s + (i + 1) * 3 + j, none⟩ = some v) :
    ∀ (k : Nat) v, (row.take (i * 3) ++ (xs ++ row.drop (i * 3)))[k]? = some v → ∃ v', w2.cell? ⟨cb, s + k, none⟩ = some v' ∧ VR E v v' := by
  intro k v hk
  have hlt : (row.take (i * 3)).length = i * 3 := by rw [List.length_take]; omega
  rcases Nat.lt_or_ge k (i * 3) with h1 | h1
  · rw [List.getElem?_append_left (by omega), List.getElem?_take, if_pos h1] at hk
    obtain ⟨v', h2, h3⟩ := hr.2 k v hk
    exact ⟨v', c1 k v' h1 h2, h3⟩
  · rw [List.getElem?_append_right (by omega), hlt] at hk
    rcases Nat.lt_or_ge (k - i * 3) 3 with h2 | h2
    · rw [List.getElem?_append_left (by omega)] at hk
      obtain ⟨v', h3, h4⟩ := hx.2 _ v hk
      refine ⟨v', ?_, h4⟩
      have := c2 _ v' h3
      rwa [show s + i * 3 + (k - i * 3) = s + k by omega] at this
    · rw [List.getElem?_append_right (by omega), hxl, List.getElem?_drop] at hk
      obtain ⟨v', h3, h4⟩ := hr.2 _ v hk
      refine ⟨v', ?_, h4⟩
      have := c3 (k - i * 3 - 3) v' (by rw [List.getElem?_drop]; exact h3)
      rwa [show s + (i + 1) * 3 + (k - i * 3 - 3) = s + k by omega] at this
theorem set_in {w : World} {b o : Nat} {vs : List Value} (h : ∀ j, j < vs.length → (w.cell? ⟨b, o + j, none⟩).isSome = true) {j : Nat} {v : Value} (hv : vs[j]? = some v) : (w.setCells b o vs).cell? ⟨b, o + j, none⟩ = some v := by
  obtain ⟨hj, e⟩ := List.getElem?_eq_some_iff.1 hv
  rw [World.cell?_setCells_in b vs o w h j hj, e]
theorem set_out {w : World} {b o k : Nat} {vs : List Value} (h : k < o ∨ o + vs.length ≤ k) : (w.setCells b o vs).cell? ⟨b, k, none⟩ = w.cell? ⟨b, k, none⟩ :=
  World.cell?_setCells_out b vs o w _ (fun _ _ => h)
theorem alloc_pushed (w : World) (o : Obj) : Pushed w (w.alloc o) :=
  ⟨rfl, rfl, rfl, by show (w.heap.push o).size = _; rw [Array.size_push], fun c hc => by show (w.heap.push o)[c]? = _; rw [Array.getElem?_push, if_neg (by omega)], Nat.le_refl _⟩
theorem Pushed.wr {w a d : World} (h : Pushed w a) (k : Wrote w.heap.size a d) : Pushed w d :=
  ⟨k.os.trans h.os, k.tape.trans h.tape, k.output.trans h.output, k.size.trans h.size, fun c hc => (k.blk c (by omega)).trans (h.blk c hc), Nat.le_trans h.drawn k.drawn⟩
theorem insRow_size (w : World) (n c i : Nat) (cs : List Value) (hi : i < n) (hl : cs.length = n * 3) : (insRow w n c i cs).size = grownCap w (n + 1) c 68 * 3 := by
  have hg : n + 1 ≤ grownCap w (n + 1) c 68 := grownCap_ge w _ _ _
  unfold insRow
  rw [Array.size_append, Array.size_append, zc_size, zc_size, List.size_toArray, List.length_take, hl]
  omega
theorem insRow_at (w : World) (n c i : Nat) (cs : List Value) {j : Nat} (hj : j < i * 3) (hl : i * 3 ≤ cs.length) : (insRow w n c i cs)[j]? = cs[j]? := by
  unfold insRow
  have h1 : j < ((cs.take (i * 3)).toArray).size := by rw [List.size_toArray, List.length_take]; omega
  rw [Array.append_assoc, Array.getElem?_append_left h1, List.getElem?_toArray, List.getElem?_take, if_pos hj]
theorem ins_sound (base : Nat) (args : Array Value) (h : Heap) (v : Value) (h' : Heap) (E : Env) (w : World) (args' : Array Value) (hv : insX args h = some (v, h')) (hR : Rel Tryd.prog base E h w) (ha : ARel E args args') (hfree : Free E h h') :
    Calls Tryd.prog 63 args' w fun e w' => ∃ v' E', e = .returned v' ∧ Post Tryd.prog base E h w E' h' w' ∧ VR E' v v' := by
  have three : ∀ x y z, args.toList = [x, y, z] → ∃ x' y' z', args' = #[x', y', z'] ∧ VR E x x' ∧ VR E y y' ∧ VR E z z' := fun x y z he => by
    have hl := ha.list
    rw [he] at hl
    obtain ⟨x', h1, r1⟩ := hl.2 0 x rfl
    obtain ⟨y', h2, r2⟩ := hl.2 1 y rfl
    obtain ⟨z', h3, r3⟩ := hl.2 2 z rfl
    have h4 := hl.1
    refine ⟨x', y', z', ?_, r1, r2, r3⟩
    obtain ⟨l⟩ := args'
    match l, h4, h1, h2, h3 with
    | [a, b, c], _, h1, h2, h3 => cases h1; cases h2; cases h3; rfl
  unfold insX at hv
  split at hv
  · rename_i a n c i vb he
    obtain ⟨x', y', z', rfl, r1, r2, r3⟩ := three _ _ _ he
    have hy : y' = .int .i64 i := by cases r2; rfl
    subst hy
    have r30 := r3
    rcases r3.slice_inv with ⟨lz, cz, ez, _, _, _, rfl⟩ | ⟨h0, _⟩
    rotate_left
    · omega
    split at hv
    · rename_i hin
      subst hin
      split at hv
      · rename_i hn
        obtain ⟨E', w', v', g1, g2, g3⟩ := appendV_run (t2 := 63) (ts := #[63, 63]) hR rfl hfree hv r1 r30
        have fin : ∀ e w2, e = Ending.returned v' ∧ w2 = w' → ∃ v' E', e = .returned v' ∧ Post Tryd.prog base E h w E' h' w2 ∧ VR E' v v' := fun e w2 ⟨q1, q2⟩ => ⟨v', E', q1, by rw [q2]; exact g2, g3⟩
        cases r1 with
        | sliceNil => exact (ins_endN _ lz.cb (lz.s + 0) cz w w' v' rfl g1).mono fin
        | slice q1 q2 q3 q4 => exact (ins_end _ n _ _ lz.cb (lz.s + 0) cz w w' v' q3 (by omega) rfl g1).mono fin
        | sliceEmpty q => exact (ins_end _ 0 0 _ lz.cb (lz.s + 0) cz w w' v' (Nat.le_refl _) (by omega) rfl g1).mono fin
      · cases hv
    · split at hv
      · rename_i hne hc
        obtain ⟨i0, i1, n40, hcap⟩ := hc
        obtain ⟨i, rfl⟩ : ∃ k : Nat, i = k := ⟨i.toNat, by omega⟩
        rw [Int.toNat_natCast] at hv
        split at hv
        · rename_i b o
          split at hv
          · rename_i cs ty xs ty2 hk hkv
            split at hv
            · rename_i hc2
              obtain ⟨rfl, rfl, hbv, hle, hxl, hx1, hc1⟩ := hc2
              simp only [Option.some.injEq, Prod.mk.injEq] at hv
              obtain ⟨rfl, rfl⟩ := hv
              rcases r1.slice_inv with ⟨l, c', e1, e2, e3, e4, rfl⟩ | ⟨h0, _⟩
              rotate_left
              · omega
              have hin : i < n := by omega
              have hfr : E h.blks.length = none := hfree _ (Nat.le_refl _) (by rw [Heap.new_len, Heap.put_len]; omega)
              have hsz3 : sizeT Tryd.prog 68 = some 3 := by kernel_rfl
              have hblk := hR.blk b _ l hk e1
              have hblz := hR.blk vb _ lz hkv ez
              have hes : l.es = 3 := by have := hblk.1; simp only at this; rw [hsz3] at this; simpa using this.symm
              have hez : lz.es = 3 := by have := hblz.1; simp only at this; rw [hsz3] at this; simpa using this.symm
              have own := hblk.2.2 rfl
              have ownz := hblz.2.2 rfl
              have hcb : lz.cb ≠ l.cb := fun e => hbv (hR.inj b vb _ _ l lz hk hkv e1 ez rfl rfl trivial trivial e.symm)
              have hload : h.loadN b o (n * 3) = some ((cs.drop o).take (n * 3)) := by
                unfold Heap.loadN Heap.cells?
                simp only [hk]
                rw [if_pos hle]
              have hloadv : h.loadN vb 0 3 = some xs := by
                unfold Heap.loadN Heap.cells?
                simp only [hkv]
                rw [if_pos (by omega), List.drop_zero, List.take_of_length_le (by omega)]
              obtain ⟨row', hr, hcell⟩ := loadN_read hR hload e1
              obtain ⟨xs', hx, hcellx⟩ := loadN_read hR hloadv ez
              have hrl : ((cs.drop o).take (n * 3)).length = n * 3 := by rw [List.length_take, List.length_drop]; omega
              have hr'l : row'.length = n * 3 := by rw [← hr.1]; exact hrl
              have hx'l : xs'.length = 3 := by rw [← hx.1]; exact hxl
              have h1c : ∀ v ∈ row', v.oneCell' = true := hr.all_one hc1
              have h1v : ∀ v ∈ xs', v.oneCell' = true := hx.all_one hx1
              have hcs : ∀ j v, row'[j]? = some v → w.cell? ⟨l.cb, l.s + o + j, none⟩ = some v := fun j v hj => by rw [Nat.add_assoc]; exact hcell j v hj
              have hvs : ∀ j v, xs'[j]? = some v → w.cell? ⟨lz.cb, lz.s + 0 + j, none⟩ = some v := fun j v hj => by rw [Nat.add_assoc]; exact hcellx j v hj
              have htk : (cs.drop o).take (i * 3) = ((cs.drop o).take (n * 3)).take (i * 3) := by rw [List.take_take, Nat.min_eq_left (by omega)]
              rw [htk] at hfree ⊢
              clear htk
              generalize hrow : (cs.drop o).take (n * 3) = row at *
              rcases Nat.lt_or_ge c' (n + 1) with hgrow | hshift
              · have hG := grownCap_ge w (n + 1) c' 68
                have hsz := insRow_size w n c' i row' hin hr'l
                have hat : ∀ j, j < i * 3 → (insRow w n c' i row')[j]? = row'[j]? := fun j hj => insRow_at w n c' i row' hj (by omega)
                refine (ins_grow l.cb (l.s + o) n c' i lz.cb (lz.s + 0) cz row' xs' w hin e3 hgrow (by omega) hr'l hx'l hcs hvs h1c h1v).mono ?_
                rintro e w' ⟨rfl, rfl⟩
                generalize hROW : insRow w n c' i row' = ROW at *
                generalize grownCap w (n + 1) c' 68 = G at *
                have pk := Post.kill hR hk e1 rfl trivial hblk.1
                have hpl : (h.put b .dead).blks.length = h.blks.length := Heap.put_len _ _ _
                have hA : ∀ j, (w.alloc (.cells ROW 68)).drew.cell? ⟨w.heap.size, j, none⟩ = ROW[j]? := fun j => World.cell?_alloc_at (w := w) ROW _ w.heap.size j rfl
                have hAs : ∀ j, j < G * 3 → ((w.alloc (.cells ROW 68)).drew.cell? ⟨w.heap.size, j, none⟩).isSome = true := fun j hj => by
                  rw [hA, Array.getElem?_eq_getElem (by omega)]; rfl
                have hd : (row'.drop (i * 3)).length = (n - i) * 3 := by rw [List.length_drop, hr'l, Nat.sub_mul]
                have hs2 : ∀ j, j < xs'.length → ((w.alloc (.cells ROW 68)).drew.cell? ⟨w.heap.size, i * 3 + j, none⟩).isSome = true := fun j hj => hAs _ (by omega)
                have hs1 : ∀ j, j < (row'.drop (i * 3)).length → (((w.alloc (.cells ROW 68)).drew.setCells w.heap.size (i * 3) xs').drew.cell? ⟨w.heap.size, (i + 1) * 3 + j, none⟩).isSome = true := fun j hj => by
                  show (((w.alloc (.cells ROW 68)).drew.setCells w.heap.size (i * 3) xs').cell? ⟨w.heap.size, (i + 1) * 3 + j, none⟩).isSome = true
                  rw [set_out (.inr (by omega))]
                  exact hAs _ (by omega)
                have pw : Pushed w ((((w.alloc (.cells ROW 68)).drew.setCells w.heap.size (i * 3) xs').drew).setCells w.heap.size ((i + 1) * 3) (row'.drop (i * 3))) :=
                  (alloc_pushed w _).wr ((((drew_wrote _ _).tr (setCells_far _ _ _ _)).tr (drew_wrote _ _)).tr (setCells_far _ _ _ _))
                have hh : (w.alloc (.cells ROW 68)).drew.heap[w.heap.size]? = some (.cells ROW 68 (0, 0)) := by
                  show (w.heap.push (.cells ROW 68))[w.heap.size]? = _
                  simp
                obtain ⟨c2, q2, s2⟩ := setCells_block w.heap.size xs' (i * 3) _ hh
                obtain ⟨c3, q3, s3⟩ := setCells_block w.heap.size (row'.drop (i * 3)) ((i + 1) * 3) (((w.alloc (.cells ROW 68)).drew.setCells w.heap.size (i * 3) xs').drew) q2
                have p2 := Post.new pk.rel (by rw [hpl]; exact hfr) (.cells (row.take (i * 3) ++ (xs ++ row.drop (i * 3)))) 68 ⟨w.heap.size, 0, G * 3, 3⟩ rfl pw ⟨hsz3, by
                  refine ins_blk hr hx (by omega) hxl (fun j v hj hv => ?_) (fun j v hv => ?_) (fun j v hv => ?_)
                  · rw [Nat.zero_add, set_out (.inl (by omega))]
                    show ((w.alloc (.cells ROW 68)).drew.setCells w.heap.size (i * 3) xs').cell? _ = _
                    rw [set_out (.inl hj), hA, hat j hj]
                    exact hv
                  · have hj := (List.getElem?_eq_some_iff.1 hv).1
                    rw [Nat.zero_add, set_out (.inl (by omega))]
                    exact set_in hs2 hv
                  · rw [Nat.zero_add]
                    exact set_in hs1 hv, fun _ => ⟨c3, _, 0, 0, q3, by rw [s3, s2, hsz], hsz3, .inl rfl⟩⟩
                have p3 := pk.trans p2 (Grow.put hk trivial _ rfl) (Grow.new _ _ _ (by simp [Body.kind])) (by intro x hx hx'; exact hfree x hx hx')
                refine ⟨_, _, rfl, p3, ?_⟩
                rw [hpl]
                have := VR.slice (E := E.upd h.blks.length ⟨w.heap.size, 0, G * 3, 3⟩) (b := h.blks.length) (o := 0) (n := n + 1) (c := UNK) (c' := G) (Env.upd_same _ _ _) (.inl rfl) hG (fun _ => by simp)
                simpa using this
              · -- in place
                have hU : c = UNK := by
                  rcases e2 with e | ⟨e, _⟩
                  · exact e
                  · rcases hcap with e' | e'
                    · exact e'
                    · omega
                have hb4 := e4 hU
                rw [hes] at hb4
                have hroom : l.s + o + (n + 1) * 3 ≤ l.sz := by
                  have : (n + 1) * 3 ≤ c' * 3 := Nat.mul_le_mul_right _ hshift
                  omega
                obtain ⟨tA, hsa⟩ := own_shape ownz
                obtain ⟨tB, hsb⟩ := own_shape own
                have hsp : ∀ j, j < (n + 1) * 3 → (w.cell? ⟨l.cb, l.s + o + j, none⟩).isSome = true := fun j hj => own_cell own (by omega)
                refine (ins_shift l.cb (l.s + o) n c' i lz.cb (lz.s + 0) cz row' xs' w hin (by omega) hshift hcb hr'l hx'l hcs hsp (fun j _ => own_frz own hes _) hvs h1c h1v tA tB lz.sz l.sz hsa hsb (by omega) (own_frz ownz hez _) (own_frz ownz hez _)).mono ?_
                rintro e w' ⟨rfl, rfl⟩
                have hd : (row'.drop (i * 3)).length = (n - i) * 3 := by rw [List.length_drop, hr'l, Nat.sub_mul]
                have hs1 : ∀ j, j < (row'.drop (i * 3)).length → (w.drew.cell? ⟨l.cb, l.s + o + (i + 1) * 3 + j, none⟩).isSome = true := fun j hj => by
                  rw [Nat.add_assoc (l.s + o)]; exact hsp _ (by omega)
                have hs2 : ∀ j, j < xs'.length → ((w.drew.setCells l.cb (l.s + o + (i + 1) * 3) (row'.drop (i * 3))).cell? ⟨l.cb, l.s + o + i * 3 + j, none⟩).isSome = true := fun j hj => by
                  rw [set_out (.inl (by omega)), Nat.add_assoc (l.s + o)]; exact hsp _ (by omega)
                refine ⟨_, _, rfl, Post.alias hR hfr hk e1 rfl trivial hblk.1 _ _ ⟨l.cb, l.s + o, l.sz, 3⟩ rfl (((drew_wrote _ _).tr (setCells_far _ _ _ _)).tr (setCells_far _ _ _ _)) ⟨hsz3, ?_, fun _ => ?_⟩, ?_⟩
                · refine ins_blk hr hx (by omega) hxl (fun j v hj hv => ?_) (fun j v hv => set_in hs2 hv) (fun j v hv => ?_)
                  · show ((w.drew.setCells l.cb (l.s + o + (i + 1) * 3) (row'.drop (i * 3))).setCells l.cb (l.s + o + i * 3) xs').cell? ⟨l.cb, l.s + o + j, none⟩ = some v
                    rw [set_out (.inl (by omega)), set_out (.inl (by omega))]
                    exact hcs j v hv
                  · show ((w.drew.setCells l.cb (l.s + o + (i + 1) * 3) (row'.drop (i * 3))).setCells l.cb (l.s + o + i * 3) xs').cell? ⟨l.cb, l.s + o + (i + 1) * 3 + j, none⟩ = some v
                    rw [set_out (.inr (by rw [hx'l]; omega))]
                    exact set_in hs1 hv
                · obtain ⟨c1, ee, lo, hi, hh, hsz, _, hfz⟩ := own
                  obtain ⟨c2, q2, s2⟩ := setCells_block l.cb (row'.drop (i * 3)) (l.s + o + (i + 1) * 3) w.drew hh
                  obtain ⟨c3, q3, s3⟩ := setCells_block l.cb xs' (l.s + o + i * 3) _ q2
                  exact ⟨c3, ee, lo, hi, q3, by rw [s3, s2, hsz], hsz3, by show lo = hi ∨ l.sz ≤ lo ∧ 3 = 1; rw [← hes]; exact hfz⟩
                · have := VR.slice (E := E.upd h.blks.length ⟨l.cb, l.s + o, l.sz, 3⟩) (b := h.blks.length) (o := 0) (n := n + 1) (c := UNK) (c' := c') (Env.upd_same _ _ _) (.inl rfl) hshift (fun _ => by simpa using hb4)
                  simpa using this
            · cases hv
          · cases hv
        · cases hv
      · cases hv
  · cases hv
end Go.Am
namespace Go.Proofs
open Go.Shelf
def srtLay_ren : Go.Shelf.Ren := ⟨fun | 6 => 73 | 15 => 88 | 14 => 87 | 28 => 102 | 29 => 103 | 20 => 94 | 21 => 95 | 22 => 96 | 23 => 97 | 24 => 98 | 25 => 99 | 26 => 100 | 27 => 101 | 46 => 105 | 47 => 106 | 48 => 107 | 49 => 108 | 50 => 109 | 57 => 110 | n => n, fun | 22 => 63 | 24 => 68 | 25 => 118 | 3 => 3 | 39 => 57 | 0 => 0 | 53 => 169 | 55 => 23 | 4 => 4 | 46 => 163 | 45 => 162 | 50 => 45 | 5 => 5 | 9 => 9 | 66 => 171 | 70 => 175 | 76 => 177 | 77 => 178 | n => n, fun | n => n⟩
theorem srtLay : Go.Proofs.SlLaysF0.n6 Tryd.prog srtLay_ren := { mixed := by kernel_rfl, f6 := ⟨"slices.SortFunc[[]shoal/trim.Entry,shoal/trim.Entry]", by decide, Tryd.func73.trans (congrArg some (by kernel_rfl))⟩, f14 := ⟨"slices.pdqsortCmpFunc[shoal/trim.Entry]", by decide, Tryd.func87.trans (congrArg some (by kernel_rfl))⟩, f15 := Tryd.func88.trans (congrArg some (by kernel_rfl)), f20 := ⟨"slices.insertionSortCmpFunc[shoal/trim.Entry]", by decide, Tryd.func94.trans (congrArg some (by kernel_rfl))⟩, f21 := ⟨"slices.heapSortCmpFunc[shoal/trim.Entry]", by decide, Tryd.func95.trans (congrArg some (by kernel_rfl))⟩, f22 := ⟨"slices.breakPatternsCmpFunc[shoal/trim.Entry]", by decide, Tryd.func96.trans (congrArg some (by kernel_rfl))⟩, f23 := ⟨"slices.choosePivotCmpFunc[shoal/trim.Entry]", by decide, Tryd.func97.trans (congrArg some (by kernel_rfl))⟩, f24 := ⟨"slices.reverseRangeCmpFunc[shoal/trim.Entry]", by decide, Tryd.func98.trans (congrArg some (by kernel_rfl))⟩, f25 := ⟨"slices.partialInsertionSortCmpFunc[shoal/trim.Entry]", by decide, Tryd.func99.trans (congrArg some (by kernel_rfl))⟩, f26 := ⟨"slices.partitionEqualCmpFunc[shoal/trim.Entry]", by decide, Tryd.func100.trans (congrArg some (by kernel_rfl))⟩, f27 := ⟨"slices.partitionCmpFunc[shoal/trim.Entry]", by decide, Tryd.func101.trans (congrArg some (by kernel_rfl))⟩, f28 := Tryd.func102.trans (congrArg some (by kernel_rfl)), f29 := Tryd.func103.trans (congrArg some (by kernel_rfl)), f46 := ⟨"slices.siftDownCmpFunc[shoal/trim.Entry]", by decide, Tryd.func105.trans (congrArg some (by kernel_rfl))⟩, f47 := Tryd.func106.trans (congrArg some (by kernel_rfl)), f48 := Tryd.func107.trans (congrArg some (by kernel_rfl)), f49 := ⟨"slices.medianAdjacentCmpFunc[shoal/trim.Entry]", by decide, Tryd.func108.trans (congrArg some (by kernel_rfl))⟩, f50 := ⟨"slices.medianCmpFunc[shoal/trim.Entry]", by decide, Tryd.func109.trans (congrArg some (by kernel_rfl))⟩, f57 := ⟨"slices.order2CmpFunc[shoal/trim.Entry]", by decide, Tryd.func110.trans (congrArg some (by kernel_rfl))⟩, t0 := Tryd.underlying0, a0 := Tryd.isAgg0, z0 := Tryd.sizeOf0, v0 := Tryd.zeroValue0, t3 := Tryd.underlying3, a3 := Tryd.isAgg3, z3 := Tryd.sizeOf3, v3 := Tryd.zeroValue3, t4 := Tryd.underlying4, a4 := Tryd.isAgg4, z4 := Tryd.sizeOf4, v4 := Tryd.zeroValue4, t5 := Tryd.underlying5, a5 := Tryd.isAgg5, z5 := Tryd.sizeOf5, v5 := Tryd.zeroValue5, t9 := Tryd.underlying9, a9 := Tryd.isAgg9, z9 := Tryd.sizeOf9, v9 := Tryd.zeroValue9, t22 := Tryd.underlying63, a22 := Tryd.isAgg63, z22 := Tryd.sizeOf63, v22 := Tryd.zeroValue63, t25 := Tryd.underlying118, a25 := Tryd.isAgg118, z25 := Tryd.sizeOf118, v25 := Tryd.zeroValue118, t39 := Tryd.underlying57, a39 := Tryd.isAgg57, z39 := Tryd.sizeOf57, v39 := Tryd.zeroValue57, t45 := Tryd.underlying162, a45 := Tryd.isAgg162, z45 := Tryd.sizeOf162, v45 := Tryd.zeroValue162, t46 := Tryd.underlying163, a46 := Tryd.isAgg163, z46 := Tryd.sizeOf163, v46 := Tryd.zeroValue163, t50 := Tryd.underlying45, a50 := Tryd.isAgg45, z50 := Tryd.sizeOf45, v50 := Tryd.zeroValue45, t53 := Tryd.underlying169, a53 := Tryd.isAgg169, z53 := Tryd.sizeOf169, v53 := Tryd.zeroValue169, t55 := Tryd.underlying23, a55 := Tryd.isAgg23, z55 := Tryd.sizeOf23, v55 := Tryd.zeroValue23, t66 := Tryd.underlying171, a66 := Tryd.isAgg171, z66 := Tryd.sizeOf171, v66 := Tryd.zeroValue171, t70 := Tryd.underlying175, a70 := Tryd.isAgg175, z70 := Tryd.sizeOf175, v70 := Tryd.zeroValue175, t76 := Tryd.underlying177, a76 := Tryd.isAgg177, z76 := Tryd.sizeOf177, v76 := Tryd.zeroValue177, t77 := Tryd.underlying178, a77 := Tryd.isAgg178, z77 := Tryd.sizeOf178, v77 := Tryd.zeroValue178 }
end Go.Proofs
namespace Go.Am
open Go.Proofs Go.Sort
set_option maxRecDepth 100000
set_option linter.all false
theorem mixedT : Tryd.prog.follows .mixedOrders = true := by kernel_rfl
theorem grown_of {h : Heap} {W W' : World} (fr : Fr noE h W W') : ∃ q os', W' = grow (W.drewN q) os' := by
  have hb : ∀ c, c < W.heap.size → W'.heap[c]? = W.heap[c]? := fun c hc => fr.blk c hc fun ⟨b, k, l, _, h1, _⟩ => by cases h1
  have ho := fr.os
  have ht := fr.tape
  have hu := fr.output
  have hs := fr.size
  have hd := fr.drawn
  obtain ⟨heap, tape, drawn, os, output⟩ := W
  obtain ⟨heap', tape', drawn', os', output'⟩ := W'
  simp only at ho ht hu hs hd hb
  subst ho ht hu
  refine ⟨drawn' - drawn, heap'.extract heap.size heap'.size, ?_⟩
  unfold grow World.drewN
  simp only
  congr 1
  · apply Array.ext_getElem?
    intro c
    rcases Nat.lt_or_ge c heap.size with h1 | h1
    · rw [Array.getElem?_append_left h1, ← hb c h1]
    · rw [Array.getElem?_append_right h1, Array.getElem?_extract]
      split
      · rename_i h2; rw [show heap.size + (c - heap.size) = c by omega]
      · rename_i h2; rw [Array.getElem?_eq_none (by omega)]
  · omega
theorem cmp_lays (blk off size : Nat) (w : World) : CmpLays Tryd.prog 55 #[] entC 3 cmpE blk off size w := fun m os dk _ x y => by
  obtain ⟨h', he, _⟩ := Z.spec_order x y ⟨[], []⟩
  have hA : ARel noE #[entV x, entV y] #[.agg (entC x).toArray, .agg (entC y).toArray] := ⟨rfl, fun i h1 h2 => by
    have : i = 0 ∨ i = 1 := by simp at h1; omega
    rcases this with rfl | rfl
    · exact VR.of_ground (v := entV x) (by simp [ground, entV, ground0])
    · exact VR.of_ground (v := entV y) (by simp [ground, entV, ground0])⟩
  rw [Array.append_empty]
  refine (@evC_sound _ Z.xt0 Z.gl0 Z.xo0 mixedT (sortWorldK entC 3 w blk off m dk os).heap.size 55 #[entV x, entV y] ⟨[], []⟩ _ h' noE _ _ he (@rel_none _ Z.gl0 _ (@GlobW.none _ Z.gl0 rfl _ _)) hA (fun b _ _ => rfl)).mono ?_
  rintro e W' ⟨v', E', h1, h2, h3⟩
  cases h3
  exact ⟨h1, grown_of (@Post.fr _ Z.gl0 _ _ _ _ _ _ _ h2)⟩
theorem swo : SWO (ltOf cmpE) := by
  have key : ∀ x y : E3, ltOf cmpE x y = decide (x.f < y.f ∨ x.f = y.f ∧ x.n < y.n) := fun x y => by
    unfold ltOf cmpE
    by_cases h1 : x.f < y.f
    · simp [h1]
    · by_cases h2 : y.f < x.f
      · have : ¬ (x.f = y.f) := by omega
        simp [h1, h2, this]
      · have : x.f = y.f := by omega
        by_cases h3 : x.n < y.n
        · simp [h1, h2, h3, this]
        · by_cases h4 : y.n < x.n <;> simp [h1, h2, h3, h4, this]
  constructor
  · intro x; rw [key]; simp
  · intro x y z h1 h2; rw [key] at *; simp at *; omega
  · intro x y z h1 h2; rw [key] at *; simp at *; omega
theorem flatK_ent (l : List E3) : (flatK entC 3 l.toArray).toList = entL l := by
  have key : ∀ (l : List E3) (t : Nat), t < l.length * 3 → (entC (l.getD (t / 3) default))[t % 3]! = (entL l)[t]! := by
    intro l
    induction l with
    | nil => intro t ht; simp at ht
    | cons e l ih =>
      intro t ht
      rcases Nat.lt_or_ge t 3 with h | h
      · have : t = 0 ∨ t = 1 ∨ t = 2 := by omega
        rcases this with rfl | rfl | rfl <;> rfl
      · obtain ⟨u, rfl⟩ : ∃ u, t = u + 3 := ⟨t - 3, by omega⟩
        rw [show (u + 3) / 3 = u / 3 + 1 by omega, show (u + 3) % 3 = u % 3 by omega]
        simp only [List.getD_cons_succ]
        rw [ih u (by simp at ht; omega)]
        rfl
  apply List.ext_getElem
  · simp [entL_len]
  · intro t h1 h2
    have ht : t < l.length * 3 := by rw [entL_len] at h2; exact h2
    have := key l t ht
    rw [getElem!_pos (entL l) t h2] at this
    rw [← this]
    simp only [flatK, Array.toList_map, Array.toList_range, List.getElem_map, List.getElem_range]
    congr 1
    simp [getElem!_def, List.getD_eq_getElem?_getD]
    cases l[t / 3]? <;> rfl
theorem setCells_sort {w : World} {blk off : Nat} {l : List E3} (hH : HoldsK entC 3 w blk off l.toArray) (d : Array E3) (hd : d.size = l.length) : w.setCells blk off (entL d.toList) = putRowK entC 3 w blk off d := by
  have e0 := putRow_self id w blk off _ hH
  have e1 := setCells_putRow w blk off (entL d.toList) 0 (flatK entC 3 l.toArray) (by rw [entL_len, size_flatK]; simp [hd])
  rw [e0, Nat.add_zero] at e1
  rw [e1]
  unfold putRowK
  congr 1
  refine ext_get! (by simp [hd]) fun t ht => ?_
  have ht' : t < (flatK entC 3 l.toArray).size := by simpa using ht
  have hlen : (entL d.toList).length = (flatK entC 3 l.toArray).size := by rw [entL_len, size_flatK]; simp [hd]
  rw [get_setMany _ _ _ _ ht', if_pos (by omega), Nat.sub_zero]
  have := flatK_ent d.toList
  simp only [Array.toArray_toList] at this
  rw [← this]
  simp [getElem!_def]
theorem Post.grown {P : Program} [Gl P] {base : Nat} {E : Env} {h h' : Heap} {w w1 : World} (p : Post P base E h w E h' w1) (os : Array Obj) : Post P base E h w E h' (grow w1 os) := by
  have hb : ∀ c, c < w1.heap.size → (grow w1 os).heap[c]? = w1.heap[c]? := fun c hc => by
    unfold grow
    exact Array.getElem?_append_left hc
  refine ⟨p.ext, p.dom, ⟨fun b k l hk hl => (p.rel.blk b k l hk hl).congr (Ext.refl _) (hb _ (p.rel.bnd b l hl)), p.rel.low, p.rel.ro, fun b l hl => ?_, p.rel.inj, p.rel.glob.keep (fun c hc => hb c (Nat.lt_of_lt_of_le hc p.rel.base)), ?_⟩, ⟨p.fr.os, p.fr.tape, p.fr.output, ?_, fun c hc hm => ?_, p.fr.drawn⟩, p.orig⟩
  · have := p.rel.bnd b l hl
    simp [grow]; omega
  · have := p.rel.base
    simp [grow]; omega
  · have := p.fr.size
    simp [grow]; omega
  · rw [hb c (Nat.lt_of_lt_of_le hc p.fr.size)]; exact p.fr.blk c hc hm
theorem Post.drewN {P : Program} [Gl P] {base : Nat} {E : Env} {h h' : Heap} {w w1 : World} (n : Nat) (p : Post P base E h (w.drewN n) E h' w1) : Post P base E h w E h' w1 :=
  ⟨p.ext, p.dom, p.rel, ⟨p.fr.os, p.fr.tape, p.fr.output, p.fr.size, p.fr.blk, Nat.le_trans (Nat.le_add_right _ _) p.fr.drawn⟩, p.orig⟩
theorem VR.func_inv {E : Env} {fn : Fn} {f c : Array Value} {x : Value} (h : VR E (.func fn f c) x) (hf : f.size = 0) (hc : c.size = 0) : x = .func fn #[] #[] := by
  cases h with
  | func h1 _ h2 _ =>
    rw [hf] at h1
    rw [hc] at h2
    congr 1
    · exact Array.eq_empty_of_size_eq_zero h1.symm
    · exact Array.eq_empty_of_size_eq_zero h2.symm
theorem enters_order : ∀ args w, (callFunc 55 args).run Tryd.prog w = .ok (.enter 55 args) w := enters_of Tryd.func55 (by kernel_rfl) rfl
theorem aggE : ∀ w, (isAgg 68).run Tryd.prog w = .ok true w := fun w => by simpa using run_isAggT (P := Tryd.prog) (t := 68) (b := true) (by kernel_rfl) w
theorem sizE : ∀ w, (Go.sizeOf 68).run Tryd.prog w = .ok 3 w := fun w => run_sizeT (P := Tryd.prog) (t := 68) (by kernel_rfl) w
theorem pdq_size (l : List E3) : (pdq (ltOf cmpE) l.toArray 0 l.toArray.size (Lib.bitLen l.toArray.size) true true).size = l.length := by
  have h := pdq_sorts (ltOf cmpE) swo l.toArray 0 l.toArray.size (Lib.bitLen l.toArray.size) true true (Nat.zero_le _) (Nat.le_refl _) (Or.inl rfl)
  rw [h.1.1]; simp
theorem sort_sound (base : Nat) (args : Array Value) (h : Heap) (v : Value) (h' : Heap) (E : Env) (w : World) (args' : Array Value) (hv : sortX 55 args h = some (v, h')) (hR : Rel Tryd.prog base E h w) (ha : ARel E args args') :
    Calls Tryd.prog 73 args' w fun e w' => ∃ v' E', e = .returned v' ∧ Post Tryd.prog base E h w E' h' w' ∧ VR E' v v' := by
  have two : ∀ x y, args.toList = [x, y] → ∃ x' y', args' = #[x', y'] ∧ VR E x x' ∧ VR E y y' := fun x y he => by
    have hl := ha.list
    rw [he] at hl
    obtain ⟨x', h1, r1⟩ := hl.2 0 x rfl
    obtain ⟨y', h2, r2⟩ := hl.2 1 y rfl
    have h3 := hl.1
    refine ⟨x', y', ?_, r1, r2⟩
    obtain ⟨l⟩ := args'
    match l, h3, h1, h2 with
    | [a, b], _, h1, h2 => cases h1; cases h2; rfl
  unfold sortX at hv
  split at hv
  · rename_i ad n c f x y he
    split at hv
    · rename_i hc
      obtain ⟨rfl, hx, hy, hn2⟩ := hc
      split at hv
      · rename_i hn0
        subst hn0
        cases hv
        obtain ⟨x', y', rfl, r1, r2⟩ := two _ _ he
        rw [r2.func_inv hx hy]
        have : ∃ p' c', x' = .slice p' 0 c' := by cases r1 <;> exact ⟨_, _, rfl⟩
        obtain ⟨p', c', rfl⟩ := this
        exact (AnyF.slices_SortFunc_none srtLay p' c' _ w).mono fun e w' ⟨h1, h2⟩ => ⟨_, E, h1, by rw [h2]; exact Post.refl hR, VR.undef⟩
      · rename_i hn0
        have hn : 0 < n := Nat.pos_of_ne_zero hn0
        split at hv
        · rename_i b o
          split at hv
          · rename_i cs hcs
            split at hv
            · rename_i l hl
              obtain ⟨h1, hs, hq⟩ := Option.map_eq_some_iff.1 hv
              cases hq
              obtain ⟨x', y', rfl, r1, r2⟩ := two _ _ he
              rw [r2.func_inv hx hy]
              have hcse := e3Of_inv _ _ hl
              subst hcse
              have hlen := loadN_len hcs
              rw [entL_len] at hlen
              have hln : l.length = n := by omega
              cases r1 with
              | sliceEmpty => omega
              | @slice _ _ _ _ c' l0 hE _ _ _ =>
                have hst : ∃ cs0 ty, h.blks[b]? = some ⟨.cells cs0, ty, true⟩ ∧ o + n * 3 ≤ cs0.length := by
                  unfold Heap.storeN at hs
                  split at hs
                  · rename_i cs0 ty hk
                    refine ⟨cs0, ty, hk, ?_⟩
                    unfold Heap.loadN Heap.cells? at hcs
                    rw [hk] at hcs
                    simp only at hcs
                    split at hcs
                    · assumption
                    · cases hcs
                  · cases hs
                obtain ⟨cs0, ty, hk, hle⟩ := hst
                obtain ⟨oc, oe, lo, hi, hheap, hsz, _, hfz⟩ := (hR.blk b _ l0 hk hE).2.2 rfl
                obtain ⟨cs', hLr, hcell⟩ := loadN_read hR hcs hE
                have hcell' : ∀ (j : Nat) v, (entL l)[j]? = some v → w.cell? ⟨l0.cb, l0.s + o + j, none⟩ = some v := fun j v hj => by
                  obtain ⟨v', h2, h3⟩ := hLr.2 j v hj
                  have hg : ground v = true := by
                    have : ∀ (l : List E3) (j : Nat) v, (entL l)[j]? = some v → ground v = true := by
                      intro l
                      induction l with
                      | nil => intro j v h; simp [entL] at h
                      | cons e l ih =>
                        intro j v h
                        match j, h with
                        | 0, h => cases h; rfl
                        | 1, h => cases h; rfl
                        | 2, h => cases h; rfl
                        | j + 3, h => exact ih j v h
                    exact this l j v hj
                  rw [h3.ground_eq hg] at h2
                  rw [Nat.add_assoc]
                  exact hcell j v h2
                have hH : HoldsK entC 3 w l0.cb (l0.s + o) l.toArray := fun j hj => by
                  have hj' : j < (entL l).length := by rw [entL_len]; simpa using hj
                  have e1 : (flatK entC 3 l.toArray)[j]! = (entL l)[j] := by
                    rw [← getElem!_pos (entL l) j hj', ← flatK_ent l]; simp [getElem!_def]
                  have h2 := hcell' j _ (List.getElem?_eq_getElem hj')
                  refine ⟨by rw [h2]; simp only [id]; rw [e1], ?_⟩
                  have hlt : l0.s + o + j < oc.size := by
                    simp only [World.cell?, hheap] at h2
                    have := (Array.getElem?_eq_some_iff.1 (by simpa using h2)).1
                    exact this
                  simp only [World.frozen?, hheap]
                  simp
                  omega
                have hlt : l0.cb < w.heap.size := hR.bnd b l0 hE
                have hcon := AnyQ.slices_SortFunc_eq srtLay 3 aggE sizE entC (fun _ => rfl) (fun x v hv => by simp [entC] at hv; rcases hv with rfl | rfl | rfl <;> rfl) cmpE swo 55 #[] l0.cb (l0.s + o) c' l.toArray w enters_order (cmp_lays _ _ _ _) hH hlt (by simp; omega)
                rw [show l.toArray.size = n by simpa using hln] at hcon
                refine hcon.mono ?_
                rintro e w' ⟨h2, m, os, h3⟩
                refine ⟨_, E, h2, ?_, VR.undef⟩
                have hRn : Rel Tryd.prog base E h (w.drewN m) := Rel.drawn hR _
                have hHn : HoldsK entC 3 (w.drewN m) l0.cb (l0.s + o) l.toArray := hH
                obtain ⟨w2, hw2, hp2⟩ := storeN_run hRn hs hE (vs' := entL (srtE l)) ⟨rfl, fun i v hv => ⟨v, hv, by
                  have : ∀ (l : List E3) (j : Nat) v, (entL l)[j]? = some v → ground v = true := by
                    intro l
                    induction l with
                    | nil => intro j v h; simp [entL] at h
                    | cons e l ih =>
                      intro j v h
                      match j, h with
                      | 0, h => cases h; rfl
                      | 1, h => cases h; rfl
                      | 2, h => cases h; rfl
                      | j + 3, h => exact ih j v h
                  exact VR.of_ground (this _ i v hv)⟩⟩ (entL_one _)
                have hds : (pdq (ltOf cmpE) l.toArray 0 l.toArray.size (Lib.bitLen l.toArray.size) true true).size = l.length := pdq_size l
                have e2 := setCells_sort hHn (pdq (ltOf cmpE) l.toArray 0 l.toArray.size (Lib.bitLen l.toArray.size) true true) hds
                have hrun := stores_of_holds Tryd.prog hHn 0 (entL (srtE l)) (by rw [entL_len, size_flatK]; unfold srtE; rw [Array.length_toList]; exact Nat.le_of_eq (by rw [show (pdq (fun x y : E3 => decide (cmpE x y < 0)) l.toArray 0 l.toArray.size (Lib.bitLen l.toArray.size) true true).size = l.length from hds]; simp)) (fun v hv => by
                  have := List.all_eq_true.1 (entL_one (srtE l)) v hv
                  exact this)
                rw [Nat.add_zero] at hrun
                rw [show (storeCells ⟨l0.cb, l0.s + o, none⟩ (entL (srtE l))).run Tryd.prog (w.drewN m) = Sem.run Tryd.prog (storeCells ⟨l0.cb, l0.s + o, none⟩ (entL (srtE l)) 0) (w.drewN m) from rfl, hrun] at hw2
                cases hw2
                have e3 : w' = grow ((w.drewN m).setCells l0.cb (l0.s + o) (entL (srtE l))) os := by
                  rw [h3]
                  unfold sortWorldK
                  congr 1
                  rw [show n = l.toArray.size by simpa using hln.symm]
                  exact e2.symm
                rw [e3]
                exact (hp2.drewN m).grown os
            · cases hv
          · cases hv
        · cases hv
    · cases hv
  · cases hv
def tzRen : Go.Shelf.Ren := ⟨fun | 29 => 60 | n => n, fun | 0 => 0 | 3 => 3 | 4 => 4 | 5 => 5 | 22 => 23 | 25 => 57 | 54 => 144 | n => n, fun | 1 => 0 | n => n⟩
theorem tzLay : Go.Proofs.Lays7.n29 Tryd.prog tzRen := { mixed := by kernel_rfl, f29 := Tryd.func60.trans (congrArg some (by kernel_rfl)), t0 := Tryd.underlying0, a0 := Tryd.isAgg0, z0 := Tryd.sizeOf0, v0 := Tryd.zeroValue0, i0 := by kernel_rfl, t3 := Tryd.underlying3, a3 := Tryd.isAgg3, z3 := Tryd.sizeOf3, v3 := Tryd.zeroValue3, i3 := by kernel_rfl, t4 := Tryd.underlying4, a4 := Tryd.isAgg4, z4 := Tryd.sizeOf4, v4 := Tryd.zeroValue4, i4 := by kernel_rfl, t5 := Tryd.underlying5, a5 := Tryd.isAgg5, z5 := Tryd.sizeOf5, v5 := Tryd.zeroValue5, i5 := by kernel_rfl, t22 := Tryd.underlying23, a22 := Tryd.isAgg23, z22 := Tryd.sizeOf23, v22 := Tryd.zeroValue23, i22 := by kernel_rfl, t25 := Tryd.underlying57, a25 := Tryd.isAgg57, z25 := Tryd.sizeOf57, v25 := Tryd.zeroValue57, i25 := by kernel_rfl, t54 := Tryd.underlying144, a54 := Tryd.isAgg144, z54 := Tryd.sizeOf144, g1 := by kernel_rfl }
theorem tz_sound (base : Nat) (args : Array Value) (h : Heap) (v : Value) (h' : Heap) (E : Env) (w : World) (args' : Array Value) (hv : tzX args h = some (v, h')) (hR : Rel Tryd.prog base E h w) (ha : ARel E args args') :
    Calls Tryd.prog 60 args' w fun e w' => ∃ v' E', e = .returned v' ∧ Post Tryd.prog base E h w E' h' w' ∧ VR E' v v' := by
  obtain ⟨n, hn, h0, h1, rfl, rfl⟩ := tzX_h hv
  have hl := ha.list
  rw [hn] at hl
  obtain ⟨x', g1, r1⟩ := hl.2 0 _ rfl
  have h3 := hl.1
  have hargs : args' = #[.int .u64 n] := by
    obtain ⟨l⟩ := args'
    match l, h3, g1 with
    | [a], _, g1 => cases g1; cases r1; rfl
  subst hargs
  obtain ⟨k, rfl⟩ : ∃ k : Nat, n = k := ⟨n.toNat, by omega⟩
  have hT : TabAt (tzRen.g 1) Lib.deBruijn64tab w := fun j hj => by
    obtain ⟨_, gl⟩ := hR.glob 0 _ rfl
    have := gl j (.int .u8 (Lib.deBruijn64tab.getD j 0 : Nat)) (by rw [List.getElem?_map, List.getElem?_eq_getElem hj, List.getD_eq_getElem?_getD, List.getElem?_eq_getElem hj]; rfl)
    exact this
  refine (Any7.bits_TrailingZeros64 tzLay k (by omega) w fun _ => hT).mono ?_
  rintro e w' ⟨rfl, rfl⟩
  exact ⟨_, E, rfl, Post.refl hR, .int _ _⟩
instance : XtOk Tryd.prog := ⟨fun f g hX args h v h' hv => by
    rcases xt_inv hX with ⟨_, rfl⟩ | ⟨_, rfl⟩ | ⟨_, rfl⟩
    · exact sortX_grow _ _ _ _ _ hv
    · obtain ⟨_, _, _, _, _, rfl⟩ := tzX_h hv; exact Grow.refl _
    · exact insX_grow _ _ _ _ hv,
  fun base f g hX args h v h' E w args' hv hR ha hf => by
    rcases xt_inv hX with ⟨rfl, rfl⟩ | ⟨rfl, rfl⟩ | ⟨rfl, rfl⟩
    · exact sort_sound base args h v h' E w args' hv hR ha
    · exact tz_sound base args h v h' E w args' hv hR ha
    · exact ins_sound base args h v h' E w args' hv hR ha hf⟩

end Go.Am
