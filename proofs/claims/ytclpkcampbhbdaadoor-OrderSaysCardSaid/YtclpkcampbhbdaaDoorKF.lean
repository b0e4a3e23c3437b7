/- What the functions answer, in the machine. -/
import Derived.Test.YtclpkcampbhbdaaDoorKE
import Derived.Shelf.SlSortCmp.NoneTotal
import Derived.Shelf.Spec.TrailingZeros
set_option linter.all false
namespace Go.Am
open Go.Proofs
set_option maxRecDepth 100000
set_option linter.all false
attribute [local congr] obind_congr obH_congr cnd_congr chk_congr retK_congr codeK_congr
variable {L : Nat} {h h' : Heap} {p : Nat} {n me : Int} {rv gv : Value} {m : List (List Nat)} {g : List Nat}
def toE (n me : Int) (to : Nat) : Nat := to &&& (allN n.toNat &&& (2 ^ 64 - 1 - 2 ^ me.toNat))
theorem toE_lt (n me : Int) (to : Nat) (h : to < 2 ^ 64) : toE n me to < 2 ^ 64 := andLtU h
theorem goodM_small {n : Int} {m : List (List Nat)} (g : goodM n m = true) : Small m := Small.good g
theorem send_loop {L : Nat} {p : Nat} {n me : Int} {rv gv : Value} {m : List (List Nat)} {g : List Nat} (ok : EnOk n me m g) {h0 : Heap} (hL : L ≤ h0.blks.length) (E0 : EnC L h0 p n me rv gv m g) (t : Nat) (tt : t < 128) {to : Nat} (hto : to < 2 ^ 64) : ∀ (mm i : Nat) (h : Heap) (v : Value), t = i + mm → EnC L h p n me rv gv m g → ABs h0.blks.length h v (List.replicate i (stampM n m)) → In h0.blks.length (Just p) (nm h0) h → 
    ∀ (Ac Ad Ae Ag Ah Ai Aj Ak Al An Ao Ap Aq Ar As Au Av Aw Az Ba Bb Bc Bd Be Bf Bg Bh Bi Bj Bk Bl Bm Bn Bo Bp Bq Br Bs Bt Bu Bv Bw : Value),
    ∃ v' h', loopK Tryd.prog (evC Tryd.prog) c13_1 ⟨#[.pointer (some ⟨p, 0, none⟩), .int .u64 to,Ac,Ad,Ae, v,Ag,Ah,Ai,Aj,Ak,Al,An,Ao,Ap,Aq,Ar,As,Au,Av,Aw, .int .i64 t, .int .i64 i,Az,Ba,Bb,Bc,Bd,Be,Bf,Bg,Bh,Bi,Bj,Bk,Bl,Bm,Bn,Bo,Bp,Bq,Br,Bs,Bt,Bu,Bv,Bw], h⟩ (blockK 0 (seqK Tryd.prog (evC Tryd.prog) c13_2 (retK Tryd.f13 Tryd.prog h0))) =
      some (v', h') ∧ HMod (Just p) h0 h' ∧ En L h' p n me (upM n m me to) g ∧ ABs h0.blks.length h' v' (List.replicate t (stampM n m)) := by
  intro mm
  induction mm with
  | zero =>
    intro i h v hi E A hin Ac Ad Ae Ag Ah Ai Aj Ak Al An Ao Ap Aq Ar As Au Av Aw Az Ba Bb Bc Bd Be Bf Bg Bh Bi Bj Bk Bl Bm Bn Bo Bp Bq Br Bs Bt Bu Bv Bw
    obtain rfl : t = i := by omega
    rw [loopK_eq evC_m, c13_1_eq]
    obtain ⟨uv, h2, e2,Ac, a2⟩ := spec_MUp E.am.smV (goodM_small ok.gd) ok.m64 me to hto (n := n)
    obtain ⟨ua, uc, rfl⟩ := a2.shape
    have E2 := E.ext Ac
    have hl := hin.len
    have hl' : h0.blks.length ≤ h.blks.length := hl
    have st := storeN_blk E2.c (o := 2) (vs := [.int .i64 n, .slice ua (upM n m me to).length uc]) (by simp)
    rw [show List.take 2 [Value.int .i64 n, .int .i64 me, .int .i64 n, rv, gv] ++ [Value.int .i64 n, .slice ua (upM n m me to).length uc] ++ List.drop (2 + [Value.int .i64 n, .slice ua (upM n m me to).length uc].length) [Value.int .i64 n, .int .i64 me, .int .i64 n, rv, gv] = [.int .i64 n, .int .i64 me, .int .i64 n, .slice ua (upM n m me to).length uc, gv] from rfl] at st
    simp -implicitDefEqProofs (disch := omega) only [dcT, dcF, ↓c13_2_eq, faFE2, E.ldm, faFE1, mldInt, E.l1, e2, stMo, st, ↓ret13, ↓cnd_true, ↓cnd_false, ↓Option.bind_some, ↓obH_some', bin_add, bin_sub, bin_mul, bin_lss, bin_leq, bin_gtr, bin_geq, bin_eql, bin_neq, un_not, un_neg, Option.bind_some, Option.bind_none, Option.map_some, cnd_true, cnd_false, pickV_true, pickV_false, gd_true, gd_false, gdV_true, gdV_false, gdH_true, gdH_false, gdS_true, gdS_false, wt_ff, wt_tt, wt_ft, wt_tf, wt_undef, obH_some', extractV_tuple, nilCheckV_ptr, againK_normal, againK_exit, againK_ret, blockK_normal, blockK_same, blockK_ret, seqK_normal, seqK_exit, seqK_ret, fin_done, if_true', if_false', Bool.not_true, Bool.not_false, idx0, idx1, idx2, idx3, idx4, chk_nil_l, chk_nil_r, done_nm]
    have am3 := (a2.up (n1 := L) (by omega)).put E2.c (by decide) (by decide) (.cells [.int .i64 n, .int .i64 me, .int .i64 n, .slice ua (upM n m me to).length uc, gv])
    have au3 := E2.au.keep (h' := h2.put p (.cells [.int .i64 n, .int .i64 me, .int .i64 n, .slice ua (upM n m me to).length uc, gv])) fun b _ hv => Heap.put_other (fun e => by
      subst e
      obtain ⟨all, h1⟩ := E2.au.blk hv
      have c := E2.c
      unfold Cells at c
      rw [c] at h1
      simp only [Option.some.injEq, Blk.mk.injEq] at h1
      exact absurd h1.2.1 (by decide)) _
    exact ⟨_, _, rfl, done_mod ((hin.trans (Ac.inn hl)).trans (In.put (by have := Ac.len; simp only [nm_blks] at *; omega) (.inr (show Just p p from rfl)) _)),En.done ⟨_, _, ⟨E2.c.put _, am3, au3⟩⟩, ((A.same Ac.same).put E2.c (by decide) (by decide) _).same ⟨Nat.le_refl _, fun _ _ => rfl⟩⟩
  | succ mm ih =>
    intro i h v hi E A hin Ac Ad Ae Ag Ah Ai Aj Ak Al An Ao Ap Aq Ar As Au Av Aw Az Ba Bb Bc Bd Be Bf Bg Bh Bi Bj Bk Bl Bm Bn Bo Bp Bq Br Bs Bt Bu Bv Bw
    rw [loopK_eq evC_m, c13_1_eq]
    have hl := hin.len
    have hl' : h0.blks.length ≤ h.blks.length := hl
    obtain ⟨sa, sc, h2, e2,Ac, a2⟩ := spec_Stamp (n := n) E.am.smV (by have := (goodM_small ok.gd).1; omega) ok.m64
    obtain ⟨vs, A⟩ := A.same Ac.same
    have l2 := Ac.len
    obtain ⟨a3, c3, h3, e3, A3, k3, o3⟩ := A.app (by omega) (a2.up hl') (by simp; omega)
    rw [show List.replicate i (stampM n m) ++ [stampM n m] = List.replicate (i + 1) (stampM n m) from List.replicate_succ'.symm] at e3 A3
    have E3 := (E.ext Ac).kpT (by decide) (by decide) (by decide) o3
    have hw : IntKind.wrap .i64 ((i : Int) + 1) = ((i + 1 : Nat) : Int) := by rw [wrap_i64] <;> omega
    simp -implicitDefEqProofs (disch := omega) only [dcT, dcF, faFE2, E.ldm, e2, mkBs1, e3, hw, ↓cnd_true, ↓cnd_false, ↓Option.bind_some, ↓obH_some', bin_add, bin_sub, bin_mul, bin_lss, bin_leq, bin_gtr, bin_geq, bin_eql, bin_neq, un_not, un_neg, Option.bind_some, Option.bind_none, Option.map_some, cnd_true, cnd_false, pickV_true, pickV_false, gd_true, gd_false, gdV_true, gdV_false, gdH_true, gdH_false, gdS_true, gdS_false, wt_ff, wt_tt, wt_ft, wt_tf, wt_undef, obH_some', extractV_tuple, nilCheckV_ptr, againK_normal, againK_exit, againK_ret, blockK_normal, blockK_same, blockK_ret, seqK_normal, seqK_exit, seqK_ret, fin_done, if_true', if_false', Bool.not_true, Bool.not_false, idx0, idx1, idx2, idx3, idx4, chk_nil_l, chk_nil_r, done_nm]
    exact ih (i + 1) h3 _ (by omega) E3 A3 ((hin.trans (Ac.inn hl)).trans (k3.inn)) _ _ _ _ _ _ _ _ _ _ _ _ _ _ _ _ _ _ _ _ _ _ _ _ _ _ _ _ _ _ _ _ _ _ _ _ _ _ _ _ _ _
theorem spec_ESend (E : En L h p n me m g) (hL : L ≤ h.blks.length) (ok : EnOk n me m g) (to : Nat) (hto : to < 2 ^ 64) :
    ∃ v' h', evC Tryd.prog 13 #[.pointer (some ⟨p, 0, none⟩), .int .u64 to] h = some (v', h') ∧ HMod (Just p) h h' ∧ En L h' p n me (upM n m me (toE n me to)) g ∧ ABs h.blks.length h' v' (List.replicate (pop (toE n me to)) (stampM n m)) := by
  rw [call13, c13_0_eq]
  obtain ⟨rv, gv, E⟩ := E
  have E0 := E.same (h' := nm h) ⟨Nat.le_refl _, fun _ _ => rfl⟩
  have hg := (goodM_iff n m).1 ok.gd
  have h0 := ok.me0
  have h1 := ok.men
  obtain ⟨nn, rfl⟩ : ∃ k : Nat, n = k := ⟨n.toNat, by omega⟩
  obtain ⟨mk, rfl⟩ : ∃ k : Nat, me = k := ⟨me.toNat, by omega⟩
  have e1 := fun h => spec_All nn (by omega) h
  have am1 : am (nm (nm h)) (nm h) = nm h := rfl
  have e3 := mkI1Q .i64 mk (nm h)
  have si := litI1 (nm h) mk
  have s3 := Same.new (nm h) (.cells [.int .i64 mk]) 3
  have i3 : In h.blks.length (Just p) (nm h) _ := In.new (by simp) (.cells [.int .i64 mk]) 3
  generalize (nm h).new (.cells [.int .i64 mk]) 3 = g3 at *
  have e4 := spec_Of si (by simp)
  have h2 : 2 ^ mk < 2 ^ 64 := Nat.pow_lt_pow_right (by omega) (by omega)
  rw [show ofL [(mk : Int)] = 2 ^ mk by
    show or1 0 mk = 2 ^ mk
    unfold or1
    rw [if_pos (by omega), Int.toNat_natCast, Nat.zero_or]] at e4
  have ha : allN nn < 2 ^ 64 := by unfold allN; have : 2 ^ nn < 2 ^ 64 := Nat.pow_lt_pow_right (by omega) (by omega); omega
  have e5 := fun t xo yo => andNotN t xo yo (allN nn) (2 ^ mk) ha h2
  have e6 := fun t xo yo => andNu t xo yo to (allN nn &&& (2 ^ 64 - 1 - 2 ^ mk)) hto (andLtU ha)
  rw [show to &&& (allN nn &&& (2 ^ 64 - 1 - 2 ^ mk)) = toE nn mk to by unfold toE; simp] at e6
  have ht := toE_lt nn mk to hto
  have e7 := fun h => spec_Count (toE nn mk to) ht h
  have main := send_loop ok hL E (pop (toE nn mk to)) (pop_lt _) ht _ 0 g3 (.slice none 0 0) (Nat.zero_add _).symm (E0.same s3) ⟨[], .nil, .nil⟩ i3
  rw [show ((0 : Nat) : Int) = 0 from rfl] at main
  simp -implicitDefEqProofs (disch := omega) only [faFE0, mldInt, E0.l0, e1, am1, nmm, faFE1, E0.l1, e3, e4, e5, e6, e7, List.append_nil, ↓cnd_true, ↓cnd_false, ↓Option.bind_some, ↓obH_some', bin_add, bin_sub, bin_mul, bin_lss, bin_leq, bin_gtr, bin_geq, bin_eql, bin_neq, un_not, un_neg, Option.bind_some, Option.bind_none, Option.map_some, cnd_true, cnd_false, pickV_true, pickV_false, gd_true, gd_false, gdV_true, gdV_false, gdH_true, gdH_false, gdS_true, gdS_false, wt_ff, wt_tt, wt_ft, wt_tf, wt_undef, obH_some', extractV_tuple, nilCheckV_ptr, againK_normal, againK_exit, againK_ret, blockK_normal, blockK_same, blockK_ret, seqK_normal, seqK_exit, seqK_ret, fin_done, if_true', if_false', Bool.not_true, Bool.not_false, idx0, idx1, idx2, idx3, idx4, chk_nil_l, chk_nil_r, done_nm]
  exact main _ _ _ _ _ _ _ _ _ _ _ _ _ _ _ _ _ _ _ _ _ _ _ _ _ _ _ _ _ _ _ _ _ _ _ _ _ _ _ _ _ _
end Go.Am
namespace Go.Am
open Go.Proofs
set_option maxRecDepth 100000
attribute [local congr] obind_congr obH_congr cnd_congr chk_congr retK_congr codeK_congr
end Go.Am
namespace Go.Am
open Go.Proofs
set_option maxRecDepth 100000
set_option linter.all false
attribute [local congr] obind_congr obH_congr cnd_congr chk_congr retK_congr codeK_congr
end Go.Am
namespace Go.Am
open Go.Proofs
set_option maxRecDepth 100000
set_option linter.all false
attribute [local congr] obind_congr obH_congr cnd_congr chk_congr retK_congr codeK_congr
end Go.Am
namespace Go.Am
open Go.Proofs
set_option maxRecDepth 100000
set_option linter.all false
attribute [local congr] obind_congr obH_congr cnd_congr chk_congr retK_congr codeK_congr
variable {L : Nat} {h h' : Heap} {p : Nat} {n me : Int} {rv gv : Value} {m : List (List Nat)} {g : List Nat}
def canCol (g col : List Nat) : Bool := (List.range col.length).all fun k => decide (col.getD k 0 ≤ g.getD k 0)
def canColF (g col : List Nat) (i : Nat) : Bool := (List.range' i (col.length - i)).all fun k => decide (col.getD k 0 ≤ g.getD k 0)
def canFE (n me : Int) (g : List Nat) (from' : Int) (bs : List UInt8) : Bool := match readM n bs with
  | none => false
  | some r => decide (0 ≤ from' ∧ from' < n ∧ from' ≠ me) && canCol g (columnM n r me)
theorem canColF_zero (g col : List Nat) : canColF g col 0 = canCol g col := by unfold canColF canCol; rw [Nat.sub_zero, List.range_eq_range']
theorem canColF_end (g col : List Nat) : canColF g col col.length = true := by unfold canColF; rw [Nat.sub_self]; rfl
theorem canColF_step (g col : List Nat) {i : Nat} (hi : i < col.length) : canColF g col i = (decide (col.getD i 0 ≤ g.getD i 0) && canColF g col (i + 1)) := by
  unfold canColF
  rw [show col.length - i = (col.length - (i + 1)) + 1 by omega, List.range'_succ]; rfl
theorem can_loop {h0 h : Heap} {p : Nat} {cv : Value} {col : List Nat} (E : EnC L h p n me rv gv m g) (sc : SU h cv col) (hc : col.length ≤ g.length) (hl : g.length ≤ 16) : ∀ (mm i : Nat), col.length = i + mm → ∀ (Ab Ac Ad Ae Af Ag Ah Ai Aj Ak Al An Ao Ap Aq Ar As Au Av Aw Ax Ay Az Ba Bb Bc Bd Be Bf Bg Bh Bi Bj Bk Bl Bm Bn Bo Bp Bq Br Bs Bt Bu Bv Bw Bx By Cc Cd Ce Cf Cg Ch Ci Cj Ck Cl Cm Cn Co Cp : Value),
    loopK Tryd.prog (evC Tryd.prog) c15_1 ⟨#[.pointer (some ⟨p, 0, none⟩),Ab,Ac,Ad,Ae,Af,Ag,Ah,Ai,Aj,Ak,Al,An,Ao,Ap,Aq,Ar,As,Au,Av,Aw,Ax,Ay,Az,Ba,Bb,Bc,Bd,Be,Bf,Bg,Bh,Bi,Bj,Bk,Bl,Bm,Bn,Bo,Bp,Bq,Br,Bs,Bt,Bu,Bv,Bw,Bx,By, cv, .int .i64 col.length, .int .i64 i,Cc,Cd,Ce,Cf,Cg,Ch,Ci,Cj,Ck,Cl,Cm,Cn,Co,Cp], h⟩ (blockK 0 (seqK Tryd.prog (evC Tryd.prog) c15_2 (retK Tryd.f15 Tryd.prog h0))) =
      some (.bool (canColF g col i), done h0 h) := by
  intro mm
  induction mm with
  | zero =>
    intro i hi Ab Ac Ad Ae Af Ag Ah Ai Aj Ak Al An Ao Ap Aq Ar As Au Av Aw Ax Ay Az Ba Bb Bc Bd Be Bf Bg Bh Bi Bj Bk Bl Bm Bn Bo Bp Bq Br Bs Bt Bu Bv Bw Bx By Cc Cd Ce Cf Cg Ch Ci Cj Ck Cl Cm Cn Co Cp
    rw [loopK_eq evC_m, c15_1_eq]
    rw [show i = col.length by omega, canColF_end]
    simp -implicitDefEqProofs (disch := omega) only [dcT, dcF, ↓c15_2_eq, ↓ret15, ↓cnd_true, ↓cnd_false, ↓Option.bind_some, ↓obH_some', bin_add, bin_sub, bin_mul, bin_lss, bin_leq, bin_gtr, bin_geq, bin_eql, bin_neq, un_not, un_neg, Option.bind_some, Option.bind_none, Option.map_some, cnd_true, cnd_false, pickV_true, pickV_false, gd_true, gd_false, gdV_true, gdV_false, gdH_true, gdH_false, gdS_true, gdS_false, wt_ff, wt_tt, wt_ft, wt_tf, wt_undef, obH_some', extractV_tuple, nilCheckV_ptr, againK_normal, againK_exit, againK_ret, blockK_normal, blockK_same, blockK_ret, seqK_normal, seqK_exit, seqK_ret, fin_done, if_true', if_false', Bool.not_true, Bool.not_false, idx0, idx1, idx2, idx3, idx4, chk_nil_l, chk_nil_r, done_nm]
  | succ mm ih =>
    intro i hi Ab Ac Ad Ae Af Ag Ah Ai Aj Ak Al An Ao Ap Aq Ar As Au Av Aw Ax Ay Az Ba Bb Bc Bd Be Bf Bg Bh Bi Bj Bk Bl Bm Bn Bo Bp Bq Br Bs Bt Bu Bv Bw Bx By Cc Cd Ce Cf Cg Ch Ci Cj Ck Cl Cm Cn Co Cp
    rw [loopK_eq evC_m, c15_1_eq]
    obtain ⟨a1, e1, e2⟩ := su_at sc etV.under (i := i) (by omega)
    obtain ⟨a3, e3, e4⟩ := su_at E.au.su etV.under (i := i) (by omega)
    have hw : IntKind.wrap .i64 ((i : Int) + 1) = ((i + 1 : Nat) : Int) := by rw [wrap_i64] <;> omega
    rw [canColF_step g col (by omega)]
    by_cases hlt : g.getD i 0 < col.getD i 0
    · rw [decide_eq_false (by omega), Bool.false_and]
      simp -implicitDefEqProofs (disch := omega) only [dcT, dcF, e1, e2, faFE3, ldVv, E.l4, e3, e4, ↓ret15, ↓cnd_true, ↓cnd_false, ↓Option.bind_some, ↓obH_some', bin_add, bin_sub, bin_mul, bin_lss, bin_leq, bin_gtr, bin_geq, bin_eql, bin_neq, un_not, un_neg, Option.bind_some, Option.bind_none, Option.map_some, cnd_true, cnd_false, pickV_true, pickV_false, gd_true, gd_false, gdV_true, gdV_false, gdH_true, gdH_false, gdS_true, gdS_false, wt_ff, wt_tt, wt_ft, wt_tf, wt_undef, obH_some', extractV_tuple, nilCheckV_ptr, againK_normal, againK_exit, againK_ret, blockK_normal, blockK_same, blockK_ret, seqK_normal, seqK_exit, seqK_ret, fin_done, if_true', if_false', Bool.not_true, Bool.not_false, idx0, idx1, idx2, idx3, idx4, chk_nil_l, chk_nil_r, done_nm]
    · rw [decide_eq_true (show col.getD i 0 ≤ g.getD i 0 by omega), Bool.true_and]
      simp -implicitDefEqProofs (disch := omega) only [dcT, dcF, e1, e2, faFE3, ldVv, E.l4, e3, e4, hw, ↓cnd_true, ↓cnd_false, ↓Option.bind_some, ↓obH_some', bin_add, bin_sub, bin_mul, bin_lss, bin_leq, bin_gtr, bin_geq, bin_eql, bin_neq, un_not, un_neg, Option.bind_some, Option.bind_none, Option.map_some, cnd_true, cnd_false, pickV_true, pickV_false, gd_true, gd_false, gdV_true, gdV_false, gdH_true, gdH_false, gdS_true, gdS_false, wt_ff, wt_tt, wt_ft, wt_tf, wt_undef, obH_some', extractV_tuple, nilCheckV_ptr, againK_normal, againK_exit, againK_ret, blockK_normal, blockK_same, blockK_ret, seqK_normal, seqK_exit, seqK_ret, fin_done, if_true', if_false', Bool.not_true, Bool.not_false, idx0, idx1, idx2, idx3, idx4, chk_nil_l, chk_nil_r, done_nm]
      exact ih (i + 1) (by omega) _ _ _ _ _ _ _ _ _ _ _ _ _ _ _ _ _ _ _ _ _ _ _ _ _ _ _ _ _ _ _ _ _ _ _ _ _ _ _ _ _ _ _ _ _ _ _ _ _ _ _ _ _ _ _ _ _ _ _ _ _ _
theorem columnM_len {n me : Int} {r : List (List Nat)} (gd : goodM n r = true) : (columnM n r me).length ≤ r.length := by
  unfold columnM
  split
  · simp [colM]
  · simp
theorem spec_ECan (E : En L h p n me m g) (ok : EnOk n me m g) (from' : Int) (num : Nat) {b : Value} {bs : List UInt8} (sb : SB h b bs) (hb : bs.length < 2 ^ 38) :
    ∃ h', evC Tryd.prog 15 #[.pointer (some ⟨p, 0, none⟩), .int .i64 from', .int .u64 num, b] h = some (.bool (canFE n me g from' bs), h') ∧ HExt h h' := by
  rw [call15, c15_0_eq]
  obtain ⟨rv, gv, E⟩ := E
  have E0 := E.same (h' := nm h) ⟨Nat.le_refl _, fun _ _ => rfl⟩
  obtain ⟨wv, h2, e2,Ac, a2⟩ := spec_Read (n := n) (b := b) (bs := bs) sb.nm hb
  have i2 : In h.blks.length No (nm h) h2 := Ac.inn (Nat.le_refl _)
  obtain ⟨wa, wc, rfl⟩ := a2.shape
  have k3 := alM h2
  have k3' := mvar (h := h2) (readV n (readM n bs)) wa ((readM n bs).getD []).length wc
  have c3 := mvar_cells h2 [.int .i64 0, .slice none 0 0] [.int .i64 (readV n (readM n bs)), .slice wa ((readM n bs).getD []).length wc] 89
  have s3 := mvar_same h2 (.cells [.int .i64 0, .slice none 0 0]) (.cells [.int .i64 (readV n (readM n bs)), .slice wa ((readM n bs).getD []).length wc]) 89
  have i3 := i2.trans (mvar_in (h := h2) i2.len (.cells [.int .i64 0, .slice none 0 0]) (.cells [.int .i64 (readV n (readM n bs)), .slice wa ((readM n bs).getD []).length wc]) 89)
  generalize (h2.new (.cells [.int .i64 0, .slice none 0 0]) 89).put h2.blks.length (.cells [.int .i64 (readV n (readM n bs)), .slice wa ((readM n bs).getD []).length wc]) = h3 at *
  have E3 := E.same i3.same0
  have m3 := a2.smV.same s3
  cases hr : readM n bs with
  | none =>
    rw [hr] at e2
    rw [hr] at k3'
    rw [show (none : Option (List (List Nat))).isSome = false from rfl] at e2
    have ec : canFE n me g from' bs = false := by unfold canFE; rw [hr]
    rw [ec]
    simp -implicitDefEqProofs (disch := omega) only [dcT, dcF, faFE0, mldInt, E0.l0, e2, k3, k3', ↓ret15, ↓cnd_true, ↓cnd_false, ↓Option.bind_some, ↓obH_some', bin_add, bin_sub, bin_mul, bin_lss, bin_leq, bin_gtr, bin_geq, bin_eql, bin_neq, un_not, un_neg, Option.bind_some, Option.bind_none, Option.map_some, cnd_true, cnd_false, pickV_true, pickV_false, gd_true, gd_false, gdV_true, gdV_false, gdH_true, gdH_false, gdS_true, gdS_false, wt_ff, wt_tt, wt_ft, wt_tf, wt_undef, obH_some', extractV_tuple, nilCheckV_ptr, againK_normal, againK_exit, againK_ret, blockK_normal, blockK_same, blockK_ret, seqK_normal, seqK_exit, seqK_ret, fin_done, if_true', if_false', Bool.not_true, Bool.not_false, idx0, idx1, idx2, idx3, idx4, chk_nil_l, chk_nil_r, done_nm]
    exact ⟨_, rfl, done_ext' i3⟩
  | some r =>
    have hg := readM_good hr
    rw [hr] at e2 k3' m3 c3
    rw [show (some r : Option (List (List Nat))).isSome = true from rfl, show readV n (some r) = n from rfl] at e2
    rw [show readV n (some r) = n from rfl] at k3' c3
    rw [show (some r).getD [] = r from rfl] at e2 k3' m3 c3
    have ec : canFE n me g from' bs = (decide (0 ≤ from' ∧ from' < n ∧ from' ≠ me) && canCol g (columnM n r me)) := by unfold canFE; rw [hr]
    rw [ec]
    by_cases h1 : 0 ≤ from'
    · by_cases h2 : from' < n
      · by_cases h3' : from' = me
        · rw [decide_eq_false (fun x => x.2.2 h3'), Bool.false_and]
          simp -implicitDefEqProofs (disch := omega) only [dcT, dcF, faFE0, faFE1, mldInt, E0.l0, e2, k3, k3', E3.l0, E3.l1, ↓ret15, ↓cnd_true, ↓cnd_false, ↓Option.bind_some, ↓obH_some', bin_add, bin_sub, bin_mul, bin_lss, bin_leq, bin_gtr, bin_geq, bin_eql, bin_neq, un_not, un_neg, Option.bind_some, Option.bind_none, Option.map_some, cnd_true, cnd_false, pickV_true, pickV_false, gd_true, gd_false, gdV_true, gdV_false, gdH_true, gdH_false, gdS_true, gdS_false, wt_ff, wt_tt, wt_ft, wt_tf, wt_undef, obH_some', extractV_tuple, nilCheckV_ptr, againK_normal, againK_exit, againK_ret, blockK_normal, blockK_same, blockK_ret, seqK_normal, seqK_exit, seqK_ret, fin_done, if_true', if_false', Bool.not_true, Bool.not_false, idx0, idx1, idx2, idx3, idx4, chk_nil_l, chk_nil_r, done_nm]
          exact ⟨_, rfl, done_ext' i3⟩
        · rw [decide_eq_true (show 0 ≤ from' ∧ from' < n ∧ from' ≠ me from ⟨h1, h2, h3'⟩), Bool.true_and]
          have hgi := (goodM_iff n r).1 hg.1
          obtain ⟨ca, cc, h5, e5,Af, a5⟩ := spec_Column (n := n) m3 (by have := hgi.1; omega) me
          have hlc := columnM_len (me := me) hg.1
          have := can_loop (h0 := h) (E3.ext Af) a5.su (by have := ok.gl; omega) (by have := ok.gl; omega) (columnM n r me).length 0 (by omega)
          rw [canColF_zero, show ((0 : Nat) : Int) = 0 from rfl] at this
          have ln := a5.su.row.len_eq etV.under
          simp -implicitDefEqProofs (disch := omega) only [dcT, dcF, faFE0, faFE1, mldInt, E0.l0, e2, k3, k3', E3.l0, E3.l1, ldM' c3, e5, ln, ↓cnd_true, ↓cnd_false, ↓Option.bind_some, ↓obH_some', bin_add, bin_sub, bin_mul, bin_lss, bin_leq, bin_gtr, bin_geq, bin_eql, bin_neq, un_not, un_neg, Option.bind_some, Option.bind_none, Option.map_some, cnd_true, cnd_false, pickV_true, pickV_false, gd_true, gd_false, gdV_true, gdV_false, gdH_true, gdH_false, gdS_true, gdS_false, wt_ff, wt_tt, wt_ft, wt_tf, wt_undef, obH_some', extractV_tuple, nilCheckV_ptr, againK_normal, againK_exit, againK_ret, blockK_normal, blockK_same, blockK_ret, seqK_normal, seqK_exit, seqK_ret, fin_done, if_true', if_false', Bool.not_true, Bool.not_false, idx0, idx1, idx2, idx3, idx4, chk_nil_l, chk_nil_r, done_nm]
          exact ⟨_, this _ _ _ _ _ _ _ _ _ _ _ _ _ _ _ _ _ _ _ _ _ _ _ _ _ _ _ _ _ _ _ _ _ _ _ _ _ _ _ _ _ _ _ _ _ _ _ _ _ _ _ _ _ _ _ _ _ _ _ _ _ _, done_ext' (i3.trans (Af.inn i3.len))⟩
      · rw [decide_eq_false (fun x => h2 x.2.1), Bool.false_and]
        simp -implicitDefEqProofs (disch := omega) only [dcT, dcF, faFE0, faFE1, mldInt, E0.l0, e2, k3, k3', E3.l0, E3.l1, ↓ret15, ↓cnd_true, ↓cnd_false, ↓Option.bind_some, ↓obH_some', bin_add, bin_sub, bin_mul, bin_lss, bin_leq, bin_gtr, bin_geq, bin_eql, bin_neq, un_not, un_neg, Option.bind_some, Option.bind_none, Option.map_some, cnd_true, cnd_false, pickV_true, pickV_false, gd_true, gd_false, gdV_true, gdV_false, gdH_true, gdH_false, gdS_true, gdS_false, wt_ff, wt_tt, wt_ft, wt_tf, wt_undef, obH_some', extractV_tuple, nilCheckV_ptr, againK_normal, againK_exit, againK_ret, blockK_normal, blockK_same, blockK_ret, seqK_normal, seqK_exit, seqK_ret, fin_done, if_true', if_false', Bool.not_true, Bool.not_false, idx0, idx1, idx2, idx3, idx4, chk_nil_l, chk_nil_r, done_nm]
        exact ⟨_, rfl, done_ext' i3⟩
    · rw [decide_eq_false (fun x => h1 x.1), Bool.false_and]
      simp -implicitDefEqProofs (disch := omega) only [dcT, dcF, faFE0, faFE1, mldInt, E0.l0, e2, k3, k3', E3.l0, E3.l1, ↓ret15, ↓cnd_true, ↓cnd_false, ↓Option.bind_some, ↓obH_some', bin_add, bin_sub, bin_mul, bin_lss, bin_leq, bin_gtr, bin_geq, bin_eql, bin_neq, un_not, un_neg, Option.bind_some, Option.bind_none, Option.map_some, cnd_true, cnd_false, pickV_true, pickV_false, gd_true, gd_false, gdV_true, gdV_false, gdH_true, gdH_false, gdS_true, gdS_false, wt_ff, wt_tt, wt_ft, wt_tf, wt_undef, obH_some', extractV_tuple, nilCheckV_ptr, againK_normal, againK_exit, againK_ret, blockK_normal, blockK_same, blockK_ret, seqK_normal, seqK_exit, seqK_ret, fin_done, if_true', if_false', Bool.not_true, Bool.not_false, idx0, idx1, idx2, idx3, idx4, chk_nil_l, chk_nil_r, done_nm]
      exact ⟨_, rfl, done_ext' i3⟩
theorem goodM_up {n : Int} {m : List (List Nat)} (gd : goodM n m = true) (i : Int) (to : Nat) : goodM n (upM n m i to) = true := by
  unfold upM
  split
  · rename_i hc
    have hg := (goodM_iff n m).1 gd
    refine (goodM_iff n _).2 ⟨⟨hg.1.1, hg.1.2.1, by rw [List.length_set]; exact hg.1.2.2⟩, fun r hr => ?_⟩
    rcases List.mem_or_eq_of_mem_set hr with h | rfl
    · exact hg.2 r h
    · rw [up1_len]; exact goodM_rows gd (by omega)
  · exact gd
def takeG (n me : Int) (g : List Nat) (from' : Int) (bs : List UInt8) : List Nat := if canFE n me g from' bs = true then (upV g from').1 else g
def takeM (n me : Int) (m : List (List Nat)) (g : List Nat) (from' : Int) (to : Nat) (bs : List UInt8) : List (List Nat) := if canFE n me g from' bs = true then joinM m (upM n ((readM n bs).getD []) from' to) else m
end Go.Am
namespace Go.Am
open Go.Proofs
set_option maxRecDepth 100000
set_option linter.all false
theorem mkIF (v : Value) : makeInterfaceV Tryd.prog 30 v = some (.iface 30 v) := by kernel_rfl
theorem mkIL (v : Value) : makeInterfaceV Tryd.prog 33 v = some (.iface 33 v) := by kernel_rfl
theorem invF (v a b c : Value) (h : Heap) : invokeV Tryd.prog (evC Tryd.prog) (.iface 30 v) "Can" #[a, b, c] h = evC Tryd.prog 15 #[v, a, b, c] h := by kernel_rfl
theorem invL (v a b c : Value) (h : Heap) : invokeV Tryd.prog (evC Tryd.prog) (.iface 33 v) "Can" #[a, b, c] h = evC Tryd.prog 16 #[v, a, b, c] h := by kernel_rfl
theorem invFS (v a : Value) (h : Heap) : invokeV Tryd.prog (evC Tryd.prog) (.iface 30 v) "Send" #[a] h = evC Tryd.prog 13 #[v, a] h := by kernel_rfl
theorem invLS (v a : Value) (h : Heap) : invokeV Tryd.prog (evC Tryd.prog) (.iface 33 v) "Send" #[a] h = evC Tryd.prog 12 #[v, a] h := by kernel_rfl
def okN (n me : Int) : Prop := 1 ≤ n ∧ n ≤ 16 ∧ 0 ≤ me ∧ me < n
theorem bad_of {n me : Int} (h : ¬ okN n me) : badNew n me := by unfold okN at h; unfold badNew; omega
theorem spec_fullNew (n me : Int) (hok : okN n me) (h : Heap) : ∃ q h', evC Tryd.prog 10 #[.int .i64 n, .int .i64 me] h = some (.tuple #[.pointer (some ⟨q, 0, none⟩), .int .i64 0], h') ∧ HExt h h' ∧ h.blks.length ≤ q ∧ En h.blks.length h' q n me (zerosM n.toNat) (List.replicate n.toNat 0) := by
  obtain ⟨q, g, e1,Ab, r1⟩ := spec_ENew n me h
  simp only [if_pos (show 1 ≤ n ∧ n ≤ 16 ∧ 0 ≤ me ∧ me < n from hok)] at e1
  obtain ⟨hq, E⟩ := r1 hok
  exact ⟨q, g, e1,Ab, hq, E⟩
theorem spec_ONewF (n me : Int) (hok : okN n me) (h : Heap) : ∃ q h', evC Tryd.prog 9 #[.int .i64 1, .int .i64 n, .int .i64 me] h = some (.tuple #[.iface 30 (.pointer (some ⟨q, 0, none⟩)), .int .i64 0], h') ∧ HExt h h' ∧ h.blks.length ≤ q ∧
    En h.blks.length h' q n me (zerosM n.toNat) (List.replicate n.toNat 0) := by
  rw [call9]
  obtain ⟨q, g, e1,Ab, hq, E⟩ := spec_fullNew n me hok (nm h)
  refine ⟨q, done h g, ?_, done_ext' (Ab.inn (Nat.le_refl _)), hq,En.done E⟩
  simp -implicitDefEqProofs (disch := omega) only [↓c9_0_eq, dcT, dcF, decide_true, decide_false, eq_self, Int.reduceEq, e1, mkIF, ↓ret9, ↓cnd_true, ↓cnd_false, ↓Option.bind_some, ↓obH_some', bin_add, bin_sub, bin_mul, bin_lss, bin_leq, bin_gtr, bin_geq, bin_eql, bin_neq, un_not, un_neg, Option.bind_some, Option.bind_none, Option.map_some, cnd_true, cnd_false, pickV_true, pickV_false, gd_true, gd_false, gdV_true, gdV_false, gdH_true, gdH_false, gdS_true, gdS_false, wt_ff, wt_tt, wt_ft, wt_tf, wt_undef, obH_some', extractV_tuple, nilCheckV_ptr, againK_normal, againK_exit, againK_ret, blockK_normal, blockK_same, blockK_ret, seqK_normal, seqK_exit, seqK_ret, fin_done, if_true', if_false', Bool.not_true, Bool.not_false, idx0, idx1, idx2, idx3, idx4, chk_nil_l, chk_nil_r, done_nm, up_cons, up_nil, cond_true, cond_false, Nat.reduceBEq]
theorem spec_ONewF0 (n me : Int) (hok : ¬ okN n me) (h : Heap) : ∃ h', evC Tryd.prog 9 #[.int .i64 1, .int .i64 n, .int .i64 me] h = some (.tuple #[.nilIface, .int .i64 1], h') ∧ HExt h h' := by
  rw [call9]
  obtain ⟨q, g, e1,Ab, _⟩ := spec_ENew n me (nm h)
  simp only [if_neg (show ¬ (1 ≤ n ∧ n ≤ 16 ∧ 0 ≤ me ∧ me < n) from hok)] at e1
  refine ⟨done h g, ?_, done_ext' (Ab.inn (Nat.le_refl _))⟩
  simp -implicitDefEqProofs (disch := omega) only [↓c9_0_eq, dcT, dcF, decide_true, decide_false, eq_self, Int.reduceEq, e1, ↓ret9, ↓cnd_true, ↓cnd_false, ↓Option.bind_some, ↓obH_some', bin_add, bin_sub, bin_mul, bin_lss, bin_leq, bin_gtr, bin_geq, bin_eql, bin_neq, un_not, un_neg, Option.bind_some, Option.bind_none, Option.map_some, cnd_true, cnd_false, pickV_true, pickV_false, gd_true, gd_false, gdV_true, gdV_false, gdH_true, gdH_false, gdS_true, gdS_false, wt_ff, wt_tt, wt_ft, wt_tf, wt_undef, obH_some', extractV_tuple, nilCheckV_ptr, againK_normal, againK_exit, againK_ret, blockK_normal, blockK_same, blockK_ret, seqK_normal, seqK_exit, seqK_ret, fin_done, if_true', if_false', Bool.not_true, Bool.not_false, idx0, idx1, idx2, idx3, idx4, chk_nil_l, chk_nil_r, done_nm, up_cons, up_nil, cond_true, cond_false, Nat.reduceBEq]
theorem spec_ONewL (n : Nat) (me : Int) (hok : okN n me) (h : Heap) : ∃ q s h', evC Tryd.prog 9 #[.int .i64 2, .int .i64 n, .int .i64 me] h = some (.tuple #[.iface 33 (.pointer (some ⟨q, 0, none⟩)), .int .i64 0], h') ∧ HExt h h' ∧ h.blks.length ≤ q ∧ h.blks.length ≤ s ∧ q ≠ s ∧
    LEn h' q s n me 0 [] (List.replicate n 0) := by
  rw [call9]
  have hk := hok
  unfold okN at hk
  obtain ⟨g, e1,Ab, l1⟩ := spec_leanNew n me (by omega) (by omega) (by omega) (by omega) (nm h)
  refine ⟨(nm h).blks.length + 1, (nm h).blks.length, done h g, ?_, done_ext' (Ab.inn (Nat.le_refl _)), by show h.blks.length ≤ h.blks.length + 1; omega, Nat.le_refl _, by omega, l1.same ⟨Nat.le_refl _, fun _ _ => rfl⟩⟩
  simp -implicitDefEqProofs (disch := omega) only [↓c9_0_eq, dcT, dcF, decide_true, decide_false, eq_self, Int.reduceEq, e1, mkIL, ↓ret9, ↓cnd_true, ↓cnd_false, ↓Option.bind_some, ↓obH_some', bin_add, bin_sub, bin_mul, bin_lss, bin_leq, bin_gtr, bin_geq, bin_eql, bin_neq, un_not, un_neg, Option.bind_some, Option.bind_none, Option.map_some, cnd_true, cnd_false, pickV_true, pickV_false, gd_true, gd_false, gdV_true, gdV_false, gdH_true, gdH_false, gdS_true, gdS_false, wt_ff, wt_tt, wt_ft, wt_tf, wt_undef, obH_some', extractV_tuple, nilCheckV_ptr, againK_normal, againK_exit, againK_ret, blockK_normal, blockK_same, blockK_ret, seqK_normal, seqK_exit, seqK_ret, fin_done, if_true', if_false', Bool.not_true, Bool.not_false, idx0, idx1, idx2, idx3, idx4, chk_nil_l, chk_nil_r, done_nm, up_cons, up_nil, cond_true, cond_false, Nat.reduceBEq]
theorem spec_ONewL0 (n me : Int) (hok : ¬ okN n me) (h : Heap) : ∃ h', evC Tryd.prog 9 #[.int .i64 2, .int .i64 n, .int .i64 me] h = some (.tuple #[.nilIface, .int .i64 1], h') ∧ HExt h h' := by
  rw [call9]
  obtain ⟨g, e1,Ab⟩ := spec_leanNewBad n me (bad_of hok) (nm h)
  refine ⟨done h g, ?_, done_ext' (Ab.inn (Nat.le_refl _))⟩
  simp -implicitDefEqProofs (disch := omega) only [↓c9_0_eq, dcT, dcF, decide_true, decide_false, eq_self, Int.reduceEq, e1, ↓ret9, ↓cnd_true, ↓cnd_false, ↓Option.bind_some, ↓obH_some', bin_add, bin_sub, bin_mul, bin_lss, bin_leq, bin_gtr, bin_geq, bin_eql, bin_neq, un_not, un_neg, Option.bind_some, Option.bind_none, Option.map_some, cnd_true, cnd_false, pickV_true, pickV_false, gd_true, gd_false, gdV_true, gdV_false, gdH_true, gdH_false, gdS_true, gdS_false, wt_ff, wt_tt, wt_ft, wt_tf, wt_undef, obH_some', extractV_tuple, nilCheckV_ptr, againK_normal, againK_exit, againK_ret, blockK_normal, blockK_same, blockK_ret, seqK_normal, seqK_exit, seqK_ret, fin_done, if_true', if_false', Bool.not_true, Bool.not_false, idx0, idx1, idx2, idx3, idx4, chk_nil_l, chk_nil_r, done_nm, up_cons, up_nil, cond_true, cond_false, Nat.reduceBEq]
theorem spec_awake20 (h : Heap) : ∃ h', evC Tryd.prog 8 #[] h = some (.bool true, h') ∧ HExt h h' := by
  rw [show evC Tryd.prog 8 #[] h = _ from call8 h]
  obtain ⟨q, s, g, e1,Ab, _⟩ := spec_ONewL 2 0 (by unfold okN; omega) (nm h)
  rw [show ((2 : Nat) : Int) = 2 from rfl] at e1
  have e2 := spec_KindL (.pointer (some ⟨q, 0, none⟩)) g
  refine ⟨done h g, ?_, done_ext' (Ab.inn (Nat.le_refl _))⟩
  simp -implicitDefEqProofs (disch := omega) only [↓c8_0_eq, dcT, dcF, decide_true, decide_false, eq_self, e1, nilN, e2, ↓ret8, ↓cnd_true, ↓cnd_false, ↓Option.bind_some, ↓obH_some', bin_add, bin_sub, bin_mul, bin_lss, bin_leq, bin_gtr, bin_geq, bin_eql, bin_neq, un_not, un_neg, Option.bind_some, Option.bind_none, Option.map_some, cnd_true, cnd_false, pickV_true, pickV_false, gd_true, gd_false, gdV_true, gdV_false, gdH_true, gdH_false, gdS_true, gdS_false, wt_ff, wt_tt, wt_ft, wt_tf, wt_undef, obH_some', extractV_tuple, nilCheckV_ptr, againK_normal, againK_exit, againK_ret, blockK_normal, blockK_same, blockK_ret, seqK_normal, seqK_exit, seqK_ret, fin_done, if_true', if_false', Bool.not_true, Bool.not_false, idx0, idx1, idx2, idx3, idx4, chk_nil_l, chk_nil_r, done_nm, up_cons, up_nil, cond_true, cond_false, Nat.reduceBEq]
theorem ncF (p : Nat) : nilCheckV Tryd.prog (.func (.method "Can") #[.iface 30 (.pointer (some ⟨p, 0, none⟩))] #[]) = some (.func (.method "Can") #[.iface 30 (.pointer (some ⟨p, 0, none⟩))] #[]) := by kernel_rfl
theorem ncL (p : Nat) : nilCheckV Tryd.prog (.func (.method "Can") #[.iface 33 (.pointer (some ⟨p, 0, none⟩))] #[]) = some (.func (.method "Can") #[.iface 33 (.pointer (some ⟨p, 0, none⟩))] #[]) := by kernel_rfl
theorem canO_full {L : Nat} {p : Nat} {n me : Int} {m : List (List Nat)} {g : List Nat} (ok : EnOk n me m g) : CanO (.iface 30 (.pointer (some ⟨p, 0, none⟩))) (fun h => En L h p n me m g) (fun fr _ bs => canFE n me g fr bs) :=
  ⟨⟨_, _, rfl⟩, ncF p, fun _ _ E s => E.same s, fun h fr k v bs E sb hb => by
    rw [invF]
    exact spec_ECan E ok fr k sb (by omega)⟩
theorem canO_lean {p s : Nat} {n me : Int} {num : Nat} {es : List E3} {ns : List Nat} : CanO (.iface 33 (.pointer (some ⟨p, 0, none⟩))) (fun h => LEn h p s n me num es ns) (fun fr k bs => canE n me ns fr k bs) :=
  ⟨⟨_, _, rfl⟩, ncL p, fun _ _ E s => E.same s, fun h fr k v bs E sb hb => by
    rw [invL]
    exact spec_Can E fr k sb hb⟩
structure CanD (f : FuncId) (pv : Value) (P : Heap → Prop) (can : Int → Nat → List UInt8 → Bool) : Prop where
  keep : ∀ h h', P h → Same h h' → P h'
  call : ∀ h fr k v bs, P h → SB h v bs → bs.length < 2 ^ 30 → ∃ h', evC Tryd.prog f #[pv, .int .i64 fr, .int .u64 (k : Nat), v] h = some (.bool (can fr k bs), h') ∧ HExt h h'
theorem canD_full {L : Nat} {p : Nat} {n me : Int} {m : List (List Nat)} {g : List Nat} (ok : EnOk n me m g) : CanD 15 (.pointer (some ⟨p, 0, none⟩)) (fun h => En L h p n me m g) (fun fr _ bs => canFE n me g fr bs) :=
  ⟨fun _ _ E s => E.same s, fun h fr k v bs E sb hb => spec_ECan E ok fr k sb (by omega)⟩
theorem canD_lean {p s : Nat} {n me : Int} {num : Nat} {es : List E3} {ns : List Nat} : CanD 16 (.pointer (some ⟨p, 0, none⟩)) (fun h => LEn h p s n me num es ns) (fun fr k bs => canE n me ns fr k bs) :=
  ⟨fun _ _ E s => E.same s, fun h fr k v bs E sb hb => spec_Can E fr k sb hb⟩
end Go.Am
namespace Go.Am
open Go.Proofs
set_option maxRecDepth 100000
set_option linter.all false
attribute [local congr] obind_congr obH_congr cnd_congr chk_congr retK_congr codeK_congr
theorem bneqS (c : Bool) : binV Tryd.prog .neq 4 (.tmp 0) (.tmp 0) (.bool c) (.bool c) = some (.bool false) := by cases c <;> kernel_rfl
theorem beqS (c : Bool) : binV Tryd.prog .eql 4 (.tmp 0) (.tmp 0) (.bool c) (.bool c) = some (.bool true) := by cases c <;> kernel_rfl
theorem lnY (a : Option Addr) (n c : Nat) (h : Heap) : lenV Tryd.prog 40 (.slice a n c) h = some (.int .i64 n) := by kernel_rfl
theorem neqSt (a : List UInt8) : binV Tryd.prog .neq 9 (.tmp 0) (.tmp 0) (strV a) (strV a) = some (.bool false) := by
  rw [bin_strneq]; simp
theorem stamp_cmp {Q : Option (Value × Heap) → Prop} {h : Heap} {n1 n2 : Nat} {sv tv : Value} {r : List (List UInt8)} (A : ABs n1 h sv r) (B : ABs n2 h tv r) (hr : r.length < 2 ^ 40) (k : Ex → St → Option (Value × Heap)) {b iv v px py : Value}
    (hk : ∀ x : Nat → Value, x 0 = b → x 3 = v → x 12 = iv → x 14 = px → x 16 = py → Q (k .normal ⟨ar 255 x, h⟩)) :
    ∀ (m i : Nat), r.length = i + m → ∀ (x : Nat → Value), x 0 = b → x 3 = v → x 12 = iv → x 14 = px → x 16 = py → x 18 = sv → x 19 = tv → x 20 = .int .i64 i →
    Q (lK c3_1 255 x h (blockK 0 k)) := by
  intro m
  induction m with
  | zero =>
    intro i hi x Aa Ad An Ap Ar Au Av Aw
    rw [lK_eq]
    have ln := A.len
    simp -implicitDefEqProofs (disch := omega) only [↓c3_1_eq, dcT, dcF,Au,Av,Aw, ln, ↓cnd_true, ↓cnd_false, ↓Option.bind_some, ↓obH_some', bin_add, bin_sub, bin_mul, bin_lss, bin_leq, bin_gtr, bin_geq, bin_eql, bin_neq, un_not, un_neg, Option.bind_some, Option.bind_none, Option.map_some, cnd_true, cnd_false, pickV_true, pickV_false, gd_true, gd_false, gdV_true, gdV_false, gdH_true, gdH_false, gdS_true, gdS_false, wt_ff, wt_tt, wt_ft, wt_tf, wt_undef, obH_some', extractV_tuple, nilCheckV_ptr, againK_normal, againK_exit, againK_ret, blockK_normal, blockK_same, blockK_ret, seqK_normal, seqK_exit, seqK_ret, fin_done, if_true', if_false', Bool.not_true, Bool.not_false, idx0, idx1, idx2, idx3, idx4, chk_nil_l, chk_nil_r, done_nm, up_cons, up_nil, cond_true, cond_false, Nat.reduceBEq]
    refine hk _ ?_ ?_ ?_ ?_ ?_
    · exact Aa
    · exact Ad
    · exact An
    · exact Ap
    · exact Ar
  | succ m ih =>
    intro i hi x Aa Ad An Ap Ar Au Av Aw
    rw [lK_eq]
    have ln := A.len
    obtain ⟨ad, y, e1, e2, sy⟩ := A.at (i := i) (by omega)
    obtain ⟨bd, z, f1, f2, sz⟩ := B.at (i := i) (by omega)
    have c1 := strB sy
    have c2 := strB sz
    have w1 : IntKind.i64.wrap ((i : Int) + 1) = ((i + 1 : Nat) : Int) := by rw [wrap_i64] <;> omega
    have ne := neqSt (r.getD i [])
    simp -implicitDefEqProofs (disch := omega) only [↓c3_1_eq, dcT, dcF,Au,Av,Aw, ln, e1, e2, f1, f2, c1, c2, ne, w1, ↓cnd_true, ↓cnd_false, ↓Option.bind_some, ↓obH_some', bin_add, bin_sub, bin_mul, bin_lss, bin_leq, bin_gtr, bin_geq, bin_eql, bin_neq, un_not, un_neg, Option.bind_some, Option.bind_none, Option.map_some, cnd_true, cnd_false, pickV_true, pickV_false, gd_true, gd_false, gdV_true, gdV_false, gdH_true, gdH_false, gdS_true, gdS_false, wt_ff, wt_tt, wt_ft, wt_tf, wt_undef, obH_some', extractV_tuple, nilCheckV_ptr, againK_normal, againK_exit, againK_ret, blockK_normal, blockK_same, blockK_ret, seqK_normal, seqK_exit, seqK_ret, fin_done, if_true', if_false', Bool.not_true, Bool.not_false, idx0, idx1, idx2, idx3, idx4, chk_nil_l, chk_nil_r, done_nm, up_cons, up_nil, cond_true, cond_false, Nat.reduceBEq]
    refine ih (i + 1) (by omega) _ ?_ ?_ ?_ ?_ ?_ ?_ ?_ ?_
    · exact Aa
    · exact Ad
    · exact An
    · exact Ap
    · exact Ar
    · exact Au
    · exact Av
    · rfl
theorem main_loop {h0 h1 : Heap} {b : Bool} {iv px py v : Value} {P X Y : Heap → Prop} {cn cx cy : Int → Nat → List UInt8 → Bool} (E : CanO iv P cn) (DX : CanD 15 px X cx) (DY : CanD 16 py Y cy)
    (hcn : ∀ fr k bs, cn fr k bs = if b = true then cy fr k bs else cx fr k bs) (p1 : P h1) (q1 : X h1) (r1 : Y h1) {hs : List HT} (sv : SHd h1 v hs) (hl : hs.length ≤ 20) (hb : ∀ i, i < hs.length → ∀ (y : HT), hs[i]? = some y → y.num < 2 ^ 64) :
    ∀ (m i : Nat) (h : Heap) (a : Option Addr) (c : Nat), hs.length = i + m → (∀ j, j < i → (hs.getD j hd0).b.length ≤ 300) → Same h1 h → AO h1.blks.length h (.slice a (headsL cn hs i).length c) (headsL cn hs i) →
    ∀ (x : Nat → Value), x 0 = .bool b → x 3 = v → x 12 = iv → x 14 = px → x 16 = py → x 21 = .slice a (headsL cn hs i).length c → x 22 = .int .i64 (leastL hs (headsL cn hs i)).1 → x 23 = .bool (leastL hs (headsL cn hs i)).2 → x 24 = .int .i64 i →
    ∃ h', lK c3_3 255 x h (blockK 2 (sK c3_4 (retK Tryd.f3 Tryd.prog h0))) = some (.bool true, h') := by
  intro m
  induction m with
  | zero =>
    intro i h a c hi hsh sm ha x Aa Ad An Ap Ar Ax Ay Az Ba
    rw [lK_eq]
    obtain rfl : i = hs.length := by omega
    have ln := (sv.same sm).len
    have hb2 : ∀ y ∈ hs, y.b.length < 2 ^ 30 := fun y hy => by
      obtain ⟨j, hj, rfl⟩ := List.getElem_of_mem hy
      have := hsh j hj
      rw [List.getD_eq_getElem?_getD, List.getElem?_eq_getElem hj] at this
      have h2 : (hs[j]).b.length ≤ 300 := this
      omega
    obtain ⟨h2, e2, y2⟩ := spec_Least E (E.keep _ _ p1 sm) (sv.same sm) (by omega) hb2
    obtain ⟨oa, oc, h3, e3, y3, a3⟩ := spec_Heads E (E.keep _ _ p1 (sm.trans y2.same)) ((sv.same sm).same y2.same) (by omega) hb2
    have hn := headsL_len cn hs hs.length
    have e4 := spec_ints a3.row ((ha.same y2.same).same y3.same).row (by omega) (by omega)
    rw [decide_eq_true rfl] at e4
    generalize leastL hs (headsL cn hs hs.length) = S at *
    obtain ⟨s1, s2⟩ := S
    simp only at e2 Ay Az
    have bs := beqS s2
    cases s2 with
    | false =>
      simp -implicitDefEqProofs (disch := omega) only [↓c3_3_eq, ↓c3_4_eq, dcT, dcF,Ad,An,Ax,Ay,Az,Ba, ln, e2, e3, e4, bs, ↓ret3, ↓cnd_true, ↓cnd_false, ↓Option.bind_some, ↓obH_some', bin_add, bin_sub, bin_mul, bin_lss, bin_leq, bin_gtr, bin_geq, bin_eql, bin_neq, un_not, un_neg, Option.bind_some, Option.bind_none, Option.map_some, cnd_true, cnd_false, pickV_true, pickV_false, gd_true, gd_false, gdV_true, gdV_false, gdH_true, gdH_false, gdS_true, gdS_false, wt_ff, wt_tt, wt_ft, wt_tf, wt_undef, obH_some', extractV_tuple, nilCheckV_ptr, againK_normal, againK_exit, againK_ret, blockK_normal, blockK_same, blockK_ret, seqK_normal, seqK_exit, seqK_ret, fin_done, if_true', if_false', Bool.not_true, Bool.not_false, idx0, idx1, idx2, idx3, idx4, chk_nil_l, chk_nil_r, done_nm, up_cons, up_nil, cond_true, cond_false, Nat.reduceBEq]
      exact ⟨_, rfl⟩
    | true =>
      simp -implicitDefEqProofs (disch := omega) only [↓c3_3_eq, ↓c3_4_eq, dcT, dcF, decide_true,Ad,An,Ax,Ay,Az,Ba, ln, e2, e3, e4, bs, ↓ret3, ↓cnd_true, ↓cnd_false, ↓Option.bind_some, ↓obH_some', bin_add, bin_sub, bin_mul, bin_lss, bin_leq, bin_gtr, bin_geq, bin_eql, bin_neq, un_not, un_neg, Option.bind_some, Option.bind_none, Option.map_some, cnd_true, cnd_false, pickV_true, pickV_false, gd_true, gd_false, gdV_true, gdV_false, gdH_true, gdH_false, gdS_true, gdS_false, wt_ff, wt_tt, wt_ft, wt_tf, wt_undef, obH_some', extractV_tuple, nilCheckV_ptr, againK_normal, againK_exit, againK_ret, blockK_normal, blockK_same, blockK_ret, seqK_normal, seqK_exit, seqK_ret, fin_done, if_true', if_false', Bool.not_true, Bool.not_false, idx0, idx1, idx2, idx3, idx4, chk_nil_l, chk_nil_r, done_nm, up_cons, up_nil, cond_true, cond_false, Nat.reduceBEq]
      exact ⟨_, rfl⟩
  | succ m ih =>
    intro i h a c hi hsh sm ha x Aa Ad An Ap Ar Ax Ay Az Ba
    rw [lK_eq]
    have ln := (sv.same sm).len
    have hn := headsL_len cn hs i
    have hi' : i < hs.length := by omega
    obtain ⟨bl, o, bv, hat⟩ := sv.at hi'
    have g := hat h sm
    have f0 := g.at_
    have f1 := g.l1
    have f2 := g.l2
    have f3 := g.l3
    obtain ⟨ba, bc, hbv⟩ := g.sb.shape
    have lb := lnY ba (hs[i]).b.length bc h
    rw [← hbv] at lb
    have w1 : IntKind.i64.wrap ((i : Int) + 1) = ((i + 1 : Nat) : Int) := by rw [wrap_i64] <;> omega
    have gd : hs.getD i hd0 = hs[i] := by rw [List.getD_eq_getElem?_getD, List.getElem?_eq_getElem hi']; rfl
    by_cases hlen : 300 < (hs[i]).b.length
    · simp -implicitDefEqProofs (disch := omega) only [↓c3_3_eq, dcT, dcF,Aa,Ad,An,Ap,Ar,Ba, ln, f0, faHd1, faHd2, faHd3, ld_o, ldUo, ldYo, f1, f2, f3, lb, ↓ret3, ↓cnd_true, ↓cnd_false, ↓Option.bind_some, ↓obH_some', bin_add, bin_sub, bin_mul, bin_lss, bin_leq, bin_gtr, bin_geq, bin_eql, bin_neq, un_not, un_neg, Option.bind_some, Option.bind_none, Option.map_some, cnd_true, cnd_false, pickV_true, pickV_false, gd_true, gd_false, gdV_true, gdV_false, gdH_true, gdH_false, gdS_true, gdS_false, wt_ff, wt_tt, wt_ft, wt_tf, wt_undef, obH_some', extractV_tuple, nilCheckV_ptr, againK_normal, againK_exit, againK_ret, blockK_normal, blockK_same, blockK_ret, seqK_normal, seqK_exit, seqK_ret, fin_done, if_true', if_false', Bool.not_true, Bool.not_false, idx0, idx1, idx2, idx3, idx4, chk_nil_l, chk_nil_r, done_nm, up_cons, up_nil, cond_true, cond_false, Nat.reduceBEq]
      exact ⟨_, rfl⟩
    obtain ⟨h2, e2, y2⟩ := DX.call h (hs[i]).frm (hs[i]).num bv (hs[i]).b (DX.keep _ _ q1 sm) g.sb (by omega)
    -- the heap at which the engine behind the face is asked
    have hk2 : ∀ (h3 : Heap), Same h1 h3 → ∃ h4, invokeV Tryd.prog (evC Tryd.prog) iv "Can" #[.int .i64 (hs[i]).frm, .int .u64 ((hs[i]).num : Nat), bv] h3 = some (.bool (cn (hs[i]).frm (hs[i]).num (hs[i]).b), h4) ∧ Same h1 h4 ∧ Same h3 h4 := fun h3 s3 => by
      obtain ⟨h4, e4, y4⟩ := E.call h3 (hs[i]).frm (hs[i]).num bv (hs[i]).b (E.keep _ _ p1 s3) (hat h3 s3).sb (by omega)
      exact ⟨h4, e4, s3.trans y4.same, y4.same⟩
    have sm2 := sm.trans y2.same
    have hsu := headsL_succ cn hs i
    rw [gd] at hsu
    have hsh' : ∀ j, j < i + 1 → (hs.getD j hd0).b.length ≤ 300 := fun j hj => by
      rcases Nat.lt_or_ge j i with h1 | h1
      · exact hsh j h1
      · obtain rfl : j = i := by omega
        rw [gd]; omega
    have hv := hcn (hs[i]).frm (hs[i]).num (hs[i]).b
    have nc := E.nc
    have g2 := hat h2 sm2
    have m1 := g2.l1
    have m2 := g2.l2
    have m3 := g2.l3
    cases hq : cn (hs[i]).frm (hs[i]).num (hs[i]).b with
    | false =>
      have hno : hdOk cn (hs[i]) = false := by unfold hdOk; rw [hq]; exact Bool.and_false _
      rw [hno, if_neg (by decide), List.append_nil] at hsu
      rw [hq] at hv
      cases b with
      | false =>
        rw [if_neg (by decide)] at hv
        rw [← hv] at e2
        obtain ⟨h4, e4, s4, t4⟩ := hk2 h2 sm2
        rw [hq] at e4
        have bs := bneqS false
        simp -implicitDefEqProofs (disch := omega) only [↓c3_3_eq, dcT, dcF,Aa,Ad,An,Ap,Ar,Ax,Ay,Az,Ba, ln, f0, faHd0, faHd1, faHd2, faHd3, ldBo, ld_o, ldUo, ldYo, f1, f2, f3, lb, e2, m1, m2, m3, nc, e4, bs, w1, ↓cnd_true, ↓cnd_false, ↓Option.bind_some, ↓obH_some', bin_add, bin_sub, bin_mul, bin_lss, bin_leq, bin_gtr, bin_geq, bin_eql, bin_neq, un_not, un_neg, Option.bind_some, Option.bind_none, Option.map_some, cnd_true, cnd_false, pickV_true, pickV_false, gd_true, gd_false, gdV_true, gdV_false, gdH_true, gdH_false, gdS_true, gdS_false, wt_ff, wt_tt, wt_ft, wt_tf, wt_undef, obH_some', extractV_tuple, nilCheckV_ptr, againK_normal, againK_exit, againK_ret, blockK_normal, blockK_same, blockK_ret, seqK_normal, seqK_exit, seqK_ret, fin_done, if_true', if_false', Bool.not_true, Bool.not_false, idx0, idx1, idx2, idx3, idx4, chk_nil_l, chk_nil_r, done_nm, up_cons, up_nil, cond_true, cond_false, Nat.reduceBEq]
        refine ih (i + 1) h4 a c (by omega) hsh' s4 ?_ _ ?_ ?_ ?_ ?_ ?_ ?_ ?_ ?_ ?_
        · rw [hsu]; exact (ha.same y2.same).same t4
        · exact Aa
        · exact Ad
        · exact An
        · exact Ap
        · exact Ar
        · rw [hsu]; exact Ax
        · rw [hsu]; exact Ay
        · rw [hsu]; exact Az
        · rfl
      | true =>
        rw [if_pos rfl] at hv
        obtain ⟨h3, e3, y3⟩ := DY.call h2 (hs[i]).frm (hs[i]).num bv (hs[i]).b (DY.keep _ _ r1 sm2) g2.sb (by omega)
        rw [← hv] at e3
        have sm3 := sm2.trans y3.same
        have g3 := hat h3 sm3
        have o1 := g3.l1
        have o2 := g3.l2
        have o3 := g3.l3
        obtain ⟨h4, e4, s4, t4⟩ := hk2 h3 sm3
        rw [hq] at e4
        have bs := bneqS false
        simp -implicitDefEqProofs (disch := omega) only [↓c3_3_eq, dcT, dcF,Aa,Ad,An,Ap,Ar,Ax,Ay,Az,Ba, ln, f0, faHd0, faHd1, faHd2, faHd3, ldBo, ld_o, ldUo, ldYo, f1, f2, f3, lb, e2, m1, m2, m3, e3, o1, o2, o3, nc, e4, bs, w1, ↓cnd_true, ↓cnd_false, ↓Option.bind_some, ↓obH_some', bin_add, bin_sub, bin_mul, bin_lss, bin_leq, bin_gtr, bin_geq, bin_eql, bin_neq, un_not, un_neg, Option.bind_some, Option.bind_none, Option.map_some, cnd_true, cnd_false, pickV_true, pickV_false, gd_true, gd_false, gdV_true, gdV_false, gdH_true, gdH_false, gdS_true, gdS_false, wt_ff, wt_tt, wt_ft, wt_tf, wt_undef, obH_some', extractV_tuple, nilCheckV_ptr, againK_normal, againK_exit, againK_ret, blockK_normal, blockK_same, blockK_ret, seqK_normal, seqK_exit, seqK_ret, fin_done, if_true', if_false', Bool.not_true, Bool.not_false, idx0, idx1, idx2, idx3, idx4, chk_nil_l, chk_nil_r, done_nm, up_cons, up_nil, cond_true, cond_false, Nat.reduceBEq]
        refine ih (i + 1) h4 a c (by omega) hsh' s4 ?_ _ ?_ ?_ ?_ ?_ ?_ ?_ ?_ ?_ ?_
        · rw [hsu]; exact ((ha.same y2.same).same y3.same).same t4
        · exact Aa
        · exact Ad
        · exact An
        · exact Ap
        · exact Ar
        · rw [hsu]; exact Ax
        · rw [hsu]; exact Ay
        · rw [hsu]; exact Az
        · rfl
    | true =>
      rw [hq] at hv
      -- what both kinds come to
      obtain ⟨h3, h4, s3, e3', e4, s4, t4, o1, o2, o3, l4⟩ : ∃ h3 h4, Same h h3 ∧ (b = false ∧ h3 = h2 ∧ evC Tryd.prog 15 #[px, .int .i64 (hs[i]).frm, .int .u64 ((hs[i]).num : Nat), bv] h = some (.bool true, h2) ∨ b = true ∧ evC Tryd.prog 16 #[py, .int .i64 (hs[i]).frm, .int .u64 ((hs[i]).num : Nat), bv] h2 = some (.bool true, h3)) ∧
          invokeV Tryd.prog (evC Tryd.prog) iv "Can" #[.int .i64 (hs[i]).frm, .int .u64 ((hs[i]).num : Nat), bv] h3 = some (.bool true, h4) ∧ Same h1 h4 ∧ Same h h4 ∧ h3.load1 bl (o + 1) = some (.int .i64 (hs[i]).frm) ∧ h3.load1 bl (o + 2) = some (.int .u64 (hs[i]).num) ∧ h3.load1 bl (o + 3) = some bv ∧ h4.load1 bl o = some (.bool (hs[i]).is_) := by
        cases b with
        | false =>
          rw [if_neg (by decide)] at hv
          rw [← hv] at e2
          obtain ⟨h4, e4, s4, t4⟩ := hk2 h2 sm2
          rw [hq] at e4
          exact ⟨h2, h4, y2.same, .inl ⟨rfl, rfl, e2⟩, e4, s4, y2.same.trans t4, m1, m2, m3, (hat h4 s4).l0⟩
        | true =>
          rw [if_pos rfl] at hv
          obtain ⟨h3, e3, y3⟩ := DY.call h2 (hs[i]).frm (hs[i]).num bv (hs[i]).b (DY.keep _ _ r1 sm2) g2.sb (by omega)
          rw [← hv] at e3
          have sm3 := sm2.trans y3.same
          have g3 := hat h3 sm3
          obtain ⟨h4, e4, s4, t4⟩ := hk2 h3 sm3
          rw [hq] at e4
          exact ⟨h3, h4, y2.same.trans y3.same, .inr ⟨rfl, e3⟩, e4, s4, (y2.same.trans y3.same).trans t4, g3.l1, g3.l2, g3.l3, (hat h4 s4).l0⟩
      have bs := bneqS true
      have a4 := ha.same t4
      cases his : (hs[i]).is_ with
      | false =>
        rw [his] at l4
        have hno : hdOk cn (hs[i]) = false := by unfold hdOk; rw [his]; rfl
        rw [hno, if_neg (by decide), List.append_nil] at hsu
        rw [← hsu] at a4 Ax Ay Az
        rcases e3' with ⟨rfl, rfl, e3⟩ | ⟨rfl, e3⟩
        · simp -implicitDefEqProofs (disch := omega) only [↓c3_3_eq, dcT, dcF,Aa,Ad,An,Ap,Ar,Ax,Ay,Az,Ba, ln, f0, faHd0, faHd1, faHd2, faHd3, ldBo, ld_o, ldUo, ldYo, f1, f2, f3, lb, e3, o1, o2, o3, nc, e4, bs, l4, w1, ↓cnd_true, ↓cnd_false, ↓Option.bind_some, ↓obH_some', bin_add, bin_sub, bin_mul, bin_lss, bin_leq, bin_gtr, bin_geq, bin_eql, bin_neq, un_not, un_neg, Option.bind_some, Option.bind_none, Option.map_some, cnd_true, cnd_false, pickV_true, pickV_false, gd_true, gd_false, gdV_true, gdV_false, gdH_true, gdH_false, gdS_true, gdS_false, wt_ff, wt_tt, wt_ft, wt_tf, wt_undef, obH_some', extractV_tuple, nilCheckV_ptr, againK_normal, againK_exit, againK_ret, blockK_normal, blockK_same, blockK_ret, seqK_normal, seqK_exit, seqK_ret, fin_done, if_true', if_false', Bool.not_true, Bool.not_false, idx0, idx1, idx2, idx3, idx4, chk_nil_l, chk_nil_r, done_nm, up_cons, up_nil, cond_true, cond_false, Nat.reduceBEq]
          exact ih (i + 1) h4 a c (by omega) hsh' s4 a4 _ Aa Ad An Ap Ar Ax Ay Az rfl
        · simp -implicitDefEqProofs (disch := omega) only [↓c3_3_eq, dcT, dcF,Aa,Ad,An,Ap,Ar,Ax,Ay,Az,Ba, ln, f0, faHd0, faHd1, faHd2, faHd3, ldBo, ld_o, ldUo, ldYo, f1, f2, f3, lb, e2, m1, m2, m3, e3, o1, o2, o3, nc, e4, bs, l4, w1, ↓cnd_true, ↓cnd_false, ↓Option.bind_some, ↓obH_some', bin_add, bin_sub, bin_mul, bin_lss, bin_leq, bin_gtr, bin_geq, bin_eql, bin_neq, un_not, un_neg, Option.bind_some, Option.bind_none, Option.map_some, cnd_true, cnd_false, pickV_true, pickV_false, gd_true, gd_false, gdV_true, gdV_false, gdH_true, gdH_false, gdS_true, gdS_false, wt_ff, wt_tt, wt_ft, wt_tf, wt_undef, obH_some', extractV_tuple, nilCheckV_ptr, againK_normal, againK_exit, againK_ret, blockK_normal, blockK_same, blockK_ret, seqK_normal, seqK_exit, seqK_ret, fin_done, if_true', if_false', Bool.not_true, Bool.not_false, idx0, idx1, idx2, idx3, idx4, chk_nil_l, chk_nil_r, done_nm, up_cons, up_nil, cond_true, cond_false, Nat.reduceBEq]
          exact ih (i + 1) h4 a c (by omega) hsh' s4 a4 _ Aa Ad An Ap Ar Ax Ay Az rfl
      | true =>
        rw [his] at l4
        have hyes : hdOk cn (hs[i]) = true := by unfold hdOk; rw [his, hq]; rfl
        rw [hyes, if_pos rfl] at hsu
        have e7 := mkO1 (i : Int) h4
        obtain ⟨a', c', h8, e8, a8, k8, o8⟩ := app_o (Nat.le_trans sm.1 t4.1) a4 i (by omega)
        have s8 : Same h1 h8 := ⟨Nat.le_trans s4.1 k8.len, fun q hq => (k8.old q hq).trans (s4.2 q hq)⟩
        have g8 := hat h8 s8
        have n1 := g8.l1
        rw [← hsu] at a8
        have st := leastL_snoc hs (headsL cn hs i) i
        rw [← hsu] at st
        have hlast := leastL_lt hs (headsL cn hs i) fun k hk => Nat.lt_trans (headsL_lt cn hs i k hk) hi'
        generalize hS : leastL hs (headsL cn hs i) = S at *
        obtain ⟨bst, ok⟩ := S
        simp only at Ay Az hlast
        cases ok with
        | false =>
          have st' : leastL hs (headsL cn hs (i + 1)) = (i, true) := by rw [st]; unfold lstep; rw [if_pos (.inl rfl)]
          rcases e3' with ⟨rfl, rfl, e3⟩ | ⟨rfl, e3⟩
          · simp -implicitDefEqProofs (disch := omega) only [↓c3_3_eq, dcT, dcF,Aa,Ad,An,Ap,Ar,Ax,Ay,Az,Ba, ln, f0, faHd0, faHd1, faHd2, faHd3, ldBo, ld_o, ldUo, ldYo, f1, f2, f3, lb, e3, o1, o2, o3, nc, e4, bs, l4, e7, e8, w1, ↓cnd_true, ↓cnd_false, ↓Option.bind_some, ↓obH_some', bin_add, bin_sub, bin_mul, bin_lss, bin_leq, bin_gtr, bin_geq, bin_eql, bin_neq, un_not, un_neg, Option.bind_some, Option.bind_none, Option.map_some, cnd_true, cnd_false, pickV_true, pickV_false, gd_true, gd_false, gdV_true, gdV_false, gdH_true, gdH_false, gdS_true, gdS_false, wt_ff, wt_tt, wt_ft, wt_tf, wt_undef, obH_some', extractV_tuple, nilCheckV_ptr, againK_normal, againK_exit, againK_ret, blockK_normal, blockK_same, blockK_ret, seqK_normal, seqK_exit, seqK_ret, fin_done, if_true', if_false', Bool.not_true, Bool.not_false, idx0, idx1, idx2, idx3, idx4, chk_nil_l, chk_nil_r, done_nm, up_cons, up_nil, cond_true, cond_false, Nat.reduceBEq]
            refine ih (i + 1) h8 a' c' (by omega) hsh' s8 a8 _ Aa Ad An Ap Ar ?_ ?_ ?_ rfl
            · rw [hsu]; rfl
            · rw [st']; rfl
            · rw [st']; rfl
          · simp -implicitDefEqProofs (disch := omega) only [↓c3_3_eq, dcT, dcF,Aa,Ad,An,Ap,Ar,Ax,Ay,Az,Ba, ln, f0, faHd0, faHd1, faHd2, faHd3, ldBo, ld_o, ldUo, ldYo, f1, f2, f3, lb, e2, m1, m2, m3, e3, o1, o2, o3, nc, e4, bs, l4, e7, e8, w1, ↓cnd_true, ↓cnd_false, ↓Option.bind_some, ↓obH_some', bin_add, bin_sub, bin_mul, bin_lss, bin_leq, bin_gtr, bin_geq, bin_eql, bin_neq, un_not, un_neg, Option.bind_some, Option.bind_none, Option.map_some, cnd_true, cnd_false, pickV_true, pickV_false, gd_true, gd_false, gdV_true, gdV_false, gdH_true, gdH_false, gdS_true, gdS_false, wt_ff, wt_tt, wt_ft, wt_tf, wt_undef, obH_some', extractV_tuple, nilCheckV_ptr, againK_normal, againK_exit, againK_ret, blockK_normal, blockK_same, blockK_ret, seqK_normal, seqK_exit, seqK_ret, fin_done, if_true', if_false', Bool.not_true, Bool.not_false, idx0, idx1, idx2, idx3, idx4, chk_nil_l, chk_nil_r, done_nm, up_cons, up_nil, cond_true, cond_false, Nat.reduceBEq]
            refine ih (i + 1) h8 a' c' (by omega) hsh' s8 a8 _ Aa Ad An Ap Ar ?_ ?_ ?_ rfl
            · rw [hsu]; rfl
            · rw [st']; rfl
            · rw [st']; rfl
        | true =>
          obtain ⟨b2, o2', g1', g2'⟩ := hd_frm (sv.same s8) (hlast rfl)
          by_cases cc : (hs[i]).frm < (hs.getD bst hd0).frm
          · have st' : leastL hs (headsL cn hs (i + 1)) = (i, true) := by rw [st]; unfold lstep; rw [if_pos (.inr (by rw [gd]; exact cc))]
            rcases e3' with ⟨rfl, rfl, e3⟩ | ⟨rfl, e3⟩
            · simp -implicitDefEqProofs (disch := omega) only [↓c3_3_eq, dcT, dcF,Aa,Ad,An,Ap,Ar,Ax,Ay,Az,Ba, ln, f0, faHd0, faHd1, faHd2, faHd3, ldBo, ld_o, ldUo, ldYo, f1, f2, f3, lb, e3, o1, o2, o3, nc, e4, bs, l4, e7, e8, n1, g1', g2', w1, ↓cnd_true, ↓cnd_false, ↓Option.bind_some, ↓obH_some', bin_add, bin_sub, bin_mul, bin_lss, bin_leq, bin_gtr, bin_geq, bin_eql, bin_neq, un_not, un_neg, Option.bind_some, Option.bind_none, Option.map_some, cnd_true, cnd_false, pickV_true, pickV_false, gd_true, gd_false, gdV_true, gdV_false, gdH_true, gdH_false, gdS_true, gdS_false, wt_ff, wt_tt, wt_ft, wt_tf, wt_undef, obH_some', extractV_tuple, nilCheckV_ptr, againK_normal, againK_exit, againK_ret, blockK_normal, blockK_same, blockK_ret, seqK_normal, seqK_exit, seqK_ret, fin_done, if_true', if_false', Bool.not_true, Bool.not_false, idx0, idx1, idx2, idx3, idx4, chk_nil_l, chk_nil_r, done_nm, up_cons, up_nil, cond_true, cond_false, Nat.reduceBEq]
              refine ih (i + 1) h8 a' c' (by omega) hsh' s8 a8 _ Aa Ad An Ap Ar ?_ ?_ ?_ rfl
              · rw [hsu]; rfl
              · rw [st']; rfl
              · rw [st']; rfl
            · simp -implicitDefEqProofs (disch := omega) only [↓c3_3_eq, dcT, dcF,Aa,Ad,An,Ap,Ar,Ax,Ay,Az,Ba, ln, f0, faHd0, faHd1, faHd2, faHd3, ldBo, ld_o, ldUo, ldYo, f1, f2, f3, lb, e2, m1, m2, m3, e3, o1, o2, o3, nc, e4, bs, l4, e7, e8, n1, g1', g2', w1, ↓cnd_true, ↓cnd_false, ↓Option.bind_some, ↓obH_some', bin_add, bin_sub, bin_mul, bin_lss, bin_leq, bin_gtr, bin_geq, bin_eql, bin_neq, un_not, un_neg, Option.bind_some, Option.bind_none, Option.map_some, cnd_true, cnd_false, pickV_true, pickV_false, gd_true, gd_false, gdV_true, gdV_false, gdH_true, gdH_false, gdS_true, gdS_false, wt_ff, wt_tt, wt_ft, wt_tf, wt_undef, obH_some', extractV_tuple, nilCheckV_ptr, againK_normal, againK_exit, againK_ret, blockK_normal, blockK_same, blockK_ret, seqK_normal, seqK_exit, seqK_ret, fin_done, if_true', if_false', Bool.not_true, Bool.not_false, idx0, idx1, idx2, idx3, idx4, chk_nil_l, chk_nil_r, done_nm, up_cons, up_nil, cond_true, cond_false, Nat.reduceBEq]
              refine ih (i + 1) h8 a' c' (by omega) hsh' s8 a8 _ Aa Ad An Ap Ar ?_ ?_ ?_ rfl
              · rw [hsu]; rfl
              · rw [st']; rfl
              · rw [st']; rfl
          · have st' : leastL hs (headsL cn hs (i + 1)) = (bst, true) := by rw [st]; unfold lstep; rw [if_neg (fun h => h.elim (fun h => by cases h) (by rw [gd]; exact cc))]
            rcases e3' with ⟨rfl, rfl, e3⟩ | ⟨rfl, e3⟩
            · simp -implicitDefEqProofs (disch := omega) only [↓c3_3_eq, dcT, dcF,Aa,Ad,An,Ap,Ar,Ax,Ay,Az,Ba, ln, f0, faHd0, faHd1, faHd2, faHd3, ldBo, ld_o, ldUo, ldYo, f1, f2, f3, lb, e3, o1, o2, o3, nc, e4, bs, l4, e7, e8, n1, g1', g2', w1, ↓cnd_true, ↓cnd_false, ↓Option.bind_some, ↓obH_some', bin_add, bin_sub, bin_mul, bin_lss, bin_leq, bin_gtr, bin_geq, bin_eql, bin_neq, un_not, un_neg, Option.bind_some, Option.bind_none, Option.map_some, cnd_true, cnd_false, pickV_true, pickV_false, gd_true, gd_false, gdV_true, gdV_false, gdH_true, gdH_false, gdS_true, gdS_false, wt_ff, wt_tt, wt_ft, wt_tf, wt_undef, obH_some', extractV_tuple, nilCheckV_ptr, againK_normal, againK_exit, againK_ret, blockK_normal, blockK_same, blockK_ret, seqK_normal, seqK_exit, seqK_ret, fin_done, if_true', if_false', Bool.not_true, Bool.not_false, idx0, idx1, idx2, idx3, idx4, chk_nil_l, chk_nil_r, done_nm, up_cons, up_nil, cond_true, cond_false, Nat.reduceBEq]
              refine ih (i + 1) h8 a' c' (by omega) hsh' s8 a8 _ Aa Ad An Ap Ar ?_ ?_ ?_ rfl
              · rw [hsu]; rfl
              · rw [st']; exact Ay
              · rw [st']; exact Az
            · simp -implicitDefEqProofs (disch := omega) only [↓c3_3_eq, dcT, dcF,Aa,Ad,An,Ap,Ar,Ax,Ay,Az,Ba, ln, f0, faHd0, faHd1, faHd2, faHd3, ldBo, ld_o, ldUo, ldYo, f1, f2, f3, lb, e2, m1, m2, m3, e3, o1, o2, o3, nc, e4, bs, l4, e7, e8, n1, g1', g2', w1, ↓cnd_true, ↓cnd_false, ↓Option.bind_some, ↓obH_some', bin_add, bin_sub, bin_mul, bin_lss, bin_leq, bin_gtr, bin_geq, bin_eql, bin_neq, un_not, un_neg, Option.bind_some, Option.bind_none, Option.map_some, cnd_true, cnd_false, pickV_true, pickV_false, gd_true, gd_false, gdV_true, gdV_false, gdH_true, gdH_false, gdS_true, gdS_false, wt_ff, wt_tt, wt_ft, wt_tf, wt_undef, obH_some', extractV_tuple, nilCheckV_ptr, againK_normal, againK_exit, againK_ret, blockK_normal, blockK_same, blockK_ret, seqK_normal, seqK_exit, seqK_ret, fin_done, if_true', if_false', Bool.not_true, Bool.not_false, idx0, idx1, idx2, idx3, idx4, chk_nil_l, chk_nil_r, done_nm, up_cons, up_nil, cond_true, cond_false, Nat.reduceBEq]
              refine ih (i + 1) h8 a' c' (by omega) hsh' s8 a8 _ Aa Ad An Ap Ar ?_ ?_ ?_ rfl
              · rw [hsu]; rfl
              · rw [st']; exact Ay
              · rw [st']; exact Az
end Go.Am
namespace Go.Am
open Go.Proofs
set_option maxRecDepth 100000
set_option linter.all false
attribute [local congr] obind_congr obH_congr cnd_congr chk_congr retK_congr codeK_congr
theorem up1_lt {to k : Nat} {r : List Nat} (h : ∀ y ∈ r, y < 2 ^ 64) : ∀ y ∈ up1 to k r, y < 2 ^ 64 := by
  intro y hy
  obtain ⟨j, hj, rfl⟩ := List.getElem_of_mem hy
  rw [up1_len] at hj
  have hg := up1_get to k r j hj
  have := getD_lt r h j
  rw [List.getD_eq_getElem?_getD, List.getElem?_eq_getElem (by rw [up1_len]; exact hj)] at hg
  simp only [Option.getD_some] at hg
  rw [hg]
  split
  · rename_i hc; omega
  · exact this
theorem upM_lt {n : Int} {m : List (List Nat)} (h : ∀ r ∈ m, ∀ y ∈ r, y < 2 ^ 64) (i : Int) (to : Nat) : ∀ r ∈ upM n m i to, ∀ y ∈ r, y < 2 ^ 64 := by
  unfold upM
  split
  · intro r hr
    rcases List.mem_or_eq_of_mem_set hr with h' | rfl
    · exact h r h'
    · refine up1_lt fun y hy => ?_
      rw [List.getD_eq_getElem?_getD] at hy
      cases e : m[i.toNat]? with
      | none => rw [e] at hy; simp at hy
      | some x => rw [e] at hy; exact h x (List.mem_of_getElem? e) y hy
  · exact h
theorem joinV_lt {a b : List Nat} (ha : ∀ y ∈ a, y < 2 ^ 64) (hb : ∀ y ∈ b, y < 2 ^ 64) : ∀ y ∈ joinV a b, y < 2 ^ 64 := by
  intro y hy
  obtain ⟨j, hj, rfl⟩ := List.getElem_of_mem hy
  have hg := joinV_get a b j
  have h1 := getD_lt a ha j
  have h2 := getD_lt b hb j
  rw [List.getD_eq_getElem?_getD, List.getElem?_eq_getElem hj] at hg
  simp only [Option.getD_some] at hg
  omega
theorem getD_row {m : List (List Nat)} (h : ∀ r ∈ m, ∀ y ∈ r, y < 2 ^ 64) (k : Nat) : ∀ y ∈ m.getD k [], y < 2 ^ 64 := by
  intro y hy
  rw [List.getD_eq_getElem?_getD] at hy
  cases e : m[k]? with
  | none => rw [e] at hy; simp at hy
  | some x => rw [e] at hy; exact h x (List.mem_of_getElem? e) y hy
theorem joinM_lt {a b : List (List Nat)} (ha : ∀ r ∈ a, ∀ y ∈ r, y < 2 ^ 64) (hb : ∀ r ∈ b, ∀ y ∈ r, y < 2 ^ 64) : ∀ r ∈ joinM a b, ∀ y ∈ r, y < 2 ^ 64 := by
  intro r hr
  obtain ⟨k, hk, rfl⟩ := List.getElem_of_mem hr
  rw [joinM_len] at hk
  have := joinM_get a b k hk
  rw [List.getD_eq_getElem?_getD, List.getElem?_eq_getElem (by rw [joinM_len]; exact hk)] at this
  simp only [Option.getD_some] at this
  rw [this]
  exact joinV_lt (getD_row ha k) (getD_row hb k)
theorem upV_one {g : List Nat} (hg : ∀ y ∈ g, y < 2 ^ 64) {i : Int} (h0 : 0 ≤ i) (hi : i < g.length) (hl : g.length ≤ 16) :
    (upV g i).1.length = g.length ∧ (∀ y ∈ (upV g i).1, y < 2 ^ 64) ∧ ∃ d : Nat, d ≤ 1 ∧ ∀ j, (upV g i).1.getD j 0 = g.getD j 0 + (if j = i.toNat then d else 0) := by
  obtain ⟨i, rfl⟩ : ∃ k : Nat, i = k := ⟨i.toNat, by omega⟩
  unfold upV
  by_cases hc : (i : Int) < 0 ∨ 64 ≤ (i : Int) ∨ atI g i = 2 ^ 64 - 1
  · rw [if_pos hc]; exact ⟨rfl, hg, 0, by omega, fun j => by simp⟩
  · rw [if_neg hc]
    have hlong : longV g (i + 1) = g := by
      unfold longV
      rw [show i + 1 - g.length = 0 by omega]; simp
    have hat : atI g i = g.getD i 0 := by unfold atI; rw [if_neg (by omega), Int.toNat_natCast]
    have h64 := getD_lt g hg i
    simp only [Int.toNat_natCast, hlong]
    rw [hat] at hc ⊢
    refine ⟨by simp, fun y hy => ?_, 1, by omega, fun j => ?_⟩
    · rcases List.mem_or_eq_of_mem_set hy with h | rfl
      · exact hg y h
      · omega
    · rw [set_getD _ _ _ _ (by omega)]
      by_cases h : j = i
      · subst h; rw [if_pos rfl, if_pos rfl]
      · rw [if_neg h, if_neg h, Nat.add_zero]
variable {n me : Int} {m : List (List Nat)} {g : List Nat}
theorem EnOk.n16 (ok : EnOk n me m g) : 1 ≤ n ∧ n ≤ 16 := by have := (goodM_iff n m).1 ok.gd; exact ⟨this.1.1, this.1.2.1⟩
theorem EnOk.send (ok : EnOk n me m g) (to : Nat) : EnOk n me (upM n m me to) g := ⟨goodM_up ok.gd _ _, ok.me0, ok.men, ok.gl, upM_lt ok.m64 _ _, ok.g64⟩
theorem canE_some {from' : Int} {bs : List UInt8} (h : canFE n me g from' bs = true) : ∃ r, readM n bs = some r ∧ 0 ≤ from' ∧ from' < n ∧ from' ≠ me ∧ canCol g (columnM n r me) = true := by
  unfold canFE at h
  cases hr : readM n bs with
  | none => rw [hr] at h; cases h
  | some r =>
    rw [hr] at h
    simp only [Bool.and_eq_true, decide_eq_true_eq] at h
    exact ⟨r, rfl, h.1.1, h.1.2.1, h.1.2.2, h.2⟩
theorem EnOk.take (ok : EnOk n me m g) (from' : Int) (to : Nat) (bs : List UInt8) : EnOk n me (takeM n me m g from' to bs) (takeG n me g from' bs) := by
  unfold takeM takeG
  split
  · rename_i hc
    obtain ⟨r, hr, h0, h1, _⟩ := canE_some hc
    have hg := readM_good hr
    have hn := ok.n16
    have hu := upV_one ok.g64 h0 (by have := ok.gl; omega) (by have := ok.gl; omega)
    rw [hr]
    exact ⟨goodM_join ok.gd (goodM_up hg.1 _ _), ok.me0, ok.men, by rw [hu.1]; exact ok.gl, joinM_lt ok.m64 (upM_lt hg.2 _ _), hu.2.1⟩
  · exact ok
theorem EnOk.zero (hn : 1 ≤ n ∧ n ≤ 16 ∧ 0 ≤ me ∧ me < n) : EnOk n me (zerosM n.toNat) (List.replicate n.toNat 0) := by
  have e : zerosM n.toNat = List.replicate n.toNat (List.replicate n.toNat 0) := rfl
  refine ⟨(goodM_iff n _).2 ⟨⟨hn.1, hn.2.1, by rw [e, List.length_replicate]; omega⟩, fun r hr => ?_⟩, hn.2.2.1, hn.2.2.2, by simp; omega, fun r hr y hy => ?_, fun y hy => ?_⟩
  · rw [e] at hr; rw [(List.mem_replicate.1 hr).2, List.length_replicate]; omega
  · rw [e] at hr; rw [(List.mem_replicate.1 hr).2] at hy; rw [(List.mem_replicate.1 hy).2]; omega
  · rw [(List.mem_replicate.1 hy).2]; omega
end Go.Am
namespace Go.Am
open Go.Proofs
set_option maxRecDepth 100000
set_option linter.all false
attribute [local congr] obind_congr obH_congr cnd_congr chk_congr retK_congr codeK_congr
theorem En.cl {L : Nat} {h : Heap} {p : Nat} {n me : Int} {m : List (List Nat)} {g : List Nat} (E : En L h p n me m g) : ∃ cs, Cells h p 94 cs := let ⟨_, _, x⟩ := E; ⟨_, x.c⟩
theorem En.modE {L L2 : Nat} {h h' : Heap} {p q : Nat} {n me n2 me2 : Int} {m m2 : List (List Nat)} {g g2 : List Nat} (E : En L h p n me m g) (F : En L2 h q n2 me2 m2 g2) (hpq : p ≠ q) (e : HMod (Just q) h h') : En L h' p n me m g :=
  E.mod e (fun x => hpq x) fun b hb => by have hb : b = q := hb; subst hb; obtain ⟨cs, c⟩ := F.cl; exact ⟨_, _, c, by decide, by decide⟩
theorem ABs.modE {n0 : Nat} {h h' : Heap} {v : Value} {l : List (List UInt8)} (a : ABs n0 h v l) {p : Nat} {cs : List Value} (c : Cells h p 94 cs) (e : HMod (Just p) h h') : ABs n0 h' v l :=
  let ⟨vs, x⟩ := a
  ⟨vs, x.kp fun b all ty hb ht _ => e.old b (List.getElem?_eq_some_iff.1 hb).1 fun hp => by
    have hp : b = p := hp
    subst hp
    have := c.ty hb
    rcases ht with ht | ht
    · exact absurd (this.trans ht) (by decide)
    · exact absurd (this.trans ht) (by decide)⟩
theorem En.modL {L : Nat} {h h' : Heap} {p q s : Nat} {n me n2 me2 : Int} {m : List (List Nat)} {g : List Nat} {num : Nat} {es : List E3} {ns : List Nat} (E : En L h p n me m g) (F : LEn h q s n2 me2 num es ns) (e : HMod (Just q) h h') : En L h' p n me m g := by
  obtain ⟨la, lc, c, _⟩ := F.eng
  refine E.mod e (fun x => ?_) fun b hb => by have hb : b = q := hb; subst hb; exact ⟨_, _, c, by decide, by decide⟩
  have x : p = q := x
  subst x
  obtain ⟨cs, c'⟩ := E.cl
  exact absurd (c'.ty c) (by decide)
theorem LEn.modF {L : Nat} {h h' : Heap} {p q s : Nat} {n me n2 me2 : Int} {m : List (List Nat)} {g : List Nat} {num : Nat} {es : List E3} {ns : List Nat} (F : LEn h q s n2 me2 num es ns) (E : En L h p n me m g) (e : HMod (Just p) h h') : LEn h' q s n2 me2 num es ns := by
  obtain ⟨la, lc, c, _⟩ := F.eng
  obtain ⟨cs, c'⟩ := E.cl
  refine HMod.lEn F e (fun x => ?_) (fun x => ?_) (fun b all hb x => ?_)
  · have x : q = p := x
    subst x
    exact absurd (c.ty c') (by decide)
  · have x : s = p := x
    subst x
    exact absurd (F.seen.ty c') (by decide)
  · have x : b = p := x
    subst x
    exact absurd (c'.ty hb) (by decide)
theorem ins0 {t : Nat} (x : E3) : InsOk (lessE [] t) x := insOk_end rfl (by rw [show lessE [] t = [] from rfl]; decide)
theorem wide0 : wide [] := fun e he => by cases he
theorem hb_num {hs : List HT} (h64 : ∀ y ∈ hs, y.num < 2 ^ 64) : ∀ i, i < hs.length → ∀ (y : HT), hs[i]? = some y → y.num < 2 ^ 64 := fun i hi y hy => h64 y (List.mem_of_getElem? hy)
theorem os_bad (b : Bool) (n me : Int) (hok : ¬ okN n me) (v : Value) (to : Nat) (h : Heap) : ∃ h', evC Tryd.prog 3 #[.bool b, .int .i64 n, .int .i64 me, v, .int .u64 to] h = some (.bool true, h') := by
  rw [call3]
  obtain ⟨h1, e1,Ab⟩ := spec_awake20 (nm h)
  have hb := bad_of hok
  unfold badNew at hb
  cases b with
  | false =>
    obtain ⟨h2, e2,Ac⟩ := spec_ONewF0 n me hok h1
    by_cases g1 : n < 1
    · simp -implicitDefEqProofs (disch := omega) only [↓c3_0_eq, dcT, dcF, decide_true, eq_self, e1, e2, nilO0, ↓ret3, ↓cnd_true, ↓cnd_false, ↓Option.bind_some, ↓obH_some', bin_add, bin_sub, bin_mul, bin_lss, bin_leq, bin_gtr, bin_geq, bin_eql, bin_neq, un_not, un_neg, Option.bind_some, Option.bind_none, Option.map_some, cnd_true, cnd_false, pickV_true, pickV_false, gd_true, gd_false, gdV_true, gdV_false, gdH_true, gdH_false, gdS_true, gdS_false, wt_ff, wt_tt, wt_ft, wt_tf, wt_undef, obH_some', extractV_tuple, nilCheckV_ptr, againK_normal, againK_exit, againK_ret, blockK_normal, blockK_same, blockK_ret, seqK_normal, seqK_exit, seqK_ret, fin_done, if_true', if_false', Bool.not_true, Bool.not_false, idx0, idx1, idx2, idx3, idx4, chk_nil_l, chk_nil_r, done_nm, up_cons, up_nil, cond_true, cond_false, Nat.reduceBEq]; exact ⟨_, rfl⟩
    · by_cases g2 : n > 16
      · simp -implicitDefEqProofs (disch := omega) only [↓c3_0_eq, dcT, dcF, decide_true, eq_self, e1, e2, nilO0, ↓ret3, ↓cnd_true, ↓cnd_false, ↓Option.bind_some, ↓obH_some', bin_add, bin_sub, bin_mul, bin_lss, bin_leq, bin_gtr, bin_geq, bin_eql, bin_neq, un_not, un_neg, Option.bind_some, Option.bind_none, Option.map_some, cnd_true, cnd_false, pickV_true, pickV_false, gd_true, gd_false, gdV_true, gdV_false, gdH_true, gdH_false, gdS_true, gdS_false, wt_ff, wt_tt, wt_ft, wt_tf, wt_undef, obH_some', extractV_tuple, nilCheckV_ptr, againK_normal, againK_exit, againK_ret, blockK_normal, blockK_same, blockK_ret, seqK_normal, seqK_exit, seqK_ret, fin_done, if_true', if_false', Bool.not_true, Bool.not_false, idx0, idx1, idx2, idx3, idx4, chk_nil_l, chk_nil_r, done_nm, up_cons, up_nil, cond_true, cond_false, Nat.reduceBEq]; exact ⟨_, rfl⟩
      · by_cases g3 : me < 0
        · simp -implicitDefEqProofs (disch := omega) only [↓c3_0_eq, dcT, dcF, decide_true, eq_self, e1, e2, nilO0, ↓ret3, ↓cnd_true, ↓cnd_false, ↓Option.bind_some, ↓obH_some', bin_add, bin_sub, bin_mul, bin_lss, bin_leq, bin_gtr, bin_geq, bin_eql, bin_neq, un_not, un_neg, Option.bind_some, Option.bind_none, Option.map_some, cnd_true, cnd_false, pickV_true, pickV_false, gd_true, gd_false, gdV_true, gdV_false, gdH_true, gdH_false, gdS_true, gdS_false, wt_ff, wt_tt, wt_ft, wt_tf, wt_undef, obH_some', extractV_tuple, nilCheckV_ptr, againK_normal, againK_exit, againK_ret, blockK_normal, blockK_same, blockK_ret, seqK_normal, seqK_exit, seqK_ret, fin_done, if_true', if_false', Bool.not_true, Bool.not_false, idx0, idx1, idx2, idx3, idx4, chk_nil_l, chk_nil_r, done_nm, up_cons, up_nil, cond_true, cond_false, Nat.reduceBEq]; exact ⟨_, rfl⟩
        · have g4 : me ≥ n := by omega
          simp -implicitDefEqProofs (disch := omega) only [↓c3_0_eq, dcT, dcF, decide_true, eq_self, e1, e2, nilO0, ↓ret3, ↓cnd_true, ↓cnd_false, ↓Option.bind_some, ↓obH_some', bin_add, bin_sub, bin_mul, bin_lss, bin_leq, bin_gtr, bin_geq, bin_eql, bin_neq, un_not, un_neg, Option.bind_some, Option.bind_none, Option.map_some, cnd_true, cnd_false, pickV_true, pickV_false, gd_true, gd_false, gdV_true, gdV_false, gdH_true, gdH_false, gdS_true, gdS_false, wt_ff, wt_tt, wt_ft, wt_tf, wt_undef, obH_some', extractV_tuple, nilCheckV_ptr, againK_normal, againK_exit, againK_ret, blockK_normal, blockK_same, blockK_ret, seqK_normal, seqK_exit, seqK_ret, fin_done, if_true', if_false', Bool.not_true, Bool.not_false, idx0, idx1, idx2, idx3, idx4, chk_nil_l, chk_nil_r, done_nm, up_cons, up_nil, cond_true, cond_false, Nat.reduceBEq]; exact ⟨_, rfl⟩
  | true =>
    obtain ⟨h2, e2,Ac⟩ := spec_ONewL0 n me hok h1
    by_cases g1 : n < 1
    · simp -implicitDefEqProofs (disch := omega) only [↓c3_0_eq, dcT, dcF, decide_true, eq_self, e1, e2, nilO0, ↓ret3, ↓cnd_true, ↓cnd_false, ↓Option.bind_some, ↓obH_some', bin_add, bin_sub, bin_mul, bin_lss, bin_leq, bin_gtr, bin_geq, bin_eql, bin_neq, un_not, un_neg, Option.bind_some, Option.bind_none, Option.map_some, cnd_true, cnd_false, pickV_true, pickV_false, gd_true, gd_false, gdV_true, gdV_false, gdH_true, gdH_false, gdS_true, gdS_false, wt_ff, wt_tt, wt_ft, wt_tf, wt_undef, obH_some', extractV_tuple, nilCheckV_ptr, againK_normal, againK_exit, againK_ret, blockK_normal, blockK_same, blockK_ret, seqK_normal, seqK_exit, seqK_ret, fin_done, if_true', if_false', Bool.not_true, Bool.not_false, idx0, idx1, idx2, idx3, idx4, chk_nil_l, chk_nil_r, done_nm, up_cons, up_nil, cond_true, cond_false, Nat.reduceBEq]; exact ⟨_, rfl⟩
    · by_cases g2 : n > 16
      · simp -implicitDefEqProofs (disch := omega) only [↓c3_0_eq, dcT, dcF, decide_true, eq_self, e1, e2, nilO0, ↓ret3, ↓cnd_true, ↓cnd_false, ↓Option.bind_some, ↓obH_some', bin_add, bin_sub, bin_mul, bin_lss, bin_leq, bin_gtr, bin_geq, bin_eql, bin_neq, un_not, un_neg, Option.bind_some, Option.bind_none, Option.map_some, cnd_true, cnd_false, pickV_true, pickV_false, gd_true, gd_false, gdV_true, gdV_false, gdH_true, gdH_false, gdS_true, gdS_false, wt_ff, wt_tt, wt_ft, wt_tf, wt_undef, obH_some', extractV_tuple, nilCheckV_ptr, againK_normal, againK_exit, againK_ret, blockK_normal, blockK_same, blockK_ret, seqK_normal, seqK_exit, seqK_ret, fin_done, if_true', if_false', Bool.not_true, Bool.not_false, idx0, idx1, idx2, idx3, idx4, chk_nil_l, chk_nil_r, done_nm, up_cons, up_nil, cond_true, cond_false, Nat.reduceBEq]; exact ⟨_, rfl⟩
      · by_cases g3 : me < 0
        · simp -implicitDefEqProofs (disch := omega) only [↓c3_0_eq, dcT, dcF, decide_true, eq_self, e1, e2, nilO0, ↓ret3, ↓cnd_true, ↓cnd_false, ↓Option.bind_some, ↓obH_some', bin_add, bin_sub, bin_mul, bin_lss, bin_leq, bin_gtr, bin_geq, bin_eql, bin_neq, un_not, un_neg, Option.bind_some, Option.bind_none, Option.map_some, cnd_true, cnd_false, pickV_true, pickV_false, gd_true, gd_false, gdV_true, gdV_false, gdH_true, gdH_false, gdS_true, gdS_false, wt_ff, wt_tt, wt_ft, wt_tf, wt_undef, obH_some', extractV_tuple, nilCheckV_ptr, againK_normal, againK_exit, againK_ret, blockK_normal, blockK_same, blockK_ret, seqK_normal, seqK_exit, seqK_ret, fin_done, if_true', if_false', Bool.not_true, Bool.not_false, idx0, idx1, idx2, idx3, idx4, chk_nil_l, chk_nil_r, done_nm, up_cons, up_nil, cond_true, cond_false, Nat.reduceBEq]; exact ⟨_, rfl⟩
        · have g4 : me ≥ n := by omega
          simp -implicitDefEqProofs (disch := omega) only [↓c3_0_eq, dcT, dcF, decide_true, eq_self, e1, e2, nilO0, ↓ret3, ↓cnd_true, ↓cnd_false, ↓Option.bind_some, ↓obH_some', bin_add, bin_sub, bin_mul, bin_lss, bin_leq, bin_gtr, bin_geq, bin_eql, bin_neq, un_not, un_neg, Option.bind_some, Option.bind_none, Option.map_some, cnd_true, cnd_false, pickV_true, pickV_false, gd_true, gd_false, gdV_true, gdV_false, gdH_true, gdH_false, gdS_true, gdS_false, wt_ff, wt_tt, wt_ft, wt_tf, wt_undef, obH_some', extractV_tuple, nilCheckV_ptr, againK_normal, againK_exit, againK_ret, blockK_normal, blockK_same, blockK_ret, seqK_normal, seqK_exit, seqK_ret, fin_done, if_true', if_false', Bool.not_true, Bool.not_false, idx0, idx1, idx2, idx3, idx4, chk_nil_l, chk_nil_r, done_nm, up_cons, up_nil, cond_true, cond_false, Nat.reduceBEq]; exact ⟨_, rfl⟩
theorem os_full (n me : Int) (hok : okN n me) {v : Value} {hs : List HT} (to : Nat) (hto : to < 2 ^ 64) (h : Heap) (sv : SHd h v hs) (h64 : ∀ y ∈ hs, y.num < 2 ^ 64) : ∃ h', evC Tryd.prog 3 #[.bool false, .int .i64 n, .int .i64 me, v, .int .u64 to] h = some (.bool true, h') := by
  rw [call3]
  obtain ⟨va, vc, rfl⟩ := sv.shape
  obtain ⟨h1, e1,Ab⟩ := spec_awake20 (nm h)
  obtain ⟨q, h2, e2,Ac, hq, E2⟩ := spec_ONewF n me hok h1
  have hk := hok
  unfold okN at hk
  obtain ⟨k1, k2, k3, k4⟩ := hk
  by_cases hl : hs.length > 20
  · simp -implicitDefEqProofs (disch := omega) only [↓c3_0_eq, dcT, dcF, decide_true, eq_self, e1, e2, nilO, nilN, lnHd, ↓ret3, ↓cnd_true, ↓cnd_false, ↓Option.bind_some, ↓obH_some', bin_add, bin_sub, bin_mul, bin_lss, bin_leq, bin_gtr, bin_geq, bin_eql, bin_neq, un_not, un_neg, Option.bind_some, Option.bind_none, Option.map_some, cnd_true, cnd_false, pickV_true, pickV_false, gd_true, gd_false, gdV_true, gdV_false, gdH_true, gdH_false, gdS_true, gdS_false, wt_ff, wt_tt, wt_ft, wt_tf, wt_undef, obH_some', extractV_tuple, nilCheckV_ptr, againK_normal, againK_exit, againK_ret, blockK_normal, blockK_same, blockK_ret, seqK_normal, seqK_exit, seqK_ret, fin_done, if_true', if_false', Bool.not_true, Bool.not_false, idx0, idx1, idx2, idx3, idx4, chk_nil_l, chk_nil_r, done_nm, up_cons, up_nil, cond_true, cond_false, Nat.reduceBEq]; exact ⟨_, rfl⟩
  by_cases ht : to > 65535
  · simp -implicitDefEqProofs (disch := omega) only [↓c3_0_eq, dcT, dcF, decide_true, eq_self, e1, e2, nilO, nilN, lnHd, ↓ret3, ↓cnd_true, ↓cnd_false, ↓Option.bind_some, ↓obH_some', bin_add, bin_sub, bin_mul, bin_lss, bin_leq, bin_gtr, bin_geq, bin_eql, bin_neq, un_not, un_neg, Option.bind_some, Option.bind_none, Option.map_some, cnd_true, cnd_false, pickV_true, pickV_false, gd_true, gd_false, gdV_true, gdV_false, gdH_true, gdH_false, gdS_true, gdS_false, wt_ff, wt_tt, wt_ft, wt_tf, wt_undef, obH_some', extractV_tuple, nilCheckV_ptr, againK_normal, againK_exit, againK_ret, blockK_normal, blockK_same, blockK_ret, seqK_normal, seqK_exit, seqK_ret, fin_done, if_true', if_false', Bool.not_true, Bool.not_false, idx0, idx1, idx2, idx3, idx4, chk_nil_l, chk_nil_r, done_nm, up_cons, up_nil, cond_true, cond_false, Nat.reduceBEq]; exact ⟨_, rfl⟩
  obtain ⟨p, h3, e3,Ad, hp, E3⟩ := spec_fullNew n me hok h2
  obtain ⟨n, rfl⟩ : ∃ m : Nat, n = m := ⟨n.toNat, by omega⟩
  obtain ⟨h4, e4,Ae, l4⟩ := spec_leanNew n me (by omega) (by omega) (by omega) (by omega) h3
  generalize h3.blks.length + 1 = p2 at *
  generalize h3.blks.length = s2 at *
  obtain ⟨_, cq⟩ := E2.cl
  have hqp : q ≠ p := by have := cq.lt; omega
  have ok0 := EnOk.zero (n := n) (me := me) hok
  have ok1 := ok0.send (toE n me to)
  obtain ⟨sv1, h5, e5,Af, E5, A5⟩ := spec_ESend (E3.ext Ae) (by have := Ad.len; have := Ae.len; omega) ok0 to hto
  have F5 := ((E2.ext Ad).ext Ae).modE (E3.ext Ae) hqp Af
  have l5 := l4.modF (E3.ext Ae) Af
  obtain ⟨tv1, h6, e6,Ag, E6, A6⟩ := spec_ESend F5 (by have := Ac.len; have := Ad.len; have := Ae.len; have := Af.len; omega) ok0 to hto
  have E6' := E5.modE F5 (Ne.symm hqp) Ag
  obtain ⟨_, cq5⟩ := F5.cl
  have A56 := A5.modE cq5 Ag
  have l6 := l5.modF F5 Ag
  have e7 := spec_KindF (.pointer (some ⟨q, 0, none⟩)) h6
  have ls := A56.len
  have lt := A6.len
  have l1 := Ab.len
  have l2 := Ac.len
  have l3 := Ad.len
  have l4' := Ae.len
  have l5' := Af.len
  simp only [nm_blks] at l1
  have s04 : Same h h4 := Same.trans (b := nm h) ⟨Nat.le_refl _, fun _ _ => rfl⟩ ((((Ab.same).trans Ac.same).trans Ad.same).trans Ae.same)
  have s06 : Same h h6 := ⟨Nat.le_trans s04.1 (Nat.le_trans Af.len Ag.len), fun b hb => (Ag.old b (by omega) (fun e => by have e : b = q := e; omega)).trans ((Af.old b (by omega) (fun e => by have e : b = p := e; omega)).trans (s04.2 b hb))⟩
  have sv6 := sv.same s06
  have main := main_loop (h0 := h) (h1 := h6) (b := false) (canO_full (p := q) ok1) (canD_full (p := p) ok1) (canD_lean (p := p2) (s := s2)) (cn := _) (fun fr k bs => by rw [if_neg (by decide)]) E6 E6' l6 sv6 (by omega) (hb_num h64) hs.length 0 h6 none 0 (by omega) (fun j hj => absurd hj (Nat.not_lt_zero j)) (Same.refl _) .nil
  simp -implicitDefEqProofs (disch := omega) only [↓c3_0_eq, dcT, dcF, decide_true, eq_self, e1, e2, e3, e4, e5, nilO, nilN, lnHd, invFS, e6, e7, ls, lt, ↓cnd_true, ↓cnd_false, ↓Option.bind_some, ↓obH_some', bin_add, bin_sub, bin_mul, bin_lss, bin_leq, bin_gtr, bin_geq, bin_eql, bin_neq, un_not, un_neg, Option.bind_some, Option.bind_none, Option.map_some, cnd_true, cnd_false, pickV_true, pickV_false, gd_true, gd_false, gdV_true, gdV_false, gdH_true, gdH_false, gdS_true, gdS_false, wt_ff, wt_tt, wt_ft, wt_tf, wt_undef, obH_some', extractV_tuple, nilCheckV_ptr, againK_normal, againK_exit, againK_ret, blockK_normal, blockK_same, blockK_ret, seqK_normal, seqK_exit, seqK_ret, fin_done, if_true', if_false', Bool.not_true, Bool.not_false, idx0, idx1, idx2, idx3, idx4, chk_nil_l, chk_nil_r, done_nm, up_cons, up_nil, cond_true, cond_false, Nat.reduceBEq]
  refine stamp_cmp (Q := fun r => ∃ h', r = some (.bool true, h')) (b := .bool false) (iv := .iface 30 (.pointer (some ⟨q, 0, none⟩))) (v := .slice va hs.length vc) (px := .pointer (some ⟨p, 0, none⟩)) (py := .pointer (some ⟨p2, 0, none⟩)) A56 A6 ?_ _ ?_ _ 0 (Nat.zero_add _).symm _ ?_ ?_ ?_ ?_ ?_ ?_ ?_ ?_
  · have := pop_lt (toE n me to); rw [List.length_replicate]; omega
  · intro x Aa Ad An Ap Ar
    simp -implicitDefEqProofs (disch := omega) only [↓c3_2_eq, ↓cnd_true, ↓cnd_false, ↓Option.bind_some, ↓obH_some', bin_add, bin_sub, bin_mul, bin_lss, bin_leq, bin_gtr, bin_geq, bin_eql, bin_neq, un_not, un_neg, Option.bind_some, Option.bind_none, Option.map_some, cnd_true, cnd_false, pickV_true, pickV_false, gd_true, gd_false, gdV_true, gdV_false, gdH_true, gdH_false, gdS_true, gdS_false, wt_ff, wt_tt, wt_ft, wt_tf, wt_undef, obH_some', extractV_tuple, nilCheckV_ptr, againK_normal, againK_exit, againK_ret, blockK_normal, blockK_same, blockK_ret, seqK_normal, seqK_exit, seqK_ret, fin_done, if_true', if_false', Bool.not_true, Bool.not_false, idx0, idx1, idx2, idx3, idx4, chk_nil_l, chk_nil_r, done_nm, up_cons, up_nil, cond_true, cond_false, Nat.reduceBEq]
    refine main _ ?_ ?_ ?_ ?_ ?_ ?_ ?_ ?_ ?_
    · exact Aa
    · exact Ad
    · exact An
    · exact Ap
    · exact Ar
    all_goals rfl
  all_goals rfl
theorem os_lean (n me : Int) (hok : okN n me) {v : Value} {hs : List HT} (to : Nat) (hto : to < 2 ^ 64) (h : Heap) (sv : SHd h v hs) (h64 : ∀ y ∈ hs, y.num < 2 ^ 64) : ∃ h', evC Tryd.prog 3 #[.bool true, .int .i64 n, .int .i64 me, v, .int .u64 to] h = some (.bool true, h') := by
  rw [call3]
  obtain ⟨va, vc, rfl⟩ := sv.shape
  obtain ⟨h1, e1,Ab⟩ := spec_awake20 (nm h)
  obtain ⟨n, rfl⟩ : ∃ m : Nat, n = m := ⟨n.toNat, by have := hok.1; omega⟩
  obtain ⟨q, s, h2, e2,Ac, hq, hs', hqs, E2⟩ := spec_ONewL n me hok h1
  have hk := hok
  unfold okN at hk
  obtain ⟨k1, k2, k3, k4⟩ := hk
  by_cases hl : hs.length > 20
  · simp -implicitDefEqProofs (disch := omega) only [↓c3_0_eq, dcT, dcF, decide_true, eq_self, e1, e2, nilO, nilN, lnHd, ↓ret3, ↓cnd_true, ↓cnd_false, ↓Option.bind_some, ↓obH_some', bin_add, bin_sub, bin_mul, bin_lss, bin_leq, bin_gtr, bin_geq, bin_eql, bin_neq, un_not, un_neg, Option.bind_some, Option.bind_none, Option.map_some, cnd_true, cnd_false, pickV_true, pickV_false, gd_true, gd_false, gdV_true, gdV_false, gdH_true, gdH_false, gdS_true, gdS_false, wt_ff, wt_tt, wt_ft, wt_tf, wt_undef, obH_some', extractV_tuple, nilCheckV_ptr, againK_normal, againK_exit, againK_ret, blockK_normal, blockK_same, blockK_ret, seqK_normal, seqK_exit, seqK_ret, fin_done, if_true', if_false', Bool.not_true, Bool.not_false, idx0, idx1, idx2, idx3, idx4, chk_nil_l, chk_nil_r, done_nm, up_cons, up_nil, cond_true, cond_false, Nat.reduceBEq]; exact ⟨_, rfl⟩
  by_cases ht : to > 65535
  · simp -implicitDefEqProofs (disch := omega) only [↓c3_0_eq, dcT, dcF, decide_true, eq_self, e1, e2, nilO, nilN, lnHd, ↓ret3, ↓cnd_true, ↓cnd_false, ↓Option.bind_some, ↓obH_some', bin_add, bin_sub, bin_mul, bin_lss, bin_leq, bin_gtr, bin_geq, bin_eql, bin_neq, un_not, un_neg, Option.bind_some, Option.bind_none, Option.map_some, cnd_true, cnd_false, pickV_true, pickV_false, gd_true, gd_false, gdV_true, gdV_false, gdH_true, gdH_false, gdS_true, gdS_false, wt_ff, wt_tt, wt_ft, wt_tf, wt_undef, obH_some', extractV_tuple, nilCheckV_ptr, againK_normal, againK_exit, againK_ret, blockK_normal, blockK_same, blockK_ret, seqK_normal, seqK_exit, seqK_ret, fin_done, if_true', if_false', Bool.not_true, Bool.not_false, idx0, idx1, idx2, idx3, idx4, chk_nil_l, chk_nil_r, done_nm, up_cons, up_nil, cond_true, cond_false, Nat.reduceBEq]; exact ⟨_, rfl⟩
  obtain ⟨p, h3, e3,Ad, hp, E3⟩ := spec_fullNew n me hok h2
  obtain ⟨h4, e4,Ae, l4⟩ := spec_leanNew n me (by omega) (by omega) (by omega) (by omega) h3
  have l2h : h1.blks.length ≤ h2.blks.length := Ac.len
  have l3h : h2.blks.length ≤ h3.blks.length := Ad.len
  obtain ⟨_, _, ceq, _⟩ := E2.eng
  have lq := ceq.lt
  have lsn := E2.seen.lt
  have hp2 : h3.blks.length + 1 ≠ q := by omega
  have hs2 : h3.blks.length ≠ s := by omega
  have hge : h3.blks.length ≤ h3.blks.length + 1 := by omega
  have hps2 : h3.blks.length + 1 ≠ h3.blks.length := by omega
  generalize hp2' : h3.blks.length + 1 = p2 at *
  have ok0 := EnOk.zero (n := n) (me := me) hok
  have ls2 := l4
  obtain ⟨sv1, h5, e5,Af, E5, A5⟩ := spec_Send l4 (by omega) wide0 (by decide) (by omega) to hto hps2 (ins0 _)
  have F5 := LEn.others l4 Af (fun b hb => .inl hb) ((E2.same Ad.same).same Ae.same) (Ne.symm hp2) (Ne.symm hs2)
  have X5 := (E3.ext Ae).modL l4 Af
  obtain ⟨tv1, h6, e6,Ag, E6, A6⟩ := spec_Send F5 (by omega) wide0 (by decide) (by omega) to hto hqs (ins0 _)
  have E6' := LEn.others F5 Ag (fun b hb => .inl hb) E5 hp2 hs2
  have X6 := X5.modL F5 Ag
  have A56 := LEn.rows F5 Ag (fun b hb => .inl hb) A5
  have e7 := spec_KindL (.pointer (some ⟨q, 0, none⟩)) h6
  have ls := A56.len
  have lt := A6.len
  have l1 := Ab.len
  have l4' := Ae.len
  have l5' := Af.len
  simp only [nm_blks] at l1
  have s04 : Same h h4 := Same.trans (b := nm h) ⟨Nat.le_refl _, fun _ _ => rfl⟩ ((((Ab.same).trans Ac.same).trans Ad.same).trans Ae.same)
  have s06 : Same h h6 := ⟨Nat.le_trans s04.1 (Nat.le_trans Af.len Ag.len), fun b hb => (Ag.old b (by omega) (fun e => by have e : b = q := e; omega)).trans ((Af.old b (by omega) (fun e => by have e : b = p2 := e; omega)).trans (s04.2 b hb))⟩
  have sv6 := sv.same s06
  have main := main_loop (h0 := h) (h1 := h6) (b := true) (canO_lean (p := q) (s := s)) (canD_full (p := p) ok0) (canD_lean (p := p2)) (cn := _) (fun fr k bs => by rw [if_pos rfl]) E6 X6 E6' sv6 (by omega) (hb_num h64) hs.length 0 h6 none 0 (by omega) (fun j hj => absurd hj (Nat.not_lt_zero j)) (Same.refl _) .nil
  simp -implicitDefEqProofs (disch := omega) only [↓c3_0_eq, dcT, dcF, decide_true, eq_self, e1, e2, e3, e4, e5, nilO, nilN, lnHd, invLS, e6, e7, ls, lt, ↓cnd_true, ↓cnd_false, ↓Option.bind_some, ↓obH_some', bin_add, bin_sub, bin_mul, bin_lss, bin_leq, bin_gtr, bin_geq, bin_eql, bin_neq, un_not, un_neg, Option.bind_some, Option.bind_none, Option.map_some, cnd_true, cnd_false, pickV_true, pickV_false, gd_true, gd_false, gdV_true, gdV_false, gdH_true, gdH_false, gdS_true, gdS_false, wt_ff, wt_tt, wt_ft, wt_tf, wt_undef, obH_some', extractV_tuple, nilCheckV_ptr, againK_normal, againK_exit, againK_ret, blockK_normal, blockK_same, blockK_ret, seqK_normal, seqK_exit, seqK_ret, fin_done, if_true', if_false', Bool.not_true, Bool.not_false, idx0, idx1, idx2, idx3, idx4, chk_nil_l, chk_nil_r, done_nm, up_cons, up_nil, cond_true, cond_false, Nat.reduceBEq]
  refine stamp_cmp (Q := fun r => ∃ h', r = some (.bool true, h')) (b := .bool true) (iv := .iface 33 (.pointer (some ⟨q, 0, none⟩))) (v := .slice va hs.length vc) (px := .pointer (some ⟨p, 0, none⟩)) (py := .pointer (some ⟨p2, 0, none⟩)) A56 A6 ?_ _ ?_ _ 0 (Nat.zero_add _).symm _ ?_ ?_ ?_ ?_ ?_ ?_ ?_ ?_
  · have := listW_len (sendT n me to) (Nat.lt_of_le_of_lt Nat.and_le_left hto); rw [List.length_map]; omega
  · intro x Aa Ad An Ap Ar
    simp -implicitDefEqProofs (disch := omega) only [↓c3_2_eq, ↓cnd_true, ↓cnd_false, ↓Option.bind_some, ↓obH_some', bin_add, bin_sub, bin_mul, bin_lss, bin_leq, bin_gtr, bin_geq, bin_eql, bin_neq, un_not, un_neg, Option.bind_some, Option.bind_none, Option.map_some, cnd_true, cnd_false, pickV_true, pickV_false, gd_true, gd_false, gdV_true, gdV_false, gdH_true, gdH_false, gdS_true, gdS_false, wt_ff, wt_tt, wt_ft, wt_tf, wt_undef, obH_some', extractV_tuple, nilCheckV_ptr, againK_normal, againK_exit, againK_ret, blockK_normal, blockK_same, blockK_ret, seqK_normal, seqK_exit, seqK_ret, fin_done, if_true', if_false', Bool.not_true, Bool.not_false, idx0, idx1, idx2, idx3, idx4, chk_nil_l, chk_nil_r, done_nm, up_cons, up_nil, cond_true, cond_false, Nat.reduceBEq]
    refine main _ ?_ ?_ ?_ ?_ ?_ ?_ ?_ ?_ ?_
    · exact Aa
    · exact Ad
    · exact An
    · exact Ap
    · exact Ar
    all_goals rfl
  all_goals rfl
theorem Rd.boolO {h : Heap} {t : TypeId} {v : Value} {d : DT} (r : Rd Tryd.prog h t v d) (hu : Tryd.prog.underlying t = some .bool) : ∃ b, v = .bool b := by
  obtain ⟨f, a⟩ := r.one (by unfold isStruct; rw [hu])
  obtain ⟨n, _, e⟩ := reads_bool hu a
  exact ⟨n, by injection e⟩
theorem law_OrderSays (h : Heap) (vs : List Value) (dd : List DT) (r : RdAll Tryd.prog h [4, 3, 3, 22, 23] vs dd) : ∃ h', evC Tryd.prog 3 vs.toArray h = some (.bool true, h') := by
  obtain ⟨v0, d0, vs', ds', rfl, rfl, r0, r1⟩ := r.cons_inv
  obtain ⟨v1, d1, vs', ds', rfl, rfl, ra, r2⟩ := r1.cons_inv
  obtain ⟨v2, d2, vs', ds', rfl, rfl, rb, r3⟩ := r2.cons_inv
  obtain ⟨v3, d3, vs', ds', rfl, rfl, rc, r4⟩ := r3.cons_inv
  obtain ⟨v4, d4, vs', ds', rfl, rfl, rd, r5⟩ := r4.cons_inv
  obtain ⟨rfl, rfl⟩ := r5.nil_inv
  obtain ⟨b, rfl⟩ := r0.boolO (by kernel_rfl)
  obtain ⟨n, rfl, _⟩ := ra.i64 (by kernel_rfl)
  obtain ⟨me, rfl, _⟩ := rb.i64 (by kernel_rfl)
  obtain ⟨hs, sh, h64⟩ := rc.acts
  obtain ⟨to, rfl, hto⟩ := rd.u64 (by kernel_rfl)
  show ∃ h', evC Tryd.prog 3 #[.bool b, .int .i64 n, .int .i64 me, v3, .int .u64 to] h = some (.bool true, h')
  by_cases hok : okN n me
  · cases b with
    | false => exact os_full n me hok to (by omega) h sh h64
    | true => exact os_lean n me hok to (by omega) h sh h64
  · exact os_bad b n me hok v3 to h
end Go.Am
namespace Go.Am.Z
open Go.Proofs
set_option maxRecDepth 100000
set_option linter.all false
@[reducible] def xt0 : Xt Tryd.prog := ⟨fun _ => none⟩
@[reducible] def gl0 : Gl Tryd.prog := ⟨none⟩
attribute [local instance] xt0 gl0
theorem xm0 : XtM Tryd.prog := ⟨fun _ _ h => by cases h⟩
theorem xo0 : XtOk Tryd.prog := ⟨fun _ _ h => (by cases h), fun _ _ _ h => (by cases h)⟩
attribute [local instance] xm0 xo0
section
variable {β : Type}
noncomputable abbrev ev : Ev := evC Tryd.prog
noncomputable abbrev cK (c : Code) (n : Nat) (x : Nat → Value) (h : Heap) (k : Ex → St → Option β) : Option β := codeK Tryd.prog (evC Tryd.prog) loopL c ⟨ar n x, h⟩ k
noncomputable abbrev lK (c : Code) (n : Nat) (x : Nat → Value) (h : Heap) (k : Ex → St → Option β) : Option β := loopK Tryd.prog (evC Tryd.prog) c ⟨ar n x, h⟩ k
noncomputable abbrev sK (c : Code) (k : Ex → St → Option β) : Ex → St → Option β := seqK Tryd.prog (evC Tryd.prog) c k
noncomputable abbrev rD (ops : Array Oper) (j n : Nat) (x : Nat → Value) (h : Heap) (r m : List Nat) (k : St → Option β) : Option β := regD Tryd.prog (evC Tryd.prog) ops j ⟨ar n x, h⟩ r m k
variable (x : Nat → Value) (h : Heap) (k : Ex → St → Option β) (r m : List Nat) (g : Heap)
noncomputable def c89_0 : Code := bodyC Tryd.f89 []
theorem c89_0_eq : cK c89_0 6 x h k =
(bn .neq 3 (x 0) (x 0)).bind fun v0 =>
k .ret ⟨ar 6 (up x [(2,v0),(3,(x 0)),(4,(x 0)),(5,v0)]), h⟩ := by kernel_rfl
theorem call89 (a0 : Value) : evC Tryd.prog 89 #[a0] h = cK c89_0 6 (up un [(0,a0)]) (nm h) (retK Tryd.f89 Tryd.prog h) :=
  (evC_call 89 Tryd.f89 c89_0 Tryd.func89 (by kernel_rfl) #[a0] h).trans (by kernel_rfl)
theorem ret89 : retK Tryd.f89 Tryd.prog g .ret ⟨ar 6 x, h⟩ = fin g (some (x 2)) h := by kernel_rfl
noncomputable def c90_0 : Code := bodyC Tryd.f90 []
theorem c90_0_eq : cK c90_0 6 x h k =
(bn .neq 23 (x 0) (x 0)).bind fun v0 =>
k .ret ⟨ar 6 (up x [(2,v0),(3,(x 0)),(4,(x 0)),(5,v0)]), h⟩ := by kernel_rfl
theorem call90 (a0 : Value) : evC Tryd.prog 90 #[a0] h = cK c90_0 6 (up un [(0,a0)]) (nm h) (retK Tryd.f90 Tryd.prog h) :=
  (evC_call 90 Tryd.f90 c90_0 Tryd.func90 (by kernel_rfl) #[a0] h).trans (by kernel_rfl)
theorem ret90 : retK Tryd.f90 Tryd.prog g .ret ⟨ar 6 x, h⟩ = fin g (some (x 2)) h := by kernel_rfl
noncomputable def c76_0 : Code := bodyC Tryd.f76 []
theorem c76_0_eq : cK c76_0 20 x h k =
obH (ev 89 #[x 0] h) fun v0 h1 =>
obH (ev 89 #[x 1] h1) fun v2 h3 =>
cnd v0 (
cnd v2 (
k .ret ⟨ar 20 (up x [(4,(.int .i64 0)),(5,v0),(6,v2),(7,(x 0)),(8,v0),(9,(x 1)),(10,v2),(11,v0),(12,v2)]), h3⟩) (
k .ret ⟨ar 20 (up x [(4,(.int .i64 (-1))),(5,v0),(6,v2),(7,(x 0)),(8,v0),(9,(x 1)),(10,v2),(11,v0),(12,v2)]), h3⟩)) (
cnd v2 (
k .ret ⟨ar 20 (up x [(4,(.int .i64 1)),(5,v0),(6,v2),(7,(x 0)),(8,v0),(9,(x 1)),(10,v2),(11,v0),(13,v2)]), h3⟩) (
(bn .lss 3 (x 0) (x 1)).bind fun v4 =>
cnd v4 (
k .ret ⟨ar 20 (up x [(4,(.int .i64 (-1))),(5,v0),(6,v2),(7,(x 0)),(8,v0),(9,(x 1)),(10,v2),(11,v0),(13,v2),(14,(x 0)),(15,(x 1)),(16,v4)]), h3⟩) (
(bn .gtr 3 (x 0) (x 1)).bind fun v5 =>
cnd v5 (
k .ret ⟨ar 20 (up x [(4,(.int .i64 1)),(5,v0),(6,v2),(7,(x 0)),(8,v0),(9,(x 1)),(10,v2),(11,v0),(13,v2),(14,(x 0)),(15,(x 1)),(16,v4),(17,(x 0)),(18,(x 1)),(19,v5)]), h3⟩) (
k .ret ⟨ar 20 (up x [(4,(.int .i64 0)),(5,v0),(6,v2),(7,(x 0)),(8,v0),(9,(x 1)),(10,v2),(11,v0),(13,v2),(14,(x 0)),(15,(x 1)),(16,v4),(17,(x 0)),(18,(x 1)),(19,v5)]), h3⟩)))) := by kernel_rfl
theorem call76 (a0 a1 : Value) : evC Tryd.prog 76 #[a0,a1] h = cK c76_0 20 (up un [(0,a0),(1,a1)]) (nm h) (retK Tryd.f76 Tryd.prog h) :=
  (evC_call 76 Tryd.f76 c76_0 Tryd.func76 (by kernel_rfl) #[a0,a1] h).trans (by kernel_rfl)
theorem ret76 : retK Tryd.f76 Tryd.prog g .ret ⟨ar 20 x, h⟩ = fin g (some (x 4)) h := by kernel_rfl
noncomputable def c77_0 : Code := bodyC Tryd.f77 []
theorem c77_0_eq : cK c77_0 20 x h k =
obH (ev 90 #[x 0] h) fun v0 h1 =>
obH (ev 90 #[x 1] h1) fun v2 h3 =>
cnd v0 (
cnd v2 (
k .ret ⟨ar 20 (up x [(4,(.int .i64 0)),(5,v0),(6,v2),(7,(x 0)),(8,v0),(9,(x 1)),(10,v2),(11,v0),(12,v2)]), h3⟩) (
k .ret ⟨ar 20 (up x [(4,(.int .i64 (-1))),(5,v0),(6,v2),(7,(x 0)),(8,v0),(9,(x 1)),(10,v2),(11,v0),(12,v2)]), h3⟩)) (
cnd v2 (
k .ret ⟨ar 20 (up x [(4,(.int .i64 1)),(5,v0),(6,v2),(7,(x 0)),(8,v0),(9,(x 1)),(10,v2),(11,v0),(13,v2)]), h3⟩) (
(bn .lss 23 (x 0) (x 1)).bind fun v4 =>
cnd v4 (
k .ret ⟨ar 20 (up x [(4,(.int .i64 (-1))),(5,v0),(6,v2),(7,(x 0)),(8,v0),(9,(x 1)),(10,v2),(11,v0),(13,v2),(14,(x 0)),(15,(x 1)),(16,v4)]), h3⟩) (
(bn .gtr 23 (x 0) (x 1)).bind fun v5 =>
cnd v5 (
k .ret ⟨ar 20 (up x [(4,(.int .i64 1)),(5,v0),(6,v2),(7,(x 0)),(8,v0),(9,(x 1)),(10,v2),(11,v0),(13,v2),(14,(x 0)),(15,(x 1)),(16,v4),(17,(x 0)),(18,(x 1)),(19,v5)]), h3⟩) (
k .ret ⟨ar 20 (up x [(4,(.int .i64 0)),(5,v0),(6,v2),(7,(x 0)),(8,v0),(9,(x 1)),(10,v2),(11,v0),(13,v2),(14,(x 0)),(15,(x 1)),(16,v4),(17,(x 0)),(18,(x 1)),(19,v5)]), h3⟩)))) := by kernel_rfl
theorem call77 (a0 a1 : Value) : evC Tryd.prog 77 #[a0,a1] h = cK c77_0 20 (up un [(0,a0),(1,a1)]) (nm h) (retK Tryd.f77 Tryd.prog h) :=
  (evC_call 77 Tryd.f77 c77_0 Tryd.func77 (by kernel_rfl) #[a0,a1] h).trans (by kernel_rfl)
theorem ret77 : retK Tryd.f77 Tryd.prog g .ret ⟨ar 20 x, h⟩ = fin g (some (x 4)) h := by kernel_rfl
noncomputable def c75_0 : Code := bodyC Tryd.f75 []
noncomputable def c75_1 : Code := bodyC Tryd.f75 [true, true, false, true, false, false]
noncomputable def c75_2 : Code := bodyC Tryd.f75 [true, true, true]
theorem c75_0_eq : cK c75_0 18 x h k =
(ln 41 (x 0) h).bind fun v0 =>
lK c75_1 18 (up x [(2,(.int .i64 0)),(3,(.int .i64 0)),(6,(x 0)),(7,v0),(8,(.int .i64 0))]) h (blockK 0 (sK c75_2 k)) := by kernel_rfl
theorem c75_1_eq : cK c75_1 18 x h k =
(bn .lss 3 (x 8) (x 7)).bind fun v1 =>
cnd v1 (
(ia 41 (x 6) (x 8)).bind fun v2 =>
(ld 3 v2 h).bind fun v3 =>
(bn .neq 3 v3 (x 3)).bind fun v4 =>
cnd v4 (
k .ret ⟨ar 18 (up x [(2,v3),(5,v3),(9,v1),(10,v2),(11,v3),(12,v3),(13,(x 3)),(14,v4),(15,v3)]), h⟩) (
(bn .add 3 (x 8) (.int .i64 1)).bind fun v5 =>
k .normal ⟨ar 18 (up x [(5,v3),(8,v5),(9,v1),(10,v2),(11,v3),(12,v3),(13,(x 3)),(14,v4),(16,v5)]), h⟩)) (
k (.exit 0) ⟨ar 18 (up x [(9,v1)]), h⟩) := by kernel_rfl
theorem c75_2_eq : cK c75_2 18 x h k =
k .ret ⟨ar 18 (up x [(2,(x 3)),(17,(x 3))]), h⟩ := by kernel_rfl
theorem call75 (a0 : Value) : evC Tryd.prog 75 #[a0] h = cK c75_0 18 (up un [(0,a0)]) (nm h) (retK Tryd.f75 Tryd.prog h) :=
  (evC_call 75 Tryd.f75 c75_0 Tryd.func75 (by kernel_rfl) #[a0] h).trans (by kernel_rfl)
theorem ret75 : retK Tryd.f75 Tryd.prog g .ret ⟨ar 18 x, h⟩ = fin g (some (x 2)) h := by kernel_rfl
noncomputable def c55_0 : Code := bodyC Tryd.f55 []
theorem c55_0_eq : cK c55_0 17 x h k =
obH (boxV Tryd.prog 68 (x 0) h) fun v0 h1 =>
obH (boxV Tryd.prog 68 (x 1) h1) fun v2 h3 =>
(fa 68 v0 0).bind fun v4 =>
(ld 3 v4 h3).bind fun v5 =>
(fa 68 v2 0).bind fun v6 =>
(ld 3 v6 h3).bind fun v7 =>
obH (ev 76 #[v5,v7] (nm h3)) fun v8 h9 =>
(fa 68 v0 1).bind fun v10 =>
(ld 23 v10 (am h9 h3)).bind fun v11 =>
(fa 68 v2 1).bind fun v12 =>
(ld 23 v12 (am h9 h3)).bind fun v13 =>
obH (ev 77 #[v11,v13] (am h9 h3)) fun v14 h15 =>
obH (buildSliceV Tryd.prog 41 2 #[(0, v8), (1, v14)] h15) fun v16 h17 =>
obH (ev 75 #[v16] h17) fun v18 h19 =>
chk ((rb v12) ++ ((rb v10) ++ [])) (h9.mods ++ []) (
k .ret ⟨ar 17 (up x [(2,v0),(3,v2),(4,v18),(5,v4),(6,v5),(7,v6),(8,v7),(9,v8),(10,v10),(11,v11),(12,v12),(13,v13),(14,v14),(15,v16),(16,v18)]), h19⟩) := by kernel_rfl
theorem call55 (a0 a1 : Value) : evC Tryd.prog 55 #[a0,a1] h = cK c55_0 17 (up un [(0,a0),(1,a1)]) (nm h) (retK Tryd.f55 Tryd.prog h) :=
  (evC_call 55 Tryd.f55 c55_0 Tryd.func55 (by kernel_rfl) #[a0,a1] h).trans (by kernel_rfl)
theorem ret55 : retK Tryd.f55 Tryd.prog g .ret ⟨ar 17 x, h⟩ = fin g (some (x 4)) h := by kernel_rfl
end
attribute [local congr] obind_congr obH_congr cnd_congr chk_congr retK_congr codeK_congr
theorem spec_isNaNI (a : Int) (h : Heap) : evC Tryd.prog 89 #[.int .i64 a] h = some (.bool false, h) := by
  rw [call89]
  simp -implicitDefEqProofs only [↓c89_0_eq, eq_self, ne_eq, not_true_eq_false, decide_false, ↓ret89, ↓cnd_true, ↓cnd_false, ↓Option.bind_some, ↓obH_some', bin_add, bin_sub, bin_mul, bin_lss, bin_leq, bin_gtr, bin_geq, bin_eql, bin_neq, un_not, un_neg, Option.bind_some, Option.bind_none, Option.map_some, cnd_true, cnd_false, pickV_true, pickV_false, gd_true, gd_false, gdV_true, gdV_false, gdH_true, gdH_false, gdS_true, gdS_false, wt_ff, wt_tt, wt_ft, wt_tf, wt_undef, obH_some', extractV_tuple, nilCheckV_ptr, againK_normal, againK_exit, againK_ret, blockK_normal, blockK_same, blockK_ret, seqK_normal, seqK_exit, seqK_ret, fin_done, if_true', if_false', Bool.not_true, Bool.not_false, idx0, idx1, idx2, idx3, idx4, chk_nil_l, chk_nil_r, done_nm, up_cons, up_nil, cond_true, cond_false, Nat.reduceBEq]
theorem spec_isNaNW (a : Int) (h : Heap) : evC Tryd.prog 90 #[.int .u64 a] h = some (.bool false, h) := by
  rw [call90]
  simp -implicitDefEqProofs only [↓c90_0_eq, eq_self, ne_eq, not_true_eq_false, decide_false, ↓ret90, ↓cnd_true, ↓cnd_false, ↓Option.bind_some, ↓obH_some', bin_add, bin_sub, bin_mul, bin_lss, bin_leq, bin_gtr, bin_geq, bin_eql, bin_neq, un_not, un_neg, Option.bind_some, Option.bind_none, Option.map_some, cnd_true, cnd_false, pickV_true, pickV_false, gd_true, gd_false, gdV_true, gdV_false, gdH_true, gdH_false, gdS_true, gdS_false, wt_ff, wt_tt, wt_ft, wt_tf, wt_undef, obH_some', extractV_tuple, nilCheckV_ptr, againK_normal, againK_exit, againK_ret, blockK_normal, blockK_same, blockK_ret, seqK_normal, seqK_exit, seqK_ret, fin_done, if_true', if_false', Bool.not_true, Bool.not_false, idx0, idx1, idx2, idx3, idx4, chk_nil_l, chk_nil_r, done_nm, up_cons, up_nil, cond_true, cond_false, Nat.reduceBEq]
def cmpI (a b : Int) : Int := if a < b then -1 else if b < a then 1 else 0
theorem spec_CmpI (a b : Int) (h : Heap) : evC Tryd.prog 76 #[.int .i64 a, .int .i64 b] h = some (.int .i64 (cmpI a b), h) := by
  rw [call76]
  have e1 := fun h => spec_isNaNI a h
  have e2 := fun h => spec_isNaNI b h
  unfold cmpI
  by_cases h1 : a < b
  · rw [if_pos h1]
    simp -implicitDefEqProofs (disch := omega) only [↓c76_0_eq, dcT, dcF, e1, e2, ↓ret76, ↓cnd_true, ↓cnd_false, ↓Option.bind_some, ↓obH_some', bin_add, bin_sub, bin_mul, bin_lss, bin_leq, bin_gtr, bin_geq, bin_eql, bin_neq, un_not, un_neg, Option.bind_some, Option.bind_none, Option.map_some, cnd_true, cnd_false, pickV_true, pickV_false, gd_true, gd_false, gdV_true, gdV_false, gdH_true, gdH_false, gdS_true, gdS_false, wt_ff, wt_tt, wt_ft, wt_tf, wt_undef, obH_some', extractV_tuple, nilCheckV_ptr, againK_normal, againK_exit, againK_ret, blockK_normal, blockK_same, blockK_ret, seqK_normal, seqK_exit, seqK_ret, fin_done, if_true', if_false', Bool.not_true, Bool.not_false, idx0, idx1, idx2, idx3, idx4, chk_nil_l, chk_nil_r, done_nm, up_cons, up_nil, cond_true, cond_false, Nat.reduceBEq]
  · rw [if_neg h1]
    by_cases h2 : b < a
    · rw [if_pos h2]
      simp -implicitDefEqProofs (disch := omega) only [↓c76_0_eq, dcT, dcF, e1, e2, ↓ret76, ↓cnd_true, ↓cnd_false, ↓Option.bind_some, ↓obH_some', bin_add, bin_sub, bin_mul, bin_lss, bin_leq, bin_gtr, bin_geq, bin_eql, bin_neq, un_not, un_neg, Option.bind_some, Option.bind_none, Option.map_some, cnd_true, cnd_false, pickV_true, pickV_false, gd_true, gd_false, gdV_true, gdV_false, gdH_true, gdH_false, gdS_true, gdS_false, wt_ff, wt_tt, wt_ft, wt_tf, wt_undef, obH_some', extractV_tuple, nilCheckV_ptr, againK_normal, againK_exit, againK_ret, blockK_normal, blockK_same, blockK_ret, seqK_normal, seqK_exit, seqK_ret, fin_done, if_true', if_false', Bool.not_true, Bool.not_false, idx0, idx1, idx2, idx3, idx4, chk_nil_l, chk_nil_r, done_nm, up_cons, up_nil, cond_true, cond_false, Nat.reduceBEq]
    · rw [if_neg h2]
      simp -implicitDefEqProofs (disch := omega) only [↓c76_0_eq, dcT, dcF, e1, e2, ↓ret76, ↓cnd_true, ↓cnd_false, ↓Option.bind_some, ↓obH_some', bin_add, bin_sub, bin_mul, bin_lss, bin_leq, bin_gtr, bin_geq, bin_eql, bin_neq, un_not, un_neg, Option.bind_some, Option.bind_none, Option.map_some, cnd_true, cnd_false, pickV_true, pickV_false, gd_true, gd_false, gdV_true, gdV_false, gdH_true, gdH_false, gdS_true, gdS_false, wt_ff, wt_tt, wt_ft, wt_tf, wt_undef, obH_some', extractV_tuple, nilCheckV_ptr, againK_normal, againK_exit, againK_ret, blockK_normal, blockK_same, blockK_ret, seqK_normal, seqK_exit, seqK_ret, fin_done, if_true', if_false', Bool.not_true, Bool.not_false, idx0, idx1, idx2, idx3, idx4, chk_nil_l, chk_nil_r, done_nm, up_cons, up_nil, cond_true, cond_false, Nat.reduceBEq]
theorem spec_CmpW (a b : Int) (h : Heap) : evC Tryd.prog 77 #[.int .u64 a, .int .u64 b] h = some (.int .i64 (cmpI a b), h) := by
  rw [call77]
  have e1 := fun h => spec_isNaNW a h
  have e2 := fun h => spec_isNaNW b h
  unfold cmpI
  by_cases h1 : a < b
  · rw [if_pos h1]
    simp -implicitDefEqProofs (disch := omega) only [↓c77_0_eq, dcT, dcF, e1, e2, ↓ret77, ↓cnd_true, ↓cnd_false, ↓Option.bind_some, ↓obH_some', bin_add, bin_sub, bin_mul, bin_lss, bin_leq, bin_gtr, bin_geq, bin_eql, bin_neq, un_not, un_neg, Option.bind_some, Option.bind_none, Option.map_some, cnd_true, cnd_false, pickV_true, pickV_false, gd_true, gd_false, gdV_true, gdV_false, gdH_true, gdH_false, gdS_true, gdS_false, wt_ff, wt_tt, wt_ft, wt_tf, wt_undef, obH_some', extractV_tuple, nilCheckV_ptr, againK_normal, againK_exit, againK_ret, blockK_normal, blockK_same, blockK_ret, seqK_normal, seqK_exit, seqK_ret, fin_done, if_true', if_false', Bool.not_true, Bool.not_false, idx0, idx1, idx2, idx3, idx4, chk_nil_l, chk_nil_r, done_nm, up_cons, up_nil, cond_true, cond_false, Nat.reduceBEq]
  · rw [if_neg h1]
    by_cases h2 : b < a
    · rw [if_pos h2]
      simp -implicitDefEqProofs (disch := omega) only [↓c77_0_eq, dcT, dcF, e1, e2, ↓ret77, ↓cnd_true, ↓cnd_false, ↓Option.bind_some, ↓obH_some', bin_add, bin_sub, bin_mul, bin_lss, bin_leq, bin_gtr, bin_geq, bin_eql, bin_neq, un_not, un_neg, Option.bind_some, Option.bind_none, Option.map_some, cnd_true, cnd_false, pickV_true, pickV_false, gd_true, gd_false, gdV_true, gdV_false, gdH_true, gdH_false, gdS_true, gdS_false, wt_ff, wt_tt, wt_ft, wt_tf, wt_undef, obH_some', extractV_tuple, nilCheckV_ptr, againK_normal, againK_exit, againK_ret, blockK_normal, blockK_same, blockK_ret, seqK_normal, seqK_exit, seqK_ret, fin_done, if_true', if_false', Bool.not_true, Bool.not_false, idx0, idx1, idx2, idx3, idx4, chk_nil_l, chk_nil_r, done_nm, up_cons, up_nil, cond_true, cond_false, Nat.reduceBEq]
    · rw [if_neg h2]
      simp -implicitDefEqProofs (disch := omega) only [↓c77_0_eq, dcT, dcF, e1, e2, ↓ret77, ↓cnd_true, ↓cnd_false, ↓Option.bind_some, ↓obH_some', bin_add, bin_sub, bin_mul, bin_lss, bin_leq, bin_gtr, bin_geq, bin_eql, bin_neq, un_not, un_neg, Option.bind_some, Option.bind_none, Option.map_some, cnd_true, cnd_false, pickV_true, pickV_false, gd_true, gd_false, gdV_true, gdV_false, gdH_true, gdH_false, gdS_true, gdS_false, wt_ff, wt_tt, wt_ft, wt_tf, wt_undef, obH_some', extractV_tuple, nilCheckV_ptr, againK_normal, againK_exit, againK_ret, blockK_normal, blockK_same, blockK_ret, seqK_normal, seqK_exit, seqK_ret, fin_done, if_true', if_false', Bool.not_true, Bool.not_false, idx0, idx1, idx2, idx3, idx4, chk_nil_l, chk_nil_r, done_nm, up_cons, up_nil, cond_true, cond_false, Nat.reduceBEq]
theorem spec_Or {h : Heap} {p c : Nat} (a b : Int) (hc : Cells h p 3 [.int .i64 a, .int .i64 b]) : evC Tryd.prog 75 #[.slice (some ⟨p, 0, none⟩) 2 c] h = some (.int .i64 (if a = 0 then b else a), h) := by
  rw [call75]
  have l0 : (nm h).load1 p 0 = some (.int .i64 a) := hc.nm.load 0
  have l1 : (nm h).load1 p 1 = some (.int .i64 b) := hc.nm.load 1
  have w1 : IntKind.i64.wrap (0 + 1) = 1 := rfl
  have w2 : IntKind.i64.wrap (1 + 1) = 2 := rfl
  by_cases h1 : a = 0
  · rw [if_pos h1]
    by_cases h2 : b = 0
    · simp -implicitDefEqProofs (disch := omega) only [↓c75_0_eq, ↓c75_1_eq, ↓c75_2_eq, ↓loopK_eq evC_m, dcT, dcF, lnI, iaI0, iaI1, ldI, l0, l1, w1, w2, ↓ret75, ↓cnd_true, ↓cnd_false, ↓Option.bind_some, ↓obH_some', bin_add, bin_sub, bin_mul, bin_lss, bin_leq, bin_gtr, bin_geq, bin_eql, bin_neq, un_not, un_neg, Option.bind_some, Option.bind_none, Option.map_some, cnd_true, cnd_false, pickV_true, pickV_false, gd_true, gd_false, gdV_true, gdV_false, gdH_true, gdH_false, gdS_true, gdS_false, wt_ff, wt_tt, wt_ft, wt_tf, wt_undef, obH_some', extractV_tuple, nilCheckV_ptr, againK_normal, againK_exit, againK_ret, blockK_normal, blockK_same, blockK_ret, seqK_normal, seqK_exit, seqK_ret, fin_done, if_true', if_false', Bool.not_true, Bool.not_false, idx0, idx1, idx2, idx3, idx4, chk_nil_l, chk_nil_r, done_nm, up_cons, up_nil, cond_true, cond_false, Nat.reduceBEq]
      rw [h2]
    · simp -implicitDefEqProofs (disch := omega) only [↓c75_0_eq, ↓c75_1_eq, ↓c75_2_eq, ↓loopK_eq evC_m, dcT, dcF, lnI, iaI0, iaI1, ldI, l0, l1, w1, w2, ↓ret75, ↓cnd_true, ↓cnd_false, ↓Option.bind_some, ↓obH_some', bin_add, bin_sub, bin_mul, bin_lss, bin_leq, bin_gtr, bin_geq, bin_eql, bin_neq, un_not, un_neg, Option.bind_some, Option.bind_none, Option.map_some, cnd_true, cnd_false, pickV_true, pickV_false, gd_true, gd_false, gdV_true, gdV_false, gdH_true, gdH_false, gdS_true, gdS_false, wt_ff, wt_tt, wt_ft, wt_tf, wt_undef, obH_some', extractV_tuple, nilCheckV_ptr, againK_normal, againK_exit, againK_ret, blockK_normal, blockK_same, blockK_ret, seqK_normal, seqK_exit, seqK_ret, fin_done, if_true', if_false', Bool.not_true, Bool.not_false, idx0, idx1, idx2, idx3, idx4, chk_nil_l, chk_nil_r, done_nm, up_cons, up_nil, cond_true, cond_false, Nat.reduceBEq]
  · rw [if_neg h1]
    simp -implicitDefEqProofs (disch := omega) only [↓c75_0_eq, ↓c75_1_eq, ↓c75_2_eq, ↓loopK_eq evC_m, dcT, dcF, lnI, iaI0, iaI1, ldI, l0, l1, w1, w2, ↓ret75, ↓cnd_true, ↓cnd_false, ↓Option.bind_some, ↓obH_some', bin_add, bin_sub, bin_mul, bin_lss, bin_leq, bin_gtr, bin_geq, bin_eql, bin_neq, un_not, un_neg, Option.bind_some, Option.bind_none, Option.map_some, cnd_true, cnd_false, pickV_true, pickV_false, gd_true, gd_false, gdV_true, gdV_false, gdH_true, gdH_false, gdS_true, gdS_false, wt_ff, wt_tt, wt_ft, wt_tf, wt_undef, obH_some', extractV_tuple, nilCheckV_ptr, againK_normal, againK_exit, againK_ret, blockK_normal, blockK_same, blockK_ret, seqK_normal, seqK_exit, seqK_ret, fin_done, if_true', if_false', Bool.not_true, Bool.not_false, idx0, idx1, idx2, idx3, idx4, chk_nil_l, chk_nil_r, done_nm, up_cons, up_nil, cond_true, cond_false, Nat.reduceBEq]
theorem cmpE_or (x y : E3) : (if cmpI x.f y.f = 0 then cmpI x.n y.n else cmpI x.f y.f) = cmpE x y := by
  unfold cmpE cmpI
  by_cases h1 : x.f < y.f
  · simp [h1]
  · by_cases h2 : y.f < x.f
    · simp [h1, h2]
    · have : (x.n : Int) < y.n ↔ x.n < y.n := Int.ofNat_lt
      have : (y.n : Int) < x.n ↔ y.n < x.n := Int.ofNat_lt
      simp [h1, h2]
theorem spec_order (x y : E3) (h : Heap) : ∃ h', evC Tryd.prog 55 #[entV x, entV y] h = some (.int .i64 (cmpE x y), h') ∧ HExt h h' := by
  rw [call55]
  have c1 : Cells (((nm h).new (.cells [.int .i64 x.f, .int .u64 x.n, .int .u64 x.t]) 68).new (.cells [.int .i64 y.f, .int .u64 y.n, .int .u64 y.t]) 68) (nm h).blks.length 68 [.int .i64 x.f, .int .u64 x.n, .int .u64 x.t] := (Cells.new _ _ _).keepNew _ _
  have c2 := Cells.new ((nm h).new (.cells [.int .i64 x.f, .int .u64 x.n, .int .u64 x.t]) 68) 68 [.int .i64 y.f, .int .u64 y.n, .int .u64 y.t]
  have k2 : In h.blks.length No (nm h) (((nm h).new (.cells [.int .i64 x.f, .int .u64 x.n, .int .u64 x.t]) 68).new (.cells [.int .i64 y.f, .int .u64 y.n, .int .u64 y.t]) 68) :=
    In.trans (In.new (h := nm h) (Nat.le_refl h.blks.length) _ _) (In.new (by simp [Heap.new]) _ _)
  generalize hp1 : ((nm h).new (.cells [.int .i64 x.f, .int .u64 x.n, .int .u64 x.t]) 68).blks.length = p1 at c2
  generalize hp0 : (nm h).blks.length = p0 at c1
  generalize hh2 : ((nm h).new (.cells [.int .i64 x.f, .int .u64 x.n, .int .u64 x.t]) 68).new (.cells [.int .i64 y.f, .int .u64 y.n, .int .u64 y.t]) 68 = h2 at c1 c2 k2
  have la : h2.load1 p0 0 = some (.int .i64 x.f) := c1.load 0
  have lb : h2.load1 p0 1 = some (.int .u64 x.n) := c1.load 1
  have lc : h2.load1 p1 0 = some (.int .i64 y.f) := c2.load 0
  have ld : h2.load1 p1 1 = some (.int .u64 y.n) := c2.load 1
  have k3 := k2.trans (In.new (Nat.le_trans k2.le k2.len) (.cells [.int .i64 (cmpI x.f y.f), .int .i64 (cmpI x.n y.n)]) 3)
  have e3 := spec_Or (c := 2) _ _ (Cells.new h2 3 [.int .i64 (cmpI x.f y.f), .int .i64 (cmpI x.n y.n)])
  rw [cmpE_or] at e3
  refine ⟨_, ?_, done_ext' k3⟩
  simp -implicitDefEqProofs (disch := omega) only [↓c55_0_eq, entV, bxE, hp0, hp1, hh2, faE0, faE1, ldI, ldU, la, lb, lc, ld, spec_CmpI, spec_CmpW, am_nm, nm_load1, nm_mods, List.nil_append, List.append_nil, lsI2', e3, ↓ret55, ↓cnd_true, ↓cnd_false, ↓Option.bind_some, ↓obH_some', bin_add, bin_sub, bin_mul, bin_lss, bin_leq, bin_gtr, bin_geq, bin_eql, bin_neq, un_not, un_neg, Option.bind_some, Option.bind_none, Option.map_some, cnd_true, cnd_false, pickV_true, pickV_false, gd_true, gd_false, gdV_true, gdV_false, gdH_true, gdH_false, gdS_true, gdS_false, wt_ff, wt_tt, wt_ft, wt_tf, wt_undef, obH_some', extractV_tuple, nilCheckV_ptr, againK_normal, againK_exit, againK_ret, blockK_normal, blockK_same, blockK_ret, seqK_normal, seqK_exit, seqK_ret, fin_done, if_true', if_false', Bool.not_true, Bool.not_false, idx0, idx1, idx2, idx3, idx4, chk_nil_l, chk_nil_r, done_nm, up_cons, up_nil, cond_true, cond_false, Nat.reduceBEq]
end Go.Am.Z
namespace Go.Proofs
open Go.Shelf
def srtLay_ren : Go.Shelf.Ren := ⟨fun | 6 => 73 | 15 => 88 | 14 => 87 | 28 => 102 | 29 => 103 | 20 => 94 | 21 => 95 | 22 => 96 | 23 => 97 | 24 => 98 | 25 => 99 | 26 => 100 | 27 => 101 | 46 => 105 | 47 => 106 | 48 => 107 | 49 => 108 | 50 => 109 | 57 => 110 | n => n, fun | 22 => 63 | 24 => 68 | 25 => 118 | 3 => 3 | 39 => 57 | 0 => 0 | 53 => 169 | 55 => 23 | 4 => 4 | 46 => 163 | 45 => 162 | 50 => 45 | 5 => 5 | 9 => 9 | 66 => 171 | 70 => 175 | 76 => 177 | 77 => 178 | n => n, fun | n => n⟩
theorem srtLay : Go.Proofs.SlLaysF0.n6 Tryd.prog srtLay_ren := { mixed := by kernel_rfl, f6 := ⟨"slices.SortFunc[[]shoal/trim.Entry,shoal/trim.Entry]", by decide, Tryd.func73.trans (congrArg some (by kernel_rfl))⟩, f14 := ⟨"slices.pdqsortCmpFunc[shoal/trim.Entry]", by decide, Tryd.func87.trans (congrArg some (by kernel_rfl))⟩, f15 := Tryd.func88.trans (congrArg some (by kernel_rfl)), f20 := ⟨"slices.insertionSortCmpFunc[shoal/trim.Entry]", by decide, Tryd.func94.trans (congrArg some (by kernel_rfl))⟩, f21 := ⟨"slices.heapSortCmpFunc[shoal/trim.Entry]", by decide, Tryd.func95.trans (congrArg some (by kernel_rfl))⟩, f22 := ⟨"slices.breakPatternsCmpFunc[shoal/trim.Entry]", by decide, Tryd.func96.trans (congrArg some (by kernel_rfl))⟩, f23 := ⟨"slices.choosePivotCmpFunc[shoal/trim.Entry]", by decide, Tryd.func97.trans (congrArg some (by kernel_rfl))⟩, f24 := ⟨"slices.reverseRangeCmpFunc[shoal/trim.Entry]", by decide, Tryd.func98.trans (congrArg some (by kernel_rfl))⟩, f25 := ⟨"slices.partialInsertionSortCmpFunc[shoal/trim.Entry]", by decide, Tryd.func99.trans (congrArg some (by kernel_rfl))⟩, f26 := ⟨"slices.partitionEqualCmpFunc[shoal/trim.Entry]", by decide, Tryd.func100.trans (congrArg some (by kernel_rfl))⟩, f27 := ⟨"slices.partitionCmpFunc[shoal/trim.Entry]", by decide, Tryd.func101.trans (congrArg some (by kernel_rfl))⟩, f28 := Tryd.func102.trans (congrArg some (by kernel_rfl)), f29 := Tryd.func103.trans (congrArg some (by kernel_rfl)), f46 := ⟨"slices.siftDownCmpFunc[shoal/trim.Entry]", by decide, Tryd.func105.trans (congrArg some (by kernel_rfl))⟩, f47 := Tryd.func106.trans (congrArg some (by kernel_rfl)), f48 := Tryd.func107.trans (congrArg some (by kernel_rfl)), f49 := ⟨"slices.medianAdjacentCmpFunc[shoal/trim.Entry]", by decide, Tryd.func108.trans (congrArg some (by kernel_rfl))⟩, f50 := ⟨"slices.medianCmpFunc[shoal/trim.Entry]", by decide, Tryd.func109.trans (congrArg some (by kernel_rfl))⟩, f57 := ⟨"slices.order2CmpFunc[shoal/trim.Entry]", by decide, Tryd.func110.trans (congrArg some (by kernel_rfl))⟩, t0 := Tryd.underlying0, a0 := Tryd.isAgg0, z0 := Tryd.sizeOf0, v0 := Tryd.zeroValue0, t3 := Tryd.underlying3, a3 := Tryd.isAgg3, z3 := Tryd.sizeOf3, v3 := Tryd.zeroValue3, t4 := Tryd.underlying4, a4 := Tryd.isAgg4, z4 := Tryd.sizeOf4, v4 := Tryd.zeroValue4, t5 := Tryd.underlying5, a5 := Tryd.isAgg5, z5 := Tryd.sizeOf5, v5 := Tryd.zeroValue5, t9 := Tryd.underlying9, a9 := Tryd.isAgg9, z9 := Tryd.sizeOf9, v9 := Tryd.zeroValue9, t22 := Tryd.underlying63, a22 := Tryd.isAgg63, z22 := Tryd.sizeOf63, v22 := Tryd.zeroValue63, t25 := Tryd.underlying118, a25 := Tryd.isAgg118, z25 := Tryd.sizeOf118, v25 := Tryd.zeroValue118, t39 := Tryd.underlying57, a39 := Tryd.isAgg57, z39 := Tryd.sizeOf57, v39 := Tryd.zeroValue57, t45 := Tryd.underlying162, a45 := Tryd.isAgg162, z45 := Tryd.sizeOf162, v45 := Tryd.zeroValue162, t46 := Tryd.underlying163, a46 := Tryd.isAgg163, z46 := Tryd.sizeOf163, v46 := Tryd.zeroValue163, t50 := Tryd.underlying45, a50 := Tryd.isAgg45, z50 := Tryd.sizeOf45, v50 := Tryd.zeroValue45, t53 := Tryd.underlying169, a53 := Tryd.isAgg169, z53 := Tryd.sizeOf169, v53 := Tryd.zeroValue169, t55 := Tryd.underlying23, a55 := Tryd.isAgg23, z55 := Tryd.sizeOf23, v55 := Tryd.zeroValue23, t66 := Tryd.underlying171, a66 := Tryd.isAgg171, z66 := Tryd.sizeOf171, v66 := Tryd.zeroValue171, t70 := Tryd.underlying175, a70 := Tryd.isAgg175, z70 := Tryd.sizeOf175, v70 := Tryd.zeroValue175, t76 := Tryd.underlying177, a76 := Tryd.isAgg177, z76 := Tryd.sizeOf177, v76 := Tryd.zeroValue177, t77 := Tryd.underlying178, a77 := Tryd.isAgg178, z77 := Tryd.sizeOf178, v77 := Tryd.zeroValue178 }
end Go.Proofs
namespace Go.Am
open Go.Proofs Go.Sort
set_option maxRecDepth 100000
set_option linter.all false
theorem mixedT : Tryd.prog.follows .mixedOrders = true := by kernel_rfl
theorem grown_of {h : Heap} {W W' : World} (fr : Fr noE h W W') : ∃ q os', W' = grow (W.drewN q) os' := by
  have hb : ∀ c, c < W.heap.size → W'.heap[c]? = W.heap[c]? := fun c hc => fr.blk c hc fun ⟨b, k, l, _, h1, _⟩ => by cases h1
  have ho := fr.os
  have ht := fr.tape
  have hu := fr.output
  have hs := fr.size
  have hd := fr.drawn
  obtain ⟨heap, tape, drawn, os, output⟩ := W
  obtain ⟨heap', tape', drawn', os', output'⟩ := W'
  simp only at ho ht hu hs hd hb
  subst ho ht hu
  refine ⟨drawn' - drawn, heap'.extract heap.size heap'.size, ?_⟩
  unfold grow World.drewN
  simp only
  congr 1
  · apply Array.ext_getElem?
    intro c
    rcases Nat.lt_or_ge c heap.size with h1 | h1
    · rw [Array.getElem?_append_left h1, ← hb c h1]
    · rw [Array.getElem?_append_right h1, Array.getElem?_extract]
      split
      · rename_i h2; rw [show heap.size + (c - heap.size) = c by omega]
      · rename_i h2; rw [Array.getElem?_eq_none (by omega)]
  · omega
theorem cmp_lays (blk off size : Nat) (w : World) : CmpLays Tryd.prog 55 #[] entC 3 cmpE blk off size w := fun m os dk _ x y => by
  obtain ⟨h', he, _⟩ := Z.spec_order x y ⟨[], []⟩
  have hA : ARel noE #[entV x, entV y] #[.agg (entC x).toArray, .agg (entC y).toArray] := ⟨rfl, fun i h1 h2 => by
    have : i = 0 ∨ i = 1 := by simp at h1; omega
    rcases this with rfl | rfl
    · exact VR.of_ground (v := entV x) (by simp [ground, entV, ground0])
    · exact VR.of_ground (v := entV y) (by simp [ground, entV, ground0])⟩
  rw [Array.append_empty]
  refine (@evC_sound _ Z.xt0 Z.gl0 Z.xo0 mixedT (sortWorldK entC 3 w blk off m dk os).heap.size 55 #[entV x, entV y] ⟨[], []⟩ _ h' noE _ _ he (@rel_none _ Z.gl0 _ (@GlobW.none _ Z.gl0 rfl _ _)) hA (fun b _ _ => rfl)).mono ?_
  rintro e W' ⟨v', E', h1, h2, h3⟩
  cases h3
  exact ⟨h1, grown_of (@Post.fr _ Z.gl0 _ _ _ _ _ _ _ h2)⟩
theorem swo : SWO (ltOf cmpE) := by
  have key : ∀ x y : E3, ltOf cmpE x y = decide (x.f < y.f ∨ x.f = y.f ∧ x.n < y.n) := fun x y => by
    unfold ltOf cmpE
    by_cases h1 : x.f < y.f
    · simp [h1]
    · by_cases h2 : y.f < x.f
      · have : ¬ (x.f = y.f) := by omega
        simp [h1, h2, this]
      · have : x.f = y.f := by omega
        by_cases h3 : x.n < y.n
        · simp [h1, h2, h3, this]
        · by_cases h4 : y.n < x.n <;> simp [h1, h2, h3, h4, this]
  constructor
  · intro x; rw [key]; simp
  · intro x y z h1 h2; rw [key] at *; simp at *; omega
  · intro x y z h1 h2; rw [key] at *; simp at *; omega
theorem flatK_ent (l : List E3) : (flatK entC 3 l.toArray).toList = entL l := by
  have key : ∀ (l : List E3) (t : Nat), t < l.length * 3 → (entC (l.getD (t / 3) default))[t % 3]! = (entL l)[t]! := by
    intro l
    induction l with
    | nil => intro t ht; simp at ht
    | cons e l ih =>
      intro t ht
      rcases Nat.lt_or_ge t 3 with h | h
      · have : t = 0 ∨ t = 1 ∨ t = 2 := by omega
        rcases this with rfl | rfl | rfl <;> rfl
      · obtain ⟨u, rfl⟩ : ∃ u, t = u + 3 := ⟨t - 3, by omega⟩
        rw [show (u + 3) / 3 = u / 3 + 1 by omega, show (u + 3) % 3 = u % 3 by omega]
        simp only [List.getD_cons_succ]
        rw [ih u (by simp at ht; omega)]
        rfl
  apply List.ext_getElem
  · simp [entL_len]
  · intro t h1 h2
    have ht : t < l.length * 3 := by rw [entL_len] at h2; exact h2
    have := key l t ht
    rw [getElem!_pos (entL l) t h2] at this
    rw [← this]
    simp only [flatK, Array.toList_map, Array.toList_range, List.getElem_map, List.getElem_range]
    congr 1
    simp [getElem!_def, List.getD_eq_getElem?_getD]
    cases l[t / 3]? <;> rfl
theorem setCells_sort {w : World} {blk off : Nat} {l : List E3} (hH : HoldsK entC 3 w blk off l.toArray) (d : Array E3) (hd : d.size = l.length) : w.setCells blk off (entL d.toList) = putRowK entC 3 w blk off d := by
  have e0 := putRow_self id w blk off _ hH
  have e1 := setCells_putRow w blk off (entL d.toList) 0 (flatK entC 3 l.toArray) (by rw [entL_len, size_flatK]; simp [hd])
  rw [e0, Nat.add_zero] at e1
  rw [e1]
  unfold putRowK
  congr 1
  refine ext_get! (by simp [hd]) fun t ht => ?_
  have ht' : t < (flatK entC 3 l.toArray).size := by simpa using ht
  have hlen : (entL d.toList).length = (flatK entC 3 l.toArray).size := by rw [entL_len, size_flatK]; simp [hd]
  rw [get_setMany _ _ _ _ ht', if_pos (by omega), Nat.sub_zero]
  have := flatK_ent d.toList
  simp only [Array.toArray_toList] at this
  rw [← this]
  simp [getElem!_def]
theorem Post.grown {P : Program} [Gl P] {base : Nat} {E : Env} {h h' : Heap} {w w1 : World} (p : Post P base E h w E h' w1) (os : Array Obj) : Post P base E h w E h' (grow w1 os) := by
  have hb : ∀ c, c < w1.heap.size → (grow w1 os).heap[c]? = w1.heap[c]? := fun c hc => by
    unfold grow
    exact Array.getElem?_append_left hc
  refine ⟨p.ext, p.dom, ⟨fun b k l hk hl => (p.rel.blk b k l hk hl).congr (Ext.refl _) (hb _ (p.rel.bnd b l hl)), p.rel.low, p.rel.ro, fun b l hl => ?_, p.rel.inj, p.rel.glob.keep (fun c hc => hb c (Nat.lt_of_lt_of_le hc p.rel.base)), ?_⟩, ⟨p.fr.os, p.fr.tape, p.fr.output, ?_, fun c hc hm => ?_, p.fr.drawn⟩, p.orig⟩
  · have := p.rel.bnd b l hl
    simp [grow]; omega
  · have := p.rel.base
    simp [grow]; omega
  · have := p.fr.size
    simp [grow]; omega
  · rw [hb c (Nat.lt_of_lt_of_le hc p.fr.size)]; exact p.fr.blk c hc hm
theorem Post.drewN {P : Program} [Gl P] {base : Nat} {E : Env} {h h' : Heap} {w w1 : World} (n : Nat) (p : Post P base E h (w.drewN n) E h' w1) : Post P base E h w E h' w1 :=
  ⟨p.ext, p.dom, p.rel, ⟨p.fr.os, p.fr.tape, p.fr.output, p.fr.size, p.fr.blk, Nat.le_trans (Nat.le_add_right _ _) p.fr.drawn⟩, p.orig⟩
theorem VR.func_inv {E : Env} {fn : Fn} {f c : Array Value} {x : Value} (h : VR E (.func fn f c) x) (hf : f.size = 0) (hc : c.size = 0) : x = .func fn #[] #[] := by
  cases h with
  | func h1 _ h2 _ =>
    rw [hf] at h1
    rw [hc] at h2
    congr 1
    · exact Array.eq_empty_of_size_eq_zero h1.symm
    · exact Array.eq_empty_of_size_eq_zero h2.symm
theorem enters_order : ∀ args w, (callFunc 55 args).run Tryd.prog w = .ok (.enter 55 args) w := enters_of Tryd.func55 (by kernel_rfl) rfl
theorem aggE : ∀ w, (isAgg 68).run Tryd.prog w = .ok true w := fun w => by simpa using run_isAggT (P := Tryd.prog) (t := 68) (b := true) (by kernel_rfl) w
theorem sizE : ∀ w, (Go.sizeOf 68).run Tryd.prog w = .ok 3 w := fun w => run_sizeT (P := Tryd.prog) (t := 68) (by kernel_rfl) w
theorem pdq_size (l : List E3) : (pdq (ltOf cmpE) l.toArray 0 l.toArray.size (Lib.bitLen l.toArray.size) true true).size = l.length := by
  have h := pdq_sorts (ltOf cmpE) swo l.toArray 0 l.toArray.size (Lib.bitLen l.toArray.size) true true (Nat.zero_le _) (Nat.le_refl _) (Or.inl rfl)
  rw [h.1.1]; simp
theorem sort_sound (base : Nat) (args : Array Value) (h : Heap) (v : Value) (h' : Heap) (E : Env) (w : World) (args' : Array Value) (hv : sortX 55 args h = some (v, h')) (hR : Rel Tryd.prog base E h w) (ha : ARel E args args') :
    Calls Tryd.prog 73 args' w fun e w' => ∃ v' E', e = .returned v' ∧ Post Tryd.prog base E h w E' h' w' ∧ VR E' v v' := by
  have two : ∀ x y, args.toList = [x, y] → ∃ x' y', args' = #[x', y'] ∧ VR E x x' ∧ VR E y y' := fun x y he => by
    have hl := ha.list
    rw [he] at hl
    obtain ⟨x', h1, r1⟩ := hl.2 0 x rfl
    obtain ⟨y', h2, r2⟩ := hl.2 1 y rfl
    have h3 := hl.1
    refine ⟨x', y', ?_, r1, r2⟩
    obtain ⟨l⟩ := args'
    match l, h3, h1, h2 with
    | [a, b], _, h1, h2 => cases h1; cases h2; rfl
  unfold sortX at hv
  split at hv
  · rename_i ad n c f x y he
    split at hv
    · rename_i hc
      obtain ⟨rfl, hx, hy, hn2⟩ := hc
      split at hv
      · rename_i hn0
        subst hn0
        cases hv
        obtain ⟨x', y', rfl, r1, r2⟩ := two _ _ he
        rw [r2.func_inv hx hy]
        have : ∃ p' c', x' = .slice p' 0 c' := by cases r1 <;> exact ⟨_, _, rfl⟩
        obtain ⟨p', c', rfl⟩ := this
        exact (AnyF.slices_SortFunc_none srtLay p' c' _ w).mono fun e w' ⟨h1, h2⟩ => ⟨_, E, h1, by rw [h2]; exact Post.refl hR, VR.undef⟩
      · rename_i hn0
        have hn : 0 < n := Nat.pos_of_ne_zero hn0
        split at hv
        · rename_i b o
          split at hv
          · rename_i cs hcs
            split at hv
            · rename_i l hl
              obtain ⟨h1, hs, hq⟩ := Option.map_eq_some_iff.1 hv
              cases hq
              obtain ⟨x', y', rfl, r1, r2⟩ := two _ _ he
              rw [r2.func_inv hx hy]
              have hcse := e3Of_inv _ _ hl
              subst hcse
              have hlen := loadN_len hcs
              rw [entL_len] at hlen
              have hln : l.length = n := by omega
              cases r1 with
              | sliceEmpty => omega
              | @slice _ _ _ _ c' l0 hE _ _ _ =>
                have hst : ∃ cs0 ty, h.blks[b]? = some ⟨.cells cs0, ty, true⟩ ∧ o + n * 3 ≤ cs0.length := by
                  unfold Heap.storeN at hs
                  split at hs
                  · rename_i cs0 ty hk
                    refine ⟨cs0, ty, hk, ?_⟩
                    unfold Heap.loadN Heap.cells? at hcs
                    rw [hk] at hcs
                    simp only at hcs
                    split at hcs
                    · assumption
                    · cases hcs
                  · cases hs
                obtain ⟨cs0, ty, hk, hle⟩ := hst
                obtain ⟨oc, oe, lo, hi, hheap, hsz, _, hfz⟩ := (hR.blk b _ l0 hk hE).2.2 rfl
                obtain ⟨cs', hLr, hcell⟩ := loadN_read hR hcs hE
                have hcell' : ∀ (j : Nat) v, (entL l)[j]? = some v → w.cell? ⟨l0.cb, l0.s + o + j, none⟩ = some v := fun j v hj => by
                  obtain ⟨v', h2, h3⟩ := hLr.2 j v hj
                  have hg : ground v = true := by
                    have : ∀ (l : List E3) (j : Nat) v, (entL l)[j]? = some v → ground v = true := by
                      intro l
                      induction l with
                      | nil => intro j v h; simp [entL] at h
                      | cons e l ih =>
                        intro j v h
                        match j, h with
                        | 0, h => cases h; rfl
                        | 1, h => cases h; rfl
                        | 2, h => cases h; rfl
                        | j + 3, h => exact ih j v h
                    exact this l j v hj
                  rw [h3.ground_eq hg] at h2
                  rw [Nat.add_assoc]
                  exact hcell j v h2
                have hH : HoldsK entC 3 w l0.cb (l0.s + o) l.toArray := fun j hj => by
                  have hj' : j < (entL l).length := by rw [entL_len]; simpa using hj
                  have e1 : (flatK entC 3 l.toArray)[j]! = (entL l)[j] := by
                    rw [← getElem!_pos (entL l) j hj', ← flatK_ent l]; simp [getElem!_def]
                  have h2 := hcell' j _ (List.getElem?_eq_getElem hj')
                  refine ⟨by rw [h2]; simp only [id]; rw [e1], ?_⟩
                  have hlt : l0.s + o + j < oc.size := by
                    simp only [World.cell?, hheap] at h2
                    have := (Array.getElem?_eq_some_iff.1 (by simpa using h2)).1
                    exact this
                  simp only [World.frozen?, hheap]
                  simp
                  omega
                have hlt : l0.cb < w.heap.size := hR.bnd b l0 hE
                have hcon := AnyQ.slices_SortFunc_eq srtLay 3 aggE sizE entC (fun _ => rfl) (fun x v hv => by simp [entC] at hv; rcases hv with rfl | rfl | rfl <;> rfl) cmpE swo 55 #[] l0.cb (l0.s + o) c' l.toArray w enters_order (cmp_lays _ _ _ _) hH hlt (by simp; omega)
                rw [show l.toArray.size = n by simpa using hln] at hcon
                refine hcon.mono ?_
                rintro e w' ⟨h2, m, os, h3⟩
                refine ⟨_, E, h2, ?_, VR.undef⟩
                have hRn : Rel Tryd.prog base E h (w.drewN m) := Rel.drawn hR _
                have hHn : HoldsK entC 3 (w.drewN m) l0.cb (l0.s + o) l.toArray := hH
                obtain ⟨w2, hw2, hp2⟩ := storeN_run hRn hs hE (vs' := entL (srtE l)) ⟨rfl, fun i v hv => ⟨v, hv, by
                  have : ∀ (l : List E3) (j : Nat) v, (entL l)[j]? = some v → ground v = true := by
                    intro l
                    induction l with
                    | nil => intro j v h; simp [entL] at h
                    | cons e l ih =>
                      intro j v h
                      match j, h with
                      | 0, h => cases h; rfl
                      | 1, h => cases h; rfl
                      | 2, h => cases h; rfl
                      | j + 3, h => exact ih j v h
                  exact VR.of_ground (this _ i v hv)⟩⟩ (entL_one _)
                have hds : (pdq (ltOf cmpE) l.toArray 0 l.toArray.size (Lib.bitLen l.toArray.size) true true).size = l.length := pdq_size l
                have e2 := setCells_sort hHn (pdq (ltOf cmpE) l.toArray 0 l.toArray.size (Lib.bitLen l.toArray.size) true true) hds
                have hrun := stores_of_holds Tryd.prog hHn 0 (entL (srtE l)) (by rw [entL_len, size_flatK]; unfold srtE; rw [Array.length_toList]; exact Nat.le_of_eq (by rw [show (pdq (fun x y : E3 => decide (cmpE x y < 0)) l.toArray 0 l.toArray.size (Lib.bitLen l.toArray.size) true true).size = l.length from hds]; simp)) (fun v hv => by
                  have := List.all_eq_true.1 (entL_one (srtE l)) v hv
                  exact this)
                rw [Nat.add_zero] at hrun
                rw [show (storeCells ⟨l0.cb, l0.s + o, none⟩ (entL (srtE l))).run Tryd.prog (w.drewN m) = Sem.run Tryd.prog (storeCells ⟨l0.cb, l0.s + o, none⟩ (entL (srtE l)) 0) (w.drewN m) from rfl, hrun] at hw2
                cases hw2
                have e3 : w' = grow ((w.drewN m).setCells l0.cb (l0.s + o) (entL (srtE l))) os := by
                  rw [h3]
                  unfold sortWorldK
                  congr 1
                  rw [show n = l.toArray.size by simpa using hln.symm]
                  exact e2.symm
                rw [e3]
                exact (hp2.drewN m).grown os
            · cases hv
          · cases hv
        · cases hv
    · cases hv
  · cases hv
def tzRen : Go.Shelf.Ren := ⟨fun | 29 => 60 | n => n, fun | 0 => 0 | 3 => 3 | 4 => 4 | 5 => 5 | 22 => 23 | 25 => 57 | 54 => 144 | n => n, fun | 1 => 0 | n => n⟩
theorem tzLay : Go.Proofs.Lays7.n29 Tryd.prog tzRen := { mixed := by kernel_rfl, f29 := Tryd.func60.trans (congrArg some (by kernel_rfl)), t0 := Tryd.underlying0, a0 := Tryd.isAgg0, z0 := Tryd.sizeOf0, v0 := Tryd.zeroValue0, i0 := by kernel_rfl, t3 := Tryd.underlying3, a3 := Tryd.isAgg3, z3 := Tryd.sizeOf3, v3 := Tryd.zeroValue3, i3 := by kernel_rfl, t4 := Tryd.underlying4, a4 := Tryd.isAgg4, z4 := Tryd.sizeOf4, v4 := Tryd.zeroValue4, i4 := by kernel_rfl, t5 := Tryd.underlying5, a5 := Tryd.isAgg5, z5 := Tryd.sizeOf5, v5 := Tryd.zeroValue5, i5 := by kernel_rfl, t22 := Tryd.underlying23, a22 := Tryd.isAgg23, z22 := Tryd.sizeOf23, v22 := Tryd.zeroValue23, i22 := by kernel_rfl, t25 := Tryd.underlying57, a25 := Tryd.isAgg57, z25 := Tryd.sizeOf57, v25 := Tryd.zeroValue57, i25 := by kernel_rfl, t54 := Tryd.underlying144, a54 := Tryd.isAgg144, z54 := Tryd.sizeOf144, g1 := by kernel_rfl }
theorem tz_sound (base : Nat) (args : Array Value) (h : Heap) (v : Value) (h' : Heap) (E : Env) (w : World) (args' : Array Value) (hv : tzX args h = some (v, h')) (hR : Rel Tryd.prog base E h w) (ha : ARel E args args') :
    Calls Tryd.prog 60 args' w fun e w' => ∃ v' E', e = .returned v' ∧ Post Tryd.prog base E h w E' h' w' ∧ VR E' v v' := by
  obtain ⟨n, hn, h0, h1, rfl, rfl⟩ := tzX_h hv
  have hl := ha.list
  rw [hn] at hl
  obtain ⟨x', g1, r1⟩ := hl.2 0 _ rfl
  have h3 := hl.1
  have hargs : args' = #[.int .u64 n] := by
    obtain ⟨l⟩ := args'
    match l, h3, g1 with
    | [a], _, g1 => cases g1; cases r1; rfl
  subst hargs
  obtain ⟨k, rfl⟩ : ∃ k : Nat, n = k := ⟨n.toNat, by omega⟩
  have hT : TabAt (tzRen.g 1) Lib.deBruijn64tab w := fun j hj => by
    obtain ⟨_, gl⟩ := hR.glob 0 _ rfl
    have := gl j (.int .u8 (Lib.deBruijn64tab.getD j 0 : Nat)) (by rw [List.getElem?_map, List.getElem?_eq_getElem hj, List.getD_eq_getElem?_getD, List.getElem?_eq_getElem hj]; rfl)
    exact this
  refine (Any7.bits_TrailingZeros64 tzLay k (by omega) w fun _ => hT).mono ?_
  rintro e w' ⟨rfl, rfl⟩
  exact ⟨_, E, rfl, Post.refl hR, .int _ _⟩
instance : XtOk Tryd.prog := ⟨fun f g hX args h v h' hv => by
    rcases xt_inv hX with ⟨_, rfl⟩ | ⟨_, rfl⟩
    · exact sortX_grow _ _ _ _ _ hv
    · obtain ⟨_, _, _, _, _, rfl⟩ := tzX_h hv; exact Grow.refl _,
  fun base f g hX args h v h' E w args' hv hR ha _ => by
    rcases xt_inv hX with ⟨rfl, rfl⟩ | ⟨rfl, rfl⟩
    · exact sort_sound base args h v h' E w args' hv hR ha
    · exact tz_sound base args h v h' E w args' hv hR ha⟩

end Go.Am
