/- What the functions answer, in the machine. -/
import Derived.Test.YtckmbpfimofhdaaKC
import Derived.Test.YtckmbpfimofhdaaChecked
import Derived.KernelRfl
import Derived.RangeFuncStops
import Derived.RangeFuncBox
import Derived.RangeFuncLeaves
import Derived.Sort.MapsRangeIn
import Derived.WalkKit
import Derived.OwnWalkIn
import Derived.TacticsInMore
import Derived.RegionIn
import Derived.LoopNIn
import Derived.LoopIn
import Derived.Shelf.Abstract
import Derived.Maps.AppendAt
set_option linter.all false
namespace Go.Am
open Go.Proofs
end Go.Am
namespace Go.Am
open Go.Proofs
theorem etB : ElemT Try.prog 31 5 1 1 (.int .u8 0) := ⟨by kernel_rfl, by kernel_rfl, by kernel_rfl, by kernel_rfl, by omega, rfl, rfl⟩
end Go.Am
namespace Go.Am
open Go.Proofs
end Go.Am
namespace Go.Am
open Go.Proofs
theorem ld64 (p o : Nat) (h : Heap) : loadV Try.prog 30 (.pointer (some ⟨p, o, none⟩)) h = h.load1 p o := by kernel_rfl
theorem st64 (p o : Nat) (k : IntKind) (n : Int) (h : Heap) : storeV Try.prog 30 (.pointer (some ⟨p, o, none⟩)) (.int k n) h = h.storeN p o [.int k n] := by kernel_rfl
theorem nilB (xo yo : Operand) : binV Try.prog .eql 31 xo yo (.slice none 0 0) (.slice none 0 0) = some (.bool true) := by kernel_rfl
theorem mkB0 (h : Heap) : buildSliceV Try.prog 31 0 #[] h = some (.slice (some ⟨h.blks.length, 0, none⟩) 0 0, h.new (.cells []) 5) := by kernel_rfl
theorem mkB1 (k : IntKind) (n : Int) (h : Heap) : buildSliceV Try.prog 31 1 #[(0, .int k n)] h = some (.slice (some ⟨h.blks.length, 0, none⟩) 1 1, h.new (.cells [.int k n]) 5) := by kernel_rfl
theorem cvI64 (n : Int) (h : Heap) (h0 : 0 ≤ n) (h1 : n < 2 ^ 63) : convV Try.prog 3 30 (.int .i64 n) h = some (.int .u64 n, h) := conv_u64 (ks := .i64) (by kernel_rfl) (by kernel_rfl) _ _ _ h0 (by omega)
abbrev SB (h : Heap) (v : Value) (bs : List UInt8) : Prop := Sl Try.prog h 1 v bs.length (bs.map byteV)
abbrev AB (n0 : Nat) (h : Heap) (v : Value) (bs : List UInt8) : Prop := Acc n0 h 5 1 v bs.length (bs.map byteV)
theorem AB.sb {n0 : Nat} {h : Heap} {v : Value} {bs : List UInt8} (a : AB n0 h v bs) : SB h v bs := a.sl etB.size
theorem bytes_one (bs : List UInt8) : (bs.map byteV).all Value.oneCell' = true := by
  rw [List.all_map, List.all_eq_true]; intro x _; rfl
theorem AB.empty (n0 : Nat) (h : Heap) (hn : n0 ≤ h.blks.length) : AB n0 (h.new (.cells []) 5) (.slice (some ⟨h.blks.length, 0, none⟩) 0 0) [] := .full (all := []) hn (by omega) (blk_new_self _ _ _) (by simp) rfl
theorem app_bytes {n0 : Nat} {h : Heap} (hn0 : n0 ≤ h.blks.length) {v x : Value} {bs cs : List UInt8} (ha : AB n0 h v bs) (hx : SB h x cs) (hl : bs.length + cs.length ≤ 140737488351232) :
    ∃ a c h', appendV Try.prog 31 (some 31) v x h = some (.slice a (bs ++ cs).length c, h') ∧ AB n0 h' (.slice a (bs ++ cs).length c) (bs ++ cs) ∧ Keeps n0 h h' ∧ (∀ b, b < h.blks.length → blockOf v ≠ some b → h'.blks[b]? = h.blks[b]?) ∧
      (.slice a (bs ++ cs).length c = v ∧ h' = h ∨ blockOf (.slice a (bs ++ cs).length c) = some h.blks.length ∧ h.blks.length < h'.blks.length) := by
  obtain ⟨v', h', e1, e2, e3, e4, e5⟩ := append_acc etB (t1 := some 31) hn0 ha (newsV_row etB.under hx.row) (by simpa using hx.len) (by omega) (by omega) (bytes_one cs)
  obtain ⟨a, c, rfl⟩ := e2.shape
  rw [← List.length_append] at e1 e2 e5
  rw [← List.map_append] at e2
  exact ⟨a, c, h', e1, e2, e3, e4, e5⟩
theorem strB {h : Heap} {v : Value} {bs : List UInt8} (s : SB h v bs) : convV Try.prog 31 9 v h = some (strV bs, h) := by
  have hs : Try.prog.underlying 31 = some (.slice 5) := by kernel_rfl
  have hd : Try.prog.underlying 9 = some .string := by kernel_rfl
  have hb : isByteT Try.prog 5 = true := by kernel_rfl
  have hbo : ∀ l : List UInt8, bytesOf? (l.map byteV) = some l := by
    intro l
    induction l with
    | nil => rfl
    | cons x l ih =>
      rw [List.map_cons]
      unfold byteV bytesOf?
      rw [show (l.map byteV) = l.map byteV from rfl] at ih
      have : bytesOf? (l.map fun b => Value.int .u8 (b.toNat : Int)) = some l := ih
      change (bytesOf? (l.map byteV)).map _ = _
      rw [ih]
      simp
  unfold convV
  rw [hs, hd]
  rcases s.inv with ⟨rfl, _, h3⟩ | ⟨b, o, c, rfl, hl, _⟩
  · have : bs = [] := by simpa using h3
    subst this
    simp [hb]
    rfl
  · simp only [hb, if_true]
    rw [Nat.mul_one] at hl
    rw [hl, Option.bind_some, hbo]
    rfl
theorem lit1 (b : UInt8) (h : Heap) : SB (h.new (.cells [byteV b]) 5) (.slice (some ⟨h.blks.length, 0, none⟩) 1 1) [b] :=
  .mk (by simp [Heap.loadN, Heap.cells?, blk_new_self]) (.inr ⟨Nat.le_refl _, by unfold UNK; omega⟩)
theorem spec_Clone (h : Heap) (x : Value) (bs : List UInt8) (hx : SB h x bs) (hl : bs.length ≤ 140737488351232) :
    ∃ a c h', evC Try.prog 15 #[x] h = some (.slice a bs.length c, h') ∧ HExt h h' ∧ AB h.blks.length h' (.slice a bs.length c) bs := by
  rw [call15, c15_0_eq]
  rcases hx.inv with ⟨rfl, _, h3⟩ | ⟨b, o, c, rfl, _, _⟩
  · have : bs = [] := by simpa using h3
    subst this
    simp -implicitDefEqProofs only [nilB, ↓cnd_true, ↓cnd_false, ↓Option.bind_some, ↓obH_some', bin_add, bin_sub, bin_mul, bin_lss, bin_leq, bin_gtr, bin_geq, bin_eql, bin_neq, un_not, un_neg, Option.bind_some, Option.bind_none, Option.map_some, cnd_true, cnd_false, pickV_true, pickV_false, gd_true, gd_false, gdV_true, gdV_false, gdH_true, gdH_false, gdS_true, gdS_false, wt_ff, wt_tt, wt_ft, wt_tf, wt_undef, obH_some', extractV_tuple, nilCheckV_ptr, againK_normal, againK_exit, againK_ret, blockK_normal, blockK_same, blockK_ret, seqK_normal, seqK_exit, seqK_ret, fin_done, if_true', if_false', Bool.not_true, Bool.not_false, idx0, idx1, idx2, idx3, idx4, chk_nil_l, chk_nil_r, done_nm]
    rw [ret15, fin_done]
    exact ⟨none, 0, h, by simp, HExt.refl h, .nil⟩
  · simp -implicitDefEqProofs only [bin_nil_some (P := Try.prog) (t := 31) etB.under, mkB0, ↓cnd_true, ↓cnd_false, ↓Option.bind_some, ↓obH_some', bin_add, bin_sub, bin_mul, bin_lss, bin_leq, bin_gtr, bin_geq, bin_eql, bin_neq, un_not, un_neg, Option.bind_some, Option.bind_none, Option.map_some, cnd_true, cnd_false, pickV_true, pickV_false, gd_true, gd_false, gdV_true, gdV_false, gdH_true, gdH_false, gdS_true, gdS_false, wt_ff, wt_tt, wt_ft, wt_tf, wt_undef, obH_some', extractV_tuple, nilCheckV_ptr, againK_normal, againK_exit, againK_ret, blockK_normal, blockK_same, blockK_ret, seqK_normal, seqK_exit, seqK_ret, fin_done, if_true', if_false', Bool.not_true, Bool.not_false, idx0, idx1, idx2, idx3, idx4, chk_nil_l, chk_nil_r, done_nm]
    obtain ⟨a, c', h', e1, e2, e3, e4, e5⟩ := app_bytes (n0 := h.blks.length) (by simp [Heap.new]) (AB.empty h.blks.length (nm h) (by simp)) (hx.nm.keepNew _ _) (by simp; omega)
    rw [e1]
    simp only [obH_some']
    rw [ret15, fin_done]
    exact ⟨a, c', _, rfl, done_ext' ((In.new (S := No) (by simp) _ _).trans e3.inn), e2.done⟩
end Go.Am
namespace Go.Am
open Go.Proofs
def LoP (v : Value) (L p : Nat) : Prop := ∀ b, blockOf v = some b → L ≤ b ∧ b < p
theorem LoP.ne {v : Value} {L p : Nat} (l : LoP v L p) : blockOf v ≠ some p := fun e => by have := (l p e).2; omega
theorem LoP.to {v w : Value} {L p : Nat} (l : LoP v L p) (e : blockOf w = blockOf v) : LoP w L p := fun b hb => l b (by rw [← e]; exact hb)
theorem LoP.nil (L p : Nat) : LoP (.slice none 0 0) L p := fun b hb => by cases hb
end Go.Am
namespace Go.Am
end Go.Am
namespace Go.Am
open Go.Proofs
end Go.Am
namespace Go.Am
end Go.Am
namespace Go.Am
open Go.Proofs
set_option maxRecDepth 100000
theorem etU : ElemT Try.prog 32 30 1 8 (.int .u64 0) := ⟨by kernel_rfl, by kernel_rfl, by kernel_rfl, by kernel_rfl, by omega, rfl, rfl⟩
theorem vld64 (p o : Nat) (h : Heap) : loadV Try.prog 30 (.pointer (some ⟨p, o, none⟩)) h = h.load1 p o := by kernel_rfl
theorem vst64 (p o : Nat) (k : IntKind) (n : Int) (h : Heap) : storeV Try.prog 30 (.pointer (some ⟨p, o, none⟩)) (.int k n) h = h.storeN p o [.int k n] := by kernel_rfl
end Go.Am
namespace Go.Am
open Go.Proofs
set_option maxRecDepth 100000
attribute [local congr] obind_congr obH_congr cnd_congr chk_congr retK_congr codeK_congr
theorem put_same {h : Heap} {b : Nat} {cs : List Value} {ty : TypeId} (hb : Cells h b ty cs) : (h.put b (.cells cs)).blks = h.blks := by
  rw [Heap.put_eq hb]
  simp only
  refine List.ext_getElem? fun i => ?_
  rw [List.getElem?_set]
  split
  · rename_i e
    subst e
    rw [if_pos hb.lt]
    exact hb.symm
  · rfl
theorem cvBB {h : Heap} {b n c : Nat} {cs : List Value} (hb : Cells h b 5 cs) (hn : n ≠ 0) : convV Try.prog 31 31 (.slice (some ⟨b, 0, none⟩) n c) h = some (.slice (some ⟨b, 0, none⟩) n c, h.put b (.cells cs)) := by
  have hs : Try.prog.underlying 31 = some (.slice 5) := by kernel_rfl
  have hbt : isByteT Try.prog 5 = true := by kernel_rfl
  unfold convV
  rw [hs]
  unfold Cells at hb
  have h1 : sizeT Try.prog 5 = some 1 := by kernel_rfl
  simp only [hb, hbt, hn, h1, ne_eq, not_false_eq_true, and_self, if_true]
theorem lit_str {h : Heap} {n0 : Nat} (hn0 : n0 ≤ h.blks.length) (b : UInt8) : ∃ h1 h2, buildSliceV Try.prog 31 1 #[(0, .int .u8 b.toNat)] h = some (.slice (some ⟨h.blks.length, 0, none⟩) 1 1, h1) ∧
    convV Try.prog 31 31 (.slice (some ⟨h.blks.length, 0, none⟩) 1 1) h1 = some (.slice (some ⟨h.blks.length, 0, none⟩) 1 1, h2) ∧ SB h2 (.slice (some ⟨h.blks.length, 0, none⟩) 1 1) [b] ∧ Same h h2 ∧ (∀ S,In n0 S h h2) ∧ h2.blks.length = h.blks.length + 1 := by
  have hc := Cells.new h 5 [byteV b]
  have hp := put_same hc
  refine ⟨h.new (.cells [byteV b]) 5, (h.new (.cells [byteV b]) 5).put h.blks.length (.cells [byteV b]), mkB1 _ _ _, cvBB hc (by omega), ?_, ?_, fun S => (In.new hn0 _ _).trans (In.put (by simp [Heap.new]; omega) (.inl hn0) _), by rw [hp]; simp [Heap.new]⟩
  · exact (lit1 b h).keep fun q _ _ => by rw [hp]
  · exact ⟨by rw [hp]; simp [Heap.new], fun q hq => by rw [hp]; exact Heap.new_old hq⟩
end Go.Am
namespace Go.Am
open Go.Proofs
set_option maxRecDepth 100000
set_option linter.all false
attribute [local congr] obind_congr obH_congr cnd_congr chk_congr retK_congr codeK_congr
structure Dk (h : Heap) (p r : Nat) (w nx : Nat) (es : List (Value × Value)) : Prop where
  cells : Cells h p 55 [.int .u64 w, .int .u64 nx, .map (some r)]
  map : h.blks[r]? = some ⟨.map es, 0, true⟩
theorem Dk.ne {h : Heap} {p r w nx : Nat} {es : List (Value × Value)} (d : Dk h p r w nx es) : p ≠ r := fun e => by
  have := d.map; subst e; rw [d.cells] at this; simp at this
theorem Dk.same {h h' : Heap} {p r w nx : Nat} {es : List (Value × Value)} (d : Dk h p r w nx es) (s : Same h h') : Dk h' p r w nx es :=
  ⟨d.cells.same s, (s.2 r (lt_of_blk d.map)).trans d.map⟩
theorem Dk.ext {h h' : Heap} {p r w nx : Nat} {es : List (Value × Value)} (d : Dk h p r w nx es) (s : HExt h h') : Dk h' p r w nx es := d.same s.same
theorem Dk.nm {h : Heap} {p r w nx : Nat} {es : List (Value × Value)} (d : Dk h p r w nx es) : Dk (nm h) p r w nx es := ⟨d.cells, d.map⟩
theorem Dk.done {h0 h : Heap} {p r w nx : Nat} {es : List (Value × Value)} (d : Dk h p r w nx es) : Dk (done h0 h) p r w nx es := ⟨d.cells, d.map⟩
theorem faD0 (p : Nat) : fieldAddrV Try.prog 55 (.pointer (some ⟨p, 0, none⟩)) 0 = some (.pointer (some ⟨p, 0, none⟩)) := by kernel_rfl
theorem faD1 (p : Nat) : fieldAddrV Try.prog 55 (.pointer (some ⟨p, 0, none⟩)) 1 = some (.pointer (some ⟨p, 1, none⟩)) := by kernel_rfl
theorem faD2 (p : Nat) : fieldAddrV Try.prog 55 (.pointer (some ⟨p, 0, none⟩)) 2 = some (.pointer (some ⟨p, 2, none⟩)) := by kernel_rfl
theorem ldM (p o : Nat) (h : Heap) : loadV Try.prog 53 (.pointer (some ⟨p, o, none⟩)) h = h.load1 p o := by kernel_rfl
theorem bdD (n m : Int) (r : Option Nat) : buildV Try.prog 55 #[(0, .int .u64 n), (1, .int .u64 m), (2, .map r)] = some (.agg #[.int .u64 n, .int .u64 m, .map r]) := by kernel_rfl
theorem bxD (a b c : Value) (h : Heap) : boxV Try.prog 55 (.agg #[a, b, c]) h = some (.pointer (some ⟨h.blks.length, 0, none⟩), h.new (.cells [a, b, c]) 55) := by kernel_rfl
theorem mkM (h : Heap) : makeMapV h = (.map (some h.blks.length), h.new (.map []) 0) := rfl
theorem mkSS (a : Option Addr) (n c : Nat) (h : Heap) : buildSliceV Try.prog 27 1 #[(0, .slice a n c)] h = some (.slice (some ⟨h.blks.length, 0, none⟩) 1 1, h.new (.cells [.slice a n c]) 31) := by kernel_rfl
theorem etSS : ElemT Try.prog 27 31 1 24 (.slice none 0 0) := ⟨by kernel_rfl, by kernel_rfl, by kernel_rfl, by kernel_rfl, by omega, rfl, rfl⟩
theorem uM : Try.prog.underlying 53 = some (.map 30 31) := by kernel_rfl
theorem zM : zeroT Try.prog 31 = some (.slice none 0 0) := by kernel_rfl
theorem iM : isIntT Try.prog 30 = true := by kernel_rfl
theorem map_of {h : Heap} {r : Nat} {es : List (Value × Value)} (m : h.blks[r]? = some ⟨.map es, 0, true⟩) : mapOf? h r = some es := by unfold mapOf?; rw [m]
theorem look_no {h : Heap} {r : Nat} {es : List (Value × Value)} (m : h.blks[r]? = some ⟨.map es, 0, true⟩) {n : Int} (hf : findInt .u64 n es 0 = some none) :
    lookupV Try.prog 53 (.map (some r)) (.int .u64 n) true h = some (.tuple #[.slice none 0 0, .bool false]) := by
  unfold lookupV
  simp only [uM, map_of m, zM, iM, hf]
  rfl
theorem look_yes {h : Heap} {r : Nat} {es : List (Value × Value)} (m : h.blks[r]? = some ⟨.map es, 0, true⟩) {n : Int} {i : Nat} {v : Value} (hf : findInt .u64 n es 0 = some (some (i, v))) :
    lookupV Try.prog 53 (.map (some r)) (.int .u64 n) true h = some (.tuple #[v, .bool true]) := by
  unfold lookupV
  simp only [uM, map_of m, zM, iM, hf]
  rfl
theorem upd_no {h : Heap} {r : Nat} {es : List (Value × Value)} (m : h.blks[r]? = some ⟨.map es, 0, true⟩) {n : Int} (hf : findInt .u64 n es 0 = some none) (v : Value) :
    mapUpdateV Try.prog 53 (.map (some r)) (.int .u64 n) v h = some (h.put r (.map (es ++ [(.int .u64 n, v)]))) := by
  unfold mapUpdateV
  simp only [uM, map_of m, iM, hf]
  rfl
theorem del_yes {h : Heap} {r : Nat} {es : List (Value × Value)} (m : h.blks[r]? = some ⟨.map es, 0, true⟩) {n : Int} {i : Nat} {v : Value} (hf : findInt .u64 n es 0 = some (some (i, v))) :
    builtinV Try.prog .delete #[53, 30] #[.map (some r), .int .u64 n] h = some (.tuple #[], h.put r (.map (es.eraseIdx i))) := by
  have : deleteV Try.prog 53 (.map (some r)) (.int .u64 n) h = some (h.put r (.map (es.eraseIdx i))) := by
    unfold deleteV
    simp only [uM, map_of m, iM, hf]
    rfl
  show (deleteV Try.prog 53 (.map (some r)) (.int .u64 n) h).map _ = _
  rw [this]; rfl
theorem Dk.putM {h : Heap} {p r w nx : Nat} {es : List (Value × Value)} (d : Dk h p r w nx es) (es' : List (Value × Value)) : Dk (h.put r (.map es')) p r w nx es' :=
  ⟨d.cells.keepPut (Ne.symm d.ne) _, by rw [blk_put_self d.map]⟩
theorem Dk.setN {h : Heap} {p r w nx : Nat} {es : List (Value × Value)} (d : Dk h p r w nx es) (m : Nat) :
    ∃ h', h.storeN p 1 [.int .u64 m] = some h' ∧ h' = h.put p (.cells [.int .u64 w, .int .u64 m, .map (some r)]) ∧ Dk h' p r w m es := by
  refine ⟨_, ?_, rfl, d.cells.put _, by rw [Heap.put_other (Ne.symm d.ne)]; exact d.map⟩
  rw [storeN_blk d.cells (by simp)]
  rfl
theorem spec_Next {h : Heap} {p r w nx : Nat} {es : List (Value × Value)} (d : Dk h p r w nx es) : evC Try.prog 14 #[.pointer (some ⟨p, 0, none⟩)] h = some (.int .u64 nx, h) := by
  rw [call14, c14_0_eq]
  have l1 : (nm h).load1 p 1 = some (.int .u64 nx) := d.nm.cells.load 1
  simp -implicitDefEqProofs (disch := omega) only [dcT, dcF, faD1, ld64, l1, ↓ret14, ↓cnd_true, ↓cnd_false, ↓Option.bind_some, ↓obH_some', bin_add, bin_sub, bin_mul, bin_lss, bin_leq, bin_gtr, bin_geq, bin_eql, bin_neq, un_not, un_neg, Option.bind_some, Option.bind_none, Option.map_some, cnd_true, cnd_false, pickV_true, pickV_false, gd_true, gd_false, gdV_true, gdV_false, gdH_true, gdH_false, gdS_true, gdS_false, wt_ff, wt_tt, wt_ft, wt_tf, wt_undef, obH_some', extractV_tuple, nilCheckV_ptr, againK_normal, againK_exit, againK_ret, blockK_normal, blockK_same, blockK_ret, seqK_normal, seqK_exit, seqK_ret, fin_done, if_true', if_false', Bool.not_true, Bool.not_false, idx0, idx1, idx2, idx3, idx4, chk_nil_l, chk_nil_r, done_nm]
end Go.Am
namespace Go.Am
open Go.Proofs
set_option maxRecDepth 100000
set_option linter.all false
attribute [local congr] obind_congr obH_congr cnd_congr chk_congr retK_congr codeK_congr
def PR (p r : Nat) : Nat → Prop := fun b => b = p ∨ b = r
noncomputable abbrev takeL (h0 : Heap) (T : Array Value) (h : Heap) := loopK Try.prog (evC Try.prog) c9_1 ⟨T, h⟩ (blockK 0 (retK Try.f9 Try.prog h0))
theorem take_none {h0 h : Heap} {p r w nx : Nat} {es : List (Value × Value)} (d : Dk h p r w nx es) (hf : findInt .u64 nx es 0 = some none) (on : Value) (Ab Ac Ad Ae Af Ag Ah Ai Aj Al An Ao Ap Aq Ar As At Au Av Aw Ax Ay Az Ba Bb Bc Bd Be Bf Bg Bh Bi Bj Bk Bl Bn Bo Bp Bq Br Bs Bt Bu Bv Bw By Bz Ca Cb Cc Cd Ce Cf Cg Ch Ci Cj Ck Cl Cm Cn Co Cp Cq Cr Cs Ct Cu Cv Cw Cx Cy Cz Da Db Dc Dd De Df Dg Dh Di Dj : Value) :
    takeL h0 #[.pointer (some ⟨p, 0, none⟩),Ab,Ac,Ad,Ae,Af,Ag,Ah,Ai,Aj, on,Al,An,Ao,Ap,Aq,Ar,As,At,Au,Av,Aw,Ax,Ay,Az,Ba,Bb,Bc,Bd,Be,Bf,Bg,Bh,Bi,Bj,Bk,Bl,Bn,Bo,Bp,Bq,Br,Bs,Bt,Bu,Bv,Bw,By,Bz,Ca,Cb,Cc,Cd,Ce,Cf,Cg,Ch,Ci,Cj,Ck,Cl,Cm,Cn,Co,Cp,Cq,Cr,Cs,Ct,Cu,Cv,Cw,Cx,Cy,Cz,Da,Db,Dc,Dd,De,Df,Dg,Dh,Di,Dj] h = some (.tuple #[on, .bool true], done h0 h) := by
  unfold takeL
  rw [loopK_eq evC_m, c9_1_eq]
  have l1 : h.load1 p 1 = some (.int .u64 nx) := d.cells.load 1
  have l2 : h.load1 p 2 = some (.map (some r)) := d.cells.load 2
  have lk := look_no d.map hf
  simp -implicitDefEqProofs (disch := omega) only [dcT, dcF, faD1, faD2, ld64, ldM, l1, l2, lk, ↓ret9, ↓cnd_true, ↓cnd_false, ↓Option.bind_some, ↓obH_some', bin_add, bin_sub, bin_mul, bin_lss, bin_leq, bin_gtr, bin_geq, bin_eql, bin_neq, un_not, un_neg, Option.bind_some, Option.bind_none, Option.map_some, cnd_true, cnd_false, pickV_true, pickV_false, gd_true, gd_false, gdV_true, gdV_false, gdH_true, gdH_false, gdS_true, gdS_false, wt_ff, wt_tt, wt_ft, wt_tf, wt_undef, obH_some', extractV_tuple, nilCheckV_ptr, againK_normal, againK_exit, againK_ret, blockK_normal, blockK_same, blockK_ret, seqK_normal, seqK_exit, seqK_ret, fin_done, if_true', if_false', Bool.not_true, Bool.not_false, idx0, idx1, idx2, idx3, idx4, chk_nil_l, chk_nil_r, done_nm]
theorem take_some {h0 h : Heap} {p r w nx : Nat} {es : List (Value × Value)} (hn : nx < 2 ^ 63) (hp : p < h0.blks.length) (hr : r < h0.blks.length) (hle : h0.blks.length ≤ h.blks.length) (d : Dk h p r w nx es) {i : Nat} {a : Option Addr} {n c : Nat} (hf : findInt .u64 nx es 0 = some (some (i, .slice a n c)))
    {on : Value} {m : Nat} {cs : List Value} (hm : m < 1000) (ha : Acc h0.blks.length h 31 1 on m cs) :
    ∃ on' h', Dk h' p r w (nx + 1) (es.eraseIdx i) ∧ Acc h0.blks.length h' 31 1 on' (m + 1) (cs ++ [.slice a n c]) ∧ In h0.blks.length (PR p r) h h' ∧
      (∀ b, b < h.blks.length → b ≠ p → b ≠ r → blockOf on ≠ some b → h'.blks[b]? = h.blks[b]?) ∧ (blockOf on' = blockOf on ∨ ∀ b, blockOf on' = some b → h.blks.length ≤ b) ∧ h.blks.length ≤ h'.blks.length ∧
      ∀ R, (∀ Ab Ac Ad Ae Af Ag Ah Ai Aj Al An Ao Ap Aq Ar As At Au Av Aw Ax Ay Az Ba Bb Bc Bd Be Bf Bg Bh Bi Bj Bk Bl Bn Bo Bp Bq Br Bs Bt Bu Bv Bw By Bz Ca Cb Cc Cd Ce Cf Cg Ch Ci Cj Ck Cl Cm Cn Co Cp Cq Cr Cs Ct Cu Cv Cw Cx Cy Cz Da Db Dc Dd De Df Dg Dh Di Dj : Value, takeL h0 #[.pointer (some ⟨p, 0, none⟩),Ab,Ac,Ad,Ae,Af,Ag,Ah,Ai,Aj, on', Al,An,Ao,Ap,Aq,Ar,As,At,Au,Av,Aw,Ax,Ay,Az,Ba,Bb,Bc,Bd,Be,Bf,Bg,Bh,Bi,Bj,Bk,Bl,Bn,Bo,Bp,Bq,Br,Bs,Bt,Bu,Bv,Bw,By,Bz,Ca,Cb,Cc,Cd,Ce,Cf,Cg,Ch,Ci,Cj,Ck,Cl,Cm,Cn,Co,Cp,Cq,Cr,Cs,Ct,Cu,Cv,Cw,Cx,Cy,Cz,Da,Db,Dc,Dd,De,Df,Dg,Dh,Di,Dj] h' = R) → ∀ Ab Ac Ad Ae Af Ag Ah Ai Aj Al An Ao Ap Aq Ar As At Au Av Aw Ax Ay Az Ba Bb Bc Bd Be Bf Bg Bh Bi Bj Bk Bl Bn Bo Bp Bq Br Bs Bt Bu Bv Bw By Bz Ca Cb Cc Cd Ce Cf Cg Ch Ci Cj Ck Cl Cm Cn Co Cp Cq Cr Cs Ct Cu Cv Cw Cx Cy Cz Da Db Dc Dd De Df Dg Dh Di Dj : Value, takeL h0 #[.pointer (some ⟨p, 0, none⟩),Ab,Ac,Ad,Ae,Af,Ag,Ah,Ai,Aj, on,Al,An,Ao,Ap,Aq,Ar,As,At,Au,Av,Aw,Ax,Ay,Az,Ba,Bb,Bc,Bd,Be,Bf,Bg,Bh,Bi,Bj,Bk,Bl,Bn,Bo,Bp,Bq,Br,Bs,Bt,Bu,Bv,Bw,By,Bz,Ca,Cb,Cc,Cd,Ce,Cf,Cg,Ch,Ci,Cj,Ck,Cl,Cm,Cn,Co,Cp,Cq,Cr,Cs,Ct,Cu,Cv,Cw,Cx,Cy,Cz,Da,Db,Dc,Dd,De,Df,Dg,Dh,Di,Dj] h = R := by
  have ha1 : Acc h0.blks.length (h.new (.cells [.slice a n c]) 31) 31 1 on m cs := ha.keep fun _ hb _ => Heap.new_old hb
  have hle1 : h0.blks.length ≤ (h.new (.cells [.slice a n c]) 31).blks.length := by simp [Heap.new]; omega
  have rw1 : Row (h.new (.cells [.slice a n c]) 31) 1 (.slice (some ⟨h.blks.length, 0, none⟩) 1 1) 1 [.slice a n c] :=
    .mk (loadN_blk (blk_new_self _ _ _) rfl)
  obtain ⟨on', h2, e2, a2, k2, o2, f2⟩ := append_acc etSS (t1 := some 27) hle1 ha1 (newsV_row etSS.under rw1) (by simp) (by omega) (by omega) (by simp [Value.oneCell'])
  have d1 : Dk (h.new (.cells [.slice a n c]) 31) p r w nx es := d.same (Same.new _ _ _)
  have d2 : Dk h2 p r w nx es :=
    ⟨(o2 p d1.cells.lt (ha.ne hp)).trans d1.cells, (o2 r (lt_of_blk d1.map) (ha.ne hr)).trans d1.map⟩
  have d3 := d2.putM (es.eraseIdx i)
  have dl := del_yes d2.map hf
  have p2 := a2.ne hp
  have q2 := a2.ne hr
  have a3 := a2.keepPut q2 (.map (es.eraseIdx i))
  have i3 : In h0.blks.length (PR p r) h2 (h2.put r (.map (es.eraseIdx i))) := In.put (by have := k2.len; omega) (.inr (.inr rfl)) _
  have o3 : ∀ b, b ≠ r → (h2.put r (.map (es.eraseIdx i))).blks[b]? = h2.blks[b]? := fun b hb => Heap.put_other hb _
  have l23 : h2.blks.length = (h2.put r (.map (es.eraseIdx i))).blks.length := (Heap.put_len ..).symm
  generalize h2.put r (.map (es.eraseIdx i)) = h3 at *
  obtain ⟨h4, st4, e4, d4⟩ := d3.setN (nx + 1)
  have a4 := a3.keepPut p2 (.cells [.int .u64 w, .int .u64 (nx + 1 : Nat), .map (some r)])
  have i4 : In h0.blks.length (PR p r) h3 (h3.put p (.cells [.int .u64 w, .int .u64 (nx + 1 : Nat), .map (some r)])) := In.put (by have := k2.len; omega) (.inr (.inl rfl)) _
  have o4 : ∀ b, b ≠ p → (h3.put p (.cells [.int .u64 w, .int .u64 (nx + 1 : Nat), .map (some r)])).blks[b]? = h3.blks[b]? := fun b hb => Heap.put_other hb _
  have l34 : h3.blks.length = (h3.put p (.cells [.int .u64 w, .int .u64 (nx + 1 : Nat), .map (some r)])).blks.length := (Heap.put_len ..).symm
  rw [← e4] at a4 i4 o4 l34
  have ln : (h.new (.cells [.slice a n c]) 31).blks.length = h.blks.length + 1 := by simp [Heap.new]
  have hk2 := k2.len
  refine ⟨on', h4, d4, a4, (((In.new hle _ _).trans k2.inn).trans i3).trans i4, fun b hb b1 b2 b3 => (o4 b b1).trans ((o3 b b2).trans ((o2 b (by omega) b3).trans (Heap.new_old hb))), ?_, by omega, fun R hR Ab Ac Ad Ae Af Ag Ah Ai Aj Al An Ao Ap Aq Ar As At Au Av Aw Ax Ay Az Ba Bb Bc Bd Be Bf Bg Bh Bi Bj Bk Bl Bn Bo Bp Bq Br Bs Bt Bu Bv Bw By Bz Ca Cb Cc Cd Ce Cf Cg Ch Ci Cj Ck Cl Cm Cn Co Cp Cq Cr Cs Ct Cu Cv Cw Cx Cy Cz Da Db Dc Dd De Df Dg Dh Di Dj => ?_⟩
  · rcases f2 with ⟨rfl, _⟩ | ⟨f, _⟩
    · exact .inl rfl
    · exact .inr fun b hb => by rw [f] at hb; cases hb; omega
  unfold takeL
  rw [loopK_eq evC_m, c9_1_eq]
  have l1 : h.load1 p 1 = some (.int .u64 nx) := d.cells.load 1
  have l2 : h.load1 p 2 = some (.map (some r)) := d.cells.load 2
  have m1 : h2.load1 p 1 = some (.int .u64 nx) := d2.cells.load 1
  have m2 : h2.load1 p 2 = some (.map (some r)) := d2.cells.load 2
  have n1 : h3.load1 p 1 = some (.int .u64 nx) := d3.cells.load 1
  have lk := look_yes d.map hf
  have hw : IntKind.wrap .u64 ((nx : Int) + 1) = ((nx + 1 : Nat) : Int) := by rw [wrap_u64] <;> omega
  simp -implicitDefEqProofs (disch := omega) only [dcT, dcF, faD1, faD2, ld64, ldM, l1, l2, lk, mkSS, e2, m1, m2, dl, n1, hw, st64, st4, ↓cnd_true, ↓cnd_false, ↓Option.bind_some, ↓obH_some', bin_add, bin_sub, bin_mul, bin_lss, bin_leq, bin_gtr, bin_geq, bin_eql, bin_neq, un_not, un_neg, Option.bind_some, Option.bind_none, Option.map_some, cnd_true, cnd_false, pickV_true, pickV_false, gd_true, gd_false, gdV_true, gdV_false, gdH_true, gdH_false, gdS_true, gdS_false, wt_ff, wt_tt, wt_ft, wt_tf, wt_undef, obH_some', extractV_tuple, nilCheckV_ptr, againK_normal, againK_exit, againK_ret, blockK_normal, blockK_same, blockK_ret, seqK_normal, seqK_exit, seqK_ret, fin_done, if_true', if_false', Bool.not_true, Bool.not_false, idx0, idx1, idx2, idx3, idx4, chk_nil_l, chk_nil_r, done_nm]
  exact hR _ _ _ _ _ _ _ _ _ _ _ _ _ _ _ _ _ _ _ _ _ _ _ _ _ _ _ _ _ _ _ _ _ _ _ _ _ _ _ _ _ _ _ _ _ _ _ _ _ _ _ _ _ _ _ _ _ _ _ _ _ _ _ _ _ _ _ _ _ _ _ _ _ _ _ _ _ _ _ _ _ _ _
theorem take_no {h : Heap} {p r w nx : Nat} {es : List (Value × Value)} (d : Dk h p r w nx es) (num : Nat) (hn : num < 2 ^ 64) (hx : nx < 2 ^ 63) (hw : w < 2 ^ 63) (hf : findInt .u64 num es 0 = some none) (hno : num < nx ∨ nx + w ≤ num) (x : Value) :
    evC Try.prog 9 #[.pointer (some ⟨p, 0, none⟩), .int .u64 num, x] h = some (.tuple #[.slice none 0 0, .bool false], h) := by
  rw [call9, c9_0_eq]
  have l0 : (nm h).load1 p 0 = some (.int .u64 w) := d.nm.cells.load 0
  have l1 : (nm h).load1 p 1 = some (.int .u64 nx) := d.nm.cells.load 1
  have l2 : (nm h).load1 p 2 = some (.map (some r)) := d.nm.cells.load 2
  have lk := look_no d.nm.map hf
  by_cases c1 : num < nx
  · simp -implicitDefEqProofs (disch := omega) only [dcT, dcF, faD0, faD1, faD2, ld64, ldM, l0, l1, l2, lk, ↓ret9, ↓cnd_true, ↓cnd_false, ↓Option.bind_some, ↓obH_some', bin_add, bin_sub, bin_mul, bin_lss, bin_leq, bin_gtr, bin_geq, bin_eql, bin_neq, un_not, un_neg, Option.bind_some, Option.bind_none, Option.map_some, cnd_true, cnd_false, pickV_true, pickV_false, gd_true, gd_false, gdV_true, gdV_false, gdH_true, gdH_false, gdS_true, gdS_false, wt_ff, wt_tt, wt_ft, wt_tf, wt_undef, obH_some', extractV_tuple, nilCheckV_ptr, againK_normal, againK_exit, againK_ret, blockK_normal, blockK_same, blockK_ret, seqK_normal, seqK_exit, seqK_ret, fin_done, if_true', if_false', Bool.not_true, Bool.not_false, idx0, idx1, idx2, idx3, idx4, chk_nil_l, chk_nil_r, done_nm]
  · have hs : IntKind.wrap .u64 ((num : Int) - nx) = ((num - nx : Nat) : Int) := by rw [wrap_u64] <;> omega
    simp -implicitDefEqProofs (disch := omega) only [dcT, dcF, faD0, faD1, faD2, ld64, ldM, l0, l1, l2, lk, hs, ↓ret9, ↓cnd_true, ↓cnd_false, ↓Option.bind_some, ↓obH_some', bin_add, bin_sub, bin_mul, bin_lss, bin_leq, bin_gtr, bin_geq, bin_eql, bin_neq, un_not, un_neg, Option.bind_some, Option.bind_none, Option.map_some, cnd_true, cnd_false, pickV_true, pickV_false, gd_true, gd_false, gdV_true, gdV_false, gdH_true, gdH_false, gdS_true, gdS_false, wt_ff, wt_tt, wt_ft, wt_tf, wt_undef, obH_some', extractV_tuple, nilCheckV_ptr, againK_normal, againK_exit, againK_ret, blockK_normal, blockK_same, blockK_ret, seqK_normal, seqK_exit, seqK_ret, fin_done, if_true', if_false', Bool.not_true, Bool.not_false, idx0, idx1, idx2, idx3, idx4, chk_nil_l, chk_nil_r, done_nm]
theorem take_yes {h : Heap} {p r w nx : Nat} {es : List (Value × Value)} (d : Dk h p r w nx es) (num : Nat) (hn : num < 2 ^ 64) (hx : nx < 2 ^ 63) (hw : w < 2 ^ 63) (hf : findInt .u64 num es 0 = some none) (h1 : nx ≤ num) (h2 : num < nx + w) (x : Value) (bs : List UInt8) (sx : SB h x bs) (hl : bs.length ≤ 140737488351232) :
    ∃ a c h', Dk h' p r w nx (es ++ [(.int .u64 num, .slice a bs.length c)]) ∧ SB h' (.slice a bs.length c) bs ∧ In h.blks.length (PR p r) (nm h) h' ∧ (∀ b, blockOf (.slice a bs.length c) = some b → h.blks.length ≤ b) ∧
      ∀ R, (∀ Ab Ac Ad Ae Af Ag Ah Ai Aj Al An Ao Ap Aq Ar As At Au Av Aw Ax Ay Az Ba Bb Bc Bd Be Bf Bg Bh Bi Bj Bk Bl Bn Bo Bp Bq Br Bs Bt Bu Bv Bw By Bz Ca Cb Cc Cd Ce Cf Cg Ch Ci Cj Ck Cl Cm Cn Co Cp Cq Cr Cs Ct Cu Cv Cw Cx Cy Cz Da Db Dc Dd De Df Dg Dh Di Dj : Value, takeL h #[.pointer (some ⟨p, 0, none⟩),Ab,Ac,Ad,Ae,Af,Ag,Ah,Ai,Aj, .slice none 0 0,Al,An,Ao,Ap,Aq,Ar,As,At,Au,Av,Aw,Ax,Ay,Az,Ba,Bb,Bc,Bd,Be,Bf,Bg,Bh,Bi,Bj,Bk,Bl,Bn,Bo,Bp,Bq,Br,Bs,Bt,Bu,Bv,Bw,By,Bz,Ca,Cb,Cc,Cd,Ce,Cf,Cg,Ch,Ci,Cj,Ck,Cl,Cm,Cn,Co,Cp,Cq,Cr,Cs,Ct,Cu,Cv,Cw,Cx,Cy,Cz,Da,Db,Dc,Dd,De,Df,Dg,Dh,Di,Dj] h' = R) → evC Try.prog 9 #[.pointer (some ⟨p, 0, none⟩), .int .u64 num, x] h = R := by
  obtain ⟨a, c, h1', e1,Ab, s1⟩ := spec_Clone (nm (nm h)) x bs sx.nm.nm (by omega)
  have xam : HExt (nm h) (am h1' (nm h)) := ⟨Ab.len,Ab.old, by rw [am_mods,Ab.mods]; rfl⟩
  have hmods : h1'.mods = [] := Ab.mods
  have s1' : AB h.blks.length (am h1' (nm h)) (.slice a bs.length c) bs := s1.keep fun _ _ _ => rfl
  have dd := d.nm.ext xam
  have hle : h.blks.length ≤ (am h1' (nm h)).blks.length := xam.len
  generalize ham : am h1' (nm h) = h2' at *
  have up := upd_no dd.map hf (.slice a bs.length c)
  have d3 := dd.putM (es ++ [(.int .u64 num, .slice a bs.length c)])
  have hr := lt_of_blk d.map
  have s3 := s1'.sb.keepPut (s1'.ne hr) (.map (es ++ [(.int .u64 num, .slice a bs.length c)]))
  refine ⟨a, c, _, d3, s3, (xam.inn (by simp)).trans (In.put hle (.inr (.inr rfl)) _), fun b hb => s1'.ge hb, fun R hR => ?_⟩
  rw [call9, c9_0_eq]
  have l0 : (nm h).load1 p 0 = some (.int .u64 w) := d.nm.cells.load 0
  have l1 : (nm h).load1 p 1 = some (.int .u64 nx) := d.nm.cells.load 1
  have l2 : (nm h).load1 p 2 = some (.map (some r)) := d.nm.cells.load 2
  have lk := look_no d.nm.map hf
  have hs : IntKind.wrap .u64 ((num : Int) - nx) = ((num - nx : Nat) : Int) := by rw [wrap_u64] <;> omega
  simp -implicitDefEqProofs (disch := omega) only [dcT, dcF, faD0, faD1, faD2, ld64, ldM, l0, l1, l2, lk, hs, e1, ham, hmods, List.append_nil, up, ↓cnd_true, ↓cnd_false, ↓Option.bind_some, ↓obH_some', bin_add, bin_sub, bin_mul, bin_lss, bin_leq, bin_gtr, bin_geq, bin_eql, bin_neq, un_not, un_neg, Option.bind_some, Option.bind_none, Option.map_some, cnd_true, cnd_false, pickV_true, pickV_false, gd_true, gd_false, gdV_true, gdV_false, gdH_true, gdH_false, gdS_true, gdS_false, wt_ff, wt_tt, wt_ft, wt_tf, wt_undef, obH_some', extractV_tuple, nilCheckV_ptr, againK_normal, againK_exit, againK_ret, blockK_normal, blockK_same, blockK_ret, seqK_normal, seqK_exit, seqK_ret, fin_done, if_true', if_false', Bool.not_true, Bool.not_false, idx0, idx1, idx2, idx3, idx4, chk_nil_l, chk_nil_r, done_nm]
  exact hR _ _ _ _ _ _ _ _ _ _ _ _ _ _ _ _ _ _ _ _ _ _ _ _ _ _ _ _ _ _ _ _ _ _ _ _ _ _ _ _ _ _ _ _ _ _ _ _ _ _ _ _ _ _ _ _ _ _ _ _ _ _ _ _ _ _ _ _ _ _ _ _ _ _ _ _ _ _ _ _ _ _ _
end Go.Am
namespace Go.Am
open Go.Proofs
set_option maxRecDepth 100000
set_option linter.all false
attribute [local congr] obind_congr obH_congr cnd_congr chk_congr retK_congr codeK_congr
theorem mkS2 (h : Heap) : buildSliceV Try.prog 35 2 #[(0, .string { data := #[97] }), (1, .string { data := #[98] })] h = some (.slice (some ⟨h.blks.length, 0, none⟩) 2 2, h.new (.cells [strV [97], strV [98]]) 9) := by kernel_rfl
theorem undS : Try.prog.underlying 35 = some (.slice 9) := by kernel_rfl
theorem nilP (xo yo : Operand) (p : Nat) : binV Try.prog .eql 23 xo yo (.pointer (some ⟨p, 0, none⟩)) (.pointer none) = some (.bool false) := by kernel_rfl
end Go.Am
namespace Go.Am
open Go.Proofs
set_option maxRecDepth 100000
set_option linter.all false
attribute [local congr] obind_congr obH_congr cnd_congr chk_congr retK_congr codeK_congr
abbrev Ent := Nat × List UInt8
structure GB (h : Heap) (p r : Nat) (on : Value) (v : Value) (bs : List UInt8) : Prop where
  sb : SB h v bs
  np : blockOf v ≠ some p
  nr : blockOf v ≠ some r
  no : ∀ b, blockOf v = some b → blockOf on ≠ some b
def GE (h : Heap) (p r : Nat) (on : Value) (es : List (Value × Value)) (L : List Ent) : Prop :=
  es.length = L.length ∧ ∀ (i : Nat) (e : Value × Value) (q : Ent), es[i]? = some e → L[i]? = some q → e.1 = natV q.1 ∧ q.1 < 2 ^ 64 ∧ (∃ a n c, e.2 = .slice a n c) ∧ GB h p r on e.2 q.2
def GO (h : Heap) (p r : Nat) (on : Value) (cs : List Value) (bss : List (List UInt8)) : Prop :=
  cs.length = bss.length ∧ ∀ (i : Nat) (c : Value) (b : List UInt8), cs[i]? = some c → bss[i]? = some b → GB h p r on c b
theorem GB.step {h h' : Heap} {p r : Nat} {on on' v : Value} {bs : List UInt8} (g : GB h p r on v bs) (fr : ∀ b, b < h.blks.length → b ≠ p → b ≠ r → blockOf on ≠ some b → h'.blks[b]? = h.blks[b]?)
    (fo : blockOf on' = blockOf on ∨ ∀ b, blockOf on' = some b → h.blks.length ≤ b) : GB h' p r on' v bs := by
  refine ⟨g.sb.keep fun b hb hv => fr b hb (fun e => g.np (e ▸ hv)) (fun e => g.nr (e ▸ hv)) (g.no b hv), g.np, g.nr, fun b hv e => ?_⟩
  rcases fo with f | f
  · exact g.no b hv (f ▸ e)
  · have := f b e
    have := g.sb.lt hv
    omega
theorem GE.step {h h' : Heap} {p r : Nat} {on on' : Value} {es : List (Value × Value)} {L : List Ent} (g : GE h p r on es L) (fr : ∀ b, b < h.blks.length → b ≠ p → b ≠ r → blockOf on ≠ some b → h'.blks[b]? = h.blks[b]?)
    (fo : blockOf on' = blockOf on ∨ ∀ b, blockOf on' = some b → h.blks.length ≤ b) : GE h' p r on' es L :=
  ⟨g.1, fun i e q he hq => let ⟨a, b, c, d⟩ := g.2 i e q he hq; ⟨a, b, c, d.step fr fo⟩⟩
theorem GO.step {h h' : Heap} {p r : Nat} {on on' : Value} {cs : List Value} {bss : List (List UInt8)} (g : GO h p r on cs bss) (fr : ∀ b, b < h.blks.length → b ≠ p → b ≠ r → blockOf on ≠ some b → h'.blks[b]? = h.blks[b]?)
    (fo : blockOf on' = blockOf on ∨ ∀ b, blockOf on' = some b → h.blks.length ≤ b) : GO h' p r on' cs bss :=
  ⟨g.1, fun i c b hc hb => (g.2 i c b hc hb).step fr fo⟩
theorem GE.erase {h : Heap} {p r : Nat} {on : Value} {es : List (Value × Value)} {L : List Ent} (g : GE h p r on es L) (i : Nat) : GE h p r on (es.eraseIdx i) (L.eraseIdx i) := by
  refine ⟨by rw [List.length_eraseIdx, List.length_eraseIdx, g.1], fun j e q he hq => ?_⟩
  rw [List.getElem?_eraseIdx] at he hq
  split at he
  · rename_i hc; rw [if_pos hc] at hq; exact g.2 j e q he hq
  · rename_i hc; rw [if_neg hc] at hq; exact g.2 _ e q he hq
theorem GE.snoc {h : Heap} {p r : Nat} {on : Value} {es : List (Value × Value)} {L : List Ent} (g : GE h p r on es L) {e : Value × Value} {q : Ent} (he : e.1 = natV q.1 ∧ q.1 < 2 ^ 64 ∧ (∃ a n c, e.2 = .slice a n c) ∧ GB h p r on e.2 q.2) : GE h p r on (es ++ [e]) (L ++ [q]) := by
  refine ⟨by simp [g.1], fun j e' q' h1 h2 => ?_⟩
  rcases Nat.lt_trichotomy j es.length with hj | hj | hj
  · rw [List.getElem?_append_left hj] at h1
    rw [List.getElem?_append_left (by have := g.1; omega)] at h2
    exact g.2 j e' q' h1 h2
  · subst hj
    rw [List.getElem?_append_right (Nat.le_refl _)] at h1
    rw [List.getElem?_append_right (by have := g.1; omega), g.1] at h2
    simp at h1 h2
    subst h1 h2
    exact he
  · rw [List.getElem?_eq_none (by simp; omega)] at h1; cases h1
theorem GO.snoc {h : Heap} {p r : Nat} {on : Value} {cs : List Value} {bss : List (List UInt8)} (g : GO h p r on cs bss) {c : Value} {b : List UInt8} (hc : GB h p r on c b) : GO h p r on (cs ++ [c]) (bss ++ [b]) := by
  refine ⟨by simp [g.1], fun j e' q' h1 h2 => ?_⟩
  rcases Nat.lt_trichotomy j cs.length with hj | hj | hj
  · rw [List.getElem?_append_left hj] at h1
    rw [List.getElem?_append_left (by have := g.1; omega)] at h2
    exact g.2 j e' q' h1 h2
  · subst hj
    rw [List.getElem?_append_right (Nat.le_refl _)] at h1
    rw [List.getElem?_append_right (by have := g.1; omega), g.1] at h2
    simp at h1 h2
    subst h1 h2
    exact hc
  · rw [List.getElem?_eq_none (by simp; omega)] at h1; cases h1
theorem find_GE {h : Heap} {p r : Nat} {on : Value} (n : Nat) : ∀ (es : List (Value × Value)) (L : List Ent) (i0 : Nat), GE h p r on es L →
    (n ∉ L.map (·.1) ∧ findInt .u64 n es i0 = some none) ∨ ∃ i b e, L[i]? = some (n, b) ∧ es[i]? = some e ∧ findInt .u64 n es i0 = some (some (i0 + i, e.2))
  | [], L, i0, g => by
    have : L = [] := List.eq_nil_of_length_eq_zero g.1.symm
    subst this; exact .inl ⟨by simp, rfl⟩
  | (k, v) :: es, [], i0, g => by have := g.1; simp at this
  | (k, v) :: es, (m, b) :: L, i0, g => by
    have h0 := g.2 0 _ _ rfl rfl
    have hk : k = natV m := h0.1
    subst hk
    have g' : GE h p r on es L := ⟨by have := g.1; simpa using this, fun i e q he hq => g.2 (i + 1) e q (by simpa using he) (by simpa using hq)⟩
    simp only [findInt, natV, if_true]
    by_cases e : (n : Int) = m
    · have e' : n = m := by omega
      subst e'
      rw [if_pos rfl]
      exact .inr ⟨0, b, _, rfl, rfl, rfl⟩
    · rw [if_neg e]
      rcases find_GE n es L (i0 + 1) g' with ⟨h1, h2⟩ | ⟨i, b', e', h1, h2, h3⟩
      · exact .inl ⟨by simp only [List.map_cons, List.mem_cons, not_or]; exact ⟨by omega, h1⟩, h2⟩
      · exact .inr ⟨i + 1, b', e', h1, h2, by rw [h3]; congr 3; omega⟩
inductive Dr : Nat → List Ent → List (List UInt8) → Nat → List Ent → Prop
  | stop {nx : Nat} {L : List Ent} : nx ∉ L.map (·.1) → Dr nx L [] nx L
  | go {nx nx' i : Nat} {L L' : List Ent} {b : List UInt8} {outs : List (List UInt8)} : L[i]? = some (nx, b) → Dr (nx + 1) (L.eraseIdx i) outs nx' L' → Dr nx L (b :: outs) nx' L'
theorem take_dr {h0 : Heap} {p r w : Nat} (hp : p < h0.blks.length) (hr : r < h0.blks.length) : ∀ (k : Nat) (L : List Ent) (nx : Nat) (es : List (Value × Value)) (h : Heap) (on : Value) (cs : List Value) (bss : List (List UInt8)), L.length = k → nx + k < 2 ^ 63 → bss.length + k < 1000 →
    h0.blks.length ≤ h.blks.length → Dk h p r w nx es → GE h p r on es L → Acc h0.blks.length h 31 1 on bss.length cs → GO h p r on cs bss → In h0.blks.length (PR p r) (nm h0) h →
    ∃ outs nx' L' es' on' h' cs', Dr nx L outs nx' L' ∧ Dk h' p r w nx' es' ∧ GE h' p r on' es' L' ∧ Acc h0.blks.length h' 31 1 on' (bss.length + outs.length) cs' ∧ GO h' p r on' cs' (bss ++ outs) ∧ In h0.blks.length (PR p r) (nm h0) h' ∧
      ∀ Ab Ac Ad Ae Af Ag Ah Ai Aj Al An Ao Ap Aq Ar As At Au Av Aw Ax Ay Az Ba Bb Bc Bd Be Bf Bg Bh Bi Bj Bk Bl Bn Bo Bp Bq Br Bs Bt Bu Bv Bw By Bz Ca Cb Cc Cd Ce Cf Cg Ch Ci Cj Ck Cl Cm Cn Co Cp Cq Cr Cs Ct Cu Cv Cw Cx Cy Cz Da Db Dc Dd De Df Dg Dh Di Dj : Value, takeL h0 #[.pointer (some ⟨p, 0, none⟩),Ab,Ac,Ad,Ae,Af,Ag,Ah,Ai,Aj, on,Al,An,Ao,Ap,Aq,Ar,As,At,Au,Av,Aw,Ax,Ay,Az,Ba,Bb,Bc,Bd,Be,Bf,Bg,Bh,Bi,Bj,Bk,Bl,Bn,Bo,Bp,Bq,Br,Bs,Bt,Bu,Bv,Bw,By,Bz,Ca,Cb,Cc,Cd,Ce,Cf,Cg,Ch,Ci,Cj,Ck,Cl,Cm,Cn,Co,Cp,Cq,Cr,Cs,Ct,Cu,Cv,Cw,Cx,Cy,Cz,Da,Db,Dc,Dd,De,Df,Dg,Dh,Di,Dj] h = some (.tuple #[on', .bool true], done h0 h') := by
  intro k
  induction k with
  | zero =>
    intro L nx es h on cs bss hk hnx hb hle d g a go hin
    have : L = [] := List.eq_nil_of_length_eq_zero hk
    subst this
    have : es = [] := List.eq_nil_of_length_eq_zero (by have := g.1; simpa using this)
    subst this
    exact ⟨[], nx, [], [], on, h, cs, .stop (by simp), d, g, a, by rw [List.append_nil]; exact go, hin, fun Ab Ac Ad Ae Af Ag Ah Ai Aj Al An Ao Ap Aq Ar As At Au Av Aw Ax Ay Az Ba Bb Bc Bd Be Bf Bg Bh Bi Bj Bk Bl Bn Bo Bp Bq Br Bs Bt Bu Bv Bw By Bz Ca Cb Cc Cd Ce Cf Cg Ch Ci Cj Ck Cl Cm Cn Co Cp Cq Cr Cs Ct Cu Cv Cw Cx Cy Cz Da Db Dc Dd De Df Dg Dh Di Dj => take_none d rfl on _ _ _ _ _ _ _ _ _ _ _ _ _ _ _ _ _ _ _ _ _ _ _ _ _ _ _ _ _ _ _ _ _ _ _ _ _ _ _ _ _ _ _ _ _ _ _ _ _ _ _ _ _ _ _ _ _ _ _ _ _ _ _ _ _ _ _ _ _ _ _ _ _ _ _ _ _ _ _ _ _ _ _⟩
  | succ k ih =>
    intro L nx es h on cs bss hk hnx hb hle d g a go hin
    rcases find_GE nx es L 0 g with ⟨h1, h2⟩ | ⟨i, b, e, h1, h2, h3⟩
    · exact ⟨[], nx, L, es, on, h, cs, .stop h1, d, g, a, by rw [List.append_nil]; exact go, hin, fun Ab Ac Ad Ae Af Ag Ah Ai Aj Al An Ao Ap Aq Ar As At Au Av Aw Ax Ay Az Ba Bb Bc Bd Be Bf Bg Bh Bi Bj Bk Bl Bn Bo Bp Bq Br Bs Bt Bu Bv Bw By Bz Ca Cb Cc Cd Ce Cf Cg Ch Ci Cj Ck Cl Cm Cn Co Cp Cq Cr Cs Ct Cu Cv Cw Cx Cy Cz Da Db Dc Dd De Df Dg Dh Di Dj => take_none d h2 on _ _ _ _ _ _ _ _ _ _ _ _ _ _ _ _ _ _ _ _ _ _ _ _ _ _ _ _ _ _ _ _ _ _ _ _ _ _ _ _ _ _ _ _ _ _ _ _ _ _ _ _ _ _ _ _ _ _ _ _ _ _ _ _ _ _ _ _ _ _ _ _ _ _ _ _ _ _ _ _ _ _ _⟩
    · obtain ⟨_, _, ⟨ea, en, ec, he⟩, gb⟩ := g.2 i e _ h2 h1
      rw [Nat.zero_add, he] at h3
      rw [he] at gb
      obtain ⟨on', h', d', a', hin', fr, fo, hl, hR⟩ := take_some (by omega) hp hr hle d h3 (m := bss.length) (by omega) a
      have fr' : ∀ b, b < h.blks.length → b ≠ p → b ≠ r → blockOf on ≠ some b → h'.blks[b]? = h.blks[b]? := fr
      have hi : i < L.length := (List.getElem?_eq_some_iff.1 h1).1
      have el : (L.eraseIdx i).length = k := by rw [List.length_eraseIdx, if_pos hi]; omega
      have go' : GO h' p r on' (cs ++ [.slice ea en ec]) (bss ++ [b]) := (go.step fr' fo).snoc (gb.step fr' fo)
      obtain ⟨outs, nx', L', es', on2, h2', cs2, dr, q1, q2, q3, q4, q5, q6⟩ := ih (L.eraseIdx i) (nx + 1) (es.eraseIdx i) h' on' (cs ++ [.slice ea en ec]) (bss ++ [b]) el (by omega) (by simp; omega) (Nat.le_trans hle hl) d' ((g.step fr' fo).erase i) (by simpa using a') go' (hin.trans hin')
      refine ⟨b :: outs, nx', L', es', on2, h2', cs2, .go h1 dr, q1, q2, by simpa [Nat.add_assoc, Nat.add_comm 1] using q3, by simpa using q4, q5, fun Ab Ac Ad Ae Af Ag Ah Ai Aj Al An Ao Ap Aq Ar As At Au Av Aw Ax Ay Az Ba Bb Bc Bd Be Bf Bg Bh Bi Bj Bk Bl Bn Bo Bp Bq Br Bs Bt Bu Bv Bw By Bz Ca Cb Cc Cd Ce Cf Cg Ch Ci Cj Ck Cl Cm Cn Co Cp Cq Cr Cs Ct Cu Cv Cw Cx Cy Cz Da Db Dc Dd De Df Dg Dh Di Dj => hR _ q6 _ _ _ _ _ _ _ _ _ _ _ _ _ _ _ _ _ _ _ _ _ _ _ _ _ _ _ _ _ _ _ _ _ _ _ _ _ _ _ _ _ _ _ _ _ _ _ _ _ _ _ _ _ _ _ _ _ _ _ _ _ _ _ _ _ _ _ _ _ _ _ _ _ _ _ _ _ _ _ _ _ _ _⟩
def DK (h : Heap) (p r w nx : Nat) (L : List Ent) : Prop := ∃ es,Dk h p r w nx es ∧ GE h p r (.slice none 0 0) es L
theorem take_there {h : Heap} {p r w nx : Nat} {es : List (Value × Value)} (d : Dk h p r w nx es) (num : Nat) {i : Nat} {v : Value} (hf : findInt .u64 num es 0 = some (some (i, v))) (x : Value) :
    evC Try.prog 9 #[.pointer (some ⟨p, 0, none⟩), .int .u64 num, x] h = some (.tuple #[.slice none 0 0, .bool false], h) := by
  rw [call9, c9_0_eq]
  have l2 : (nm h).load1 p 2 = some (.map (some r)) := d.nm.cells.load 2
  have lk := look_yes d.nm.map hf
  simp -implicitDefEqProofs (disch := omega) only [dcT, dcF, faD0, faD1, faD2, ld64, ldM, l2, lk, ↓ret9, ↓cnd_true, ↓cnd_false, ↓Option.bind_some, ↓obH_some', bin_add, bin_sub, bin_mul, bin_lss, bin_leq, bin_gtr, bin_geq, bin_eql, bin_neq, un_not, un_neg, Option.bind_some, Option.bind_none, Option.map_some, cnd_true, cnd_false, pickV_true, pickV_false, gd_true, gd_false, gdV_true, gdV_false, gdH_true, gdH_false, gdS_true, gdS_false, wt_ff, wt_tt, wt_ft, wt_tf, wt_undef, obH_some', extractV_tuple, nilCheckV_ptr, againK_normal, againK_exit, againK_ret, blockK_normal, blockK_same, blockK_ret, seqK_normal, seqK_exit, seqK_ret, fin_done, if_true', if_false', Bool.not_true, Bool.not_false, idx0, idx1, idx2, idx3, idx4, chk_nil_l, chk_nil_r, done_nm]
theorem DK.out {h : Heap} {p r w nx : Nat} {L : List Ent} (d : DK h p r w nx L) : p < h.blks.length ∧ r < h.blks.length := by
  obtain ⟨es, d, _⟩ := d
  exact ⟨d.cells.lt, lt_of_blk d.map⟩
theorem DK.same {h h' : Heap} {p r w nx : Nat} {L : List Ent} (d : DK h p r w nx L) (s : Same h h') : DK h' p r w nx L := by
  obtain ⟨es, d, g⟩ := d
  exact ⟨es, d.same s, g.step (fun b hb _ _ _ => s.2 b hb) (.inl rfl)⟩
theorem DK.done {h0 h : Heap} {p r w nx : Nat} {L : List Ent} (d : DK h p r w nx L) : DK (done h0 h) p r w nx L := by
  obtain ⟨es, d, g⟩ := d
  exact ⟨es, d.done, g.step (fun b hb _ _ _ => rfl) (.inl rfl)⟩
def RS (h : Heap) (v : Value) (bss : List (List UInt8)) : Prop := ∃ cs, Row h 1 v bss.length cs ∧ cs.length = bss.length ∧ ∀ (i : Nat) (c : Value) (b : List UInt8), cs[i]? = some c → bss[i]? = some b → SB h c b
theorem spec_TakeF {h : Heap} {p r w nx : Nat} {L : List Ent} (d : DK h p r w nx L) (num : Nat) (hn : num < 2 ^ 64) (hx : nx < 2 ^ 62) (hw : w < 2 ^ 62) (hL : L.length < 900) (x : Value) (bs : List UInt8) (sx : SB h x bs) (hl : bs.length ≤ 140737488351232) :
    ((num ∈ L.map (·.1) ∨ num < nx ∨ nx + w ≤ num) ∧ evC Try.prog 9 #[.pointer (some ⟨p, 0, none⟩), .int .u64 num, x] h = some (.tuple #[.slice none 0 0, .bool false], h)) ∨
    (num ∉ L.map (·.1) ∧ nx ≤ num ∧ num < nx + w ∧ ∃ outs nx' L' on h', Dr nx (L ++ [(num, bs)]) outs nx' L' ∧ evC Try.prog 9 #[.pointer (some ⟨p, 0, none⟩), .int .u64 num, x] h = some (.tuple #[on, .bool true], h') ∧ DK h' p r w nx' L' ∧ RS h' on outs ∧ HMod (PR p r) h h' ∧ ∀ b, blockOf on = some b → h.blks.length ≤ b) := by
  obtain ⟨hp, hr⟩ := d.out
  obtain ⟨es, d, g⟩ := d
  rcases find_GE num es L 0 g with ⟨h1, h2⟩ | ⟨i, b, e, h1, h2, h3⟩
  · by_cases c : num < nx ∨ nx + w ≤ num
    · exact .inl ⟨.inr c, take_no d num hn (by omega) (by omega) h2 c x⟩
    · obtain ⟨a, cc, h', d', sb', hin, hge, hR⟩ := take_yes d num hn (by omega) (by omega) h2 (by omega) (by omega) x bs sx hl
      have nb : ∀ q, q < h.blks.length → blockOf (.slice a bs.length cc) ≠ some q := fun q hq e => by have := hge q e; omega
      have fr : ∀ b, b < h.blks.length → b ≠ p → b ≠ r → blockOf (.slice none 0 0) ≠ some b → h'.blks[b]? = h.blks[b]? := fun b hb h1 h2 _ => hin.old b hb (by rintro (e | e); exact h1 e; exact h2 e)
      have g' : GE h' p r (.slice none 0 0) (es ++ [(.int .u64 num, .slice a bs.length cc)]) (L ++ [(num, bs)]) :=
        (g.step fr (.inl rfl)).snoc ⟨rfl, hn, ⟨_, _, _, rfl⟩, sb', nb p hp, nb r hr, fun b hb e => by cases e⟩
      obtain ⟨outs, nx', L', es', on, h2', cs, dr, q1, q2, q3, q4, q5, q6⟩ := take_dr hp hr (L.length + 1) (L ++ [(num, bs)]) nx _ h' (.slice none 0 0) [] [] (by simp) (by omega) (by simp; omega) hin.len d' g' .nil ⟨rfl, fun i c b hc => by cases hc⟩ hin
      refine .inr ⟨h1, by omega, by omega, outs, nx', L', on, _, dr, hR _ q6, ⟨es', q1.done, q2.step (fun b hb _ _ _ => rfl) (.inr fun b hb => by cases hb)⟩, ⟨cs, ?_, by simpa using q4.1, fun i c b hc hb => ((q4.2 i c b hc (by simpa using hb)).sb).done⟩, done_mod q5, fun b hb => q3.ge hb⟩
      have := q3.row
      rw [List.length_nil, Nat.zero_add] at this
      exact this.keep fun _ _ _ => rfl
  · exact .inl ⟨.inl (List.mem_map.2 ⟨_, List.mem_of_getElem? h1, rfl⟩), take_there d num h3 x⟩
theorem spec_Take {h : Heap} {p r w nx : Nat} {L : List Ent} (d : DK h p r w nx L) (num : Nat) (hn : num < 2 ^ 64) (hx : nx < 2 ^ 62) (hw : w < 2 ^ 62) (hL : L.length < 900) (x : Value) (bs : List UInt8) (sx : SB h x bs) (hl : bs.length ≤ 140737488351232) :
    ((num ∈ L.map (·.1) ∨ num < nx ∨ nx + w ≤ num) ∧ evC Try.prog 9 #[.pointer (some ⟨p, 0, none⟩), .int .u64 num, x] h = some (.tuple #[.slice none 0 0, .bool false], h)) ∨
    (num ∉ L.map (·.1) ∧ nx ≤ num ∧ num < nx + w ∧ ∃ outs nx' L' on h', Dr nx (L ++ [(num, bs)]) outs nx' L' ∧ evC Try.prog 9 #[.pointer (some ⟨p, 0, none⟩), .int .u64 num, x] h = some (.tuple #[on, .bool true], h') ∧ DK h' p r w nx' L' ∧ RS h' on outs ∧ HMod (PR p r) h h') := by
  rcases spec_TakeF d num hn hx hw hL x bs sx hl with ⟨a, b⟩ | ⟨a, b, c, outs, nx', L', on, h', e1, e2, e3, e4, e5, _⟩
  · exact .inl ⟨a, b⟩
  · exact .inr ⟨a, b, c, outs, nx', L', on, h', e1, e2, e3, e4, e5⟩
end Go.Am
namespace Go.Am
open Go.Proofs
set_option maxRecDepth 100000
set_option linter.all false
attribute [local congr] obind_congr obH_congr cnd_congr chk_congr retK_congr codeK_congr
theorem keysN_GE {h : Heap} {p r : Nat} {on : Value} : ∀ {es : List (Value × Value)} {L : List Ent}, GE h p r on es L → keysN es = some (L.map (·.1))
  | [], L, g => by
    have : L = [] := List.eq_nil_of_length_eq_zero g.1.symm
    subst this; rfl
  | (k, v) :: es, [], g => by have := g.1; simp at this
  | (k, v) :: es, (m, b) :: L, g => by
    obtain ⟨h1, h2, _⟩ := g.2 0 _ _ rfl rfl
    have hk : k = natV m := h1
    subst hk
    have g' : GE h p r on es L := ⟨by have := g.1; simpa using this, fun i e q he hq => g.2 (i + 1) e q (by simpa using he) (by simpa using hq)⟩
    have h2 : m < 2 ^ 64 := h2
    simp only [keysN, natV, keysN_GE g', List.map_cons, Option.map_some, Int.toNat_natCast]
    rw [if_pos ⟨by omega, by omega⟩]
theorem spec_Held {h : Heap} {p r w nx : Nat} {L : List Ent} (d : DK h p r w nx L) (nd : (L.map (·.1)).Nodup) (hl : L.length ≤ 15) :
    ∃ v h', evC Try.prog 10 #[.pointer (some ⟨p, 0, none⟩)] h = some (v, h') ∧ HExt h h' ∧ Row h' 1 v L.length ((L.map (·.1)).mergeSort.map natV) := by
  obtain ⟨es, d, g⟩ := d
  rw [evC_ext xt_held]
  have l2 : h.load1 p 2 = some (.map (some r)) := d.cells.load 2
  have hm : (mapOf? h r).bind keysN = some (L.map (·.1)) := by rw [map_of d.map]; exact keysN_GE g
  unfold heldX
  simp only [l2, hm]
  cases L with
  | nil => exact ⟨_, _, rfl, HExt.refl _, by simpa using Row.nil⟩
  | cons q L =>
    simp only [List.map_cons]
    rw [if_pos ⟨nd, by simp at hl ⊢; omega⟩]
    refine ⟨_, _, rfl, ⟨by simp [Heap.new], fun b hb => Heap.new_old hb, rfl⟩, ?_⟩
    have e : (List.map (·.1) L).length + 1 = (q :: L).length := by simp
    rw [e]
    exact .mk (loadN_blk (blk_new_self _ _ _) (by rw [List.length_map, List.length_mergeSort]; simp))
def SSt (h : Heap) (v : Value) (ss : List (List UInt8)) : Prop := Row h 1 v ss.length (ss.map strV)
theorem toBytes_map (l : List UInt8) : toBytes ⟨l.toArray⟩ = l.map byteV := by
  unfold toBytes
  simp [byteV]
theorem uStr : Try.prog.underlying 9 = some .string := by kernel_rfl
theorem cvStrB (l : List UInt8) (h : Heap) : convV Try.prog 9 31 (strV l) h = some (.slice (some ⟨h.blks.length, 0, none⟩) l.length UNK, h.new (.cells (l.map byteV)) 5) := by
  have h2 : Try.prog.underlying 31 = some (.slice 5) := by kernel_rfl
  have h3 : isByteT Try.prog 5 = true := by kernel_rfl
  have h4 : sizeT Try.prog 5 = some 1 := by kernel_rfl
  unfold convV strV
  simp only [uStr, h2, h3, h4, true_and, if_true, toBytes_map]
  rfl
theorem sbStr (l : List UInt8) (h : Heap) : SB (h.new (.cells (l.map byteV)) 5) (.slice (some ⟨h.blks.length, 0, none⟩) l.length UNK) l :=
  .mk (loadN_blk (blk_new_self _ _ _) (by simp)) (.inl ⟨rfl, by unfold esOf; simp only [blk_new_self]; kernel_rfl⟩)
theorem reads_str {P : Program} {h : Heap} {e : TypeId} (hu : P.underlying e = some .string) {f : Nat} {cs : List Value} {d : DT} (x : Reads P h f e cs d) : ∃ l, d = .str l ∧ cs = [strV l] ∧ l.length ≤ reachBytes := by
  cases f with
  | zero => exact x.elim
  | succ f =>
    unfold Reads at x
    rw [hu] at x
    cases d <;> simp at x
    exact ⟨_, rfl, x.1, x.2⟩
theorem reads_strs {P : Program} {h : Heap} {e : TypeId} (hu : P.underlying e = some .string) {f : Nat} : ∀ {css : List (List Value)} {l : List DT}, All2 (fun c d => c.length = P.cellsOf e ∧ Reads P h f e c d) css l →
    ∃ ss : List (List UInt8), ss.length = l.length ∧ css.flatten = ss.map strV ∧ ∀ s ∈ ss, s.length ≤ reachBytes
  | _, _, .nil => ⟨[], rfl, rfl, by simp⟩
  | _, _, .cons x q => by
    obtain ⟨ss, h1, h2, h3⟩ := reads_strs hu q
    obtain ⟨s, rfl, rfl, hs⟩ := reads_str hu x.2
    exact ⟨s :: ss, by simp [h1], by simp [h2], fun y hy => (List.mem_cons.1 hy).elim (fun e => e ▸ hs) (h3 y)⟩
theorem Rd.strs {h : Heap} {v : Value} {d : DT} (r : Rd Try.prog h 35 v d) : ∃ ss : List (List UInt8), SSt h v ss ∧ Lo v h.blks.length ∧ (∀ s ∈ ss, s.length ≤ reachBytes) ∧ ss.length ≤ maxLen := by
  obtain ⟨f, l, css, rfl, h1, h2, h3⟩ := r.slice (e := 9) (by kernel_rfl)
  obtain ⟨ss, a, b, c⟩ := reads_strs uStr h2
  rw [show Try.prog.cellsOf 9 = 1 by kernel_rfl, b, ← a] at h1
  exact ⟨ss, h1.row, h1.lo, c, by omega⟩
theorem rows_eq_loop {h0 h : Heap} {v w : Value} {outs : List (List UInt8)} {cs : List Value} (rv : Row h 1 v outs.length cs) (hcl : cs.length = outs.length) (hcs : ∀ (i : Nat) (c : Value) (b : List UInt8), cs[i]? = some c → outs[i]? = some b → SB h c b) (rs : SSt h w outs) (hl : outs.length < 2 ^ 40) :
    ∀ (m i : Nat), outs.length = i + m → ∀ (Ac Ad Ae Ag Ah Ai Aj Ak Al An Ao Ap Aq Ar As At Au Av Aw Ax Ay Az Ba Bb : Value), loopK Try.prog (evC Try.prog) c11_1 ⟨#[v, w,Ac,Ad,Ae, .int .i64 i,Ag,Ah,Ai,Aj,Ak,Al,An,Ao,Ap,Aq,Ar,As,At,Au,Av,Aw,Ax,Ay,Az,Ba,Bb], h⟩ (blockK 0 (seqK Try.prog (evC Try.prog) c11_2 (retK Try.f11 Try.prog h0))) = some (.bool true, done h0 h) := by
  intro m
  have v2 : lenV Try.prog 27 v h = some (.int .i64 outs.length) := rv.len_eq etSS.under
  induction m with
  | zero =>
    intro i hi Ac Ad Ae Ag Ah Ai Aj Ak Al An Ao Ap Aq Ar As At Au Av Aw Ax Ay Az Ba Bb
    rw [loopK_eq evC_m, c11_1_eq]
    simp -implicitDefEqProofs (disch := omega) only [dcT, dcF, v2, ↓c11_2_eq, ↓ret11, ↓cnd_true, ↓cnd_false, ↓Option.bind_some, ↓obH_some', bin_add, bin_sub, bin_mul, bin_lss, bin_leq, bin_gtr, bin_geq, bin_eql, bin_neq, un_not, un_neg, Option.bind_some, Option.bind_none, Option.map_some, cnd_true, cnd_false, pickV_true, pickV_false, gd_true, gd_false, gdV_true, gdV_false, gdH_true, gdH_false, gdS_true, gdS_false, wt_ff, wt_tt, wt_ft, wt_tf, wt_undef, obH_some', extractV_tuple, nilCheckV_ptr, againK_normal, againK_exit, againK_ret, blockK_normal, blockK_same, blockK_ret, seqK_normal, seqK_exit, seqK_ret, fin_done, if_true', if_false', Bool.not_true, Bool.not_false, idx0, idx1, idx2, idx3, idx4, chk_nil_l, chk_nil_r, done_nm]
  | succ m ih =>
    intro i hi Ac Ad Ae Ag Ah Ai Aj Ak Al An Ao Ap Aq Ar As At Au Av Aw Ax Ay Az Ba Bb
    rw [loopK_eq evC_m, c11_1_eq]
    have hil : i < outs.length := by omega
    obtain ⟨a0, e0, l0, _⟩ := rv.at1 etSS.under etSS.size (by kernel_rfl) (i := i) hil .i64
    obtain ⟨b0, f0, m0, _⟩ := rs.at1 undS (by kernel_rfl) (by kernel_rfl) (i := i) hil .i64
    rw [List.getElem?_eq_getElem (by omega)] at l0
    rw [List.getElem?_map, List.getElem?_eq_getElem hil] at m0
    have sx := hcs i cs[i] outs[i] (List.getElem?_eq_getElem (by omega)) (List.getElem?_eq_getElem hil)
    have da : decide (outs[i] ≠ outs[i]) = false := by simp
    have w1 : IntKind.wrap .i64 ((i : Int) + 1) = ((i + 1 : Nat) : Int) := by rw [wrap_i64] <;> omega
    simp only [Option.map_some] at m0
    simp -implicitDefEqProofs (disch := omega) only [dcT, dcF, v2, e0, l0, f0, m0, strB sx, bin_strneq, da, w1, ↓cnd_true, ↓cnd_false, ↓Option.bind_some, ↓obH_some', bin_add, bin_sub, bin_mul, bin_lss, bin_leq, bin_gtr, bin_geq, bin_eql, bin_neq, un_not, un_neg, Option.bind_some, Option.bind_none, Option.map_some, cnd_true, cnd_false, pickV_true, pickV_false, gd_true, gd_false, gdV_true, gdV_false, gdH_true, gdH_false, gdS_true, gdS_false, wt_ff, wt_tt, wt_ft, wt_tf, wt_undef, obH_some', extractV_tuple, nilCheckV_ptr, againK_normal, againK_exit, againK_ret, blockK_normal, blockK_same, blockK_ret, seqK_normal, seqK_exit, seqK_ret, fin_done, if_true', if_false', Bool.not_true, Bool.not_false, idx0, idx1, idx2, idx3, idx4, chk_nil_l, chk_nil_r, done_nm]
    exact ih (i + 1) (by omega) _ _ _ _ _ _ _ _ _ _ _ _ _ _ _ _ _ _ _ _ _ _ _ _
theorem spec_rows_eq {h : Heap} {v w : Value} {outs : List (List UInt8)} (rv : RS h v outs) (rs : SSt h w outs) (hl : outs.length < 2 ^ 40) : evC Try.prog 11 #[v, w] h = some (.bool true, h) := by
  obtain ⟨cs, r1, r2, r3⟩ := rv
  rw [call11, c11_0_eq]
  have rv' : Row (nm h) 1 v outs.length cs := r1.keep fun _ _ _ => rfl
  have rs' : SSt (nm h) w outs := Row.keep (h := h) rs fun _ _ _ => rfl
  have v2 : lenV Try.prog 27 v (nm h) = some (.int .i64 outs.length) := rv'.len_eq etSS.under
  have s2 : lenV Try.prog 35 w (nm h) = some (.int .i64 outs.length) := rs'.len_eq undS
  have lp := rows_eq_loop (h0 := h) rv' r2 (fun i c b hc hb => (r3 i c b hc hb).nm) rs' hl outs.length 0 (by omega)
  rw [done_nm] at lp
  simp -implicitDefEqProofs (disch := omega) only [dcT, dcF, v2, s2, ↓cnd_true, ↓cnd_false, ↓Option.bind_some, ↓obH_some', bin_add, bin_sub, bin_mul, bin_lss, bin_leq, bin_gtr, bin_geq, bin_eql, bin_neq, un_not, un_neg, Option.bind_some, Option.bind_none, Option.map_some, cnd_true, cnd_false, pickV_true, pickV_false, gd_true, gd_false, gdV_true, gdV_false, gdH_true, gdH_false, gdS_true, gdS_false, wt_ff, wt_tt, wt_ft, wt_tf, wt_undef, obH_some', extractV_tuple, nilCheckV_ptr, againK_normal, againK_exit, againK_ret, blockK_normal, blockK_same, blockK_ret, seqK_normal, seqK_exit, seqK_ret, fin_done, if_true', if_false', Bool.not_true, Bool.not_false, idx0, idx1, idx2, idx3, idx4, chk_nil_l, chk_nil_r, done_nm]
  exact lp _ _ _ _ _ _ _ _ _ _ _ _ _ _ _ _ _ _ _ _ _ _ _ _
end Go.Am
namespace Go.Am
open Go.Proofs
set_option maxRecDepth 100000
set_option linter.all false
attribute [local congr] obind_congr obH_congr cnd_congr chk_congr retK_congr codeK_congr
theorem spec_DNew2 (h : Heap) (w : Int) (h1 : 1 ≤ w) (h2 : w ≤ 16) : ∃ p r h', evC Try.prog 8 #[.int .i64 w] h = some (.tuple #[.pointer (some ⟨p, 0, none⟩), .int .i64 0], h') ∧ HExt h h' ∧ DK h' p r w.toNat 1 [] ∧ h.blks.length ≤ p ∧ h.blks.length ≤ r := by
  rw [call8, c8_0_eq]
  have cv := cvI64 w (nm h) (by omega) (by omega)
  obtain ⟨m, rfl⟩ : ∃ m : Nat, w = m := ⟨w.toNat, by omega⟩
  simp -implicitDefEqProofs (disch := omega) only [dcT, dcF, cv, mkM, bdD, bxD, ↓ret8, ↓cnd_true, ↓cnd_false, ↓Option.bind_some, ↓obH_some', bin_add, bin_sub, bin_mul, bin_lss, bin_leq, bin_gtr, bin_geq, bin_eql, bin_neq, un_not, un_neg, Option.bind_some, Option.bind_none, Option.map_some, cnd_true, cnd_false, pickV_true, pickV_false, gd_true, gd_false, gdV_true, gdV_false, gdH_true, gdH_false, gdS_true, gdS_false, wt_ff, wt_tt, wt_ft, wt_tf, wt_undef, obH_some', extractV_tuple, nilCheckV_ptr, againK_normal, againK_exit, againK_ret, blockK_normal, blockK_same, blockK_ret, seqK_normal, seqK_exit, seqK_ret, fin_done, if_true', if_false', Bool.not_true, Bool.not_false, idx0, idx1, idx2, idx3, idx4, chk_nil_l, chk_nil_r, done_nm]
  refine ⟨_, h.blks.length, _, rfl, done_ext' ((In.new (by simp) _ _).trans (In.new (by simp [Heap.new]) _ _)), ?_, by simp [Heap.new], Nat.le_refl _⟩
  exact ⟨[], Dk.done ⟨Cells.new _ _ _, by rw [Heap.new_old (by simp [Heap.new])]; exact blk_new_self (nm h) _ _⟩, rfl, fun i e q he => by cases he⟩
theorem nilD (xo yo : Operand) (p : Nat) : binV Try.prog .eql 23 xo yo (.pointer (some ⟨p, 0, none⟩)) (.pointer none) = some (.bool false) := by kernel_rfl
structure Kp (p r : Nat) (h h' : Heap) : Prop where
  len : h.blks.length ≤ h'.blks.length
  old : ∀ b, b < h.blks.length → b ≠ p → b ≠ r → h'.blks[b]? = h.blks[b]?
theorem Kp.refl (p r : Nat) (h : Heap) : Kp p r h h := ⟨Nat.le_refl _, fun _ _ _ _ => rfl⟩
theorem Kp.trans {p r : Nat} {a b c : Heap} (h : Kp p r a b) (k : Kp p r b c) : Kp p r a c := ⟨Nat.le_trans h.len k.len, fun q h1 h2 h3 => (k.old q (Nat.lt_of_lt_of_le h1 h.len) h2 h3).trans (h.old q h1 h2 h3)⟩
theorem Same.kp {p r : Nat} {h h' : Heap} (s : Same h h') : Kp p r h h' := ⟨s.1, fun b hb _ _ => s.2 b hb⟩
theorem HMod.kp {p r : Nat} {h h' : Heap} (m : HMod (PR p r) h h') : Kp p r h h' := ⟨m.len, fun b hb h1 h2 => m.old b hb (by rintro (e | e); exact h1 e; exact h2 e)⟩
theorem Row.kp {p r N es n : Nat} {h h' : Heap} {v : Value} {cs : List Value} (k : Kp p r h h') (x : Row h es v n cs) (lo : Lo v N) (hp : N ≤ p) (hr : N ≤ r) : Row h' es v n cs :=
  x.keep fun b hb hv => k.old b hb (by have := lo b hv; omega) (by have := lo b hv; omega)
theorem Dr.one {nx nx' : Nat} {b : List UInt8} {outs : List (List UInt8)} {L' : List Ent} (d : Dr nx [(nx, b)] outs nx' L') : outs = [b] ∧ nx' = nx + 1 ∧ L' = [] := by
  cases d with
  | stop h => simp at h
  | go hi d =>
    rename_i i b' outs
    match i, hi with
    | 0, hi =>
      cases hi
      cases d with
      | stop _ => exact ⟨rfl, rfl, rfl⟩
      | go hj _ => simp at hj
    | i + 1, hi => simp at hi
theorem Dr.wait {nx nx' : Nat} {b : List UInt8} {outs : List (List UInt8)} {L' : List Ent} (d : Dr nx [(nx + 1, b)] outs nx' L') : outs = [] ∧ nx' = nx ∧ L' = [(nx + 1, b)] := by
  cases d with
  | stop h => exact ⟨rfl, rfl, rfl⟩
  | go hi d =>
    rename_i i b' outs
    match i, hi with
    | 0, hi => simp at hi
    | i + 1, hi => simp at hi
theorem Dr.two {nx nx' : Nat} {b c : List UInt8} {outs : List (List UInt8)} {L' : List Ent} (d : Dr nx [(nx + 1, b), (nx, c)] outs nx' L') : outs = [c, b] ∧ nx' = nx + 2 ∧ L' = [] := by
  cases d with
  | stop h => simp at h
  | go hi d =>
    rename_i i b' outs
    match i, hi with
    | 0, hi => simp at hi
    | 1, hi =>
      simp at hi
      subst hi
      obtain ⟨rfl, rfl, rfl⟩ := Dr.one (show Dr (nx + 1) [(nx + 1, b)] _ _ _ from d)
      exact ⟨rfl, rfl, rfl⟩
    | i + 2, hi => simp at hi
end Go.Am
namespace Go.Am
open Go.Proofs
set_option maxRecDepth 100000
set_option linter.all false
attribute [local congr] obind_congr obH_congr cnd_congr chk_congr retK_congr codeK_congr
theorem RS.len {h : Heap} {v : Value} {bss : List (List UInt8)} (s : RS h v bss) : lenV Try.prog 27 v h = some (.int .i64 bss.length) := by
  obtain ⟨cs, r, _⟩ := s
  exact r.len_eq etSS.under
theorem RS.same {h h' : Heap} {v : Value} {bss : List (List UInt8)} (s : RS h v bss) (m : Same h h') : RS h' v bss := by
  obtain ⟨cs, a, b, c⟩ := s
  exact ⟨cs, a.keep fun q hq _ => m.2 q hq, b, fun i x y hx hy => (c i x y hx hy).same m⟩
theorem spec_awakeX (h : Heap) : ∃ h', evC Try.prog 7 #[] h = some (.bool true, h') ∧ HExt h h' := by
  rw [call7, c7_0_eq]
  obtain ⟨p, r, h1, e1,Ab, d1, hp, hr⟩ := spec_DNew2 (nm h) 4 (by omega) (by omega)
  have d1 : DK h1 p r 4 1 [] := d1
  have nS : ∀ b, b < h.blks.length → PR p r b → No b := fun b hb x => by
    have : (nm h).blks.length = h.blks.length := rfl
    rcases x with e | e <;> omega
  have j1 : In h.blks.length No (nm h) h1 := Ab.inn (Nat.le_refl h.blks.length)
  obtain ⟨h2, h3, e2, e3, s3, m3, i3, l3⟩ := lit_str (h := h1) (n0 := h.blks.length) j1.len 98
  rw [show (((98 : UInt8).toNat : Nat) : Int) = 98 from rfl] at e2
  have j3 := j1.trans (i3 No)
  rcases spec_Take (d1.same m3) 2 (by omega) (by omega) (by omega) (by simp) _ _ s3 (by simp) with ⟨a, _⟩ | ⟨_, _, _, outs, nx', L', on, h4, dr, e4, d4, r4, q4⟩
  · simp at a
  obtain ⟨rfl, rfl, rfl⟩ := Dr.wait dr
  rw [show ((2 : Nat) : Int) = 2 from rfl] at e4
  have j4 := j3.trans (q4.inn (Nat.le_trans j1.len m3.1) nS)
  obtain ⟨h5, h6, e5, e6, s6, m6, i6, l6⟩ := lit_str (h := h4) (n0 := h.blks.length) (Nat.le_trans j3.le j4.len) 97
  rw [show (((97 : UInt8).toNat : Nat) : Int) = 97 from rfl] at e5
  have j6 := j4.trans (i6 No)
  rcases spec_Take (d4.same m6) 1 (by omega) (by omega) (by omega) (by simp) _ _ s6 (by simp) with ⟨a, _⟩ | ⟨_, _, _, outs, nx', L', on2, h7, dr, e7, d7, r7, q7⟩
  · simp at a
  obtain ⟨rfl, rfl, rfl⟩ := Dr.two dr
  rw [show ((1 : Nat) : Int) = 1 from rfl] at e7
  have j7 := j6.trans (q7.inn (Nat.le_trans j6.le j6.len) nS)
  have k8 := mkS2 h7
  have m8 := Same.new h7 (.cells [strV [97], strV [98]]) 9
  have j8 := j7.trans (In.new (S := No) (Nat.le_trans j7.le j7.len) (.cells [strV [97], strV [98]]) 9)
  have q8 : SSt (h7.new (.cells [strV [97], strV [98]]) 9) (.slice (some ⟨h7.blks.length, 0, none⟩) 2 2) [[97], [98]] := .mk (loadN_blk (blk_new_self _ _ _) rfl)
  have e8 := spec_rows_eq (r7.same m8) q8 (by simp)
  have d8 := d7.same m8
  have ex : evC Try.prog 14 #[.pointer (some ⟨p, 0, none⟩)] (h7.new (.cells [strV [97], strV [98]]) 9) = some (.int .u64 ((3 : Nat) : Int), h7.new (.cells [strV [97], strV [98]]) 9) := by obtain ⟨es, d, _⟩ := d8; exact spec_Next d
  have nl := r4.len
  simp only [List.length_nil, show ((0 : Nat) : Int) = 0 from rfl] at nl
  have nl2 : lenV Try.prog 27 on h7 = some (.int .i64 0) := by
    obtain ⟨a, c, rfl⟩ : ∃ a c, on = .slice a 0 c := by obtain ⟨cs, r, _⟩ := r4; cases r <;> exact ⟨_, _, rfl⟩
    unfold lenV; rw [etSS.under]; rfl
  refine ⟨_, ?_, done_ext' j8⟩
  simp -implicitDefEqProofs (disch := omega) only [dcT, dcF, e1, nilP, e2, e3, e4, e5, e6, e7, nl2, k8, e8, ex, eq_self, decide_true, show ((3 : Nat) : Int) = 3 from rfl, ↓ret7, ↓cnd_true, ↓cnd_false, ↓Option.bind_some, ↓obH_some', bin_add, bin_sub, bin_mul, bin_lss, bin_leq, bin_gtr, bin_geq, bin_eql, bin_neq, un_not, un_neg, Option.bind_some, Option.bind_none, Option.map_some, cnd_true, cnd_false, pickV_true, pickV_false, gd_true, gd_false, gdV_true, gdV_false, gdH_true, gdH_false, gdS_true, gdS_false, wt_ff, wt_tt, wt_ft, wt_tf, wt_undef, obH_some', extractV_tuple, nilCheckV_ptr, againK_normal, againK_exit, againK_ret, blockK_normal, blockK_same, blockK_ret, seqK_normal, seqK_exit, seqK_ret, fin_done, if_true', if_false', Bool.not_true, Bool.not_false, idx0, idx1, idx2, idx3, idx4, chk_nil_l, chk_nil_r, done_nm]
theorem SSt.at {h : Heap} {v : Value} {ls : List (List UInt8)} (s : SSt h v ls) {i : Nat} (hi : i < ls.length) : ∃ a, indexAddrV Try.prog 35 v (.int .i64 i) = some (.pointer (some a)) ∧ loadV Try.prog 9 (.pointer (some a)) h = some (strV ls[i]) := by
  obtain ⟨a, e, l, _⟩ := Row.at1 (P := Try.prog) s undS (by kernel_rfl) (by kernel_rfl) (i := i) hi .i64
  rw [List.getElem?_map, List.getElem?_eq_getElem hi] at l
  exact ⟨a, e, l⟩
end Go.Am
namespace Go.Am
open Go.Proofs
set_option linter.all false
theorem nd_len : ∀ (n a : Nat) (l : List Nat), l.Nodup → (∀ x ∈ l, a ≤ x ∧ x < a + n) → l.length ≤ n
  | 0, a, l, _, h => by
    cases l with
    | nil => simp
    | cons x l => have := h x (by simp); omega
  | n + 1, a, l, nd, h => by
    by_cases e : a + n ∈ l
    · have := nd_len n a (l.erase (a + n)) (nd.erase _) fun x hx => by
        have h1 := (nd.mem_erase_iff).1 hx
        have := h x h1.2
        have := h1.1
        omega
      rw [List.length_erase_of_mem e] at this
      omega
    · have := nd_len n a l nd fun x hx => by
        have := h x hx
        have : x ≠ a + n := fun e' => e (e' ▸ hx)
        omega
      omega
theorem nd_at {l : List Nat} (nd : l.Nodup) {i j x : Nat} (hi : l[i]? = some x) (hj : l[j]? = some x) : i = j := by
  obtain ⟨h1, e1⟩ := List.getElem?_eq_some_iff.1 hi
  obtain ⟨h2, e2⟩ := List.getElem?_eq_some_iff.1 hj
  rcases Nat.lt_trichotomy i j with h | h | h
  · exact absurd (e1.trans e2.symm) (List.pairwise_iff_getElem.1 nd i j h1 h2 h)
  · exact h
  · exact absurd (e2.trans e1.symm) (List.pairwise_iff_getElem.1 nd j i h2 h1 h)
theorem map_erase (L : List Ent) (i : Nat) : (L.eraseIdx i).map (·.1) = (L.map (·.1)).eraseIdx i := by
  apply List.ext_getElem?
  intro j
  rw [List.getElem?_map, List.getElem?_eraseIdx, List.getElem?_eraseIdx]
  split <;> rw [List.getElem?_map]
theorem erase_nd {L : List Ent} (nd : (L.map (·.1)).Nodup) (i : Nat) : ((L.eraseIdx i).map (·.1)).Nodup := by
  rw [map_erase]; exact nd.sublist (List.eraseIdx_sublist ..)
theorem erase_ne {L : List Ent} (nd : (L.map (·.1)).Nodup) {i n : Nat} {b : List UInt8} (hi : L[i]? = some (n, b)) {q : Ent} (hq : q ∈ L.eraseIdx i) : q ∈ L ∧ q.1 ≠ n := by
  obtain ⟨j, hj, h⟩ := List.mem_eraseIdx_iff_getElem?.1 hq
  refine ⟨List.mem_of_getElem? h, fun e => hj ?_⟩
  refine nd_at nd (x := n) ?_ ?_
  · rw [List.getElem?_map, h]; simp [e]
  · rw [List.getElem?_map, hi]; rfl
structure OI (ls : List (List UInt8)) (w nx : Nat) (L : List Ent) : Prop where
  n1 : 1 ≤ nx
  nl : nx ≤ ls.length + 1
  nd : (L.map (·.1)).Nodup
  ent : ∀ q ∈ L, nx < q.1 ∧ q.1 < nx + w ∧ q.1 ≤ ls.length ∧ ls[q.1 - 1]? = some q.2
theorem OI.len {ls : List (List UInt8)} {w nx : Nat} {L : List Ent} (o : OI ls w nx L) : L.length ≤ w - 1 := by
  have := nd_len (w - 1) (nx + 1) (L.map (·.1)) o.nd fun x hx => by
    obtain ⟨q, hq, rfl⟩ := List.mem_map.1 hx
    have := o.ent q hq
    omega
  simpa using this
end Go.Am
namespace Go.Am
open Go.Proofs
set_option maxRecDepth 100000
set_option linter.all false
attribute [local congr] obind_congr obH_congr cnd_congr chk_congr retK_congr codeK_congr
def itL : List Ent → List Value
  | [] => []
  | q :: l => natV q.1 :: strV q.2 :: itL l
theorem itL_len : ∀ l : List Ent, (itL l).length = l.length * 2
  | [] => rfl
  | q :: l => by simp only [itL, List.length_cons, itL_len l]; omega
theorem itL_app : ∀ a b : List Ent, itL (a ++ b) = itL a ++ itL b
  | [], b => rfl
  | q :: a, b => by simp only [List.cons_append, itL, itL_app a b]
theorem itL_take : ∀ (l : List Ent) (i : Nat), (itL l).take (i * 2) = itL (l.take i)
  | [], i => by simp [itL]
  | q :: l, 0 => rfl
  | q :: l, i + 1 => by
    rw [show (i + 1) * 2 = (i * 2) + 1 + 1 by omega]
    simp only [itL, List.take_succ_cons, itL_take l i]
theorem itL_drop : ∀ (l : List Ent) (i : Nat), (itL l).drop (i * 2) = itL (l.drop i)
  | [], i => by simp [itL]
  | q :: l, 0 => rfl
  | q :: l, i + 1 => by
    rw [show (i + 1) * 2 = (i * 2) + 1 + 1 by omega]
    simp only [itL, List.drop_succ_cons]
    exact itL_drop l i
theorem itL_at : ∀ (l : List Ent) (i : Nat) (hi : i < l.length), (itL l)[i * 2]? = some (natV l[i].1) ∧ (itL l)[i * 2 + 1]? = some (strV l[i].2)
  | q :: l, 0, _ => ⟨rfl, rfl⟩
  | q :: l, i + 1, hi => by
    have := itL_at l i (by simpa using hi)
    rw [show (i + 1) * 2 = i * 2 + 1 + 1 by omega]
    simpa [itL] using this
theorem itL_one : ∀ l : List Ent, (itL l).all Value.oneCell' = true
  | [] => rfl
  | q :: l => by simp only [itL, List.all_cons, itL_one l, Bool.and_true]; rfl
abbrev SI (h : Heap) (v : Value) (l : List Ent) : Prop := Sl Try.prog h 2 v l.length (itL l)
abbrev AI (n0 : Nat) (h : Heap) (v : Value) (l : List Ent) : Prop := Acc n0 h 48 2 v l.length (itL l)
theorem etI : ElemT Try.prog 44 48 2 24 (.agg #[.int .u64 0, .string .empty]) := ⟨by kernel_rfl, by kernel_rfl, by kernel_rfl, by kernel_rfl, by omega, rfl, by simp [ground, ground0]⟩
theorem SI.at' {h : Heap} {v : Value} {l : List Ent} (s : SI h v l) {t el : TypeId} (hu : Try.prog.underlying t = some (.slice el)) (hs : sizeT Try.prog el = some 2) {i : Nat} (hi : i < l.length) :
    ∃ b o, blockOf v = some b ∧ b < h.blks.length ∧ (∀ k, indexAddrV Try.prog t v (.int k i) = some (.pointer (some ⟨b, o, none⟩))) ∧ ∀ h' : Heap, h'.blks[b]? = h.blks[b]? → h'.load1 b o = some (natV l[i].1) ∧ h'.load1 b (o + 1) = some (strV l[i].2) := by
  rcases Sl.inv s with ⟨_, h0, _⟩ | ⟨b, o, c, rfl, hld, _⟩
  · omega
  · refine ⟨b, o + i * 2, rfl, loadN_lt hld, fun k => ?_, fun h' e => ?_⟩
    · unfold indexAddrV
      simp only [hu, natOf_int, hs, if_pos hi]
    · have hld' : h'.loadN b o (l.length * 2) = some (itL l) := by rw [loadN_of e]; exact hld
      obtain ⟨e1, e2⟩ := itL_at l i hi
      exact ⟨by rw [loadN_get hld' (by omega), e1], by rw [Nat.add_assoc, loadN_get hld' (by omega), e2]⟩
theorem app_its {n0 : Nat} {h : Heap} (hn0 : n0 ≤ h.blks.length) {v x : Value} {a b : List Ent} (ha : AI n0 h v a) (hx : SI h x b) (hl : a.length + b.length < 2 ^ 40) :
    ∃ ad c h', appendV Try.prog 44 (some 44) v x h = some (.slice ad (a ++ b).length c, h') ∧ AI n0 h' (.slice ad (a ++ b).length c) (a ++ b) ∧ Keeps n0 h h' := by
  obtain ⟨v', h', e1, e2, e3, _, _⟩ := append_acc etI (t1 := some 44) hn0 ha (newsV_row etI.under hx.row) (by rw [itL_len]) (by omega) (by omega) (itL_one b)
  obtain ⟨ad, c, rfl⟩ := e2.shape
  rw [← List.length_append] at e1 e2
  rw [← itL_app] at e2
  exact ⟨ad, c, h', e1, e2, e3⟩
structure RD (h : Heap) (q p r w nx : Nat) (lv : Value) (L : List Ent) : Prop where
  cells : Cells h q 46 [.int .i64 w, .int .u64 nx, lv]
  row : SI h lv L
  nq : blockOf lv ≠ some q
  np : blockOf lv ≠ some p
  nr : blockOf lv ≠ some r
theorem RD.keep {h h' : Heap} {q p r w nx : Nat} {lv : Value} {L : List Ent} (d : RD h q p r w nx lv L) (hq : q ≠ p) (hr : q ≠ r) (k : Kp p r h h') : RD h' q p r w nx lv L :=
  ⟨(k.old q d.cells.lt hq hr).trans d.cells, d.row.keep fun b hb hv => k.old b hb (fun e => d.np (e ▸ hv)) (fun e => d.nr (e ▸ hv)), d.nq, d.np, d.nr⟩
theorem bdR9 (w : Int) (n : Int) : buildV Try.prog 46 #[(0, .int .i64 w), (1, .int .u64 n)] = some (.agg #[.int .i64 w, .int .u64 n, .slice none 0 0]) := by kernel_rfl
theorem bxR9 (a b c : Value) (h : Heap) : boxV Try.prog 46 (.agg #[a, b, c]) h = some (.pointer (some ⟨h.blks.length, 0, none⟩), h.new (.cells [a, b, c]) 46) := by kernel_rfl
theorem fa90 (p : Nat) : fieldAddrV Try.prog 46 (.pointer (some ⟨p, 0, none⟩)) 0 = some (.pointer (some ⟨p, 0, none⟩)) := by kernel_rfl
theorem fa91 (p : Nat) : fieldAddrV Try.prog 46 (.pointer (some ⟨p, 0, none⟩)) 1 = some (.pointer (some ⟨p, 1, none⟩)) := by kernel_rfl
theorem fa92 (p : Nat) : fieldAddrV Try.prog 46 (.pointer (some ⟨p, 0, none⟩)) 2 = some (.pointer (some ⟨p, 2, none⟩)) := by kernel_rfl
theorem faI0 (p o : Nat) : fieldAddrV Try.prog 48 (.pointer (some ⟨p, o, none⟩)) 0 = some (.pointer (some ⟨p, o, none⟩)) := by kernel_rfl
theorem faI1 (p o : Nat) : fieldAddrV Try.prog 48 (.pointer (some ⟨p, o, none⟩)) 1 = some (.pointer (some ⟨p, o + 1, none⟩)) := by kernel_rfl
theorem ldIs (p o : Nat) (h : Heap) : loadV Try.prog 44 (.pointer (some ⟨p, o, none⟩)) h = h.load1 p o := by kernel_rfl
theorem ldS9 (p o : Nat) (h : Heap) : loadV Try.prog 9 (.pointer (some ⟨p, o, none⟩)) h = h.load1 p o := by kernel_rfl
theorem stIs (p o : Nat) (a : Option Addr) (n c : Nat) (h : Heap) : storeV Try.prog 44 (.pointer (some ⟨p, o, none⟩)) (.slice a n c) h = h.storeN p o [.slice a n c] := by kernel_rfl
theorem spec_RNew (h : Heap) (w : Nat) (p r : Nat) : ∃ q h', evC Try.prog 12 #[.int .i64 w] h = some (.pointer (some ⟨q, 0, none⟩), h') ∧ HExt h h' ∧ RD h' q p r w 1 (.slice none 0 0) [] ∧ h.blks.length ≤ q := by
  rw [call12]
  refine ⟨(nm h).blks.length, done h ((nm h).new (.cells [.int .i64 w, .int .u64 1, .slice none 0 0]) 46), ?_, done_ext' (In.new (h := nm h) (Nat.le_refl h.blks.length) _ _), ⟨Cells.done (Cells.new _ _ _), .nil, by simp [blockOf], by simp [blockOf], by simp [blockOf]⟩, Nat.le_refl _⟩
  simp -implicitDefEqProofs (disch := omega) only [↓c12_0_eq, bdR9, bxR9, ↓ret12, ↓cnd_true, ↓cnd_false, ↓Option.bind_some, ↓obH_some', bin_add, bin_sub, bin_mul, bin_lss, bin_leq, bin_gtr, bin_geq, bin_eql, bin_neq, un_not, un_neg, Option.bind_some, Option.bind_none, Option.map_some, cnd_true, cnd_false, pickV_true, pickV_false, gd_true, gd_false, gdV_true, gdV_false, gdH_true, gdH_false, gdS_true, gdS_false, wt_ff, wt_tt, wt_ft, wt_tf, wt_undef, obH_some', extractV_tuple, nilCheckV_ptr, againK_normal, againK_exit, againK_ret, blockK_normal, blockK_same, blockK_ret, seqK_normal, seqK_exit, seqK_ret, fin_done, if_true', if_false', Bool.not_true, Bool.not_false, idx0, idx1, idx2, idx3, idx4, chk_nil_l, chk_nil_r, done_nm, up_cons, up_nil, cond_true, cond_false, Nat.reduceBEq]
theorem mkI0 (h : Heap) : buildSliceV Try.prog 44 0 #[] h = some (.slice (some ⟨h.blks.length, 0, none⟩) 0 0, h.new (.cells []) 48) := by kernel_rfl
theorem mkI1 (a b : Value) (h : Heap) : buildSliceV Try.prog 44 1 #[(0, .agg #[a, b])] h = some (.slice (some ⟨h.blks.length, 0, none⟩) 1 1, h.new (.cells [a, b]) 48) := by kernel_rfl
theorem bdI (n : Int) (s : ByteArray) : buildV Try.prog 48 #[(0, .int .u64 n), (1, .string s)] = some (.agg #[.int .u64 n, .string s]) := by kernel_rfl
theorem mkS1 (s : ByteArray) (h : Heap) : buildSliceV Try.prog 35 1 #[(0, .string s)] h = some (.slice (some ⟨h.blks.length, 0, none⟩) 1 1, h.new (.cells [.string s]) 9) := by kernel_rfl
theorem si_mid {h : Heap} {v : Value} {l : List Ent} (s : SI h v l) {i j : Nat} (hij : i ≤ j) (hj : j ≤ l.length) {lo hi : Option Value} (hlo : lo.elim (some 0) natOf? = some i) (hhi : hi.elim (some l.length) natOf? = some j) :
    ∃ a c, sliceV Try.prog 44 v lo hi none h = some (.slice a ((l.drop i).take (j - i)).length c) ∧ SI h (.slice a ((l.drop i).take (j - i)).length c) ((l.drop i).take (j - i)) ∧ (∀ b, blockOf (.slice a ((l.drop i).take (j - i)).length c) = some b → blockOf v = some b) := by
  obtain ⟨v3, e3, s3, b3⟩ := Sl.sub s etI.under etI.size hij hj hlo hhi
  obtain ⟨a4, c4, rfl⟩ := s3.shape
  have el : ((l.drop i).take (j - i)).length = j - i := by simp; omega
  rw [itL_drop, itL_take] at s3
  refine ⟨a4, c4, ?_⟩
  unfold SI
  rw [el]
  exact ⟨e3, s3, fun b hb => by rw [b3] at hb; exact hb⟩
theorem si_drop {h : Heap} {v : Value} {l : List Ent} (s : SI h v l) {i : Nat} (hi : i ≤ l.length) (k : IntKind) :
    ∃ a c, sliceV Try.prog 44 v (some (.int k i)) none none h = some (.slice a (l.drop i).length c) ∧ SI h (.slice a (l.drop i).length c) (l.drop i) ∧ (∀ b, blockOf (.slice a (l.drop i).length c) = some b → blockOf v = some b) := by
  have := si_mid s (i := i) (j := l.length) hi (Nat.le_refl _) (lo := some (.int k i)) (hi := none) (natOf_int k _) rfl
  rwa [List.take_of_length_le (by simp)] at this
theorem si_take {h : Heap} {v : Value} {l : List Ent} (s : SI h v l) {i : Nat} (hi : i ≤ l.length) (k : IntKind) :
    ∃ a c, sliceV Try.prog 44 v none (some (.int k i)) none h = some (.slice a (l.take i).length c) ∧ SI h (.slice a (l.take i).length c) (l.take i) ∧ (∀ b, blockOf (.slice a (l.take i).length c) = some b → blockOf v = some b) := by
  have := si_mid s (i := 0) (j := i) (Nat.zero_le _) hi (lo := none) (hi := some (.int k i)) rfl (natOf_int k _)
  rwa [List.drop_zero, Nat.sub_zero] at this
theorem appendV_mods1 {P : Program} {t : TypeId} {t1 : Option TypeId} {a : Option Addr} {n c : Nat} {x : Value} {h : Heap} {v' : Value} {h' : Heap} (e : appendV P t t1 (.slice a n c) x h = some (v', h')) : ∀ m ∈ h'.mods, m ∈ h.mods ∨ blockOf (.slice a n c) = some m := by
  have put_mods : ∀ (h : Heap) (b : Nat) (body : Body) (m : Nat), m ∈ (h.put b body).mods → m ∈ h.mods ∨ m = b := fun h b body m hm => by
    unfold Heap.put at hm
    split at hm
    · rcases List.mem_cons.1 hm with h1 | h1
      · exact .inr h1
      · exact .inl h1
    · exact .inl hm
  unfold appendV at e
  split at e
  · rename_i elem base sLen sCap hu hs
    cases hs
    split at e
    · split at e
      · split at e
        · split at e
          · cases e; exact fun m hm => .inl hm
          · split at e
            · split at e
              · split at e
                · split at e
                  · cases e
                    intro m hm
                    rcases put_mods _ _ _ _ hm with h1 | h1
                    · exact .inl h1
                    · exact .inr (by rw [h1]; rfl)
                  · cases e
                · cases e
              · cases e
            · split at e
              · split at e
                · obtain ⟨h2, h3, h4⟩ := Option.map_eq_some_iff.1 e
                  cases h4
                  unfold Heap.storeN at h3
                  split at h3
                  · split at h3
                    · cases h3
                      intro m hm
                      rcases put_mods _ _ _ _ hm with h1 | h1
                      · exact .inl h1
                      · exact .inr (by rw [h1]; rfl)
                    · cases h3
                  · cases h3
                · cases e
              · split at e
                · obtain ⟨h2, h3, h4⟩ := Option.map_eq_some_iff.1 e
                  cases h4
                  exact fun m hm => .inl hm
                · split at e
                  · cases e; exact fun m hm => .inl hm
                  · cases e
                · cases e
        · cases e
      · cases e
    · cases e
  · cases e
theorem appendV_mods9 {P : Program} {t : TypeId} {t1 : Option TypeId} {b : Nat} {x : Value} {h : Heap} {v' : Value} {h' : Heap} (e : appendV P t t1 (.slice (some ⟨b, 0, none⟩) 0 0) x h = some (v', h')) : h'.mods = h.mods := by
  unfold appendV at e
  split at e
  · rename_i elem base sLen sCap hu hs
    injection hs with e1 e2 e3
    subst e1 e2 e3
    split at e
    · split at e
      · split at e
        · split at e
          · cases e; rfl
          · rename_i hn
            rw [if_neg (by unfold UNK; omega), if_neg (by omega)] at e
            simp only at e
            cases hl : h.loadN b 0 (0 * _) with
            | none => rw [hl] at e; cases e
            | some old => rw [hl] at e; cases e; rfl
        · cases e
      · cases e
    · cases e
  · cases e
theorem chk_ne9 {β : Type} {r m : List Nat} (h : ∀ b ∈ r, ∀ x ∈ m, b ≠ x) (x : Option β) : chk r m x = x := by
  have : (r.all fun b => !m.contains b) = true := by
    rw [List.all_eq_true]
    intro b hb
    rw [Bool.not_eq_true', ← Bool.not_eq_true, List.contains_iff_mem]
    exact fun hm => h b hb b hm rfl
  unfold chk; rw [this]
theorem etS : ElemT Try.prog 35 9 1 16 (.string .empty) := ⟨by kernel_rfl, by kernel_rfl, by kernel_rfl, by kernel_rfl, by omega, rfl, rfl⟩
abbrev AS (n0 : Nat) (h : Heap) (v : Value) (ss : List (List UInt8)) : Prop := Acc n0 h 9 1 v ss.length (ss.map strV)
theorem app_str {n0 : Nat} {h : Heap} (hn0 : n0 ≤ h.blks.length) {v : Value} {ss : List (List UInt8)} (ha : AS n0 h v ss) (s : List UInt8) (hl : ss.length < 2 ^ 39) :
    ∃ a c h', appendV Try.prog 35 (some 35) v (.slice (some ⟨h.blks.length, 0, none⟩) 1 1) (h.new (.cells [strV s]) 9) = some (.slice a (ss ++ [s]).length c, h') ∧ AS n0 h' (.slice a (ss ++ [s]).length c) (ss ++ [s]) ∧ Keeps n0 h h' ∧
      (∀ q, q < h.blks.length → blockOf v ≠ some q → h'.blks[q]? = h.blks[q]?) ∧ (∀ b, blockOf (.slice a (ss ++ [s]).length c) = some b → h.blks.length ≤ b) := by
  have ha' : AS n0 (h.new (.cells [strV s]) 9) v ss := ha.keep fun _ hb _ => Heap.new_old hb
  have rw1 : Row (h.new (.cells [strV s]) 9) 1 (.slice (some ⟨h.blks.length, 0, none⟩) 1 1) 1 [strV s] := .mk (loadN_blk (blk_new_self _ _ _) rfl)
  obtain ⟨v', h', e1, e2, e3, e4, e5⟩ := append_acc etS (t1 := some 35) (n0 := n0) (by simp [Heap.new]; omega) ha' (newsV_row etS.under rw1) (by simp) (by omega) (by omega) (by rfl)
  obtain ⟨a, c, rfl⟩ := e2.shape
  have el : (ss ++ [s]).length = ss.length + 1 := by simp
  rw [el]
  refine ⟨a, c, h', e1, by unfold AS; rw [el, List.map_append]; exact e2, (Keeps.new hn0 _ _).trans e3, fun q hq hne => (e4 q (by simp [Heap.new]; omega) hne).trans (Heap.new_old hq), fun b hb => ?_⟩
  rcases e5 with ⟨e5, e6⟩ | ⟨e5, _⟩
  · exfalso
    obtain ⟨_, c2, hs⟩ := ha.shape
    rw [hs] at e5
    injection e5 with _ e5 _
    omega
  · rw [e5] at hb
    have : (h.new (.cells [strV s]) 9).blks.length = h.blks.length + 1 := by simp [Heap.new]
    injection hb with hb
    omega
theorem ins_its {h : Heap} {lv : Value} {L : List Ent} {q k : Nat} (hq : q < h.blks.length) (s : SI h lv L) (hk : k ≤ L.length) (hl : L.length < 2 ^ 38) (num : Nat) (st : List UInt8) :
    ∃ hE ta tc a1 c1 hF a2 c2 hG da dc a3 c3 hH, buildSliceV Try.prog 44 0 #[] h = some (.slice (some ⟨h.blks.length, 0, none⟩) 0 0, hE) ∧
      sliceV Try.prog 44 lv none (some (.int .i64 k)) none hE = some (.slice ta (L.take k).length tc) ∧
      appendV Try.prog 44 (some 44) (.slice (some ⟨h.blks.length, 0, none⟩) 0 0) (.slice ta (L.take k).length tc) (nm hE) = some (.slice a1 (L.take k).length c1, hF) ∧
      appendV Try.prog 44 (some 44) (.slice a1 (L.take k).length c1) (.slice (some ⟨(am hF hE).blks.length, 0, none⟩) 1 1) (nm ((am hF hE).new (.cells [natV num, strV st]) 48)) = some (.slice a2 (L.take k ++ [(num, st)]).length c2, hG) ∧
      sliceV Try.prog 44 lv (some (.int .i64 k)) none none (am hG ((am hF hE).new (.cells [natV num, strV st]) 48)) = some (.slice da (L.drop k).length dc) ∧
      appendV Try.prog 44 (some 44) (.slice a2 (L.take k ++ [(num, st)]).length c2) (.slice da (L.drop k).length dc) (am hG ((am hF hE).new (.cells [natV num, strV st]) 48)) = some (.slice a3 (L.take k ++ [(num, st)] ++ L.drop k).length c3, hH) ∧
      Same h hE ∧ Same h (am hG ((am hF hE).new (.cells [natV num, strV st]) 48)) ∧ Same h hH ∧ (∀ {β : Type} (x : Option β), chk ([q] ++ ([(am hF hE).blks.length] ++ [])) (hG.mods ++ (hF.mods ++ [])) x = x) ∧
      AI h.blks.length hH (.slice a3 (L.take k ++ [(num, st)] ++ L.drop k).length c3) (L.take k ++ [(num, st)] ++ L.drop k) ∧ (∀ {n0 : Nat} {S : Nat → Prop}, n0 ≤ h.blks.length → In n0 S h hH) := by
  have cE := blk_new_self h (.cells []) 48
  have sE : SI (h.new (.cells []) 48) lv L := Sl.keepNew s _ _
  have mE := mkI0 h
  have lE : (h.new (.cells []) 48).blks.length = h.blks.length + 1 := by simp [Heap.new]
  have sameE : Same h (h.new (.cells []) 48) := Same.new _ _ _
  have eM : (h.new (.cells []) 48).mods = h.mods := rfl
  generalize hhE : h.new (.cells []) 48 = hE at *
  obtain ⟨ta, tc, t1, t2, _⟩ := si_take sE hk .i64
  have aE : AI h.blks.length (nm hE) (.slice (some ⟨h.blks.length, 0, none⟩) 0 0) [] := .full (all := []) (Nat.le_refl _) (by omega) cE (by simp) (by simp [itL])
  obtain ⟨a1, c1, hF, q1, q2, q3⟩ := app_its (n0 := h.blks.length) (h := nm hE) (by show _ ≤ hE.blks.length; omega) aE (Sl.nm t2) (by simp; omega)
  rw [List.nil_append] at q1 q2
  have mF : hF.mods = [] := appendV_mods9 q1
  have sameF : Same h hF := ⟨by have := q3.len; have : (nm hE).blks.length = hE.blks.length := rfl; omega, fun b hb => (q3.old b hb).trans (sameE.2 b hb)⟩
  have sameA : Same h (am hF hE) := sameF
  have aA : AI h.blks.length (am hF hE) (.slice a1 (L.take k).length c1) (L.take k) := Acc.keep q2 fun _ _ _ => rfl
  have modA : (am hF hE).mods = h.mods := by show hF.mods ++ hE.mods = _; rw [mF, eM]; rfl
  have s2 : Same h ((am hF hE).new (.cells [natV num, strV st]) 48) := sameA.trans (Same.new _ _ _)
  have aB : AI h.blks.length (nm ((am hF hE).new (.cells [natV num, strV st]) 48)) (.slice a1 (L.take k).length c1) (L.take k) := Acc.keep aA fun _ hb _ => Heap.new_old hb
  have li : SI (nm ((am hF hE).new (.cells [natV num, strV st]) 48)) (.slice (some ⟨(am hF hE).blks.length, 0, none⟩) 1 1) [(num, st)] :=
    .mk (show ((am hF hE).new (.cells [natV num, strV st]) 48).loadN (am hF hE).blks.length 0 (1 * 2) = some (itL [(num, st)]) from loadN_blk (blk_new_self _ _ _) rfl) (.inr ⟨Nat.le_refl _, by unfold UNK; omega⟩)
  obtain ⟨a2, c2, hG, g1, g2, g3⟩ := app_its (n0 := h.blks.length) (h := nm ((am hF hE).new (.cells [natV num, strV st]) 48)) s2.1 aB li (by simp; omega)
  have sameG : Same h hG := ⟨Nat.le_trans s2.1 g3.len, fun b hb => (g3.old b hb).trans (s2.2 b hb)⟩
  have mG := appendV_mods1 g1
  have sameG' : Same h (am hG ((am hF hE).new (.cells [natV num, strV st]) 48)) := sameG
  obtain ⟨da, dc, d1, d2, _⟩ := si_drop (Sl.same s sameG') hk .i64
  have aG : AI h.blks.length (am hG ((am hF hE).new (.cells [natV num, strV st]) 48)) (.slice a2 (L.take k ++ [(num, st)]).length c2) (L.take k ++ [(num, st)]) := Acc.keep g2 fun _ _ _ => rfl
  obtain ⟨a3, c3, hH, j1, j2, j3⟩ := app_its (n0 := h.blks.length) sameG'.1 aG d2 (by simp; omega)
  have sameH : Same h hH := ⟨Nat.le_trans sameG'.1 j3.len, fun b hb => (j3.old b hb).trans (sameG'.2 b hb)⟩
  have mG2 : ∀ m ∈ hG.mods, h.blks.length ≤ m ∧ m < (am hF hE).blks.length := fun m hm => by
    rcases mG m hm with h1 | h1
    · cases h1
    · exact ⟨aA.ge h1, aA.sl etI.size |>.lt h1⟩
  refine ⟨hE, ta, tc, a1, c1, hF, a2, c2, hG, da, dc, a3, c3, hH, mE, t1, q1, g1, d1, j1, sameE, sameG', sameH, fun x => chk_ne9 (fun b hb m hm => ?_) x, j2, fun {n0 S} hn => ?_⟩
  · rw [mF] at hm
    simp only [List.append_nil, List.nil_append] at hb hm
    have := mG2 m hm
    simp only [List.cons_append, List.nil_append, List.mem_cons, List.not_mem_nil, or_false] at hb
    rcases hb with rfl | rfl <;> omega
  · refine ⟨hn, sameH.1, fun b hb _ => sameH.2 b (Nat.lt_of_lt_of_le hb hn), fun m hm => ?_⟩
    rcases j3.mods m hm with h1 | h1
    · have e : (am hG ((am hF hE).new (.cells [natV num, strV st]) 48)).mods = hG.mods ++ (am hF hE).mods := rfl
      rw [e, modA] at h1
      rcases List.mem_append.1 h1 with h2 | h2
      · exact .inr (.inl (Nat.le_trans hn (mG2 m h2).1))
      · exact .inl h2
    · exact .inr (.inl (Nat.le_trans hn h1))
end Go.Am
namespace Go.Am
open Go.Proofs
set_option linter.all false
def drR : Nat → List Ent → List (List UInt8) × Nat × List Ent
  | nx, [] => ([], nx, [])
  | nx, q :: L => if q.1 = nx then ((q.2 :: (drR (nx + 1) L).1), (drR (nx + 1) L).2.1, (drR (nx + 1) L).2.2) else ([], nx, q :: L)
def RI (L RL : List Ent) : Prop := RL.Perm L ∧ RL.Pairwise (fun a b => a.1 < b.1)
theorem RI.nd {L RL : List Ent} (r : RI L RL) : (L.map (·.1)).Nodup := by
  have h : (RL.map (·.1)).Nodup := List.pairwise_map.2 (r.2.imp fun h e => by omega)
  exact ((r.1.map _).nodup_iff).1 h
theorem RI.keys {L RL : List Ent} (r : RI L RL) : (L.map (·.1)).mergeSort = RL.map (·.1) := by
  have tr : ∀ a b c : Nat, decide (a ≤ b) = true → decide (b ≤ c) = true → decide (a ≤ c) = true := fun a b c h1 h2 => by simp at *; omega
  have to : ∀ a b : Nat, (decide (a ≤ b) || decide (b ≤ a)) = true := fun a b => by simp; omega
  refine List.Perm.eq_of_pairwise (le := fun a b => decide (a ≤ b) = true) (fun a b _ _ h1 h2 => by simp at h1 h2; omega) (List.pairwise_mergeSort tr to _) (List.pairwise_map.2 (r.2.imp fun h => by simp; omega)) ((List.mergeSort_perm _ _).trans (r.1.map _).symm)
theorem RI.lt {L RL : List Ent} (r : RI L RL) {i j : Nat} (hij : i < j) (hj : j < RL.length) : (RL[i]'(by omega)).1 < RL[j].1 := List.pairwise_iff_getElem.1 r.2 i j (by omega) hj hij
theorem RI.there {L RL : List Ent} (r : RI L RL) {num k : Nat} (h1 : ∀ j (hj : j < RL.length), j < k → RL[j].1 < num) (h2 : ∀ (hk : k < RL.length), ¬ RL[k].1 < num) : num ∈ L.map (·.1) ↔ ∃ hk : k < RL.length, RL[k].1 = num := by
  constructor
  · intro h
    obtain ⟨q, hq, rfl⟩ := List.mem_map.1 h
    obtain ⟨j, hj, rfl⟩ := List.getElem_of_mem (r.1.mem_iff.2 hq)
    rcases Nat.lt_trichotomy j k with hl | hl | hl
    · have := h1 j hj hl; omega
    · subst hl; exact ⟨hj, rfl⟩
    · have := r.lt hl hj
      exact absurd this (h2 (by omega))
  · rintro ⟨hk, rfl⟩
    exact List.mem_map.2 ⟨_, r.1.mem_iff.1 (List.getElem_mem hk), rfl⟩
theorem RI.ins {L RL : List Ent} (r : RI L RL) {num k : Nat} (s : List UInt8) (hk : k ≤ RL.length) (h1 : ∀ j (hj : j < RL.length), j < k → RL[j].1 < num) (h2 : ∀ (hk : k < RL.length), num < RL[k].1) : RI (L ++ [(num, s)]) (RL.take k ++ [(num, s)] ++ RL.drop k) := by
  constructor
  · have : (RL.take k ++ [(num, s)] ++ RL.drop k).Perm ((num, s) :: (RL.take k ++ RL.drop k)) := by
      rw [List.append_assoc]; exact List.perm_middle
    rw [List.take_append_drop] at this
    exact this.trans ((r.1.cons _).trans (List.perm_append_singleton _ _).symm)
  · have lo : ∀ a ∈ RL.take k, a.1 < num := fun a ha => by
      obtain ⟨j, hj, rfl⟩ := List.getElem_of_mem ha
      rw [List.length_take] at hj
      rw [List.getElem_take]
      exact h1 j (by omega) (by omega)
    have hi : ∀ a ∈ RL.drop k, num < a.1 := fun a ha => by
      obtain ⟨j, hj, rfl⟩ := List.getElem_of_mem ha
      rw [List.length_drop] at hj
      rw [List.getElem_drop]
      have h0 := h2 (by omega)
      cases j with
      | zero => exact h0
      | succ j => exact Nat.lt_trans h0 (r.lt (by omega) (by omega))
    refine List.pairwise_append.2 ⟨List.pairwise_append.2 ⟨r.2.sublist (List.take_sublist _ _), by simp, fun a ha b hb => ?_⟩, r.2.sublist (List.drop_sublist _ _), fun a ha b hb => ?_⟩
    · simp at hb; subst hb; exact lo a ha
    · rcases List.mem_append.1 ha with ha | ha
      · exact Nat.lt_trans (lo a ha) (hi b hb)
      · simp at ha; subst ha; exact hi b hb
theorem cons_erase {l : List Ent} {i : Nat} (h : i < l.length) : (l[i] :: l.eraseIdx i).Perm l := by
  have e : l = l.take i ++ l[i] :: l.drop (i + 1) := by
    have : l[i] :: l.drop (i + 1) = l.drop i := List.getElem_cons_drop ..
    rw [this]; exact (List.take_append_drop i l).symm
  have p : (l.take i ++ l[i] :: l.drop (i + 1)).Perm (l[i] :: (l.take i ++ l.drop (i + 1))) := List.perm_middle
  rw [← e] at p
  rw [List.eraseIdx_eq_take_drop_succ]
  exact p.symm
theorem dr_eq {nx nx' : Nat} {L L' : List Ent} {outs : List (List UInt8)} (d : Dr nx L outs nx' L') : ∀ RL, RI L RL → (∀ q ∈ L, nx ≤ q.1) → ∃ RL', drR nx RL = (outs, nx', RL') ∧ RI L' RL' := by
  induction d with
  | stop h =>
    intro RL r hl
    rename_i nx L
    cases RL with
    | nil => exact ⟨[], rfl, r⟩
    | cons q RL =>
      have : q.1 ≠ nx := fun e => h (List.mem_map.2 ⟨q, r.1.mem_iff.1 (by simp), e⟩)
      exact ⟨q :: RL, by unfold drR; rw [if_neg this], r⟩
  | go hi d ih =>
    intro RL r hl
    rename_i nx nx' i L L' b outs
    have hm : (nx, b) ∈ RL := r.1.mem_iff.2 (List.mem_of_getElem? hi)
    obtain ⟨j, hj, hje⟩ := List.getElem_of_mem hm
    have j0 : j = 0 := by
      rcases Nat.eq_zero_or_pos j with h | h
      · exact h
      · have h1 := r.lt (i := 0) (j := j) h hj
        have h2 := hl _ (r.1.mem_iff.1 (List.getElem_mem (l := RL) (n := 0) (by omega)))
        rw [hje] at h1
        simp only at h1
        omega
    subst j0
    cases RL with
    | nil => cases hm
    | cons q RL =>
      have hq : q = (nx, b) := by simpa using hje
      subst hq
      have hlt : i < L.length := (List.getElem?_eq_some_iff.1 hi).1
      have hli : L[i] = (nx, b) := by rw [List.getElem?_eq_getElem hlt] at hi; exact Option.some.inj hi
      have r' : RI (L.eraseIdx i) RL := by
        refine ⟨?_, (List.pairwise_cons.1 r.2).2⟩
        have p1 : ((nx, b) :: L.eraseIdx i).Perm L := by rw [← hli]; exact cons_erase hlt
        exact (r.1.trans p1.symm).cons_inv
      obtain ⟨RL', e1, e2⟩ := ih RL r' fun q hq => by
        have h1 := (erase_ne r.nd hi hq)
        have := hl q h1.1
        have := h1.2
        omega
      exact ⟨RL', by unfold drR; rw [if_pos rfl, e1], e2⟩
structure WI (w nx : Nat) (L : List Ent) : Prop where
  nd : (L.map (·.1)).Nodup
  ent : ∀ q ∈ L, nx < q.1 ∧ q.1 < nx + w
theorem WI.len {w nx : Nat} {L : List Ent} (o : WI w nx L) : L.length ≤ w - 1 := by
  have := nd_len (w - 1) (nx + 1) (L.map (·.1)) o.nd fun x hx => by
    obtain ⟨q, hq, rfl⟩ := List.mem_map.1 hx
    have := o.ent q hq
    omega
  simpa using this
theorem dr_win {w nx nx' : Nat} {L L' : List Ent} {outs : List (List UInt8)} (d : Dr nx L outs nx' L') : ∀ (t : Nat), t ≤ nx + w → (L.map (·.1)).Nodup → (∀ q ∈ L, nx ≤ q.1 ∧ q.1 < t) → WI w nx' L' ∧ nx ≤ nx' ∧ nx' + L'.length = nx + L.length ∧ outs.length + L'.length = L.length := by
  induction d with
  | stop h =>
    intro t ht nd he
    rename_i nx L
    refine ⟨⟨nd, fun q hq => ?_⟩, Nat.le_refl _, rfl, by simp⟩
    obtain ⟨a, b⟩ := he q hq
    have : q.1 ≠ nx := fun e => h (List.mem_map.2 ⟨q, hq, e⟩)
    exact ⟨by omega, by omega⟩
  | go hi d ih =>
    intro t ht nd he
    rename_i nx nx' i L L' b outs
    have hlt : i < L.length := (List.getElem?_eq_some_iff.1 hi).1
    have el : (L.eraseIdx i).length = L.length - 1 := by rw [List.length_eraseIdx, if_pos hlt]
    obtain ⟨o, e1, e2, e3⟩ := ih t (by omega) (erase_nd nd i) fun q hq => by
      obtain ⟨q1, q2⟩ := erase_ne nd hi hq
      obtain ⟨b1, b2⟩ := he q q1
      exact ⟨by omega, b2⟩
    exact ⟨o, by omega, by omega, by simp; omega⟩
end Go.Am
namespace Go.Am
open Go.Proofs
set_option maxRecDepth 100000
set_option linter.all false
attribute [local congr] obind_congr obH_congr cnd_congr chk_congr retK_congr codeK_congr
theorem ldInt9 (p o : Nat) (h : Heap) : loadV Try.prog 3 (.pointer (some ⟨p, o, none⟩)) h = h.load1 p o := by kernel_rfl
theorem RD.len {h : Heap} {q p r w nx : Nat} {lv : Value} {L : List Ent} (d : RD h q p r w nx lv L) : lenV Try.prog 44 lv h = some (.int .i64 L.length) := d.row.row.len_eq etI.under
theorem rk_loop {β : Type} {Q : Option β → Prop} {k : Ex → St → Option β} {h : Heap} {q p r w nx num : Nat} {lv sv : Value} {L : List Ent} (d : RD h q p r w nx lv L) (hl : L.length < 1000) :
    ∀ (m i : Nat), L.length - i = m → i ≤ L.length → (∀ j (hj : j < L.length), j < i → L[j].1 < num) → ∀ (x : Nat → Value), x 0 = .pointer (some ⟨q, 0, none⟩) → x 1 = .int .u64 num → x 2 = sv → x 8 = .int .i64 i →
    (∀ (x' : Nat → Value) (kk : Nat), kk ≤ L.length → (∀ j (hj : j < L.length), j < kk → L[j].1 < num) → (∀ (hk : kk < L.length), ¬ L[kk].1 < num) → x' 0 = .pointer (some ⟨q, 0, none⟩) → x' 1 = .int .u64 num → x' 2 = sv → x' 8 = .int .i64 kk → Q (k .normal ⟨ar 139 x', h⟩)) →
    Q (lK c13_1 139 x h (blockK 0 k)) := by
  have l2 : h.load1 q 2 = some lv := d.cells.load 2
  have ll := d.len
  intro m
  induction m with
  | zero =>
    intro i e1 e2 hj x Aa Ab Ac Ai hk
    obtain rfl : i = L.length := by omega
    rw [lK_eq]
    have e := fun x' => hk x' L.length (Nat.le_refl _) hj (fun h => absurd h (Nat.lt_irrefl _))
    simp -implicitDefEqProofs (disch := omega) only [↓c13_1_eq,Aa,Ab,Ai, fa92, ldIs, l2, ll, dcF, ↓cnd_true, ↓cnd_false, ↓Option.bind_some, ↓obH_some', bin_add, bin_sub, bin_mul, bin_lss, bin_leq, bin_gtr, bin_geq, bin_eql, bin_neq, un_not, un_neg, Option.bind_some, Option.bind_none, Option.map_some, cnd_true, cnd_false, pickV_true, pickV_false, gd_true, gd_false, gdV_true, gdV_false, gdH_true, gdH_false, gdS_true, gdS_false, wt_ff, wt_tt, wt_ft, wt_tf, wt_undef, obH_some', extractV_tuple, nilCheckV_ptr, againK_normal, againK_exit, againK_ret, blockK_normal, blockK_same, blockK_ret, seqK_normal, seqK_exit, seqK_ret, fin_done, if_true', if_false', Bool.not_true, Bool.not_false, idx0, idx1, idx2, idx3, idx4, chk_nil_l, chk_nil_r, done_nm, up_cons, up_nil, cond_true, cond_false, Nat.reduceBEq]
    exact e _ Aa Ab Ac Ai
  | succ m ih =>
    intro i e1 e2 hj x Aa Ab Ac Ai hk
    have hi : i < L.length := by omega
    obtain ⟨b, o, _, _, ia, rd⟩ := d.row.at' (t := 44) (el := 48) (by kernel_rfl) (by kernel_rfl) hi
    obtain ⟨r1, r2⟩ := rd h rfl
    unfold natV at r1
    have w1 : IntKind.i64.wrap ((i : Int) + 1) = ((i + 1 : Nat) : Int) := by rw [wrap_i64] <;> omega
    rw [lK_eq]
    by_cases g : L[i].1 < num
    · have g' : ((L[i].1 : Nat) : Int) < num := by omega
      simp -implicitDefEqProofs (disch := omega) only [↓c13_1_eq,Aa,Ab,Ai, fa92, ldIs, l2, ll, ia, faI0, ld64, r1, g', w1, dcT, decide_true, ↓cnd_true, ↓cnd_false, ↓Option.bind_some, ↓obH_some', bin_add, bin_sub, bin_mul, bin_lss, bin_leq, bin_gtr, bin_geq, bin_eql, bin_neq, un_not, un_neg, Option.bind_some, Option.bind_none, Option.map_some, cnd_true, cnd_false, pickV_true, pickV_false, gd_true, gd_false, gdV_true, gdV_false, gdH_true, gdH_false, gdS_true, gdS_false, wt_ff, wt_tt, wt_ft, wt_tf, wt_undef, obH_some', extractV_tuple, nilCheckV_ptr, againK_normal, againK_exit, againK_ret, blockK_normal, blockK_same, blockK_ret, seqK_normal, seqK_exit, seqK_ret, fin_done, if_true', if_false', Bool.not_true, Bool.not_false, idx0, idx1, idx2, idx3, idx4, chk_nil_l, chk_nil_r, done_nm, up_cons, up_nil, cond_true, cond_false, Nat.reduceBEq]
      refine ih (i + 1) (by omega) (by omega) (fun j h1 h2 => ?_) _ ?_ ?_ ?_ ?_ hk
      · by_cases e : j = i
        · subst e; exact g
        · exact hj j h1 (by omega)
      · exact Aa
      · exact Ab
      · exact Ac
      · rfl
    · have g' : ¬ ((L[i].1 : Nat) : Int) < num := by omega
      have e := fun x' => hk x' i (by omega) hj (fun _ => g)
      simp -implicitDefEqProofs (disch := omega) only [↓c13_1_eq,Aa,Ab,Ai, fa92, ldIs, l2, ll, ia, faI0, ld64, r1, g', dcT, decide_false, ↓cnd_true, ↓cnd_false, ↓Option.bind_some, ↓obH_some', bin_add, bin_sub, bin_mul, bin_lss, bin_leq, bin_gtr, bin_geq, bin_eql, bin_neq, un_not, un_neg, Option.bind_some, Option.bind_none, Option.map_some, cnd_true, cnd_false, pickV_true, pickV_false, gd_true, gd_false, gdV_true, gdV_false, gdH_true, gdH_false, gdS_true, gdS_false, wt_ff, wt_tt, wt_ft, wt_tf, wt_undef, obH_some', extractV_tuple, nilCheckV_ptr, againK_normal, againK_exit, againK_ret, blockK_normal, blockK_same, blockK_ret, seqK_normal, seqK_exit, seqK_ret, fin_done, if_true', if_false', Bool.not_true, Bool.not_false, idx0, idx1, idx2, idx3, idx4, chk_nil_l, chk_nil_r, done_nm, up_cons, up_nil, cond_true, cond_false, Nat.reduceBEq]
      exact e _ Aa Ab Ac Ai
theorem drR_nil (nx : Nat) : drR nx [] = ([], nx, []) := rfl
theorem drR_go {nx : Nat} {e : Ent} {L : List Ent} (h : e.1 = nx) : drR nx (e :: L) = (e.2 :: (drR (nx + 1) L).1, (drR (nx + 1) L).2.1, (drR (nx + 1) L).2.2) := by
  rw [drR, if_pos h]
theorem drR_no {nx : Nat} {e : Ent} {L : List Ent} (h : e.1 ≠ nx) : drR nx (e :: L) = ([], nx, e :: L) := by
  rw [drR, if_neg h]
theorem rdr_loop {g : Heap} {q p r w : Nat} (hq : q < g.blks.length) (hp : p < g.blks.length) (hr : r < g.blks.length) :
    ∀ (L : List Ent) (nx : Nat) (x : Nat → Value) (h : Heap) (ss : List (List UInt8)) (rv lv : Value), RD h q p r w nx lv L → AS g.blks.length h rv ss → (∀ b, blockOf lv = some b → blockOf rv ≠ some b) → In g.blks.length (Just q) (nm g) h → g.blks.length ≤ h.blks.length → nx + L.length < 2 ^ 63 → ss.length + L.length < 1000 → x 0 = .pointer (some ⟨q, 0, none⟩) → x 9 = rv →
    ∃ h' rv' lv', lK c13_3 139 x h (blockK 2 (sK c13_4 (retK Try.f13 Try.prog g))) = some (.tuple #[rv', .bool true], done g h') ∧ RD h' q p r w (drR nx L).2.1 lv' (drR nx L).2.2 ∧ AS g.blks.length h' rv' (ss ++ (drR nx L).1) ∧ In g.blks.length (Just q) (nm g) h' := by
  intro L
  induction L with
  | nil =>
    intro nx x h ss rv lv d a dj hin hg hb hs Aa Aj
    have l1 : h.load1 q 1 = some (.int .u64 nx) := d.cells.load 1
    have l2 : h.load1 q 2 = some lv := d.cells.load 2
    have ll := d.len
    simp only [List.length_nil] at ll
    rw [drR_nil]
    refine ⟨h, rv, lv, ?_, d, by rw [List.append_nil]; exact a, hin⟩
    rw [lK_eq]
    simp -implicitDefEqProofs (disch := omega) only [↓c13_3_eq, ↓c13_4_eq,Aa,Aj, fa92, ldIs, l2, ll, dcF, ↓ret13, ↓cnd_true, ↓cnd_false, ↓Option.bind_some, ↓obH_some', bin_add, bin_sub, bin_mul, bin_lss, bin_leq, bin_gtr, bin_geq, bin_eql, bin_neq, un_not, un_neg, Option.bind_some, Option.bind_none, Option.map_some, cnd_true, cnd_false, pickV_true, pickV_false, gd_true, gd_false, gdV_true, gdV_false, gdH_true, gdH_false, gdS_true, gdS_false, wt_ff, wt_tt, wt_ft, wt_tf, wt_undef, obH_some', extractV_tuple, nilCheckV_ptr, againK_normal, againK_exit, againK_ret, blockK_normal, blockK_same, blockK_ret, seqK_normal, seqK_exit, seqK_ret, fin_done, if_true', if_false', Bool.not_true, Bool.not_false, idx0, idx1, idx2, idx3, idx4, chk_nil_l, chk_nil_r, done_nm, up_cons, up_nil, cond_true, cond_false, Nat.reduceBEq]
  | cons e L ih =>
    intro nx x h ss rv lv d a dj hin hg hb hs Aa Aj
    have l1 : h.load1 q 1 = some (.int .u64 nx) := d.cells.load 1
    have l2 : h.load1 q 2 = some lv := d.cells.load 2
    have ll := d.len
    simp only [List.length_cons] at ll hb hs
    obtain ⟨b, o, hbv, hbl, ia, rd⟩ := d.row.at' (t := 44) (el := 48) (i := 0) (by kernel_rfl) (by kernel_rfl) (by simp)
    obtain ⟨r1, r2⟩ := rd h rfl
    simp only [List.getElem_cons_zero] at r1 r2
    unfold natV at r1
    unfold strV at r2
    have ia0 := ia .i64
    rw [show ((0 : Nat) : Int) = 0 from rfl] at ia0
    have gl : ((L.length + 1 : Nat) : Int) > 0 := by omega
    rw [lK_eq]
    by_cases ge : e.1 = nx
    · have ge' : ((e.1 : Nat) : Int) = nx := by omega
      obtain ⟨a1, c1, h2, ap, a2, k2, f2, nw⟩ := app_str hg a e.2 (by omega)
      unfold strV at ap
      have rq : blockOf rv ≠ some q := a.ne hq
      have d2c : Cells h2 q 46 [.int .i64 w, .int .u64 nx, lv] := (f2 q d.cells.lt rq).trans d.cells
      have s2 : SI h2 lv (e :: L) := d.row.keep fun b hb hv => f2 b hb (dj b hv)
      have m2 : h2.load1 q 2 = some lv := d2c.load 2
      obtain ⟨da, dc, sl, s3, sb⟩ := si_drop s2 (i := 1) (by simp) .i64
      simp only [List.drop_succ_cons, List.drop_zero] at sl s3 sb
      rw [show ((1 : Nat) : Int) = 1 from rfl] at sl
      have st1 : h2.storeN q 2 [.slice da L.length dc] = some (h2.put q (.cells [.int .i64 w, .int .u64 nx, .slice da L.length dc])) := by
        rw [storeN_blk d2c (by simp)]; rfl
      have d3c := d2c.put [.int .i64 w, .int .u64 nx, .slice da L.length dc]
      have m3 : (h2.put q (.cells [.int .i64 w, .int .u64 nx, .slice da L.length dc])).load1 q 1 = some (.int .u64 nx) := d3c.load 1
      have w1 : IntKind.u64.wrap ((nx : Int) + 1) = ((nx + 1 : Nat) : Int) := by rw [wrap_u64] <;> omega
      have st2 : (h2.put q (.cells [.int .i64 w, .int .u64 nx, .slice da L.length dc])).storeN q 1 [.int .u64 ((nx + 1 : Nat) : Int)] = some ((h2.put q (.cells [.int .i64 w, .int .u64 nx, .slice da L.length dc])).put q (.cells [.int .i64 w, .int .u64 ((nx + 1 : Nat) : Int), .slice da L.length dc])) := by
        rw [storeN_blk d3c (by simp)]; rfl
      have d4c := d3c.put [.int .i64 w, .int .u64 ((nx + 1 : Nat) : Int), .slice da L.length dc]
      have bl : ∀ b, blockOf (.slice da L.length dc) = some b → blockOf lv = some b := sb
      have nq1 : blockOf (.slice da L.length dc) ≠ some q := fun h => d.nq (bl _ h)
      have s4 : SI ((h2.put q (.cells [.int .i64 w, .int .u64 nx, .slice da L.length dc])).put q (.cells [.int .i64 w, .int .u64 ((nx + 1 : Nat) : Int), .slice da L.length dc])) (.slice da L.length dc) L := (Sl.keepPut s3 nq1 _).keepPut nq1 _
      have rq2 : blockOf (.slice a1 (ss ++ [e.2]).length c1) ≠ some q := a2.ne hq
      have a4 : AS g.blks.length ((h2.put q (.cells [.int .i64 w, .int .u64 nx, .slice da L.length dc])).put q (.cells [.int .i64 w, .int .u64 ((nx + 1 : Nat) : Int), .slice da L.length dc])) (.slice a1 (ss ++ [e.2]).length c1) (ss ++ [e.2]) := (Acc.keepPut a2 rq2 _).keepPut rq2 _
      have lh2 : g.blks.length ≤ h2.blks.length := Nat.le_trans hg k2.len
      have i4 : In g.blks.length (Just q) (nm g) ((h2.put q (.cells [.int .i64 w, .int .u64 nx, .slice da L.length dc])).put q (.cells [.int .i64 w, .int .u64 ((nx + 1 : Nat) : Int), .slice da L.length dc])) :=
        ((hin.trans k2.inn).trans (In.put lh2 (.inr (show Just q q from rfl)) _)).trans (In.put (by rw [Heap.put_len]; exact lh2) (.inr (show Just q q from rfl)) _)
      have key := fun (x' : Nat → Value) (y0 : x' 0 = .pointer (some ⟨q, 0, none⟩)) (y9 : x' 9 = .slice a1 (ss ++ [e.2]).length c1) => ih (nx + 1) x' _ (ss ++ [e.2]) _ _ ⟨d4c, s4, nq1, fun h => d.np (bl _ h), fun h => d.nr (bl _ h)⟩ a4 (fun b hb h => by have := nw b h; have := d.row.lt (bl b hb); omega) i4 (by rw [Heap.put_len, Heap.put_len]; exact lh2) (by omega) (by simp; omega) y0 y9
      have e9 : ss ++ e.2 :: (drR (nx + 1) L).1 = ss ++ [e.2] ++ (drR (nx + 1) L).1 := by simp
      rw [drR_go ge]
      simp -implicitDefEqProofs (disch := omega) only [↓c13_3_eq,Aa,Aj, fa92, fa91, ldIs, ld64, l1, l2, ll, gl, ia0, faI0, faI1, ldS9, r1, r2, ge', mkS1, ap, m2, sl, stIs, st1, m3, w1, st64, st2, dcT, decide_true, eq_self, ↓cnd_true, ↓cnd_false, ↓Option.bind_some, ↓obH_some', bin_add, bin_sub, bin_mul, bin_lss, bin_leq, bin_gtr, bin_geq, bin_eql, bin_neq, un_not, un_neg, Option.bind_some, Option.bind_none, Option.map_some, cnd_true, cnd_false, pickV_true, pickV_false, gd_true, gd_false, gdV_true, gdV_false, gdH_true, gdH_false, gdS_true, gdS_false, wt_ff, wt_tt, wt_ft, wt_tf, wt_undef, obH_some', extractV_tuple, nilCheckV_ptr, againK_normal, againK_exit, againK_ret, blockK_normal, blockK_same, blockK_ret, seqK_normal, seqK_exit, seqK_ret, fin_done, if_true', if_false', Bool.not_true, Bool.not_false, idx0, idx1, idx2, idx3, idx4, chk_nil_l, chk_nil_r, done_nm, up_cons, up_nil, cond_true, cond_false, Nat.reduceBEq]
      rw [e9]
      refine key _ ?_ ?_
      · exact Aa
      · rfl
    · have ge' : ¬ ((e.1 : Nat) : Int) = nx := by omega
      rw [drR_no ge]
      refine ⟨h, rv, lv, ?_, d, by rw [List.append_nil]; exact a, hin⟩
      simp -implicitDefEqProofs (disch := omega) only [↓c13_3_eq, ↓c13_4_eq,Aa,Aj, fa92, fa91, ldIs, ld64, l1, l2, ll, gl, ia0, faI0, r1, ge', dcT, dcF, decide_true, decide_false, ↓ret13, ↓cnd_true, ↓cnd_false, ↓Option.bind_some, ↓obH_some', bin_add, bin_sub, bin_mul, bin_lss, bin_leq, bin_gtr, bin_geq, bin_eql, bin_neq, un_not, un_neg, Option.bind_some, Option.bind_none, Option.map_some, cnd_true, cnd_false, pickV_true, pickV_false, gd_true, gd_false, gdV_true, gdV_false, gdH_true, gdH_false, gdS_true, gdS_false, wt_ff, wt_tt, wt_ft, wt_tf, wt_undef, obH_some', extractV_tuple, nilCheckV_ptr, againK_normal, againK_exit, againK_ret, blockK_normal, blockK_same, blockK_ret, seqK_normal, seqK_exit, seqK_ret, fin_done, if_true', if_false', Bool.not_true, Bool.not_false, idx0, idx1, idx2, idx3, idx4, chk_nil_l, chk_nil_r, done_nm, up_cons, up_nil, cond_true, cond_false, Nat.reduceBEq]
theorem spec_RTake {h : Heap} {q p r w nx : Nat} {lv : Value} {L RL : List Ent} (d : RD h q p r w nx lv RL) (ri : RI L RL) (hp : p < h.blks.length) (hr : r < h.blks.length) (num : Nat) (hn : num < 2 ^ 64) (hx : nx < 2 ^ 60) (hw : w < 2 ^ 60) (hL : RL.length < 900) (st : List UInt8) :
    ((num ∈ L.map (·.1) ∨ num < nx ∨ nx + w ≤ num) ∧ evC Try.prog 13 #[.pointer (some ⟨q, 0, none⟩), .int .u64 num, strV st] h = some (.tuple #[.slice none 0 0, .bool false], h)) ∨
    (num ∉ L.map (·.1) ∧ nx ≤ num ∧ num < nx + w ∧ ∃ RL1 rv lv' h', RI (L ++ [(num, st)]) RL1 ∧ evC Try.prog 13 #[.pointer (some ⟨q, 0, none⟩), .int .u64 num, strV st] h = some (.tuple #[rv, .bool true], h') ∧
      RD h' q p r w (drR nx RL1).2.1 lv' (drR nx RL1).2.2 ∧ SSt h' rv (drR nx RL1).1 ∧ HMod (Just q) h h') := by
  rw [call13]
  have hq := d.cells.lt
  have dn : RD (nm h) q p r w nx lv RL := ⟨d.cells, d.row.nm, d.nq, d.np, d.nr⟩
  have l0 : (nm h).load1 q 0 = some (.int .i64 w) := dn.cells.load 0
  have l1 : (nm h).load1 q 1 = some (.int .u64 nx) := dn.cells.load 1
  have l2 : (nm h).load1 q 2 = some lv := dn.cells.load 2
  have cw := fun h => cvI64 (w : Int) h (by omega) (by omega)
  have ll := dn.len
  by_cases g1 : num < nx
  · have g1' : (num : Int) < nx := by omega
    refine .inl ⟨.inr (.inl g1), ?_⟩
    simp -implicitDefEqProofs (disch := omega) only [↓c13_0_eq, fa90, fa91, ldInt9, ld64, l0, l1, g1', dcT, dcF, decide_true, ↓ret13, ↓cnd_true, ↓cnd_false, ↓Option.bind_some, ↓obH_some', bin_add, bin_sub, bin_mul, bin_lss, bin_leq, bin_gtr, bin_geq, bin_eql, bin_neq, un_not, un_neg, Option.bind_some, Option.bind_none, Option.map_some, cnd_true, cnd_false, pickV_true, pickV_false, gd_true, gd_false, gdV_true, gdV_false, gdH_true, gdH_false, gdS_true, gdS_false, wt_ff, wt_tt, wt_ft, wt_tf, wt_undef, obH_some', extractV_tuple, nilCheckV_ptr, againK_normal, againK_exit, againK_ret, blockK_normal, blockK_same, blockK_ret, seqK_normal, seqK_exit, seqK_ret, fin_done, if_true', if_false', Bool.not_true, Bool.not_false, idx0, idx1, idx2, idx3, idx4, chk_nil_l, chk_nil_r, done_nm, up_cons, up_nil, cond_true, cond_false, Nat.reduceBEq]
  have g1' : ¬ (num : Int) < nx := by omega
  have ws : IntKind.wrap .u64 ((num : Int) - nx) = ((num - nx : Nat) : Int) := by rw [wrap_u64] <;> omega
  by_cases g2 : nx + w ≤ num
  · have g2' : ((num - nx : Nat) : Int) ≥ w := by omega
    refine .inl ⟨.inr (.inr g2), ?_⟩
    simp -implicitDefEqProofs (disch := omega) only [↓c13_0_eq, fa90, fa91, ldInt9, ld64, l0, l1, g1', cw, ws, g2', dcT, dcF, decide_true, decide_false, ↓ret13, ↓cnd_true, ↓cnd_false, ↓Option.bind_some, ↓obH_some', bin_add, bin_sub, bin_mul, bin_lss, bin_leq, bin_gtr, bin_geq, bin_eql, bin_neq, un_not, un_neg, Option.bind_some, Option.bind_none, Option.map_some, cnd_true, cnd_false, pickV_true, pickV_false, gd_true, gd_false, gdV_true, gdV_false, gdH_true, gdH_false, gdS_true, gdS_false, wt_ff, wt_tt, wt_ft, wt_tf, wt_undef, obH_some', extractV_tuple, nilCheckV_ptr, againK_normal, againK_exit, againK_ret, blockK_normal, blockK_same, blockK_ret, seqK_normal, seqK_exit, seqK_ret, fin_done, if_true', if_false', Bool.not_true, Bool.not_false, idx0, idx1, idx2, idx3, idx4, chk_nil_l, chk_nil_r, done_nm, up_cons, up_nil, cond_true, cond_false, Nat.reduceBEq]
  have g2' : ¬ ((num - nx : Nat) : Int) ≥ w := by omega
  simp -implicitDefEqProofs (disch := omega) only [↓c13_0_eq, fa90, fa91, ldInt9, ld64, l0, l1, g1', cw, ws, g2', dcT, dcF, decide_true, decide_false, ↓cnd_true, ↓cnd_false, ↓Option.bind_some, ↓obH_some', bin_add, bin_sub, bin_mul, bin_lss, bin_leq, bin_gtr, bin_geq, bin_eql, bin_neq, un_not, un_neg, Option.bind_some, Option.bind_none, Option.map_some, cnd_true, cnd_false, pickV_true, pickV_false, gd_true, gd_false, gdV_true, gdV_false, gdH_true, gdH_false, gdS_true, gdS_false, wt_ff, wt_tt, wt_ft, wt_tf, wt_undef, obH_some', extractV_tuple, nilCheckV_ptr, againK_normal, againK_exit, againK_ret, blockK_normal, blockK_same, blockK_ret, seqK_normal, seqK_exit, seqK_ret, fin_done, if_true', if_false', Bool.not_true, Bool.not_false, idx0, idx1, idx2, idx3, idx4, chk_nil_l, chk_nil_r, done_nm, up_cons, up_nil, cond_true, cond_false, Nat.reduceBEq]
  refine rk_loop (Q := fun o => ((num ∈ L.map (·.1) ∨ num < nx ∨ nx + w ≤ num) ∧ o = some (Value.tuple #[.slice none 0 0, .bool false], h)) ∨
    (num ∉ L.map (·.1) ∧ nx ≤ num ∧ num < nx + w ∧ ∃ RL1 rv lv' h', RI (L ++ [(num, st)]) RL1 ∧ o = some (Value.tuple #[rv, .bool true], h') ∧
      RD h' q p r w (drR nx RL1).2.1 lv' (drR nx RL1).2.2 ∧ SSt h' rv (drR nx RL1).1 ∧ HMod (Just q) h h')) (num := num) (sv := strV st) dn (by omega) RL.length 0 (by omega) (by omega) (fun j h1 h2 => by omega) _ rfl rfl rfl rfl ?_
  intro x k hk h1 h2 Aa Ab Ac Ai
  have th := ri.there (num := num) (k := k) h1 h2
  by_cases g3 : ∃ hk : k < RL.length, RL[k].1 = num
  · obtain ⟨hkl, hke⟩ := g3
    obtain ⟨b, o, _, _, ia, rd⟩ := dn.row.at' (t := 44) (el := 48) (by kernel_rfl) (by kernel_rfl) hkl
    obtain ⟨r1, _⟩ := rd (nm h) rfl
    rw [hke] at r1
    unfold natV at r1
    have gk : (k : Int) < RL.length := by omega
    refine .inl ⟨.inl (th.2 ⟨hkl, hke⟩), ?_⟩
    simp -implicitDefEqProofs (disch := omega) only [↓c13_2_eq,Aa,Ab,Ai, fa92, ldIs, l2, ll, gk, ia, faI0, ld64, r1, dcT, eq_self, decide_true, ↓ret13, ↓cnd_true, ↓cnd_false, ↓Option.bind_some, ↓obH_some', bin_add, bin_sub, bin_mul, bin_lss, bin_leq, bin_gtr, bin_geq, bin_eql, bin_neq, un_not, un_neg, Option.bind_some, Option.bind_none, Option.map_some, cnd_true, cnd_false, pickV_true, pickV_false, gd_true, gd_false, gdV_true, gdV_false, gdH_true, gdH_false, gdS_true, gdS_false, wt_ff, wt_tt, wt_ft, wt_tf, wt_undef, obH_some', extractV_tuple, nilCheckV_ptr, againK_normal, againK_exit, againK_ret, blockK_normal, blockK_same, blockK_ret, seqK_normal, seqK_exit, seqK_ret, fin_done, if_true', if_false', Bool.not_true, Bool.not_false, idx0, idx1, idx2, idx3, idx4, chk_nil_l, chk_nil_r, done_nm, up_cons, up_nil, cond_true, cond_false, Nat.reduceBEq]
  · have hno : num ∉ L.map (·.1) := fun h => g3 (th.1 h)
    have h3 : ∀ (hk : k < RL.length), num < RL[k].1 := fun hk => by
      have := h2 hk
      have : RL[k].1 ≠ num := fun e => g3 ⟨hk, e⟩
      omega
    have ri2 := ri.ins st hk h1 h3
    obtain ⟨hE, ta, tc, a1, c1, hF, a2, c2, hG, da, dc, a3, c3, hH, b1, b2, b3, b4, b5, b6, sE, sG, sH, ck, aH, iH⟩ := ins_its (h := nm h) (q := q) hq dn.row hk (by omega) num st
    have m1 : hE.load1 q 2 = some lv := (dn.cells.same sE).load 2
    have m2 : (am hG ((am hF hE).new (.cells [natV num, strV st]) 48)).load1 q 2 = some lv := (dn.cells.same sG).load 2
    have cH := dn.cells.same sH
    have st1 : hH.storeN q 2 [.slice a3 (RL.take k ++ [(num, st)] ++ RL.drop k).length c3] = some (hH.put q (.cells [.int .i64 w, .int .u64 nx, .slice a3 (RL.take k ++ [(num, st)] ++ RL.drop k).length c3])) := by
      rw [storeN_blk cH (by simp)]; rfl
    have nq := aH.ne hq
    have np := aH.ne hp
    have nr := aH.ne hr
    have len1 : (RL.take k ++ [(num, st)] ++ RL.drop k).length = RL.length + 1 := by simp; omega
    have lp := rdr_loop (g := h) (q := q) (p := p) (r := r) (w := w) hq hp hr (RL.take k ++ [(num, st)] ++ RL.drop k) nx
    have dR : RD (hH.put q (.cells [.int .i64 w, .int .u64 nx, .slice a3 (RL.take k ++ [(num, st)] ++ RL.drop k).length c3])) q p r w nx (.slice a3 (RL.take k ++ [(num, st)] ++ RL.drop k).length c3) (RL.take k ++ [(num, st)] ++ RL.drop k) :=
      ⟨cH.put _,Sl.keepPut (aH.sl etI.size) nq _, nq, np, nr⟩
    have iR : In h.blks.length (Just q) (nm h) (hH.put q (.cells [.int .i64 w, .int .u64 nx, .slice a3 (RL.take k ++ [(num, st)] ++ RL.drop k).length c3])) :=
      (iH (Nat.le_refl h.blks.length)).trans (In.put sH.1 (.inr (show Just q q from rfl)) _)
    have key := fun (x' : Nat → Value) (y0 : x' 0 = .pointer (some ⟨q, 0, none⟩)) (y9 : x' 9 = .slice none 0 0) => lp x' _ [] (.slice none 0 0) _ dR .nil (fun b _ h => by cases h) iR (by rw [Heap.put_len]; exact sH.1) (by omega) (by simp; omega) y0 y9
    generalize hRL : RL.take k ++ [(num, st)] ++ RL.drop k = RL1 at *
    refine .inr ⟨hno, by omega, by omega, RL1, ?_⟩
    have fin : ∀ o, (∃ h' rv' lv', o = some (.tuple #[rv', .bool true], done h h') ∧ RD h' q p r w (drR nx RL1).2.1 lv' (drR nx RL1).2.2 ∧ AS h.blks.length h' rv' ([] ++ (drR nx RL1).1) ∧ In h.blks.length (Just q) (nm h) h') →
        ∃ rv lv' h', RI (L ++ [(num, st)]) RL1 ∧ o = some (Value.tuple #[rv, .bool true], h') ∧ RD h' q p r w (drR nx RL1).2.1 lv' (drR nx RL1).2.2 ∧ SSt h' rv (drR nx RL1).1 ∧ HMod (Just q) h h' := by
      rintro o ⟨h', rv', lv', z1, z2, z3, z4⟩
      rw [List.nil_append] at z3
      exact ⟨rv', lv', done h h', ri2, z1, ⟨z2.cells.done, z2.row.done, z2.nq, z2.np, z2.nr⟩, (Acc.row z3).keep fun _ _ _ => rfl, done_mod z4⟩
    refine fin _ ?_
    have rbq : rb (.pointer (some ⟨q, 2, none⟩)) = [q] := rfl
    have e1 : natV num = .int .u64 num := rfl
    rw [e1] at b4 b5 b6 m2
    unfold strV at b4 b5 b6 m2 Ac
    by_cases hkl : k < RL.length
    · obtain ⟨b, o, _, _, ia, rd⟩ := dn.row.at' (t := 44) (el := 48) (by kernel_rfl) (by kernel_rfl) hkl
      obtain ⟨r1, _⟩ := rd (nm h) rfl
      unfold natV at r1
      have h4 := h3 hkl
      have gk : (k : Int) < RL.length := by omega
      have ge : ¬ ((RL[k].1 : Nat) : Int) = num := by omega
      simp -implicitDefEqProofs (disch := omega) only [↓c13_2_eq,Aa,Ab,Ac,Ai, fa92, ldIs, l2, ll, gk, ia, faI0, ld64, r1, ge, dcT, dcF, decide_true, decide_false, b1, m1, b2, b3, bdI, mkI1, b4, m2, b5, b6, stIs, st1, rbq, ck, ↓cnd_true, ↓cnd_false, ↓Option.bind_some, ↓obH_some', bin_add, bin_sub, bin_mul, bin_lss, bin_leq, bin_gtr, bin_geq, bin_eql, bin_neq, un_not, un_neg, Option.bind_some, Option.bind_none, Option.map_some, cnd_true, cnd_false, pickV_true, pickV_false, gd_true, gd_false, gdV_true, gdV_false, gdH_true, gdH_false, gdS_true, gdS_false, wt_ff, wt_tt, wt_ft, wt_tf, wt_undef, obH_some', extractV_tuple, nilCheckV_ptr, againK_normal, againK_exit, againK_ret, blockK_normal, blockK_same, blockK_ret, seqK_normal, seqK_exit, seqK_ret, fin_done, if_true', if_false', Bool.not_true, Bool.not_false, idx0, idx1, idx2, idx3, idx4, chk_nil_l, chk_nil_r, done_nm, up_cons, up_nil, cond_true, cond_false, Nat.reduceBEq]
      refine key _ ?_ ?_
      · exact Aa
      · rfl
    · have gk : ¬ (k : Int) < RL.length := by omega
      simp -implicitDefEqProofs (disch := omega) only [↓c13_2_eq,Aa,Ab,Ac,Ai, fa92, ldIs, l2, ll, gk, dcT, dcF, decide_false, b1, m1, b2, b3, bdI, mkI1, b4, m2, b5, b6, stIs, st1, rbq, ck, ↓cnd_true, ↓cnd_false, ↓Option.bind_some, ↓obH_some', bin_add, bin_sub, bin_mul, bin_lss, bin_leq, bin_gtr, bin_geq, bin_eql, bin_neq, un_not, un_neg, Option.bind_some, Option.bind_none, Option.map_some, cnd_true, cnd_false, pickV_true, pickV_false, gd_true, gd_false, gdV_true, gdV_false, gdH_true, gdH_false, gdS_true, gdS_false, wt_ff, wt_tt, wt_ft, wt_tf, wt_undef, obH_some', extractV_tuple, nilCheckV_ptr, againK_normal, againK_exit, againK_ret, blockK_normal, blockK_same, blockK_ret, seqK_normal, seqK_exit, seqK_ret, fin_done, if_true', if_false', Bool.not_true, Bool.not_false, idx0, idx1, idx2, idx3, idx4, chk_nil_l, chk_nil_r, done_nm, up_cons, up_nil, cond_true, cond_false, Nat.reduceBEq]
      refine key _ ?_ ?_
      · exact Aa
      · rfl
end Go.Am
namespace Go.Am
open Go.Proofs
set_option maxRecDepth 100000
set_option linter.all false
attribute [local congr] obind_congr obH_congr cnd_congr chk_congr retK_congr codeK_congr
theorem SB.other {h h' : Heap} {q : Nat} {ty : TypeId} {w n w' n' : Int} {lv lv' v : Value} {bs : List UInt8} (s : SB h v bs) (c : Cells h q ty [.int .i64 w, .int .u64 n, lv]) (c' : Cells h' q ty [.int .i64 w', .int .u64 n', lv']) (hlv : ∃ a n c, lv = .slice a n c)
    (fr : ∀ b, b < h.blks.length → b ≠ q → h'.blks[b]? = h.blks[b]?) : SB h' v bs := by
  rcases s.inv with ⟨rfl, h1, h2⟩ | ⟨b, o, cp, rfl, hld, hc⟩
  · have : bs = [] := List.eq_nil_of_length_eq_zero h1
    subst this; exact .nil
  · by_cases e : b = q
    · subst e
      have c0 : h.blks[b]? = some ⟨.cells [.int .i64 w, .int .u64 n, lv], ty, true⟩ := c
      have c0' : h'.blks[b]? = some ⟨.cells [.int .i64 w', .int .u64 n', lv'], ty, true⟩ := c'
      have hl := hld
      simp only [Heap.loadN, Heap.cells?, c0, Nat.mul_one] at hl
      split at hl
      · rename_i hle
        simp only [List.length_cons, List.length_nil] at hle
        have : bs = [] := by
          cases bs with
          | nil => rfl
          | cons x bs =>
            exfalso
            simp only [Option.some.injEq] at hl
            have h0 : ((List.drop o [Value.int .i64 w, .int .u64 n, lv]).take (x :: bs).length)[0]? = some (byteV x) := by rw [hl]; rfl
            rw [List.getElem?_take, if_pos (by simp), List.getElem?_drop] at h0
            obtain ⟨a, m, cc, rfl⟩ := hlv
            match o, h0 with
            | 0, h0 => simp [byteV] at h0
            | 1, h0 => simp [byteV] at h0
            | 2, h0 => simp [byteV] at h0
            | o + 3, h0 => simp at h0
        subst this
        have hc' : cp = UNK ∧ esOf Try.prog h' b = some 1 ∨ ([] : List UInt8).length ≤ cp ∧ cp < UNK := by
          rcases hc with ⟨h1, h2⟩ | h1
          · refine .inl ⟨h1, ?_⟩
            unfold esOf at h2 ⊢
            simp only [c0] at h2
            simp only [c0']
            exact h2
          · exact .inr h1
        refine .mk ?_ hc'
        simp only [Heap.loadN, Heap.cells?, c0', List.length_cons, List.length_nil]
        rw [if_pos (by simp at hle ⊢; omega)]
        simp
      · cases hl
    · exact s.keep fun b' hb hv => fr b' hb (fun e' => e ((show b = b' by simpa [blockOf] using hv).trans e'))
theorem DK.other {h h' : Heap} {p r w nx q : Nat} {L : List Ent} {ty : TypeId} {a b a' b' : Int} {lv lv' : Value} (d : DK h p r w nx L) (c : Cells h q ty [.int .i64 a, .int .u64 b, lv]) (c' : Cells h' q ty [.int .i64 a', .int .u64 b', lv']) (hlv : ∃ a n c, lv = .slice a n c)
    (m : HMod (Just q) h h') (hp : p ≠ q) (hr : r ≠ q) : DK h' p r w nx L := by
  have fr : ∀ b, b < h.blks.length → b ≠ q → h'.blks[b]? = h.blks[b]? := fun b hb hne => m.old b hb hne
  obtain ⟨es, d, g⟩ := d
  refine ⟨es, ⟨(fr p d.cells.lt hp).trans d.cells, (fr r (lt_of_blk d.map) hr).trans d.map⟩, g.1, fun i e x he hx => ?_⟩
  obtain ⟨h1, h2, h3, h4⟩ := g.2 i e x he hx
  exact ⟨h1, h2, h3, h4.sb.other c c' hlv fr, h4.np, h4.nr, h4.no⟩
theorem both_take {h : Heap} {p r q w nx N : Nat} {lv : Value} {L RL : List Ent} (d : DK h p r w nx L) (rd : RD h q p r w nx lv RL) (ri : RI L RL) (wi : WI w nx L) (hw : 1 ≤ w) (hw2 : w ≤ 16) (hx : nx < 2 ^ 50) (hqp : q ≠ p) (hqr : q ≠ r) (num : Nat) (hn : num < 2 ^ 64) (st : List UInt8) (hs : st.length ≤ 50) (hN : N ≤ p ∧ N ≤ r ∧ N ≤ q) :
    ∃ on t rv h1 h2 outs nx' L' RL' lv', evC Try.prog 9 #[.pointer (some ⟨p, 0, none⟩), .int .u64 num, .slice (some ⟨h.blks.length, 0, none⟩) st.length UNK] (h.new (.cells (st.map byteV)) 5) = some (.tuple #[on, .bool t], h1) ∧
      evC Try.prog 13 #[.pointer (some ⟨q, 0, none⟩), .int .u64 num, strV st] h1 = some (.tuple #[rv, .bool t], h2) ∧ DK h2 p r w nx' L' ∧ RD h2 q p r w nx' lv' RL' ∧ RI L' RL' ∧ WI w nx' L' ∧ RS h2 on outs ∧ SSt h2 rv outs ∧ nx' ≤ nx + 16 ∧ outs.length ≤ 16 ∧
      h.blks.length ≤ h1.blks.length ∧ (∀ b, b < h.blks.length → b < N → h1.blks[b]? = h.blks[b]?) ∧ h.blks.length ≤ h2.blks.length ∧ (∀ b, b < h.blks.length → b < N → h2.blks[b]? = h.blks[b]?) := by
  have wl := wi.len
  have rl : RL.length = L.length := ri.1.length_eq
  have sm := Same.new h (.cells (st.map byteV)) 5
  obtain ⟨hp, hr⟩ := d.out
  have hq := rd.cells.lt
  rcases spec_TakeF (d.same sm) num hn (by omega) (by omega) (by omega) _ st (sbStr st h) (by omega) with ⟨a, b⟩ | ⟨a, b, c, outs, nx', L', on, h1, e1, e2, e3, e4, e5, e6⟩
  · have rd1 := rd.keep hqp hqr (Same.kp sm)
    rcases spec_RTake rd1 ri (Nat.lt_of_lt_of_le hp sm.1) (Nat.lt_of_lt_of_le hr sm.1) num hn (by omega) (by omega) (by omega) st with ⟨_, f⟩ | ⟨f1, f2, f3, _⟩
    · exact ⟨_, _, _, _, _, [], nx, L, RL, lv, b, f, d.same sm, rd1, ri, wi, ⟨[], .nil, rfl, fun i c b hc => by cases hc⟩, .nil, by omega, by simp, sm.1, fun b hb _ => sm.2 b hb, sm.1, fun b hb _ => sm.2 b hb⟩
    · exfalso
      rcases a with a | a | a
      · exact f1 a
      · omega
      · omega
  · have k1 : Kp p r h h1 := (Same.kp sm).trans e5.kp
    have rd1 := rd.keep hqp hqr k1
    rcases spec_RTake rd1 ri (Nat.lt_of_lt_of_le hp k1.len) (Nat.lt_of_lt_of_le hr k1.len) num hn (by omega) (by omega) (by omega) st with ⟨f, _⟩ | ⟨_, _, _, RL1, rv, lv', h2, r1, r2, r3, r4, r5⟩
    · exfalso
      rcases f with f | f | f
      · exact a f
      · omega
      · omega
    · have low : ∀ x ∈ L ++ [(num, st)], nx ≤ x.1 ∧ x.1 < nx + w := fun x hx => by
        rcases List.mem_append.1 hx with hx | hx
        · have := wi.ent x hx; omega
        · simp at hx; subst hx; exact ⟨b, c⟩
      obtain ⟨RL', g1, g2⟩ := dr_eq e1 RL1 r1 fun x hx => (low x hx).1
      obtain ⟨o1, o2, o3, o4⟩ := dr_win (w := w) e1 (nx + w) (Nat.le_refl _) r1.nd low
      rw [g1] at r3 r4
      simp only [List.length_append, List.length_cons, List.length_nil] at o3 o4
      obtain ⟨la, lc, hlv⟩ := Sl.shape rd.row
      have hlv' : ∃ a n c, lv = .slice a n c := ⟨la, _, lc, hlv⟩
      have fr : ∀ b, b < h1.blks.length → b ≠ q → h2.blks[b]? = h1.blks[b]? := fun b hb hne => r5.old b hb hne
      have rs : RS h2 on outs := by
        obtain ⟨cs, s1, s2, s3⟩ := e4
        have lq : q < (h.new (.cells (st.map byteV)) 5).blks.length := Nat.lt_of_lt_of_le hq sm.1
        exact ⟨cs, s1.keep fun b hb hv => fr b hb (by have := e6 b hv; omega), s2, fun i c b hc hb => (s3 i c b hc hb).other rd1.cells r3.cells hlv' fr⟩
      refine ⟨on, true, rv, h1, h2, outs, nx', L', RL', lv', e2, r2, e3.other rd1.cells r3.cells hlv' r5 (Ne.symm hqp) (Ne.symm hqr), r3, g2, o1, rs, r4, by omega, by omega, k1.len, fun b hb hbN => k1.old b hb (by omega) (by omega), Nat.le_trans k1.len r5.len, fun b hb hbN => ?_⟩
      rw [fr b (Nat.lt_of_lt_of_le hb k1.len) (by omega)]
      exact k1.old b hb (by omega) (by omega)
theorem lnStr (l : List UInt8) (h : Heap) : lenV Try.prog 9 (strV l) h = some (.int .i64 l.length) := by
  unfold lenV strV
  rw [uStr]
  rfl
theorem faDt0 (p o : Nat) : fieldAddrV Try.prog 40 (.pointer (some ⟨p, o, none⟩)) 0 = some (.pointer (some ⟨p, o, none⟩)) := by kernel_rfl
theorem faDt1 (p o : Nat) : fieldAddrV Try.prog 40 (.pointer (some ⟨p, o, none⟩)) 1 = some (.pointer (some ⟨p, o + 1, none⟩)) := by kernel_rfl
theorem bneqB (c : Bool) : binV Try.prog .neq 4 (.tmp 0) (.tmp 0) (.bool c) (.bool c) = some (.bool false) := by cases c <;> kernel_rfl
theorem undDt : Try.prog.underlying 36 = some (.slice 40) := by kernel_rfl
theorem nat_at {h : Heap} {v : Value} {ks : List Nat} (s : Row h 1 v ks.length (ks.map natV)) {i : Nat} (hi : i < ks.length) : ∃ a, indexAddrV Try.prog 32 v (.int .i64 i) = some (.pointer (some a)) ∧ loadV Try.prog 30 (.pointer (some a)) h = some (.int .u64 (ks[i] : Nat)) := by
  obtain ⟨a, e, l, _⟩ := Row.at1 (P := Try.prog) s etU.under etU.size (by kernel_rfl) (i := i) hi .i64
  rw [List.getElem?_map, List.getElem?_eq_getElem hi] at l
  exact ⟨a, e, l⟩
theorem cmp13_loop {β : Type} {Q : Option β → Prop} {k : Ex → St → Option β} {h : Heap} {p r q w nx : Nat} {lv hv dv pv iv : Value} {RL : List Ent} (rd : RD h q p r w nx lv RL) (rk : Row h 1 hv RL.length ((RL.map (·.1)).map natV)) (hl : RL.length < 1000) :
    ∀ (m j : Nat), RL.length - j = m → j ≤ RL.length → ∀ (x : Nat → Value), x 1 = dv → x 5 = pv → x 7 = .pointer (some ⟨q, 0, none⟩) → x 8 = iv → x 13 = hv → x 14 = .int .i64 j →
    (∀ x' : Nat → Value, x' 1 = dv → x' 5 = pv → x' 7 = .pointer (some ⟨q, 0, none⟩) → x' 8 = iv → Q (k .normal ⟨ar 146 x', h⟩)) →
    Q (lK c4_20 146 x h (blockK 2 k)) := by
  have l2 : h.load1 q 2 = some lv := rd.cells.load 2
  have lh : lenV Try.prog 32 hv h = some (.int .i64 RL.length) := rk.len_eq etU.under
  have rk' : Row h 1 hv (RL.map (·.1)).length ((RL.map (·.1)).map natV) := by rw [List.length_map]; exact rk
  intro m
  induction m with
  | zero =>
    intro j e1 e2 x Ab Af Ah Ai Ao Ap hk
    obtain rfl : j = RL.length := by omega
    rw [lK_eq]
    have e := fun x' => hk x'
    simp -implicitDefEqProofs (disch := omega) only [↓c4_20_eq,Ah,Ao,Ap, lh, dcF, ↓cnd_true, ↓cnd_false, ↓Option.bind_some, ↓obH_some', bin_add, bin_sub, bin_mul, bin_lss, bin_leq, bin_gtr, bin_geq, bin_eql, bin_neq, un_not, un_neg, Option.bind_some, Option.bind_none, Option.map_some, cnd_true, cnd_false, pickV_true, pickV_false, gd_true, gd_false, gdV_true, gdV_false, gdH_true, gdH_false, gdS_true, gdS_false, wt_ff, wt_tt, wt_ft, wt_tf, wt_undef, obH_some', extractV_tuple, nilCheckV_ptr, againK_normal, againK_exit, againK_ret, blockK_normal, blockK_same, blockK_ret, seqK_normal, seqK_exit, seqK_ret, fin_done, if_true', if_false', Bool.not_true, Bool.not_false, idx0, idx1, idx2, idx3, idx4, chk_nil_l, chk_nil_r, done_nm, up_cons, up_nil, cond_true, cond_false, Nat.reduceBEq]
    exact e _ Ab Af Ah Ai
  | succ m ih =>
    intro j e1 e2 x Ab Af Ah Ai Ao Ap hk
    have hj : j < RL.length := by omega
    obtain ⟨b, o, _, _, ia, rr⟩ := rd.row.at' (t := 44) (el := 48) (by kernel_rfl) (by kernel_rfl) hj
    obtain ⟨r1, _⟩ := rr h rfl
    unfold natV at r1
    obtain ⟨a, i1, d1⟩ := nat_at rk' (i := j) (by simpa using hj)
    rw [List.getElem_map] at d1
    have w1 : IntKind.i64.wrap ((j : Int) + 1) = ((j + 1 : Nat) : Int) := by rw [wrap_i64] <;> omega
    have da : decide (((RL[j].1 : Nat) : Int) ≠ RL[j].1) = false := by simp
    rw [lK_eq]
    simp -implicitDefEqProofs (disch := omega) only [↓c4_20_eq,Ah,Ao,Ap, lh, i1, d1, fa92, ldIs, l2, ia, faI0, ld64, r1, w1, da, dcT, ↓cnd_true, ↓cnd_false, ↓Option.bind_some, ↓obH_some', bin_add, bin_sub, bin_mul, bin_lss, bin_leq, bin_gtr, bin_geq, bin_eql, bin_neq, un_not, un_neg, Option.bind_some, Option.bind_none, Option.map_some, cnd_true, cnd_false, pickV_true, pickV_false, gd_true, gd_false, gdV_true, gdV_false, gdH_true, gdH_false, gdS_true, gdS_false, wt_ff, wt_tt, wt_ft, wt_tf, wt_undef, obH_some', extractV_tuple, nilCheckV_ptr, againK_normal, againK_exit, againK_ret, blockK_normal, blockK_same, blockK_ret, seqK_normal, seqK_exit, seqK_ret, fin_done, if_true', if_false', Bool.not_true, Bool.not_false, idx0, idx1, idx2, idx3, idx4, chk_nil_l, chk_nil_r, done_nm, up_cons, up_nil, cond_true, cond_false, Nat.reduceBEq]
    refine ih (j + 1) (by omega) (by omega) _ ?_ ?_ ?_ ?_ ?_ ?_ hk
    · exact Ab
    · exact Af
    · exact Ah
    · exact Ai
    · exact Ao
    · rfl
theorem look16 {β : Type} {Q : Option β → Prop} {k : Ex → St → Option β} {h : Heap} {p q nx n : Nat} {on rv v dv iv lv : Value} {t : Bool} (e4 : evC Try.prog 11 #[on, rv] h = some (.bool true, h)) (ex : evC Try.prog 14 #[.pointer (some ⟨p, 0, none⟩)] (nm h) = some (.int .u64 (nx : Nat), nm h))
    (m1 : h.load1 q 1 = some (.int .u64 nx)) (m2 : h.load1 q 2 = some lv) (ll : lenV Try.prog 44 lv h = some (.int .i64 n)) (lh : lenV Try.prog 32 v h = some (.int .i64 n)) (y : Nat → Value)
    (y1 : y 1 = dv) (y5 : y 5 = .pointer (some ⟨p, 0, none⟩)) (y7 : y 7 = .pointer (some ⟨q, 0, none⟩)) (y8 : y 8 = iv) (y9 : y 9 = on) (y10 : y 10 = .bool t) (y11 : y 11 = rv) (y12 : y 12 = .bool t) (y13 : y 13 = v)
    (hk : ∀ y' : Nat → Value, y' 1 = dv → y' 5 = .pointer (some ⟨p, 0, none⟩) → y' 7 = .pointer (some ⟨q, 0, none⟩) → y' 8 = iv → y' 13 = v → Q (k .normal ⟨ar 146 y', h⟩)) : Q (cK c4_16 146 y h k) := by
  have bq := bneqB t
  have dn : decide ((nx : Int) ≠ nx) = false := by simp
  have dl : decide ((n : Int) ≠ n) = false := by simp
  have mn : (nm h).mods = [] := rfl
  have e := fun y' => hk y'
  simp -implicitDefEqProofs (disch := omega) only [↓c4_16_eq, ↓c4_18_eq, ↓c4_19_eq, ↓d4_0_0, ↓d4_0_1, ↓d4_0_2, ↓d4_0_3, ↓d4_0_4, ↓d4_0_5, ↓d4_0_6, ↓d4_0_7, ↓d4_0_8, ↓d4_0_9, ↓d4_0_10, ↓d4_0_11, ↓d4_0_12, ↓d4_0_13, ↓d4_0_14, ↓d4_0_15, ↓d4_0_16, ↓d4_0_17, ↓d4_0_18, ↓d4_0_19, ↓d4_0_20, ↓d4_0_21, ↓d4_0_22, ↓d4_0_23, ↓d4_0_24, ↓d4_0_25, ↓d4_0_26, ↓d4_0_27, ↓d4_0_28, y5, y7, y9, y10, y11, y12, y13, e4, ex, am_nm, mn, List.nil_append, List.append_nil, fa91, fa92, ld64, ldIs, m1, m2, ll, lh, bq, dn, dl, ↓cnd_true, ↓cnd_false, ↓Option.bind_some, ↓obH_some', bin_add, bin_sub, bin_mul, bin_lss, bin_leq, bin_gtr, bin_geq, bin_eql, bin_neq, un_not, un_neg, Option.bind_some, Option.bind_none, Option.map_some, cnd_true, cnd_false, pickV_true, pickV_false, gd_true, gd_false, gdV_true, gdV_false, gdH_true, gdH_false, gdS_true, gdS_false, wt_ff, wt_tt, wt_ft, wt_tf, wt_undef, obH_some', extractV_tuple, nilCheckV_ptr, againK_normal, againK_exit, againK_ret, blockK_normal, blockK_same, blockK_ret, seqK_normal, seqK_exit, seqK_ret, fin_done, if_true', if_false', Bool.not_true, Bool.not_false, idx0, idx1, idx2, idx3, idx4, chk_nil_l, chk_nil_r, done_nm, up_cons, up_nil, cond_true, cond_false, Nat.reduceBEq]
  exact e _ y1 y5 y7 y8 y13
set_option maxHeartbeats 4000000 in
theorem plays_loop {h0 : Heap} {p r q w N : Nat} {dv : Value} {ds : List Ent} (hl : ds.length ≤ 100) (hn : ∀ e ∈ ds, e.1 < 2 ^ 64) (hw : 1 ≤ w) (hw2 : w ≤ 16) (lo : Lo dv N) (hN : N ≤ p ∧ N ≤ r ∧ N ≤ q) (hqp : q ≠ p) (hqr : q ≠ r) :
    ∀ (m i : Nat), ds.length - i = m → i ≤ ds.length → ∀ (x : Nat → Value) (h : Heap) (nx : Nat) (lv : Value) (L RL : List Ent), DK h p r w nx L → RD h q p r w nx lv RL → RI L RL → WI w nx L → nx ≤ 1 + 16 * i → Sl Try.prog h 2 dv ds.length (itL ds) →
    x 1 = dv → x 5 = .pointer (some ⟨p, 0, none⟩) → x 7 = .pointer (some ⟨q, 0, none⟩) → x 8 = .int .i64 i →
    ∃ h', lK c4_1 146 x h (blockK 0 (sK c4_2 (retK Try.f4 Try.prog h0))) = some (.bool true, h') := by
  intro m
  induction m with
  | zero =>
    intro i e1 e2 x h nx lv L RL dk rd ri wi hx sd Ab Af Ah Ai
    obtain rfl : i = ds.length := by omega
    have ld : lenV Try.prog 36 dv h = some (.int .i64 ds.length) := sd.row.len_eq undDt
    rw [lK_eq]
    simp -implicitDefEqProofs (disch := omega) only [↓c4_1_eq, ↓c4_2_eq, ↓c4_3_eq,Ab,Ai, ld, dcF, ↓ret4, ↓cnd_true, ↓cnd_false, ↓Option.bind_some, ↓obH_some', bin_add, bin_sub, bin_mul, bin_lss, bin_leq, bin_gtr, bin_geq, bin_eql, bin_neq, un_not, un_neg, Option.bind_some, Option.bind_none, Option.map_some, cnd_true, cnd_false, pickV_true, pickV_false, gd_true, gd_false, gdV_true, gdV_false, gdH_true, gdH_false, gdS_true, gdS_false, wt_ff, wt_tt, wt_ft, wt_tf, wt_undef, obH_some', extractV_tuple, nilCheckV_ptr, againK_normal, againK_exit, againK_ret, blockK_normal, blockK_same, blockK_ret, seqK_normal, seqK_exit, seqK_ret, fin_done, if_true', if_false', Bool.not_true, Bool.not_false, idx0, idx1, idx2, idx3, idx4, chk_nil_l, chk_nil_r, done_nm, up_cons, up_nil, cond_true, cond_false, Nat.reduceBEq]
    exact ⟨_, rfl⟩
  | succ m ih =>
    intro i e1 e2 x h nx lv L RL dk rd ri wi hx sd Ab Af Ah Ai
    have hi : i < ds.length := by omega
    have ld : ∀ {h}, Sl Try.prog h 2 dv ds.length (itL ds) → lenV Try.prog 36 dv h = some (.int .i64 ds.length) := fun s => s.row.len_eq undDt
    have ld1 := ld sd
    have gi : (i : Int) < ds.length := by omega
    obtain ⟨b, o, hb, hbl, ia, rr⟩ := SI.at' (l := ds) sd undDt (by kernel_rfl) hi
    obtain ⟨r1, r2⟩ := rr h rfl
    have hbN : b < N := lo b hb
    generalize hst : ds[i].2 = st at r2
    have hnum := hn _ (List.getElem_mem hi)
    generalize hnu : ds[i].1 = num at r1 hnum
    have w1 : IntKind.i64.wrap ((i : Int) + 1) = ((i + 1 : Nat) : Int) := by rw [wrap_i64] <;> omega
    rw [lK_eq]
    by_cases g : st.length > 50
    · have g' : (st.length : Int) > 50 := by omega
      simp -implicitDefEqProofs (disch := omega) only [↓c4_1_eq, ↓c4_3_eq, ↓c4_4_eq, ↓c4_5_eq, ↓c4_7_eq, ↓c4_8_eq,Ab,Ai, ld1, gi, ia, faDt1, ldS9, r2, lnStr, g', dcT, decide_true, ↓ret4, ↓cnd_true, ↓cnd_false, ↓Option.bind_some, ↓obH_some', bin_add, bin_sub, bin_mul, bin_lss, bin_leq, bin_gtr, bin_geq, bin_eql, bin_neq, un_not, un_neg, Option.bind_some, Option.bind_none, Option.map_some, cnd_true, cnd_false, pickV_true, pickV_false, gd_true, gd_false, gdV_true, gdV_false, gdH_true, gdH_false, gdS_true, gdS_false, wt_ff, wt_tt, wt_ft, wt_tf, wt_undef, obH_some', extractV_tuple, nilCheckV_ptr, againK_normal, againK_exit, againK_ret, blockK_normal, blockK_same, blockK_ret, seqK_normal, seqK_exit, seqK_ret, fin_done, if_true', if_false', Bool.not_true, Bool.not_false, idx0, idx1, idx2, idx3, idx4, chk_nil_l, chk_nil_r, done_nm, up_cons, up_nil, cond_true, cond_false, Nat.reduceBEq]
      exact ⟨_, rfl⟩
    · have g' : ¬ (st.length : Int) > 50 := by omega
      obtain ⟨on, t, rv, h1, h2, outs, nx', L', RL', lv', t1, t2, d2, rd2, ri2, wi2, rs2, ss2, hnx, ho, l1, k1, l2, k2⟩ := both_take dk rd ri wi hw hw2 (by omega) hqp hqr num hnum st (by omega) hN
      obtain ⟨r3, r4⟩ := rr h1 (k1 b hbl hbN)
      have r3' := r3
      have r1' := r1
      rw [hnu] at r3
      rw [hst] at r4
      unfold natV at r1 r3
      have wl := wi2.len
      obtain ⟨v, h3, he,Ad, rv3⟩ := spec_Held d2 wi2.nd (by omega)
      have d3 := d2.same Ad.same
      have rd3 : RD h3 q p r w nx' lv' RL' := ⟨rd2.cells.ext Ad, rd2.row.ext Ad, rd2.nq, rd2.np, rd2.nr⟩
      have rs3 := rs2.same Ad.same
      have ss3 : SSt h3 rv outs := Row.keep (h := h2) ss2 fun b hb _ => Ad.old b hb
      have sd3 : Sl Try.prog h3 2 dv ds.length (itL ds) := sd.keep fun b hb hv => (Ad.old b (Nat.lt_of_lt_of_le hb l2)).trans (k2 b hb (lo b hv))
      have e4 := spec_rows_eq rs3 ss3 (by omega)
      have ex : evC Try.prog 14 #[.pointer (some ⟨p, 0, none⟩)] (nm h3) = some (.int .u64 (nx' : Nat), nm h3) := by obtain ⟨es, d, _⟩ := d3; exact spec_Next d.nm
      have m1 : h3.load1 q 1 = some (.int .u64 nx') := rd3.cells.load 1
      have m2 : h3.load1 q 2 = some lv' := rd3.cells.load 2
      have ll := rd3.len
      have rl : RL'.length = L'.length := ri2.1.length_eq
      rw [ri2.keys, ← rl] at rv3
      have lh : lenV Try.prog 32 v h3 = some (.int .i64 RL'.length) := rv3.len_eq etU.under
      have bq := bneqB t
      have dn : decide ((nx' : Int) ≠ nx') = false := by simp
      have dl : decide ((RL'.length : Int) ≠ RL'.length) = false := by simp
      have mn : (nm h3).mods = [] := rfl
      simp -implicitDefEqProofs (disch := omega) only [↓c4_1_eq, ↓c4_3_eq, ↓c4_4_eq, ↓c4_5_eq, ↓c4_7_eq, ↓c4_8_eq, ↓c4_9_eq, ↓c4_10_eq, ↓c4_11_eq, ↓c4_12_eq, ↓c4_13_eq, ↓c4_14_eq, ↓c4_15_eq,Ab,Af,Ah,Ai, ld1, gi, ia, faDt0, faDt1, ldS9, ld64, r1, r2, r3, r4, lnStr, g', cvStrB, t1, t2, he, dcT, dcF, decide_true, decide_false, ↓cnd_true, ↓cnd_false, ↓Option.bind_some, ↓obH_some', bin_add, bin_sub, bin_mul, bin_lss, bin_leq, bin_gtr, bin_geq, bin_eql, bin_neq, un_not, un_neg, Option.bind_some, Option.bind_none, Option.map_some, cnd_true, cnd_false, pickV_true, pickV_false, gd_true, gd_false, gdV_true, gdV_false, gdH_true, gdH_false, gdS_true, gdS_false, wt_ff, wt_tt, wt_ft, wt_tf, wt_undef, obH_some', extractV_tuple, nilCheckV_ptr, againK_normal, againK_exit, againK_ret, blockK_normal, blockK_same, blockK_ret, seqK_normal, seqK_exit, seqK_ret, fin_done, if_true', if_false', Bool.not_true, Bool.not_false, idx0, idx1, idx2, idx3, idx4, chk_nil_l, chk_nil_r, done_nm, up_cons, up_nil, cond_true, cond_false, Nat.reduceBEq]
      refine look16 (Q := fun o => ∃ h', o = some (Value.bool true, h')) (t := t) e4 ex m1 m2 ll lh _ Ab Af Ah Ai rfl rfl rfl rfl rfl ?_
      intro y y1 y5 y7 y8 y13
      simp -implicitDefEqProofs (disch := omega) only [↓c4_17_eq, ↓cnd_true, ↓cnd_false, ↓Option.bind_some, ↓obH_some', bin_add, bin_sub, bin_mul, bin_lss, bin_leq, bin_gtr, bin_geq, bin_eql, bin_neq, un_not, un_neg, Option.bind_some, Option.bind_none, Option.map_some, cnd_true, cnd_false, pickV_true, pickV_false, gd_true, gd_false, gdV_true, gdV_false, gdH_true, gdH_false, gdS_true, gdS_false, wt_ff, wt_tt, wt_ft, wt_tf, wt_undef, obH_some', extractV_tuple, nilCheckV_ptr, againK_normal, againK_exit, againK_ret, blockK_normal, blockK_same, blockK_ret, seqK_normal, seqK_exit, seqK_ret, fin_done, if_true', if_false', Bool.not_true, Bool.not_false, idx0, idx1, idx2, idx3, idx4, chk_nil_l, chk_nil_r, done_nm, up_cons, up_nil, cond_true, cond_false, Nat.reduceBEq]
      refine cmp13_loop (Q := fun o => ∃ h', o = some (Value.bool true, h')) rd3 rv3 (by omega) RL'.length 0 (by omega) (by omega) _ y1 y5 y7 y8 y13 rfl ?_
      intro z z1 z5 z7 z8
      simp -implicitDefEqProofs (disch := omega) only [↓c4_6_eq, z8, w1, ↓cnd_true, ↓cnd_false, ↓Option.bind_some, ↓obH_some', bin_add, bin_sub, bin_mul, bin_lss, bin_leq, bin_gtr, bin_geq, bin_eql, bin_neq, un_not, un_neg, Option.bind_some, Option.bind_none, Option.map_some, cnd_true, cnd_false, pickV_true, pickV_false, gd_true, gd_false, gdV_true, gdV_false, gdH_true, gdH_false, gdS_true, gdS_false, wt_ff, wt_tt, wt_ft, wt_tf, wt_undef, obH_some', extractV_tuple, nilCheckV_ptr, againK_normal, againK_exit, againK_ret, blockK_normal, blockK_same, blockK_ret, seqK_normal, seqK_exit, seqK_ret, fin_done, if_true', if_false', Bool.not_true, Bool.not_false, idx0, idx1, idx2, idx3, idx4, chk_nil_l, chk_nil_r, done_nm, up_cons, up_nil, cond_true, cond_false, Nat.reduceBEq]
      refine ih (i + 1) (by omega) (by omega) _ h3 nx' lv' L' RL' d3 rd3 ri2 wi2 (by omega) sd3 ?_ ?_ ?_ ?_
      · exact z1
      · exact z5
      · exact z7
      · rfl
end Go.Am
namespace Go.Am
open Go.Proofs
set_option maxRecDepth 100000
set_option linter.all false
attribute [local congr] obind_congr obH_congr cnd_congr chk_congr retK_congr codeK_congr
theorem spec_DNewBad (h : Heap) (w : Int) (hw : w < 1 ∨ w > 16) : evC Try.prog 8 #[.int .i64 w] h = some (.tuple #[.pointer none, .int .i64 1], h) := by
  rw [call8, c8_0_eq]
  by_cases g : w < 1
  · simp -implicitDefEqProofs (disch := omega) only [dcT, dcF, ↓ret8, ↓cnd_true, ↓cnd_false, ↓Option.bind_some, ↓obH_some', bin_add, bin_sub, bin_mul, bin_lss, bin_leq, bin_gtr, bin_geq, bin_eql, bin_neq, un_not, un_neg, Option.bind_some, Option.bind_none, Option.map_some, cnd_true, cnd_false, pickV_true, pickV_false, gd_true, gd_false, gdV_true, gdV_false, gdH_true, gdH_false, gdS_true, gdS_false, wt_ff, wt_tt, wt_ft, wt_tf, wt_undef, obH_some', extractV_tuple, nilCheckV_ptr, againK_normal, againK_exit, againK_ret, blockK_normal, blockK_same, blockK_ret, seqK_normal, seqK_exit, seqK_ret, fin_done, if_true', if_false', Bool.not_true, Bool.not_false, idx0, idx1, idx2, idx3, idx4, chk_nil_l, chk_nil_r, done_nm]
  · simp -implicitDefEqProofs (disch := omega) only [dcT, dcF, ↓ret8, ↓cnd_true, ↓cnd_false, ↓Option.bind_some, ↓obH_some', bin_add, bin_sub, bin_mul, bin_lss, bin_leq, bin_gtr, bin_geq, bin_eql, bin_neq, un_not, un_neg, Option.bind_some, Option.bind_none, Option.map_some, cnd_true, cnd_false, pickV_true, pickV_false, gd_true, gd_false, gdV_true, gdV_false, gdH_true, gdH_false, gdS_true, gdS_false, wt_ff, wt_tt, wt_ft, wt_tf, wt_undef, obH_some', extractV_tuple, nilCheckV_ptr, againK_normal, againK_exit, againK_ret, blockK_normal, blockK_same, blockK_ret, seqK_normal, seqK_exit, seqK_ret, fin_done, if_true', if_false', Bool.not_true, Bool.not_false, idx0, idx1, idx2, idx3, idx4, chk_nil_l, chk_nil_r, done_nm]
theorem nilDD : binV Try.prog .eql 23 (.tmp 0) (.tmp 0) (.pointer none) (.pointer none) = some (.bool true) := by kernel_rfl
theorem nilDN (p : Nat) : binV Try.prog .neq 23 (.tmp 0) (.tmp 0) (.pointer (some ⟨p, 0, none⟩)) (.pointer none) = some (.bool true) := by kernel_rfl
theorem reads_data {h : Heap} {f : Nat} {cs : List Value} {d : DT} (x : Reads Try.prog h f 40 cs d) : ∃ e : Ent, cs = [natV e.1, strV e.2] ∧ e.1 < 2 ^ 64 := by
  obtain ⟨g, l, rfl, hlen, ha⟩ := reads_struct Try.underlying40 x
  rw [show Try.prog.cellsOf 40 = 2 by kernel_rfl] at hlen
  obtain ⟨c0, c1, rfl⟩ : ∃ c0 c1, cs = [c0, c1] := by
    match cs, hlen with
    | [a, b], _ => exact ⟨a, b, rfl⟩
  have h0 : Try.prog.cellsOf 30 = 1 := by kernel_rfl
  have h1 : Try.prog.cellsOf 9 = 1 := by kernel_rfl
  cases ha with
  | cons a0 ha => cases ha with
    | cons a1 ha =>
      cases ha
      simp only [h0, h1] at a0 a1
      obtain ⟨z, _, z2, z3⟩ := reads_int (k := .u64) (by kernel_rfl) a0
      obtain ⟨s, _, s2, _⟩ := reads_str uStr a1
      simp only [List.drop_zero, List.drop_succ_cons, List.take_succ_cons, List.take_zero, List.cons.injEq, and_true] at z2 s2
      subst z2 s2
      have hz := wf_nat rfl z3
      simp only [IntKind.bits] at hz
      refine ⟨(z.toNat, s), ?_, by show z.toNat < 2 ^ 64; omega⟩
      unfold natV
      simp only
      rw [Int.toNat_of_nonneg hz.1]
theorem reads_datas {h : Heap} {f : Nat} : ∀ {css : List (List Value)} {l : List DT}, All2 (fun c d => c.length = Try.prog.cellsOf 40 ∧ Reads Try.prog h f 40 c d) css l → ∃ es : List Ent, css.flatten = itL es ∧ es.length = l.length ∧ ∀ e ∈ es, e.1 < 2 ^ 64
  | _, _, .nil => ⟨[], rfl, rfl, by simp⟩
  | _, _, .cons x q => by
    obtain ⟨es, e, hl, a⟩ := reads_datas q
    obtain ⟨p, rfl, hp⟩ := reads_data x.2
    refine ⟨p :: es, by simp [e, itL], by simp [hl], fun y hy => ?_⟩
    rcases List.mem_cons.1 hy with rfl | hy
    · exact hp
    · exact a y hy
theorem Rd.datas {h : Heap} {v : Value} {d : DT} (r : Rd Try.prog h 36 v d) : ∃ es : List Ent,Sl Try.prog h 2 v es.length (itL es) ∧ Lo v h.blks.length ∧ ∀ e ∈ es, e.1 < 2 ^ 64 := by
  obtain ⟨f, l, css, rfl, h1, h2, h3⟩ := r.slice (e := 40) (by kernel_rfl)
  obtain ⟨es, e, hl, a⟩ := reads_datas h2
  rw [show Try.prog.cellsOf 40 = 2 by kernel_rfl, e, ← hl] at h1
  exact ⟨es, h1, h1.lo, a⟩
theorem mlaw_DockPlays {h : Heap} {w : Int} {dv : Value} {ds : List Ent} (sd : Sl Try.prog h 2 dv ds.length (itL ds)) (lo : Lo dv h.blks.length) (hn : ∀ e ∈ ds, e.1 < 2 ^ 64) : ∃ h', evC Try.prog 4 #[.int .i64 w, dv] h = some (.bool true, h') := by
  rw [call4]
  obtain ⟨h1, e1,Ab⟩ := spec_awakeX (nm h)
  have xx : (nm h).blks.length = h.blks.length := rfl
  have hh := Ab.len
  have s1 : Sl Try.prog h1 2 dv ds.length (itL ds) := sd.keep fun b hb _ => Ab.old b hb
  by_cases g1 : w < 1
  · have e2 := spec_DNewBad h1 w (.inl g1)
    simp -implicitDefEqProofs (disch := omega) only [↓c4_0_eq, e1, e2, g1, nilDD, eq_self, dcT, dcF, decide_true, ↓ret4, ↓cnd_true, ↓cnd_false, ↓Option.bind_some, ↓obH_some', bin_add, bin_sub, bin_mul, bin_lss, bin_leq, bin_gtr, bin_geq, bin_eql, bin_neq, un_not, un_neg, Option.bind_some, Option.bind_none, Option.map_some, cnd_true, cnd_false, pickV_true, pickV_false, gd_true, gd_false, gdV_true, gdV_false, gdH_true, gdH_false, gdS_true, gdS_false, wt_ff, wt_tt, wt_ft, wt_tf, wt_undef, obH_some', extractV_tuple, nilCheckV_ptr, againK_normal, againK_exit, againK_ret, blockK_normal, blockK_same, blockK_ret, seqK_normal, seqK_exit, seqK_ret, fin_done, if_true', if_false', Bool.not_true, Bool.not_false, idx0, idx1, idx2, idx3, idx4, chk_nil_l, chk_nil_r, done_nm, up_cons, up_nil, cond_true, cond_false, Nat.reduceBEq]
    exact ⟨_, rfl⟩
  by_cases g2 : w > 16
  · have e2 := spec_DNewBad h1 w (.inr g2)
    simp -implicitDefEqProofs (disch := omega) only [↓c4_0_eq, e1, e2, g1, g2, nilDD, eq_self, dcT, dcF, decide_true, decide_false, ↓ret4, ↓cnd_true, ↓cnd_false, ↓Option.bind_some, ↓obH_some', bin_add, bin_sub, bin_mul, bin_lss, bin_leq, bin_gtr, bin_geq, bin_eql, bin_neq, un_not, un_neg, Option.bind_some, Option.bind_none, Option.map_some, cnd_true, cnd_false, pickV_true, pickV_false, gd_true, gd_false, gdV_true, gdV_false, gdH_true, gdH_false, gdS_true, gdS_false, wt_ff, wt_tt, wt_ft, wt_tf, wt_undef, obH_some', extractV_tuple, nilCheckV_ptr, againK_normal, againK_exit, againK_ret, blockK_normal, blockK_same, blockK_ret, seqK_normal, seqK_exit, seqK_ret, fin_done, if_true', if_false', Bool.not_true, Bool.not_false, idx0, idx1, idx2, idx3, idx4, chk_nil_l, chk_nil_r, done_nm, up_cons, up_nil, cond_true, cond_false, Nat.reduceBEq]
    exact ⟨_, rfl⟩
  obtain ⟨p, r, h2, e2,Ac, d2, hp, hr⟩ := spec_DNew2 h1 w (by omega) (by omega)
  obtain ⟨m, rfl⟩ : ∃ m : Nat, w = m := ⟨w.toNat, by omega⟩
  rw [Int.toNat_natCast] at d2
  have s2 : Sl Try.prog h2 2 dv ds.length (itL ds) := s1.keep fun b hb _ => Ac.old b hb
  have ld : lenV Try.prog 36 dv h2 = some (.int .i64 ds.length) := s2.row.len_eq undDt
  by_cases g3 : (ds.length : Int) > 100
  · simp -implicitDefEqProofs (disch := omega) only [↓c4_0_eq, e1, e2, ld, g1, g2, g3, nilD, nilDN, eq_self, dcT, dcF, decide_true, decide_false, ↓ret4, ↓cnd_true, ↓cnd_false, ↓Option.bind_some, ↓obH_some', bin_add, bin_sub, bin_mul, bin_lss, bin_leq, bin_gtr, bin_geq, bin_eql, bin_neq, un_not, un_neg, Option.bind_some, Option.bind_none, Option.map_some, cnd_true, cnd_false, pickV_true, pickV_false, gd_true, gd_false, gdV_true, gdV_false, gdH_true, gdH_false, gdS_true, gdS_false, wt_ff, wt_tt, wt_ft, wt_tf, wt_undef, obH_some', extractV_tuple, nilCheckV_ptr, againK_normal, againK_exit, againK_ret, blockK_normal, blockK_same, blockK_ret, seqK_normal, seqK_exit, seqK_ret, fin_done, if_true', if_false', Bool.not_true, Bool.not_false, idx0, idx1, idx2, idx3, idx4, chk_nil_l, chk_nil_r, done_nm, up_cons, up_nil, cond_true, cond_false, Nat.reduceBEq]
    exact ⟨_, rfl⟩
  · obtain ⟨q, h3, e3,Ad, rd, hq⟩ := spec_RNew h2 m p r
    have s3 : Sl Try.prog h3 2 dv ds.length (itL ds) := s2.keep fun b hb _ => Ad.old b hb
    obtain ⟨op, or⟩ := d2.out
    have h12 := Ac.len
    have key := plays_loop (h0 := h) (p := p) (r := r) (q := q) (w := m) (N := h.blks.length) (dv := dv) (ds := ds) (by omega) hn (by omega) (by omega) lo ⟨by omega, by omega, by omega⟩ (by omega) (by omega) ds.length 0 (by omega) (by omega)
    simp -implicitDefEqProofs (disch := omega) only [↓c4_0_eq, e1, e2, e3, ld, g1, g2, g3, nilD, nilDN, eq_self, dcT, dcF, decide_true, decide_false, ↓cnd_true, ↓cnd_false, ↓Option.bind_some, ↓obH_some', bin_add, bin_sub, bin_mul, bin_lss, bin_leq, bin_gtr, bin_geq, bin_eql, bin_neq, un_not, un_neg, Option.bind_some, Option.bind_none, Option.map_some, cnd_true, cnd_false, pickV_true, pickV_false, gd_true, gd_false, gdV_true, gdV_false, gdH_true, gdH_false, gdS_true, gdS_false, wt_ff, wt_tt, wt_ft, wt_tf, wt_undef, obH_some', extractV_tuple, nilCheckV_ptr, againK_normal, againK_exit, againK_ret, blockK_normal, blockK_same, blockK_ret, seqK_normal, seqK_exit, seqK_ret, fin_done, if_true', if_false', Bool.not_true, Bool.not_false, idx0, idx1, idx2, idx3, idx4, chk_nil_l, chk_nil_r, done_nm, up_cons, up_nil, cond_true, cond_false, Nat.reduceBEq]
    refine key _ h3 1 (.slice none 0 0) [] [] (d2.same Ad.same) rd ⟨.refl _, .nil⟩ ⟨by simp, fun q hq => by cases hq⟩ (by omega) s3 ?_ ?_ ?_ ?_ <;> rfl
theorem law_DockPlays (h : Heap) (vs : List Value) (dd : List DT) (r : RdAll Try.prog h [3, 36] vs dd) : ∃ h', evC Try.prog 4 vs.toArray h = some (.bool true, h') := by
  obtain ⟨v, d, vs', ds', rfl, rfl, r0, r1⟩ := r.cons_inv
  obtain ⟨v1, d1, vs', ds', rfl, rfl, ra, r2⟩ := r1.cons_inv
  obtain ⟨rfl, rfl⟩ := r2.nil_inv
  obtain ⟨w, rfl, _⟩ := r0.i64 (by kernel_rfl)
  obtain ⟨es, s1, s2, s3⟩ := ra.datas
  exact mlaw_DockPlays s1 s2 s3
end Go.Am
set_option linter.unusedVariables false
set_option linter.unusedSimpArgs false
namespace Go.Proofs
open Go.RowKit Go.Maps Go.Shelf
abbrev kU : Int → Value := Value.int .u64
abbrev lU : Int → Lit := Lit.int .u64
def Came {H : Type} (D : DataW H) (left : Lit → Bool) (ss : List Int) : Prop := ss.Nodup ∧ ∀ x, x ∈ ss ↔ has D (lU x) = true ∧ left (lU x) = false
theorem Came.start {H : Type} (D : DataW H) : Came D (has D) [] := ⟨List.nodup_nil, fun x => by
  constructor
  · intro h; cases h
  · rintro ⟨h1, h2⟩; rw [h1] at h2; cases h2⟩
theorem Came.step {H : Type} {D : DataW H} {left : Lit → Bool} {ss : List Int} (c : Came D left ss) {x : Int} {y : DataW H} (hl : left (lU x) = true) (ha : ∀ zd, D.atKey (lU x) zd = y) :
    Came D (fun z => left z && !z.sameKey (lU x)) (ss ++ [x]) := by
  have hx : has D (lU x) = true := by
    cases hh : has D (lU x)
    · have h1 := (atKey_of_not_has hh .nil).symm.trans (ha _)
      have h2 := (atKey_of_not_has hh (.map [])).symm.trans (ha _)
      rw [← h1] at h2; cases h2
    · rfl
  have hn : x ∉ ss := fun h => by have := ((c.2 x).1 h).2; rw [hl] at this; cases this
  refine ⟨List.nodup_append.2 ⟨c.1, by simp, fun a ha b hb e => hn (by rw [List.mem_singleton] at hb; rw [← hb, ← e]; exact ha)⟩, fun z => ?_⟩
  rw [List.mem_append, List.mem_singleton, c.2 z]
  by_cases e : z = x
  · subst e
    have : Lit.sameKey (lU z) (lU z) = true := by simp [Lit.sameKey]
    simp [hx, this]
  · have : Lit.sameKey (lU z) (lU x) = false := sameKey_ne (fun h => e (by injection h))
    simp [e, this]
theorem Came.all {H : Type} {D : DataW H} {left : Lit → Bool} {ss : List Int} (c : Came D left ss) (hl : ∀ kl, left kl = false) : ss.Nodup ∧ ∀ x, x ∈ ss ↔ has D (lU x) = true :=
  ⟨c.1, fun x => by rw [c.2 x, hl]; simp⟩
abbrev fK : Nat := 17
abbrev fK1 : Nat := 20
theorem kU_under : Try.prog.underlying 30 = some (.int .u64) := by kernel_rfl
theorem mU_under : Try.prog.underlying 53 = some (.map 30 31) := by kernel_rfl
theorem kU_keyed : Keyed Try.prog 30 := int_keyed kU_under
set_option maxHeartbeats 1000000 in
theorem keys_in (F : Fence) (n : Nat) (h7 : F.fn fK) (hro : F.round = none) (mb : Option Nat) (w : World) :
    CallsIn F n Try.prog fK #[.map mb] w fun e w' => e = .returned (.func (.func fK1) #[] #[.pointer (some ⟨w.heap.size, 0, none⟩)]) ∧ w' = w.alloc (.cells #[.map mb] 53) := by
  refine callsIn_of_wp Try.func17 rfl h7 ?_ hro
  simp only [Try.ntmps17, List.size_toArray, List.length_cons, List.length_nil, Nat.reduceAdd, Nat.reduceSub, Array.replicate_succ, Array.replicate_zero, List.push_toArray, List.append_toArray, List.nil_append, List.cons_append]
  gi_wp2
  go_ret
  exact ⟨rfl, rfl⟩
set_option maxRecDepth 100000 in
set_option maxHeartbeats 1000000 in
theorem keys1S_in {H : Type} {R : Value → Option (DataW H × List MemPlace)} (F : Fence) (n : Nat) (h10 : F.fn fK1) (hro : F.round = none) (hn : 1 ≤ n) (l Bm b nn : Nat) (D0 : DataW H) (J Jx : List Int → World → Prop)
    (hY : ∀ pre x W, J pre W → pre.length < Maps.size D0 → YieldAt F (n - 1) Try.prog l #[kU x] W fun e W' =>
      (e = .returned (.bool true) ∧ J (pre ++ [x]) W' ∧ KeepsWalks W W') ∨ (e = .returned (.bool false) ∧ Jx (pre ++ [x]) W'))
    (W : World) (hJ : AbidesFrom W.heap.size J) (hm : W.cell? ⟨Bm, 0, none⟩ = some (.map (some b))) (hown : W.ownsMap Try.prog 30 R b nn D0) (h0 : J [] W) :
    CallsIn F n Try.prog fK1 #[.func (.yield l) #[] #[], .pointer (some ⟨Bm, 0, none⟩)] W fun e W' => (∃ v, e = .returned v) ∧
      ((∃ ss : List Int, (ss.Nodup ∧ ∀ x, x ∈ ss ↔ has D0 (lU x) = true) ∧ J ss W') ∨ (∃ pre : List Int, True ∧ Jx pre W')) := by
  refine callsIn_of_wp Try.func20 rfl h10 ?_ hro
  simp only [Try.ntmps20, List.size_toArray, List.length_cons, List.length_nil, Nat.reduceAdd, Nat.reduceSub, Array.replicate_succ, Array.replicate_zero, List.push_toArray, List.append_toArray, List.nil_append, List.cons_append]
  gi_wp2_with (first
    | (gi_at_range; refine wpListIn_range_own _ rfl _ 53 rfl 30 31 kU_keyed mU_under _ b nn _ rfl hown ?_; intro w0 hrg0 hg0 hs0)
    | gi_in)
  go_frame
  gi_loopw [3] (fun _ wr => ∃ (left : Lit → Bool) (cnt : Nat) (ss : List Int), wr.ranges Try.prog 30 R b W.heap.size nn D0 left cnt ∧ ss.length + cnt ≤ Maps.size D0 ∧ Came D0 left ss ∧ J ss wr)
    (fun _ wr => wr.rangeLeft b W.heap.size)
  case atStart =>
    exact ⟨_, _, [], hrg0, by simp, Came.start D0, hJ [] W w0 none h0 hg0 (fun r e => by cases e)⟩
  case round =>
    obtain ⟨left, cnt, ss, hrg, hcs, hC, hJs⟩ := hrel
    gi_wp2_with (first
      | (gi_at_next; refine wpListIn_next_ranges _ rfl _ rfl 30 kU_keyed R kU id (fun key kl hk => by obtain ⟨x, hx, _⟩ := Maps.keyOf_int_inv kU_under hk; exact ⟨x, hx⟩) (fun v _ _ => ⟨v, rfl⟩) b W.heap.size nn _ _ _ rfl hrg ?_ ?_)
      | gi_in)
    · intro hc0 hl0
      gi_wp2
      go_end0
      exact ⟨⟨_, rfl⟩, .inl ⟨ss, hC.all hl0, hJs⟩⟩
    · intro x c kl yd yp w2 cnt2 hkey hlk hv hat hrg2 hlt hg2 hs2 hen
      obtain ⟨x', ex, rfl, _⟩ := Maps.keyOf_int_inv kU_under hkey
      obtain rfl : x = x' := by injection ex
      have hJ2 : J ss w2 := hJ ss wr w2 (some W.heap.size) hJs hg2 (fun r e => by cases e; exact ⟨Nat.le_refl _, hrg.iter_walk⟩)
      obtain ⟨fn, tmps, assign, body, hy, hR⟩ := hY ss x w2 hJ2 (by omega)
      clear hs2
      gi_wp2
      refine hR.mono ?_
      have hC2 := hC.step hlk hat
      rintro e W3 (⟨rfl, hJ3, hk3⟩ | ⟨rfl, hJx3⟩)
      · gi_wp2
        have hrg3 := hrg2.of_walks hk3
        go_roundw
        case rel => exact ⟨_, cnt2, ss ++ [x], hrg3, by simp; omega, hC2, hJ3⟩
        case measure => rw [hrg3.left_eq, hrg.left_eq]; exact hlt
      · gi_wp2
        refine bodyPost_ret (results_none rfl _ _ _) rfl ?_
        exact ⟨⟨_, rfl⟩, .inr ⟨ss ++ [x], trivial, hJx3⟩⟩
theorem keys_stops {H : Type} {R : Value → Option (DataW H × List MemPlace)} (F : Fence) (n : Nat) (h10 : F.fn fK1) (hro : F.round = none) (hn : 1 ≤ n) (Bm b nn : Nat) (D0 : DataW H) (w : World) (hBm : Bm < w.heap.size)
    (hm : w.cell? ⟨Bm, 0, none⟩ = some (.map (some b))) (hown : w.ownsMap Try.prog 30 R b nn D0) :
    SeqStopsK F n Try.prog fK1 #[.pointer (some ⟨Bm, 0, none⟩)] (fun x : Int => #[kU x]) KeepsWalks (fun ss => ss.Nodup ∧ ∀ x, x ∈ ss ↔ has D0 (lU x) = true) (fun _ => True) (Maps.size D0) w := fun l J Jx W hW hJ _ hY h0 => by
  have hown' : W.ownsMap Try.prog 30 R b nn D0 := by
    have hbl := hown.lt
    obtain ⟨es, clock, hb,Ft, hs, hD⟩ := hown
    exact ⟨es, clock, (hW.block b hbl).trans hb,Ft, hs, hD⟩
  exact keys1S_in F n h10 hro hn l Bm b nn D0 J Jx hY W hJ ((hW.cell (p := ⟨Bm, 0, none⟩) hBm).trans hm) hown' h0
end Go.Proofs
set_option linter.unusedVariables false
set_option linter.unusedSimpArgs false
namespace Go.Proofs
open Go.RowKit Go.Maps Go.Shelf
attribute [local go_sem] Oper.semAt_some
abbrev fAS : Nat := 21
abbrev fCo : Nat := 18
theorem info_u64 : (Try.prog.info? 30).map (fun i => (i.zero, i.size, i.bytes)) = some (some (.int .u64 0), 1, 8) := by kernel_rfl
theorem sU_under : Try.prog.underlying 32 = some (.slice 30) := by kernel_rfl
set_option maxRecDepth 100000 in
set_option maxHeartbeats 2000000 in
theorem appendSeq_in (F : Fence) (n : Nat) (h3 : F.fn fAS) (hro : F.round = none) (hn : 2 ≤ n) (g : Nat) (lb : Array Value) (hFg : F.fn g) (eg : ∀ args w, (callFunc g args).run Try.prog w = .ok (.enter g args) w)
    (S : List Int → Prop) (N : Nat) (hN : N ≤ maxLen) (hNb : N * 8 ≤ 140737488355328) (w : World) (hseq : SeqStopsK F (n - 1) Try.prog g lb (fun x : Int => #[kU x]) KeepsWalks S (fun _ => True) N w) :
    CallsIn F n Try.prog fAS #[.slice none 0 0, .func (.func g) #[] lb] w fun e W' => ∃ (v : Value) (ss : List Int), e = .returned v ∧ S ss ∧ W'.ownsRow w.heap.size 30 1 v ss.length (ss.map kU) ∧ (v = .slice none 0 0 ↔ ss = []) ∧ Below w.heap.size w W' := by
  have h1 : 1 ≤ n := by omega
  obtain ⟨i0, hi, hz0, hz1, hz2⟩ := info_parts info_u64
  refine callsIn_of_wp_marks Try.func21 rfl h3 ?_ hro
  simp only [Try.ntmps21, List.size_toArray, List.length_cons, List.length_nil, Nat.reduceAdd, Nat.reduceSub, Array.replicate_succ, Array.replicate_zero, List.push_toArray, List.append_toArray, List.nil_append, List.cons_append]
  gi_wp2
  have bO := Boxed.new w 32 (.slice none 0 0)
  have hB0 : Below w.heap.size w (w.alloc (.cells #[.slice none 0 0] 32)) := (Below.refl _ w).alloc (Nat.le_refl _) _
  refine wpIn_rangeFunc_ownG hro h1 (gf := g) (lb := lb) rfl hFg eg hseq walksK_t walksK_b hB0 (fun _ => rfl)
    (fun pre W => (∃ v, Boxed W w.heap.size 32 v ∧ W.ownsRow w.heap.size 30 1 v pre.length (pre.map kU) ∧ (v = .slice none 0 0 ↔ pre = [])) ∧ Below w.heap.size w W)
    (fun _ _ _ => False)
    (OwnFrom.and (Own.from (holdsRow_own w.heap.size w.heap.size 32 30 1 (fun pre => pre.length) (fun pre => pre.map kU) (fun pre v => v = .slice none 0 0 ↔ pre = [])) _) (ownFrom_below (Nat.le_refl _) (by simp)))
    (fun _ _ _ _ _ hs _ _ => hs)
    ⟨⟨_, bO, World.ownsRow_nil _ _ _ _, by simp⟩, hB0⟩
    (fun x => { tmps := #[.slice none 0 0, .func (.func g) #[] lb, .pointer (some ⟨w.heap.size, 0, none⟩), undef, .slice none 0 0, kU x, .func (.func g) #[] lb, kU x, undef, undef, undef, undef, undef], defers := [] }) ?assign ?body ?done ?stop
  case assign =>
    intro l x W K hK
    gi_wp2
    exact hK
  case body =>
    rintro l pre x W ⟨⟨v, hv, hrow, hnil⟩, hB⟩ hlt
    have hc := hv.cell
    gi_wp2_with (gi_at_builtin; refine wpListIn_append_own _ rfl _ _ 32 rfl w.heap.size 30 i0 (.int .u64 0) 1 8 sU_under hi hz0 hz1 hz2 rfl (by decide) _ _ _ rfl (hrow.alloc _) ⟨W.heap.size, 0, none⟩ 1 1 [kU x] rfl rfl (cell_one_new _ _ _) (by simp [Value.oneCell']) (by omega) (by omega) (by have := hB.size; simp; omega) ?_; intro v' w1 hown' hgrow _; obtain ⟨g', cap', rfl⟩ := ownsRow_succ hown'; obtain ⟨hv1, hv2, hr2, hk2, hb2⟩ := hv.appended (by decide) hrow hB.size (Nat.le_refl _) hown' hgrow; have hc1 := hv1.cell; have hf1 := hv1.frozen)
    exact ⟨hk2.from _, KeepsOthers.walks hk2, ⟨_, hv2, by simpa using hr2, by simp⟩, hB.trans hb2⟩
  case done =>
    rintro D ys W hD hS ⟨⟨v, hv, hrow, hnil⟩, hB⟩ hK
    have hc := hv.cell
    gi_wp2
    refine ⟨by simp, .inl ⟨_, _, rfl, run_takeDeferred hK, ?_⟩⟩
    exact ⟨_, results_tmp rfl _ _ _, v, ys, rfl, hS, ownsRow_putObj hrow _ hK rfl, hnil, hB.trans (belowK_b (w := w) (Nat.le_refl _) W D _ _ (by simp at hD; omega) hK rfl rfl)⟩
  case stop =>
    rintro D c pre W _ _ h _
    exact h.elim
end Go.Proofs
set_option linter.unusedVariables false
set_option linter.unusedSimpArgs false
namespace Go.Proofs
open Go.RowKit Go.Maps Go.Shelf
abbrev fSo : Nat := 19
abbrev fSd : Nat := 16
abbrev fHe : Nat := 10
structure But (g : Nat) (w w' : World) : Prop where
  os : w'.os = w.os
  tape : w'.tape = w.tape
  output : w'.output = w.output
  size : w.heap.size ≤ w'.heap.size
  block : ∀ k, k < w.heap.size → k ≠ g → w'.heap[k]? = w.heap[k]?
theorem below_but {B g : Nat} {w w' w2 : World} (h : Below B w w') (k : But g w' w2) (hB : B ≤ g) (hw : B ≤ w.heap.size) : Below B w w2 :=
  ⟨k.os.trans h.os, k.tape.trans h.tape, k.output.trans h.output, Nat.le_trans h.size k.size, fun i hi => (k.block i (by have := h.size; omega) (by omega)).trans (h.block i hi)⟩
def SoAt (W : World) (g cap : Nat) (ns : List Nat) : Prop :=
  ∃ m cur e lo hi, m = ns.mergeSort ∧ W.heap[g]? = some (.cells cur e (lo, hi)) ∧ cur.size = cap ∧ (lo = hi ∨ cap ≤ lo) ∧ ∀ i v, m[i]? = some v → W.cell? ⟨g, i, none⟩ = some (.int .u64 (v : Nat))
structure SortDoes : Prop where
  nil : ∀ W, Calls Try.prog fSo #[.slice none 0 0] W fun e W' => e = .returned (.tuple #[]) ∧ Below W.heap.size W W'
  row : ∀ (W : World) g cap cur (ns : List Nat), W.heap[g]? = some (.cells cur 30 (0, 0)) → ns.length ≤ cap → cap ≤ maxLen → cur.size = cap → cur.toList.take ns.length = ns.map (fun n : Nat => kU (Int.ofNat n)) → 1 ≤ ns.length → ns.length ≤ 15 → ns.Nodup →
    Calls Try.prog fSo #[.slice (some ⟨g, 0, none⟩) ns.length cap] W fun e W' => e = .returned (.tuple #[]) ∧ SoAt W' g cap ns ∧ But g W W'
set_option maxRecDepth 100000 in
set_option maxHeartbeats 1000000 in
theorem collect_in (F : Fence) (n : Nat) (h8 : F.fn fCo) (h11 : F.fn fAS) (hro : F.round = none) (hn : 3 ≤ n) (g : Nat) (lb : Array Value) (hFg : F.fn g) (eg : ∀ args w, (callFunc g args).run Try.prog w = .ok (.enter g args) w)
    (S : List Int → Prop) (N : Nat) (hN : N ≤ maxLen) (hNb : N * 8 ≤ 140737488355328) (w : World) (hseq : SeqStopsK F (n - 1 - 1) Try.prog g lb (fun x : Int => #[kU x]) KeepsWalks S (fun _ => True) N w) :
    CallsIn F n Try.prog fCo #[.func (.func g) #[] lb] w fun e W' => ∃ (v : Value) (ss : List Int), e = .returned v ∧ S ss ∧ W'.ownsRow w.heap.size 30 1 v ss.length (ss.map kU) ∧ (v = .slice none 0 0 ↔ ss = []) ∧ Below w.heap.size w W' := by
  have h1 : 1 ≤ n := by omega
  refine callsIn_of_wp Try.func18 rfl h8 ?_ hro
  simp only [Try.ntmps18, List.size_toArray, List.length_cons, List.length_nil, Nat.reduceAdd, Nat.reduceSub, Array.replicate_succ, Array.replicate_zero, List.push_toArray, List.append_toArray, List.nil_append, List.cons_append]
  gi_wp2_with (gi_at_call 21; refine (appendSeq_in F (n - 1) h11 hro (by omega) g lb hFg eg S N hN hNb _ hseq).mono ?_; rintro e w' ⟨v, ss, rfl, hS, hrow, hnil, hb⟩)
  go_ret
  exact ⟨v, ss, rfl, hS, hrow, hnil, hb⟩
def SdFin (w : World) (ns : List Nat) (v : Value) (W' : World) : Prop :=
  ns = [] ∧ v = .slice none 0 0 ∨ 1 ≤ ns.length ∧ ∃ g cap, v = .slice (some ⟨g, 0, none⟩) ns.length cap ∧ w.heap.size ≤ g ∧ g < W'.heap.size ∧ ns.length ≤ cap ∧ SoAt W' g cap ns
def SdPost (w : World) (S : List Int → Prop) (e : Ending) (W' : World) : Prop :=
  ∃ (v : Value) (ns : List Nat), e = .returned v ∧ S (ns.map Int.ofNat) ∧ ns.Nodup ∧ ns.length ≤ 15 ∧ Below w.heap.size w W' ∧
    SdFin w ns v W'
theorem sort_row (hSo : SortDoes) (w w' : World) (v : Value) (ns : List Nat) (hnd : ns.Nodup) (hl : ns.length ≤ 15) (hrow : w'.ownsRow w.heap.size 30 1 v (ns.map Int.ofNat).length ((ns.map Int.ofNat).map kU)) (hnil : v = .slice none 0 0 ↔ ns.map Int.ofNat = []) (hb : Below w.heap.size w w') :
    Calls Try.prog fSo #[v] w' fun e W' => e = .returned (.tuple #[]) ∧ Below w.heap.size w W' ∧ SdFin w ns v W' := by
  obtain ⟨h0, h1⟩ := hrow
  rw [List.length_map] at h1
  rcases h1 with ⟨rfl, hz⟩ | ⟨g, cap, cur, rfl, hg, hgb, h2, h3, h4, h5⟩
  · refine (hSo.nil w').mono ?_
    rintro e W' ⟨rfl, hb2⟩
    exact ⟨rfl, hb.trans (hb2.mono hb.size), .inl ⟨List.eq_nil_of_length_eq_zero hz, rfl⟩⟩
  · have hlt : g < w'.heap.size := (Array.getElem?_eq_some_iff.1 hgb).1
    rcases Nat.eq_zero_or_pos ns.length with hz | hp
    · have := hnil.2 (by rw [List.eq_nil_of_length_eq_zero hz]; rfl)
      cases this
    · rw [Nat.mul_one] at h5 h4
      refine (hSo.row w' g cap cur ns hgb h2 h3 h4 (by rw [h5, List.map_map]; rfl) hp hl hnd).mono ?_
      rintro e W' ⟨rfl, hs, hbt⟩
      exact ⟨rfl, below_but hb hbt hg (Nat.le_refl _), .inr ⟨hp, g, cap, rfl, hg, Nat.lt_of_lt_of_le hlt hbt.size, h2, hs⟩⟩
set_option maxRecDepth 100000 in
set_option maxHeartbeats 1000000 in
theorem sorted_in (hSo : SortDoes) (n : Nat) (hn : 4 ≤ n) (g : Nat) (lb : Array Value) (eg : ∀ args w, (callFunc g args).run Try.prog w = .ok (.enter g args) w)
    (S : List Int → Prop) (N : Nat) (hN : N ≤ maxLen) (hNb : N * 8 ≤ 140737488355328) (hSN : ∀ ss, S ss → ∃ ns : List Nat, ss = ns.map Int.ofNat ∧ ns.Nodup ∧ ns.length ≤ 15) (w : World)
    (hseq : SeqStopsK Fence.wide (n - 1 - 1 - 1) Try.prog g lb (fun x : Int => #[kU x]) KeepsWalks S (fun _ => True) N w) :
    CallsIn Fence.wide n Try.prog fSd #[.func (.func g) #[] lb] w (SdPost w S) := by
  have h1 : 1 ≤ n := by omega
  have hfC : Fence.wide.fn fCo := trivial
  have hfS : Fence.wide.fn fSo := trivial
  refine callsIn_of_wp Try.func16 rfl trivial ?_ rfl
  simp only [Try.ntmps16, List.size_toArray, List.length_cons, List.length_nil, Nat.reduceAdd, Nat.reduceSub, Array.replicate_succ, Array.replicate_zero, List.push_toArray, List.append_toArray, List.nil_append, List.cons_append]
  gi_wp2_with (gi_at_call 18; refine (collect_in Fence.wide (n - 1) trivial trivial rfl (by omega) g lb trivial eg S N hN hNb _ hseq).mono ?_; rintro e w' ⟨v, ss, rfl, hS, hrow, hnil, hb⟩; obtain ⟨ns, rfl, hnd, hnl⟩ := hSN ss hS; have cS := (callsIn_wide (n := n - 1)).2 (sort_row hSo w w' v ns hnd hnl hrow hnil hb); have hz := hnil; go_frame)
  gi_wp2_with (gi_at_call 19; refine cS.mono ?_; rintro e w2 ⟨rfl, hb2, hfin⟩; go_frame)
  go_ret
  exact ⟨v, ns, rfl, hS, hnd, hnl, hb2, hfin⟩
end Go.Proofs
set_option linter.unusedVariables false
set_option linter.unusedSimpArgs false
namespace Go.Proofs
open Go.RowKit Go.Maps Go.Shelf
set_option maxRecDepth 100000 in
set_option maxHeartbeats 1000000 in
theorem held_in {H : Type} {R : Value → Option (DataW H × List MemPlace)} (hSo : SortDoes) (w : World) (pb po b nn : Nat) (D0 : DataW H) (hm : w.cell? ⟨pb, po + 2, none⟩ = some (.map (some b))) (hown : w.ownsMap Try.prog 30 R b nn D0)
    (hN : Maps.size D0 ≤ 15) (hSN : ∀ ss : List Int, (ss.Nodup ∧ ∀ x, x ∈ ss ↔ has D0 (lU x) = true) → ∃ ns : List Nat, ss = ns.map Int.ofNat ∧ ns.Nodup ∧ ns.length ≤ 15) :
    Calls Try.prog fHe #[.pointer (some ⟨pb, po, none⟩)] w fun e W' => ∃ (v : Value) (ns : List Nat), e = .returned v ∧ (∀ x : Int, x ∈ ns.map Int.ofNat ↔ has D0 (lU x) = true) ∧ ns.Nodup ∧ ns.length ≤ 15 ∧ Below w.heap.size w W' ∧ SdFin w ns v W' := by
  refine (callsIn_wide (n := 6)).1 ?_
  have hbl := hown.lt
  have hml : 15 ≤ maxLen := by unfold maxLen; omega
  have hseq : SeqStopsK Fence.wide 2 Try.prog fK1 #[.pointer (some ⟨w.heap.size, 0, none⟩)] (fun x : Int => #[kU x]) KeepsWalks (fun ss => ss.Nodup ∧ ∀ x, x ∈ ss ↔ has D0 (lU x) = true) (fun _ => True) (Maps.size D0) (w.alloc (.cells #[.map (some b)] 53)) :=
    keys_stops Fence.wide 2 trivial rfl (by omega) w.heap.size b nn D0 _ (by simp) (Boxed.new w 53 (.map (some b))).cell (by
      obtain ⟨es, clock, hb,Ft, hs, hD⟩ := hown
      exact ⟨es, clock, (Below.heap_alloc _ _ b hbl).trans hb,Ft, hs, hD⟩)
  have cK : ∀ mb W, CallsIn Fence.wide 5 Try.prog 17 #[.map mb] W fun e w' => e = .returned (.func (.func 20) #[] #[.pointer (some ⟨W.heap.size, 0, none⟩)]) ∧ w' = W.alloc (.cells #[.map mb] 53) := fun mb W => keys_in Fence.wide 5 trivial rfl mb W
  have cS := sorted_in hSo 5 (by omega) 20 #[.pointer (some ⟨w.heap.size, 0, none⟩)] (enters_of Try.func20 (by kernel_rfl) rfl) _ (Maps.size D0) (by omega) (by omega) hSN _ hseq
  have hfK : Fence.wide.fn fK := trivial
  have hfS : Fence.wide.fn fSd := trivial
  refine callsIn_of_wp Try.func10 rfl trivial ?_ rfl
  simp only [Try.ntmps10, List.size_toArray, List.length_cons, List.length_nil, Nat.reduceAdd, Nat.reduceSub, Array.replicate_succ, Array.replicate_zero, List.push_toArray, List.append_toArray, List.nil_append, List.cons_append]
  gi_wp2_with (first
    | (gi_at_call 17; refine (cK _ _).mono ?_; rintro e w' ⟨rfl, rfl⟩)
    | (gi_at_call 16; refine cS.mono ?_; rintro e w' ⟨v, ns, rfl, hS, hnd, hl, hb, hfin⟩))
  go_ret
  refine ⟨v, ns, rfl, hS.2, hnd, hl, ((Below.refl _ w).alloc (Nat.le_refl _) _).trans (hb.mono (by simp)), ?_⟩
  rcases hfin with h | ⟨h1, g, cap, h2, h3, h4⟩
  · exact .inl h
  · exact .inr ⟨h1, g, cap, h2, by simp at h3; omega, h4⟩
end Go.Proofs
namespace Go.Am
set_option linter.all false
def gt0 (l : List Nat) (i : Nat) : Nat := l.getD i 0
def swp (l : List Nat) (i j : Nat) : List Nat := (l.set i (gt0 l j)).set j (gt0 l i)
theorem swp_len (l : List Nat) (i j : Nat) : (swp l i j).length = l.length := by unfold swp; rw [List.length_set, List.length_set]
theorem gt0_of {l : List Nat} {i : Nat} (h : i < l.length) : gt0 l i = l[i] := by unfold gt0; rw [List.getD_eq_getElem?_getD, List.getElem?_eq_getElem h]; rfl
theorem gt0_set {l : List Nat} {i v j : Nat} (h : i < l.length) : gt0 (l.set i v) j = if j = i then v else gt0 l j := by
  unfold gt0
  rw [List.getD_eq_getElem?_getD, List.getD_eq_getElem?_getD, List.getElem?_set]
  by_cases e : i = j
  · rw [if_pos e, if_pos (by omega), if_pos e.symm]; rfl
  · rw [if_neg e, if_neg fun x => e x.symm]
theorem gt0_swp {l : List Nat} {i j : Nat} (hi : i < l.length) (hj : j < l.length) (k : Nat) : gt0 (swp l i j) k = if k = j then gt0 l i else if k = i then gt0 l j else gt0 l k := by
  unfold swp
  rw [gt0_set (by rw [List.length_set]; exact hj), gt0_set hi]
theorem swp_perm {l : List Nat} {i j : Nat} (hi : i < l.length) (hj : j < l.length) : (swp l i j).Perm l := by
  have : ((l.set i l[j]).set j l[i]).Perm l := List.set_set_perm hi hj
  unfold swp
  rw [gt0_of hi, gt0_of hj]
  exact this
inductive Sw (a b : Nat) : List Nat → List Nat → Prop
  | refl (l : List Nat) : Sw a b l l
  | step {l m : List Nat} {i j : Nat} : Sw a b l m → a ≤ i → i < b → a ≤ j → j < b → b ≤ l.length → Sw a b l (swp m i j)
theorem Sw.len {a b : Nat} {l m : List Nat} (s : Sw a b l m) : m.length = l.length := by
  induction s with
  | refl => rfl
  | step _ _ _ _ _ _ ih => rw [swp_len, ih]
theorem Sw.perm {a b : Nat} {l m : List Nat} (s : Sw a b l m) : m.Perm l := by
  induction s with
  | refl => exact .refl _
  | step s h1 h2 h3 h4 h5 ih =>
    have := s.len
    exact (swp_perm (by omega) (by omega)).trans ih
theorem Sw.trans {a b : Nat} {l m k : List Nat} (s : Sw a b l m) (t : Sw a b m k) : Sw a b l k := by
  induction t with
  | refl => exact s
  | step _ h1 h2 h3 h4 h5 ih => exact .step ih h1 h2 h3 h4 (by have := s.len; omega)
theorem Sw.one {a b : Nat} {l : List Nat} {i j : Nat} (h1 : a ≤ i) (h2 : i < b) (h3 : a ≤ j) (h4 : j < b) (h5 : b ≤ l.length) : Sw a b l (swp l i j) := .step (.refl l) h1 h2 h3 h4 h5
theorem Sw.out {a b : Nat} {l m : List Nat} (s : Sw a b l m) {k : Nat} (hk : k < a ∨ b ≤ k) : gt0 m k = gt0 l k := by
  induction s with
  | refl => rfl
  | step s h1 h2 h3 h4 h5 ih =>
    have := s.len
    rw [gt0_swp (by omega) (by omega), if_neg (by omega), if_neg (by omega), ih]
theorem Sw.all {a b : Nat} {l m : List Nat} (s : Sw a b l m) {P : Nat → Prop} (h : ∀ k, a ≤ k → k < b → P (gt0 l k)) : ∀ k, a ≤ k → k < b → P (gt0 m k) := by
  induction s with
  | refl => exact h
  | step s h1 h2 h3 h4 h5 ih =>
    intro k k1 k2
    have := s.len
    rw [gt0_swp (by omega) (by omega)]
    split
    · exact ih _ h1 h2
    · split
      · exact ih _ h3 h4
      · exact ih _ k1 k2
theorem Sw.wide {a b c d : Nat} {l m : List Nat} (s : Sw a b l m) (h1 : c ≤ a) (h2 : b ≤ d) (h3 : d ≤ l.length) : Sw c d l m := by
  induction s with
  | refl => exact .refl _
  | step s e1 e2 e3 e4 e5 ih => exact .step ih (by omega) (by omega) (by omega) (by omega) h3
def Srt (a b : Nat) (l : List Nat) : Prop := ∀ i j, a ≤ i → i < j → j < b → gt0 l i ≤ gt0 l j
theorem Srt.nil {a b : Nat} {l : List Nat} (h : b ≤ a + 1) : Srt a b l := fun i j h1 h2 h3 => by omega
theorem Srt.of_adj {a b : Nat} {l : List Nat} (h : ∀ i, a < i → i < b → gt0 l (i - 1) ≤ gt0 l i) : Srt a b l := by
  intro i j h1 h2 h3
  obtain ⟨d, rfl⟩ : ∃ d, j = i + 1 + d := ⟨j - i - 1, by omega⟩
  induction d with
  | zero => exact h (i + 1) (by omega) h3
  | succ d ih =>
    refine Nat.le_trans (ih (by omega) (by omega)) ?_
    have := h (i + 1 + (d + 1)) (by omega) h3
    rwa [show i + 1 + (d + 1) - 1 = i + 1 + d by omega] at this
theorem Srt.sorted {l : List Nat} (s : Srt 0 l.length l) : l.Pairwise (· ≤ ·) := by
  refine List.pairwise_iff_getElem.2 fun i j hi hj h => ?_
  have := s i j (Nat.zero_le _) h hj
  rwa [gt0_of hi, gt0_of hj] at this
theorem nodup_lt {l : List Nat} (n : l.Nodup) {i j : Nat} (hi : i < l.length) (hj : j < l.length) (h : i ≠ j) : gt0 l i ≠ gt0 l j := by
  rw [gt0_of hi, gt0_of hj]
  rcases Nat.lt_or_gt_of_ne h with h | h
  · exact List.pairwise_iff_getElem.1 n i j hi hj h
  · exact fun e => List.pairwise_iff_getElem.1 n j i hj hi h e.symm
def InsQ (a i j : Nat) (m : List Nat) : Prop := ∀ p q, a ≤ p → p < q → q ≤ i → q ≠ j → gt0 m p ≤ gt0 m q
theorem InsQ.start {a i : Nat} {m : List Nat} (s : Srt a i m) : InsQ a i i m := fun p q h1 h2 h3 h4 => s p q h1 h2 (by omega)
theorem InsQ.stop {a i j : Nat} {m : List Nat} (s : InsQ a i j m) (h : j ≤ a ∨ gt0 m (j - 1) ≤ gt0 m j) : Srt a (i + 1) m := by
  intro p q h1 h2 h3
  by_cases e : q = j
  · subst e
    rcases h with h | h
    · omega
    · by_cases e2 : p = q - 1
      · subst e2; exact h
      · exact Nat.le_trans (s p (q - 1) h1 (by omega) (by omega) (by omega)) h
  · exact s p q h1 h2 (by omega) e
theorem InsQ.step {a i j : Nat} {m : List Nat} (s : InsQ a i j m) (ha : a < j) (hj : j ≤ i) (hi : i < m.length) (h : gt0 m j < gt0 m (j - 1)) : InsQ a i (j - 1) (swp m j (j - 1)) := by
  intro p q h1 h2 h3 h4
  rw [gt0_swp (by omega) (by omega), gt0_swp (by omega) (by omega)]
  by_cases e : q = j
  · subst e
    rw [if_neg h4, if_pos rfl]
    by_cases e2 : p = q - 1
    · rw [if_pos e2]; omega
    · rw [if_neg e2, if_neg (by omega)]
      exact s p (q - 1) h1 (by omega) (by omega) (by omega)
  · rw [if_neg h4, if_neg e]
    split
    · exact s j q (by omega) (by omega) h3 e
    · split
      · exact s (j - 1) q (by omega) (by omega) h3 e
      · exact s p q h1 h2 h3 e
def PartOk (a b mid : Nat) (l : List Nat) : Prop := a ≤ mid ∧ mid < b ∧ (∀ k, a ≤ k → k < mid → gt0 l k < gt0 l mid) ∧ ∀ k, mid < k → k < b → gt0 l mid ≤ gt0 l k
theorem PartOk.stop {a b j : Nat} {l : List Nat} (hb : b ≤ l.length) (h1 : a ≤ j) (h2 : j < b) (hl : ∀ k, a < k → k ≤ j → gt0 l k < gt0 l a) (hr : ∀ k, j < k → k < b → gt0 l a ≤ gt0 l k) : PartOk a b j (swp l j a) := by
  have g := fun k => gt0_swp (l := l) (i := j) (j := a) (by omega) (by omega) k
  have ej : gt0 (swp l j a) j = gt0 l a := by
    rw [g]
    by_cases e : j = a
    · rw [if_pos e, e]
    · rw [if_neg e, if_pos rfl]
  refine ⟨h1, h2, fun k k1 k2 => ?_, fun k k1 k2 => ?_⟩
  · rw [ej, g]
    by_cases e : k = a
    · rw [if_pos e]
      exact hl j (by omega) (Nat.le_refl _)
    · rw [if_neg e, if_neg (by omega)]
      exact hl k (by omega) (by omega)
  · rw [ej, g, if_neg (by omega), if_neg (by omega)]
    exact hr k k1 k2
def Ord2 (B a b : Nat) (l : List Nat) : Prop := ∀ i j, i < j → j < B → (i < a ∨ b ≤ j) → gt0 l i ≤ gt0 l j
theorem Ord2.start (B : Nat) (l : List Nat) : Ord2 B 0 B l := fun i j h1 h2 h3 => by omega
theorem Ord2.sw {B a b : Nat} {l m : List Nat} (o : Ord2 B a b l) (s : Sw a b l m) (hb : b ≤ B) : Ord2 B a b m := by
  intro i j h1 h2 h3
  rcases h3 with h3 | h3
  · rw [s.out (.inl h3)]
    by_cases e : a ≤ j ∧ j < b
    · exact s.all (P := fun x => gt0 l i ≤ x) (fun k k1 k2 => o i k (by omega) (by omega) (.inl h3)) j e.1 e.2
    · rw [s.out (by omega)]
      exact o i j h1 h2 (.inl h3)
  · rw [s.out (.inr h3) (k := j)]
    by_cases e : a ≤ i ∧ i < b
    · exact s.all (P := fun x => x ≤ gt0 l j) (fun k k1 k2 => o k j (by omega) h2 (.inr h3)) i e.1 e.2
    · rw [s.out (by omega)]
      exact o i j h1 h2 (.inr h3)
theorem Ord2.left {B a b mid : Nat} {l m : List Nat} (o : Ord2 B a b l) (p : PartOk a b mid l) (s : Sw a mid l m) (r : Srt a mid m) (hb : b ≤ B) (hl : b ≤ l.length) : Ord2 B (mid + 1) b m := by
  obtain ⟨p1, p2, p3, p4⟩ := p
  have o' := o.sw (s.wide (Nat.le_refl _) (by omega) hl) hb
  have e0 : gt0 m mid = gt0 l mid := s.out (.inr (Nat.le_refl _))
  have lt := s.all (P := fun x => x < gt0 l mid) p3
  have ge : ∀ k, mid < k → k < b → gt0 l mid ≤ gt0 m k := fun k k1 k2 => by rw [s.out (.inr (by omega))]; exact p4 k k1 k2
  intro i j h1 h2 h3
  by_cases e : i < a ∨ b ≤ j
  · exact o' i j h1 h2 e
  · rcases Nat.lt_trichotomy i mid with h | h | h
    · have := lt i (by omega) h
      rcases Nat.lt_trichotomy j mid with k | k | k
      · exact r i j (by omega) h1 k
      · rw [k, e0]; omega
      · exact Nat.le_trans (Nat.le_of_lt this) (ge j k (by omega))
    · rw [h, e0]
      exact ge j (by omega) (by omega)
    · omega
theorem Ord2.right {B a b mid : Nat} {l m : List Nat} (o : Ord2 B a b l) (p : PartOk a b mid l) (s : Sw (mid + 1) b l m) (r : Srt (mid + 1) b m) (hb : b ≤ B) (hl : b ≤ l.length) : Ord2 B a mid m := by
  obtain ⟨p1, p2, p3, p4⟩ := p
  have o' := o.sw (s.wide (by omega) (Nat.le_refl _) hl) hb
  have e0 : gt0 m mid = gt0 l mid := s.out (.inl (by omega))
  have ge := s.all (P := fun x => gt0 l mid ≤ x) fun k k1 k2 => p4 k (by omega) k2
  have lt : ∀ k, a ≤ k → k < mid → gt0 m k < gt0 l mid := fun k k1 k2 => by rw [s.out (.inl (by omega))]; exact p3 k k1 k2
  intro i j h1 h2 h3
  by_cases e : i < a ∨ b ≤ j
  · exact o' i j h1 h2 e
  · rcases Nat.lt_trichotomy i mid with h | h | h
    · have := lt i (by omega) h
      rcases Nat.lt_trichotomy j mid with k | k | k
      · omega
      · rw [k, e0]; omega
      · exact Nat.le_trans (Nat.le_of_lt this) (ge j (by omega) (by omega))
    · rw [h, e0]
      exact ge j (by omega) (by omega)
    · exact r i j (by omega) h1 (by omega)
theorem Ord2.done {B a b : Nat} {l m : List Nat} (o : Ord2 B a b l) (s : Sw a b l m) (r : Srt a b m) (hb : b ≤ B) : Srt 0 B m := by
  have o' := o.sw s hb
  intro i j h1 h2 h3
  by_cases e : i < a ∨ b ≤ j
  · exact o' i j h2 h3 e
  · exact r i j (by omega) h2 (by omega)
end Go.Am
namespace Go.Am.Z
open Go.Proofs
set_option maxRecDepth 100000
set_option linter.all false
@[reducible] def xt0 : Xt Try.prog := ⟨fun _ => none⟩
@[reducible] def gl0 : Gl Try.prog := ⟨none⟩
attribute [local instance] xt0 gl0
theorem xm0 : XtM Try.prog := ⟨fun _ _ h => by cases h⟩
theorem xo0 : XtOk Try.prog := ⟨fun _ _ h => (by cases h), fun _ _ _ h => (by cases h)⟩
attribute [local instance] xm0 xo0
section
variable {β : Type}
noncomputable abbrev ev : Ev := evC Try.prog
noncomputable abbrev cK (c : Code) (n : Nat) (x : Nat → Value) (h : Heap) (k : Ex → St → Option β) : Option β := codeK Try.prog (evC Try.prog) loopL c ⟨ar n x, h⟩ k
noncomputable abbrev lK (c : Code) (n : Nat) (x : Nat → Value) (h : Heap) (k : Ex → St → Option β) : Option β := loopK Try.prog (evC Try.prog) c ⟨ar n x, h⟩ k
noncomputable abbrev sK (c : Code) (k : Ex → St → Option β) : Ex → St → Option β := seqK Try.prog (evC Try.prog) c k
noncomputable abbrev rD (ops : Array Oper) (j n : Nat) (x : Nat → Value) (h : Heap) (r m : List Nat) (k : St → Option β) : Option β := regD Try.prog (evC Try.prog) ops j ⟨ar n x, h⟩ r m k
theorem lK_eq (c : Code) (n : Nat) (x : Nat → Value) (h : Heap) (k : Ex → St → Option β) : lK c n x h k = cK c n x h (againK Try.prog (evC Try.prog) c k) := loopK_eq evC_m _ _ _
variable (x : Nat → Value) (h : Heap) (k : Ex → St → Option β) (r m : List Nat) (g : Heap)
noncomputable def c40_0 : Code := bodyC Try.f40 []
theorem c40_0_eq : cK c40_0 6 x h k =
(bn .neq 30 (x 0) (x 0)).bind fun v0 =>
k .ret ⟨ar 6 (up x [(2,v0),(3,(x 0)),(4,(x 0)),(5,v0)]), h⟩ := by kernel_rfl
theorem call40 (a0 : Value) : evC Try.prog 40 #[a0] h = cK c40_0 6 (up un [(0,a0)]) (nm h) (retK Try.f40 Try.prog h) :=
  (evC_call 40 Try.f40 c40_0 Try.func40 (by kernel_rfl) #[a0] h).trans (by kernel_rfl)
theorem ret40 : retK Try.f40 Try.prog g .ret ⟨ar 6 x, h⟩ = fin g (some (x 2)) h := by kernel_rfl
noncomputable def c30_0 : Code := bodyC Try.f30 []
theorem c30_0_eq : cK c30_0 17 x h k =
obH (ev 40 #[x 0] h) fun v0 h1 =>
obH (gdH (wt v0 true) h1 (ev 40 #[(gdV (wt v0 true) (x 1))] h1)) fun v2 h3 =>
(gd (wt v0 true) (unV Try.prog .not v2)).bind fun v4 =>
(pickV v0 v4 (.bool false)).bind fun v5 =>
(gd (wt v5 false) (bn .lss 30 (gdV (wt v5 false) (x 0)) (gdV (wt v5 false) (x 1)))).bind fun v6 =>
(pickV v5 (.bool true) v6).bind fun v7 =>
k .ret ⟨ar 17 (up x [(4,v7),(5,(x 0)),(6,v0),(7,v0),(8,(gdV (wt v0 true) (x 1))),(9,v2),(10,v4),(11,v5),(12,v5),(13,(gdV (wt v5 false) (x 0))),(14,(gdV (wt v5 false) (x 1))),(15,v6),(16,v7)]), h3⟩ := by kernel_rfl
theorem call30 (a0 a1 : Value) : evC Try.prog 30 #[a0,a1] h = cK c30_0 17 (up un [(0,a0),(1,a1)]) (nm h) (retK Try.f30 Try.prog h) :=
  (evC_call 30 Try.f30 c30_0 Try.func30 (by kernel_rfl) #[a0,a1] h).trans (by kernel_rfl)
theorem ret30 : retK Try.f30 Try.prog g .ret ⟨ar 17 x, h⟩ = fin g (some (x 4)) h := by kernel_rfl
noncomputable def c24_0 : Code := bodyC Try.f24 []
noncomputable def c24_1 : Code := bodyC Try.f24 [true, false, false]
noncomputable def c24_2 : Code := bodyC Try.f24 [true, false, false, true, false, false, true, false, false]
noncomputable def c24_3 : Code := bodyC Try.f24 [true, false, false, true, true]
theorem c24_0_eq : cK c24_0 49 x h k =
(bn .add 3 (x 1) (.int .i64 1)).bind fun v0 =>
lK c24_1 49 (up x [(6,v0),(8,(x 1)),(9,v0)]) h (blockK 0 k) := by kernel_rfl
theorem c24_1_eq : cK c24_1 49 x h k =
(bn .lss 3 (x 6) (x 2)).bind fun v1 =>
cnd v1 (
lK c24_2 49 (up x [(7,(x 6)),(10,(x 6)),(11,(x 2)),(12,v1),(15,(x 6))]) h (blockK 2 (blockK 1 (sK c24_3 k)))) (
k (.exit 0) ⟨ar 49 (up x [(10,(x 6)),(11,(x 2)),(12,v1)]), h⟩) := by kernel_rfl
theorem c24_2_eq : cK c24_2 49 x h k =
(bn .gtr 3 (x 7) (x 1)).bind fun v2 =>
(gd (wt v2 true) (ia 32 (gdV (wt v2 true) (x 0)) (gdV (wt v2 true) (x 7)))).bind fun v3 =>
(gd (wt v2 true) (ld 30 v3 h)).bind fun v4 =>
(gd (wt v2 true) (bn .sub 3 (gdV (wt v2 true) (x 7)) (.int .i64 1))).bind fun v5 =>
(gd (wt v2 true) (ia 32 (gdV (wt v2 true) (x 0)) v5)).bind fun v6 =>
(gd (wt v2 true) (ld 30 v6 h)).bind fun v7 =>
obH (gdH (wt v2 true) h (ev 30 #[v4,v7] h)) fun v8 h9 =>
(pickV v2 v8 (.bool false)).bind fun v10 =>
cnd v10 (
(bn .sub 3 (x 7) (.int .i64 1)).bind fun v11 =>
(bn .sub 3 (x 7) (.int .i64 1)).bind fun v12 =>
(ia 32 (x 0) v12).bind fun v13 =>
(ld 30 v13 h9).bind fun v14 =>
(ia 32 (x 0) (x 7)).bind fun v15 =>
(ld 30 v15 h9).bind fun v16 =>
(ia 32 (x 0) (x 7)).bind fun v17 =>
(sto 30 v17 v14 h9).bind fun h18 =>
(ia 32 (x 0) v11).bind fun v19 =>
(sto 30 v19 v16 h18).bind fun h20 =>
(bn .sub 3 (x 7) (.int .i64 1)).bind fun v21 =>
k .normal ⟨ar 49 (up x [(7,v21),(16,(x 7)),(17,(x 1)),(18,v2),(19,v2),(20,(gdV (wt v2 true) (x 0))),(21,(gdV (wt v2 true) (x 7))),(22,v3),(23,v4),(24,(gdV (wt v2 true) (x 0))),(25,(gdV (wt v2 true) (x 7))),(26,v5),(27,v6),(28,v7),(29,v8),(30,v10),(31,(x 7)),(32,v21),(33,(x 0)),(34,(x 7)),(35,(x 0)),(36,(x 7)),(37,v11),(38,(x 0)),(39,(x 7)),(40,v12),(41,v13),(42,v14),(43,(x 0)),(44,(x 7)),(45,v15),(46,v16),(47,v17),(48,v19)]), h20⟩) (
k (.exit 2) ⟨ar 49 (up x [(16,(x 7)),(17,(x 1)),(18,v2),(19,v2),(20,(gdV (wt v2 true) (x 0))),(21,(gdV (wt v2 true) (x 7))),(22,v3),(23,v4),(24,(gdV (wt v2 true) (x 0))),(25,(gdV (wt v2 true) (x 7))),(26,v5),(27,v6),(28,v7),(29,v8),(30,v10)]), h9⟩) := by kernel_rfl
theorem c24_3_eq : cK c24_3 49 x h k =
(bn .add 3 (x 6) (.int .i64 1)).bind fun v22 =>
k .normal ⟨ar 49 (up x [(6,v22),(13,(x 6)),(14,v22)]), h⟩ := by kernel_rfl
theorem call24 (a0 a1 a2 : Value) : evC Try.prog 24 #[a0,a1,a2] h = cK c24_0 49 (up un [(0,a0),(1,a1),(2,a2)]) (nm h) (retK Try.f24 Try.prog h) :=
  (evC_call 24 Try.f24 c24_0 Try.func24 (by kernel_rfl) #[a0,a1,a2] h).trans (by kernel_rfl)
theorem ret24 : retK Try.f24 Try.prog g .ret ⟨ar 49 x, h⟩ = fin g (some (.tuple #[])) h := by kernel_rfl
noncomputable def c29_0 : Code := bodyC Try.f29 []
noncomputable def c29_1 : Code := bodyC Try.f29 [true, true, false, true, false, false]
noncomputable def c29_2 : Code := bodyC Try.f29 [true, true, true]
noncomputable def c29_3 : Code := bodyC Try.f29 [true, true, false, true, false, false, true, false, false, false, false, false]
noncomputable def c29_4 : Code := bodyC Try.f29 [true, true, false, true, false, false, true, false, false, true]
noncomputable def c29_5 : Code := bodyC Try.f29 [true, true, false, true, false, false, true, true]
noncomputable def c29_6 : Code := bodyC Try.f29 [true, true, false, true, false, false, true, false, false, true, true, true, true, false, true, false, true, false, false]
noncomputable def c29_7 : Code := bodyC Try.f29 [true, true, false, true, false, false, true, false, false, true, true, true, true, true]
noncomputable def c29_8 : Code := bodyC Try.f29 [true, true, false, true, false, false, true, false, false, true, true, true, true, true, true, false, true, false, false]
theorem c29_0_eq : cK c29_0 133 x h k =
(bn .add 3 (x 1) (.int .i64 1)).bind fun v0 =>
lK c29_1 133 (up x [(6,(.bool false)),(7,v0),(8,(.int .i64 0)),(11,(x 1)),(12,v0)]) h (blockK 0 (sK c29_2 k)) := by kernel_rfl
theorem c29_1_eq : cK c29_1 133 x h k =
(bn .lss 3 (x 8) (.int .i64 5)).bind fun v1 =>
cnd v1 (
lK c29_3 133 (up x [(13,(x 8)),(14,v1)]) h (blockK 2 (sK c29_4 (blockK 1 (sK c29_5 k))))) (
k (.exit 0) ⟨ar 133 (up x [(13,(x 8)),(14,v1)]), h⟩) := by kernel_rfl
theorem c29_3_eq : cK c29_3 133 x h k =
(bn .lss 3 (x 7) (x 2)).bind fun v2 =>
(gd (wt v2 true) (ia 32 (gdV (wt v2 true) (x 0)) (gdV (wt v2 true) (x 7)))).bind fun v3 =>
(gd (wt v2 true) (ld 30 v3 h)).bind fun v4 =>
(gd (wt v2 true) (bn .sub 3 (gdV (wt v2 true) (x 7)) (.int .i64 1))).bind fun v5 =>
(gd (wt v2 true) (ia 32 (gdV (wt v2 true) (x 0)) v5)).bind fun v6 =>
(gd (wt v2 true) (ld 30 v6 h)).bind fun v7 =>
obH (gdH (wt v2 true) h (ev 30 #[v4,v7] h)) fun v8 h9 =>
(gd (wt v2 true) (unV Try.prog .not v8)).bind fun v10 =>
(pickV v2 v10 (.bool false)).bind fun v11 =>
cnd v11 (
(bn .add 3 (x 7) (.int .i64 1)).bind fun v12 =>
k .normal ⟨ar 133 (up x [(7,v12),(17,(x 7)),(18,(x 2)),(19,v2),(20,v2),(21,(gdV (wt v2 true) (x 0))),(22,(gdV (wt v2 true) (x 7))),(23,v3),(24,v4),(25,(gdV (wt v2 true) (x 0))),(26,(gdV (wt v2 true) (x 7))),(27,v5),(28,v6),(29,v7),(30,v8),(31,v10),(32,v11),(33,(x 7)),(34,v12)]), h9⟩) (
k (.exit 2) ⟨ar 133 (up x [(17,(x 7)),(18,(x 2)),(19,v2),(20,v2),(21,(gdV (wt v2 true) (x 0))),(22,(gdV (wt v2 true) (x 7))),(23,v3),(24,v4),(25,(gdV (wt v2 true) (x 0))),(26,(gdV (wt v2 true) (x 7))),(27,v5),(28,v6),(29,v7),(30,v8),(31,v10),(32,v11)]), h9⟩) := by kernel_rfl
theorem c29_4_eq : cK c29_4 133 x h k =
(bn .eql 3 (x 7) (x 2)).bind fun v13 =>
cnd v13 (
k .ret ⟨ar 133 (up x [(6,(.bool true)),(35,(x 7)),(36,(x 2)),(37,v13)]), h⟩) (
(bn .sub 3 (x 2) (x 1)).bind fun v14 =>
(bn .lss 3 v14 (.int .i64 50)).bind fun v15 =>
cnd v15 (
k .ret ⟨ar 133 (up x [(6,(.bool false)),(35,(x 7)),(36,(x 2)),(37,v13),(38,(x 2)),(39,(x 1)),(40,v14),(41,v15)]), h⟩) (
(bn .sub 3 (x 7) (.int .i64 1)).bind fun v16 =>
(bn .sub 3 (x 7) (.int .i64 1)).bind fun v17 =>
(ia 32 (x 0) v17).bind fun v18 =>
(ld 30 v18 h).bind fun v19 =>
(ia 32 (x 0) (x 7)).bind fun v20 =>
(ld 30 v20 h).bind fun v21 =>
(ia 32 (x 0) (x 7)).bind fun v22 =>
(sto 30 v22 v19 h).bind fun h23 =>
(ia 32 (x 0) v16).bind fun v24 =>
(sto 30 v24 v21 h23).bind fun h25 =>
(bn .sub 3 (x 7) (x 1)).bind fun v26 =>
(bn .geq 3 v26 (.int .i64 2)).bind fun v27 =>
cnd v27 (
(bn .sub 3 (x 7) (.int .i64 1)).bind fun v28 =>
lK c29_6 133 (up x [(9,v28),(35,(x 7)),(36,(x 2)),(37,v13),(38,(x 2)),(39,(x 1)),(40,v14),(41,v15),(42,(x 0)),(43,(x 7)),(44,(x 0)),(45,(x 7)),(46,v16),(47,(x 0)),(48,(x 7)),(49,v17),(50,v18),(51,v19),(52,(x 0)),(53,(x 7)),(54,v20),(55,v21),(56,v22),(57,v24),(58,(x 7)),(59,(x 1)),(60,v26),(61,v27),(62,(x 7)),(63,v28)]) h25 (blockK 4 (sK c29_7 k))) (
(bn .sub 3 (x 2) (x 7)).bind fun v29 =>
(bn .geq 3 v29 (.int .i64 2)).bind fun v30 =>
cnd v30 (
(bn .add 3 (x 7) (.int .i64 1)).bind fun v31 =>
lK c29_8 133 (up x [(10,v31),(35,(x 7)),(36,(x 2)),(37,v13),(38,(x 2)),(39,(x 1)),(40,v14),(41,v15),(42,(x 0)),(43,(x 7)),(44,(x 0)),(45,(x 7)),(46,v16),(47,(x 0)),(48,(x 7)),(49,v17),(50,v18),(51,v19),(52,(x 0)),(53,(x 7)),(54,v20),(55,v21),(56,v22),(57,v24),(58,(x 7)),(59,(x 1)),(60,v26),(61,v27),(95,(x 2)),(96,(x 7)),(97,v29),(98,v30),(99,(x 7)),(100,v31)]) h25 (blockK 6 k)) (
k .normal ⟨ar 133 (up x [(35,(x 7)),(36,(x 2)),(37,v13),(38,(x 2)),(39,(x 1)),(40,v14),(41,v15),(42,(x 0)),(43,(x 7)),(44,(x 0)),(45,(x 7)),(46,v16),(47,(x 0)),(48,(x 7)),(49,v17),(50,v18),(51,v19),(52,(x 0)),(53,(x 7)),(54,v20),(55,v21),(56,v22),(57,v24),(58,(x 7)),(59,(x 1)),(60,v26),(61,v27),(95,(x 2)),(96,(x 7)),(97,v29),(98,v30)]), h25⟩)))) := by kernel_rfl
theorem call29 (a0 a1 a2 : Value) : evC Try.prog 29 #[a0,a1,a2] h = cK c29_0 133 (up un [(0,a0),(1,a1),(2,a2)]) (nm h) (retK Try.f29 Try.prog h) :=
  (evC_call 29 Try.f29 c29_0 Try.func29 (by kernel_rfl) #[a0,a1,a2] h).trans (by kernel_rfl)
theorem ret29 : retK Try.f29 Try.prog g .ret ⟨ar 133 x, h⟩ = fin g (some (x 6)) h := by kernel_rfl
noncomputable def c41_0 : Code := bodyC Try.f41 []
theorem c41_0_eq : cK c41_0 28 x h k =
(ia 32 (x 0) (x 2)).bind fun v0 =>
(ld 30 v0 h).bind fun v1 =>
(ia 32 (x 0) (x 1)).bind fun v2 =>
(ld 30 v2 h).bind fun v3 =>
obH (ev 30 #[v1,v3] h) fun v4 h5 =>
cnd v4 (
(nilCheckV Try.prog (x 3)).bind fun v6 =>
(ld 3 v6 h5).bind fun v7 =>
(bn .add 3 v7 (.int .i64 1)).bind fun v8 =>
(nilCheckV Try.prog (x 3)).bind fun v9 =>
(sto 3 v9 v8 h5).bind fun h10 =>
k .ret ⟨ar 28 (up x [(8,(x 2)),(9,(x 1)),(10,(x 0)),(11,(x 2)),(12,v0),(13,v1),(14,(x 0)),(15,(x 1)),(16,v2),(17,v3),(18,v4),(19,(x 3)),(20,v6),(21,v7),(22,v8),(23,v9),(24,(x 2)),(25,(x 1))]), h10⟩) (
k .ret ⟨ar 28 (up x [(8,(x 1)),(9,(x 2)),(10,(x 0)),(11,(x 2)),(12,v0),(13,v1),(14,(x 0)),(15,(x 1)),(16,v2),(17,v3),(18,v4),(26,(x 1)),(27,(x 2))]), h5⟩) := by kernel_rfl
theorem call41 (a0 a1 a2 a3 : Value) : evC Try.prog 41 #[a0,a1,a2,a3] h = cK c41_0 28 (up un [(0,a0),(1,a1),(2,a2),(3,a3)]) (nm h) (retK Try.f41 Try.prog h) :=
  (evC_call 41 Try.f41 c41_0 Try.func41 (by kernel_rfl) #[a0,a1,a2,a3] h).trans (by kernel_rfl)
theorem ret41 : retK Try.f41 Try.prog g .ret ⟨ar 28 x, h⟩ = fin g (some (.tuple #[x 8, (x 9)])) h := by kernel_rfl
noncomputable def c39_0 : Code := bodyC Try.f39 []
theorem c39_0_eq : cK c39_0 36 x h k =
obH (ev 41 #[x 0,x 1,x 2,x 4] h) fun v0 h1 =>
(extractV v0 0).bind fun v2 =>
(extractV v0 1).bind fun v3 =>
obH (ev 41 #[x 0,v3,x 3,x 4] h1) fun v4 h5 =>
(extractV v4 0).bind fun v6 =>
(extractV v4 1).bind fun v7 =>
obH (ev 41 #[x 0,v2,v6,x 4] h5) fun v8 h9 =>
(extractV v8 0).bind fun v10 =>
(extractV v8 1).bind fun v11 =>
k .ret ⟨ar 36 (up x [(1,v10),(2,v11),(3,v7),(10,v11),(11,v0),(12,(x 0)),(13,(x 1)),(14,(x 2)),(15,(x 4)),(16,v0),(17,v2),(18,v3),(19,v4),(20,(x 0)),(21,v3),(22,(x 3)),(23,(x 4)),(24,v4),(25,v6),(26,v7),(27,v8),(28,(x 0)),(29,v2),(30,v6),(31,(x 4)),(32,v8),(33,v10),(34,v11),(35,v11)]), h9⟩ := by kernel_rfl
theorem call39 (a0 a1 a2 a3 a4 : Value) : evC Try.prog 39 #[a0,a1,a2,a3,a4] h = cK c39_0 36 (up un [(0,a0),(1,a1),(2,a2),(3,a3),(4,a4)]) (nm h) (retK Try.f39 Try.prog h) :=
  (evC_call 39 Try.f39 c39_0 Try.func39 (by kernel_rfl) #[a0,a1,a2,a3,a4] h).trans (by kernel_rfl)
theorem ret39 : retK Try.f39 Try.prog g .ret ⟨ar 36 x, h⟩ = fin g (some (x 10)) h := by kernel_rfl
noncomputable def c27_0 : Code := bodyC Try.f27 []
theorem c27_0_eq : cK c27_0 57 x h k =
(bn .sub 3 (x 2) (x 1)).bind fun v0 =>
obH (allocV Try.prog 3 h) fun v1 h2 =>
(bn .quo 3 v0 (.int .i64 4)).bind fun v3 =>
(bn .mul 3 v3 (.int .i64 1)).bind fun v4 =>
(bn .add 3 (x 1) v4).bind fun v5 =>
(bn .quo 3 v0 (.int .i64 4)).bind fun v6 =>
(bn .mul 3 v6 (.int .i64 2)).bind fun v7 =>
(bn .add 3 (x 1) v7).bind fun v8 =>
(bn .quo 3 v0 (.int .i64 4)).bind fun v9 =>
(bn .mul 3 v9 (.int .i64 3)).bind fun v10 =>
(bn .add 3 (x 1) v10).bind fun v11 =>
(bn .geq 3 v0 (.int .i64 8)).bind fun v12 =>
cnd v12 (
(bn .geq 3 v0 (.int .i64 50)).bind fun v13 =>
cnd v13 (
obH (ev 38 #[x 0,v5,v1] h2) fun v14 h15 =>
obH (ev 38 #[x 0,v8,v1] h15) fun v16 h17 =>
obH (ev 38 #[x 0,v11,v1] h17) fun v18 h19 =>
obH (ev 39 #[x 0,v14,v16,v18,v1] h19) fun v20 h21 =>
(ld 3 v1 h21).bind fun v22 =>
(bn .eql 3 v22 (.int .i64 0)).bind fun v23 =>
cnd v23 (
k .ret ⟨ar 57 (up x [(6,v20),(7,(.int .i64 1)),(8,v0),(9,v1),(10,v14),(11,v20),(12,v18),(13,(x 2)),(14,(x 1)),(15,v0),(16,(x 1)),(17,v0),(18,v3),(19,v4),(20,v5),(21,(x 1)),(22,v0),(23,v6),(24,v7),(25,v8),(26,(x 1)),(27,v0),(28,v9),(29,v10),(30,v11),(31,v0),(32,v12),(33,v0),(34,v13),(35,(x 0)),(36,v5),(37,v14),(38,(x 0)),(39,v8),(40,v16),(41,(x 0)),(42,v11),(43,v18),(44,(x 0)),(45,v14),(46,v16),(47,v18),(48,v20),(49,v22),(51,v23),(52,v23),(53,v20)]), h21⟩) (
(bn .eql 3 v22 (.int .i64 12)).bind fun v24 =>
cnd v24 (
k .ret ⟨ar 57 (up x [(6,v20),(7,(.int .i64 2)),(8,v0),(9,v1),(10,v14),(11,v20),(12,v18),(13,(x 2)),(14,(x 1)),(15,v0),(16,(x 1)),(17,v0),(18,v3),(19,v4),(20,v5),(21,(x 1)),(22,v0),(23,v6),(24,v7),(25,v8),(26,(x 1)),(27,v0),(28,v9),(29,v10),(30,v11),(31,v0),(32,v12),(33,v0),(34,v13),(35,(x 0)),(36,v5),(37,v14),(38,(x 0)),(39,v8),(40,v16),(41,(x 0)),(42,v11),(43,v18),(44,(x 0)),(45,v14),(46,v16),(47,v18),(48,v20),(49,v22),(51,v23),(52,v23),(54,v24),(55,v24),(56,v20)]), h21⟩) (
k .ret ⟨ar 57 (up x [(6,v20),(7,(.int .i64 0)),(8,v0),(9,v1),(10,v14),(11,v20),(12,v18),(13,(x 2)),(14,(x 1)),(15,v0),(16,(x 1)),(17,v0),(18,v3),(19,v4),(20,v5),(21,(x 1)),(22,v0),(23,v6),(24,v7),(25,v8),(26,(x 1)),(27,v0),(28,v9),(29,v10),(30,v11),(31,v0),(32,v12),(33,v0),(34,v13),(35,(x 0)),(36,v5),(37,v14),(38,(x 0)),(39,v8),(40,v16),(41,(x 0)),(42,v11),(43,v18),(44,(x 0)),(45,v14),(46,v16),(47,v18),(48,v20),(49,v22),(50,v20),(51,v23),(52,v23),(54,v24),(55,v24)]), h21⟩))) (
obH (ev 39 #[x 0,v5,v8,v11,v1] h2) fun v25 h26 =>
(ld 3 v1 h26).bind fun v27 =>
(bn .eql 3 v27 (.int .i64 0)).bind fun v28 =>
cnd v28 (
k .ret ⟨ar 57 (up x [(6,v25),(7,(.int .i64 1)),(8,v0),(9,v1),(10,v5),(11,v25),(12,v11),(13,(x 2)),(14,(x 1)),(15,v0),(16,(x 1)),(17,v0),(18,v3),(19,v4),(20,v5),(21,(x 1)),(22,v0),(23,v6),(24,v7),(25,v8),(26,(x 1)),(27,v0),(28,v9),(29,v10),(30,v11),(31,v0),(32,v12),(33,v0),(34,v13),(44,(x 0)),(45,v5),(46,v8),(47,v11),(48,v25),(49,v27),(51,v28),(52,v28),(53,v25)]), h26⟩) (
(bn .eql 3 v27 (.int .i64 12)).bind fun v29 =>
cnd v29 (
k .ret ⟨ar 57 (up x [(6,v25),(7,(.int .i64 2)),(8,v0),(9,v1),(10,v5),(11,v25),(12,v11),(13,(x 2)),(14,(x 1)),(15,v0),(16,(x 1)),(17,v0),(18,v3),(19,v4),(20,v5),(21,(x 1)),(22,v0),(23,v6),(24,v7),(25,v8),(26,(x 1)),(27,v0),(28,v9),(29,v10),(30,v11),(31,v0),(32,v12),(33,v0),(34,v13),(44,(x 0)),(45,v5),(46,v8),(47,v11),(48,v25),(49,v27),(51,v28),(52,v28),(54,v29),(55,v29),(56,v25)]), h26⟩) (
k .ret ⟨ar 57 (up x [(6,v25),(7,(.int .i64 0)),(8,v0),(9,v1),(10,v5),(11,v25),(12,v11),(13,(x 2)),(14,(x 1)),(15,v0),(16,(x 1)),(17,v0),(18,v3),(19,v4),(20,v5),(21,(x 1)),(22,v0),(23,v6),(24,v7),(25,v8),(26,(x 1)),(27,v0),(28,v9),(29,v10),(30,v11),(31,v0),(32,v12),(33,v0),(34,v13),(44,(x 0)),(45,v5),(46,v8),(47,v11),(48,v25),(49,v27),(50,v25),(51,v28),(52,v28),(54,v29),(55,v29)]), h26⟩)))) (
(ld 3 v1 h2).bind fun v30 =>
(bn .eql 3 v30 (.int .i64 0)).bind fun v31 =>
cnd v31 (
k .ret ⟨ar 57 (up x [(6,v8),(7,(.int .i64 1)),(8,v0),(9,v1),(10,v5),(11,v8),(12,v11),(13,(x 2)),(14,(x 1)),(15,v0),(16,(x 1)),(17,v0),(18,v3),(19,v4),(20,v5),(21,(x 1)),(22,v0),(23,v6),(24,v7),(25,v8),(26,(x 1)),(27,v0),(28,v9),(29,v10),(30,v11),(31,v0),(32,v12),(49,v30),(51,v31),(52,v31),(53,v8)]), h2⟩) (
(bn .eql 3 v30 (.int .i64 12)).bind fun v32 =>
cnd v32 (
k .ret ⟨ar 57 (up x [(6,v8),(7,(.int .i64 2)),(8,v0),(9,v1),(10,v5),(11,v8),(12,v11),(13,(x 2)),(14,(x 1)),(15,v0),(16,(x 1)),(17,v0),(18,v3),(19,v4),(20,v5),(21,(x 1)),(22,v0),(23,v6),(24,v7),(25,v8),(26,(x 1)),(27,v0),(28,v9),(29,v10),(30,v11),(31,v0),(32,v12),(49,v30),(51,v31),(52,v31),(54,v32),(55,v32),(56,v8)]), h2⟩) (
k .ret ⟨ar 57 (up x [(6,v8),(7,(.int .i64 0)),(8,v0),(9,v1),(10,v5),(11,v8),(12,v11),(13,(x 2)),(14,(x 1)),(15,v0),(16,(x 1)),(17,v0),(18,v3),(19,v4),(20,v5),(21,(x 1)),(22,v0),(23,v6),(24,v7),(25,v8),(26,(x 1)),(27,v0),(28,v9),(29,v10),(30,v11),(31,v0),(32,v12),(49,v30),(50,v8),(51,v31),(52,v31),(54,v32),(55,v32)]), h2⟩))) := by kernel_rfl
theorem call27 (a0 a1 a2 : Value) : evC Try.prog 27 #[a0,a1,a2] h = cK c27_0 57 (up un [(0,a0),(1,a1),(2,a2)]) (nm h) (retK Try.f27 Try.prog h) :=
  (evC_call 27 Try.f27 c27_0 Try.func27 (by kernel_rfl) #[a0,a1,a2] h).trans (by kernel_rfl)
theorem ret27 : retK Try.f27 Try.prog g .ret ⟨ar 57 x, h⟩ = fin g (some (.tuple #[x 6, (x 7)])) h := by kernel_rfl
noncomputable def c32_0 : Code := bodyC Try.f32 []
noncomputable def c32_1 : Code := bodyC Try.f32 [true, true, true, false, false, false]
noncomputable def c32_2 : Code := bodyC Try.f32 [true, true, true, true]
noncomputable def c32_3 : Code := bodyC Try.f32 [true, true, true, true, false, false, false]
noncomputable def c32_4 : Code := bodyC Try.f32 [true, true, true, true, true]
noncomputable def c32_5 : Code := bodyC Try.f32 [true, true, true, true, true, true, true, true, true, false, false, false]
noncomputable def c32_6 : Code := bodyC Try.f32 [true, true, true, true, true, true, true, true, true, true]
noncomputable def c32_7 : Code := bodyC Try.f32 [true, true, true, true, true, true, true, true, true, false, false, false, false, false, false, false]
noncomputable def c32_8 : Code := bodyC Try.f32 [true, true, true, true, true, true, true, true, true, false, false, false, false, true]
noncomputable def c32_9 : Code := bodyC Try.f32 [true, true, true, true, true, true, true, true, true, false, false, false, false, true, false, false, false]
noncomputable def c32_10 : Code := bodyC Try.f32 [true, true, true, true, true, true, true, true, true, false, false, false, false, true, true]
theorem c32_0_eq : cK c32_0 168 x h k =
(ia 32 (x 0) (x 3)).bind fun v0 =>
(ld 30 v0 h).bind fun v1 =>
(ia 32 (x 0) (x 1)).bind fun v2 =>
(ld 30 v2 h).bind fun v3 =>
(ia 32 (x 0) (x 1)).bind fun v4 =>
(sto 30 v4 v1 h).bind fun h5 =>
(ia 32 (x 0) (x 3)).bind fun v6 =>
(sto 30 v6 v3 h5).bind fun h7 =>
(bn .add 3 (x 1) (.int .i64 1)).bind fun v8 =>
(bn .sub 3 (x 2) (.int .i64 1)).bind fun v9 =>
lK c32_1 168 (up x [(8,(.int .i64 0)),(9,(.bool false)),(10,v8),(11,v9),(12,(x 0)),(13,(x 1)),(14,(x 0)),(15,(x 3)),(16,(x 0)),(17,(x 3)),(18,v0),(19,v1),(20,(x 0)),(21,(x 1)),(22,v2),(23,v3),(24,v4),(25,v6),(26,(x 1)),(27,v8),(28,(x 2)),(29,v9)]) h7 (blockK 0 (sK c32_2 k)) := by kernel_rfl
theorem c32_1_eq : cK c32_1 168 x h k =
(bn .leq 3 (x 10) (x 11)).bind fun v10 =>
(gd (wt v10 true) (ia 32 (gdV (wt v10 true) (x 0)) (gdV (wt v10 true) (x 10)))).bind fun v11 =>
(gd (wt v10 true) (ld 30 v11 h)).bind fun v12 =>
(gd (wt v10 true) (ia 32 (gdV (wt v10 true) (x 0)) (gdV (wt v10 true) (x 1)))).bind fun v13 =>
(gd (wt v10 true) (ld 30 v13 h)).bind fun v14 =>
obH (gdH (wt v10 true) h (ev 30 #[v12,v14] h)) fun v15 h16 =>
(pickV v10 v15 (.bool false)).bind fun v17 =>
cnd v17 (
(bn .add 3 (x 10) (.int .i64 1)).bind fun v18 =>
k .normal ⟨ar 168 (up x [(10,v18),(30,(x 10)),(31,(x 11)),(32,v10),(33,v10),(34,(gdV (wt v10 true) (x 0))),(35,(gdV (wt v10 true) (x 10))),(36,v11),(37,v12),(38,(gdV (wt v10 true) (x 0))),(39,(gdV (wt v10 true) (x 1))),(40,v13),(41,v14),(42,v15),(43,v17),(44,(x 10)),(45,v18)]), h16⟩) (
k (.exit 0) ⟨ar 168 (up x [(30,(x 10)),(31,(x 11)),(32,v10),(33,v10),(34,(gdV (wt v10 true) (x 0))),(35,(gdV (wt v10 true) (x 10))),(36,v11),(37,v12),(38,(gdV (wt v10 true) (x 0))),(39,(gdV (wt v10 true) (x 1))),(40,v13),(41,v14),(42,v15),(43,v17)]), h16⟩) := by kernel_rfl
theorem c32_2_eq : cK c32_2 168 x h k =
lK c32_3 168 x h (blockK 2 (sK c32_4 k)) := by kernel_rfl
theorem c32_3_eq : cK c32_3 168 x h k =
(bn .leq 3 (x 10) (x 11)).bind fun v19 =>
(gd (wt v19 true) (ia 32 (gdV (wt v19 true) (x 0)) (gdV (wt v19 true) (x 11)))).bind fun v20 =>
(gd (wt v19 true) (ld 30 v20 h)).bind fun v21 =>
(gd (wt v19 true) (ia 32 (gdV (wt v19 true) (x 0)) (gdV (wt v19 true) (x 1)))).bind fun v22 =>
(gd (wt v19 true) (ld 30 v22 h)).bind fun v23 =>
obH (gdH (wt v19 true) h (ev 30 #[v21,v23] h)) fun v24 h25 =>
(gd (wt v19 true) (unV Try.prog .not v24)).bind fun v26 =>
(pickV v19 v26 (.bool false)).bind fun v27 =>
cnd v27 (
(bn .sub 3 (x 11) (.int .i64 1)).bind fun v28 =>
k .normal ⟨ar 168 (up x [(11,v28),(46,(x 10)),(47,(x 11)),(48,v19),(49,v19),(50,(gdV (wt v19 true) (x 0))),(51,(gdV (wt v19 true) (x 11))),(52,v20),(53,v21),(54,(gdV (wt v19 true) (x 0))),(55,(gdV (wt v19 true) (x 1))),(56,v22),(57,v23),(58,v24),(59,v26),(60,v27),(61,(x 11)),(62,v28)]), h25⟩) (
k (.exit 2) ⟨ar 168 (up x [(46,(x 10)),(47,(x 11)),(48,v19),(49,v19),(50,(gdV (wt v19 true) (x 0))),(51,(gdV (wt v19 true) (x 11))),(52,v20),(53,v21),(54,(gdV (wt v19 true) (x 0))),(55,(gdV (wt v19 true) (x 1))),(56,v22),(57,v23),(58,v24),(59,v26),(60,v27)]), h25⟩) := by kernel_rfl
theorem c32_4_eq : cK c32_4 168 x h k =
(bn .gtr 3 (x 10) (x 11)).bind fun v29 =>
cnd v29 (
(ia 32 (x 0) (x 1)).bind fun v30 =>
(ld 30 v30 h).bind fun v31 =>
(ia 32 (x 0) (x 11)).bind fun v32 =>
(ld 30 v32 h).bind fun v33 =>
(ia 32 (x 0) (x 11)).bind fun v34 =>
(sto 30 v34 v31 h).bind fun h35 =>
(ia 32 (x 0) (x 1)).bind fun v36 =>
(sto 30 v36 v33 h35).bind fun h37 =>
k .ret ⟨ar 168 (up x [(8,(x 11)),(9,(.bool true)),(63,(x 10)),(64,(x 11)),(65,v29),(66,(x 0)),(67,(x 11)),(68,(x 0)),(69,(x 1)),(70,(x 0)),(71,(x 1)),(72,v30),(73,v31),(74,(x 0)),(75,(x 11)),(76,v32),(77,v33),(78,v34),(79,v36),(80,(x 11))]), h37⟩) (
(ia 32 (x 0) (x 11)).bind fun v38 =>
(ld 30 v38 h).bind fun v39 =>
(ia 32 (x 0) (x 10)).bind fun v40 =>
(ld 30 v40 h).bind fun v41 =>
(ia 32 (x 0) (x 10)).bind fun v42 =>
(sto 30 v42 v39 h).bind fun h43 =>
(ia 32 (x 0) (x 11)).bind fun v44 =>
(sto 30 v44 v41 h43).bind fun h45 =>
(bn .add 3 (x 10) (.int .i64 1)).bind fun v46 =>
(bn .sub 3 (x 11) (.int .i64 1)).bind fun v47 =>
lK c32_5 168 (up x [(10,v46),(11,v47),(63,(x 10)),(64,(x 11)),(65,v29),(81,(x 0)),(82,(x 10)),(83,(x 0)),(84,(x 11)),(85,(x 0)),(86,(x 11)),(87,v38),(88,v39),(89,(x 0)),(90,(x 10)),(91,v40),(92,v41),(93,v42),(94,v44),(95,(x 10)),(96,v46),(97,(x 11)),(98,v47)]) h45 (blockK 4 (sK c32_6 k))) := by kernel_rfl
theorem c32_5_eq : cK c32_5 168 x h k =
lK c32_7 168 x h (blockK 6 (sK c32_8 (blockK 5 k))) := by kernel_rfl
theorem c32_6_eq : cK c32_6 168 x h k =
(ia 32 (x 0) (x 1)).bind fun v48 =>
(ld 30 v48 h).bind fun v49 =>
(ia 32 (x 0) (x 11)).bind fun v50 =>
(ld 30 v50 h).bind fun v51 =>
(ia 32 (x 0) (x 11)).bind fun v52 =>
(sto 30 v52 v49 h).bind fun h53 =>
(ia 32 (x 0) (x 1)).bind fun v54 =>
(sto 30 v54 v51 h53).bind fun h55 =>
k .ret ⟨ar 168 (up x [(8,(x 11)),(9,(.bool false)),(153,(x 0)),(154,(x 11)),(155,(x 0)),(156,(x 1)),(157,(x 0)),(158,(x 1)),(159,v48),(160,v49),(161,(x 0)),(162,(x 11)),(163,v50),(164,v51),(165,v52),(166,v54),(167,(x 11))]), h55⟩ := by kernel_rfl
theorem c32_7_eq : cK c32_7 168 x h k =
(bn .leq 3 (x 10) (x 11)).bind fun v56 =>
(gd (wt v56 true) (ia 32 (gdV (wt v56 true) (x 0)) (gdV (wt v56 true) (x 10)))).bind fun v57 =>
(gd (wt v56 true) (ld 30 v57 h)).bind fun v58 =>
(gd (wt v56 true) (ia 32 (gdV (wt v56 true) (x 0)) (gdV (wt v56 true) (x 1)))).bind fun v59 =>
(gd (wt v56 true) (ld 30 v59 h)).bind fun v60 =>
obH (gdH (wt v56 true) h (ev 30 #[v58,v60] h)) fun v61 h62 =>
(pickV v56 v61 (.bool false)).bind fun v63 =>
cnd v63 (
(bn .add 3 (x 10) (.int .i64 1)).bind fun v64 =>
k .normal ⟨ar 168 (up x [(10,v64),(99,(x 10)),(100,(x 11)),(101,v56),(102,v56),(103,(gdV (wt v56 true) (x 0))),(104,(gdV (wt v56 true) (x 10))),(105,v57),(106,v58),(107,(gdV (wt v56 true) (x 0))),(108,(gdV (wt v56 true) (x 1))),(109,v59),(110,v60),(111,v61),(112,v63),(113,(x 10)),(114,v64)]), h62⟩) (
k (.exit 6) ⟨ar 168 (up x [(99,(x 10)),(100,(x 11)),(101,v56),(102,v56),(103,(gdV (wt v56 true) (x 0))),(104,(gdV (wt v56 true) (x 10))),(105,v57),(106,v58),(107,(gdV (wt v56 true) (x 0))),(108,(gdV (wt v56 true) (x 1))),(109,v59),(110,v60),(111,v61),(112,v63)]), h62⟩) := by kernel_rfl
theorem c32_8_eq : cK c32_8 168 x h k =
lK c32_9 168 x h (blockK 8 (sK c32_10 k)) := by kernel_rfl
theorem c32_9_eq : cK c32_9 168 x h k =
(bn .leq 3 (x 10) (x 11)).bind fun v65 =>
(gd (wt v65 true) (ia 32 (gdV (wt v65 true) (x 0)) (gdV (wt v65 true) (x 11)))).bind fun v66 =>
(gd (wt v65 true) (ld 30 v66 h)).bind fun v67 =>
(gd (wt v65 true) (ia 32 (gdV (wt v65 true) (x 0)) (gdV (wt v65 true) (x 1)))).bind fun v68 =>
(gd (wt v65 true) (ld 30 v68 h)).bind fun v69 =>
obH (gdH (wt v65 true) h (ev 30 #[v67,v69] h)) fun v70 h71 =>
(gd (wt v65 true) (unV Try.prog .not v70)).bind fun v72 =>
(pickV v65 v72 (.bool false)).bind fun v73 =>
cnd v73 (
(bn .sub 3 (x 11) (.int .i64 1)).bind fun v74 =>
k .normal ⟨ar 168 (up x [(11,v74),(115,(x 10)),(116,(x 11)),(117,v65),(118,v65),(119,(gdV (wt v65 true) (x 0))),(120,(gdV (wt v65 true) (x 11))),(121,v66),(122,v67),(123,(gdV (wt v65 true) (x 0))),(124,(gdV (wt v65 true) (x 1))),(125,v68),(126,v69),(127,v70),(128,v72),(129,v73),(130,(x 11)),(131,v74)]), h71⟩) (
k (.exit 8) ⟨ar 168 (up x [(115,(x 10)),(116,(x 11)),(117,v65),(118,v65),(119,(gdV (wt v65 true) (x 0))),(120,(gdV (wt v65 true) (x 11))),(121,v66),(122,v67),(123,(gdV (wt v65 true) (x 0))),(124,(gdV (wt v65 true) (x 1))),(125,v68),(126,v69),(127,v70),(128,v72),(129,v73)]), h71⟩) := by kernel_rfl
theorem c32_10_eq : cK c32_10 168 x h k =
(bn .gtr 3 (x 10) (x 11)).bind fun v75 =>
cnd v75 (
k (.exit 4) ⟨ar 168 (up x [(132,(x 10)),(133,(x 11)),(134,v75)]), h⟩) (
(ia 32 (x 0) (x 11)).bind fun v76 =>
(ld 30 v76 h).bind fun v77 =>
(ia 32 (x 0) (x 10)).bind fun v78 =>
(ld 30 v78 h).bind fun v79 =>
(ia 32 (x 0) (x 10)).bind fun v80 =>
(sto 30 v80 v77 h).bind fun h81 =>
(ia 32 (x 0) (x 11)).bind fun v82 =>
(sto 30 v82 v79 h81).bind fun h83 =>
(bn .add 3 (x 10) (.int .i64 1)).bind fun v84 =>
(bn .sub 3 (x 11) (.int .i64 1)).bind fun v85 =>
k .normal ⟨ar 168 (up x [(10,v84),(11,v85),(132,(x 10)),(133,(x 11)),(134,v75),(135,(x 0)),(136,(x 10)),(137,(x 0)),(138,(x 11)),(139,(x 0)),(140,(x 11)),(141,v76),(142,v77),(143,(x 0)),(144,(x 10)),(145,v78),(146,v79),(147,v80),(148,v82),(149,(x 10)),(150,v84),(151,(x 11)),(152,v85)]), h83⟩) := by kernel_rfl
theorem call32 (a0 a1 a2 a3 : Value) : evC Try.prog 32 #[a0,a1,a2,a3] h = cK c32_0 168 (up un [(0,a0),(1,a1),(2,a2),(3,a3)]) (nm h) (retK Try.f32 Try.prog h) :=
  (evC_call 32 Try.f32 c32_0 Try.func32 (by kernel_rfl) #[a0,a1,a2,a3] h).trans (by kernel_rfl)
theorem ret32 : retK Try.f32 Try.prog g .ret ⟨ar 168 x, h⟩ = fin g (some (.tuple #[x 8, (x 9)])) h := by kernel_rfl
noncomputable def c34_0 : Code := bodyC Try.f34 []
theorem c34_0_eq : cK c34_0 25 x h k =
(bn .geq 30 (x 0) (.int .u64 4294967296)).bind fun v0 =>
cnd v0 (
(bn .shr 30 (x 0) (.int .u64 32)).bind fun v1 =>
(bn .geq 30 v1 (.int .u64 65536)).bind fun v2 =>
cnd v2 (
(bn .shr 30 v1 (.int .u64 16)).bind fun v3 =>
(bn .add 3 (.int .i64 32) (.int .i64 16)).bind fun v4 =>
(bn .geq 30 v3 (.int .u64 256)).bind fun v5 =>
cnd v5 (
(bn .shr 30 v3 (.int .u64 8)).bind fun v6 =>
(bn .add 3 v4 (.int .i64 8)).bind fun v7 =>
obH (cv 30 5 v6 h) fun v8 h9 =>
(indexV Try.prog 9 (.string { data := (([0, 1, 2, 2, 3, 3, 3, 3, 4, 4, 4, 4, 4, 4, 4, 4, 5, 5, 5, 5, 5, 5, 5, 5, 5, 5, 5, 5, 5, 5, 5, 5, 6, 6, 6, 6, 6, 6, 6, 6, 6, 6, 6, 6, 6, 6, 6, 6, 6, 6, 6, 6, 6, 6, 6, 6, 6, 6, 6, 6, 6, 6, 6, 6].append [7, 7, 7, 7, 7, 7, 7, 7, 7, 7, 7, 7, 7, 7, 7, 7, 7, 7, 7, 7, 7, 7, 7, 7, 7, 7, 7, 7, 7, 7, 7, 7, 7, 7, 7, 7, 7, 7, 7, 7, 7, 7, 7, 7, 7, 7, 7, 7, 7, 7, 7, 7, 7, 7, 7, 7, 7, 7, 7, 7, 7, 7, 7, 7]).append ([8, 8, 8, 8, 8, 8, 8, 8, 8, 8, 8, 8, 8, 8, 8, 8, 8, 8, 8, 8, 8, 8, 8, 8, 8, 8, 8, 8, 8, 8, 8, 8, 8, 8, 8, 8, 8, 8, 8, 8, 8, 8, 8, 8, 8, 8, 8, 8, 8, 8, 8, 8, 8, 8, 8, 8, 8, 8, 8, 8, 8, 8, 8, 8].append [8, 8, 8, 8, 8, 8, 8, 8, 8, 8, 8, 8, 8, 8, 8, 8, 8, 8, 8, 8, 8, 8, 8, 8, 8, 8, 8, 8, 8, 8, 8, 8, 8, 8, 8, 8, 8, 8, 8, 8, 8, 8, 8, 8, 8, 8, 8, 8, 8, 8, 8, 8, 8, 8, 8, 8, 8, 8, 8, 8, 8, 8, 8, 8])).toArray }) v8).bind fun v10 =>
obH (cv 5 3 v10 h9) fun v11 h12 =>
(bn .add 3 v7 v11).bind fun v13 =>
k .ret ⟨ar 25 (up x [(0,v6),(2,v13),(3,(x 0)),(4,v0),(5,(x 0)),(6,v1),(7,v1),(8,v2),(9,v1),(10,v3),(11,(.int .i64 32)),(12,v4),(13,v3),(14,v5),(15,v3),(16,v6),(17,v4),(18,v7),(19,v7),(20,v6),(21,v8),(22,v10),(23,v11),(24,v13)]), h12⟩) (
obH (cv 30 5 v3 h) fun v14 h15 =>
(indexV Try.prog 9 (.string { data := (([0, 1, 2, 2, 3, 3, 3, 3, 4, 4, 4, 4, 4, 4, 4, 4, 5, 5, 5, 5, 5, 5, 5, 5, 5, 5, 5, 5, 5, 5, 5, 5, 6, 6, 6, 6, 6, 6, 6, 6, 6, 6, 6, 6, 6, 6, 6, 6, 6, 6, 6, 6, 6, 6, 6, 6, 6, 6, 6, 6, 6, 6, 6, 6].append [7, 7, 7, 7, 7, 7, 7, 7, 7, 7, 7, 7, 7, 7, 7, 7, 7, 7, 7, 7, 7, 7, 7, 7, 7, 7, 7, 7, 7, 7, 7, 7, 7, 7, 7, 7, 7, 7, 7, 7, 7, 7, 7, 7, 7, 7, 7, 7, 7, 7, 7, 7, 7, 7, 7, 7, 7, 7, 7, 7, 7, 7, 7, 7]).append ([8, 8, 8, 8, 8, 8, 8, 8, 8, 8, 8, 8, 8, 8, 8, 8, 8, 8, 8, 8, 8, 8, 8, 8, 8, 8, 8, 8, 8, 8, 8, 8, 8, 8, 8, 8, 8, 8, 8, 8, 8, 8, 8, 8, 8, 8, 8, 8, 8, 8, 8, 8, 8, 8, 8, 8, 8, 8, 8, 8, 8, 8, 8, 8].append [8, 8, 8, 8, 8, 8, 8, 8, 8, 8, 8, 8, 8, 8, 8, 8, 8, 8, 8, 8, 8, 8, 8, 8, 8, 8, 8, 8, 8, 8, 8, 8, 8, 8, 8, 8, 8, 8, 8, 8, 8, 8, 8, 8, 8, 8, 8, 8, 8, 8, 8, 8, 8, 8, 8, 8, 8, 8, 8, 8, 8, 8, 8, 8])).toArray }) v14).bind fun v16 =>
obH (cv 5 3 v16 h15) fun v17 h18 =>
(bn .add 3 v4 v17).bind fun v19 =>
k .ret ⟨ar 25 (up x [(0,v3),(2,v19),(3,(x 0)),(4,v0),(5,(x 0)),(6,v1),(7,v1),(8,v2),(9,v1),(10,v3),(11,(.int .i64 32)),(12,v4),(13,v3),(14,v5),(19,v4),(20,v3),(21,v14),(22,v16),(23,v17),(24,v19)]), h18⟩)) (
(bn .geq 30 v1 (.int .u64 256)).bind fun v20 =>
cnd v20 (
(bn .shr 30 v1 (.int .u64 8)).bind fun v21 =>
(bn .add 3 (.int .i64 32) (.int .i64 8)).bind fun v22 =>
obH (cv 30 5 v21 h) fun v23 h24 =>
(indexV Try.prog 9 (.string { data := (([0, 1, 2, 2, 3, 3, 3, 3, 4, 4, 4, 4, 4, 4, 4, 4, 5, 5, 5, 5, 5, 5, 5, 5, 5, 5, 5, 5, 5, 5, 5, 5, 6, 6, 6, 6, 6, 6, 6, 6, 6, 6, 6, 6, 6, 6, 6, 6, 6, 6, 6, 6, 6, 6, 6, 6, 6, 6, 6, 6, 6, 6, 6, 6].append [7, 7, 7, 7, 7, 7, 7, 7, 7, 7, 7, 7, 7, 7, 7, 7, 7, 7, 7, 7, 7, 7, 7, 7, 7, 7, 7, 7, 7, 7, 7, 7, 7, 7, 7, 7, 7, 7, 7, 7, 7, 7, 7, 7, 7, 7, 7, 7, 7, 7, 7, 7, 7, 7, 7, 7, 7, 7, 7, 7, 7, 7, 7, 7]).append ([8, 8, 8, 8, 8, 8, 8, 8, 8, 8, 8, 8, 8, 8, 8, 8, 8, 8, 8, 8, 8, 8, 8, 8, 8, 8, 8, 8, 8, 8, 8, 8, 8, 8, 8, 8, 8, 8, 8, 8, 8, 8, 8, 8, 8, 8, 8, 8, 8, 8, 8, 8, 8, 8, 8, 8, 8, 8, 8, 8, 8, 8, 8, 8].append [8, 8, 8, 8, 8, 8, 8, 8, 8, 8, 8, 8, 8, 8, 8, 8, 8, 8, 8, 8, 8, 8, 8, 8, 8, 8, 8, 8, 8, 8, 8, 8, 8, 8, 8, 8, 8, 8, 8, 8, 8, 8, 8, 8, 8, 8, 8, 8, 8, 8, 8, 8, 8, 8, 8, 8, 8, 8, 8, 8, 8, 8, 8, 8])).toArray }) v23).bind fun v25 =>
obH (cv 5 3 v25 h24) fun v26 h27 =>
(bn .add 3 v22 v26).bind fun v28 =>
k .ret ⟨ar 25 (up x [(0,v21),(2,v28),(3,(x 0)),(4,v0),(5,(x 0)),(6,v1),(7,v1),(8,v2),(13,v1),(14,v20),(15,v1),(16,v21),(17,(.int .i64 32)),(18,v22),(19,v22),(20,v21),(21,v23),(22,v25),(23,v26),(24,v28)]), h27⟩) (
obH (cv 30 5 v1 h) fun v29 h30 =>
(indexV Try.prog 9 (.string { data := (([0, 1, 2, 2, 3, 3, 3, 3, 4, 4, 4, 4, 4, 4, 4, 4, 5, 5, 5, 5, 5, 5, 5, 5, 5, 5, 5, 5, 5, 5, 5, 5, 6, 6, 6, 6, 6, 6, 6, 6, 6, 6, 6, 6, 6, 6, 6, 6, 6, 6, 6, 6, 6, 6, 6, 6, 6, 6, 6, 6, 6, 6, 6, 6].append [7, 7, 7, 7, 7, 7, 7, 7, 7, 7, 7, 7, 7, 7, 7, 7, 7, 7, 7, 7, 7, 7, 7, 7, 7, 7, 7, 7, 7, 7, 7, 7, 7, 7, 7, 7, 7, 7, 7, 7, 7, 7, 7, 7, 7, 7, 7, 7, 7, 7, 7, 7, 7, 7, 7, 7, 7, 7, 7, 7, 7, 7, 7, 7]).append ([8, 8, 8, 8, 8, 8, 8, 8, 8, 8, 8, 8, 8, 8, 8, 8, 8, 8, 8, 8, 8, 8, 8, 8, 8, 8, 8, 8, 8, 8, 8, 8, 8, 8, 8, 8, 8, 8, 8, 8, 8, 8, 8, 8, 8, 8, 8, 8, 8, 8, 8, 8, 8, 8, 8, 8, 8, 8, 8, 8, 8, 8, 8, 8].append [8, 8, 8, 8, 8, 8, 8, 8, 8, 8, 8, 8, 8, 8, 8, 8, 8, 8, 8, 8, 8, 8, 8, 8, 8, 8, 8, 8, 8, 8, 8, 8, 8, 8, 8, 8, 8, 8, 8, 8, 8, 8, 8, 8, 8, 8, 8, 8, 8, 8, 8, 8, 8, 8, 8, 8, 8, 8, 8, 8, 8, 8, 8, 8])).toArray }) v29).bind fun v31 =>
obH (cv 5 3 v31 h30) fun v32 h33 =>
(bn .add 3 (.int .i64 32) v32).bind fun v34 =>
k .ret ⟨ar 25 (up x [(0,v1),(2,v34),(3,(x 0)),(4,v0),(5,(x 0)),(6,v1),(7,v1),(8,v2),(13,v1),(14,v20),(19,(.int .i64 32)),(20,v1),(21,v29),(22,v31),(23,v32),(24,v34)]), h33⟩))) (
(bn .geq 30 (x 0) (.int .u64 65536)).bind fun v35 =>
cnd v35 (
(bn .shr 30 (x 0) (.int .u64 16)).bind fun v36 =>
(bn .add 3 (.int .i64 0) (.int .i64 16)).bind fun v37 =>
(bn .geq 30 v36 (.int .u64 256)).bind fun v38 =>
cnd v38 (
(bn .shr 30 v36 (.int .u64 8)).bind fun v39 =>
(bn .add 3 v37 (.int .i64 8)).bind fun v40 =>
obH (cv 30 5 v39 h) fun v41 h42 =>
(indexV Try.prog 9 (.string { data := (([0, 1, 2, 2, 3, 3, 3, 3, 4, 4, 4, 4, 4, 4, 4, 4, 5, 5, 5, 5, 5, 5, 5, 5, 5, 5, 5, 5, 5, 5, 5, 5, 6, 6, 6, 6, 6, 6, 6, 6, 6, 6, 6, 6, 6, 6, 6, 6, 6, 6, 6, 6, 6, 6, 6, 6, 6, 6, 6, 6, 6, 6, 6, 6].append [7, 7, 7, 7, 7, 7, 7, 7, 7, 7, 7, 7, 7, 7, 7, 7, 7, 7, 7, 7, 7, 7, 7, 7, 7, 7, 7, 7, 7, 7, 7, 7, 7, 7, 7, 7, 7, 7, 7, 7, 7, 7, 7, 7, 7, 7, 7, 7, 7, 7, 7, 7, 7, 7, 7, 7, 7, 7, 7, 7, 7, 7, 7, 7]).append ([8, 8, 8, 8, 8, 8, 8, 8, 8, 8, 8, 8, 8, 8, 8, 8, 8, 8, 8, 8, 8, 8, 8, 8, 8, 8, 8, 8, 8, 8, 8, 8, 8, 8, 8, 8, 8, 8, 8, 8, 8, 8, 8, 8, 8, 8, 8, 8, 8, 8, 8, 8, 8, 8, 8, 8, 8, 8, 8, 8, 8, 8, 8, 8].append [8, 8, 8, 8, 8, 8, 8, 8, 8, 8, 8, 8, 8, 8, 8, 8, 8, 8, 8, 8, 8, 8, 8, 8, 8, 8, 8, 8, 8, 8, 8, 8, 8, 8, 8, 8, 8, 8, 8, 8, 8, 8, 8, 8, 8, 8, 8, 8, 8, 8, 8, 8, 8, 8, 8, 8, 8, 8, 8, 8, 8, 8, 8, 8])).toArray }) v41).bind fun v43 =>
obH (cv 5 3 v43 h42) fun v44 h45 =>
(bn .add 3 v40 v44).bind fun v46 =>
k .ret ⟨ar 25 (up x [(0,v39),(2,v46),(3,(x 0)),(4,v0),(7,(x 0)),(8,v35),(9,(x 0)),(10,v36),(11,(.int .i64 0)),(12,v37),(13,v36),(14,v38),(15,v36),(16,v39),(17,v37),(18,v40),(19,v40),(20,v39),(21,v41),(22,v43),(23,v44),(24,v46)]), h45⟩) (
obH (cv 30 5 v36 h) fun v47 h48 =>
(indexV Try.prog 9 (.string { data := (([0, 1, 2, 2, 3, 3, 3, 3, 4, 4, 4, 4, 4, 4, 4, 4, 5, 5, 5, 5, 5, 5, 5, 5, 5, 5, 5, 5, 5, 5, 5, 5, 6, 6, 6, 6, 6, 6, 6, 6, 6, 6, 6, 6, 6, 6, 6, 6, 6, 6, 6, 6, 6, 6, 6, 6, 6, 6, 6, 6, 6, 6, 6, 6].append [7, 7, 7, 7, 7, 7, 7, 7, 7, 7, 7, 7, 7, 7, 7, 7, 7, 7, 7, 7, 7, 7, 7, 7, 7, 7, 7, 7, 7, 7, 7, 7, 7, 7, 7, 7, 7, 7, 7, 7, 7, 7, 7, 7, 7, 7, 7, 7, 7, 7, 7, 7, 7, 7, 7, 7, 7, 7, 7, 7, 7, 7, 7, 7]).append ([8, 8, 8, 8, 8, 8, 8, 8, 8, 8, 8, 8, 8, 8, 8, 8, 8, 8, 8, 8, 8, 8, 8, 8, 8, 8, 8, 8, 8, 8, 8, 8, 8, 8, 8, 8, 8, 8, 8, 8, 8, 8, 8, 8, 8, 8, 8, 8, 8, 8, 8, 8, 8, 8, 8, 8, 8, 8, 8, 8, 8, 8, 8, 8].append [8, 8, 8, 8, 8, 8, 8, 8, 8, 8, 8, 8, 8, 8, 8, 8, 8, 8, 8, 8, 8, 8, 8, 8, 8, 8, 8, 8, 8, 8, 8, 8, 8, 8, 8, 8, 8, 8, 8, 8, 8, 8, 8, 8, 8, 8, 8, 8, 8, 8, 8, 8, 8, 8, 8, 8, 8, 8, 8, 8, 8, 8, 8, 8])).toArray }) v47).bind fun v49 =>
obH (cv 5 3 v49 h48) fun v50 h51 =>
(bn .add 3 v37 v50).bind fun v52 =>
k .ret ⟨ar 25 (up x [(0,v36),(2,v52),(3,(x 0)),(4,v0),(7,(x 0)),(8,v35),(9,(x 0)),(10,v36),(11,(.int .i64 0)),(12,v37),(13,v36),(14,v38),(19,v37),(20,v36),(21,v47),(22,v49),(23,v50),(24,v52)]), h51⟩)) (
(bn .geq 30 (x 0) (.int .u64 256)).bind fun v53 =>
cnd v53 (
(bn .shr 30 (x 0) (.int .u64 8)).bind fun v54 =>
(bn .add 3 (.int .i64 0) (.int .i64 8)).bind fun v55 =>
obH (cv 30 5 v54 h) fun v56 h57 =>
(indexV Try.prog 9 (.string { data := (([0, 1, 2, 2, 3, 3, 3, 3, 4, 4, 4, 4, 4, 4, 4, 4, 5, 5, 5, 5, 5, 5, 5, 5, 5, 5, 5, 5, 5, 5, 5, 5, 6, 6, 6, 6, 6, 6, 6, 6, 6, 6, 6, 6, 6, 6, 6, 6, 6, 6, 6, 6, 6, 6, 6, 6, 6, 6, 6, 6, 6, 6, 6, 6].append [7, 7, 7, 7, 7, 7, 7, 7, 7, 7, 7, 7, 7, 7, 7, 7, 7, 7, 7, 7, 7, 7, 7, 7, 7, 7, 7, 7, 7, 7, 7, 7, 7, 7, 7, 7, 7, 7, 7, 7, 7, 7, 7, 7, 7, 7, 7, 7, 7, 7, 7, 7, 7, 7, 7, 7, 7, 7, 7, 7, 7, 7, 7, 7]).append ([8, 8, 8, 8, 8, 8, 8, 8, 8, 8, 8, 8, 8, 8, 8, 8, 8, 8, 8, 8, 8, 8, 8, 8, 8, 8, 8, 8, 8, 8, 8, 8, 8, 8, 8, 8, 8, 8, 8, 8, 8, 8, 8, 8, 8, 8, 8, 8, 8, 8, 8, 8, 8, 8, 8, 8, 8, 8, 8, 8, 8, 8, 8, 8].append [8, 8, 8, 8, 8, 8, 8, 8, 8, 8, 8, 8, 8, 8, 8, 8, 8, 8, 8, 8, 8, 8, 8, 8, 8, 8, 8, 8, 8, 8, 8, 8, 8, 8, 8, 8, 8, 8, 8, 8, 8, 8, 8, 8, 8, 8, 8, 8, 8, 8, 8, 8, 8, 8, 8, 8, 8, 8, 8, 8, 8, 8, 8, 8])).toArray }) v56).bind fun v58 =>
obH (cv 5 3 v58 h57) fun v59 h60 =>
(bn .add 3 v55 v59).bind fun v61 =>
k .ret ⟨ar 25 (up x [(0,v54),(2,v61),(3,(x 0)),(4,v0),(7,(x 0)),(8,v35),(13,(x 0)),(14,v53),(15,(x 0)),(16,v54),(17,(.int .i64 0)),(18,v55),(19,v55),(20,v54),(21,v56),(22,v58),(23,v59),(24,v61)]), h60⟩) (
obH (cv 30 5 (x 0) h) fun v62 h63 =>
(indexV Try.prog 9 (.string { data := (([0, 1, 2, 2, 3, 3, 3, 3, 4, 4, 4, 4, 4, 4, 4, 4, 5, 5, 5, 5, 5, 5, 5, 5, 5, 5, 5, 5, 5, 5, 5, 5, 6, 6, 6, 6, 6, 6, 6, 6, 6, 6, 6, 6, 6, 6, 6, 6, 6, 6, 6, 6, 6, 6, 6, 6, 6, 6, 6, 6, 6, 6, 6, 6].append [7, 7, 7, 7, 7, 7, 7, 7, 7, 7, 7, 7, 7, 7, 7, 7, 7, 7, 7, 7, 7, 7, 7, 7, 7, 7, 7, 7, 7, 7, 7, 7, 7, 7, 7, 7, 7, 7, 7, 7, 7, 7, 7, 7, 7, 7, 7, 7, 7, 7, 7, 7, 7, 7, 7, 7, 7, 7, 7, 7, 7, 7, 7, 7]).append ([8, 8, 8, 8, 8, 8, 8, 8, 8, 8, 8, 8, 8, 8, 8, 8, 8, 8, 8, 8, 8, 8, 8, 8, 8, 8, 8, 8, 8, 8, 8, 8, 8, 8, 8, 8, 8, 8, 8, 8, 8, 8, 8, 8, 8, 8, 8, 8, 8, 8, 8, 8, 8, 8, 8, 8, 8, 8, 8, 8, 8, 8, 8, 8].append [8, 8, 8, 8, 8, 8, 8, 8, 8, 8, 8, 8, 8, 8, 8, 8, 8, 8, 8, 8, 8, 8, 8, 8, 8, 8, 8, 8, 8, 8, 8, 8, 8, 8, 8, 8, 8, 8, 8, 8, 8, 8, 8, 8, 8, 8, 8, 8, 8, 8, 8, 8, 8, 8, 8, 8, 8, 8, 8, 8, 8, 8, 8, 8])).toArray }) v62).bind fun v64 =>
obH (cv 5 3 v64 h63) fun v65 h66 =>
(bn .add 3 (.int .i64 0) v65).bind fun v67 =>
k .ret ⟨ar 25 (up x [(2,v67),(3,(x 0)),(4,v0),(7,(x 0)),(8,v35),(13,(x 0)),(14,v53),(19,(.int .i64 0)),(20,(x 0)),(21,v62),(22,v64),(23,v65),(24,v67)]), h66⟩))) := by kernel_rfl
theorem call34 (a0 : Value) : evC Try.prog 34 #[a0] h = cK c34_0 25 (up un [(0,a0)]) (nm h) (retK Try.f34 Try.prog h) :=
  (evC_call 34 Try.f34 c34_0 Try.func34 (by kernel_rfl) #[a0] h).trans (by kernel_rfl)
noncomputable def c23_0 : Code := bodyC Try.f23 []
theorem c23_0_eq : cK c23_0 8 x h k =
cnd (.bool false) (
obH (cv 67 78 (x 0) h) fun v0 h1 =>
obH (ev 33 #[v0] h1) fun v2 h3 =>
k .ret ⟨ar 8 (up x [(2,v2),(3,(x 0)),(4,v0),(5,v2)]), h3⟩) (
obH (ev 34 #[x 0] h) fun v4 h5 =>
k .ret ⟨ar 8 (up x [(2,v4),(6,(x 0)),(7,v4)]), h5⟩) := by kernel_rfl
theorem call23 (a0 : Value) : evC Try.prog 23 #[a0] h = cK c23_0 8 (up un [(0,a0)]) (nm h) (retK Try.f23 Try.prog h) :=
  (evC_call 23 Try.f23 c23_0 Try.func23 (by kernel_rfl) #[a0] h).trans (by kernel_rfl)
theorem ret23 : retK Try.f23 Try.prog g .ret ⟨ar 8 x, h⟩ = fin g (some (x 2)) h := by kernel_rfl
noncomputable def c22_0 : Code := bodyC Try.f22 []
noncomputable def c22_1 : Code := bodyC Try.f22 [true, true, false, false]
theorem c22_0_eq : cK c22_0 134 x h k =
lK c22_1 134 (up x [(8,(.bool true)),(9,(.bool true))]) h (blockK 0 k) := by kernel_rfl
theorem c22_1_eq : cK c22_1 134 x h k =
(bn .sub 3 (x 2) (x 1)).bind fun v0 =>
(bn .leq 3 v0 (.int .i64 12)).bind fun v1 =>
cnd v1 (
obH (ev 24 #[x 0,x 1,x 2] h) fun v2 h3 =>
k .ret ⟨ar 134 (up x [(10,v0),(19,(x 2)),(20,(x 1)),(21,v0),(22,v0),(23,v1),(24,(x 0)),(25,(x 1)),(26,(x 2)),(27,v2)]), h3⟩) (
(bn .eql 3 (x 3) (.int .i64 0)).bind fun v4 =>
cnd v4 (
obH (ev 25 #[x 0,x 1,x 2] h) fun v5 h6 =>
k .ret ⟨ar 134 (up x [(10,v0),(19,(x 2)),(20,(x 1)),(21,v0),(22,v0),(23,v1),(28,(x 3)),(29,v4),(30,(x 0)),(31,(x 1)),(32,(x 2)),(33,v5)]), h6⟩) (
(unV Try.prog .not (x 8)).bind fun v7 =>
cnd v7 (
obH (ev 26 #[x 0,x 1,x 2] h) fun v8 h9 =>
(bn .sub 3 (x 3) (.int .i64 1)).bind fun v10 =>
obH (ev 27 #[x 0,x 1,x 2] h9) fun v11 h12 =>
(extractV v11 0).bind fun v13 =>
(extractV v11 1).bind fun v14 =>
(bn .eql 69 v14 (.int .i64 2)).bind fun v15 =>
cnd v15 (
obH (ev 28 #[x 0,x 1,x 2] h12) fun v16 h17 =>
(bn .sub 3 (x 2) (.int .i64 1)).bind fun v18 =>
(bn .sub 3 v13 (x 1)).bind fun v19 =>
(bn .sub 3 v18 v19).bind fun v20 =>
(pickV (x 8) (gdV (wt (x 8) true) (x 9)) (.bool false)).bind fun v21 =>
(gd (wt v21 true) (bn .eql 69 (gdV (wt v21 true) (.int .i64 1)) (.int .i64 1))).bind fun v22 =>
(pickV v21 v22 (.bool false)).bind fun v23 =>
cnd v23 (
obH (ev 29 #[x 0,x 1,x 2] h17) fun v24 h25 =>
cnd v24 (
k .ret ⟨ar 134 (up x [(3,v10),(10,v0),(11,v20),(12,(.int .i64 1)),(19,(x 2)),(20,(x 1)),(21,v0),(22,v0),(23,v1),(28,(x 3)),(29,v4),(34,(x 8)),(35,v7),(36,(x 0)),(37,(x 1)),(38,(x 2)),(39,v8),(40,(x 3)),(41,v10),(42,v11),(43,(x 0)),(44,(x 1)),(45,(x 2)),(46,v11),(47,v13),(48,v14),(49,v14),(50,v15),(51,(x 0)),(52,(x 1)),(53,(x 2)),(54,v16),(55,(x 2)),(56,v18),(57,v13),(58,(x 1)),(59,v19),(60,v20),(61,(x 8)),(62,(x 8)),(63,(gdV (wt (x 8) true) (x 9))),(64,v21),(65,v21),(66,(gdV (wt v21 true) (.int .i64 1))),(67,v22),(68,v23),(69,(x 0)),(70,(x 1)),(71,(x 2)),(72,v24)]), h25⟩) (
(bn .gtr 3 (x 1) (.int .i64 0)).bind fun v26 =>
(gd (wt v26 true) (bn .sub 3 (gdV (wt v26 true) (x 1)) (.int .i64 1))).bind fun v27 =>
(gd (wt v26 true) (ia 32 (gdV (wt v26 true) (x 0)) v27)).bind fun v28 =>
(gd (wt v26 true) (ld 30 v28 h25)).bind fun v29 =>
(gd (wt v26 true) (ia 32 (gdV (wt v26 true) (x 0)) (gdV (wt v26 true) v20))).bind fun v30 =>
(gd (wt v26 true) (ld 30 v30 h25)).bind fun v31 =>
obH (gdH (wt v26 true) h25 (ev 30 #[v29,v31] h25)) fun v32 h33 =>
(gd (wt v26 true) (unV Try.prog .not v32)).bind fun v34 =>
(pickV v26 v34 (.bool false)).bind fun v35 =>
cnd v35 (
obH (ev 31 #[x 0,x 1,x 2,v20] h33) fun v36 h37 =>
k .normal ⟨ar 134 (up x [(1,v36),(3,v10),(10,v0),(11,v20),(12,(.int .i64 1)),(13,v36),(19,(x 2)),(20,(x 1)),(21,v0),(22,v0),(23,v1),(28,(x 3)),(29,v4),(34,(x 8)),(35,v7),(36,(x 0)),(37,(x 1)),(38,(x 2)),(39,v8),(40,(x 3)),(41,v10),(42,v11),(43,(x 0)),(44,(x 1)),(45,(x 2)),(46,v11),(47,v13),(48,v14),(49,v14),(50,v15),(51,(x 0)),(52,(x 1)),(53,(x 2)),(54,v16),(55,(x 2)),(56,v18),(57,v13),(58,(x 1)),(59,v19),(60,v20),(61,(x 8)),(62,(x 8)),(63,(gdV (wt (x 8) true) (x 9))),(64,v21),(65,v21),(66,(gdV (wt v21 true) (.int .i64 1))),(67,v22),(68,v23),(69,(x 0)),(70,(x 1)),(71,(x 2)),(72,v24),(73,(x 1)),(74,v26),(75,v26),(76,(gdV (wt v26 true) (x 0))),(77,(gdV (wt v26 true) (x 1))),(78,v27),(79,v28),(80,v29),(81,(gdV (wt v26 true) (x 0))),(82,(gdV (wt v26 true) v20)),(83,v30),(84,v31),(85,v32),(86,v34),(87,v35),(88,(x 0)),(89,(x 1)),(90,(x 2)),(91,v20),(92,v36),(93,v36)]), h37⟩) (
obH (ev 32 #[x 0,x 1,x 2,v20] h33) fun v38 h39 =>
(extractV v38 0).bind fun v40 =>
(extractV v38 1).bind fun v41 =>
(bn .sub 3 v40 (x 1)).bind fun v42 =>
(bn .sub 3 (x 2) v40).bind fun v43 =>
(bn .quo 3 v0 (.int .i64 8)).bind fun v44 =>
(bn .lss 3 v42 v43).bind fun v45 =>
cnd v45 (
(bn .geq 3 v42 v44).bind fun v46 =>
obH (ev 22 #[x 0,x 1,v40,v10] h39) fun v47 h48 =>
(bn .add 3 v40 (.int .i64 1)).bind fun v49 =>
k .normal ⟨ar 134 (up x [(1,v49),(3,v10),(8,v46),(9,v41),(10,v0),(11,v20),(12,(.int .i64 1)),(14,v40),(15,v41),(16,v42),(17,v43),(18,v44),(19,(x 2)),(20,(x 1)),(21,v0),(22,v0),(23,v1),(28,(x 3)),(29,v4),(34,(x 8)),(35,v7),(36,(x 0)),(37,(x 1)),(38,(x 2)),(39,v8),(40,(x 3)),(41,v10),(42,v11),(43,(x 0)),(44,(x 1)),(45,(x 2)),(46,v11),(47,v13),(48,v14),(49,v14),(50,v15),(51,(x 0)),(52,(x 1)),(53,(x 2)),(54,v16),(55,(x 2)),(56,v18),(57,v13),(58,(x 1)),(59,v19),(60,v20),(61,(x 8)),(62,(x 8)),(63,(gdV (wt (x 8) true) (x 9))),(64,v21),(65,v21),(66,(gdV (wt v21 true) (.int .i64 1))),(67,v22),(68,v23),(69,(x 0)),(70,(x 1)),(71,(x 2)),(72,v24),(73,(x 1)),(74,v26),(75,v26),(76,(gdV (wt v26 true) (x 0))),(77,(gdV (wt v26 true) (x 1))),(78,v27),(79,v28),(80,v29),(81,(gdV (wt v26 true) (x 0))),(82,(gdV (wt v26 true) v20)),(83,v30),(84,v31),(85,v32),(86,v34),(87,v35),(94,v38),(95,(x 0)),(96,(x 1)),(97,(x 2)),(98,v20),(99,v38),(100,v40),(101,v41),(102,v41),(103,v40),(104,(x 1)),(105,v42),(106,(x 2)),(107,v40),(108,v43),(109,v0),(110,v44),(111,v42),(112,v43),(113,v45),(114,v42),(115,v44),(116,v46),(117,(x 0)),(118,(x 1)),(119,v40),(120,v10),(121,v47),(122,v40),(123,v49)]), h48⟩) (
(bn .geq 3 v43 v44).bind fun v50 =>
(bn .add 3 v40 (.int .i64 1)).bind fun v51 =>
obH (ev 22 #[x 0,v51,x 2,v10] h39) fun v52 h53 =>
k .normal ⟨ar 134 (up x [(2,v40),(3,v10),(8,v50),(9,v41),(10,v0),(11,v20),(12,(.int .i64 1)),(14,v40),(15,v41),(16,v42),(17,v43),(18,v44),(19,(x 2)),(20,(x 1)),(21,v0),(22,v0),(23,v1),(28,(x 3)),(29,v4),(34,(x 8)),(35,v7),(36,(x 0)),(37,(x 1)),(38,(x 2)),(39,v8),(40,(x 3)),(41,v10),(42,v11),(43,(x 0)),(44,(x 1)),(45,(x 2)),(46,v11),(47,v13),(48,v14),(49,v14),(50,v15),(51,(x 0)),(52,(x 1)),(53,(x 2)),(54,v16),(55,(x 2)),(56,v18),(57,v13),(58,(x 1)),(59,v19),(60,v20),(61,(x 8)),(62,(x 8)),(63,(gdV (wt (x 8) true) (x 9))),(64,v21),(65,v21),(66,(gdV (wt v21 true) (.int .i64 1))),(67,v22),(68,v23),(69,(x 0)),(70,(x 1)),(71,(x 2)),(72,v24),(73,(x 1)),(74,v26),(75,v26),(76,(gdV (wt v26 true) (x 0))),(77,(gdV (wt v26 true) (x 1))),(78,v27),(79,v28),(80,v29),(81,(gdV (wt v26 true) (x 0))),(82,(gdV (wt v26 true) v20)),(83,v30),(84,v31),(85,v32),(86,v34),(87,v35),(94,v38),(95,(x 0)),(96,(x 1)),(97,(x 2)),(98,v20),(99,v38),(100,v40),(101,v41),(102,v41),(103,v40),(104,(x 1)),(105,v42),(106,(x 2)),(107,v40),(108,v43),(109,v0),(110,v44),(111,v42),(112,v43),(113,v45),(124,v43),(125,v44),(126,v50),(127,(x 0)),(128,v40),(129,v51),(130,(x 2)),(131,v10),(132,v52),(133,v40)]), h53⟩)))) (
(bn .gtr 3 (x 1) (.int .i64 0)).bind fun v54 =>
(gd (wt v54 true) (bn .sub 3 (gdV (wt v54 true) (x 1)) (.int .i64 1))).bind fun v55 =>
(gd (wt v54 true) (ia 32 (gdV (wt v54 true) (x 0)) v55)).bind fun v56 =>
(gd (wt v54 true) (ld 30 v56 h17)).bind fun v57 =>
(gd (wt v54 true) (ia 32 (gdV (wt v54 true) (x 0)) (gdV (wt v54 true) v20))).bind fun v58 =>
(gd (wt v54 true) (ld 30 v58 h17)).bind fun v59 =>
obH (gdH (wt v54 true) h17 (ev 30 #[v57,v59] h17)) fun v60 h61 =>
(gd (wt v54 true) (unV Try.prog .not v60)).bind fun v62 =>
(pickV v54 v62 (.bool false)).bind fun v63 =>
cnd v63 (
obH (ev 31 #[x 0,x 1,x 2,v20] h61) fun v64 h65 =>
k .normal ⟨ar 134 (up x [(1,v64),(3,v10),(10,v0),(11,v20),(12,(.int .i64 1)),(13,v64),(19,(x 2)),(20,(x 1)),(21,v0),(22,v0),(23,v1),(28,(x 3)),(29,v4),(34,(x 8)),(35,v7),(36,(x 0)),(37,(x 1)),(38,(x 2)),(39,v8),(40,(x 3)),(41,v10),(42,v11),(43,(x 0)),(44,(x 1)),(45,(x 2)),(46,v11),(47,v13),(48,v14),(49,v14),(50,v15),(51,(x 0)),(52,(x 1)),(53,(x 2)),(54,v16),(55,(x 2)),(56,v18),(57,v13),(58,(x 1)),(59,v19),(60,v20),(61,(x 8)),(62,(x 8)),(63,(gdV (wt (x 8) true) (x 9))),(64,v21),(65,v21),(66,(gdV (wt v21 true) (.int .i64 1))),(67,v22),(68,v23),(73,(x 1)),(74,v54),(75,v54),(76,(gdV (wt v54 true) (x 0))),(77,(gdV (wt v54 true) (x 1))),(78,v55),(79,v56),(80,v57),(81,(gdV (wt v54 true) (x 0))),(82,(gdV (wt v54 true) v20)),(83,v58),(84,v59),(85,v60),(86,v62),(87,v63),(88,(x 0)),(89,(x 1)),(90,(x 2)),(91,v20),(92,v64),(93,v64)]), h65⟩) (
obH (ev 32 #[x 0,x 1,x 2,v20] h61) fun v66 h67 =>
(extractV v66 0).bind fun v68 =>
(extractV v66 1).bind fun v69 =>
(bn .sub 3 v68 (x 1)).bind fun v70 =>
(bn .sub 3 (x 2) v68).bind fun v71 =>
(bn .quo 3 v0 (.int .i64 8)).bind fun v72 =>
(bn .lss 3 v70 v71).bind fun v73 =>
cnd v73 (
(bn .geq 3 v70 v72).bind fun v74 =>
obH (ev 22 #[x 0,x 1,v68,v10] h67) fun v75 h76 =>
(bn .add 3 v68 (.int .i64 1)).bind fun v77 =>
k .normal ⟨ar 134 (up x [(1,v77),(3,v10),(8,v74),(9,v69),(10,v0),(11,v20),(12,(.int .i64 1)),(14,v68),(15,v69),(16,v70),(17,v71),(18,v72),(19,(x 2)),(20,(x 1)),(21,v0),(22,v0),(23,v1),(28,(x 3)),(29,v4),(34,(x 8)),(35,v7),(36,(x 0)),(37,(x 1)),(38,(x 2)),(39,v8),(40,(x 3)),(41,v10),(42,v11),(43,(x 0)),(44,(x 1)),(45,(x 2)),(46,v11),(47,v13),(48,v14),(49,v14),(50,v15),(51,(x 0)),(52,(x 1)),(53,(x 2)),(54,v16),(55,(x 2)),(56,v18),(57,v13),(58,(x 1)),(59,v19),(60,v20),(61,(x 8)),(62,(x 8)),(63,(gdV (wt (x 8) true) (x 9))),(64,v21),(65,v21),(66,(gdV (wt v21 true) (.int .i64 1))),(67,v22),(68,v23),(73,(x 1)),(74,v54),(75,v54),(76,(gdV (wt v54 true) (x 0))),(77,(gdV (wt v54 true) (x 1))),(78,v55),(79,v56),(80,v57),(81,(gdV (wt v54 true) (x 0))),(82,(gdV (wt v54 true) v20)),(83,v58),(84,v59),(85,v60),(86,v62),(87,v63),(94,v66),(95,(x 0)),(96,(x 1)),(97,(x 2)),(98,v20),(99,v66),(100,v68),(101,v69),(102,v69),(103,v68),(104,(x 1)),(105,v70),(106,(x 2)),(107,v68),(108,v71),(109,v0),(110,v72),(111,v70),(112,v71),(113,v73),(114,v70),(115,v72),(116,v74),(117,(x 0)),(118,(x 1)),(119,v68),(120,v10),(121,v75),(122,v68),(123,v77)]), h76⟩) (
(bn .geq 3 v71 v72).bind fun v78 =>
(bn .add 3 v68 (.int .i64 1)).bind fun v79 =>
obH (ev 22 #[x 0,v79,x 2,v10] h67) fun v80 h81 =>
k .normal ⟨ar 134 (up x [(2,v68),(3,v10),(8,v78),(9,v69),(10,v0),(11,v20),(12,(.int .i64 1)),(14,v68),(15,v69),(16,v70),(17,v71),(18,v72),(19,(x 2)),(20,(x 1)),(21,v0),(22,v0),(23,v1),(28,(x 3)),(29,v4),(34,(x 8)),(35,v7),(36,(x 0)),(37,(x 1)),(38,(x 2)),(39,v8),(40,(x 3)),(41,v10),(42,v11),(43,(x 0)),(44,(x 1)),(45,(x 2)),(46,v11),(47,v13),(48,v14),(49,v14),(50,v15),(51,(x 0)),(52,(x 1)),(53,(x 2)),(54,v16),(55,(x 2)),(56,v18),(57,v13),(58,(x 1)),(59,v19),(60,v20),(61,(x 8)),(62,(x 8)),(63,(gdV (wt (x 8) true) (x 9))),(64,v21),(65,v21),(66,(gdV (wt v21 true) (.int .i64 1))),(67,v22),(68,v23),(73,(x 1)),(74,v54),(75,v54),(76,(gdV (wt v54 true) (x 0))),(77,(gdV (wt v54 true) (x 1))),(78,v55),(79,v56),(80,v57),(81,(gdV (wt v54 true) (x 0))),(82,(gdV (wt v54 true) v20)),(83,v58),(84,v59),(85,v60),(86,v62),(87,v63),(94,v66),(95,(x 0)),(96,(x 1)),(97,(x 2)),(98,v20),(99,v66),(100,v68),(101,v69),(102,v69),(103,v68),(104,(x 1)),(105,v70),(106,(x 2)),(107,v68),(108,v71),(109,v0),(110,v72),(111,v70),(112,v71),(113,v73),(124,v71),(125,v72),(126,v78),(127,(x 0)),(128,v68),(129,v79),(130,(x 2)),(131,v10),(132,v80),(133,v68)]), h81⟩)))) (
(pickV (x 8) (gdV (wt (x 8) true) (x 9)) (.bool false)).bind fun v82 =>
(gd (wt v82 true) (bn .eql 69 (gdV (wt v82 true) v14) (.int .i64 1))).bind fun v83 =>
(pickV v82 v83 (.bool false)).bind fun v84 =>
cnd v84 (
obH (ev 29 #[x 0,x 1,x 2] h12) fun v85 h86 =>
cnd v85 (
k .ret ⟨ar 134 (up x [(3,v10),(10,v0),(11,v13),(12,v14),(19,(x 2)),(20,(x 1)),(21,v0),(22,v0),(23,v1),(28,(x 3)),(29,v4),(34,(x 8)),(35,v7),(36,(x 0)),(37,(x 1)),(38,(x 2)),(39,v8),(40,(x 3)),(41,v10),(42,v11),(43,(x 0)),(44,(x 1)),(45,(x 2)),(46,v11),(47,v13),(48,v14),(49,v14),(50,v15),(61,(x 8)),(62,(x 8)),(63,(gdV (wt (x 8) true) (x 9))),(64,v82),(65,v82),(66,(gdV (wt v82 true) v14)),(67,v83),(68,v84),(69,(x 0)),(70,(x 1)),(71,(x 2)),(72,v85)]), h86⟩) (
(bn .gtr 3 (x 1) (.int .i64 0)).bind fun v87 =>
(gd (wt v87 true) (bn .sub 3 (gdV (wt v87 true) (x 1)) (.int .i64 1))).bind fun v88 =>
(gd (wt v87 true) (ia 32 (gdV (wt v87 true) (x 0)) v88)).bind fun v89 =>
(gd (wt v87 true) (ld 30 v89 h86)).bind fun v90 =>
(gd (wt v87 true) (ia 32 (gdV (wt v87 true) (x 0)) (gdV (wt v87 true) v13))).bind fun v91 =>
(gd (wt v87 true) (ld 30 v91 h86)).bind fun v92 =>
obH (gdH (wt v87 true) h86 (ev 30 #[v90,v92] h86)) fun v93 h94 =>
(gd (wt v87 true) (unV Try.prog .not v93)).bind fun v95 =>
(pickV v87 v95 (.bool false)).bind fun v96 =>
cnd v96 (
obH (ev 31 #[x 0,x 1,x 2,v13] h94) fun v97 h98 =>
k .normal ⟨ar 134 (up x [(1,v97),(3,v10),(10,v0),(11,v13),(12,v14),(13,v97),(19,(x 2)),(20,(x 1)),(21,v0),(22,v0),(23,v1),(28,(x 3)),(29,v4),(34,(x 8)),(35,v7),(36,(x 0)),(37,(x 1)),(38,(x 2)),(39,v8),(40,(x 3)),(41,v10),(42,v11),(43,(x 0)),(44,(x 1)),(45,(x 2)),(46,v11),(47,v13),(48,v14),(49,v14),(50,v15),(61,(x 8)),(62,(x 8)),(63,(gdV (wt (x 8) true) (x 9))),(64,v82),(65,v82),(66,(gdV (wt v82 true) v14)),(67,v83),(68,v84),(69,(x 0)),(70,(x 1)),(71,(x 2)),(72,v85),(73,(x 1)),(74,v87),(75,v87),(76,(gdV (wt v87 true) (x 0))),(77,(gdV (wt v87 true) (x 1))),(78,v88),(79,v89),(80,v90),(81,(gdV (wt v87 true) (x 0))),(82,(gdV (wt v87 true) v13)),(83,v91),(84,v92),(85,v93),(86,v95),(87,v96),(88,(x 0)),(89,(x 1)),(90,(x 2)),(91,v13),(92,v97),(93,v97)]), h98⟩) (
obH (ev 32 #[x 0,x 1,x 2,v13] h94) fun v99 h100 =>
(extractV v99 0).bind fun v101 =>
(extractV v99 1).bind fun v102 =>
(bn .sub 3 v101 (x 1)).bind fun v103 =>
(bn .sub 3 (x 2) v101).bind fun v104 =>
(bn .quo 3 v0 (.int .i64 8)).bind fun v105 =>
(bn .lss 3 v103 v104).bind fun v106 =>
cnd v106 (
(bn .geq 3 v103 v105).bind fun v107 =>
obH (ev 22 #[x 0,x 1,v101,v10] h100) fun v108 h109 =>
(bn .add 3 v101 (.int .i64 1)).bind fun v110 =>
k .normal ⟨ar 134 (up x [(1,v110),(3,v10),(8,v107),(9,v102),(10,v0),(11,v13),(12,v14),(14,v101),(15,v102),(16,v103),(17,v104),(18,v105),(19,(x 2)),(20,(x 1)),(21,v0),(22,v0),(23,v1),(28,(x 3)),(29,v4),(34,(x 8)),(35,v7),(36,(x 0)),(37,(x 1)),(38,(x 2)),(39,v8),(40,(x 3)),(41,v10),(42,v11),(43,(x 0)),(44,(x 1)),(45,(x 2)),(46,v11),(47,v13),(48,v14),(49,v14),(50,v15),(61,(x 8)),(62,(x 8)),(63,(gdV (wt (x 8) true) (x 9))),(64,v82),(65,v82),(66,(gdV (wt v82 true) v14)),(67,v83),(68,v84),(69,(x 0)),(70,(x 1)),(71,(x 2)),(72,v85),(73,(x 1)),(74,v87),(75,v87),(76,(gdV (wt v87 true) (x 0))),(77,(gdV (wt v87 true) (x 1))),(78,v88),(79,v89),(80,v90),(81,(gdV (wt v87 true) (x 0))),(82,(gdV (wt v87 true) v13)),(83,v91),(84,v92),(85,v93),(86,v95),(87,v96),(94,v99),(95,(x 0)),(96,(x 1)),(97,(x 2)),(98,v13),(99,v99),(100,v101),(101,v102),(102,v102),(103,v101),(104,(x 1)),(105,v103),(106,(x 2)),(107,v101),(108,v104),(109,v0),(110,v105),(111,v103),(112,v104),(113,v106),(114,v103),(115,v105),(116,v107),(117,(x 0)),(118,(x 1)),(119,v101),(120,v10),(121,v108),(122,v101),(123,v110)]), h109⟩) (
(bn .geq 3 v104 v105).bind fun v111 =>
(bn .add 3 v101 (.int .i64 1)).bind fun v112 =>
obH (ev 22 #[x 0,v112,x 2,v10] h100) fun v113 h114 =>
k .normal ⟨ar 134 (up x [(2,v101),(3,v10),(8,v111),(9,v102),(10,v0),(11,v13),(12,v14),(14,v101),(15,v102),(16,v103),(17,v104),(18,v105),(19,(x 2)),(20,(x 1)),(21,v0),(22,v0),(23,v1),(28,(x 3)),(29,v4),(34,(x 8)),(35,v7),(36,(x 0)),(37,(x 1)),(38,(x 2)),(39,v8),(40,(x 3)),(41,v10),(42,v11),(43,(x 0)),(44,(x 1)),(45,(x 2)),(46,v11),(47,v13),(48,v14),(49,v14),(50,v15),(61,(x 8)),(62,(x 8)),(63,(gdV (wt (x 8) true) (x 9))),(64,v82),(65,v82),(66,(gdV (wt v82 true) v14)),(67,v83),(68,v84),(69,(x 0)),(70,(x 1)),(71,(x 2)),(72,v85),(73,(x 1)),(74,v87),(75,v87),(76,(gdV (wt v87 true) (x 0))),(77,(gdV (wt v87 true) (x 1))),(78,v88),(79,v89),(80,v90),(81,(gdV (wt v87 true) (x 0))),(82,(gdV (wt v87 true) v13)),(83,v91),(84,v92),(85,v93),(86,v95),(87,v96),(94,v99),(95,(x 0)),(96,(x 1)),(97,(x 2)),(98,v13),(99,v99),(100,v101),(101,v102),(102,v102),(103,v101),(104,(x 1)),(105,v103),(106,(x 2)),(107,v101),(108,v104),(109,v0),(110,v105),(111,v103),(112,v104),(113,v106),(124,v104),(125,v105),(126,v111),(127,(x 0)),(128,v101),(129,v112),(130,(x 2)),(131,v10),(132,v113),(133,v101)]), h114⟩)))) (
(bn .gtr 3 (x 1) (.int .i64 0)).bind fun v115 =>
(gd (wt v115 true) (bn .sub 3 (gdV (wt v115 true) (x 1)) (.int .i64 1))).bind fun v116 =>
(gd (wt v115 true) (ia 32 (gdV (wt v115 true) (x 0)) v116)).bind fun v117 =>
(gd (wt v115 true) (ld 30 v117 h12)).bind fun v118 =>
(gd (wt v115 true) (ia 32 (gdV (wt v115 true) (x 0)) (gdV (wt v115 true) v13))).bind fun v119 =>
(gd (wt v115 true) (ld 30 v119 h12)).bind fun v120 =>
obH (gdH (wt v115 true) h12 (ev 30 #[v118,v120] h12)) fun v121 h122 =>
(gd (wt v115 true) (unV Try.prog .not v121)).bind fun v123 =>
(pickV v115 v123 (.bool false)).bind fun v124 =>
cnd v124 (
obH (ev 31 #[x 0,x 1,x 2,v13] h122) fun v125 h126 =>
k .normal ⟨ar 134 (up x [(1,v125),(3,v10),(10,v0),(11,v13),(12,v14),(13,v125),(19,(x 2)),(20,(x 1)),(21,v0),(22,v0),(23,v1),(28,(x 3)),(29,v4),(34,(x 8)),(35,v7),(36,(x 0)),(37,(x 1)),(38,(x 2)),(39,v8),(40,(x 3)),(41,v10),(42,v11),(43,(x 0)),(44,(x 1)),(45,(x 2)),(46,v11),(47,v13),(48,v14),(49,v14),(50,v15),(61,(x 8)),(62,(x 8)),(63,(gdV (wt (x 8) true) (x 9))),(64,v82),(65,v82),(66,(gdV (wt v82 true) v14)),(67,v83),(68,v84),(73,(x 1)),(74,v115),(75,v115),(76,(gdV (wt v115 true) (x 0))),(77,(gdV (wt v115 true) (x 1))),(78,v116),(79,v117),(80,v118),(81,(gdV (wt v115 true) (x 0))),(82,(gdV (wt v115 true) v13)),(83,v119),(84,v120),(85,v121),(86,v123),(87,v124),(88,(x 0)),(89,(x 1)),(90,(x 2)),(91,v13),(92,v125),(93,v125)]), h126⟩) (
obH (ev 32 #[x 0,x 1,x 2,v13] h122) fun v127 h128 =>
(extractV v127 0).bind fun v129 =>
(extractV v127 1).bind fun v130 =>
(bn .sub 3 v129 (x 1)).bind fun v131 =>
(bn .sub 3 (x 2) v129).bind fun v132 =>
(bn .quo 3 v0 (.int .i64 8)).bind fun v133 =>
(bn .lss 3 v131 v132).bind fun v134 =>
cnd v134 (
(bn .geq 3 v131 v133).bind fun v135 =>
obH (ev 22 #[x 0,x 1,v129,v10] h128) fun v136 h137 =>
(bn .add 3 v129 (.int .i64 1)).bind fun v138 =>
k .normal ⟨ar 134 (up x [(1,v138),(3,v10),(8,v135),(9,v130),(10,v0),(11,v13),(12,v14),(14,v129),(15,v130),(16,v131),(17,v132),(18,v133),(19,(x 2)),(20,(x 1)),(21,v0),(22,v0),(23,v1),(28,(x 3)),(29,v4),(34,(x 8)),(35,v7),(36,(x 0)),(37,(x 1)),(38,(x 2)),(39,v8),(40,(x 3)),(41,v10),(42,v11),(43,(x 0)),(44,(x 1)),(45,(x 2)),(46,v11),(47,v13),(48,v14),(49,v14),(50,v15),(61,(x 8)),(62,(x 8)),(63,(gdV (wt (x 8) true) (x 9))),(64,v82),(65,v82),(66,(gdV (wt v82 true) v14)),(67,v83),(68,v84),(73,(x 1)),(74,v115),(75,v115),(76,(gdV (wt v115 true) (x 0))),(77,(gdV (wt v115 true) (x 1))),(78,v116),(79,v117),(80,v118),(81,(gdV (wt v115 true) (x 0))),(82,(gdV (wt v115 true) v13)),(83,v119),(84,v120),(85,v121),(86,v123),(87,v124),(94,v127),(95,(x 0)),(96,(x 1)),(97,(x 2)),(98,v13),(99,v127),(100,v129),(101,v130),(102,v130),(103,v129),(104,(x 1)),(105,v131),(106,(x 2)),(107,v129),(108,v132),(109,v0),(110,v133),(111,v131),(112,v132),(113,v134),(114,v131),(115,v133),(116,v135),(117,(x 0)),(118,(x 1)),(119,v129),(120,v10),(121,v136),(122,v129),(123,v138)]), h137⟩) (
(bn .geq 3 v132 v133).bind fun v139 =>
(bn .add 3 v129 (.int .i64 1)).bind fun v140 =>
obH (ev 22 #[x 0,v140,x 2,v10] h128) fun v141 h142 =>
k .normal ⟨ar 134 (up x [(2,v129),(3,v10),(8,v139),(9,v130),(10,v0),(11,v13),(12,v14),(14,v129),(15,v130),(16,v131),(17,v132),(18,v133),(19,(x 2)),(20,(x 1)),(21,v0),(22,v0),(23,v1),(28,(x 3)),(29,v4),(34,(x 8)),(35,v7),(36,(x 0)),(37,(x 1)),(38,(x 2)),(39,v8),(40,(x 3)),(41,v10),(42,v11),(43,(x 0)),(44,(x 1)),(45,(x 2)),(46,v11),(47,v13),(48,v14),(49,v14),(50,v15),(61,(x 8)),(62,(x 8)),(63,(gdV (wt (x 8) true) (x 9))),(64,v82),(65,v82),(66,(gdV (wt v82 true) v14)),(67,v83),(68,v84),(73,(x 1)),(74,v115),(75,v115),(76,(gdV (wt v115 true) (x 0))),(77,(gdV (wt v115 true) (x 1))),(78,v116),(79,v117),(80,v118),(81,(gdV (wt v115 true) (x 0))),(82,(gdV (wt v115 true) v13)),(83,v119),(84,v120),(85,v121),(86,v123),(87,v124),(94,v127),(95,(x 0)),(96,(x 1)),(97,(x 2)),(98,v13),(99,v127),(100,v129),(101,v130),(102,v130),(103,v129),(104,(x 1)),(105,v131),(106,(x 2)),(107,v129),(108,v132),(109,v0),(110,v133),(111,v131),(112,v132),(113,v134),(124,v132),(125,v133),(126,v139),(127,(x 0)),(128,v129),(129,v140),(130,(x 2)),(131,v10),(132,v141),(133,v129)]), h142⟩))))) (
obH (ev 27 #[x 0,x 1,x 2] h) fun v143 h144 =>
(extractV v143 0).bind fun v145 =>
(extractV v143 1).bind fun v146 =>
(bn .eql 69 v146 (.int .i64 2)).bind fun v147 =>
cnd v147 (
obH (ev 28 #[x 0,x 1,x 2] h144) fun v148 h149 =>
(bn .sub 3 (x 2) (.int .i64 1)).bind fun v150 =>
(bn .sub 3 v145 (x 1)).bind fun v151 =>
(bn .sub 3 v150 v151).bind fun v152 =>
(pickV (x 8) (gdV (wt (x 8) true) (x 9)) (.bool false)).bind fun v153 =>
(gd (wt v153 true) (bn .eql 69 (gdV (wt v153 true) (.int .i64 1)) (.int .i64 1))).bind fun v154 =>
(pickV v153 v154 (.bool false)).bind fun v155 =>
cnd v155 (
obH (ev 29 #[x 0,x 1,x 2] h149) fun v156 h157 =>
cnd v156 (
k .ret ⟨ar 134 (up x [(10,v0),(11,v152),(12,(.int .i64 1)),(19,(x 2)),(20,(x 1)),(21,v0),(22,v0),(23,v1),(28,(x 3)),(29,v4),(34,(x 8)),(35,v7),(42,v143),(43,(x 0)),(44,(x 1)),(45,(x 2)),(46,v143),(47,v145),(48,v146),(49,v146),(50,v147),(51,(x 0)),(52,(x 1)),(53,(x 2)),(54,v148),(55,(x 2)),(56,v150),(57,v145),(58,(x 1)),(59,v151),(60,v152),(61,(x 8)),(62,(x 8)),(63,(gdV (wt (x 8) true) (x 9))),(64,v153),(65,v153),(66,(gdV (wt v153 true) (.int .i64 1))),(67,v154),(68,v155),(69,(x 0)),(70,(x 1)),(71,(x 2)),(72,v156)]), h157⟩) (
(bn .gtr 3 (x 1) (.int .i64 0)).bind fun v158 =>
(gd (wt v158 true) (bn .sub 3 (gdV (wt v158 true) (x 1)) (.int .i64 1))).bind fun v159 =>
(gd (wt v158 true) (ia 32 (gdV (wt v158 true) (x 0)) v159)).bind fun v160 =>
(gd (wt v158 true) (ld 30 v160 h157)).bind fun v161 =>
(gd (wt v158 true) (ia 32 (gdV (wt v158 true) (x 0)) (gdV (wt v158 true) v152))).bind fun v162 =>
(gd (wt v158 true) (ld 30 v162 h157)).bind fun v163 =>
obH (gdH (wt v158 true) h157 (ev 30 #[v161,v163] h157)) fun v164 h165 =>
(gd (wt v158 true) (unV Try.prog .not v164)).bind fun v166 =>
(pickV v158 v166 (.bool false)).bind fun v167 =>
cnd v167 (
obH (ev 31 #[x 0,x 1,x 2,v152] h165) fun v168 h169 =>
k .normal ⟨ar 134 (up x [(1,v168),(10,v0),(11,v152),(12,(.int .i64 1)),(13,v168),(19,(x 2)),(20,(x 1)),(21,v0),(22,v0),(23,v1),(28,(x 3)),(29,v4),(34,(x 8)),(35,v7),(42,v143),(43,(x 0)),(44,(x 1)),(45,(x 2)),(46,v143),(47,v145),(48,v146),(49,v146),(50,v147),(51,(x 0)),(52,(x 1)),(53,(x 2)),(54,v148),(55,(x 2)),(56,v150),(57,v145),(58,(x 1)),(59,v151),(60,v152),(61,(x 8)),(62,(x 8)),(63,(gdV (wt (x 8) true) (x 9))),(64,v153),(65,v153),(66,(gdV (wt v153 true) (.int .i64 1))),(67,v154),(68,v155),(69,(x 0)),(70,(x 1)),(71,(x 2)),(72,v156),(73,(x 1)),(74,v158),(75,v158),(76,(gdV (wt v158 true) (x 0))),(77,(gdV (wt v158 true) (x 1))),(78,v159),(79,v160),(80,v161),(81,(gdV (wt v158 true) (x 0))),(82,(gdV (wt v158 true) v152)),(83,v162),(84,v163),(85,v164),(86,v166),(87,v167),(88,(x 0)),(89,(x 1)),(90,(x 2)),(91,v152),(92,v168),(93,v168)]), h169⟩) (
obH (ev 32 #[x 0,x 1,x 2,v152] h165) fun v170 h171 =>
(extractV v170 0).bind fun v172 =>
(extractV v170 1).bind fun v173 =>
(bn .sub 3 v172 (x 1)).bind fun v174 =>
(bn .sub 3 (x 2) v172).bind fun v175 =>
(bn .quo 3 v0 (.int .i64 8)).bind fun v176 =>
(bn .lss 3 v174 v175).bind fun v177 =>
cnd v177 (
(bn .geq 3 v174 v176).bind fun v178 =>
obH (ev 22 #[x 0,x 1,v172,x 3] h171) fun v179 h180 =>
(bn .add 3 v172 (.int .i64 1)).bind fun v181 =>
k .normal ⟨ar 134 (up x [(1,v181),(8,v178),(9,v173),(10,v0),(11,v152),(12,(.int .i64 1)),(14,v172),(15,v173),(16,v174),(17,v175),(18,v176),(19,(x 2)),(20,(x 1)),(21,v0),(22,v0),(23,v1),(28,(x 3)),(29,v4),(34,(x 8)),(35,v7),(42,v143),(43,(x 0)),(44,(x 1)),(45,(x 2)),(46,v143),(47,v145),(48,v146),(49,v146),(50,v147),(51,(x 0)),(52,(x 1)),(53,(x 2)),(54,v148),(55,(x 2)),(56,v150),(57,v145),(58,(x 1)),(59,v151),(60,v152),(61,(x 8)),(62,(x 8)),(63,(gdV (wt (x 8) true) (x 9))),(64,v153),(65,v153),(66,(gdV (wt v153 true) (.int .i64 1))),(67,v154),(68,v155),(69,(x 0)),(70,(x 1)),(71,(x 2)),(72,v156),(73,(x 1)),(74,v158),(75,v158),(76,(gdV (wt v158 true) (x 0))),(77,(gdV (wt v158 true) (x 1))),(78,v159),(79,v160),(80,v161),(81,(gdV (wt v158 true) (x 0))),(82,(gdV (wt v158 true) v152)),(83,v162),(84,v163),(85,v164),(86,v166),(87,v167),(94,v170),(95,(x 0)),(96,(x 1)),(97,(x 2)),(98,v152),(99,v170),(100,v172),(101,v173),(102,v173),(103,v172),(104,(x 1)),(105,v174),(106,(x 2)),(107,v172),(108,v175),(109,v0),(110,v176),(111,v174),(112,v175),(113,v177),(114,v174),(115,v176),(116,v178),(117,(x 0)),(118,(x 1)),(119,v172),(120,(x 3)),(121,v179),(122,v172),(123,v181)]), h180⟩) (
(bn .geq 3 v175 v176).bind fun v182 =>
(bn .add 3 v172 (.int .i64 1)).bind fun v183 =>
obH (ev 22 #[x 0,v183,x 2,x 3] h171) fun v184 h185 =>
k .normal ⟨ar 134 (up x [(2,v172),(8,v182),(9,v173),(10,v0),(11,v152),(12,(.int .i64 1)),(14,v172),(15,v173),(16,v174),(17,v175),(18,v176),(19,(x 2)),(20,(x 1)),(21,v0),(22,v0),(23,v1),(28,(x 3)),(29,v4),(34,(x 8)),(35,v7),(42,v143),(43,(x 0)),(44,(x 1)),(45,(x 2)),(46,v143),(47,v145),(48,v146),(49,v146),(50,v147),(51,(x 0)),(52,(x 1)),(53,(x 2)),(54,v148),(55,(x 2)),(56,v150),(57,v145),(58,(x 1)),(59,v151),(60,v152),(61,(x 8)),(62,(x 8)),(63,(gdV (wt (x 8) true) (x 9))),(64,v153),(65,v153),(66,(gdV (wt v153 true) (.int .i64 1))),(67,v154),(68,v155),(69,(x 0)),(70,(x 1)),(71,(x 2)),(72,v156),(73,(x 1)),(74,v158),(75,v158),(76,(gdV (wt v158 true) (x 0))),(77,(gdV (wt v158 true) (x 1))),(78,v159),(79,v160),(80,v161),(81,(gdV (wt v158 true) (x 0))),(82,(gdV (wt v158 true) v152)),(83,v162),(84,v163),(85,v164),(86,v166),(87,v167),(94,v170),(95,(x 0)),(96,(x 1)),(97,(x 2)),(98,v152),(99,v170),(100,v172),(101,v173),(102,v173),(103,v172),(104,(x 1)),(105,v174),(106,(x 2)),(107,v172),(108,v175),(109,v0),(110,v176),(111,v174),(112,v175),(113,v177),(124,v175),(125,v176),(126,v182),(127,(x 0)),(128,v172),(129,v183),(130,(x 2)),(131,(x 3)),(132,v184),(133,v172)]), h185⟩)))) (
(bn .gtr 3 (x 1) (.int .i64 0)).bind fun v186 =>
(gd (wt v186 true) (bn .sub 3 (gdV (wt v186 true) (x 1)) (.int .i64 1))).bind fun v187 =>
(gd (wt v186 true) (ia 32 (gdV (wt v186 true) (x 0)) v187)).bind fun v188 =>
(gd (wt v186 true) (ld 30 v188 h149)).bind fun v189 =>
(gd (wt v186 true) (ia 32 (gdV (wt v186 true) (x 0)) (gdV (wt v186 true) v152))).bind fun v190 =>
(gd (wt v186 true) (ld 30 v190 h149)).bind fun v191 =>
obH (gdH (wt v186 true) h149 (ev 30 #[v189,v191] h149)) fun v192 h193 =>
(gd (wt v186 true) (unV Try.prog .not v192)).bind fun v194 =>
(pickV v186 v194 (.bool false)).bind fun v195 =>
cnd v195 (
obH (ev 31 #[x 0,x 1,x 2,v152] h193) fun v196 h197 =>
k .normal ⟨ar 134 (up x [(1,v196),(10,v0),(11,v152),(12,(.int .i64 1)),(13,v196),(19,(x 2)),(20,(x 1)),(21,v0),(22,v0),(23,v1),(28,(x 3)),(29,v4),(34,(x 8)),(35,v7),(42,v143),(43,(x 0)),(44,(x 1)),(45,(x 2)),(46,v143),(47,v145),(48,v146),(49,v146),(50,v147),(51,(x 0)),(52,(x 1)),(53,(x 2)),(54,v148),(55,(x 2)),(56,v150),(57,v145),(58,(x 1)),(59,v151),(60,v152),(61,(x 8)),(62,(x 8)),(63,(gdV (wt (x 8) true) (x 9))),(64,v153),(65,v153),(66,(gdV (wt v153 true) (.int .i64 1))),(67,v154),(68,v155),(73,(x 1)),(74,v186),(75,v186),(76,(gdV (wt v186 true) (x 0))),(77,(gdV (wt v186 true) (x 1))),(78,v187),(79,v188),(80,v189),(81,(gdV (wt v186 true) (x 0))),(82,(gdV (wt v186 true) v152)),(83,v190),(84,v191),(85,v192),(86,v194),(87,v195),(88,(x 0)),(89,(x 1)),(90,(x 2)),(91,v152),(92,v196),(93,v196)]), h197⟩) (
obH (ev 32 #[x 0,x 1,x 2,v152] h193) fun v198 h199 =>
(extractV v198 0).bind fun v200 =>
(extractV v198 1).bind fun v201 =>
(bn .sub 3 v200 (x 1)).bind fun v202 =>
(bn .sub 3 (x 2) v200).bind fun v203 =>
(bn .quo 3 v0 (.int .i64 8)).bind fun v204 =>
(bn .lss 3 v202 v203).bind fun v205 =>
cnd v205 (
(bn .geq 3 v202 v204).bind fun v206 =>
obH (ev 22 #[x 0,x 1,v200,x 3] h199) fun v207 h208 =>
(bn .add 3 v200 (.int .i64 1)).bind fun v209 =>
k .normal ⟨ar 134 (up x [(1,v209),(8,v206),(9,v201),(10,v0),(11,v152),(12,(.int .i64 1)),(14,v200),(15,v201),(16,v202),(17,v203),(18,v204),(19,(x 2)),(20,(x 1)),(21,v0),(22,v0),(23,v1),(28,(x 3)),(29,v4),(34,(x 8)),(35,v7),(42,v143),(43,(x 0)),(44,(x 1)),(45,(x 2)),(46,v143),(47,v145),(48,v146),(49,v146),(50,v147),(51,(x 0)),(52,(x 1)),(53,(x 2)),(54,v148),(55,(x 2)),(56,v150),(57,v145),(58,(x 1)),(59,v151),(60,v152),(61,(x 8)),(62,(x 8)),(63,(gdV (wt (x 8) true) (x 9))),(64,v153),(65,v153),(66,(gdV (wt v153 true) (.int .i64 1))),(67,v154),(68,v155),(73,(x 1)),(74,v186),(75,v186),(76,(gdV (wt v186 true) (x 0))),(77,(gdV (wt v186 true) (x 1))),(78,v187),(79,v188),(80,v189),(81,(gdV (wt v186 true) (x 0))),(82,(gdV (wt v186 true) v152)),(83,v190),(84,v191),(85,v192),(86,v194),(87,v195),(94,v198),(95,(x 0)),(96,(x 1)),(97,(x 2)),(98,v152),(99,v198),(100,v200),(101,v201),(102,v201),(103,v200),(104,(x 1)),(105,v202),(106,(x 2)),(107,v200),(108,v203),(109,v0),(110,v204),(111,v202),(112,v203),(113,v205),(114,v202),(115,v204),(116,v206),(117,(x 0)),(118,(x 1)),(119,v200),(120,(x 3)),(121,v207),(122,v200),(123,v209)]), h208⟩) (
(bn .geq 3 v203 v204).bind fun v210 =>
(bn .add 3 v200 (.int .i64 1)).bind fun v211 =>
obH (ev 22 #[x 0,v211,x 2,x 3] h199) fun v212 h213 =>
k .normal ⟨ar 134 (up x [(2,v200),(8,v210),(9,v201),(10,v0),(11,v152),(12,(.int .i64 1)),(14,v200),(15,v201),(16,v202),(17,v203),(18,v204),(19,(x 2)),(20,(x 1)),(21,v0),(22,v0),(23,v1),(28,(x 3)),(29,v4),(34,(x 8)),(35,v7),(42,v143),(43,(x 0)),(44,(x 1)),(45,(x 2)),(46,v143),(47,v145),(48,v146),(49,v146),(50,v147),(51,(x 0)),(52,(x 1)),(53,(x 2)),(54,v148),(55,(x 2)),(56,v150),(57,v145),(58,(x 1)),(59,v151),(60,v152),(61,(x 8)),(62,(x 8)),(63,(gdV (wt (x 8) true) (x 9))),(64,v153),(65,v153),(66,(gdV (wt v153 true) (.int .i64 1))),(67,v154),(68,v155),(73,(x 1)),(74,v186),(75,v186),(76,(gdV (wt v186 true) (x 0))),(77,(gdV (wt v186 true) (x 1))),(78,v187),(79,v188),(80,v189),(81,(gdV (wt v186 true) (x 0))),(82,(gdV (wt v186 true) v152)),(83,v190),(84,v191),(85,v192),(86,v194),(87,v195),(94,v198),(95,(x 0)),(96,(x 1)),(97,(x 2)),(98,v152),(99,v198),(100,v200),(101,v201),(102,v201),(103,v200),(104,(x 1)),(105,v202),(106,(x 2)),(107,v200),(108,v203),(109,v0),(110,v204),(111,v202),(112,v203),(113,v205),(124,v203),(125,v204),(126,v210),(127,(x 0)),(128,v200),(129,v211),(130,(x 2)),(131,(x 3)),(132,v212),(133,v200)]), h213⟩)))) (
(pickV (x 8) (gdV (wt (x 8) true) (x 9)) (.bool false)).bind fun v214 =>
(gd (wt v214 true) (bn .eql 69 (gdV (wt v214 true) v146) (.int .i64 1))).bind fun v215 =>
(pickV v214 v215 (.bool false)).bind fun v216 =>
cnd v216 (
obH (ev 29 #[x 0,x 1,x 2] h144) fun v217 h218 =>
cnd v217 (
k .ret ⟨ar 134 (up x [(10,v0),(11,v145),(12,v146),(19,(x 2)),(20,(x 1)),(21,v0),(22,v0),(23,v1),(28,(x 3)),(29,v4),(34,(x 8)),(35,v7),(42,v143),(43,(x 0)),(44,(x 1)),(45,(x 2)),(46,v143),(47,v145),(48,v146),(49,v146),(50,v147),(61,(x 8)),(62,(x 8)),(63,(gdV (wt (x 8) true) (x 9))),(64,v214),(65,v214),(66,(gdV (wt v214 true) v146)),(67,v215),(68,v216),(69,(x 0)),(70,(x 1)),(71,(x 2)),(72,v217)]), h218⟩) (
(bn .gtr 3 (x 1) (.int .i64 0)).bind fun v219 =>
(gd (wt v219 true) (bn .sub 3 (gdV (wt v219 true) (x 1)) (.int .i64 1))).bind fun v220 =>
(gd (wt v219 true) (ia 32 (gdV (wt v219 true) (x 0)) v220)).bind fun v221 =>
(gd (wt v219 true) (ld 30 v221 h218)).bind fun v222 =>
(gd (wt v219 true) (ia 32 (gdV (wt v219 true) (x 0)) (gdV (wt v219 true) v145))).bind fun v223 =>
(gd (wt v219 true) (ld 30 v223 h218)).bind fun v224 =>
obH (gdH (wt v219 true) h218 (ev 30 #[v222,v224] h218)) fun v225 h226 =>
(gd (wt v219 true) (unV Try.prog .not v225)).bind fun v227 =>
(pickV v219 v227 (.bool false)).bind fun v228 =>
cnd v228 (
obH (ev 31 #[x 0,x 1,x 2,v145] h226) fun v229 h230 =>
k .normal ⟨ar 134 (up x [(1,v229),(10,v0),(11,v145),(12,v146),(13,v229),(19,(x 2)),(20,(x 1)),(21,v0),(22,v0),(23,v1),(28,(x 3)),(29,v4),(34,(x 8)),(35,v7),(42,v143),(43,(x 0)),(44,(x 1)),(45,(x 2)),(46,v143),(47,v145),(48,v146),(49,v146),(50,v147),(61,(x 8)),(62,(x 8)),(63,(gdV (wt (x 8) true) (x 9))),(64,v214),(65,v214),(66,(gdV (wt v214 true) v146)),(67,v215),(68,v216),(69,(x 0)),(70,(x 1)),(71,(x 2)),(72,v217),(73,(x 1)),(74,v219),(75,v219),(76,(gdV (wt v219 true) (x 0))),(77,(gdV (wt v219 true) (x 1))),(78,v220),(79,v221),(80,v222),(81,(gdV (wt v219 true) (x 0))),(82,(gdV (wt v219 true) v145)),(83,v223),(84,v224),(85,v225),(86,v227),(87,v228),(88,(x 0)),(89,(x 1)),(90,(x 2)),(91,v145),(92,v229),(93,v229)]), h230⟩) (
obH (ev 32 #[x 0,x 1,x 2,v145] h226) fun v231 h232 =>
(extractV v231 0).bind fun v233 =>
(extractV v231 1).bind fun v234 =>
(bn .sub 3 v233 (x 1)).bind fun v235 =>
(bn .sub 3 (x 2) v233).bind fun v236 =>
(bn .quo 3 v0 (.int .i64 8)).bind fun v237 =>
(bn .lss 3 v235 v236).bind fun v238 =>
cnd v238 (
(bn .geq 3 v235 v237).bind fun v239 =>
obH (ev 22 #[x 0,x 1,v233,x 3] h232) fun v240 h241 =>
(bn .add 3 v233 (.int .i64 1)).bind fun v242 =>
k .normal ⟨ar 134 (up x [(1,v242),(8,v239),(9,v234),(10,v0),(11,v145),(12,v146),(14,v233),(15,v234),(16,v235),(17,v236),(18,v237),(19,(x 2)),(20,(x 1)),(21,v0),(22,v0),(23,v1),(28,(x 3)),(29,v4),(34,(x 8)),(35,v7),(42,v143),(43,(x 0)),(44,(x 1)),(45,(x 2)),(46,v143),(47,v145),(48,v146),(49,v146),(50,v147),(61,(x 8)),(62,(x 8)),(63,(gdV (wt (x 8) true) (x 9))),(64,v214),(65,v214),(66,(gdV (wt v214 true) v146)),(67,v215),(68,v216),(69,(x 0)),(70,(x 1)),(71,(x 2)),(72,v217),(73,(x 1)),(74,v219),(75,v219),(76,(gdV (wt v219 true) (x 0))),(77,(gdV (wt v219 true) (x 1))),(78,v220),(79,v221),(80,v222),(81,(gdV (wt v219 true) (x 0))),(82,(gdV (wt v219 true) v145)),(83,v223),(84,v224),(85,v225),(86,v227),(87,v228),(94,v231),(95,(x 0)),(96,(x 1)),(97,(x 2)),(98,v145),(99,v231),(100,v233),(101,v234),(102,v234),(103,v233),(104,(x 1)),(105,v235),(106,(x 2)),(107,v233),(108,v236),(109,v0),(110,v237),(111,v235),(112,v236),(113,v238),(114,v235),(115,v237),(116,v239),(117,(x 0)),(118,(x 1)),(119,v233),(120,(x 3)),(121,v240),(122,v233),(123,v242)]), h241⟩) (
(bn .geq 3 v236 v237).bind fun v243 =>
(bn .add 3 v233 (.int .i64 1)).bind fun v244 =>
obH (ev 22 #[x 0,v244,x 2,x 3] h232) fun v245 h246 =>
k .normal ⟨ar 134 (up x [(2,v233),(8,v243),(9,v234),(10,v0),(11,v145),(12,v146),(14,v233),(15,v234),(16,v235),(17,v236),(18,v237),(19,(x 2)),(20,(x 1)),(21,v0),(22,v0),(23,v1),(28,(x 3)),(29,v4),(34,(x 8)),(35,v7),(42,v143),(43,(x 0)),(44,(x 1)),(45,(x 2)),(46,v143),(47,v145),(48,v146),(49,v146),(50,v147),(61,(x 8)),(62,(x 8)),(63,(gdV (wt (x 8) true) (x 9))),(64,v214),(65,v214),(66,(gdV (wt v214 true) v146)),(67,v215),(68,v216),(69,(x 0)),(70,(x 1)),(71,(x 2)),(72,v217),(73,(x 1)),(74,v219),(75,v219),(76,(gdV (wt v219 true) (x 0))),(77,(gdV (wt v219 true) (x 1))),(78,v220),(79,v221),(80,v222),(81,(gdV (wt v219 true) (x 0))),(82,(gdV (wt v219 true) v145)),(83,v223),(84,v224),(85,v225),(86,v227),(87,v228),(94,v231),(95,(x 0)),(96,(x 1)),(97,(x 2)),(98,v145),(99,v231),(100,v233),(101,v234),(102,v234),(103,v233),(104,(x 1)),(105,v235),(106,(x 2)),(107,v233),(108,v236),(109,v0),(110,v237),(111,v235),(112,v236),(113,v238),(124,v236),(125,v237),(126,v243),(127,(x 0)),(128,v233),(129,v244),(130,(x 2)),(131,(x 3)),(132,v245),(133,v233)]), h246⟩)))) (
(bn .gtr 3 (x 1) (.int .i64 0)).bind fun v247 =>
(gd (wt v247 true) (bn .sub 3 (gdV (wt v247 true) (x 1)) (.int .i64 1))).bind fun v248 =>
(gd (wt v247 true) (ia 32 (gdV (wt v247 true) (x 0)) v248)).bind fun v249 =>
(gd (wt v247 true) (ld 30 v249 h144)).bind fun v250 =>
(gd (wt v247 true) (ia 32 (gdV (wt v247 true) (x 0)) (gdV (wt v247 true) v145))).bind fun v251 =>
(gd (wt v247 true) (ld 30 v251 h144)).bind fun v252 =>
obH (gdH (wt v247 true) h144 (ev 30 #[v250,v252] h144)) fun v253 h254 =>
(gd (wt v247 true) (unV Try.prog .not v253)).bind fun v255 =>
(pickV v247 v255 (.bool false)).bind fun v256 =>
cnd v256 (
obH (ev 31 #[x 0,x 1,x 2,v145] h254) fun v257 h258 =>
k .normal ⟨ar 134 (up x [(1,v257),(10,v0),(11,v145),(12,v146),(13,v257),(19,(x 2)),(20,(x 1)),(21,v0),(22,v0),(23,v1),(28,(x 3)),(29,v4),(34,(x 8)),(35,v7),(42,v143),(43,(x 0)),(44,(x 1)),(45,(x 2)),(46,v143),(47,v145),(48,v146),(49,v146),(50,v147),(61,(x 8)),(62,(x 8)),(63,(gdV (wt (x 8) true) (x 9))),(64,v214),(65,v214),(66,(gdV (wt v214 true) v146)),(67,v215),(68,v216),(73,(x 1)),(74,v247),(75,v247),(76,(gdV (wt v247 true) (x 0))),(77,(gdV (wt v247 true) (x 1))),(78,v248),(79,v249),(80,v250),(81,(gdV (wt v247 true) (x 0))),(82,(gdV (wt v247 true) v145)),(83,v251),(84,v252),(85,v253),(86,v255),(87,v256),(88,(x 0)),(89,(x 1)),(90,(x 2)),(91,v145),(92,v257),(93,v257)]), h258⟩) (
obH (ev 32 #[x 0,x 1,x 2,v145] h254) fun v259 h260 =>
(extractV v259 0).bind fun v261 =>
(extractV v259 1).bind fun v262 =>
(bn .sub 3 v261 (x 1)).bind fun v263 =>
(bn .sub 3 (x 2) v261).bind fun v264 =>
(bn .quo 3 v0 (.int .i64 8)).bind fun v265 =>
(bn .lss 3 v263 v264).bind fun v266 =>
cnd v266 (
(bn .geq 3 v263 v265).bind fun v267 =>
obH (ev 22 #[x 0,x 1,v261,x 3] h260) fun v268 h269 =>
(bn .add 3 v261 (.int .i64 1)).bind fun v270 =>
k .normal ⟨ar 134 (up x [(1,v270),(8,v267),(9,v262),(10,v0),(11,v145),(12,v146),(14,v261),(15,v262),(16,v263),(17,v264),(18,v265),(19,(x 2)),(20,(x 1)),(21,v0),(22,v0),(23,v1),(28,(x 3)),(29,v4),(34,(x 8)),(35,v7),(42,v143),(43,(x 0)),(44,(x 1)),(45,(x 2)),(46,v143),(47,v145),(48,v146),(49,v146),(50,v147),(61,(x 8)),(62,(x 8)),(63,(gdV (wt (x 8) true) (x 9))),(64,v214),(65,v214),(66,(gdV (wt v214 true) v146)),(67,v215),(68,v216),(73,(x 1)),(74,v247),(75,v247),(76,(gdV (wt v247 true) (x 0))),(77,(gdV (wt v247 true) (x 1))),(78,v248),(79,v249),(80,v250),(81,(gdV (wt v247 true) (x 0))),(82,(gdV (wt v247 true) v145)),(83,v251),(84,v252),(85,v253),(86,v255),(87,v256),(94,v259),(95,(x 0)),(96,(x 1)),(97,(x 2)),(98,v145),(99,v259),(100,v261),(101,v262),(102,v262),(103,v261),(104,(x 1)),(105,v263),(106,(x 2)),(107,v261),(108,v264),(109,v0),(110,v265),(111,v263),(112,v264),(113,v266),(114,v263),(115,v265),(116,v267),(117,(x 0)),(118,(x 1)),(119,v261),(120,(x 3)),(121,v268),(122,v261),(123,v270)]), h269⟩) (
(bn .geq 3 v264 v265).bind fun v271 =>
(bn .add 3 v261 (.int .i64 1)).bind fun v272 =>
obH (ev 22 #[x 0,v272,x 2,x 3] h260) fun v273 h274 =>
k .normal ⟨ar 134 (up x [(2,v261),(8,v271),(9,v262),(10,v0),(11,v145),(12,v146),(14,v261),(15,v262),(16,v263),(17,v264),(18,v265),(19,(x 2)),(20,(x 1)),(21,v0),(22,v0),(23,v1),(28,(x 3)),(29,v4),(34,(x 8)),(35,v7),(42,v143),(43,(x 0)),(44,(x 1)),(45,(x 2)),(46,v143),(47,v145),(48,v146),(49,v146),(50,v147),(61,(x 8)),(62,(x 8)),(63,(gdV (wt (x 8) true) (x 9))),(64,v214),(65,v214),(66,(gdV (wt v214 true) v146)),(67,v215),(68,v216),(73,(x 1)),(74,v247),(75,v247),(76,(gdV (wt v247 true) (x 0))),(77,(gdV (wt v247 true) (x 1))),(78,v248),(79,v249),(80,v250),(81,(gdV (wt v247 true) (x 0))),(82,(gdV (wt v247 true) v145)),(83,v251),(84,v252),(85,v253),(86,v255),(87,v256),(94,v259),(95,(x 0)),(96,(x 1)),(97,(x 2)),(98,v145),(99,v259),(100,v261),(101,v262),(102,v262),(103,v261),(104,(x 1)),(105,v263),(106,(x 2)),(107,v261),(108,v264),(109,v0),(110,v265),(111,v263),(112,v264),(113,v266),(124,v264),(125,v265),(126,v271),(127,(x 0)),(128,v261),(129,v272),(130,(x 2)),(131,(x 3)),(132,v273),(133,v261)]), h274⟩))))))) := by kernel_rfl
theorem call22 (a0 a1 a2 a3 : Value) : evC Try.prog 22 #[a0,a1,a2,a3] h = cK c22_0 134 (up un [(0,a0),(1,a1),(2,a2),(3,a3)]) (nm h) (retK Try.f22 Try.prog h) :=
  (evC_call 22 Try.f22 c22_0 Try.func22 (by kernel_rfl) #[a0,a1,a2,a3] h).trans (by kernel_rfl)
theorem ret22 : retK Try.f22 Try.prog g .ret ⟨ar 134 x, h⟩ = fin g (some (.tuple #[])) h := by kernel_rfl
noncomputable def c19_0 : Code := bodyC Try.f19 []
theorem c19_0_eq : cK c19_0 11 x h k =
(ln 32 (x 0) h).bind fun v0 =>
obH (cv 3 67 v0 h) fun v1 h2 =>
obH (ev 23 #[v1] h2) fun v3 h4 =>
obH (ev 22 #[x 0,(.int .i64 0),v0,v3] h4) fun v5 h6 =>
k .normal ⟨ar 11 (up x [(2,v0),(3,(x 0)),(4,v0),(5,(x 0)),(6,v0),(7,v0),(8,v1),(9,v3),(10,v5)]), h6⟩ := by kernel_rfl
theorem call19 (a0 : Value) : evC Try.prog 19 #[a0] h = cK c19_0 11 (up un [(0,a0)]) (nm h) (retK Try.f19 Try.prog h) :=
  (evC_call 19 Try.f19 c19_0 Try.func19 (by kernel_rfl) #[a0] h).trans (by kernel_rfl)
theorem ret19 : retK Try.f19 Try.prog g .ret ⟨ar 11 x, h⟩ = fin g (some (.tuple #[])) h := by kernel_rfl
end
end Go.Am.Z
