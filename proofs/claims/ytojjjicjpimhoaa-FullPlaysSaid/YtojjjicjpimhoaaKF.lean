/- What the functions answer, in the machine. -/
import Derived.Test.YtojjjicjpimhoaaKE
set_option linter.all false
namespace Go.Am
open Go.Proofs
theorem ldB (p o : Nat) (h : Heap) : loadV Try.prog 23 (.pointer (some ⟨p, o, none⟩)) h = h.load1 p o := by kernel_rfl
theorem ld64 (p o : Nat) (h : Heap) : loadV Try.prog 46 (.pointer (some ⟨p, o, none⟩)) h = h.load1 p o := by kernel_rfl
theorem ldBool (p o : Nat) (h : Heap) : loadV Try.prog 4 (.pointer (some ⟨p, o, none⟩)) h = h.load1 p o := by kernel_rfl
theorem ldInt (p o : Nat) (h : Heap) : loadV Try.prog 3 (.pointer (some ⟨p, o, none⟩)) h = h.load1 p o := by kernel_rfl
theorem stB (p o : Nat) (a : Option Addr) (n c : Nat) (h : Heap) : storeV Try.prog 23 (.pointer (some ⟨p, o, none⟩)) (.slice a n c) h = h.storeN p o [.slice a n c] := by kernel_rfl
theorem st64 (p o : Nat) (k : IntKind) (n : Int) (h : Heap) : storeV Try.prog 46 (.pointer (some ⟨p, o, none⟩)) (.int k n) h = h.storeN p o [.int k n] := by kernel_rfl
theorem stInt (p o : Nat) (k : IntKind) (n : Int) (h : Heap) : storeV Try.prog 3 (.pointer (some ⟨p, o, none⟩)) (.int k n) h = h.storeN p o [.int k n] := by kernel_rfl
theorem stBool (p o : Nat) (b : Bool) (h : Heap) : storeV Try.prog 4 (.pointer (some ⟨p, o, none⟩)) (.bool b) h = h.storeN p o [.bool b] := by kernel_rfl
theorem maxI (a b : Int) (h : Heap) : builtinV Try.prog .max #[3, 3] #[.int .i64 a, .int .i64 b] h = some (.int .i64 (max a b), h) := by
  have e : builtinV Try.prog .max #[3, 3] #[.int .i64 a, .int .i64 b] h = some (.int .i64 (if b > a then b else a), h) := by kernel_rfl
  rw [e]
  have : (if b > a then b else a) = max a b := by split <;> omega
  rw [this]
theorem nilB (xo yo : Operand) : binV Try.prog .eql 23 xo yo (.slice none 0 0) (.slice none 0 0) = some (.bool true) := by kernel_rfl
theorem mkB0 (h : Heap) : buildSliceV Try.prog 23 0 #[] h = some (.slice (some ⟨h.blks.length, 0, none⟩) 0 0, h.new (.cells []) 5) := by kernel_rfl
theorem mkB1 (k : IntKind) (n : Int) (h : Heap) : buildSliceV Try.prog 23 1 #[(0, .int k n)] h = some (.slice (some ⟨h.blks.length, 0, none⟩) 1 1, h.new (.cells [.int k n]) 5) := by kernel_rfl
theorem cvB8 (k : IntKind) (n : Nat) (h : Heap) : convV Try.prog 46 5 (.int k n) h = some (byteV (UInt8.ofNat n), h) := by
  rw [conv_int (ks := .u64) (kd := .u8) (by kernel_rfl) (by kernel_rfl), small_byte]
theorem cvI64 (n : Int) (h : Heap) (h0 : 0 ≤ n) (h1 : n < 2 ^ 63) : convV Try.prog 3 46 (.int .i64 n) h = some (.int .u64 n, h) := conv_u64 (ks := .i64) (by kernel_rfl) (by kernel_rfl) _ _ _ h0 (by omega)
theorem cvU64 (n : Int) (h : Heap) (h0 : 0 ≤ n) (h1 : n < 2 ^ 63) : convV Try.prog 46 3 (.int .u64 n) h = some (.int .i64 n, h) := conv_i64 (ks := .u64) (by kernel_rfl) (by kernel_rfl) _ _ _ (by omega) h1
theorem beql (xo yo : Operand) (a b : Bool) : binV Try.prog .eql 4 xo yo (.bool a) (.bool b) = some (.bool (a == b)) := bin_beql _ _ _ _ (by cases a <;> cases b <;> kernel_rfl)
theorem bneq (xo yo : Operand) (a b : Bool) : binV Try.prog .neq 4 xo yo (.bool a) (.bool b) = some (.bool (!(a == b))) := bin_bneq _ _ _ _ (by cases a <;> cases b <;> kernel_rfl)
abbrev SB (h : Heap) (v : Value) (bs : List UInt8) : Prop := Sl Try.prog h 1 v bs.length (bs.map byteV)
abbrev AB (n0 : Nat) (h : Heap) (v : Value) (bs : List UInt8) : Prop := Acc n0 h 5 1 v bs.length (bs.map byteV)
theorem AB.sb {n0 : Nat} {h : Heap} {v : Value} {bs : List UInt8} (a : AB n0 h v bs) : SB h v bs := a.sl etB.size
theorem bytes_one (bs : List UInt8) : (bs.map byteV).all Value.oneCell' = true := by
  rw [List.all_map, List.all_eq_true]; intro x _; rfl
theorem AB.empty (n0 : Nat) (h : Heap) (hn : n0 ≤ h.blks.length) : AB n0 (h.new (.cells []) 5) (.slice (some ⟨h.blks.length, 0, none⟩) 0 0) [] := .full (all := []) hn (by omega) (blk_new_self _ _ _) (by simp) rfl
theorem app_bytes {n0 : Nat} {h : Heap} (hn0 : n0 ≤ h.blks.length) {v x : Value} {bs cs : List UInt8} (ha : AB n0 h v bs) (hx : SB h x cs) (hl : bs.length + cs.length < 2 ^ 44) :
    ∃ a c h', appendV Try.prog 23 (some 23) v x h = some (.slice a (bs ++ cs).length c, h') ∧ AB n0 h' (.slice a (bs ++ cs).length c) (bs ++ cs) ∧ Keeps n0 h h' ∧ (∀ b, b < h.blks.length → blockOf v ≠ some b → h'.blks[b]? = h.blks[b]?) ∧
      (.slice a (bs ++ cs).length c = v ∧ h' = h ∨ blockOf (.slice a (bs ++ cs).length c) = some h.blks.length ∧ h.blks.length < h'.blks.length) := by
  obtain ⟨v', h', e1, e2, e3, e4, e5⟩ := append_acc etB (t1 := some 23) hn0 ha (newsV_row etB.under hx.row) (by simpa using hx.len) (by omega) (by omega) (bytes_one cs)
  obtain ⟨a, c, rfl⟩ := e2.shape
  rw [← List.length_append] at e1 e2 e5
  rw [← List.map_append] at e2
  exact ⟨a, c, h', e1, e2, e3, e4, e5⟩
theorem strB {h : Heap} {v : Value} {bs : List UInt8} (s : SB h v bs) : convV Try.prog 23 9 v h = some (strV bs, h) := by
  have hs : Try.prog.underlying 23 = some (.slice 5) := by kernel_rfl
  have hd : Try.prog.underlying 9 = some .string := by kernel_rfl
  have hb : isByteT Try.prog 5 = true := by kernel_rfl
  have hbo : ∀ l : List UInt8, bytesOf? (l.map byteV) = some l := by
    intro l
    induction l with
    | nil => rfl
    | cons x l ih =>
      rw [List.map_cons]
      unfold byteV bytesOf?
      rw [show (l.map byteV) = l.map byteV from rfl] at ih
      have : bytesOf? (l.map fun b => Value.int .u8 (b.toNat : Int)) = some l := ih
      change (bytesOf? (l.map byteV)).map _ = _
      rw [ih]
      simp
  unfold convV
  rw [hs, hd]
  rcases s.inv with ⟨rfl, _, h3⟩ | ⟨b, o, c, rfl, hl, _⟩
  · have : bs = [] := by simpa using h3
    subst this
    simp [hb]
    rfl
  · simp only [hb, if_true]
    rw [Nat.mul_one] at hl
    rw [hl, Option.bind_some, hbo]
    rfl
theorem sl_mid {h : Heap} {v : Value} {bs : List UInt8} (s : SB h v bs) {i j : Nat} (hij : i ≤ j) (hj : j ≤ bs.length) {lo hi : Option Value} (hlo : lo.elim (some 0) natOf? = some i) (hhi : hi.elim (some bs.length) natOf? = some j) :
    ∃ a c, sliceV Try.prog 23 v lo hi none h = some (.slice a ((bs.drop i).take (j - i)).length c) ∧ SB h (.slice a ((bs.drop i).take (j - i)).length c) ((bs.drop i).take (j - i)) ∧ blockOf (.slice a ((bs.drop i).take (j - i)).length c) = blockOf v := by
  obtain ⟨v3, e3, s3, b3⟩ := s.sub etB.under etB.size hij hj hlo hhi
  obtain ⟨a4, c4, rfl⟩ := s3.shape
  have el : ((bs.drop i).take (j - i)).length = j - i := by simp; omega
  rw [Nat.mul_one, Nat.mul_one, ← List.map_drop, ← List.map_take] at s3
  refine ⟨a4, c4, ?_⟩
  unfold SB
  rw [el]
  exact ⟨e3, s3, b3⟩
theorem sl_drop {h : Heap} {v : Value} {bs : List UInt8} (s : SB h v bs) {i : Nat} (hi : i ≤ bs.length) (k : IntKind) :
    ∃ a c, sliceV Try.prog 23 v (some (.int k i)) none none h = some (.slice a (bs.drop i).length c) ∧ SB h (.slice a (bs.drop i).length c) (bs.drop i) ∧ blockOf (.slice a (bs.drop i).length c) = blockOf v := by
  have := sl_mid s (i := i) (j := bs.length) hi (Nat.le_refl _) (lo := some (.int k i)) (hi := none) (natOf_int k _) rfl
  rwa [List.take_of_length_le (by simp)] at this
theorem sl_take {h : Heap} {v : Value} {bs : List UInt8} (s : SB h v bs) {i : Nat} (hi : i ≤ bs.length) (k : IntKind) :
    ∃ a c, sliceV Try.prog 23 v none (some (.int k i)) none h = some (.slice a (bs.take i).length c) ∧ SB h (.slice a (bs.take i).length c) (bs.take i) ∧ blockOf (.slice a (bs.take i).length c) = blockOf v := by
  have := sl_mid s (i := 0) (j := i) (Nat.zero_le _) hi (lo := none) (hi := some (.int k i)) rfl (natOf_int k _)
  rwa [List.drop_zero, Nat.sub_zero] at this
theorem mkBb (b : UInt8) (h : Heap) : buildSliceV Try.prog 23 1 #[(0, byteV b)] h = some (.slice (some ⟨h.blks.length, 0, none⟩) 1 1, h.new (.cells [byteV b]) 5) := mkB1 _ _ _
theorem lit1 (b : UInt8) (h : Heap) : SB (h.new (.cells [byteV b]) 5) (.slice (some ⟨h.blks.length, 0, none⟩) 1 1) [b] :=
  .mk (by simp [Heap.loadN, Heap.cells?, blk_new_self]) (.inr ⟨Nat.le_refl _, by unfold UNK; omega⟩)
theorem app_b {n0 : Nat} {h : Heap} (hn0 : n0 ≤ h.blks.length) {v : Value} {bs : List UInt8} (ha : AB n0 h v bs) (b : UInt8) (hl : bs.length < 2 ^ 43) :
    ∃ a c h', appendV Try.prog 23 (some 23) v (.slice (some ⟨h.blks.length, 0, none⟩) 1 1) (h.new (.cells [byteV b]) 5) = some (.slice a (bs ++ [b]).length c, h') ∧ AB n0 h' (.slice a (bs ++ [b]).length c) (bs ++ [b]) ∧ Keeps n0 h h' ∧
      (∀ q, q < h.blks.length → blockOf v ≠ some q → h'.blks[q]? = h.blks[q]?) := by
  have ha' : AB n0 (h.new (.cells [byteV b]) 5) v bs := ha.keep fun _ hb _ => Heap.new_old hb
  obtain ⟨a, c, h', e1, e2, e3, e4, _⟩ := app_bytes (n0 := n0) (by simp [Heap.new]; omega) ha' (lit1 b h) (by simp; omega)
  exact ⟨a, c, h', e1, e2, (Keeps.new hn0 _ _).trans e3, fun q hq hne => (e4 q (by simp [Heap.new]; omega) hne).trans (Heap.new_old hq)⟩
theorem spec_Clone (h : Heap) (x : Value) (bs : List UInt8) (hx : SB h x bs) (hl : bs.length < 2 ^ 43) :
    ∃ a c h', evC Try.prog 95 #[x] h = some (.slice a bs.length c, h') ∧ HExt h h' ∧ AB h.blks.length h' (.slice a bs.length c) bs := by
  rw [call95, c95_0_eq]
  rcases hx.inv with ⟨rfl, _, h3⟩ | ⟨b, o, c, rfl, _, _⟩
  · have : bs = [] := by simpa using h3
    subst this
    simp -implicitDefEqProofs only [nilB, bin_add, bin_sub, bin_mul, bin_lss, bin_leq, bin_gtr, bin_geq, bin_eql, bin_neq, un_not, un_neg, Option.bind_some, Option.bind_none, Option.map_some, cnd_true, cnd_false, pickV_true, pickV_false, gd_true, gd_false, gdV_true, gdV_false, gdH_true, gdH_false, gdS_true, gdS_false, wt_ff, wt_tt, wt_ft, wt_tf, wt_undef, obH_some', extractV_tuple, nilCheckV_ptr, againK_normal, againK_exit, againK_ret, blockK_normal, blockK_same, blockK_ret, seqK_normal, seqK_exit, seqK_ret, fin_done, if_true', if_false', Bool.not_true, Bool.not_false, idx0, idx1, idx2, idx3, idx4, chk_nil_l, chk_nil_r, done_nm]
    rw [ret95, fin_done]
    exact ⟨none, 0, h, by simp, HExt.refl h, .nil⟩
  · simp -implicitDefEqProofs only [bin_nil_some (P := Try.prog) (t := 23) etB.under, mkB0, bin_add, bin_sub, bin_mul, bin_lss, bin_leq, bin_gtr, bin_geq, bin_eql, bin_neq, un_not, un_neg, Option.bind_some, Option.bind_none, Option.map_some, cnd_true, cnd_false, pickV_true, pickV_false, gd_true, gd_false, gdV_true, gdV_false, gdH_true, gdH_false, gdS_true, gdS_false, wt_ff, wt_tt, wt_ft, wt_tf, wt_undef, obH_some', extractV_tuple, nilCheckV_ptr, againK_normal, againK_exit, againK_ret, blockK_normal, blockK_same, blockK_ret, seqK_normal, seqK_exit, seqK_ret, fin_done, if_true', if_false', Bool.not_true, Bool.not_false, idx0, idx1, idx2, idx3, idx4, chk_nil_l, chk_nil_r, done_nm]
    obtain ⟨a, c', h', e1, e2, e3, e4, e5⟩ := app_bytes (n0 := h.blks.length) (by simp [Heap.new]) (AB.empty h.blks.length (nm h) (by simp)) (hx.nm.keepNew _ _) (by simp; omega)
    rw [e1]
    simp only [obH_some']
    rw [ret95, fin_done]
    exact ⟨a, c', _, rfl, done_ext' ((In.new (S := No) (by simp) _ _).trans e3.inn), e2.done⟩
theorem spec_PutB (n : Nat) (hn : n < 2 ^ 64) (h : Heap) (b : Value) (bs : List UInt8) (hb : SB h b bs) (hk : bs.length < 2 ^ 39) :
    ∃ a c h', evC Try.prog 94 #[b, .int .u64 n] h = some (.slice a (bs ++ putL n).length c, h') ∧ HExt h h' ∧ AB h.blks.length h' (.slice a (bs ++ putL n).length c) (bs ++ putL n) := by
  obtain ⟨v, h', e1, e2, e3⟩ := spec_Put n hn h b _ _ hb.row hk (bytes_one bs)
  obtain ⟨a, c, rfl⟩ := e3.shape
  rw [← putL_len, ← List.length_append] at e1 e3
  rw [← List.map_append] at e3
  exact ⟨a, c, h', e1, e2, e3⟩
end Go.Am
namespace Go.Am
open Go.Proofs
def numP : Option (List UInt8) → Nat → Nat × Option (List UInt8)
  | none, _ => (0, none)
  | some bs, most => if (getL bs).2 = 0 ∨ most < (getL bs).1 then (0, none) else ((getL bs).1, some (bs.drop (getL bs).2))
def takeP : Option (List UInt8) → Nat → List UInt8 × Option (List UInt8)
  | none, _ => ([], none)
  | some bs, n => if bs.length < n then ([], none) else (bs.take n, some (bs.drop n))
def bytesP (r : Option (List UInt8)) (most : Nat) : List UInt8 × Option (List UInt8) := takeP (numP r most).2 (numP r most).1
def endP : Option (List UInt8) → Bool
  | some [] => true
  | _ => false
theorem getLoop_le : ∀ (l : List UInt8) (n i : Nat), n < 2 ^ 64 → (getLoop n i l).1 < 2 ^ 64 ∧ (getLoop n i l).2 ≤ i + l.length
  | [], n, i, h => by simp [getLoop]
  | c :: l, n, i, h => by
    rw [getLoop]
    have hn' : n ||| (c.toNat % 128 * 2 ^ (7 * i)) % 2 ^ 64 < 2 ^ 64 := Nat.or_lt_two_pow h (Nat.mod_lt _ (by omega))
    split
    · simp
    · simp only []
      split
      · split
        · simp
        · refine ⟨hn', ?_⟩
          simp only [List.length_cons]; omega
      · have := getLoop_le l _ (i + 1) hn'
        simp only [List.length_cons]
        exact ⟨this.1, by omega⟩
theorem getL_lt (l : List UInt8) : (getL l).1 < 2 ^ 64 := (getLoop_le l 0 0 (by omega)).1
theorem getL_len (l : List UInt8) : (getL l).2 ≤ l.length := by have := (getLoop_le l 0 0 (by omega)).2; unfold getL; omega
def rbs (r : Option (List UInt8)) : List UInt8 := r.getD []
def Wr (n0 : Nat) (h : Heap) (p : Nat) (bs : List UInt8) : Prop := ∃ a c, Cells h p 146 [.slice a bs.length c] ∧ AB n0 h (.slice a bs.length c) bs ∧ blockOf (.slice a bs.length c) ≠ some p
def LoP (v : Value) (L p : Nat) : Prop := ∀ b, blockOf v = some b → L ≤ b ∧ b < p
theorem LoP.ne {v : Value} {L p : Nat} (l : LoP v L p) : blockOf v ≠ some p := fun e => by have := (l p e).2; omega
theorem LoP.to {v w : Value} {L p : Nat} (l : LoP v L p) (e : blockOf w = blockOf v) : LoP w L p := fun b hb => l b (by rw [← e]; exact hb)
theorem LoP.nil (L p : Nat) : LoP (.slice none 0 0) L p := fun b hb => by cases hb
def RdrL (L : Nat) (h : Heap) (p : Nat) (r : Option (List UInt8)) : Prop := ∃ a c, Cells h p 150 [.slice a (rbs r).length c, .bool r.isNone] ∧ SB h (.slice a (rbs r).length c) (rbs r) ∧ LoP (.slice a (rbs r).length c) L p
theorem Wr.lt {n0 : Nat} {h : Heap} {p : Nat} {bs : List UInt8} (w : Wr n0 h p bs) : p < h.blks.length := let ⟨_, _, c, _⟩ := w; c.lt
abbrev Rdr (h : Heap) (p : Nat) (r : Option (List UInt8)) : Prop := RdrL 0 h p r
theorem RdrL.dn {L : Nat} {h : Heap} {p : Nat} {r : Option (List UInt8)} (w : RdrL L h p r) : Rdr h p r := let ⟨a, c, x, y, z⟩ := w; ⟨a, c, x, y, fun b hb => ⟨Nat.zero_le _, (z b hb).2⟩⟩
theorem RdrL.lt {L : Nat} {h : Heap} {p : Nat} {r : Option (List UInt8)} (w : RdrL L h p r) : p < h.blks.length := let ⟨_, _, c, _⟩ := w; c.lt
theorem faW (p : Nat) : fieldAddrV Try.prog 146 (.pointer (some ⟨p, 0, none⟩)) 0 = some (.pointer (some ⟨p, 0, none⟩)) := by kernel_rfl
theorem faR0 (p : Nat) : fieldAddrV Try.prog 150 (.pointer (some ⟨p, 0, none⟩)) 0 = some (.pointer (some ⟨p, 0, none⟩)) := by kernel_rfl
theorem faR1 (p : Nat) : fieldAddrV Try.prog 150 (.pointer (some ⟨p, 0, none⟩)) 1 = some (.pointer (some ⟨p, 1, none⟩)) := by kernel_rfl
theorem bdW : buildV Try.prog 146 #[] = some (.agg #[.slice none 0 0]) := by kernel_rfl
theorem bxW (x : Value) (h : Heap) : boxV Try.prog 146 (.agg #[x]) h = some (.pointer (some ⟨h.blks.length, 0, none⟩), h.new (.cells [x]) 146) := by kernel_rfl
theorem bdR (a : Option Addr) (n c : Nat) : buildV Try.prog 150 #[(0, .slice a n c)] = some (.agg #[.slice a n c, .bool false]) := by kernel_rfl
theorem bxR (x y : Value) (h : Heap) : boxV Try.prog 150 (.agg #[x, y]) h = some (.pointer (some ⟨h.blks.length, 0, none⟩), h.new (.cells [x, y]) 150) := by kernel_rfl
theorem spec_NewWriter (h : Heap) : ∃ h', evC Try.prog 42 #[] h = some (.pointer (some ⟨h.blks.length, 0, none⟩), h') ∧ HExt h h' ∧ Wr h.blks.length h' h.blks.length [] ∧ h'.blks.length = h.blks.length + 1 := by
  rw [call42, c42_0_eq]
  simp -implicitDefEqProofs only [bdW, bxW, ↓cnd_true, ↓cnd_false, ↓Option.bind_some, ↓obH_some', bin_add, bin_sub, bin_mul, bin_lss, bin_leq, bin_gtr, bin_geq, bin_eql, bin_neq, un_not, un_neg, Option.bind_some, Option.bind_none, Option.map_some, cnd_true, cnd_false, pickV_true, pickV_false, gd_true, gd_false, gdV_true, gdV_false, gdH_true, gdH_false, gdS_true, gdS_false, wt_ff, wt_tt, wt_ft, wt_tf, wt_undef, obH_some', extractV_tuple, nilCheckV_ptr, againK_normal, againK_exit, againK_ret, blockK_normal, blockK_same, blockK_ret, seqK_normal, seqK_exit, seqK_ret, fin_done, if_true', if_false', Bool.not_true, Bool.not_false, idx0, idx1, idx2, idx3, idx4, chk_nil_l, chk_nil_r, done_nm]
  rw [ret42, fin_done]
  exact ⟨_, rfl, done_ext' (In.new (S := No) (by simp) _ _), ⟨none, 0, (Cells.new (nm h) _ _).done, .nil, by simp [blockOf]⟩, by simp [Heap.new]⟩
theorem Wr.put {n0 : Nat} {h : Heap} {p : Nat} {a : Option Addr} {bs : List UInt8} {c : Nat} {cs : List Value} (hc : Cells h p 146 cs) (ha : AB n0 h (.slice a bs.length c) bs) (hb : blockOf (.slice a bs.length c) ≠ some p) :
    Wr n0 (h.put p (.cells [.slice a bs.length c])) p bs := ⟨a, c, hc.put _, ha.keepPut hb _, hb⟩
theorem Wr.nm {n0 : Nat} {h : Heap} {p : Nat} {bs : List UInt8} (w : Wr n0 h p bs) : Wr n0 (Am.nm h) p bs := let ⟨a, c, x, y, z⟩ := w; ⟨a, c, x, y.keep fun _ _ _ => rfl, z⟩
theorem Wr.done {n0 : Nat} {h0 h : Heap} {p : Nat} {bs : List UInt8} (w : Wr n0 h p bs) : Wr n0 (Am.done h0 h) p bs := let ⟨a, c, x, y, z⟩ := w; ⟨a, c, x.done, y.done, z⟩
theorem Wr.same {n0 : Nat} {h h' : Heap} {p : Nat} {bs : List UInt8} (w : Wr n0 h p bs) (e : Same h h') : Wr n0 h' p bs := let ⟨a, c, x, y, z⟩ := w; ⟨a, c, x.same e, y.same e, z⟩
theorem Wr.ext {n0 : Nat} {h h' : Heap} {p : Nat} {bs : List UInt8} (w : Wr n0 h p bs) (e : HExt h h') : Wr n0 h' p bs := let ⟨a, c, x, y, z⟩ := w; ⟨a, c, x.ext e, y.keep fun b hb _ => e.old b hb, z⟩
theorem Wr.up {n0 n1 : Nat} {h : Heap} {p : Nat} {bs : List UInt8} (w : Wr n0 h p bs) (hn : n1 ≤ n0) : Wr n1 h p bs := let ⟨a, c, x, y, z⟩ := w; ⟨a, c, x, y.up hn, z⟩
theorem spec_WNum {n0 : Nat} {h : Heap} {p : Nat} {bs : List UInt8} (w : Wr n0 h p bs) (hn0 : n0 ≤ h.blks.length) (n : Nat) (hn : n < 2 ^ 64) (hl : bs.length < 2 ^ 39) :
    ∃ h', evC Try.prog 43 #[.pointer (some ⟨p, 0, none⟩), .int .u64 n] h = some (.tuple #[], h') ∧ HMod (Just p) h h' ∧ Wr h.blks.length h' p (bs ++ putL n) := by
  rw [call43, c43_0_eq]
  obtain ⟨a, c, hc, ha, hne⟩ := w
  obtain ⟨a2, c2, h2, e2,Ac, ab⟩ := spec_PutB n hn (nm h) _ bs ha.sb.nm hl
  simp -implicitDefEqProofs only [faW, ldB, hc.nm.load, List.getElem?_cons_zero, e2, stB, storeN_blk (hc.nm.ext Ac) (o := 0) (vs := [.slice a2 (bs ++ putL n).length c2]) (by simp), ↓cnd_true, ↓cnd_false, ↓Option.bind_some, ↓obH_some', bin_add, bin_sub, bin_mul, bin_lss, bin_leq, bin_gtr, bin_geq, bin_eql, bin_neq, un_not, un_neg, Option.bind_some, Option.bind_none, Option.map_some, cnd_true, cnd_false, pickV_true, pickV_false, gd_true, gd_false, gdV_true, gdV_false, gdH_true, gdH_false, gdS_true, gdS_false, wt_ff, wt_tt, wt_ft, wt_tf, wt_undef, obH_some', extractV_tuple, nilCheckV_ptr, againK_normal, againK_exit, againK_ret, blockK_normal, blockK_same, blockK_ret, seqK_normal, seqK_exit, seqK_ret, fin_done, if_true', if_false', Bool.not_true, Bool.not_false, idx0, idx1, idx2, idx3, idx4, chk_nil_l, chk_nil_r, done_nm]
  rw [retn43, fin_done]
  refine ⟨_, rfl, done_mod ((Ac.inn (by simp)).trans (In.put (by have := Ac.len; simpa using this) (.inr (show Just p p from rfl)) _)), ?_⟩
  simp only [List.take_zero, List.nil_append, List.length_singleton, Nat.zero_add, List.drop_succ_cons, List.drop_nil, List.append_nil]
  exact (Wr.put (hc.nm.ext Ac) ab (ab.ne hc.lt)).done
theorem spec_WBytes {n0 : Nat} {h : Heap} {p : Nat} {bs : List UInt8} (w : Wr n0 h p bs) (hn0 : n0 ≤ h.blks.length) {x : Value} {cs : List UInt8} (hx : SB h x cs) (hxp : blockOf x ≠ some p) (hl : bs.length < 2 ^ 39) (hl2 : cs.length < 2 ^ 39) :
    ∃ h', evC Try.prog 61 #[.pointer (some ⟨p, 0, none⟩), x] h = some (.tuple #[], h') ∧ HMod (Just p) h h' ∧ Wr h.blks.length h' p (bs ++ putL cs.length ++ cs) := by
  rw [call61, c61_0_eq]
  have hs := sizeN_le cs.length 6 (by omega) (by omega)
  obtain ⟨h2, e2,Ac, w2⟩ := spec_WNum w.nm (by simpa using hn0) cs.length (by omega) hl
  obtain ⟨a, c, hc, ha, hne⟩ := w2
  have hx2 : SB h2 x cs := hx.nm.mod Ac fun b hb e => hxp (by rw [hb, e])
  obtain ⟨a3, c3, h3, e3, ab, k3, o3, _⟩ := app_bytes (n0 := h.blks.length) (by have := Ac.len; simpa using this) ha hx2 (by simp [putL_len]; omega)
  have hc3 : Cells h3 p _ _ := (o3 p hc.lt hne).trans hc
  simp -implicitDefEqProofs (disch := omega) only [hx.nm.row.len_eq etB.under, cvI64, e2, faW, ldB, hc.load, List.getElem?_cons_zero, e3, stB, storeN_blk hc3 (o := 0) (vs := [.slice a3 (bs ++ putL cs.length ++ cs).length c3]) (by simp), ↓cnd_true, ↓cnd_false, ↓Option.bind_some, ↓obH_some', bin_add, bin_sub, bin_mul, bin_lss, bin_leq, bin_gtr, bin_geq, bin_eql, bin_neq, un_not, un_neg, Option.bind_some, Option.bind_none, Option.map_some, cnd_true, cnd_false, pickV_true, pickV_false, gd_true, gd_false, gdV_true, gdV_false, gdH_true, gdH_false, gdS_true, gdS_false, wt_ff, wt_tt, wt_ft, wt_tf, wt_undef, obH_some', extractV_tuple, nilCheckV_ptr, againK_normal, againK_exit, againK_ret, blockK_normal, blockK_same, blockK_ret, seqK_normal, seqK_exit, seqK_ret, fin_done, if_true', if_false', Bool.not_true, Bool.not_false, idx0, idx1, idx2, idx3, idx4, chk_nil_l, chk_nil_r, done_nm]
  rw [retn61, fin_done]
  refine ⟨_, rfl, done_mod (((Ac.inn (by simp) (fun b _ hb => hb)).trans (k3.inn)).trans (In.put (by have := Ac.len; have := k3.len; simp at *; omega) (.inr (show Just p p from rfl)) _)), ?_⟩
  simp only [List.take_zero, List.nil_append, List.length_singleton, Nat.zero_add, List.drop_succ_cons, List.drop_nil, List.append_nil]
  exact (Wr.put hc3 ab (ab.ne w.lt)).done
theorem spec_WDone {n0 : Nat} {h : Heap} {p : Nat} {bs : List UInt8} (w : Wr n0 h p bs) (hl : bs.length < 2 ^ 43) :
    ∃ a c h', evC Try.prog 44 #[.pointer (some ⟨p, 0, none⟩)] h = some (.slice a bs.length c, h') ∧ HExt h h' ∧ AB h.blks.length h' (.slice a bs.length c) bs := by
  rw [call44, c44_0_eq]
  obtain ⟨a, c, hc, ha, hne⟩ := w
  obtain ⟨a2, c2, h2, e2,Ac, ab⟩ := spec_Clone (nm h) _ bs ha.sb.nm hl
  simp -implicitDefEqProofs only [faW, ldB, hc.nm.load, List.getElem?_cons_zero, e2, ↓cnd_true, ↓cnd_false, ↓Option.bind_some, ↓obH_some', bin_add, bin_sub, bin_mul, bin_lss, bin_leq, bin_gtr, bin_geq, bin_eql, bin_neq, un_not, un_neg, Option.bind_some, Option.bind_none, Option.map_some, cnd_true, cnd_false, pickV_true, pickV_false, gd_true, gd_false, gdV_true, gdV_false, gdH_true, gdH_false, gdS_true, gdS_false, wt_ff, wt_tt, wt_ft, wt_tf, wt_undef, obH_some', extractV_tuple, nilCheckV_ptr, againK_normal, againK_exit, againK_ret, blockK_normal, blockK_same, blockK_ret, seqK_normal, seqK_exit, seqK_ret, fin_done, if_true', if_false', Bool.not_true, Bool.not_false, idx0, idx1, idx2, idx3, idx4, chk_nil_l, chk_nil_r, done_nm]
  rw [ret44, fin_done]
  exact ⟨a2, c2, _, rfl, done_ext' (Ac.inn (by simp)), ab.done⟩
theorem spec_NewReaderL {h : Heap} {x : Value} {bs : List UInt8} (hx : SB h x bs) (hl : bs.length < 2 ^ 43) :
    ∃ h' p, evC Try.prog 45 #[x] h = some (.pointer (some ⟨p, 0, none⟩), h') ∧ HExt h h' ∧ RdrL h.blks.length h' p (some bs) ∧ h.blks.length ≤ p := by
  rw [call45, c45_0_eq]
  obtain ⟨a2, c2, h2, e2,Ac, ab⟩ := spec_Clone (nm h) _ bs hx.nm hl
  simp -implicitDefEqProofs only [e2, bdR, bxR, ↓cnd_true, ↓cnd_false, ↓Option.bind_some, ↓obH_some', bin_add, bin_sub, bin_mul, bin_lss, bin_leq, bin_gtr, bin_geq, bin_eql, bin_neq, un_not, un_neg, Option.bind_some, Option.bind_none, Option.map_some, cnd_true, cnd_false, pickV_true, pickV_false, gd_true, gd_false, gdV_true, gdV_false, gdH_true, gdH_false, gdS_true, gdS_false, wt_ff, wt_tt, wt_ft, wt_tf, wt_undef, obH_some', extractV_tuple, nilCheckV_ptr, againK_normal, againK_exit, againK_ret, blockK_normal, blockK_same, blockK_ret, seqK_normal, seqK_exit, seqK_ret, fin_done, if_true', if_false', Bool.not_true, Bool.not_false, idx0, idx1, idx2, idx3, idx4, chk_nil_l, chk_nil_r, done_nm]
  rw [ret45, fin_done]
  exact ⟨_, _, rfl, done_ext' ((Ac.inn (by simp)).trans (In.new Ac.len _ _)), ⟨a2, c2, (Cells.new h2 _ _).done, (ab.sb.keepNew _ _).done, fun b e => ⟨ab.ge e, ab.sb.lt e⟩⟩, Ac.len⟩
theorem spec_NewReader {h : Heap} {x : Value} {bs : List UInt8} (hx : SB h x bs) (hl : bs.length < 2 ^ 43) :
    ∃ h' p, evC Try.prog 45 #[x] h = some (.pointer (some ⟨p, 0, none⟩), h') ∧ HExt h h' ∧ Rdr h' p (some bs) ∧ h.blks.length ≤ p := by
  obtain ⟨h', p, e, x, r, l⟩ := spec_NewReaderL hx hl
  exact ⟨h', p, e, x, r.dn, l⟩
theorem RdrL.nm {L : Nat} {h : Heap} {p : Nat} {r : Option (List UInt8)} (w : RdrL L h p r) : RdrL L (Am.nm h) p r := let ⟨a, c, x, y, z⟩ := w; ⟨a, c, x, y.nm, z⟩
theorem RdrL.done {L : Nat} {h0 h : Heap} {p : Nat} {r : Option (List UInt8)} (w : RdrL L h p r) : RdrL L (Am.done h0 h) p r := let ⟨a, c, x, y, z⟩ := w; ⟨a, c, x.done, y.done, z⟩
theorem RdrL.same {L : Nat} {h h' : Heap} {p : Nat} {r : Option (List UInt8)} (w : RdrL L h p r) (e : Same h h') : RdrL L h' p r := let ⟨a, c, x, y, z⟩ := w; ⟨a, c, x.same e, y.same e, z⟩
theorem RdrL.keepPut {L : Nat} {h : Heap} {p q : Nat} {r : Option (List UInt8)} (w : RdrL L h p r) (hq : p < q) (body : Body) : RdrL L (h.put q body) p r :=
  let ⟨a, c, x, y, z⟩ := w; ⟨a, c, x.keepPut (by omega) _, y.keepPut (fun e => by have := (z _ e).2; omega) _, z⟩
theorem RdrL.ext {L : Nat} {h h' : Heap} {p : Nat} {r : Option (List UInt8)} (w : RdrL L h p r) (e : HExt h h') : RdrL L h' p r := let ⟨a, c, x, y, z⟩ := w; ⟨a, c, x.ext e, y.ext e, z⟩
theorem spec_spoil {L : Nat} {h : Heap} {p : Nat} {r : Option (List UInt8)} (w : RdrL L h p r) (b : Bool) :
    ∃ h', evC Try.prog 97 #[.pointer (some ⟨p, 0, none⟩), .bool b] h = some (.bool (b || r.isNone), h') ∧ HMod (Just p) h h' ∧ RdrL L h' p (if b then none else r) := by
  rw [call97, c97_0_eq]
  obtain ⟨a, c, hc, ha, hne⟩ := w
  cases b with
  | true =>
    have hc1 := hc.nm.put [Value.slice none 0 0, .bool r.isNone]
    have hc2 := hc1.put [Value.slice none 0 0, .bool true]
    simp -implicitDefEqProofs only [faR0, faR1, stB, stBool, storeN_blk hc.nm (o := 0) (vs := [.slice none 0 0]) (by simp), List.take_zero, List.nil_append, List.length_singleton, Nat.zero_add, List.drop_succ_cons, List.drop_zero, List.cons_append, List.singleton_append,
      storeN_blk hc1 (o := 1) (vs := [.bool true]) (by simp), List.take_succ_cons, List.drop_nil, Nat.reduceAdd, List.append_nil, c97_1_eq, ldBool, hc2.load, List.getElem?_cons_zero, List.getElem?_cons_succ, ↓cnd_true, ↓cnd_false, ↓Option.bind_some, ↓obH_some', bin_add, bin_sub, bin_mul, bin_lss, bin_leq, bin_gtr, bin_geq, bin_eql, bin_neq, un_not, un_neg, Option.bind_some, Option.bind_none, Option.map_some, cnd_true, cnd_false, pickV_true, pickV_false, gd_true, gd_false, gdV_true, gdV_false, gdH_true, gdH_false, gdS_true, gdS_false, wt_ff, wt_tt, wt_ft, wt_tf, wt_undef, obH_some', extractV_tuple, nilCheckV_ptr, againK_normal, againK_exit, againK_ret, blockK_normal, blockK_same, blockK_ret, seqK_normal, seqK_exit, seqK_ret, fin_done, if_true', if_false', Bool.not_true, Bool.not_false, idx0, idx1, idx2, idx3, idx4, chk_nil_l, chk_nil_r, done_nm]
    rw [ret97, fin_done]
    exact ⟨_, rfl, done_mod ((In.put (by simp) (.inr (show Just p p from rfl)) _).trans (In.put (by rw [Heap.put_len]; simp) (.inr (show Just p p from rfl)) _)), ⟨none, 0, hc2.done, .nil, LoP.nil _ _⟩⟩
  | false =>
    simp -implicitDefEqProofs only [c97_1_eq, faR1, ldBool, hc.nm.load, List.getElem?_cons_zero, List.getElem?_cons_succ, ↓cnd_true, ↓cnd_false, ↓Option.bind_some, ↓obH_some', bin_add, bin_sub, bin_mul, bin_lss, bin_leq, bin_gtr, bin_geq, bin_eql, bin_neq, un_not, un_neg, Option.bind_some, Option.bind_none, Option.map_some, cnd_true, cnd_false, pickV_true, pickV_false, gd_true, gd_false, gdV_true, gdV_false, gdH_true, gdH_false, gdS_true, gdS_false, wt_ff, wt_tt, wt_ft, wt_tf, wt_undef, obH_some', extractV_tuple, nilCheckV_ptr, againK_normal, againK_exit, againK_ret, blockK_normal, blockK_same, blockK_ret, seqK_normal, seqK_exit, seqK_ret, fin_done, if_true', if_false', Bool.not_true, Bool.not_false, idx0, idx1, idx2, idx3, idx4, chk_nil_l, chk_nil_r, done_nm]
    rw [ret97, fin_done]
    exact ⟨_, by simp, done_mod (In.refl (by simp)), ⟨a, c, hc.nm.done, ha.nm.done, hne⟩⟩
theorem RdrL.put {L : Nat} {h : Heap} {p : Nat} {a : Option Addr} {r : Option (List UInt8)} {c : Nat} {cs : List Value} (hc : Cells h p 150 cs) (ha : SB h (.slice a (rbs r).length c) (rbs r)) (hb : LoP (.slice a (rbs r).length c) L p) :
    RdrL L (h.put p (.cells [.slice a (rbs r).length c, .bool r.isNone])) p r := ⟨a, c, hc.put _, ha.keepPut hb.ne _, hb⟩
theorem spec_RNum {L : Nat} {h : Heap} {p : Nat} {r : Option (List UInt8)} (w : RdrL L h p r) (most : Nat) (hm : most < 2 ^ 64) (hl : (rbs r).length < 2 ^ 40) :
    ∃ h', evC Try.prog 46 #[.pointer (some ⟨p, 0, none⟩), .int .u64 most] h = some (.int .u64 (numP r most).1, h') ∧ HMod (Just p) h h' ∧ RdrL L h' p (numP r most).2 := by
  rw [call46, c46_0_eq]
  have w0 := w
  obtain ⟨a, c, hc, ha, hne⟩ := w
  obtain ⟨bs, hbs⟩ : ∃ bs, rbs r = bs := ⟨_, rfl⟩
  rw [hbs] at hl hc ha hne
  have hg := spec_Get (Am.nm h) _ bs ha.nm.row hl
  have h64 := getL_lt bs
  have hle := getL_len bs
  simp -implicitDefEqProofs only [faR0, faR1, ldB, hc.nm.load, List.getElem?_cons_zero, hg, ↓cnd_true, ↓cnd_false, ↓Option.bind_some, ↓obH_some', bin_add, bin_sub, bin_mul, bin_lss, bin_leq, bin_gtr, bin_geq, bin_eql, bin_neq, un_not, un_neg, Option.bind_some, Option.bind_none, Option.map_some, cnd_true, cnd_false, pickV_true, pickV_false, gd_true, gd_false, gdV_true, gdV_false, gdH_true, gdH_false, gdS_true, gdS_false, wt_ff, wt_tt, wt_ft, wt_tf, wt_undef, obH_some', extractV_tuple, nilCheckV_ptr, againK_normal, againK_exit, againK_ret, blockK_normal, blockK_same, blockK_ret, seqK_normal, seqK_exit, seqK_ret, fin_done, if_true', if_false', Bool.not_true, Bool.not_false, idx0, idx1, idx2, idx3, idx4, chk_nil_l, chk_nil_r, done_nm]
  by_cases hbad : (getL bs).2 = 0 ∨ most < (getL bs).1
  · obtain ⟨h2, e2,Ac, w2⟩ := spec_spoil w0.nm true
    have hp : numP r most = (0, none) := by
      cases r with
      | none => rfl
      | some bs' => have : bs' = bs := hbs
                    subst this
                    simp only [numP]; exact if_pos hbad
    rw [hp]
    by_cases h1 : (getL bs).2 = 0
    · simp -implicitDefEqProofs only [h1, Int.natCast_zero, decide_true, e2, Bool.true_or, ↓cnd_true, ↓cnd_false, ↓Option.bind_some, ↓obH_some', bin_add, bin_sub, bin_mul, bin_lss, bin_leq, bin_gtr, bin_geq, bin_eql, bin_neq, un_not, un_neg, Option.bind_some, Option.bind_none, Option.map_some, cnd_true, cnd_false, pickV_true, pickV_false, gd_true, gd_false, gdV_true, gdV_false, gdH_true, gdH_false, gdS_true, gdS_false, wt_ff, wt_tt, wt_ft, wt_tf, wt_undef, obH_some', extractV_tuple, nilCheckV_ptr, againK_normal, againK_exit, againK_ret, blockK_normal, blockK_same, blockK_ret, seqK_normal, seqK_exit, seqK_ret, fin_done, if_true', if_false', Bool.not_true, Bool.not_false, idx0, idx1, idx2, idx3, idx4, chk_nil_l, chk_nil_r, done_nm]
      rw [ret46, fin_done]
      exact ⟨_, rfl, done_mod (Ac.inn (by simp) fun _ _ h => h), w2.done⟩
    · have h3 : most < (getL bs).1 := by omega
      simp -implicitDefEqProofs (disch := omega) only [dcF, dcT, e2, Bool.true_or, ↓cnd_true, ↓cnd_false, ↓Option.bind_some, ↓obH_some', bin_add, bin_sub, bin_mul, bin_lss, bin_leq, bin_gtr, bin_geq, bin_eql, bin_neq, un_not, un_neg, Option.bind_some, Option.bind_none, Option.map_some, cnd_true, cnd_false, pickV_true, pickV_false, gd_true, gd_false, gdV_true, gdV_false, gdH_true, gdH_false, gdS_true, gdS_false, wt_ff, wt_tt, wt_ft, wt_tf, wt_undef, obH_some', extractV_tuple, nilCheckV_ptr, againK_normal, againK_exit, againK_ret, blockK_normal, blockK_same, blockK_ret, seqK_normal, seqK_exit, seqK_ret, fin_done, if_true', if_false', Bool.not_true, Bool.not_false, idx0, idx1, idx2, idx3, idx4, chk_nil_l, chk_nil_r, done_nm]
      rw [ret46, fin_done]
      exact ⟨_, rfl, done_mod (Ac.inn (by simp) fun _ _ h => h), w2.done⟩
  · obtain rfl : r = some bs := by
      cases r with
      | none => have : [] = bs := hbs
                subst this
                exact absurd (.inl rfl) hbad
      | some bs' => have : bs' = bs := hbs
                    rw [this]
    have hp : numP (some bs) most = ((getL bs).1, some (bs.drop (getL bs).2)) := by simp only [numP]; exact if_neg hbad
    rw [hp]
    obtain ⟨h2, e2,Ac, w2⟩ := spec_spoil w0.nm false
    obtain ⟨a2, c2, hc2, ha2, hne2⟩ := w2
    simp only [Bool.false_eq_true, if_false, rbs, Option.getD_some] at hc2 ha2 hne2
    obtain ⟨v3, e3, s3, b3⟩ := ha2.sub etB.under etB.size (i := (getL bs).2) (j := bs.length) (lo := some (.int .i64 ((getL bs).2 : Nat))) (hi := none) hle (Nat.le_refl _) (natOf_int .i64 _) rfl
    obtain ⟨a4, c4, rfl⟩ := s3.shape
    have s4 : SB h2 (.slice a4 (bs.drop (getL bs).2).length c4) (bs.drop (getL bs).2) := by
      have el : (bs.drop (getL bs).2).length = bs.length - (getL bs).2 := by simp
      unfold SB
      rw [el]
      rw [Nat.mul_one, Nat.mul_one, ← List.map_drop, List.take_of_length_le (by simp)] at s3
      exact s3
    have el : bs.length - (getL bs).2 = (bs.drop (getL bs).2).length := by simp
    rw [el] at e3 b3
    simp -implicitDefEqProofs (disch := omega) only [dcF, dcT, e2, Bool.false_or, Option.isNone_some, faR0, ldB, hc2.load, List.getElem?_cons_zero, e3, stB, storeN_blk hc2 (o := 0) (vs := [.slice a4 (bs.drop (getL bs).2).length c4]) (by simp), ↓cnd_true, ↓cnd_false, ↓Option.bind_some, ↓obH_some', bin_add, bin_sub, bin_mul, bin_lss, bin_leq, bin_gtr, bin_geq, bin_eql, bin_neq, un_not, un_neg, Option.bind_some, Option.bind_none, Option.map_some, cnd_true, cnd_false, pickV_true, pickV_false, gd_true, gd_false, gdV_true, gdV_false, gdH_true, gdH_false, gdS_true, gdS_false, wt_ff, wt_tt, wt_ft, wt_tf, wt_undef, obH_some', extractV_tuple, nilCheckV_ptr, againK_normal, againK_exit, againK_ret, blockK_normal, blockK_same, blockK_ret, seqK_normal, seqK_exit, seqK_ret, fin_done, if_true', if_false', Bool.not_true, Bool.not_false, idx0, idx1, idx2, idx3, idx4, chk_nil_l, chk_nil_r, done_nm]
    rw [ret46, fin_done]
    refine ⟨_, rfl, done_mod ((Ac.inn (by simp) fun _ _ h => h).trans (In.put (by have := Ac.len; simpa using this) (.inr (show Just p p from rfl)) _)), ?_⟩
    exact (RdrL.put (r := some (bs.drop (getL bs).2)) hc2 s4 (hne2.to b3)).done
theorem spec_take {L : Nat} {h : Heap} {p : Nat} {r : Option (List UInt8)} (w : RdrL L h p r) (n : Nat) (hn : n < 2 ^ 64) (hl : (rbs r).length < 2 ^ 40) :
    ∃ a c h', evC Try.prog 102 #[.pointer (some ⟨p, 0, none⟩), .int .u64 n] h = some (.slice a (takeP r n).1.length c, h') ∧ HMod (Just p) h h' ∧ RdrL L h' p (takeP r n).2 ∧ SB h' (.slice a (takeP r n).1.length c) (takeP r n).1 := by
  rw [call102, c102_0_eq]
  have w0 := w
  obtain ⟨a, c, hc, ha, hne⟩ := w
  obtain ⟨bs, hbs⟩ : ∃ bs, rbs r = bs := ⟨_, rfl⟩
  rw [hbs] at hl hc ha hne
  simp -implicitDefEqProofs (disch := omega) only [faR0, ldB, hc.nm.load, List.getElem?_cons_zero, ha.nm.row.len_eq etB.under, cvI64, ↓cnd_true, ↓cnd_false, ↓Option.bind_some, ↓obH_some', bin_add, bin_sub, bin_mul, bin_lss, bin_leq, bin_gtr, bin_geq, bin_eql, bin_neq, un_not, un_neg, Option.bind_some, Option.bind_none, Option.map_some, cnd_true, cnd_false, pickV_true, pickV_false, gd_true, gd_false, gdV_true, gdV_false, gdH_true, gdH_false, gdS_true, gdS_false, wt_ff, wt_tt, wt_ft, wt_tf, wt_undef, obH_some', extractV_tuple, nilCheckV_ptr, againK_normal, againK_exit, againK_ret, blockK_normal, blockK_same, blockK_ret, seqK_normal, seqK_exit, seqK_ret, fin_done, if_true', if_false', Bool.not_true, Bool.not_false, idx0, idx1, idx2, idx3, idx4, chk_nil_l, chk_nil_r, done_nm]
  by_cases hbad : bs.length < n
  · obtain ⟨h2, e2,Ac, w2⟩ := spec_spoil w0.nm true
    have hp : takeP r n = ([], none) := by
      cases r with
      | none => rfl
      | some bs' => have : bs' = bs := hbs
                    subst this
                    simp only [takeP]; exact if_pos hbad
    rw [hp]
    simp -implicitDefEqProofs (disch := omega) only [dcT, dcF, e2, Bool.true_or, ↓cnd_true, ↓cnd_false, ↓Option.bind_some, ↓obH_some', bin_add, bin_sub, bin_mul, bin_lss, bin_leq, bin_gtr, bin_geq, bin_eql, bin_neq, un_not, un_neg, Option.bind_some, Option.bind_none, Option.map_some, cnd_true, cnd_false, pickV_true, pickV_false, gd_true, gd_false, gdV_true, gdV_false, gdH_true, gdH_false, gdS_true, gdS_false, wt_ff, wt_tt, wt_ft, wt_tf, wt_undef, obH_some', extractV_tuple, nilCheckV_ptr, againK_normal, againK_exit, againK_ret, blockK_normal, blockK_same, blockK_ret, seqK_normal, seqK_exit, seqK_ret, fin_done, if_true', if_false', Bool.not_true, Bool.not_false, idx0, idx1, idx2, idx3, idx4, chk_nil_l, chk_nil_r, done_nm]
    rw [ret102, fin_done]
    exact ⟨none, 0, _, rfl, done_mod (Ac.inn (by simp) fun _ _ h => h), w2.done, .nil⟩
  · cases r with
    | none =>
      obtain rfl : n = 0 := by have : bs.length = 0 := by rw [← hbs]; rfl
                               omega
      obtain ⟨h2, e2,Ac, w2⟩ := spec_spoil w0.nm false
      simp -implicitDefEqProofs (disch := omega) only [dcT, dcF, e2, Bool.false_or, Option.isNone_none, ↓cnd_true, ↓cnd_false, ↓Option.bind_some, ↓obH_some', bin_add, bin_sub, bin_mul, bin_lss, bin_leq, bin_gtr, bin_geq, bin_eql, bin_neq, un_not, un_neg, Option.bind_some, Option.bind_none, Option.map_some, cnd_true, cnd_false, pickV_true, pickV_false, gd_true, gd_false, gdV_true, gdV_false, gdH_true, gdH_false, gdS_true, gdS_false, wt_ff, wt_tt, wt_ft, wt_tf, wt_undef, obH_some', extractV_tuple, nilCheckV_ptr, againK_normal, againK_exit, againK_ret, blockK_normal, blockK_same, blockK_ret, seqK_normal, seqK_exit, seqK_ret, fin_done, if_true', if_false', Bool.not_true, Bool.not_false, idx0, idx1, idx2, idx3, idx4, chk_nil_l, chk_nil_r, done_nm]
      rw [ret102, fin_done]
      exact ⟨none, 0, _, rfl, done_mod (Ac.inn (by simp) fun _ _ h => h), w2.done, .nil⟩
    | some bs' =>
      obtain rfl : bs' = bs := hbs
      have hp : takeP (some bs') n = (bs'.take n, some (bs'.drop n)) := by simp only [takeP]; exact if_neg hbad
      rw [hp]
      obtain ⟨h2, e2,Ac, w2⟩ := spec_spoil w0.nm false
      obtain ⟨a2, c2, hc2, ha2, hne2⟩ := w2
      simp only [Bool.false_eq_true, if_false, rbs, Option.getD_some] at hc2 ha2 hne2
      obtain ⟨a3, c3, e3, s3, b3⟩ := sl_take ha2 (i := n) (by omega) .u64
      obtain ⟨a4, c4, e4, s4, b4⟩ := sl_drop ha2 (i := n) (by omega) .u64
      simp -implicitDefEqProofs (disch := omega) only [dcF, dcT, e2, Bool.false_or, Option.isNone_some, faR0, ldB, hc2.load, List.getElem?_cons_zero, e3, e4, stB, storeN_blk hc2 (o := 0) (vs := [.slice a4 (bs'.drop n).length c4]) (by simp), ↓cnd_true, ↓cnd_false, ↓Option.bind_some, ↓obH_some', bin_add, bin_sub, bin_mul, bin_lss, bin_leq, bin_gtr, bin_geq, bin_eql, bin_neq, un_not, un_neg, Option.bind_some, Option.bind_none, Option.map_some, cnd_true, cnd_false, pickV_true, pickV_false, gd_true, gd_false, gdV_true, gdV_false, gdH_true, gdH_false, gdS_true, gdS_false, wt_ff, wt_tt, wt_ft, wt_tf, wt_undef, obH_some', extractV_tuple, nilCheckV_ptr, againK_normal, againK_exit, againK_ret, blockK_normal, blockK_same, blockK_ret, seqK_normal, seqK_exit, seqK_ret, fin_done, if_true', if_false', Bool.not_true, Bool.not_false, idx0, idx1, idx2, idx3, idx4, chk_nil_l, chk_nil_r, done_nm]
      rw [ret102, fin_done]
      refine ⟨a3, c3, _, rfl, done_mod ((Ac.inn (by simp) fun _ _ h => h).trans (In.put (by have := Ac.len; simpa using this) (.inr (show Just p p from rfl)) _)), ?_, (s3.keepPut (hne2.to b3).ne _).done⟩
      exact (RdrL.put (r := some (bs'.drop n)) hc2 s4 (hne2.to b4)).done
theorem numP_le (r : Option (List UInt8)) (most : Nat) : (numP r most).1 ≤ most ∧ (numP r most).1 < 2 ^ 64 ∧ (rbs (numP r most).2).length ≤ (rbs r).length ∧ ((numP r most).2 = none → (numP r most).1 = 0) := by
  cases r with
  | none => simp [numP]
  | some bs =>
    simp only [numP]
    split
    · simp [rbs]
    · rename_i h
      have := getL_lt bs
      refine ⟨by omega, by omega, by simp [rbs], by simp⟩
theorem takeP_le (r : Option (List UInt8)) (n : Nat) : (takeP r n).1.length ≤ (rbs r).length ∧ (rbs (takeP r n).2).length ≤ (rbs r).length := by
  cases r with
  | none => simp [takeP]
  | some bs =>
    simp only [takeP]
    split
    · simp [rbs]
    · simp [rbs]; omega
theorem spec_RBytes {L : Nat} {h : Heap} {p : Nat} {r : Option (List UInt8)} (w : RdrL L h p r) (most : Int) (hm : most < 2 ^ 63) (hl : (rbs r).length < 2 ^ 40) :
    ∃ a c h', evC Try.prog 54 #[.pointer (some ⟨p, 0, none⟩), .int .i64 most] h = some (.slice a (bytesP r most.toNat).1.length c, h') ∧ HMod (Just p) h h' ∧ RdrL L h' p (bytesP r most.toNat).2 ∧ AB h.blks.length h' (.slice a (bytesP r most.toNat).1.length c) (bytesP r most.toNat).1 := by
  rw [call54, c54_0_eq]
  have hmx : max most 0 = ((most.toNat : Nat) : Int) := by omega
  obtain ⟨h2, e2,Ac, w2⟩ := spec_RNum w.nm most.toNat (by omega) hl
  obtain ⟨_, n64, nl, nn⟩ := numP_le r most.toNat
  obtain ⟨a3, c3, h3, e3,Ad, w3, s3⟩ := spec_take w2 (numP r most.toNat).1 n64 (by omega)
  obtain ⟨t1, t2⟩ := takeP_le (numP r most.toNat).2 (numP r most.toNat).1
  obtain ⟨a4, c4, h4, e4,Ae, s4⟩ := spec_Clone h3 _ _ s3 (by omega)
  simp -implicitDefEqProofs (disch := omega) only [maxI, hmx, cvI64, e2, e3, e4, ↓cnd_true, ↓cnd_false, ↓Option.bind_some, ↓obH_some', bin_add, bin_sub, bin_mul, bin_lss, bin_leq, bin_gtr, bin_geq, bin_eql, bin_neq, un_not, un_neg, Option.bind_some, Option.bind_none, Option.map_some, cnd_true, cnd_false, pickV_true, pickV_false, gd_true, gd_false, gdV_true, gdV_false, gdH_true, gdH_false, gdS_true, gdS_false, wt_ff, wt_tt, wt_ft, wt_tf, wt_undef, obH_some', extractV_tuple, nilCheckV_ptr, againK_normal, againK_exit, againK_ret, blockK_normal, blockK_same, blockK_ret, seqK_normal, seqK_exit, seqK_ret, fin_done, if_true', if_false', Bool.not_true, Bool.not_false, idx0, idx1, idx2, idx3, idx4, chk_nil_l, chk_nil_r, done_nm]
  rw [ret54, fin_done]
  have l2 := Ac.len
  have l3 := Ad.len
  simp only [nm_blks] at l2
  exact ⟨a4, c4, _, rfl, done_mod (((Ac.inn (by simp) fun _ _ h => h).trans (Ad.inn l2 fun _ _ h => h)).trans (Ae.inn (by omega))), (w3.ext Ae).done, (s4.up (by omega)).done⟩
theorem spec_REnd {L : Nat} {h : Heap} {p : Nat} {r : Option (List UInt8)} (w : RdrL L h p r) :
    evC Try.prog 47 #[.pointer (some ⟨p, 0, none⟩)] h = some (.bool (endP r), h) := by
  rw [call47, c47_0_eq]
  obtain ⟨a, c, hc, ha, hne⟩ := w
  cases r with
  | none =>
    simp -implicitDefEqProofs only [faR0, faR1, ldB, ldBool, hc.nm.load, List.getElem?_cons_zero, List.getElem?_cons_succ, Option.isNone_none, ↓cnd_true, ↓cnd_false, ↓Option.bind_some, ↓obH_some', bin_add, bin_sub, bin_mul, bin_lss, bin_leq, bin_gtr, bin_geq, bin_eql, bin_neq, un_not, un_neg, Option.bind_some, Option.bind_none, Option.map_some, cnd_true, cnd_false, pickV_true, pickV_false, gd_true, gd_false, gdV_true, gdV_false, gdH_true, gdH_false, gdS_true, gdS_false, wt_ff, wt_tt, wt_ft, wt_tf, wt_undef, obH_some', extractV_tuple, nilCheckV_ptr, againK_normal, againK_exit, againK_ret, blockK_normal, blockK_same, blockK_ret, seqK_normal, seqK_exit, seqK_ret, fin_done, if_true', if_false', Bool.not_true, Bool.not_false, idx0, idx1, idx2, idx3, idx4, chk_nil_l, chk_nil_r, done_nm]
    rw [ret47, fin_done]
    rfl
  | some bs =>
    simp -implicitDefEqProofs only [faR0, faR1, ldB, ldBool, hc.nm.load, List.getElem?_cons_zero, List.getElem?_cons_succ, Option.isNone_some, ha.nm.row.len_eq etB.under, ↓cnd_true, ↓cnd_false, ↓Option.bind_some, ↓obH_some', bin_add, bin_sub, bin_mul, bin_lss, bin_leq, bin_gtr, bin_geq, bin_eql, bin_neq, un_not, un_neg, Option.bind_some, Option.bind_none, Option.map_some, cnd_true, cnd_false, pickV_true, pickV_false, gd_true, gd_false, gdV_true, gdV_false, gdH_true, gdH_false, gdS_true, gdS_false, wt_ff, wt_tt, wt_ft, wt_tf, wt_undef, obH_some', extractV_tuple, nilCheckV_ptr, againK_normal, againK_exit, againK_ret, blockK_normal, blockK_same, blockK_ret, seqK_normal, seqK_exit, seqK_ret, fin_done, if_true', if_false', Bool.not_true, Bool.not_false, idx0, idx1, idx2, idx3, idx4, chk_nil_l, chk_nil_r, done_nm]
    rw [ret47, fin_done]
    cases bs with
    | nil => rfl
    | cons b bs => 
      have : decide (((rbs (some (b :: bs))).length : Int) = 0) = false := decide_eq_false (by simp [rbs]; omega)
      rw [this]; rfl
end Go.Am
namespace Go.Am
theorem sizeN_pos (n : Nat) : 1 ≤ sizeN n := by rw [sizeN]; split <;> omega
theorem sizeN_up (n : Nat) (h : 0 < n) : sizeN (n * 128 + 5) = sizeN n + 1 := by
  rw [sizeN, if_neg (by omega), show (n * 128 + 5) / 128 = n by omega]
theorem sizeN_ge (n : Nat) : ∀ k, 2 ^ (7 * k) ≤ n → k + 1 ≤ sizeN n := by
  induction n using Nat.strongRecOn with
  | _ n ih =>
    intro k hk
    cases k with
    | zero => have := sizeN_pos n; omega
    | succ k =>
      have e : 2 ^ (7 * (k + 1)) = 2 ^ (7 * k) * 128 := by rw [Nat.mul_add, Nat.pow_add]
      have hp : 0 < 2 ^ (7 * k) := Nat.two_pow_pos _
      rw [sizeN, if_neg (by omega)]
      have := ih (n / 128) (by omega) k (by rw [Nat.le_div_iff_mul_le (by omega)]; omega)
      omega
theorem getLoop_more : ∀ (l : List UInt8) (n i : Nat), (∀ c ∈ l, 128 ≤ c.toNat) → getLoop n i l = (0, 0)
  | [], n, i, _ => rfl
  | c :: l, n, i, h => by
    rw [getLoop]
    split
    · rfl
    · have := h c (by simp)
      simp only []
      rw [if_neg (by omega)]
      exact getLoop_more l _ _ fun d hd => h d (by simp [hd])
theorem putL_take (n : Nat) : ∀ (a : Nat), a < (putL n).length → ∀ c ∈ (putL n).take a, 128 ≤ c.toNat := by
  induction n using Nat.strongRecOn with
  | _ n ih =>
    intro a ha c hc
    rw [putL] at ha hc
    split at hc
    · rename_i h
      rw [if_pos h] at ha
      simp at ha
      subst ha
      simp at hc
    · rename_i h
      rw [if_neg h] at ha
      cases a with
      | zero => simp at hc
      | succ a =>
        rw [List.take_succ_cons] at hc
        rcases List.mem_cons.1 hc with rfl | hc
        · simp; omega
        · exact ih (n / 128) (by omega) a (by simpa using ha) c hc
theorem getL_cut (n a : Nat) (ha : a < (putL n).length) : getL ((putL n).take a) = (0, 0) := getLoop_more _ _ _ (putL_take n a ha)
end Go.Am
namespace Go.Am
open Go.Proofs
theorem bin_quo64 (P : Program) (t : TypeId) (xo yo : Operand) (a b : Int) (ha : 0 ≤ a) (ha' : a < 2 ^ 64) (hb : 0 < b) : binV P .quo t xo yo (.int .u64 a) (.int .u64 b) = some (.int .u64 ((a.toNat / b.toNat : Nat) : Int)) := by
  refine bin_int t xo yo .u64 .u64 a b .quo rfl ?_
  have h1 : ¬ (b = 0) := by omega
  have e : ((a.toNat / b.toNat : Nat) : Int) = a.tdiv b := by
    rw [Int.tdiv_eq_ediv_of_nonneg ha]
    push_cast
    rw [Int.toNat_of_nonneg ha, Int.toNat_of_nonneg (by omega)]
  have hlt : ((a.toNat / b.toNat : Nat) : Int) < 2 ^ 64 := by
    have := Nat.div_le_self a.toNat b.toNat
    omega
  simp only [eqGuard,Go.binOp,Op.intDiv]
  rw [if_neg h1, ← e, wrap_u64 (Int.natCast_nonneg _) hlt]
  rfl
theorem bin_rem64 (P : Program) (t : TypeId) (xo yo : Operand) (a b : Int) (ha : 0 ≤ a) (hb : 0 < b) : binV P .rem t xo yo (.int .u64 a) (.int .u64 b) = some (.int .u64 ((a.toNat % b.toNat : Nat) : Int)) := by
  refine bin_int t xo yo .u64 .u64 a b .rem rfl ?_
  have h1 : ¬ (b = 0) := by omega
  have e : ((a.toNat % b.toNat : Nat) : Int) = a.tmod b := by
    rw [Int.tmod_eq_emod_of_nonneg ha]
    push_cast
    rw [Int.toNat_of_nonneg ha, Int.toNat_of_nonneg (by omega)]
  simp only [eqGuard,Go.binOp,Op.intDiv]
  rw [if_neg h1, ← e]
  rfl
theorem add128 (t : TypeId) (xo yo : Operand) (n : Nat) : binV Try.prog .add t xo yo (byteV (UInt8.ofNat (n % 128))) (.int .u8 128) = some (byteV (UInt8.ofNat (n % 128 + 128))) := by
  unfold byteV
  rw [bin_add]
  have e1 : (UInt8.ofNat (n % 128)).toNat = n % 128 := by simp; omega
  have e2 : (UInt8.ofNat (n % 128 + 128)).toNat = n % 128 + 128 := by simp; omega
  rw [e1, e2]
  have : IntKind.wrap .u8 (((n % 128 : Nat) : Int) + 128) = ((n % 128 + 128 : Nat) : Int) := by rw [wrap_u8 (by omega) (by omega)]; omega
  rw [this]
theorem rput_loop (h0 : Heap) (n : Nat) : ∀ (h : Heap) (v : Value) (bs : List UInt8) (Ac Ad Ae Af Ag Ah Ai Aj Ak Al An Ao Ap Aq Ar Au Av Aw Ax Ay Az Ba : Value), n < 2 ^ 64 → bs.length + sizeN n < 2 ^ 40 → In h0.blks.length No (nm h0) h → AB h0.blks.length h v bs →
    ∃ a c h', loopK Try.prog (evC Try.prog) c106_1 ⟨#[v, .int .u64 n,Ac,Ad,Ae,Af,Ag,Ah,Ai,Aj,Ak,Al,An,Ao,Ap,Aq,Ar,Au,Av,Aw,Ax,Ay,Az,Ba], h⟩ (blockK 0 (seqK Try.prog (evC Try.prog) c106_2 (retK Try.f106 Try.prog h0))) =
      some (.slice a (bs ++ putL n).length c, h') ∧ HExt h0 h' ∧ AB h0.blks.length h' (.slice a (bs ++ putL n).length c) (bs ++ putL n) := by
  induction n using Nat.strongRecOn with
  | _ n ih =>
    intro h v bs Ac Ad Ae Af Ag Ah Ai Aj Ak Al An Ao Ap Aq Ar Au Av Aw Ax Ay Az Ba hn hk hin ha
    rw [loopK_eq evC_m, c106_1_eq]
    have hle : h0.blks.length ≤ h.blks.length := hin.len
    by_cases hge : 128 ≤ n
    · have f3 : sizeN n = sizeN (n / 128) + 1 := by rw [sizeN, if_neg (by omega)]
      obtain ⟨a, c, h', e1, e2, e3, _⟩ := app_b hle ha (UInt8.ofNat (n % 128 + 128)) (by omega)
      simp -implicitDefEqProofs (disch := omega) only [dcT, dcF, bin_rem64, bin_quo64, Int.toNat_natCast, Int.reduceToNat, cvB8, add128, mkBb, e1, ↓cnd_true, ↓cnd_false, ↓Option.bind_some, ↓obH_some', bin_add, bin_sub, bin_mul, bin_lss, bin_leq, bin_gtr, bin_geq, bin_eql, bin_neq, un_not, un_neg, Option.bind_some, Option.bind_none, Option.map_some, cnd_true, cnd_false, pickV_true, pickV_false, gd_true, gd_false, gdV_true, gdV_false, gdH_true, gdH_false, gdS_true, gdS_false, wt_ff, wt_tt, wt_ft, wt_tf, wt_undef, obH_some', extractV_tuple, nilCheckV_ptr, againK_normal, againK_exit, againK_ret, blockK_normal, blockK_same, blockK_ret, seqK_normal, seqK_exit, seqK_ret, fin_done, if_true', if_false', Bool.not_true, Bool.not_false, idx0, idx1, idx2, idx3, idx4, chk_nil_l, chk_nil_r, done_nm]
      obtain ⟨a2, c2, h2, g1, g2, g3⟩ := ih (n / 128) (by omega) h' _ _ _ _ _ _ _ _ _ _ _ _ _ _ _ _ _ _ _ _ _ _ _ _ (by omega) (by simp only [List.length_append, List.length_singleton]; omega) (hin.trans e3.inn) e2
      have e : bs ++ putL n = bs ++ [UInt8.ofNat (n % 128 + 128)] ++ putL (n / 128) := by rw [putL, if_neg (by omega)]; simp
      rw [e]
      exact ⟨a2, c2, h2, g1, g2, g3⟩
    · obtain ⟨a, c, h', e1, e2, e3, _⟩ := app_b hle ha (UInt8.ofNat n) (by omega)
      simp -implicitDefEqProofs (disch := omega) only [dcT, dcF, c106_2_eq, cvB8, mkBb, e1, ↓cnd_true, ↓cnd_false, ↓Option.bind_some, ↓obH_some', bin_add, bin_sub, bin_mul, bin_lss, bin_leq, bin_gtr, bin_geq, bin_eql, bin_neq, un_not, un_neg, Option.bind_some, Option.bind_none, Option.map_some, cnd_true, cnd_false, pickV_true, pickV_false, gd_true, gd_false, gdV_true, gdV_false, gdH_true, gdH_false, gdS_true, gdS_false, wt_ff, wt_tt, wt_ft, wt_tf, wt_undef, obH_some', extractV_tuple, nilCheckV_ptr, againK_normal, againK_exit, againK_ret, blockK_normal, blockK_same, blockK_ret, seqK_normal, seqK_exit, seqK_ret, fin_done, if_true', if_false', Bool.not_true, Bool.not_false, idx0, idx1, idx2, idx3, idx4, chk_nil_l, chk_nil_r, done_nm]
      rw [ret106, fin_done]
      have e : putL n = [UInt8.ofNat n] := by rw [putL, if_pos (by omega)]
      rw [e]
      exact ⟨a, c, _, rfl, done_ext' (hin.trans e3.inn), e2.done⟩
theorem spec_refPut (n : Nat) (hn : n < 2 ^ 64) (h : Heap) (b : Value) (bs : List UInt8) (hb : SB h b bs) (hk : bs.length < 2 ^ 39) :
    ∃ a c h', evC Try.prog 106 #[b, .int .u64 n] h = some (.slice a (bs ++ putL n).length c, h') ∧ HExt h h' ∧ AB h.blks.length h' (.slice a (bs ++ putL n).length c) (bs ++ putL n) := by
  rw [call106, c106_0_eq]
  have hs := sizeN_le n 10 (by omega) (by omega)
  obtain ⟨a, c, h', e1, e2, e3, _⟩ := app_bytes (n0 := h.blks.length) (by simp [Heap.new]) (AB.empty h.blks.length (nm h) (by simp)) (hb.nm.keepNew _ _) (by simp; omega)
  rw [List.nil_append] at e1 e2
  simp -implicitDefEqProofs only [mkB0, e1, ↓cnd_true, ↓cnd_false, ↓Option.bind_some, ↓obH_some', bin_add, bin_sub, bin_mul, bin_lss, bin_leq, bin_gtr, bin_geq, bin_eql, bin_neq, un_not, un_neg, Option.bind_some, Option.bind_none, Option.map_some, cnd_true, cnd_false, pickV_true, pickV_false, gd_true, gd_false, gdV_true, gdV_false, gdH_true, gdH_false, gdS_true, gdS_false, wt_ff, wt_tt, wt_ft, wt_tf, wt_undef, obH_some', extractV_tuple, nilCheckV_ptr, againK_normal, againK_exit, againK_ret, blockK_normal, blockK_same, blockK_ret, seqK_normal, seqK_exit, seqK_ret, fin_done, if_true', if_false', Bool.not_true, Bool.not_false, idx0, idx1, idx2, idx3, idx4, chk_nil_l, chk_nil_r, done_nm]
  exact rput_loop h n h' _ bs _ _ _ _ _ _ _ _ _ _ _ _ _ _ _ _ _ _ _ _ _ _ hn (by omega) ((In.new (by simp) _ _).trans e3.inn) e2
theorem sizeN_add (acc c i : Nat) (hi : i ≤ 9) (ha : acc < 2 ^ (7 * i)) (hc : c < 128) (h0 : 0 < c ∨ i = 0) : sizeN (acc + c * 2 ^ (7 * i)) = i + 1 := by
  have hp : 0 < 2 ^ (7 * i) := Nat.two_pow_pos _
  have e : 2 ^ (7 * (i + 1)) = 128 * 2 ^ (7 * i) := by rw [Nat.mul_add, Nat.pow_add, Nat.mul_comm]
  have h1 : acc + c * 2 ^ (7 * i) < 2 ^ (7 * (i + 1)) := by
    have : c * 2 ^ (7 * i) ≤ 127 * 2 ^ (7 * i) := Nat.mul_le_mul_right _ (by omega)
    omega
  have h2 := sizeN_le _ _ h1 (by omega)
  rcases h0 with h0 | rfl
  · have h3 : 2 ^ (7 * i) ≤ acc + c * 2 ^ (7 * i) := by
      have : 1 * 2 ^ (7 * i) ≤ c * 2 ^ (7 * i) := Nat.mul_le_mul_right _ h0
      omega
    have := sizeN_ge _ _ h3
    omega
  · have := sizeN_pos (acc + c * 2 ^ (7 * 0))
    omega
theorem or_add (acc c i : Nat) (ha : acc < 2 ^ (7 * i)) : acc ||| c * 2 ^ (7 * i) = acc + c * 2 ^ (7 * i) := by
  have := Nat.two_pow_add_eq_or_of_lt ha c
  rw [Nat.mul_comm, Nat.or_comm, ← this, Nat.add_comm]
theorem mod128 (c : UInt8) : c.toNat &&& 127 = c.toNat % 128 := by
  have := Nat.and_two_pow_sub_one_eq_mod c.toNat 7
  simpa using this
theorem getLoop_step (acc i : Nat) (c : UInt8) (l : List UInt8) (hi : i < 10) (ha : acc < 2 ^ (7 * i)) :
    getLoop acc i (c :: l) = if i = 9 ∧ 1 < c.toNat then (0, 0) else if c.toNat < 128 then (if c.toNat = 0 ∧ 0 < i then (0, 0) else (acc + c.toNat % 128 * 2 ^ (7 * i), i + 1)) else getLoop (acc + c.toNat % 128 * 2 ^ (7 * i)) (i + 1) l := by
  have hc := UInt8.toNat_lt c
  by_cases h9 : i = 9 ∧ 1 < c.toNat
  · rw [if_pos h9, getLoop, if_neg (by omega)]
    simp only []
    by_cases h128 : c.toNat < 128
    · rw [if_pos h128, if_pos (.inr ⟨h9.1, h9.2⟩)]
    · rw [if_neg h128]
      cases l with
      | nil => rfl
      | cons d l => rw [getLoop, if_pos (by omega)]
  · rw [if_neg h9, getLoop, if_neg (by omega)]
    simp only []
    have hlt : c.toNat % 128 * 2 ^ (7 * i) < 2 ^ 64 := by
      have h3 : (2 : Nat) ^ (7 * i) ≤ 2 ^ 63 := Nat.pow_le_pow_right (by omega) (by omega)
      by_cases h : i = 9
      · subst h
        have : c.toNat % 128 ≤ 1 := by omega
        have : c.toNat % 128 * 2 ^ (7 * 9) ≤ 1 * 2 ^ (7 * 9) := Nat.mul_le_mul_right _ this
        omega
      · have h3 : (2 : Nat) ^ (7 * i) ≤ 2 ^ 56 := Nat.pow_le_pow_right (by omega) (by omega)
        have : c.toNat % 128 * 2 ^ (7 * i) ≤ 127 * 2 ^ 56 := Nat.mul_le_mul (by omega) h3
        omega
    rw [Nat.mod_eq_of_lt hlt, or_add _ _ _ ha]
    by_cases h128 : c.toNat < 128
    · rw [if_pos h128, if_pos h128]
      by_cases h0 : c.toNat = 0 ∧ 0 < i
      · rw [if_pos h0, if_pos]
        left
        have := sizeN_le acc i (by omega) h0.2
        rw [h0.1]
        simp only [Nat.zero_mod, Nat.zero_mul, Nat.add_zero]
        omega
      · rw [if_neg h0, if_neg]
        rw [Nat.mod_eq_of_lt h128]
        rintro (h | h)
        · exact h (sizeN_add acc c.toNat i (by omega) ha h128 (by omega))
        · exact h9 ⟨h.1, h.2⟩
    · rw [if_neg h128, if_neg h128]
theorem rget_loop (h0 h : Heap) (v : Value) (bs : List UInt8) (hr : SB h v bs) (hb : bs.length < 2 ^ 40) : ∀ (m i n : Nat), bs.length - i = m → i ≤ bs.length → n < 2 ^ (7 * i) → i ≤ 10 →
    ∀ (Ab Ag Ah Ai Aj Ak Al An Ao Ap Aq Ar Au Av Aw Ax Ay Az Ba Bb Bc Bd Be Bf Bg Bh Bi Bj Bk Bl Bm Bn Bo Bp Bq Br Bs Bt Bu Bv Bw Bx : Value),
    loopK Try.prog (evC Try.prog) c98_1 ⟨#[v,Ab, .int .u64 0, .int .i64 0, .int .u64 n, .int .i64 i,Ag,Ah,Ai,Aj,Ak,Al,An,Ao,Ap,Aq,Ar,Au,Av,Aw,Ax,Ay,Az,Ba,Bb,Bc,Bd,Be,Bf,Bg,Bh,Bi,Bj,Bk,Bl,Bm,Bn,Bo,Bp,Bq,Br,Bs,Bt,Bu,Bv,Bw,Bx], h⟩ (blockK 0 (seqK Try.prog (evC Try.prog) c98_2 (retK Try.f98 Try.prog h0))) =
      some (.tuple #[.int .u64 (getLoop n i (bs.drop i)).1, .int .i64 (getLoop n i (bs.drop i)).2], done h0 h) := by
  intro m
  induction m with
  | zero =>
    intro i n hm hi hn hi10 Ab Ag Ah Ai Aj Ak Al An Ao Ap Aq Ar Au Av Aw Ax Ay Az Ba Bb Bc Bd Be Bf Bg Bh Bi Bj Bk Bl Bm Bn Bo Bp Bq Br Bs Bt Bu Bv Bw Bx
    rw [loopK_eq evC_m, c98_1_eq]
    simp -implicitDefEqProofs (disch := omega) only [dcT, dcF, hr.row.len_eq etB.under, c98_2_eq, ↓cnd_true, ↓cnd_false, ↓Option.bind_some, ↓obH_some', bin_add, bin_sub, bin_mul, bin_lss, bin_leq, bin_gtr, bin_geq, bin_eql, bin_neq, un_not, un_neg, Option.bind_some, Option.bind_none, Option.map_some, cnd_true, cnd_false, pickV_true, pickV_false, gd_true, gd_false, gdV_true, gdV_false, gdH_true, gdH_false, gdS_true, gdS_false, wt_ff, wt_tt, wt_ft, wt_tf, wt_undef, obH_some', extractV_tuple, nilCheckV_ptr, againK_normal, againK_exit, againK_ret, blockK_normal, blockK_same, blockK_ret, seqK_normal, seqK_exit, seqK_ret, fin_done, if_true', if_false', Bool.not_true, Bool.not_false, idx0, idx1, idx2, idx3, idx4, chk_nil_l, chk_nil_r, done_nm]
    rw [ret98, fin_done, List.drop_of_length_le (by omega)]
    rfl
  | succ m ih =>
    intro i n hm hi hn hi10 Ab Ag Ah Ai Aj Ak Al An Ao Ap Aq Ar Au Av Aw Ax Ay Az Ba Bb Bc Bd Be Bf Bg Bh Bi Bj Bk Bl Bm Bn Bo Bp Bq Br Bs Bt Bu Bv Bw Bx
    have hlt : i < bs.length := by omega
    rw [loopK_eq evC_m, c98_1_eq]
    have ed : bs.drop i = bs[i] :: bs.drop (i + 1) := List.drop_eq_getElem_cons hlt
    by_cases h10 : i = 10
    · simp -implicitDefEqProofs (disch := omega) only [dcT, dcF, hr.row.len_eq etB.under, c98_2_eq, ↓cnd_true, ↓cnd_false, ↓Option.bind_some, ↓obH_some', bin_add, bin_sub, bin_mul, bin_lss, bin_leq, bin_gtr, bin_geq, bin_eql, bin_neq, un_not, un_neg, Option.bind_some, Option.bind_none, Option.map_some, cnd_true, cnd_false, pickV_true, pickV_false, gd_true, gd_false, gdV_true, gdV_false, gdH_true, gdH_false, gdS_true, gdS_false, wt_ff, wt_tt, wt_ft, wt_tf, wt_undef, obH_some', extractV_tuple, nilCheckV_ptr, againK_normal, againK_exit, againK_ret, blockK_normal, blockK_same, blockK_ret, seqK_normal, seqK_exit, seqK_ret, fin_done, if_true', if_false', Bool.not_true, Bool.not_false, idx0, idx1, idx2, idx3, idx4, chk_nil_l, chk_nil_r, done_nm]
      rw [ret98, fin_done, ed, getLoop, if_pos h10]
      rfl
    · obtain ⟨a, e1, e2, _⟩ := hr.row.at1 etB.under etB.size (by kernel_rfl) hlt .i64
      have e3 : (bs.map byteV)[i]? = some (.int .u8 (bs[i].toNat)) := by simp [hlt, byteV]
      rw [e3] at e2
      generalize bs[i] = c at *
      have hc := UInt8.toNat_lt c
      rw [ed, getLoop_step n i c _ (by omega) hn]
      have e64 : (2 : Nat) ^ (7 * i) ≤ 2 ^ 63 := Nat.pow_le_pow_right (by omega) (by omega)
      by_cases h9 : i = 9 ∧ 1 < c.toNat
      · rw [if_pos h9]
        simp -implicitDefEqProofs (disch := omega) only [dcT, dcF, hr.row.len_eq etB.under, e1, e2, ↓cnd_true, ↓cnd_false, ↓Option.bind_some, ↓obH_some', bin_add, bin_sub, bin_mul, bin_lss, bin_leq, bin_gtr, bin_geq, bin_eql, bin_neq, un_not, un_neg, Option.bind_some, Option.bind_none, Option.map_some, cnd_true, cnd_false, pickV_true, pickV_false, gd_true, gd_false, gdV_true, gdV_false, gdH_true, gdH_false, gdS_true, gdS_false, wt_ff, wt_tt, wt_ft, wt_tf, wt_undef, obH_some', extractV_tuple, nilCheckV_ptr, againK_normal, againK_exit, againK_ret, blockK_normal, blockK_same, blockK_ret, seqK_normal, seqK_exit, seqK_ret, fin_done, if_true', if_false', Bool.not_true, Bool.not_false, idx0, idx1, idx2, idx3, idx4, chk_nil_l, chk_nil_r, done_nm]
        rw [ret98, fin_done]
        rfl
      · rw [if_neg h9]
        have hlt : c.toNat % 128 * 2 ^ (7 * i) < 2 ^ 64 := by
          by_cases h : i = 9
          · subst h
            have : c.toNat % 128 ≤ 1 := by omega
            have : c.toNat % 128 * 2 ^ (7 * 9) ≤ 1 * 2 ^ (7 * 9) := Nat.mul_le_mul_right _ this
            omega
          · have h3 : (2 : Nat) ^ (7 * i) ≤ 2 ^ 56 := Nat.pow_le_pow_right (by omega) (by omega)
            have : c.toNat % 128 * 2 ^ (7 * i) ≤ 127 * 2 ^ 56 := Nat.mul_le_mul (by omega) h3
            omega
        have hw : IntKind.wrap .i64 (7 * (i : Int)) = ((7 * i : Nat) : Int) := by rw [wrap_i64] <;> omega
        have hw1 : IntKind.wrap .i64 ((i : Int) + 1) = ((i + 1 : Nat) : Int) := by rw [wrap_i64] <;> omega
        have cvu : convV Try.prog 3 138 (.int .i64 ((7 * i : Nat) : Int)) h = some (.int .u64 ((7 * i : Nat) : Int), h) := conv_u64 (ks := .i64) (by kernel_rfl) (by kernel_rfl) _ _ _ (by omega) (by omega)
        have cv8 : convV Try.prog 5 46 (.int .u8 ((c.toNat % 128 : Nat) : Int)) h = some (.int .u64 ((c.toNat % 128 : Nat) : Int), h) := conv_u64 (ks := .u8) (by kernel_rfl) (by kernel_rfl) _ _ _ (by omega) (by omega)
        have h8 : ¬ (i = 9 ∧ (c.toNat : Int) > 1) := by omega
        by_cases hi9 : i = 9
        all_goals
          by_cases h128 : c.toNat < 128
          · rw [if_pos h128]
            by_cases h0 : c.toNat = 0 ∧ 0 < i
            · rw [if_pos h0]
              simp -implicitDefEqProofs (disch := omega) only [dcT, dcF, hr.row.len_eq etB.under, e1, e2, bin_and8, Int.toNat_natCast, Int.reduceToNat, mod128, cv8, hw, cvu, bin_shl64, bin_or64, Nat.mod_eq_of_lt hlt, or_add _ _ _ hn, ↓cnd_true, ↓cnd_false, ↓Option.bind_some, ↓obH_some', bin_add, bin_sub, bin_mul, bin_lss, bin_leq, bin_gtr, bin_geq, bin_eql, bin_neq, un_not, un_neg, Option.bind_some, Option.bind_none, Option.map_some, cnd_true, cnd_false, pickV_true, pickV_false, gd_true, gd_false, gdV_true, gdV_false, gdH_true, gdH_false, gdS_true, gdS_false, wt_ff, wt_tt, wt_ft, wt_tf, wt_undef, obH_some', extractV_tuple, nilCheckV_ptr, againK_normal, againK_exit, againK_ret, blockK_normal, blockK_same, blockK_ret, seqK_normal, seqK_exit, seqK_ret, fin_done, if_true', if_false', Bool.not_true, Bool.not_false, idx0, idx1, idx2, idx3, idx4, chk_nil_l, chk_nil_r, done_nm]
              rw [ret98, fin_done]
              rfl
            · rw [if_neg h0]
              by_cases h00 : c.toNat = 0
              all_goals
                simp -implicitDefEqProofs (disch := omega) only [dcT, dcF, hr.row.len_eq etB.under, e1, e2, bin_and8, Int.toNat_natCast, Int.reduceToNat, mod128, cv8, hw, cvu, bin_shl64, bin_or64, Nat.mod_eq_of_lt hlt, or_add _ _ _ hn, hw1, ↓cnd_true, ↓cnd_false, ↓Option.bind_some, ↓obH_some', bin_add, bin_sub, bin_mul, bin_lss, bin_leq, bin_gtr, bin_geq, bin_eql, bin_neq, un_not, un_neg, Option.bind_some, Option.bind_none, Option.map_some, cnd_true, cnd_false, pickV_true, pickV_false, gd_true, gd_false, gdV_true, gdV_false, gdH_true, gdH_false, gdS_true, gdS_false, wt_ff, wt_tt, wt_ft, wt_tf, wt_undef, obH_some', extractV_tuple, nilCheckV_ptr, againK_normal, againK_exit, againK_ret, blockK_normal, blockK_same, blockK_ret, seqK_normal, seqK_exit, seqK_ret, fin_done, if_true', if_false', Bool.not_true, Bool.not_false, idx0, idx1, idx2, idx3, idx4, chk_nil_l, chk_nil_r, done_nm]
                rw [ret98, fin_done]
                try (exfalso; omega)
          · rw [if_neg h128]
            simp -implicitDefEqProofs (disch := omega) only [dcT, dcF, hr.row.len_eq etB.under, e1, e2, bin_and8, Int.toNat_natCast, Int.reduceToNat, mod128, cv8, hw, cvu, bin_shl64, bin_or64, Nat.mod_eq_of_lt hlt, or_add _ _ _ hn, hw1, ↓cnd_true, ↓cnd_false, ↓Option.bind_some, ↓obH_some', bin_add, bin_sub, bin_mul, bin_lss, bin_leq, bin_gtr, bin_geq, bin_eql, bin_neq, un_not, un_neg, Option.bind_some, Option.bind_none, Option.map_some, cnd_true, cnd_false, pickV_true, pickV_false, gd_true, gd_false, gdV_true, gdV_false, gdH_true, gdH_false, gdS_true, gdS_false, wt_ff, wt_tt, wt_ft, wt_tf, wt_undef, obH_some', extractV_tuple, nilCheckV_ptr, againK_normal, againK_exit, againK_ret, blockK_normal, blockK_same, blockK_ret, seqK_normal, seqK_exit, seqK_ret, fin_done, if_true', if_false', Bool.not_true, Bool.not_false, idx0, idx1, idx2, idx3, idx4, chk_nil_l, chk_nil_r, done_nm]
            first
              | (exfalso; omega)
              | (refine ih (i + 1) _ (by omega) (by omega) ?_ (by omega) _ _ _ _ _ _ _ _ _ _ _ _ _ _ _ _ _ _ _ _ _ _ _ _ _ _ _ _ _ _ _ _ _ _ _ _ _ _ _ _ _ _
                 have e : 2 ^ (7 * (i + 1)) = 128 * 2 ^ (7 * i) := by rw [Nat.mul_add, Nat.pow_add, Nat.mul_comm]
                 have : c.toNat % 128 * 2 ^ (7 * i) ≤ 127 * 2 ^ (7 * i) := Nat.mul_le_mul_right _ (by omega)
                 omega)
theorem spec_refGet (h : Heap) (v : Value) (bs : List UInt8) (hr : SB h v bs) (hb : bs.length < 2 ^ 40) :
    evC Try.prog 98 #[v] h = some (.tuple #[.int .u64 (getL bs).1, .int .i64 (getL bs).2], h) := by
  rw [call98, c98_0_eq]
  exact rget_loop h (nm h) v bs hr.nm hb bs.length 0 0 (by omega) (by omega) (by omega) (by omega) _ _ _ _ _ _ _ _ _ _ _ _ _ _ _ _ _ _ _ _ _ _ _ _ _ _ _ _ _ _ _ _ _ _ _ _ _ _ _ _ _ _
end Go.Am
namespace Go.Am
open Go.Proofs
theorem faRW (p : Nat) : fieldAddrV Try.prog 97 (.pointer (some ⟨p, 0, none⟩)) 0 = some (.pointer (some ⟨p, 0, none⟩)) := by kernel_rfl
theorem faRR0 (p : Nat) : fieldAddrV Try.prog 83 (.pointer (some ⟨p, 0, none⟩)) 0 = some (.pointer (some ⟨p, 0, none⟩)) := by kernel_rfl
theorem faRR1 (p : Nat) : fieldAddrV Try.prog 83 (.pointer (some ⟨p, 0, none⟩)) 1 = some (.pointer (some ⟨p, 1, none⟩)) := by kernel_rfl
theorem bdRW : buildV Try.prog 97 #[] = some (.agg #[.slice none 0 0]) := by kernel_rfl
theorem bxRW (x : Value) (h : Heap) : boxV Try.prog 97 (.agg #[x]) h = some (.pointer (some ⟨h.blks.length, 0, none⟩), h.new (.cells [x]) 97) := by kernel_rfl
theorem bdRR (a : Option Addr) (n c : Nat) : buildV Try.prog 83 #[(0, .slice a n c)] = some (.agg #[.slice a n c, .bool false]) := by kernel_rfl
theorem bxRR (x y : Value) (h : Heap) : boxV Try.prog 83 (.agg #[x, y]) h = some (.pointer (some ⟨h.blks.length, 0, none⟩), h.new (.cells [x, y]) 83) := by kernel_rfl
def WrR (n0 : Nat) (h : Heap) (p : Nat) (bs : List UInt8) : Prop := ∃ a c, Cells h p 97 [.slice a bs.length c] ∧ AB n0 h (.slice a bs.length c) bs ∧ blockOf (.slice a bs.length c) ≠ some p
theorem WrR.lt {n0 : Nat} {h : Heap} {p : Nat} {bs : List UInt8} (w : WrR n0 h p bs) : p < h.blks.length := let ⟨_, _, c, _⟩ := w; c.lt
theorem WrR.put {n0 : Nat} {h : Heap} {p : Nat} {a : Option Addr} {bs : List UInt8} {c : Nat} {cs : List Value} (hc : Cells h p 97 cs) (ha : AB n0 h (.slice a bs.length c) bs) (hb : blockOf (.slice a bs.length c) ≠ some p) :
    WrR n0 (h.put p (.cells [.slice a bs.length c])) p bs := ⟨a, c, hc.put _, ha.keepPut hb _, hb⟩
theorem WrR.nm {n0 : Nat} {h : Heap} {p : Nat} {bs : List UInt8} (w : WrR n0 h p bs) : WrR n0 (Am.nm h) p bs := let ⟨a, c, x, y, z⟩ := w; ⟨a, c, x, y.keep fun _ _ _ => rfl, z⟩
theorem WrR.done {n0 : Nat} {h0 h : Heap} {p : Nat} {bs : List UInt8} (w : WrR n0 h p bs) : WrR n0 (Am.done h0 h) p bs := let ⟨a, c, x, y, z⟩ := w; ⟨a, c, x.done, y.done, z⟩
theorem WrR.same {n0 : Nat} {h h' : Heap} {p : Nat} {bs : List UInt8} (w : WrR n0 h p bs) (e : Same h h') : WrR n0 h' p bs := let ⟨a, c, x, y, z⟩ := w; ⟨a, c, x.same e, y.same e, z⟩
theorem WrR.ext {n0 : Nat} {h h' : Heap} {p : Nat} {bs : List UInt8} (w : WrR n0 h p bs) (e : HExt h h') : WrR n0 h' p bs := let ⟨a, c, x, y, z⟩ := w; ⟨a, c, x.ext e, y.keep fun b hb _ => e.old b hb, z⟩
theorem WrR.up {n0 n1 : Nat} {h : Heap} {p : Nat} {bs : List UInt8} (w : WrR n0 h p bs) (hn : n1 ≤ n0) : WrR n1 h p bs := let ⟨a, c, x, y, z⟩ := w; ⟨a, c, x, y.up hn, z⟩
theorem spec_RWNum {n0 : Nat} {h : Heap} {p : Nat} {bs : List UInt8} (w : WrR n0 h p bs) (hn0 : n0 ≤ h.blks.length) (n : Nat) (hn : n < 2 ^ 64) (hl : bs.length < 2 ^ 39) :
    ∃ h', evC Try.prog 58 #[.pointer (some ⟨p, 0, none⟩), .int .u64 n] h = some (.tuple #[], h') ∧ HMod (Just p) h h' ∧ WrR h.blks.length h' p (bs ++ putL n) := by
  rw [call58, c58_0_eq]
  obtain ⟨a, c, hc, ha, hne⟩ := w
  obtain ⟨a2, c2, h2, e2,Ac, ab⟩ := spec_refPut n hn (nm h) _ bs ha.sb.nm hl
  simp -implicitDefEqProofs only [faRW, ldB, hc.nm.load, List.getElem?_cons_zero, e2, stB, storeN_blk (hc.nm.ext Ac) (o := 0) (vs := [.slice a2 (bs ++ putL n).length c2]) (by simp), ↓cnd_true, ↓cnd_false, ↓Option.bind_some, ↓obH_some', bin_add, bin_sub, bin_mul, bin_lss, bin_leq, bin_gtr, bin_geq, bin_eql, bin_neq, un_not, un_neg, Option.bind_some, Option.bind_none, Option.map_some, cnd_true, cnd_false, pickV_true, pickV_false, gd_true, gd_false, gdV_true, gdV_false, gdH_true, gdH_false, gdS_true, gdS_false, wt_ff, wt_tt, wt_ft, wt_tf, wt_undef, obH_some', extractV_tuple, nilCheckV_ptr, againK_normal, againK_exit, againK_ret, blockK_normal, blockK_same, blockK_ret, seqK_normal, seqK_exit, seqK_ret, fin_done, if_true', if_false', Bool.not_true, Bool.not_false, idx0, idx1, idx2, idx3, idx4, chk_nil_l, chk_nil_r, done_nm]
  rw [retn58, fin_done]
  refine ⟨_, rfl, done_mod ((Ac.inn (by simp)).trans (In.put (by have := Ac.len; simpa using this) (.inr (show Just p p from rfl)) _)), ?_⟩
  simp only [List.take_zero, List.nil_append, List.length_singleton, Nat.zero_add, List.drop_succ_cons, List.drop_nil, List.append_nil]
  exact (WrR.put (hc.nm.ext Ac) ab (ab.ne hc.lt)).done
theorem spec_RWBytes {n0 : Nat} {h : Heap} {p : Nat} {bs : List UInt8} (w : WrR n0 h p bs) (hn0 : n0 ≤ h.blks.length) {x : Value} {cs : List UInt8} (hx : SB h x cs) (hxp : blockOf x ≠ some p) (hl : bs.length < 2 ^ 39) (hl2 : cs.length < 2 ^ 39) :
    ∃ h', evC Try.prog 62 #[.pointer (some ⟨p, 0, none⟩), x] h = some (.tuple #[], h') ∧ HMod (Just p) h h' ∧ WrR h.blks.length h' p (bs ++ putL cs.length ++ cs) := by
  rw [call62, c62_0_eq]
  have hs := sizeN_le cs.length 6 (by omega) (by omega)
  obtain ⟨h2, e2,Ac, w2⟩ := spec_RWNum w.nm (by simpa using hn0) cs.length (by omega) hl
  obtain ⟨a, c, hc, ha, hne⟩ := w2
  have hx2 : SB h2 x cs := hx.nm.mod Ac fun b hb e => hxp (by rw [hb, e])
  obtain ⟨a3, c3, h3, e3, ab, k3, o3, _⟩ := app_bytes (n0 := h.blks.length) (by have := Ac.len; simpa using this) ha hx2 (by simp [putL_len]; omega)
  have hc3 : Cells h3 p _ _ := (o3 p hc.lt hne).trans hc
  simp -implicitDefEqProofs (disch := omega) only [hx.nm.row.len_eq etB.under, cvI64, e2, faRW, ldB, hc.load, List.getElem?_cons_zero, e3, stB, storeN_blk hc3 (o := 0) (vs := [.slice a3 (bs ++ putL cs.length ++ cs).length c3]) (by simp), ↓cnd_true, ↓cnd_false, ↓Option.bind_some, ↓obH_some', bin_add, bin_sub, bin_mul, bin_lss, bin_leq, bin_gtr, bin_geq, bin_eql, bin_neq, un_not, un_neg, Option.bind_some, Option.bind_none, Option.map_some, cnd_true, cnd_false, pickV_true, pickV_false, gd_true, gd_false, gdV_true, gdV_false, gdH_true, gdH_false, gdS_true, gdS_false, wt_ff, wt_tt, wt_ft, wt_tf, wt_undef, obH_some', extractV_tuple, nilCheckV_ptr, againK_normal, againK_exit, againK_ret, blockK_normal, blockK_same, blockK_ret, seqK_normal, seqK_exit, seqK_ret, fin_done, if_true', if_false', Bool.not_true, Bool.not_false, idx0, idx1, idx2, idx3, idx4, chk_nil_l, chk_nil_r, done_nm]
  rw [retn62, fin_done]
  refine ⟨_, rfl, done_mod (((Ac.inn (by simp) (fun b _ hb => hb)).trans (k3.inn)).trans (In.put (by have := Ac.len; have := k3.len; simp at *; omega) (.inr (show Just p p from rfl)) _)), ?_⟩
  simp only [List.take_zero, List.nil_append, List.length_singleton, Nat.zero_add, List.drop_succ_cons, List.drop_nil, List.append_nil]
  exact (WrR.put hc3 ab (ab.ne w.lt)).done

def LoR (v : Value) (N p : Nat) : Prop := Lo v N ∧ N ≤ p
theorem LoR.ne {v : Value} {N p : Nat} (l : LoR v N p) : blockOf v ≠ some p := (l.1.mono l.2).ne
theorem LoR.to {v w : Value} {N p : Nat} (l : LoR v N p) (e : blockOf w = blockOf v) : LoR w N p := ⟨l.1.to e, l.2⟩
theorem LoR.none {v : Value} {N p : Nat} (l : LoR v N p) : LoR (.slice Option.none 0 0) N p := ⟨Lo.nil _ _ _, l.2⟩
def RdrR (N : Nat) (h : Heap) (p : Nat) (r : Option (List UInt8)) : Prop := ∃ a c, Cells h p 83 [.slice a (rbs r).length c, .bool r.isNone] ∧ SB h (.slice a (rbs r).length c) (rbs r) ∧ LoR (.slice a (rbs r).length c) N p
theorem RdrR.lt {N : Nat} {h : Heap} {p : Nat} {r : Option (List UInt8)} (w : RdrR N h p r) : p < h.blks.length := let ⟨_, _, c, _⟩ := w; c.lt
theorem RdrR.nm {N : Nat} {h : Heap} {p : Nat} {r : Option (List UInt8)} (w : RdrR N h p r) : RdrR N (Am.nm h) p r := let ⟨a, c, x, y, z⟩ := w; ⟨a, c, x, y.nm, z⟩
theorem RdrR.done {N : Nat} {h0 h : Heap} {p : Nat} {r : Option (List UInt8)} (w : RdrR N h p r) : RdrR N (Am.done h0 h) p r := let ⟨a, c, x, y, z⟩ := w; ⟨a, c, x.done, y.done, z⟩
theorem RdrR.same {N : Nat} {h h' : Heap} {p : Nat} {r : Option (List UInt8)} (w : RdrR N h p r) (e : Same h h') : RdrR N h' p r := let ⟨a, c, x, y, z⟩ := w; ⟨a, c, x.same e, y.same e, z⟩
theorem RdrR.keepPut {N : Nat} {h : Heap} {p q : Nat} {r : Option (List UInt8)} (w : RdrR N h p r) (hq : p < q) (body : Body) : RdrR N (h.put q body) p r :=
  let ⟨a, c, x, y, z⟩ := w; ⟨a, c, x.keepPut (by omega) _, y.keepPut (fun e => by have := z.1 _ e; have := z.2; omega) _, z⟩
theorem RdrR.ext {N : Nat} {h h' : Heap} {p : Nat} {r : Option (List UInt8)} (w : RdrR N h p r) (e : HExt h h') : RdrR N h' p r := let ⟨a, c, x, y, z⟩ := w; ⟨a, c, x.ext e, y.ext e, z⟩
theorem RdrR.put {N : Nat} {h : Heap} {p : Nat} {a : Option Addr} {r : Option (List UInt8)} {c : Nat} {cs : List Value} (hc : Cells h p 83 cs) (ha : SB h (.slice a (rbs r).length c) (rbs r)) (hb : LoR (.slice a (rbs r).length c) N p) :
    RdrR N (h.put p (.cells [.slice a (rbs r).length c, .bool r.isNone])) p r := ⟨a, c, hc.put _, ha.keepPut hb.ne _, hb⟩
theorem spec_fail {N : Nat} {h : Heap} {p : Nat} {r : Option (List UInt8)} (w : RdrR N h p r) :
    ∃ h', evC Try.prog 99 #[.pointer (some ⟨p, 0, none⟩)] h = some (.tuple #[], h') ∧ HMod (Just p) h h' ∧ RdrR N h' p none := by
  rw [call99, c99_0_eq]
  obtain ⟨a, c, hc, ha, hne⟩ := w
  have hc1 := hc.nm.put [Value.slice a (rbs r).length c, .bool true]
  have hc2 := hc1.put [Value.slice none 0 0, .bool true]
  simp -implicitDefEqProofs only [faRR0, faRR1, stB, stBool, storeN_blk hc.nm (o := 1) (vs := [.bool true]) (by simp), List.take_zero, List.nil_append, List.length_singleton, Nat.zero_add, List.drop_succ_cons, List.drop_zero, List.cons_append, List.singleton_append,
    storeN_blk hc1 (o := 0) (vs := [.slice none 0 0]) (by simp), List.take_succ_cons, List.drop_nil, Nat.reduceAdd, List.append_nil, ↓cnd_true, ↓cnd_false, ↓Option.bind_some, ↓obH_some', bin_add, bin_sub, bin_mul, bin_lss, bin_leq, bin_gtr, bin_geq, bin_eql, bin_neq, un_not, un_neg, Option.bind_some, Option.bind_none, Option.map_some, cnd_true, cnd_false, pickV_true, pickV_false, gd_true, gd_false, gdV_true, gdV_false, gdH_true, gdH_false, gdS_true, gdS_false, wt_ff, wt_tt, wt_ft, wt_tf, wt_undef, obH_some', extractV_tuple, nilCheckV_ptr, againK_normal, againK_exit, againK_ret, blockK_normal, blockK_same, blockK_ret, seqK_normal, seqK_exit, seqK_ret, fin_done, if_true', if_false', Bool.not_true, Bool.not_false, idx0, idx1, idx2, idx3, idx4, chk_nil_l, chk_nil_r, done_nm]
  rw [retn99, fin_done]
  exact ⟨_, rfl, done_mod ((In.put (by simp) (.inr (show Just p p from rfl)) _).trans (In.put (by rw [Heap.put_len]; simp) (.inr (show Just p p from rfl)) _)), ⟨none, 0, hc2.done, .nil, hne.none⟩⟩
theorem spec_RRNum {N : Nat} {h : Heap} {p : Nat} {r : Option (List UInt8)} (w : RdrR N h p r) (most : Nat) (hm : most < 2 ^ 64) (hl : (rbs r).length < 2 ^ 40) :
    ∃ h', evC Try.prog 48 #[.pointer (some ⟨p, 0, none⟩), .int .u64 most] h = some (.int .u64 (numP r most).1, h') ∧ HMod (Just p) h h' ∧ RdrR N h' p (numP r most).2 := by
  rw [call48, c48_0_eq]
  have w0 := w
  obtain ⟨a, c, hc, ha, hne⟩ := w
  obtain ⟨h2, e2,Ac, w2⟩ := spec_fail w0.nm
  cases r with
  | none =>
    have hg := spec_refGet (Am.nm h) _ (rbs none) ha.nm (by simp [rbs])
    simp -implicitDefEqProofs only [faRR0, faRR1, ldB, ldBool, hc.nm.load, List.getElem?_cons_zero, List.getElem?_cons_succ, hg, Option.isNone_none, e2, ↓cnd_true, ↓cnd_false, ↓Option.bind_some, ↓obH_some', bin_add, bin_sub, bin_mul, bin_lss, bin_leq, bin_gtr, bin_geq, bin_eql, bin_neq, un_not, un_neg, Option.bind_some, Option.bind_none, Option.map_some, cnd_true, cnd_false, pickV_true, pickV_false, gd_true, gd_false, gdV_true, gdV_false, gdH_true, gdH_false, gdS_true, gdS_false, wt_ff, wt_tt, wt_ft, wt_tf, wt_undef, obH_some', extractV_tuple, nilCheckV_ptr, againK_normal, againK_exit, againK_ret, blockK_normal, blockK_same, blockK_ret, seqK_normal, seqK_exit, seqK_ret, fin_done, if_true', if_false', Bool.not_true, Bool.not_false, idx0, idx1, idx2, idx3, idx4, chk_nil_l, chk_nil_r, done_nm]
    rw [ret48, fin_done]
    exact ⟨_, rfl, done_mod (Ac.inn (by simp) fun _ _ h => h), w2.done⟩
  | some bs =>
    have hrb : rbs (some bs) = bs := rfl
    rw [hrb] at hl hc ha hne
    have hg := spec_refGet (Am.nm h) _ bs ha.nm hl
    have h64 := getL_lt bs
    have hle := getL_len bs
    simp -implicitDefEqProofs only [faRR0, faRR1, ldB, ldBool, hc.nm.load, List.getElem?_cons_zero, List.getElem?_cons_succ, hg, Option.isNone_some, ↓cnd_true, ↓cnd_false, ↓Option.bind_some, ↓obH_some', bin_add, bin_sub, bin_mul, bin_lss, bin_leq, bin_gtr, bin_geq, bin_eql, bin_neq, un_not, un_neg, Option.bind_some, Option.bind_none, Option.map_some, cnd_true, cnd_false, pickV_true, pickV_false, gd_true, gd_false, gdV_true, gdV_false, gdH_true, gdH_false, gdS_true, gdS_false, wt_ff, wt_tt, wt_ft, wt_tf, wt_undef, obH_some', extractV_tuple, nilCheckV_ptr, againK_normal, againK_exit, againK_ret, blockK_normal, blockK_same, blockK_ret, seqK_normal, seqK_exit, seqK_ret, fin_done, if_true', if_false', Bool.not_true, Bool.not_false, idx0, idx1, idx2, idx3, idx4, chk_nil_l, chk_nil_r, done_nm]
    by_cases hbad : (getL bs).2 = 0 ∨ most < (getL bs).1
    · have hp : numP (some bs) most = (0, none) := by simp only [numP]; exact if_pos hbad
      rw [hp]
      by_cases h1 : (getL bs).2 = 0
      all_goals
        simp -implicitDefEqProofs (disch := omega) only [dcF, dcT, e2, ↓cnd_true, ↓cnd_false, ↓Option.bind_some, ↓obH_some', bin_add, bin_sub, bin_mul, bin_lss, bin_leq, bin_gtr, bin_geq, bin_eql, bin_neq, un_not, un_neg, Option.bind_some, Option.bind_none, Option.map_some, cnd_true, cnd_false, pickV_true, pickV_false, gd_true, gd_false, gdV_true, gdV_false, gdH_true, gdH_false, gdS_true, gdS_false, wt_ff, wt_tt, wt_ft, wt_tf, wt_undef, obH_some', extractV_tuple, nilCheckV_ptr, againK_normal, againK_exit, againK_ret, blockK_normal, blockK_same, blockK_ret, seqK_normal, seqK_exit, seqK_ret, fin_done, if_true', if_false', Bool.not_true, Bool.not_false, idx0, idx1, idx2, idx3, idx4, chk_nil_l, chk_nil_r, done_nm]
        rw [ret48, fin_done]
        exact ⟨_, rfl, done_mod (Ac.inn (by simp) fun _ _ h => h), w2.done⟩
    · have hp : numP (some bs) most = ((getL bs).1, some (bs.drop (getL bs).2)) := by simp only [numP]; exact if_neg hbad
      rw [hp]
      obtain ⟨a4, c4, e4, s4, b4⟩ := sl_drop ha.nm (i := (getL bs).2) hle .i64
      simp -implicitDefEqProofs (disch := omega) only [dcF, dcT, e4, stB, storeN_blk hc.nm (o := 0) (vs := [.slice a4 (bs.drop (getL bs).2).length c4]) (by simp), ↓cnd_true, ↓cnd_false, ↓Option.bind_some, ↓obH_some', bin_add, bin_sub, bin_mul, bin_lss, bin_leq, bin_gtr, bin_geq, bin_eql, bin_neq, un_not, un_neg, Option.bind_some, Option.bind_none, Option.map_some, cnd_true, cnd_false, pickV_true, pickV_false, gd_true, gd_false, gdV_true, gdV_false, gdH_true, gdH_false, gdS_true, gdS_false, wt_ff, wt_tt, wt_ft, wt_tf, wt_undef, obH_some', extractV_tuple, nilCheckV_ptr, againK_normal, againK_exit, againK_ret, blockK_normal, blockK_same, blockK_ret, seqK_normal, seqK_exit, seqK_ret, fin_done, if_true', if_false', Bool.not_true, Bool.not_false, idx0, idx1, idx2, idx3, idx4, chk_nil_l, chk_nil_r, done_nm]
      rw [ret48, fin_done]
      exact ⟨_, rfl, done_mod (In.put (by simp) (.inr (show Just p p from rfl)) _), (RdrR.put (r := some (bs.drop (getL bs).2)) hc.nm s4 (hne.to b4)).done⟩
theorem spec_RREnd {N : Nat} {h : Heap} {p : Nat} {r : Option (List UInt8)} (w : RdrR N h p r) :
    evC Try.prog 56 #[.pointer (some ⟨p, 0, none⟩)] h = some (.bool (endP r), h) := by
  rw [call56, c56_0_eq]
  obtain ⟨a, c, hc, ha, hne⟩ := w
  cases r with
  | none =>
    simp -implicitDefEqProofs only [faRR0, faRR1, ldB, ldBool, hc.nm.load, List.getElem?_cons_zero, List.getElem?_cons_succ, Option.isNone_none, ↓cnd_true, ↓cnd_false, ↓Option.bind_some, ↓obH_some', bin_add, bin_sub, bin_mul, bin_lss, bin_leq, bin_gtr, bin_geq, bin_eql, bin_neq, un_not, un_neg, Option.bind_some, Option.bind_none, Option.map_some, cnd_true, cnd_false, pickV_true, pickV_false, gd_true, gd_false, gdV_true, gdV_false, gdH_true, gdH_false, gdS_true, gdS_false, wt_ff, wt_tt, wt_ft, wt_tf, wt_undef, obH_some', extractV_tuple, nilCheckV_ptr, againK_normal, againK_exit, againK_ret, blockK_normal, blockK_same, blockK_ret, seqK_normal, seqK_exit, seqK_ret, fin_done, if_true', if_false', Bool.not_true, Bool.not_false, idx0, idx1, idx2, idx3, idx4, chk_nil_l, chk_nil_r, done_nm]
    rw [ret56, fin_done]
    rfl
  | some bs =>
    simp -implicitDefEqProofs only [faRR0, faRR1, ldB, ldBool, hc.nm.load, List.getElem?_cons_zero, List.getElem?_cons_succ, Option.isNone_some, ha.nm.row.len_eq etB.under, ↓cnd_true, ↓cnd_false, ↓Option.bind_some, ↓obH_some', bin_add, bin_sub, bin_mul, bin_lss, bin_leq, bin_gtr, bin_geq, bin_eql, bin_neq, un_not, un_neg, Option.bind_some, Option.bind_none, Option.map_some, cnd_true, cnd_false, pickV_true, pickV_false, gd_true, gd_false, gdV_true, gdV_false, gdH_true, gdH_false, gdS_true, gdS_false, wt_ff, wt_tt, wt_ft, wt_tf, wt_undef, obH_some', extractV_tuple, nilCheckV_ptr, againK_normal, againK_exit, againK_ret, blockK_normal, blockK_same, blockK_ret, seqK_normal, seqK_exit, seqK_ret, fin_done, if_true', if_false', Bool.not_true, Bool.not_false, idx0, idx1, idx2, idx3, idx4, chk_nil_l, chk_nil_r, done_nm]
    rw [ret56, fin_done]
    cases bs with
    | nil => rfl
    | cons b bs => 
      have : decide (((rbs (some (b :: bs))).length : Int) = 0) = false := decide_eq_false (by simp [rbs]; omega)
      rw [this]; rfl
theorem spec_RRBytes {N : Nat} {h : Heap} {p : Nat} {r : Option (List UInt8)} (w : RdrR N h p r) (most : Int) (hm0 : -2 ^ 63 ≤ most) (hm : most < 2 ^ 63) (hl : (rbs r).length < 2 ^ 40) :
    ∃ a c h', evC Try.prog 55 #[.pointer (some ⟨p, 0, none⟩), .int .i64 most] h = some (.slice a (bytesP r most.toNat).1.length c, h') ∧ HMod (Just p) h h' ∧ RdrR N h' p (bytesP r most.toNat).2 ∧ AB h.blks.length h' (.slice a (bytesP r most.toNat).1.length c) (bytesP r most.toNat).1 := by
  rw [call55, c55_0_eq]
  have w0 := w
  obtain ⟨a, c, hc, ha, hne⟩ := w
  obtain ⟨h2, e2,Ac, w2⟩ := spec_fail w0.nm
  cases r with
  | none =>
    have hg := spec_refGet (Am.nm h) _ (rbs none) ha.nm (by simp [rbs])
    simp -implicitDefEqProofs only [faRR0, faRR1, ldB, ldBool, hc.nm.load, List.getElem?_cons_zero, List.getElem?_cons_succ, hg, Option.isNone_none, e2, ↓cnd_true, ↓cnd_false, ↓Option.bind_some, ↓obH_some', bin_add, bin_sub, bin_mul, bin_lss, bin_leq, bin_gtr, bin_geq, bin_eql, bin_neq, un_not, un_neg, Option.bind_some, Option.bind_none, Option.map_some, cnd_true, cnd_false, pickV_true, pickV_false, gd_true, gd_false, gdV_true, gdV_false, gdH_true, gdH_false, gdS_true, gdS_false, wt_ff, wt_tt, wt_ft, wt_tf, wt_undef, obH_some', extractV_tuple, nilCheckV_ptr, againK_normal, againK_exit, againK_ret, blockK_normal, blockK_same, blockK_ret, seqK_normal, seqK_exit, seqK_ret, fin_done, if_true', if_false', Bool.not_true, Bool.not_false, idx0, idx1, idx2, idx3, idx4, chk_nil_l, chk_nil_r, done_nm]
    rw [ret55, fin_done]
    exact ⟨none, 0, _, rfl, done_mod (Ac.inn (by simp) fun _ _ h => h), w2.done, .nil⟩
  | some bs =>
    have hrb : rbs (some bs) = bs := rfl
    rw [hrb] at hl hc ha hne
    have hg := spec_refGet (Am.nm h) _ bs ha.nm hl
    have h64 := getL_lt bs
    have hle := getL_len bs
    simp -implicitDefEqProofs only [faRR0, faRR1, ldB, ldBool, hc.nm.load, List.getElem?_cons_zero, List.getElem?_cons_succ, hg, Option.isNone_some, ↓cnd_true, ↓cnd_false, ↓Option.bind_some, ↓obH_some', bin_add, bin_sub, bin_mul, bin_lss, bin_leq, bin_gtr, bin_geq, bin_eql, bin_neq, un_not, un_neg, Option.bind_some, Option.bind_none, Option.map_some, cnd_true, cnd_false, pickV_true, pickV_false, gd_true, gd_false, gdV_true, gdV_false, gdH_true, gdH_false, gdS_true, gdS_false, wt_ff, wt_tt, wt_ft, wt_tf, wt_undef, obH_some', extractV_tuple, nilCheckV_ptr, againK_normal, againK_exit, againK_ret, blockK_normal, blockK_same, blockK_ret, seqK_normal, seqK_exit, seqK_ret, fin_done, if_true', if_false', Bool.not_true, Bool.not_false, idx0, idx1, idx2, idx3, idx4, chk_nil_l, chk_nil_r, done_nm]
    have hk63 : (getL bs).2 < 2 ^ 40 := by omega
    by_cases h1 : (getL bs).2 = 0
    · have hp : bytesP (some bs) most.toNat = ([], none) := by
        simp only [bytesP, numP]; rw [if_pos (.inl h1)]; rfl
      rw [hp]
      simp -implicitDefEqProofs (disch := omega) only [dcF, dcT, faRR0, faRR1, ldB, ldBool, hc.nm.load, List.getElem?_cons_zero, List.getElem?_cons_succ, Option.isNone_some, e2, ↓cnd_true, ↓cnd_false, ↓Option.bind_some, ↓obH_some', bin_add, bin_sub, bin_mul, bin_lss, bin_leq, bin_gtr, bin_geq, bin_eql, bin_neq, un_not, un_neg, Option.bind_some, Option.bind_none, Option.map_some, cnd_true, cnd_false, pickV_true, pickV_false, gd_true, gd_false, gdV_true, gdV_false, gdH_true, gdH_false, gdS_true, gdS_false, wt_ff, wt_tt, wt_ft, wt_tf, wt_undef, obH_some', extractV_tuple, nilCheckV_ptr, againK_normal, againK_exit, againK_ret, blockK_normal, blockK_same, blockK_ret, seqK_normal, seqK_exit, seqK_ret, fin_done, if_true', if_false', Bool.not_true, Bool.not_false, idx0, idx1, idx2, idx3, idx4, chk_nil_l, chk_nil_r, done_nm]
      rw [ret55, fin_done]
      exact ⟨none, 0, _, rfl, done_mod (Ac.inn (by simp) fun _ _ h => h), w2.done, .nil⟩
    · have hfail : (most < 0 ∧ 0 < (getL bs).1) ∨ (0 ≤ most ∧ most < (getL bs).1) ∨ (0 ≤ most ∧ bs.length - (getL bs).2 < (getL bs).1) →
          bytesP (some bs) most.toNat = ([], none) := by
        intro hc
        simp only [bytesP, numP]
        by_cases h2 : most.toNat < (getL bs).1
        · rw [if_pos (.inr h2)]; rfl
        · rw [if_neg (by omega)]
          simp only [takeP]
          rw [if_pos (by simp; omega)]
      have hw : IntKind.wrap .i64 ((bs.length : Int) - (getL bs).2) = ((bs.length - (getL bs).2 : Nat) : Int) := by rw [wrap_i64] <;> omega
      by_cases hneg : most < 0
      · by_cases hn : (getL bs).1 = 0
        · have hp : bytesP (some bs) most.toNat = ([], some (bs.drop (getL bs).2)) := by
            simp only [bytesP, numP]
            rw [if_neg (by omega)]
            simp only [takeP, hn]
            rw [if_neg (by omega)]; rfl
          rw [hp]
          obtain ⟨a4, c4, e4, s4, b4⟩ := sl_drop ha.nm (i := (getL bs).2) hle .i64
          simp -implicitDefEqProofs (disch := omega) only [dcF, dcT, faRR0, faRR1, ldB, ldBool, hc.nm.load, List.getElem?_cons_zero, List.getElem?_cons_succ, Option.isNone_some, e4, stB, storeN_blk hc.nm (o := 0) (vs := [.slice a4 (bs.drop (getL bs).2).length c4]) (by simp), ↓cnd_true, ↓cnd_false, ↓Option.bind_some, ↓obH_some', bin_add, bin_sub, bin_mul, bin_lss, bin_leq, bin_gtr, bin_geq, bin_eql, bin_neq, un_not, un_neg, Option.bind_some, Option.bind_none, Option.map_some, cnd_true, cnd_false, pickV_true, pickV_false, gd_true, gd_false, gdV_true, gdV_false, gdH_true, gdH_false, gdS_true, gdS_false, wt_ff, wt_tt, wt_ft, wt_tf, wt_undef, obH_some', extractV_tuple, nilCheckV_ptr, againK_normal, againK_exit, againK_ret, blockK_normal, blockK_same, blockK_ret, seqK_normal, seqK_exit, seqK_ret, fin_done, if_true', if_false', Bool.not_true, Bool.not_false, idx0, idx1, idx2, idx3, idx4, chk_nil_l, chk_nil_r, done_nm]
          rw [ret55, fin_done]
          exact ⟨none, 0, _, rfl, done_mod (In.put (by simp) (.inr (show Just p p from rfl)) _), (RdrR.put (r := some (bs.drop (getL bs).2)) hc.nm s4 (hne.to b4)).done, .nil⟩
        · rw [hfail (.inl ⟨hneg, by omega⟩)]
          simp -implicitDefEqProofs (disch := omega) only [dcF, dcT, faRR0, faRR1, ldB, ldBool, hc.nm.load, List.getElem?_cons_zero, List.getElem?_cons_succ, Option.isNone_some, e2, ↓cnd_true, ↓cnd_false, ↓Option.bind_some, ↓obH_some', bin_add, bin_sub, bin_mul, bin_lss, bin_leq, bin_gtr, bin_geq, bin_eql, bin_neq, un_not, un_neg, Option.bind_some, Option.bind_none, Option.map_some, cnd_true, cnd_false, pickV_true, pickV_false, gd_true, gd_false, gdV_true, gdV_false, gdH_true, gdH_false, gdS_true, gdS_false, wt_ff, wt_tt, wt_ft, wt_tf, wt_undef, obH_some', extractV_tuple, nilCheckV_ptr, againK_normal, againK_exit, againK_ret, blockK_normal, blockK_same, blockK_ret, seqK_normal, seqK_exit, seqK_ret, fin_done, if_true', if_false', Bool.not_true, Bool.not_false, idx0, idx1, idx2, idx3, idx4, chk_nil_l, chk_nil_r, done_nm]
          rw [ret55, fin_done]
          exact ⟨none, 0, _, rfl, done_mod (Ac.inn (by simp) fun _ _ h => h), w2.done, .nil⟩
      · by_cases hm1 : most < (getL bs).1
        · rw [hfail (.inr (.inl ⟨by omega, hm1⟩))]
          simp -implicitDefEqProofs (disch := omega) only [dcF, dcT, faRR0, faRR1, ldB, ldBool, hc.nm.load, List.getElem?_cons_zero, List.getElem?_cons_succ, Option.isNone_some, cvI64, e2, ↓cnd_true, ↓cnd_false, ↓Option.bind_some, ↓obH_some', bin_add, bin_sub, bin_mul, bin_lss, bin_leq, bin_gtr, bin_geq, bin_eql, bin_neq, un_not, un_neg, Option.bind_some, Option.bind_none, Option.map_some, cnd_true, cnd_false, pickV_true, pickV_false, gd_true, gd_false, gdV_true, gdV_false, gdH_true, gdH_false, gdS_true, gdS_false, wt_ff, wt_tt, wt_ft, wt_tf, wt_undef, obH_some', extractV_tuple, nilCheckV_ptr, againK_normal, againK_exit, againK_ret, blockK_normal, blockK_same, blockK_ret, seqK_normal, seqK_exit, seqK_ret, fin_done, if_true', if_false', Bool.not_true, Bool.not_false, idx0, idx1, idx2, idx3, idx4, chk_nil_l, chk_nil_r, done_nm]
          rw [ret55, fin_done]
          exact ⟨none, 0, _, rfl, done_mod (Ac.inn (by simp) fun _ _ h => h), w2.done, .nil⟩
        · by_cases hm2 : bs.length - (getL bs).2 < (getL bs).1
          · rw [hfail (.inr (.inr ⟨by omega, hm2⟩))]
            simp -implicitDefEqProofs (disch := omega) only [dcF, dcT, faRR0, faRR1, ldB, ldBool, hc.nm.load, List.getElem?_cons_zero, List.getElem?_cons_succ, Option.isNone_some, ha.nm.row.len_eq etB.under, hw, cvI64, e2, ↓cnd_true, ↓cnd_false, ↓Option.bind_some, ↓obH_some', bin_add, bin_sub, bin_mul, bin_lss, bin_leq, bin_gtr, bin_geq, bin_eql, bin_neq, un_not, un_neg, Option.bind_some, Option.bind_none, Option.map_some, cnd_true, cnd_false, pickV_true, pickV_false, gd_true, gd_false, gdV_true, gdV_false, gdH_true, gdH_false, gdS_true, gdS_false, wt_ff, wt_tt, wt_ft, wt_tf, wt_undef, obH_some', extractV_tuple, nilCheckV_ptr, againK_normal, againK_exit, againK_ret, blockK_normal, blockK_same, blockK_ret, seqK_normal, seqK_exit, seqK_ret, fin_done, if_true', if_false', Bool.not_true, Bool.not_false, idx0, idx1, idx2, idx3, idx4, chk_nil_l, chk_nil_r, done_nm]
            rw [ret55, fin_done]
            exact ⟨none, 0, _, rfl, done_mod (Ac.inn (by simp) fun _ _ h => h), w2.done, .nil⟩
          · have hp : bytesP (some bs) most.toNat = ((bs.drop (getL bs).2).take (getL bs).1, some (bs.drop ((getL bs).2 + (getL bs).1))) := by
              simp only [bytesP, numP]
              rw [if_neg (by omega)]
              simp only [takeP]
              rw [if_neg (by simp; omega), List.drop_drop]
            rw [hp]
            have hw2 : IntKind.wrap .i64 (((getL bs).2 : Int) + (getL bs).1) = (((getL bs).2 + (getL bs).1 : Nat) : Int) := by rw [wrap_i64] <;> omega
            have ha1 : SB ((Am.nm h).new (.cells []) 5) (.slice a bs.length c) bs := ha.nm.keepNew _ _
            have hc1 : Cells ((Am.nm h).new (.cells []) 5) p _ _ := hc.nm.keepNew _ _
            obtain ⟨a3, c3, e3, s3, b3⟩ := sl_mid ha1 (i := (getL bs).2) (j := (getL bs).2 + (getL bs).1) (by omega) (by omega) (lo := some (.int .i64 ((getL bs).2 : Nat))) (hi := some (.int .i64 (((getL bs).2 + (getL bs).1 : Nat) : Int))) (natOf_int .i64 _) (natOf_int .i64 _)
            rw [Nat.add_sub_cancel_left] at e3 s3 b3
            obtain ⟨a5, c5, h5, e5, s5, k5, o5, _⟩ := app_bytes (n0 := h.blks.length) (by simp [Heap.new]) (AB.empty h.blks.length (Am.nm h) (by simp)) s3 (by simp; omega)
            rw [List.nil_append] at e5 s5
            have hc5 : Cells h5 p _ _ := (o5 p hc1.lt (by have := hc.lt; simp [blockOf]; omega)).trans hc1
            have ha5 : SB h5 (.slice a bs.length c) bs := ha1.keep fun b hb hv => o5 b hb (by have := ha.lt hv; simp [blockOf]; omega)
            obtain ⟨a4, c4, e4, s4, b4⟩ := sl_drop ha5 (i := (getL bs).2 + (getL bs).1) (by omega) .i64
            simp -implicitDefEqProofs (disch := omega) only [dcF, dcT, faRR0, faRR1, ldB, ldBool, hc.nm.load, List.getElem?_cons_zero, List.getElem?_cons_succ, Option.isNone_some, ha.nm.row.len_eq etB.under, hw, hw2, cvI64, cvU64, mkB0, hc1.load, hc5.load, e3, e4, e5, stB, storeN_blk hc5 (o := 0) (vs := [.slice a4 (bs.drop ((getL bs).2 + (getL bs).1)).length c4]) (by simp), ↓cnd_true, ↓cnd_false, ↓Option.bind_some, ↓obH_some', bin_add, bin_sub, bin_mul, bin_lss, bin_leq, bin_gtr, bin_geq, bin_eql, bin_neq, un_not, un_neg, Option.bind_some, Option.bind_none, Option.map_some, cnd_true, cnd_false, pickV_true, pickV_false, gd_true, gd_false, gdV_true, gdV_false, gdH_true, gdH_false, gdS_true, gdS_false, wt_ff, wt_tt, wt_ft, wt_tf, wt_undef, obH_some', extractV_tuple, nilCheckV_ptr, againK_normal, againK_exit, againK_ret, blockK_normal, blockK_same, blockK_ret, seqK_normal, seqK_exit, seqK_ret, fin_done, if_true', if_false', Bool.not_true, Bool.not_false, idx0, idx1, idx2, idx3, idx4, chk_nil_l, chk_nil_r, done_nm]
            rw [ret55, fin_done]
            have hpb : blockOf (.slice a5 ((bs.drop (getL bs).2).take (getL bs).1).length c5) ≠ some p := s5.ne hc.lt
            refine ⟨a5, c5, _, rfl, done_mod (((In.new (by simp) _ _).trans k5.inn).trans (In.put (by have := k5.len; simp [Heap.new] at this; omega) (.inr (show Just p p from rfl)) _)), ?_, (s5.keepPut hpb _).done⟩
            exact (RdrR.put (r := some (bs.drop ((getL bs).2 + (getL bs).1))) hc5 s4 (hne.to b4)).done
end Go.Am
namespace Go.Am
theorem putL_lt (n : Nat) (h : n < 128) : putL n = [UInt8.ofNat n] := by rw [putL, if_pos h]
theorem putL_ge (n : Nat) (h : 128 ≤ n) : putL n = UInt8.ofNat (n % 128 + 128) :: putL (n / 128) := by rw [putL, if_neg (by omega)]
theorem getLoop_putL (rest : List UInt8) (n : Nat) : ∀ (acc i : Nat), acc < 2 ^ (7 * i) → acc + n * 2 ^ (7 * i) < 2 ^ 64 → i + sizeN n ≤ 10 → (i = 0 ∨ 0 < n) →
    getLoop acc i (putL n ++ rest) = (acc + n * 2 ^ (7 * i), i + sizeN n) := by
  induction n using Nat.strongRecOn with
  | _ n ih =>
    intro acc i ha hs hi hn
    have hp : 0 < 2 ^ (7 * i) := Nat.two_pow_pos _
    by_cases h : n < 128
    · have e1 : sizeN n = 1 := by rw [sizeN, if_pos h]
      have ec : (UInt8.ofNat n).toNat = n := by simp; omega
      rw [putL_lt n h, List.cons_append, List.nil_append, getLoop_step _ _ _ _ (by omega) ha, ec, if_neg, if_pos h, if_neg (by omega), e1, Nat.mod_eq_of_lt h]
      rintro ⟨h9, h1⟩
      subst h9
      have : 2 * 2 ^ (7 * 9) ≤ n * 2 ^ (7 * 9) := Nat.mul_le_mul_right _ h1
      omega
    · have e1 : sizeN n = sizeN (n / 128) + 1 := by rw [sizeN, if_neg h]
      have hs1 := sizeN_pos (n / 128)
      have ec : (UInt8.ofNat (n % 128 + 128)).toNat = n % 128 + 128 := by simp; omega
      have e : 2 ^ (7 * (i + 1)) = 128 * 2 ^ (7 * i) := by rw [Nat.mul_add, Nat.pow_add, Nat.mul_comm]
      have em : (n % 128 + 128) % 128 = n % 128 := by omega
      have e2 : acc + n % 128 * 2 ^ (7 * i) + n / 128 * 2 ^ (7 * (i + 1)) = acc + n * 2 ^ (7 * i) := by
        rw [e, ← Nat.mul_assoc, Nat.add_assoc, ← Nat.add_mul]
        congr 2; omega
      rw [putL_ge n (by omega), List.cons_append, getLoop_step _ _ _ _ (by omega) ha, ec, if_neg (by omega), if_neg (by omega), em,
        ih (n / 128) (by omega) _ (i + 1) ?_ (by rw [e2]; exact hs) (by omega) (.inr (by omega)), e2, e1]
      · congr 1; omega
      · have : n % 128 * 2 ^ (7 * i) ≤ 127 * 2 ^ (7 * i) := Nat.mul_le_mul_right _ (by omega)
        omega
theorem getL_putL (n : Nat) (hn : n < 2 ^ 64) (rest : List UInt8) : getL (putL n ++ rest) = (n, (putL n).length) := by
  have := getLoop_putL rest n 0 0 (by omega) (by omega) (by have := sizeN_le n 10 (by omega) (by omega); omega) (.inl rfl)
  rw [getL, this, putL_len]
  simp
theorem putL_pos (n : Nat) : 0 < (putL n).length := by rw [putL_len]; exact sizeN_pos n
theorem numP_putL (n : Nat) (hn : n < 2 ^ 64) (rest : List UInt8) (m : Nat) (hm : n ≤ m) : numP (some (putL n ++ rest)) m = (n, some rest) := by
  have := putL_pos n
  simp only [numP, getL_putL n hn]
  rw [if_neg (by omega), List.drop_left]
theorem numP_cut (n : Nat) (hn : n < 2 ^ 64) (rest : List UInt8) (m : Nat) (hm : n ≤ m) (a : Nat) :
    numP (some ((putL n ++ rest).take a)) m = if a < (putL n).length then (0, none) else (n, some (rest.take (a - (putL n).length))) := by
  split
  · rename_i h
    rw [List.take_append_of_le_length (by omega)]
    simp only [numP, getL_cut n a h]
    rfl
  · rename_i h
    rw [List.take_append, List.take_of_length_le (by omega)]
    exact numP_putL n hn _ m hm
theorem bytesP_cut (body rest : List UInt8) (hb : body.length < 2 ^ 64) (m : Nat) (hm : body.length ≤ m) (a : Nat) (ha : a < (putL body.length ++ body).length) :
    bytesP (some ((putL body.length ++ body).take a)) m = ([], none) := by
  unfold bytesP
  rw [numP_cut _ hb _ _ hm]
  simp only [List.length_append] at ha
  split
  · rfl
  · simp only [takeP]
    rw [if_pos (by simp; omega)]
theorem bytesP_put (body rest : List UInt8) (hb : body.length < 2 ^ 64) (m : Nat) (hm : body.length ≤ m) : bytesP (some (putL body.length ++ (body ++ rest))) m = (body, some rest) := by
  unfold bytesP
  rw [numP_putL _ hb _ _ hm]
  simp only [takeP]
  rw [if_neg (by simp), List.take_left, List.drop_left]
theorem numP_none (m : Nat) : numP none m = (0, none) := rfl
theorem bytesP_none (m : Nat) : bytesP none m = ([], none) := rfl
end Go.Am
namespace Go.Am
open Go.Proofs
set_option maxRecDepth 100000
set_option linter.all false
attribute [local congr] obind_congr obH_congr cnd_congr chk_congr retK_congr codeK_congr
def putLs (l : List Nat) : List UInt8 := l.flatMap putL
theorem putLs_snoc (l : List Nat) (n : Nat) : putLs (l ++ [n]) = putLs l ++ putL n := by simp [putLs]
theorem putLs_app (a b : List Nat) : putLs (a ++ b) = putLs a ++ putLs b := by simp [putLs]
def stampM (n : Int) (m : List (List Nat)) : List UInt8 := if goodM n m = true then putLs m.flatten else []
theorem putLs_len (l : List Nat) (h : ∀ n ∈ l, n < 2 ^ 64) : (putLs l).length ≤ 10 * l.length := by
  induction l with
  | nil => simp [putLs]
  | cons n l ih =>
    have hn := h n (by simp)
    have h1 := sizeN_le n 10 (by omega) (by omega)
    have h2 := ih fun m hm => h m (by simp [hm])
    have h3 := putL_len n
    simp only [putLs, List.flatMap_cons, List.length_append, List.length_cons] at h2 ⊢
    omega
def MAX : Nat := 18446744073709551615
def readRow : Nat → Option (List UInt8) → List Nat × Option (List UInt8)
  | 0, r => ([], r)
  | k + 1, r => let x := numP r MAX; let y := readRow k x.2; (x.1 :: y.1, y.2)
def readRows (n : Nat) : Nat → Option (List UInt8) → List (List Nat) × Option (List UInt8)
  | 0, r => ([], r)
  | k + 1, r => let x := readRow n r; let y := readRows n k x.2; (x.1 :: y.1, y.2)
theorem readRow_len : ∀ (k : Nat) (r : Option (List UInt8)), (readRow k r).1.length = k
  | 0, r => rfl
  | k + 1, r => by simp only [readRow, List.length_cons]; rw [readRow_len k]
theorem readRow_le : ∀ (k : Nat) (r : Option (List UInt8)), (rbs (readRow k r).2).length ≤ (rbs r).length ∧ ∀ x ∈ (readRow k r).1, x < 2 ^ 64
  | 0, r => by simp [readRow]
  | k + 1, r => by
    have h1 := numP_le r MAX
    have h2 := readRow_le k (numP r MAX).2
    simp only [readRow]
    refine ⟨by omega, fun x hx => ?_⟩
    rcases List.mem_cons.1 hx with rfl | hx
    · exact h1.2.1
    · exact h2.2 x hx
theorem readRows_len (n : Nat) : ∀ (k : Nat) (r : Option (List UInt8)), (readRows n k r).1.length = k
  | 0, r => rfl
  | k + 1, r => by simp only [readRows, List.length_cons]; rw [readRows_len n k]
theorem readRows_row (n : Nat) : ∀ (k : Nat) (r : Option (List UInt8)), ∀ x ∈ (readRows n k r).1, x.length = n ∧ ∀ y ∈ x, y < 2 ^ 64
  | 0, r => by simp [readRows]
  | k + 1, r => by
    simp only [readRows]
    intro x hx
    rcases List.mem_cons.1 hx with rfl | hx
    · exact ⟨readRow_len n r, (readRow_le n r).2⟩
    · exact readRows_row n k _ x hx
def readM (n : Int) (bs : List UInt8) : Option (List (List Nat)) := if 1 ≤ n ∧ n ≤ 16 then (if endP (readRows n.toNat n.toNat (some bs)).2 = true then some (readRows n.toNat n.toNat (some bs)).1 else none) else none
theorem readRow_put : ∀ (l : List Nat) (rest : List UInt8), (∀ n ∈ l, n < 2 ^ 64) → readRow l.length (some (putLs l ++ rest)) = (l, some rest)
  | [], rest, _ => rfl
  | n :: l, rest, h => by
    have hn := h n (by simp)
    have e : putLs (n :: l) ++ rest = putL n ++ (putLs l ++ rest) := by simp [putLs]
    rw [List.length_cons, e]
    simp only [readRow]
    rw [numP_putL n hn _ MAX (by unfold MAX; omega)]
    simp only []
    rw [readRow_put l rest fun m hm => h m (by simp [hm])]
theorem readRows_put (n : Nat) : ∀ (m : List (List Nat)) (rest : List UInt8), (∀ r ∈ m, r.length = n ∧ ∀ y ∈ r, y < 2 ^ 64) → readRows n m.length (some (putLs m.flatten ++ rest)) = (m, some rest)
  | [], rest, _ => rfl
  | r :: m, rest, h => by
    have hr := h r (by simp)
    have e : putLs (r :: m).flatten ++ rest = putLs r ++ (putLs m.flatten ++ rest) := by rw [List.flatten_cons, putLs_app, List.append_assoc]
    rw [List.length_cons, e]
    simp only [readRows]
    have := readRow_put r (putLs m.flatten ++ rest) hr.2
    rw [hr.1] at this
    rw [this]
    simp only []
    rw [readRows_put n m rest fun q hq => h q (by simp [hq])]
theorem readM_stamp {n : Int} {m : List (List Nat)} (g : goodM n m = true) (h : ∀ r ∈ m, ∀ y ∈ r, y < 2 ^ 64) : readM n (stampM n m) = some m := by
  have hg := (goodM_iff n m).1 g
  unfold readM stampM
  rw [if_pos ⟨hg.1.1, hg.1.2.1⟩, if_pos g]
  have := readRows_put n.toNat m [] fun r hr => ⟨by have := hg.2 r hr; omega, h r hr⟩
  rw [List.append_nil, show m.length = n.toNat by omega] at this
  rw [this]
  rfl
theorem readM_good {n : Int} {bs : List UInt8} {m : List (List Nat)} (h : readM n bs = some m) : goodM n m = true ∧ ∀ r ∈ m, ∀ y ∈ r, y < 2 ^ 64 := by
  unfold readM at h
  split at h
  · rename_i hn
    split at h
    · cases h
      have hr := readRows_row n.toNat n.toNat (some bs)
      refine ⟨goodM_getD ⟨hn.1, hn.2, by rw [readRows_len]; omega⟩ fun k hk => ?_, fun r hr' => (hr r hr').2⟩
      have := (hr _ (List.getElem_mem hk)).1
      rw [List.getD_eq_getElem?_getD, List.getElem?_eq_getElem hk]
      simp only [Option.getD_some]
      omega
    · cases h
  · cases h
theorem SM.lo {h : Heap} {v : Value} {m : List (List Nat)} (s : SM h v m) : Lo v h.blks.length := let ⟨_, x, _⟩ := s; x.lo
theorem stamp_inner {Q : Option (Value × Heap) → Prop} {N p : Nat} {mv row : Value} {ml : Int} {r : List Nat} (i : Nat) (hr : r.length ≤ 16) (h64 : ∀ n ∈ r, n < 2 ^ 64) (hlo : Lo row N) (hmv : Lo mv N) (hp : N ≤ p) (k : Ex → St → Option (Value × Heap)) {h0 : Heap} (hN : h0.blks.length ≤ N) :
    ∀ (m j : Nat) (h : Heap) (acc : List UInt8), r.length = j + m → SU h row r → Wr 0 h p acc → acc.length + 10 * m < 2 ^ 38 → In N No h0 h →
    (∀ h', Wr 0 h' p (acc ++ putLs (r.drop j)) → In N No h0 h' → ∀ (Aa Ab Ae Af Ag Ah Ai Aj Ak Al An Ar Au Av Aw Ax Ay Az Ba Bb Bc Bd Be Bf Bg Bh Bi : Value), Q (k .normal ⟨#[Aa,Ab, .slice none 0 0, .pointer (some ⟨p, 0, none⟩),Ae,Af,Ag,Ah,Ai,Aj,Ak,Al,An, mv, .int .i64 ml, .int .i64 i,Ar,Au,Av,Aw,Ax,Ay,Az,Ba,Bb,Bc,Bd,Be,Bf,Bg,Bh,Bi], h'⟩)) →
    ∀ (Aa Ab Ae Af Ag Ah Ai Aj Ak Al An Ar Au Av Az Ba Bb Bc Bd Be Bf Bg Bh Bi : Value), Q (loopK Try.prog (evC Try.prog) c19_3 ⟨#[Aa,Ab, .slice none 0 0, .pointer (some ⟨p, 0, none⟩),Ae,Af,Ag,Ah,Ai,Aj,Ak,Al,An, mv, .int .i64 ml, .int .i64 i,Ar,Au,Av, row, .int .i64 r.length, .int .i64 j,Az,Ba,Bb,Bc,Bd,Be,Bf,Bg,Bh,Bi], h⟩ (blockK 2 k)) := by
  intro m
  induction m with
  | zero =>
    intro j h acc hj s w _ hin hk Aa Ab Ae Af Ag Ah Ai Aj Ak Al An Ar Au Av Az Ba Bb Bc Bd Be Bf Bg Bh Bi
    rw [loopK_eq evC_m, c19_3_eq]
    rw [List.drop_of_length_le (by omega), show putLs [] = [] from rfl, List.append_nil] at hk
    have := hk h w hin
    simp -implicitDefEqProofs (disch := omega) only [dcT, dcF, ↓cnd_true, ↓cnd_false, ↓Option.bind_some, ↓obH_some', bin_add, bin_sub, bin_mul, bin_lss, bin_leq, bin_gtr, bin_geq, bin_eql, bin_neq, un_not, un_neg, Option.bind_some, Option.bind_none, Option.map_some, cnd_true, cnd_false, pickV_true, pickV_false, gd_true, gd_false, gdV_true, gdV_false, gdH_true, gdH_false, gdS_true, gdS_false, wt_ff, wt_tt, wt_ft, wt_tf, wt_undef, obH_some', extractV_tuple, nilCheckV_ptr, againK_normal, againK_exit, againK_ret, blockK_normal, blockK_same, blockK_ret, seqK_normal, seqK_exit, seqK_ret, fin_done, if_true', if_false', Bool.not_true, Bool.not_false, idx0, idx1, idx2, idx3, idx4, chk_nil_l, chk_nil_r, done_nm]
    exact this _ _ _ _ _ _ _ _ _ _ _ _ _ _ _ _ _ _ _ _ _ _ _ _ _ _ _
  | succ m ih =>
    intro j h acc hj s w hacc hin hk Aa Ab Ae Af Ag Ah Ai Aj Ak Al An Ar Au Av Az Ba Bb Bc Bd Be Bf Bg Bh Bi
    rw [loopK_eq evC_m, c19_3_eq]
    obtain ⟨a, e1, e2⟩ := su_at s etV.under (i := j) (by omega)
    have hn := getD_lt r h64 j
    have hs := sizeN_le (r.getD j 0) 10 (by omega) (by omega)
    have hz := putL_len (r.getD j 0)
    obtain ⟨h2, e3,Ac, w2⟩ := spec_WNum w (Nat.zero_le _) (r.getD j 0) hn (by omega)
    have hw : IntKind.wrap .i64 ((j : Int) + 1) = ((j + 1 : Nat) : Int) := by rw [wrap_i64] <;> omega
    have s2 : SU h2 row r := s.mod Ac fun b hb e => by have := hlo b hb; have : b = p := e; omega
    have hd : r.drop j = r.getD j 0 :: r.drop (j + 1) := drop_cons r 0 (by omega)
    rw [hd] at hk
    have ih' := ih (j + 1) h2 (acc ++ putL (r.getD j 0)) (by omega) s2 (w2.up (Nat.zero_le _)) (by rw [List.length_append]; omega)
      (hin.trans (Ac.inn (by have := hin.len; have := hin.le; omega) fun b hb e => by have : b = p := e; omega)) (fun h' w' i' => hk h' (by rw [List.append_assoc] at w'; simpa [putLs] using w') i')
    simp -implicitDefEqProofs (disch := omega) only [dcT, dcF, e1, e2, e3, hw, ↓cnd_true, ↓cnd_false, ↓Option.bind_some, ↓obH_some', bin_add, bin_sub, bin_mul, bin_lss, bin_leq, bin_gtr, bin_geq, bin_eql, bin_neq, un_not, un_neg, Option.bind_some, Option.bind_none, Option.map_some, cnd_true, cnd_false, pickV_true, pickV_false, gd_true, gd_false, gdV_true, gdV_false, gdH_true, gdH_false, gdS_true, gdS_false, wt_ff, wt_tt, wt_ft, wt_tf, wt_undef, obH_some', extractV_tuple, nilCheckV_ptr, againK_normal, againK_exit, againK_ret, blockK_normal, blockK_same, blockK_ret, seqK_normal, seqK_exit, seqK_ret, fin_done, if_true', if_false', Bool.not_true, Bool.not_false, idx0, idx1, idx2, idx3, idx4, chk_nil_l, chk_nil_r, done_nm]
    exact ih' _ _ _ _ _ _ _ _ _ _ _ _ _ _ _ _ _ _ _ _ _ _ _ _
theorem putLs_take (m : List (List Nat)) {i : Nat} (hi : i < m.length) : putLs (m.take i).flatten ++ putLs (m.getD i []) = putLs (m.take (i + 1)).flatten := by
  rw [← take_succ_getD m [] hi, List.flatten_append, putLs_app]; simp
theorem good_total {n : Int} {m : List (List Nat)} (g : goodM n m = true) (h : ∀ r ∈ m, ∀ y ∈ r, y < 2 ^ 64) (i : Nat) : (putLs (m.take i).flatten).length ≤ 2560 := by
  have hg := (goodM_iff n m).1 g
  have h1 := putLs_len (m.take i).flatten fun x hx => by
    obtain ⟨r, hr, hx⟩ := List.mem_flatten.1 hx
    exact h r (List.mem_of_mem_take hr) x hx
  have h2 : ∀ (l : List (List Nat)), (∀ r ∈ l, r.length ≤ 16) → l.flatten.length ≤ 16 * l.length := by
    intro l
    induction l with
    | nil => simp
    | cons r l ih =>
      intro hl
      have a := hl r (by simp)
      have b := ih fun q hq => hl q (by simp [hq])
      rw [List.flatten_cons, List.length_append, List.length_cons]
      omega
  have h3 := h2 (m.take i) fun r hr => by have := hg.2 r (List.mem_of_mem_take hr); omega
  have h4 : (m.take i).length ≤ 16 := by simp; omega
  omega
theorem stamp_loop {h0 : Heap} {n : Int} {p : Nat} {mv : Value} {m : List (List Nat)} (g : goodM n m = true) (h64 : ∀ r ∈ m, ∀ y ∈ r, y < 2 ^ 64) {vs : List Value} (s0 : SMv h0 mv vs m) (hp : h0.blks.length ≤ p) : ∀ (mm i : Nat) (h : Heap), m.length = i + mm → Wr 0 h p (putLs (m.take i).flatten) → In h0.blks.length No (nm h0) h →
    ∀ (Aa Ab Ae Af Ag Ah Ai Aj Ak Al An Ar Au Av Aw Ax Ay Az Ba Bb Bc Bd Be Bf Bg Bh Bi : Value),
    ∃ a c h', loopK Try.prog (evC Try.prog) c19_1 ⟨#[Aa,Ab, .slice none 0 0, .pointer (some ⟨p, 0, none⟩),Ae,Af,Ag,Ah,Ai,Aj,Ak,Al,An, mv, .int .i64 m.length, .int .i64 i,Ar,Au,Av,Aw,Ax,Ay,Az,Ba,Bb,Bc,Bd,Be,Bf,Bg,Bh,Bi], h⟩ (blockK 0 (seqK Try.prog (evC Try.prog) c19_2 (retK Try.f19 Try.prog h0))) =
      some (.slice a (putLs m.flatten).length c, h') ∧ HExt h0 h' ∧ AB h0.blks.length h' (.slice a (putLs m.flatten).length c) (putLs m.flatten) := by
  have hg := (goodM_iff n m).1 g
  intro mm
  induction mm with
  | zero =>
    intro i h hi w hin Aa Ab Ae Af Ag Ah Ai Aj Ak Al An Ar Au Av Aw Ax Ay Az Ba Bb Bc Bd Be Bf Bg Bh Bi
    rw [loopK_eq evC_m, c19_1_eq]
    have ht := good_total g h64 i
    rw [List.take_of_length_le (by omega)] at w ht
    obtain ⟨a, c, h2, e2,Ac, s2⟩ := spec_WDone w (by omega)
    have hl := hin.len
    simp only [nm_blks] at hl
    simp -implicitDefEqProofs (disch := omega) only [dcT, dcF, ↓c19_2_eq, e2, ↓ret19, ↓cnd_true, ↓cnd_false, ↓Option.bind_some, ↓obH_some', bin_add, bin_sub, bin_mul, bin_lss, bin_leq, bin_gtr, bin_geq, bin_eql, bin_neq, un_not, un_neg, Option.bind_some, Option.bind_none, Option.map_some, cnd_true, cnd_false, pickV_true, pickV_false, gd_true, gd_false, gdV_true, gdV_false, gdH_true, gdH_false, gdS_true, gdS_false, wt_ff, wt_tt, wt_ft, wt_tf, wt_undef, obH_some', extractV_tuple, nilCheckV_ptr, againK_normal, againK_exit, againK_ret, blockK_normal, blockK_same, blockK_ret, seqK_normal, seqK_exit, seqK_ret, fin_done, if_true', if_false', Bool.not_true, Bool.not_false, idx0, idx1, idx2, idx3, idx4, chk_nil_l, chk_nil_r, done_nm]
    exact ⟨a, c, _, rfl, done_ext' (hin.trans (Ac.inn hl)), (s2.up (by omega)).done⟩
  | succ mm ih =>
    intro i h hi w hin Aa Ab Ae Af Ag Ah Ai Aj Ak Al An Ar Au Av Aw Ax Ay Az Ba Bb Bc Bd Be Bf Bg Bh Bi
    rw [loopK_eq evC_m, c19_1_eq]
    have ht := good_total g h64 i
    obtain ⟨ad, x, hx, ea, ex, sx⟩ := (s0.kp hin.same0.2).at etM.under etM.size (by kernel_rfl) (i := i) (by omega)
    obtain ⟨ad0, y, hy, ea0, ex0, sx0⟩ := s0.at etM.under etM.size (by kernel_rfl) (i := i) (by omega)
    obtain rfl : x = y := Option.some.inj (hx.symm.trans hy)
    have hrl := goodM_rows g (i := i) (by omega)
    have hr64 : ∀ y ∈ m.getD i [], y < 2 ^ 64 := by
      rw [List.getD_eq_getElem?_getD, List.getElem?_eq_getElem (by omega)]; exact h64 _ (List.getElem_mem _)
    have hw : IntKind.wrap .i64 ((i : Int) + 1) = ((i + 1 : Nat) : Int) := by rw [wrap_i64] <;> omega
    have inner := stamp_inner (Q := fun r => ∃ a c h', r = some (.slice a (putLs m.flatten).length c, h') ∧ HExt h0 h' ∧ AB h0.blks.length h' (.slice a (putLs m.flatten).length c) (putLs m.flatten)) (N := h0.blks.length) (p := p) (mv := mv) (row := x) (ml := m.length) (r := m.getD i []) i (by omega) hr64 sx0.lo s0.1.lo hp
      (blockK 1 (seqK Try.prog (evC Try.prog) c19_4 (againK Try.prog (evC Try.prog) c19_1 (blockK 0 (seqK Try.prog (evC Try.prog) c19_2 (retK Try.f19 Try.prog h0)))))) (h0 := nm h0) (Nat.le_refl _)
      (m.getD i []).length 0 h _ (by omega) sx w (by omega) hin (by
        intro h' w' i' Aa Ab Ae Af Ag Ah Ai Aj Ak Al An Ar Au Av Aw Ax Ay Az Ba Bb Bc Bd Be Bf Bg Bh Bi
        rw [List.drop_zero, putLs_take m (by omega)] at w'
        have ih' := ih (i + 1) h' (by omega) w' i'
        simp -implicitDefEqProofs (disch := omega) only [↓c19_4_eq, hw, ↓cnd_true, ↓cnd_false, ↓Option.bind_some, ↓obH_some', bin_add, bin_sub, bin_mul, bin_lss, bin_leq, bin_gtr, bin_geq, bin_eql, bin_neq, un_not, un_neg, Option.bind_some, Option.bind_none, Option.map_some, cnd_true, cnd_false, pickV_true, pickV_false, gd_true, gd_false, gdV_true, gdV_false, gdH_true, gdH_false, gdS_true, gdS_false, wt_ff, wt_tt, wt_ft, wt_tf, wt_undef, obH_some', extractV_tuple, nilCheckV_ptr, againK_normal, againK_exit, againK_ret, blockK_normal, blockK_same, blockK_ret, seqK_normal, seqK_exit, seqK_ret, fin_done, if_true', if_false', Bool.not_true, Bool.not_false, idx0, idx1, idx2, idx3, idx4, chk_nil_l, chk_nil_r, done_nm]
        exact ih' _ _ _ _ _ _ _ _ _ _ _ _ _ _ _ _ _ _ _ _ _ _ _ _ _ _ _)
    simp -implicitDefEqProofs (disch := omega) only [dcT, dcF, ea, ex, sx.row.len_eq etV.under, ↓cnd_true, ↓cnd_false, ↓Option.bind_some, ↓obH_some', bin_add, bin_sub, bin_mul, bin_lss, bin_leq, bin_gtr, bin_geq, bin_eql, bin_neq, un_not, un_neg, Option.bind_some, Option.bind_none, Option.map_some, cnd_true, cnd_false, pickV_true, pickV_false, gd_true, gd_false, gdV_true, gdV_false, gdH_true, gdH_false, gdS_true, gdS_false, wt_ff, wt_tt, wt_ft, wt_tf, wt_undef, obH_some', extractV_tuple, nilCheckV_ptr, againK_normal, againK_exit, againK_ret, blockK_normal, blockK_same, blockK_ret, seqK_normal, seqK_exit, seqK_ret, fin_done, if_true', if_false', Bool.not_true, Bool.not_false, idx0, idx1, idx2, idx3, idx4, chk_nil_l, chk_nil_r, done_nm]
    exact inner _ _ _ _ _ _ _ _ _ _ _ _ _ _ _ _ _ _ _ _ _ _ _ _
theorem spec_Stamp {h : Heap} {n : Int} {v : Value} {m : List (List Nat)} (s : SM h v m) (hm : m.length < 2 ^ 37) (h64 : ∀ r ∈ m, ∀ y ∈ r, y < 2 ^ 64) :
    ∃ a c h', evC Try.prog 19 #[matV n v] h = some (.slice a (stampM n m).length c, h') ∧ HExt h h' ∧ AB h.blks.length h' (.slice a (stampM n m).length c) (stampM n m) := by
  rw [call19, c19_0_eq]
  have k0 := bxM (.int .i64 n) v (nm h)
  have c0 := Cells.new (nm h) 29 [.int .i64 n, v]
  have i0 : In h.blks.length No (nm h) _ := In.new (by simp) (.cells [.int .i64 n, v]) 29
  have bl : (nm h).blks.length = h.blks.length := rfl
  rw [bl] at k0 c0
  generalize (nm h).new (.cells [.int .i64 n, v]) 29 = g0 at *
  obtain ⟨g1, e1,Ab⟩ := spec_Good (n := n) (s.same i0.same0) (by omega)
  have hin := i0.trans (Ab.inn i0.len)
  have c1 := c0.ext Ab
  unfold stampM
  by_cases g : goodM n m = true
  · rw [if_pos g]
    rw [g] at e1
    obtain ⟨g2, e2,Ac, w2, l2⟩ := spec_NewWriter g1
    have hin2 := hin.trans (Ac.inn hin.len)
    have c2 := c1.ext Ac
    have sv := s.same hin2.same0
    have hl1 := hin.len
    obtain ⟨vs, s0⟩ := s
    have := stamp_loop (h0 := h) (p := g1.blks.length) g h64 s0 hl1 m.length 0 g2 (by omega) (w2.up (Nat.zero_le _)) hin2
    rw [show ((0 : Nat) : Int) = 0 from rfl] at this
    simp -implicitDefEqProofs (disch := omega) only [dcT, dcF, k0, ldM' c0, e1, e2, faM1, ldRs, c2.load, two2, sv.lenRV, ↓cnd_true, ↓cnd_false, ↓Option.bind_some, ↓obH_some', bin_add, bin_sub, bin_mul, bin_lss, bin_leq, bin_gtr, bin_geq, bin_eql, bin_neq, un_not, un_neg, Option.bind_some, Option.bind_none, Option.map_some, cnd_true, cnd_false, pickV_true, pickV_false, gd_true, gd_false, gdV_true, gdV_false, gdH_true, gdH_false, gdS_true, gdS_false, wt_ff, wt_tt, wt_ft, wt_tf, wt_undef, obH_some', extractV_tuple, nilCheckV_ptr, againK_normal, againK_exit, againK_ret, blockK_normal, blockK_same, blockK_ret, seqK_normal, seqK_exit, seqK_ret, fin_done, if_true', if_false', Bool.not_true, Bool.not_false, idx0, idx1, idx2, idx3, idx4, chk_nil_l, chk_nil_r, done_nm]
    exact this _ _ _ _ _ _ _ _ _ _ _ _ _ _ _ _ _ _ _ _ _ _ _ _ _ _ _
  · have g' : goodM n m = false := by simpa using g
    rw [if_neg g]
    rw [g'] at e1
    simp -implicitDefEqProofs (disch := omega) only [dcT, dcF, k0, ldM' c0, e1, ↓ret19, ↓cnd_true, ↓cnd_false, ↓Option.bind_some, ↓obH_some', bin_add, bin_sub, bin_mul, bin_lss, bin_leq, bin_gtr, bin_geq, bin_eql, bin_neq, un_not, un_neg, Option.bind_some, Option.bind_none, Option.map_some, cnd_true, cnd_false, pickV_true, pickV_false, gd_true, gd_false, gdV_true, gdV_false, gdH_true, gdH_false, gdS_true, gdS_false, wt_ff, wt_tt, wt_ft, wt_tf, wt_undef, obH_some', extractV_tuple, nilCheckV_ptr, againK_normal, againK_exit, againK_ret, blockK_normal, blockK_same, blockK_ret, seqK_normal, seqK_exit, seqK_ret, fin_done, if_true', if_false', Bool.not_true, Bool.not_false, idx0, idx1, idx2, idx3, idx4, chk_nil_l, chk_nil_r, done_nm]
    exact ⟨_, _, _, rfl, done_ext' hin, .nil⟩
end Go.Am
namespace Go.Am
open Go.Proofs
set_option maxRecDepth 100000
set_option linter.all false
attribute [local congr] obind_congr obH_congr cnd_congr chk_congr retK_congr codeK_congr
theorem rstamp_inner {Q : Option (Value × Heap) → Prop} {N p : Nat} {lv : Value} {n : Nat} {m : List (List Nat)} {i : Nat} (hi : i < m.length) (hn : n ≤ 16) (hrl : (m.getD i []).length = n) (h64 : ∀ x ∈ m.getD i [], x < 2 ^ 64) (hp : N ≤ p) (k : Ex → St → Option (Value × Heap)) {h0 hs : Heap} (s0 : SM hs lv m) (hsN : hs.blks.length = N) (hN : h0.blks.length ≤ N) :
    ∀ (mm j : Nat) (h : Heap) (acc : List UInt8), n = j + mm → WrR 0 h p acc → acc.length + 10 * mm < 2 ^ 38 → In N No h0 h → (∀ b, b < N → h.blks[b]? = hs.blks[b]?) →
    (∀ h', WrR 0 h' p (acc ++ putLs ((m.getD i []).drop j)) → In N No h0 h' → (∀ b, b < N → h'.blks[b]? = hs.blks[b]?) → ∀ (Ac Ad Ae Ah Ai Aj Ak Al An Ao Ap Aq Ar Au Av Aw Ax Ay Az Ba Bb Bc Bd Be Bf Bg Bh Bi Bj Bk Bl Bm Bn : Value), Q (k .normal ⟨#[.int .i64 n, lv,Ac,Ad,Ae, .pointer (some ⟨p, 0, none⟩), .int .i64 i,Ah,Ai,Aj,Ak,Al,An,Ao,Ap,Aq,Ar,Au,Av,Aw,Ax,Ay,Az,Ba,Bb,Bc,Bd,Be,Bf,Bg,Bh,Bi,Bj,Bk,Bl,Bm,Bn], h'⟩)) →
    ∀ (Ac Ad Ae Ai Aj Ak Al An Ao Ap Aq Ar Au Av Aw Ax Ay Az Ba Bb Bc Bd Be Bf Bg Bh Bi Bj Bk Bl Bm Bn : Value), Q (loopK Try.prog (evC Try.prog) c23_3 ⟨#[.int .i64 n, lv,Ac,Ad,Ae, .pointer (some ⟨p, 0, none⟩), .int .i64 i, .int .i64 j,Ai,Aj,Ak,Al,An,Ao,Ap,Aq,Ar,Au,Av,Aw,Ax,Ay,Az,Ba,Bb,Bc,Bd,Be,Bf,Bg,Bh,Bi,Bj,Bk,Bl,Bm,Bn], h⟩ (blockK 2 k)) := by
  intro mm
  induction mm with
  | zero =>
    intro j h acc hj w _ hin hsm hk Ac Ad Ae Ai Aj Ak Al An Ao Ap Aq Ar Au Av Aw Ax Ay Az Ba Bb Bc Bd Be Bf Bg Bh Bi Bj Bk Bl Bm Bn
    rw [loopK_eq evC_m, c23_3_eq]
    rw [List.drop_of_length_le (by omega), show putLs [] = [] from rfl, List.append_nil] at hk
    have := hk h w hin hsm
    simp -implicitDefEqProofs (disch := omega) only [dcT, dcF, ↓cnd_true, ↓cnd_false, ↓Option.bind_some, ↓obH_some', bin_add, bin_sub, bin_mul, bin_lss, bin_leq, bin_gtr, bin_geq, bin_eql, bin_neq, un_not, un_neg, Option.bind_some, Option.bind_none, Option.map_some, cnd_true, cnd_false, pickV_true, pickV_false, gd_true, gd_false, gdV_true, gdV_false, gdH_true, gdH_false, gdS_true, gdS_false, wt_ff, wt_tt, wt_ft, wt_tf, wt_undef, obH_some', extractV_tuple, nilCheckV_ptr, againK_normal, againK_exit, againK_ret, blockK_normal, blockK_same, blockK_ret, seqK_normal, seqK_exit, seqK_ret, fin_done, if_true', if_false', Bool.not_true, Bool.not_false, idx0, idx1, idx2, idx3, idx4, chk_nil_l, chk_nil_r, done_nm]
    exact this _ _ _ _ _ _ _ _ _ _ _ _ _ _ _ _ _ _ _ _ _ _ _ _ _ _ _ _ _ _ _ _ _
  | succ mm ih =>
    intro j h acc hj w hacc hin hsm hk Ac Ad Ae Ai Aj Ak Al An Ao Ap Aq Ar Au Av Aw Ax Ay Az Ba Bb Bc Bd Be Bf Bg Bh Bi Bj Bk Bl Bm Bn
    rw [loopK_eq evC_m, c23_3_eq]
    have s : SM h lv m := s0.kp fun b hb => hsm b (by omega)
    obtain ⟨ar, x, f1, f2, sx⟩ := s.atW hi
    obtain ⟨a, e1, e2⟩ := su_at sx etU.under (i := j) (by omega)
    have hx := getD_lt (m.getD i []) h64 j
    have hs1 := sizeN_le ((m.getD i []).getD j 0) 10 (by omega) (by omega)
    have hz := putL_len ((m.getD i []).getD j 0)
    obtain ⟨h2, e3,Ac, w2⟩ := spec_RWNum w (Nat.zero_le _) ((m.getD i []).getD j 0) hx (by omega)
    have hw : IntKind.wrap .i64 ((j : Int) + 1) = ((j + 1 : Nat) : Int) := by rw [wrap_i64] <;> omega
    have hd : (m.getD i []).drop j = (m.getD i []).getD j 0 :: (m.getD i []).drop (j + 1) := drop_cons _ 0 (by omega)
    rw [hd] at hk
    have noN : ∀ b, b < N → ¬ Just p b := fun b hb e => by have : b = p := e; omega
    have ih' := ih (j + 1) h2 (acc ++ putL ((m.getD i []).getD j 0)) (by omega) (w2.up (Nat.zero_le _)) (by rw [List.length_append]; omega)
      (hin.trans (Ac.inn (by have := hin.len; have := hin.le; omega) fun b hb e => (noN b hb e).elim)) (fun b hb => (Ac.old b (by have := hin.len; have := hin.le; omega) (noN b hb)).trans (hsm b hb)) (fun h' w' i' s' => hk h' (by rw [List.append_assoc] at w'; simpa [putLs] using w') i' s')
    simp -implicitDefEqProofs (disch := omega) only [dcT, dcF, f1, f2, e1, e2, e3, hw, ↓cnd_true, ↓cnd_false, ↓Option.bind_some, ↓obH_some', bin_add, bin_sub, bin_mul, bin_lss, bin_leq, bin_gtr, bin_geq, bin_eql, bin_neq, un_not, un_neg, Option.bind_some, Option.bind_none, Option.map_some, cnd_true, cnd_false, pickV_true, pickV_false, gd_true, gd_false, gdV_true, gdV_false, gdH_true, gdH_false, gdS_true, gdS_false, wt_ff, wt_tt, wt_ft, wt_tf, wt_undef, obH_some', extractV_tuple, nilCheckV_ptr, againK_normal, againK_exit, againK_ret, blockK_normal, blockK_same, blockK_ret, seqK_normal, seqK_exit, seqK_ret, fin_done, if_true', if_false', Bool.not_true, Bool.not_false, idx0, idx1, idx2, idx3, idx4, chk_nil_l, chk_nil_r, done_nm]
    exact ih' _ _ _ _ _ _ _ _ _ _ _ _ _ _ _ _ _ _ _ _ _ _ _ _ _ _ _ _ _ _ _ _
theorem rstamp_loop {h0 : Heap} {n : Nat} {p : Nat} {lv : Value} {m : List (List Nat)} (g : goodM n m = true) (h64 : ∀ r ∈ m, ∀ y ∈ r, y < 2 ^ 64) (s0 : SM h0 lv m) (hp : h0.blks.length ≤ p) : ∀ (mm i : Nat) (h : Heap), n = i + mm → WrR 0 h p (putLs (m.take i).flatten) → In h0.blks.length No (nm h0) h → (mm = 0 ∨ mm ≠ 0) →
    ∀ (Ac Ad Ae Ah Ai Aj Ak Al An Ao Ap Aq Ar Au Av Aw Ax Ay Az Ba Bb Bc Bd Be Bf Bg Bh Bi Bj Bk Bl Bm Bn : Value),
    ∃ v h', loopK Try.prog (evC Try.prog) c23_1 ⟨#[.int .i64 n, lv,Ac,Ad,Ae, .pointer (some ⟨p, 0, none⟩), .int .i64 i,Ah,Ai,Aj,Ak,Al,An,Ao,Ap,Aq,Ar,Au,Av,Aw,Ax,Ay,Az,Ba,Bb,Bc,Bd,Be,Bf,Bg,Bh,Bi,Bj,Bk,Bl,Bm,Bn], h⟩ (blockK 0 (seqK Try.prog (evC Try.prog) c23_2 (retK Try.f23 Try.prog h0))) =
      some (v, h') ∧ HExt h0 h' ∧ AB 0 h' v (putLs m.flatten) := by
  have hg := (goodM_iff n m).1 g
  intro mm
  induction mm with
  | zero =>
    intro i h hi w hin _ Ac Ad Ae Ah Ai Aj Ak Al An Ao Ap Aq Ar Au Av Aw Ax Ay Az Ba Bb Bc Bd Be Bf Bg Bh Bi Bj Bk Bl Bm Bn
    rw [loopK_eq evC_m, c23_1_eq]
    rw [List.take_of_length_le (by omega)] at w
    obtain ⟨a, c, hc, ha, hne⟩ := w
    simp -implicitDefEqProofs (disch := omega) only [dcT, dcF, ↓c23_2_eq, faRW, ldB, hc.load, List.getElem?_cons_zero, ↓ret23, ↓cnd_true, ↓cnd_false, ↓Option.bind_some, ↓obH_some', bin_add, bin_sub, bin_mul, bin_lss, bin_leq, bin_gtr, bin_geq, bin_eql, bin_neq, un_not, un_neg, Option.bind_some, Option.bind_none, Option.map_some, cnd_true, cnd_false, pickV_true, pickV_false, gd_true, gd_false, gdV_true, gdV_false, gdH_true, gdH_false, gdS_true, gdS_false, wt_ff, wt_tt, wt_ft, wt_tf, wt_undef, obH_some', extractV_tuple, nilCheckV_ptr, againK_normal, againK_exit, againK_ret, blockK_normal, blockK_same, blockK_ret, seqK_normal, seqK_exit, seqK_ret, fin_done, if_true', if_false', Bool.not_true, Bool.not_false, idx0, idx1, idx2, idx3, idx4, chk_nil_l, chk_nil_r, done_nm]
    exact ⟨_, _, rfl, done_ext' hin, ha.done⟩
  | succ mm ih =>
    intro i h hi w hin _ Ac Ad Ae Ah Ai Aj Ak Al An Ao Ap Aq Ar Au Av Aw Ax Ay Az Ba Bb Bc Bd Be Bf Bg Bh Bi Bj Bk Bl Bm Bn
    rw [loopK_eq evC_m, c23_1_eq]
    have ht := good_total g h64 i
    have hrl := goodM_rows g (i := i) (by omega)
    have hr64 : ∀ y ∈ m.getD i [], y < 2 ^ 64 := by
      rw [List.getD_eq_getElem?_getD, List.getElem?_eq_getElem (by omega)]; exact h64 _ (List.getElem_mem _)
    have hw : IntKind.wrap .i64 ((i : Int) + 1) = ((i + 1 : Nat) : Int) := by rw [wrap_i64] <;> omega
    have inner := rstamp_inner (Q := fun r => ∃ v h', r = some (v, h') ∧ HExt h0 h' ∧ AB 0 h' v (putLs m.flatten)) (N := h0.blks.length) (p := p) (lv := lv) (n := n) (i := i) (m := m) (by omega) (by omega) (by omega) hr64 hp
      (blockK 1 (seqK Try.prog (evC Try.prog) c23_4 (againK Try.prog (evC Try.prog) c23_1 (blockK 0 (seqK Try.prog (evC Try.prog) c23_2 (retK Try.f23 Try.prog h0)))))) (h0 := nm h0) s0 rfl (Nat.le_refl _)
      n 0 h _ (by omega) w (by omega) hin (fun b hb => hin.old b hb id) (by
        intro h' w' i' s' Ac Ad Ae Ah Ai Aj Ak Al An Ao Ap Aq Ar Au Av Aw Ax Ay Az Ba Bb Bc Bd Be Bf Bg Bh Bi Bj Bk Bl Bm Bn
        rw [List.drop_zero, putLs_take m (by omega)] at w'
        have ih' := ih (i + 1) h' (by omega) w' i' (by omega)
        simp -implicitDefEqProofs (disch := omega) only [↓c23_4_eq, hw, ↓cnd_true, ↓cnd_false, ↓Option.bind_some, ↓obH_some', bin_add, bin_sub, bin_mul, bin_lss, bin_leq, bin_gtr, bin_geq, bin_eql, bin_neq, un_not, un_neg, Option.bind_some, Option.bind_none, Option.map_some, cnd_true, cnd_false, pickV_true, pickV_false, gd_true, gd_false, gdV_true, gdV_false, gdH_true, gdH_false, gdS_true, gdS_false, wt_ff, wt_tt, wt_ft, wt_tf, wt_undef, obH_some', extractV_tuple, nilCheckV_ptr, againK_normal, againK_exit, againK_ret, blockK_normal, blockK_same, blockK_ret, seqK_normal, seqK_exit, seqK_ret, fin_done, if_true', if_false', Bool.not_true, Bool.not_false, idx0, idx1, idx2, idx3, idx4, chk_nil_l, chk_nil_r, done_nm]
        exact ih' _ _ _ _ _ _ _ _ _ _ _ _ _ _ _ _ _ _ _ _ _ _ _ _ _ _ _ _ _ _ _ _ _)
    rw [show ((0 : Nat) : Int) = 0 from rfl] at inner
    simp -implicitDefEqProofs (disch := omega) only [dcT, dcF, ↓cnd_true, ↓cnd_false, ↓Option.bind_some, ↓obH_some', bin_add, bin_sub, bin_mul, bin_lss, bin_leq, bin_gtr, bin_geq, bin_eql, bin_neq, un_not, un_neg, Option.bind_some, Option.bind_none, Option.map_some, cnd_true, cnd_false, pickV_true, pickV_false, gd_true, gd_false, gdV_true, gdV_false, gdH_true, gdH_false, gdS_true, gdS_false, wt_ff, wt_tt, wt_ft, wt_tf, wt_undef, obH_some', extractV_tuple, nilCheckV_ptr, againK_normal, againK_exit, againK_ret, blockK_normal, blockK_same, blockK_ret, seqK_normal, seqK_exit, seqK_ret, fin_done, if_true', if_false', Bool.not_true, Bool.not_false, idx0, idx1, idx2, idx3, idx4, chk_nil_l, chk_nil_r, done_nm]
    exact inner _ _ _ _ _ _ _ _ _ _ _ _ _ _ _ _ _ _ _ _ _ _ _ _ _ _ _ _ _ _ _ _
theorem spec_refStampA {h : Heap} {n : Int} {v : Value} {m : List (List Nat)} (s : SM h v m) (h64 : ∀ r ∈ m, ∀ y ∈ r, y < 2 ^ 64) :
    ∃ w h', evC Try.prog 23 #[.int .i64 n, v] h = some (w, h') ∧ HExt h h' ∧ AB 0 h' w (stampM n m) := by
  rw [call23, c23_0_eq]
  have e1 := spec_GoodMat (n := n) s.nm
  unfold stampM
  by_cases g : goodM n m = true
  · rw [if_pos g]
    rw [g] at e1
    have hg := (goodM_iff n m).1 g
    obtain ⟨n, rfl⟩ : ∃ k : Nat, n = k := ⟨n.toNat, by omega⟩
    have i1 : In h.blks.length No (nm h) _ := In.new (by simp) (.cells [.slice none 0 0]) 97
    have w1 : WrR 0 ((nm h).new (.cells [.slice none 0 0]) 97) h.blks.length [] := ⟨none, 0, Cells.new (nm h) _ _, .nil, by simp [blockOf]⟩
    have := rstamp_loop (h0 := h) (p := h.blks.length) g h64 s (Nat.le_refl _) n 0 _ (by omega) w1 i1 (by omega)
    rw [show ((0 : Nat) : Int) = 0 from rfl] at this
    simp -implicitDefEqProofs (disch := omega) only [e1, bdRW, bxRW, nm_blks, ↓cnd_true, ↓cnd_false, ↓Option.bind_some, ↓obH_some', bin_add, bin_sub, bin_mul, bin_lss, bin_leq, bin_gtr, bin_geq, bin_eql, bin_neq, un_not, un_neg, Option.bind_some, Option.bind_none, Option.map_some, cnd_true, cnd_false, pickV_true, pickV_false, gd_true, gd_false, gdV_true, gdV_false, gdH_true, gdH_false, gdS_true, gdS_false, wt_ff, wt_tt, wt_ft, wt_tf, wt_undef, obH_some', extractV_tuple, nilCheckV_ptr, againK_normal, againK_exit, againK_ret, blockK_normal, blockK_same, blockK_ret, seqK_normal, seqK_exit, seqK_ret, fin_done, if_true', if_false', Bool.not_true, Bool.not_false, idx0, idx1, idx2, idx3, idx4, chk_nil_l, chk_nil_r, done_nm]
    exact this _ _ _ _ _ _ _ _ _ _ _ _ _ _ _ _ _ _ _ _ _ _ _ _ _ _ _ _ _ _ _ _ _
  · have g' : goodM n m = false := by simpa using g
    rw [if_neg g]
    rw [g'] at e1
    simp -implicitDefEqProofs (disch := omega) only [e1, ↓ret23, ↓cnd_true, ↓cnd_false, ↓Option.bind_some, ↓obH_some', bin_add, bin_sub, bin_mul, bin_lss, bin_leq, bin_gtr, bin_geq, bin_eql, bin_neq, un_not, un_neg, Option.bind_some, Option.bind_none, Option.map_some, cnd_true, cnd_false, pickV_true, pickV_false, gd_true, gd_false, gdV_true, gdV_false, gdH_true, gdH_false, gdS_true, gdS_false, wt_ff, wt_tt, wt_ft, wt_tf, wt_undef, obH_some', extractV_tuple, nilCheckV_ptr, againK_normal, againK_exit, againK_ret, blockK_normal, blockK_same, blockK_ret, seqK_normal, seqK_exit, seqK_ret, fin_done, if_true', if_false', Bool.not_true, Bool.not_false, idx0, idx1, idx2, idx3, idx4, chk_nil_l, chk_nil_r, done_nm]
    exact ⟨_, _, rfl, HExt.refl _, .nil⟩
theorem spec_refStamp {h : Heap} {n : Int} {v : Value} {m : List (List Nat)} (s : SM h v m) (h64 : ∀ r ∈ m, ∀ y ∈ r, y < 2 ^ 64) :
    ∃ w h', evC Try.prog 23 #[.int .i64 n, v] h = some (w, h') ∧ HExt h h' ∧ SB h' w (stampM n m) :=
  let ⟨w, h', e, x, a⟩ := spec_refStampA s h64
  ⟨w, h', e, x, a.sl etB.size⟩
end Go.Am
namespace Go.Am
open Go.Proofs
set_option maxRecDepth 100000
set_option linter.all false
attribute [local congr] obind_congr obH_congr cnd_congr chk_congr retK_congr codeK_congr
theorem AMv.modp {eo : TypeId} {n0 : Nat} {h h' : Heap} {v : Value} {vs : List Value} {m : List (List Nat)} (a : AMv eo n0 h v vs m) {S : Nat → Prop} (e : HMod S h h') (k : ∀ b, S b → ∃ T cs, Cells h b T cs ∧ T ≠ eo ∧ T ≠ 46) : AMv eo n0 h' v vs m :=
  a.kp fun b all ty hb ht _ => e.old b (List.getElem?_eq_some_iff.1 hb).1 fun hs => by
    obtain ⟨T, cs, hc, h1, h2⟩ := k b hs
    unfold Cells at hc
    rw [hb] at hc
    simp only [Option.some.injEq, Blk.mk.injEq] at hc
    rcases ht with ht | ht
    · exact h1 (hc.2.1.symm.trans ht)
    · exact h2 (hc.2.1.symm.trans ht)
theorem set_mid (pre : List Nat) (x y : Nat) (l : List Nat) : (pre ++ x :: l).set pre.length y = pre ++ y :: l := by
  rw [List.set_append_right _ _ (Nat.le_refl _), Nat.sub_self, List.set_cons_zero]
theorem set_midM (pre : List (List Nat)) (x y : List Nat) (l : List (List Nat)) : (pre ++ x :: l).set pre.length y = pre ++ y :: l := by
  rw [List.set_append_right _ _ (Nat.le_refl _), Nat.sub_self, List.set_cons_zero]
theorem getD_mid (pre : List Nat) (x : Nat) (l : List Nat) : (pre ++ x :: l).getD pre.length 0 = x := by simp
theorem RdrL.keepB {L : Nat} {h h' : Heap} {p : Nat} {r : Option (List UInt8)} (w : RdrL L h p r) (hc : ∀ T cs, Cells h p T cs → T ≠ 46 → Cells h' p T cs) (hb : ∀ b, L ≤ b → h'.blks[b]? = h.blks[b]?) : RdrL L h' p r :=
  let ⟨a, c, x, y, z⟩ := w
  ⟨a, c, hc _ _ x (by decide), y.keep fun b _ hv => hb b (z b hv).1, z⟩
theorem read_inner {Q : Option (Value × Heap) → Prop} {h0 : Heap} {L q4 p6 rp : Nat} {rows x bv : Value} {vs : List Value} {m : List (List Nat)} {i n : Nat} {ml : Int} (hi : i < m.length) (hx : vs[i]? = some x) (hn : n ≤ 16) (hxL : Lo x L) (k : Ex → St → Option (Value × Heap)) :
    ∀ (mm j : Nat) (h : Heap) (pre : List Nat) (r : Option (List UInt8)), n = j + mm → pre.length = j → AMv 53 h0.blks.length h rows vs (m.set i (pre ++ List.replicate mm 0)) → RdrL L h rp r → h0.blks.length ≤ rp → (rbs r).length < 2 ^ 40 → Cells h q4 29 [.int .i64 0, .slice none 0 0] → Cells h p6 29 [.int .i64 n, rows] → In h0.blks.length No (nm h0) h →
    (∀ h', AMv 53 h0.blks.length h' rows vs (m.set i (pre ++ (readRow mm r).1)) → RdrL L h' rp (readRow mm r).2 → Cells h' q4 29 [.int .i64 0, .slice none 0 0] → Cells h' p6 29 [.int .i64 n, rows] → In h0.blks.length No (nm h0) h' → ∀ (Aa Ab Ac Ad Af Ah Aj Ak Al An Ao Ap Aq Ar Au Av Aw Ax Ay Az Bd Be Bf Bg Bh Bi Bj Bk Bl Bm Bn Bo Bp Bq Br Bs Bt Bu Bv Bw : Value), Q (k .normal ⟨#[Aa,Ab,Ac,Ad, .pointer (some ⟨q4, 0, none⟩),Af, .pointer (some ⟨p6, 0, none⟩),Ah, .pointer (some ⟨rp, 0, none⟩),Aj,Ak,Al,An,Ao,Ap,Aq,Ar,Au,Av,Aw,Ax,Ay,Az, rows, .int .i64 ml, .int .i64 i,Bd,Be,Bf,Bg,Bh,Bi,Bj,Bk,Bl,Bm,Bn,Bo,Bp,Bq,Br,Bs,Bt,Bu,Bv,Bw], h'⟩)) →
    ∀ (Aa Ab Ac Ad Af Ah Aj Al An Ao Ap Aq Ar Au Av Aw Ax Ay Az Bd Be Bf Bg Bj Bk Bl Bm Bn Bo Bp Bq Br Bs Bt Bu Bv Bw : Value), Q (loopK Try.prog (evC Try.prog) c21_3 ⟨#[Aa,Ab,Ac,Ad, .pointer (some ⟨q4, 0, none⟩),Af, .pointer (some ⟨p6, 0, none⟩),Ah, .pointer (some ⟨rp, 0, none⟩),Aj, x,Al,An,Ao,Ap,Aq,Ar,Au,Av,Aw,Ax,Ay,Az, rows, .int .i64 ml, .int .i64 i,Bd,Be,Bf,Bg, .int .i64 n, .int .i64 j,Bj,Bk,Bl,Bm,Bn,Bo,Bp,Bq,Br,Bs,Bt,Bu,Bv,Bw], h⟩ (blockK 2 k)) := by
  intro mm
  induction mm with
  | zero =>
    intro j h pre r hj hpre A w hrp _ c4 c6 hin hk Aa Ab Ac Ad Af Ah Aj Al An Ao Ap Aq Ar Au Av Aw Ax Ay Az Bd Be Bf Bg Bj Bk Bl Bm Bn Bo Bp Bq Br Bs Bt Bu Bv Bw
    rw [loopK_eq evC_m, c21_3_eq]
    have := hk h A w c4 c6 hin
    simp -implicitDefEqProofs (disch := omega) only [dcT, dcF, ↓cnd_true, ↓cnd_false, ↓Option.bind_some, ↓obH_some', bin_add, bin_sub, bin_mul, bin_lss, bin_leq, bin_gtr, bin_geq, bin_eql, bin_neq, un_not, un_neg, Option.bind_some, Option.bind_none, Option.map_some, cnd_true, cnd_false, pickV_true, pickV_false, gd_true, gd_false, gdV_true, gdV_false, gdH_true, gdH_false, gdS_true, gdS_false, wt_ff, wt_tt, wt_ft, wt_tf, wt_undef, obH_some', extractV_tuple, nilCheckV_ptr, againK_normal, againK_exit, againK_ret, blockK_normal, blockK_same, blockK_ret, seqK_normal, seqK_exit, seqK_ret, fin_done, if_true', if_false', Bool.not_true, Bool.not_false, idx0, idx1, idx2, idx3, idx4, chk_nil_l, chk_nil_r, done_nm]
    exact this _ _ _ _ _ _ _ _ _ _ _ _ _ _ _ _ _ _ _ _ _ _ _ _ _ _ _ _ _ _ _ _ _ _ _ _ _ _ _ _
  | succ mm ih =>
    intro j h pre r hj hpre A w hrp hlen c4 c6 hin hk Aa Ab Ac Ad Af Ah Aj Al An Ao Ap Aq Ar Au Av Aw Ax Ay Az Bd Be Bf Bg Bj Bk Bl Bm Bn Bo Bp Bq Br Bs Bt Bu Bv Bw
    rw [loopK_eq evC_m, c21_3_eq]
    obtain ⟨h2, e2,Ac, w2⟩ := spec_RNum w MAX (by unfold MAX; omega) hlen
    rw [show ((MAX : Nat) : Int) = 18446744073709551615 from rfl] at e2
    have nl := numP_le r MAX
    have hrpne : ∀ {p : Nat} {cs : List Value}, Cells h p 29 cs → ¬ Just rp p := fun hc e => by
      have e : _ = rp := e
      obtain ⟨_, _, hr, _⟩ := w
      subst e
      unfold Cells at hc hr
      rw [hc] at hr
      simp only [Option.some.injEq, Blk.mk.injEq] at hr
      exact absurd hr.2.1 (by decide)
    have c42 := c4.mod Ac (hrpne c4)
    have c62 := c6.mod Ac (hrpne c6)
    have A2 := A.modp Ac fun b hb => by
      have hb : b = rp := hb
      subst hb
      obtain ⟨_, _, hr, _⟩ := w
      exact ⟨_, _, hr, by decide, by decide⟩
    have hin2 := hin.trans (Ac.inn hin.len fun b hb e => by have : b = rp := e; omega)
    have hrow : (m.set i (pre ++ List.replicate (mm + 1) 0)).getD i [] = pre ++ 0 :: List.replicate mm 0 := by rw [lset_getD hi]; rfl
    obtain ⟨b, o, h3, e3, l3, st3, A3, k3, hl3, o3, q3⟩ := A2.set1q (by decide) etV.under (i := i) (j := j) (by rw [List.length_set]; exact hi) (by rw [hrow]; simp; omega) hx (numP r MAX).1
    rw [hrow, List.set_set, ← hpre, set_mid] at A3
    rw [show pre ++ (numP r MAX).1 :: List.replicate mm 0 = (pre ++ [(numP r MAX).1]) ++ List.replicate mm 0 by simp] at A3
    have w3 := w2.keepB (fun T cs hc ht => o3 rp T cs hc ht) fun c hc => q3 c fun e => by have := hxL c e; omega
    have hw : IntKind.wrap .i64 ((j : Int) + 1) = ((j + 1 : Nat) : Int) := by rw [wrap_i64] <;> omega
    have ih' := ih (j + 1) h3 (pre ++ [(numP r MAX).1]) (numP r MAX).2 (by omega) (by simp; omega) A3 w3 hrp (by omega) (o3 _ _ _ c42 (by decide)) (o3 _ _ _ c62 (by decide)) (hin2.trans k3.inn)
      (fun h' a' b' c' d' i' => hk h' (by simpa [readRow] using a') (by simpa [readRow] using b') c' d' i')
    rw [← hpre] at e3
    simp -implicitDefEqProofs (disch := omega) only [dcT, dcF, e2, hpre ▸ e3, vst64, st3, hw, ↓cnd_true, ↓cnd_false, ↓Option.bind_some, ↓obH_some', bin_add, bin_sub, bin_mul, bin_lss, bin_leq, bin_gtr, bin_geq, bin_eql, bin_neq, un_not, un_neg, Option.bind_some, Option.bind_none, Option.map_some, cnd_true, cnd_false, pickV_true, pickV_false, gd_true, gd_false, gdV_true, gdV_false, gdH_true, gdH_false, gdS_true, gdS_false, wt_ff, wt_tt, wt_ft, wt_tf, wt_undef, obH_some', extractV_tuple, nilCheckV_ptr, againK_normal, againK_exit, againK_ret, blockK_normal, blockK_same, blockK_ret, seqK_normal, seqK_exit, seqK_ret, fin_done, if_true', if_false', Bool.not_true, Bool.not_false, idx0, idx1, idx2, idx3, idx4, chk_nil_l, chk_nil_r, done_nm]
    exact ih' _ _ _ _ _ _ _ _ _ _ _ _ _ _ _ _ _ _ _ _ _ _ _ _ _ _ _ _ _ _ _ _ _ _ _ _ _
def readV (n : Int) (o : Option (List (List Nat))) : Int := if o.isSome = true then n else 0
theorem read_loop {h0 : Heap} {L q4 p6 rp n : Nat} {rows : Value} {vs : List Value} (hn : n ≤ 16) (hvL : ∀ x ∈ vs,Lo x L) (hrp : h0.blks.length ≤ rp) (hq4 : h0.blks.length ≤ q4) :
    ∀ (mm i : Nat) (h : Heap) (dn : List (List Nat)) (r : Option (List UInt8)), n = i + mm → dn.length = i → (∀ x ∈ dn, x.length = n) → AMv 53 h0.blks.length h rows vs (dn ++ List.replicate mm (List.replicate n 0)) → RdrL L h rp r → (rbs r).length < 2 ^ 40 → Cells h q4 29 [.int .i64 0, .slice none 0 0] → Cells h p6 29 [.int .i64 n, rows] → In h0.blks.length No (nm h0) h →
    ∀ (Aa Ab Ac Ad Af Ah Aj Ak Al An Ao Ap Aq Ar Au Av Aw Ax Ay Az Bd Be Bf Bg Bh Bi Bj Bk Bl Bm Bn Bo Bp Bq Br Bs Bt Bu Bv Bw : Value),
    ∃ v' h', loopK Try.prog (evC Try.prog) c21_1 ⟨#[Aa,Ab,Ac,Ad, .pointer (some ⟨q4, 0, none⟩),Af, .pointer (some ⟨p6, 0, none⟩),Ah, .pointer (some ⟨rp, 0, none⟩),Aj,Ak,Al,An,Ao,Ap,Aq,Ar,Au,Av,Aw,Ax,Ay,Az, rows, .int .i64 n, .int .i64 i,Bd,Be,Bf,Bg,Bh,Bi,Bj,Bk,Bl,Bm,Bn,Bo,Bp,Bq,Br,Bs,Bt,Bu,Bv,Bw], h⟩ (blockK 0 (seqK Try.prog (evC Try.prog) c21_2 (retK Try.f21 Try.prog h0))) =
      some (.tuple #[matV (if endP (readRows n mm r).2 = true then n else 0) v', .bool (endP (readRows n mm r).2)], h') ∧ HExt h0 h' ∧ AM 53 h0.blks.length h' v' (if endP (readRows n mm r).2 = true then dn ++ (readRows n mm r).1 else []) := by
  intro mm
  induction mm with
  | zero =>
    intro i h dn r hi hd hdl A w hlen c4 c6 hin Aa Ab Ac Ad Af Ah Aj Ak Al An Ao Ap Aq Ar Au Av Aw Ax Ay Az Bd Be Bf Bg Bh Bi Bj Bk Bl Bm Bn Bo Bp Bq Br Bs Bt Bu Bv Bw
    rw [loopK_eq evC_m, c21_1_eq]
    have e1 := spec_REnd w
    simp only [readRows]
    rw [List.append_nil]
    rw [show dn ++ List.replicate 0 (List.replicate n 0) = dn by simp] at A
    rcases Bool.eq_false_or_eq_true (endP r) with he | he
    · rw [he] at e1
      simp only [he, if_true]
      obtain ⟨ra, rc, rfl⟩ := A.out.shape
      have c42 := c4.put [.int .i64 n, .slice ra dn.length rc]
      simp -implicitDefEqProofs (disch := omega) only [dcT, dcF, ↓c21_2_eq, e1, ldM' c6, stM, storeN_blk c4 (o := 0) (vs := [.int .i64 n, .slice ra dn.length rc]) (by simp), w2_put, ↓ret21, ↓cnd_true, ↓cnd_false, ↓Option.bind_some, ↓obH_some', bin_add, bin_sub, bin_mul, bin_lss, bin_leq, bin_gtr, bin_geq, bin_eql, bin_neq, un_not, un_neg, Option.bind_some, Option.bind_none, Option.map_some, cnd_true, cnd_false, pickV_true, pickV_false, gd_true, gd_false, gdV_true, gdV_false, gdH_true, gdH_false, gdS_true, gdS_false, wt_ff, wt_tt, wt_ft, wt_tf, wt_undef, obH_some', extractV_tuple, nilCheckV_ptr, againK_normal, againK_exit, againK_ret, blockK_normal, blockK_same, blockK_ret, seqK_normal, seqK_exit, seqK_ret, fin_done, if_true', if_false', Bool.not_true, Bool.not_false, idx0, idx1, idx2, idx3, idx4, chk_nil_l, chk_nil_r, done_nm]
      simp -implicitDefEqProofs only [ldM' c42, Option.bind_some, rvals_two, fin_done, if_true]
      exact ⟨_, _, rfl, done_ext' (hin.trans (In.put hin.len (.inl hq4) _)), (AM.put ⟨vs, A⟩ c4 (by decide) (by decide) _).done⟩
    · rw [he] at e1
      simp only [he, Bool.false_eq_true, if_false]
      have c42 := c4.put [.int .i64 0, .slice none 0 0]
      simp -implicitDefEqProofs (disch := omega) only [dcT, dcF, ↓c21_2_eq, e1, bdM0, stM, storeN_blk c4 (o := 0) (vs := [.int .i64 0, .slice none 0 0]) (by simp), w2_put, ↓ret21, ↓cnd_true, ↓cnd_false, ↓Option.bind_some, ↓obH_some', bin_add, bin_sub, bin_mul, bin_lss, bin_leq, bin_gtr, bin_geq, bin_eql, bin_neq, un_not, un_neg, Option.bind_some, Option.bind_none, Option.map_some, cnd_true, cnd_false, pickV_true, pickV_false, gd_true, gd_false, gdV_true, gdV_false, gdH_true, gdH_false, gdS_true, gdS_false, wt_ff, wt_tt, wt_ft, wt_tf, wt_undef, obH_some', extractV_tuple, nilCheckV_ptr, againK_normal, againK_exit, againK_ret, blockK_normal, blockK_same, blockK_ret, seqK_normal, seqK_exit, seqK_ret, fin_done, if_true', if_false', Bool.not_true, Bool.not_false, idx0, idx1, idx2, idx3, idx4, chk_nil_l, chk_nil_r, done_nm]
      simp -implicitDefEqProofs only [ldM' c42, Option.bind_some, rvals_two, fin_done, Bool.false_eq_true, if_false]
      exact ⟨_, _, rfl, done_ext' (hin.trans (In.put hin.len (.inl hq4) _)), AM.nil _ _ _⟩
  | succ mm ih =>
    intro i h dn r hi hd hdl A w hlen c4 c6 hin Aa Ab Ac Ad Af Ah Aj Ak Al An Ao Ap Aq Ar Au Av Aw Ax Ay Az Bd Be Bf Bg Bh Bi Bj Bk Bl Bm Bn Bo Bp Bq Br Bs Bt Bu Bv Bw
    rw [loopK_eq evC_m, c21_1_eq]
    have hml : (dn ++ List.replicate (mm + 1) (List.replicate n 0)).length = n := by simp; omega
    obtain ⟨ad, x, hx, ea, ex, sx⟩ := (A.smv etM.size).at etM.under etM.size (by kernel_rfl) (i := i) (by omega)
    have hgi : (dn ++ List.replicate (mm + 1) (List.replicate n 0)).getD i [] = List.replicate n 0 := by rw [← hd]; simp
    rw [hgi] at sx
    have hA0 : dn ++ List.replicate (mm + 1) (List.replicate n 0) = (dn ++ List.replicate (mm + 1) (List.replicate n 0)).set i ([] ++ List.replicate n 0) := by
      rw [List.nil_append, show List.replicate (mm + 1) (List.replicate n 0) = List.replicate n 0 :: List.replicate mm (List.replicate n 0) from rfl, ← hd, set_midM]
    rw [hA0] at A
    have hw : IntKind.wrap .i64 ((i : Int) + 1) = ((i + 1 : Nat) : Int) := by rw [wrap_i64] <;> omega
    have hlr : ((List.replicate n 0).length : Int) = n := by simp
    have lx := sx.row.len_eq etV.under
    rw [hlr] at lx
    have hle := readRow_le n r
    have inner := read_inner (Q := fun res => ∃ v' h', res = some (.tuple #[matV (if endP (readRows n (mm + 1) r).2 = true then n else 0) v', .bool (endP (readRows n (mm + 1) r).2)], h') ∧ HExt h0 h' ∧ AM 53 h0.blks.length h' v' (if endP (readRows n (mm + 1) r).2 = true then dn ++ (readRows n (mm + 1) r).1 else [])) (h0 := h0) (L := L) (q4 := q4) (p6 := p6) (rp := rp) (rows := rows) (vs := vs) (bv := .bool true) (ml := n) (i := i) (n := n) (m := dn ++ List.replicate (mm + 1) (List.replicate n 0)) (by omega) hx hn (hvL x (List.mem_of_getElem? hx))
      (blockK 1 (seqK Try.prog (evC Try.prog) c21_4 (againK Try.prog (evC Try.prog) c21_1 (blockK 0 (seqK Try.prog (evC Try.prog) c21_2 (retK Try.f21 Try.prog h0))))))
      n 0 h [] r (by omega) rfl A w hrp hlen c4 c6 hin (by
        intro h' A' w' c4' c6' hin' Aa Ab Ac Ad Af Ah Aj Ak Al An Ao Ap Aq Ar Au Av Aw Ax Ay Az Bd Be Bf Bg Bh Bi Bj Bk Bl Bm Bn Bo Bp Bq Br Bs Bt Bu Bv Bw
        rw [List.nil_append, show List.replicate (mm + 1) (List.replicate n 0) = List.replicate n 0 :: List.replicate mm (List.replicate n 0) from rfl, ← hd, set_midM, show dn ++ (readRow n r).1 :: List.replicate mm (List.replicate n 0) = (dn ++ [(readRow n r).1]) ++ List.replicate mm (List.replicate n 0) by simp] at A'
        have ih' := ih (i + 1) h' (dn ++ [(readRow n r).1]) (readRow n r).2 (by omega) (by simp; omega) (fun y hy => by
          rcases List.mem_append.1 hy with hy | hy
          · exact hdl y hy
          · rw [List.mem_singleton] at hy; subst hy; exact readRow_len n r) A' w' (by omega) c4' c6' hin'
        simp only [List.append_assoc, List.singleton_append] at ih'
        simp -implicitDefEqProofs (disch := omega) only [↓c21_4_eq, hw, ↓cnd_true, ↓cnd_false, ↓Option.bind_some, ↓obH_some', bin_add, bin_sub, bin_mul, bin_lss, bin_leq, bin_gtr, bin_geq, bin_eql, bin_neq, un_not, un_neg, Option.bind_some, Option.bind_none, Option.map_some, cnd_true, cnd_false, pickV_true, pickV_false, gd_true, gd_false, gdV_true, gdV_false, gdH_true, gdH_false, gdS_true, gdS_false, wt_ff, wt_tt, wt_ft, wt_tf, wt_undef, obH_some', extractV_tuple, nilCheckV_ptr, againK_normal, againK_exit, againK_ret, blockK_normal, blockK_same, blockK_ret, seqK_normal, seqK_exit, seqK_ret, fin_done, if_true', if_false', Bool.not_true, Bool.not_false, idx0, idx1, idx2, idx3, idx4, chk_nil_l, chk_nil_r, done_nm]
        exact ih' _ _ _ _ _ _ _ _ _ _ _ _ _ _ _ _ _ _ _ _ _ _ _ _ _ _ _ _ _ _ _ _ _ _ _ _ _ _ _ _)
    rw [show ((0 : Nat) : Int) = 0 from rfl] at inner
    simp -implicitDefEqProofs (disch := omega) only [dcT, dcF, ea, ex, lx, ↓cnd_true, ↓cnd_false, ↓Option.bind_some, ↓obH_some', bin_add, bin_sub, bin_mul, bin_lss, bin_leq, bin_gtr, bin_geq, bin_eql, bin_neq, un_not, un_neg, Option.bind_some, Option.bind_none, Option.map_some, cnd_true, cnd_false, pickV_true, pickV_false, gd_true, gd_false, gdV_true, gdV_false, gdH_true, gdH_false, gdS_true, gdS_false, wt_ff, wt_tt, wt_ft, wt_tf, wt_undef, obH_some', extractV_tuple, nilCheckV_ptr, againK_normal, againK_exit, againK_ret, blockK_normal, blockK_same, blockK_ret, seqK_normal, seqK_exit, seqK_ret, fin_done, if_true', if_false', Bool.not_true, Bool.not_false, idx0, idx1, idx2, idx3, idx4, chk_nil_l, chk_nil_r, done_nm]
    exact inner _ _ _ _ _ _ _ _ _ _ _ _ _ _ _ _ _ _ _ _ _ _ _ _ _ _ _ _ _ _ _ _ _ _ _ _ _
theorem spec_Read {h : Heap} {n : Int} {b : Value} {bs : List UInt8} (sb : SB h b bs) (hl : bs.length < 2 ^ 38) :
    ∃ v' h', evC Try.prog 21 #[.int .i64 n, b] h = some (.tuple #[matV (readV n (readM n bs)) v', .bool (readM n bs).isSome], h') ∧ HExt h h' ∧ AM 53 h.blks.length h' v' ((readM n bs).getD []) := by
  rw [call21, c21_0_eq]
  have k1 := alM (nm h)
  have c1 := Cells.new (nm h) 29 [.int .i64 0, .slice none 0 0]
  have i1 : In h.blks.length No (nm h) _ := In.new (by simp) (.cells [.int .i64 0, .slice none 0 0]) 29
  have bl : (nm h).blks.length = h.blks.length := rfl
  rw [bl] at k1 c1
  generalize (nm h).new (.cells [.int .i64 0, .slice none 0 0]) 29 = g1 at *
  obtain ⟨vm, g2, e2,Ac, a2⟩ := spec_MNew n g1
  have i2 := i1.trans (Ac.inn i1.len)
  have c2 := c1.ext Ac
  by_cases hc : 1 ≤ n ∧ n ≤ 16
  · rw [if_pos hc, if_pos hc] at e2
    rw [if_pos hc] at a2
    obtain ⟨n, rfl⟩ : ∃ k : Nat, n = k := ⟨n.toNat, by omega⟩
    rw [Int.toNat_natCast] at a2
    obtain ⟨va, vc, rfl⟩ := a2.shape
    have k3 := alM g2
    have k3' := mvar (h := g2) n va (zerosM n).length vc
    have c3 := mvar_cells g2 [.int .i64 0, .slice none 0 0] [.int .i64 n, .slice va (zerosM n).length vc] 29
    have s3 := mvar_same g2 (.cells [.int .i64 0, .slice none 0 0]) (.cells [.int .i64 n, .slice va (zerosM n).length vc]) 29
    have i3 := i2.trans (mvar_in (h := g2) i2.len (.cells [.int .i64 0, .slice none 0 0]) (.cells [.int .i64 n, .slice va (zerosM n).length vc]) 29)
    generalize (g2.new (.cells [.int .i64 0, .slice none 0 0]) 29).put g2.blks.length (.cells [.int .i64 n, .slice va (zerosM n).length vc]) = g3 at *
    obtain ⟨g4, rp, e4,Ae, r4, lr⟩ := spec_NewReaderL (sb.same i3.same0) (by omega)
    have i4 := i3.trans (Ae.inn i3.len)
    have l3 := i3.len
    simp only [nm_blks] at l3
    have c24 := (c2.same s3).ext Ae
    have c34 := c3.ext Ae
    obtain ⟨vs, A⟩ := ((a2.up (n1 := h.blks.length) i1.len).same s3)
    have hvL : ∀ x ∈ vs,Lo x g3.blks.length := fun x hx => by
      obtain ⟨i, hi, rfl⟩ := List.getElem_of_mem hx
      obtain ⟨r', _, hr'⟩ := A.rows.get (i := i) (a := vs[i]) (List.getElem?_eq_getElem hi)
      exact hr'.su.lo
    have A4 := A.kp (h' := g4) fun b _ _ hb _ _ => Ae.old b (List.getElem?_eq_some_iff.1 hb).1
    have lv := (AM.smV ⟨vs, A4⟩).lenRV
    have hz : ((zerosM n).length : Int) = n := by simp [zerosM]
    rw [hz] at lv
    have main := read_loop (h0 := h) (L := g3.blks.length) (rows := .slice va (zerosM n).length vc) (by omega) hvL (by omega) (Nat.le_refl _) n 0 g4 [] (some bs) (by omega) rfl (by simp) (by rw [List.nil_append]; exact A4) r4 (by simp only [rbs, Option.getD_some]; omega) c24 c34 i4
    have em : readM n bs = if endP (readRows n n (some bs)).2 = true then some (readRows n n (some bs)).1 else none := by
      unfold readM; rw [if_pos hc, Int.toNat_natCast]
    have e1 : readV n (readM n bs) = if endP (readRows n n (some bs)).2 = true then (n : Int) else 0 := by rw [em]; unfold readV; split <;> simp
    have e2' : (readM n bs).isSome = endP (readRows n n (some bs)).2 := by rw [em]; split <;> simp_all
    have e3' : (readM n bs).getD [] = if endP (readRows n n (some bs)).2 = true then [] ++ (readRows n n (some bs)).1 else [] := by rw [em]; split <;> simp
    rw [e1, e2', e3']
    rw [show ((0 : Nat) : Int) = 0 from rfl] at main
    simp -implicitDefEqProofs (disch := omega) only [dcT, dcF, k1, e2, k3, k3', e4, faM1, ldRs, c34.load, two2, lv, ne_eq, eq_self, not_true_eq_false, decide_false, ↓cnd_true, ↓cnd_false, ↓Option.bind_some, ↓obH_some', bin_add, bin_sub, bin_mul, bin_lss, bin_leq, bin_gtr, bin_geq, bin_eql, bin_neq, un_not, un_neg, Option.bind_some, Option.bind_none, Option.map_some, cnd_true, cnd_false, pickV_true, pickV_false, gd_true, gd_false, gdV_true, gdV_false, gdH_true, gdH_false, gdS_true, gdS_false, wt_ff, wt_tt, wt_ft, wt_tf, wt_undef, obH_some', extractV_tuple, nilCheckV_ptr, againK_normal, againK_exit, againK_ret, blockK_normal, blockK_same, blockK_ret, seqK_normal, seqK_exit, seqK_ret, fin_done, if_true', if_false', Bool.not_true, Bool.not_false, idx0, idx1, idx2, idx3, idx4, chk_nil_l, chk_nil_r, done_nm]
    exact main _ _ _ _ _ _ _ _ _ _ _ _ _ _ _ _ _ _ _ _ _ _ _ _ _ _ _ _ _ _ _ _ _ _ _ _ _ _ _ _
  · rw [if_neg hc, if_neg hc] at e2
    rw [if_neg hc] at a2
    have em : readM n bs = none := by unfold readM; rw [if_neg hc]
    rw [em]
    obtain ⟨va, vc, rfl⟩ := a2.shape
    have k3 := alM g2
    have k3' := mvar (h := g2) 0 va ([] : List (List Nat)).length vc
    have s3 := mvar_same g2 (.cells [.int .i64 0, .slice none 0 0]) (.cells [.int .i64 0, .slice va ([] : List (List Nat)).length vc]) 29
    have i3 := i2.trans (mvar_in (h := g2) i2.len (.cells [.int .i64 0, .slice none 0 0]) (.cells [.int .i64 0, .slice va ([] : List (List Nat)).length vc]) 29)
    generalize (g2.new (.cells [.int .i64 0, .slice none 0 0]) 29).put g2.blks.length (.cells [.int .i64 0, .slice va ([] : List (List Nat)).length vc]) = g3 at *
    have c3 := c2.same s3
    have c4 := c3.put [.int .i64 0, .slice none 0 0]
    have st : storeV Try.prog 29 (.pointer (some ⟨h.blks.length, 0, none⟩)) (.agg #[.int .i64 0, .slice none 0 0]) g3 = some (g3.put h.blks.length (.cells [.int .i64 0, .slice none 0 0])) := by
      rw [stM, storeN_blk c3 (o := 0) (vs := [.int .i64 0, .slice none 0 0]) (by simp), w2_put]
    simp -implicitDefEqProofs (disch := omega) only [dcT, dcF, k1, e2, k3, k3', bdM0, st, ↓ret21, ↓cnd_true, ↓cnd_false, ↓Option.bind_some, ↓obH_some', bin_add, bin_sub, bin_mul, bin_lss, bin_leq, bin_gtr, bin_geq, bin_eql, bin_neq, un_not, un_neg, Option.bind_some, Option.bind_none, Option.map_some, cnd_true, cnd_false, pickV_true, pickV_false, gd_true, gd_false, gdV_true, gdV_false, gdH_true, gdH_false, gdS_true, gdS_false, wt_ff, wt_tt, wt_ft, wt_tf, wt_undef, obH_some', extractV_tuple, nilCheckV_ptr, againK_normal, againK_exit, againK_ret, blockK_normal, blockK_same, blockK_ret, seqK_normal, seqK_exit, seqK_ret, fin_done, if_true', if_false', Bool.not_true, Bool.not_false, idx0, idx1, idx2, idx3, idx4, chk_nil_l, chk_nil_r, done_nm]
    simp -implicitDefEqProofs only [ldM' c4, Option.bind_some, rvals_two, fin_done]
    exact ⟨_, _, rfl, done_ext' (i3.trans (In.put i3.len (.inl (Nat.le_refl _)) _)), AM.nil _ _ _⟩
end Go.Am
namespace Go.Am
open Go.Proofs
set_option maxRecDepth 100000
set_option linter.all false
attribute [local congr] obind_congr obH_congr cnd_congr chk_congr retK_congr codeK_congr
theorem AMv.app {t eo : TypeId} (et : ElemT Try.prog t eo 1 24 (.slice none 0 0)) (hne : eo ≠ 46) {n0 n1 : Nat} {h : Heap} (hn : n0 ≤ h.blks.length) (hn1 : n0 ≤ n1) {v : Value} {vs : List Value} {m : List (List Nat)} (A : AMv eo n0 h v vs m) (hvs : ∀ x ∈ vs,Lo x n1) {a : Option Addr} {c : Nat} {r : List Nat} (ax : AU n1 h (.slice a r.length c) r) (hl : m.length < 2 ^ 38) :
    ∃ a' c' h', appendV Try.prog t (some t) v (.slice (some ⟨h.blks.length, 0, none⟩) 1 1) (h.new (.cells [.slice a r.length c]) eo) = some (.slice a' (m ++ [r]).length c', h') ∧ AMv eo n0 h' (.slice a' (m ++ [r]).length c') (vs ++ [.slice a r.length c]) (m ++ [r]) ∧ Keeps n0 h h' ∧ (∀ p ty cs, Cells h p ty cs → ty ≠ eo → Cells h' p ty cs) := by
  have A2 := A.kp (h' := h.new (.cells [.slice a r.length c]) eo) fun b _ _ hb _ _ => Heap.new_old (List.getElem?_eq_some_iff.1 hb).1
  have ax2 : AU n1 (h.new (.cells [.slice a r.length c]) eo) (.slice a r.length c) r := ax.keep fun b hb _ => Heap.new_old hb
  have hrow : Row (h.new (.cells [.slice a r.length c]) eo) 1 (.slice (some ⟨h.blks.length, 0, none⟩) 1 1) 1 [.slice a r.length c] := .mk (loadN_blk (blk_new_self _ _ _) rfl)
  obtain ⟨v', h', e1, e2, e3, e4, e5⟩ := append_acc et (t1 := some t) (n0 := n0) (by simp [Heap.new]; omega) A2.out (newsV_row et.under hrow) (by simp) (by omega) (by omega) (by simp [Value.oneCell'])
  obtain ⟨a', c', rfl⟩ := e2.shape
  have el : m.length + 1 = (m ++ [r]).length := by simp
  rw [el] at e1 e2
  have kr : ∀ b, b < (h.new (.cells [.slice a r.length c]) eo).blks.length → blockOf v ≠ some b → h'.blks[b]? = (h.new (.cells [.slice a r.length c]) eo).blks[b]? := e4
  refine ⟨a', c', h', e1, ⟨e2, (A2.rows.mono fun x y s => ?_).append (.cons ?_ .nil), ?_⟩, (Keeps.new hn _ _).trans e3, fun p ty cs hp ht => ?_⟩
  · exact s.keep fun b hb hv => kr b hb fun e => (s.blk_ne A2.out (Ne.symm hne) hv) e
  · exact (ax2.keep fun b hb hv => kr b hb fun e => (ax2.blk_ne A2.out (Ne.symm hne) hv) e).up hn1
  · rw [List.pairwise_append]
    refine ⟨A.apart, List.pairwise_singleton _ _, fun x hx y hy b hb hb' => ?_⟩
    rw [List.mem_singleton] at hy
    subst hy
    have l1 := hvs x hx b hb
    have l2 := ax.ge hb'
    omega
  · have hp' : Cells (h.new (.cells [.slice a r.length c]) eo) p ty cs := hp.keepNew _ _
    refine (kr p hp'.lt fun e => ?_).trans hp'
    obtain ⟨all, x⟩ := A2.out.blk e
    unfold Cells at hp'
    rw [hp'] at x
    simp only [Option.some.injEq, Blk.mk.injEq] at x
    exact ht x.2.1
theorem RdrR.kpC {N : Nat} {h h' : Heap} {p : Nat} {r : Option (List UInt8)} (w : RdrR N h p r) (hc : ∀ cs, Cells h p 83 cs → Cells h' p 83 cs) (hk : ∀ b, b < N → h'.blks[b]? = h.blks[b]?) : RdrR N h' p r :=
  let ⟨a, c, x, y, z⟩ := w; ⟨a, c, hc _ x, y.keep fun b _ hb => hk b (z.1 b hb), z⟩
theorem RdrR.cl {N : Nat} {h : Heap} {p : Nat} {r : Option (List UInt8)} (w : RdrR N h p r) : ∃ cs, Cells h p 83 cs := let ⟨_, _, x, _⟩ := w; ⟨_, x⟩
theorem All2.monoM {α β : Type} {R S : α → β → Prop} {l : List α} {m : List β} (h : All2 R l m) : (∀ a b, a ∈ l → R a b → S a b) → All2 S l m := by
  induction h with
  | nil => exact fun _ => .nil
  | cons h1 _ ih => exact fun k => .cons (k _ _ (by simp) h1) (ih fun a b ha => k a b (by simp [ha]))
theorem AMv.kpV {eo : TypeId} {n0 n1 : Nat} {h h' : Heap} {v : Value} {vs : List Value} {m : List (List Nat)} (a : AMv eo n0 h v vs m) (hv : Lo v n1) (hvs : ∀ x ∈ vs,Lo x n1) (k : ∀ b, b < n1 → h'.blks[b]? = h.blks[b]?) : AMv eo n0 h' v vs m :=
  ⟨a.out.keep fun b _ hb => k b (hv b hb), a.rows.monoM fun x _ hx s => s.keep fun b _ hb => k b (hvs x hx b hb), a.apart⟩
theorem Keeps.dn {n0 n : Nat} {h h' : Heap} (k : Keeps n h h') (hn : n0 ≤ n) : Keeps n0 h h' := ⟨Nat.le_trans hn k.le, k.len, fun b hb => k.old b (by omega), fun m hm => (k.mods m hm).elim .inl fun x => .inr (by omega)⟩
theorem rread_inner {Q : Option (Value × Heap) → Prop} {h0 : Heap} {n1 N rp n i : Nat} {b mv : Value} {vs : List Value} {m : List (List Nat)} (hn : n ≤ 16) (hN : N ≤ h0.blks.length) (hrp : h0.blks.length ≤ rp) (hr1 : rp < n1) (k : Ex → St → Option (Value × Heap)) :
    ∀ (mm j : Nat) (h : Heap) (v : Value) (pre : List Nat) (r : Option (List UInt8)), n = j + mm → pre.length = j → n1 ≤ h.blks.length → AU n1 h v pre → RdrR N h rp r → (rbs r).length < 2 ^ 40 → AMv 52 h0.blks.length h mv vs m → Lo mv n1 → (∀ x ∈ vs,Lo x n1) → In h0.blks.length No (nm h0) h →
    (∀ h' v', n1 ≤ h'.blks.length → AU n1 h' v' (pre ++ (readRow mm r).1) → RdrR N h' rp (readRow mm r).2 → AMv 52 h0.blks.length h' mv vs m → In h0.blks.length No (nm h0) h' → ∀ (Ab Ac Ad Ak Al An Ao Ap Aq Ar Au Av Aw Ax Ay Az Ba Bb Bc Bd Be Bf Bg Bh Bi Bj Bk Bl Bm Bn Bo Bp Bq Br Bs Bt : Value), Q (k .normal ⟨#[.int .i64 n,Ab,Ac,Ad, .slice none 0 0, .bool false, .pointer (some ⟨rp, 0, none⟩), mv, .int .i64 i, v', Ak,Al,An,Ao,Ap,Aq,Ar,Au,Av,Aw,Ax,Ay,Az,Ba,Bb,Bc,Bd,Be,Bf,Bg,Bh,Bi,Bj,Bk,Bl,Bm,Bn,Bo,Bp,Bq,Br,Bs,Bt], h'⟩)) →
    ∀ (Ab Ac Ad Al An Ao Ap Aq Ar Au Av Aw Ax Ay Az Ba Bb Bc Bd Be Bf Bg Bh Bi Bj Bk Bl Bm Bn Bo Bp Bq Br Bs Bt : Value), Q (loopK Try.prog (evC Try.prog) c22_3 ⟨#[.int .i64 n,Ab,Ac,Ad, .slice none 0 0, .bool false, .pointer (some ⟨rp, 0, none⟩), mv, .int .i64 i, v, .int .i64 j,Al,An,Ao,Ap,Aq,Ar,Au,Av,Aw,Ax,Ay,Az,Ba,Bb,Bc,Bd,Be,Bf,Bg,Bh,Bi,Bj,Bk,Bl,Bm,Bn,Bo,Bp,Bq,Br,Bs,Bt], h⟩ (blockK 2 k)) := by
  intro mm
  induction mm with
  | zero =>
    intro j h v pre r hj hpre hle a w _ am _ _ hin hk Ab Ac Ad Al An Ao Ap Aq Ar Au Av Aw Ax Ay Az Ba Bb Bc Bd Be Bf Bg Bh Bi Bj Bk Bl Bm Bn Bo Bp Bq Br Bs Bt
    rw [loopK_eq evC_m, c22_3_eq]
    simp only [readRow, List.append_nil] at hk
    have := hk h v hle a w am hin
    simp -implicitDefEqProofs (disch := omega) only [dcT, dcF, ↓cnd_true, ↓cnd_false, ↓Option.bind_some, ↓obH_some', bin_add, bin_sub, bin_mul, bin_lss, bin_leq, bin_gtr, bin_geq, bin_eql, bin_neq, un_not, un_neg, Option.bind_some, Option.bind_none, Option.map_some, cnd_true, cnd_false, pickV_true, pickV_false, gd_true, gd_false, gdV_true, gdV_false, gdH_true, gdH_false, gdS_true, gdS_false, wt_ff, wt_tt, wt_ft, wt_tf, wt_undef, obH_some', extractV_tuple, nilCheckV_ptr, againK_normal, againK_exit, againK_ret, blockK_normal, blockK_same, blockK_ret, seqK_normal, seqK_exit, seqK_ret, fin_done, if_true', if_false', Bool.not_true, Bool.not_false, idx0, idx1, idx2, idx3, idx4, chk_nil_l, chk_nil_r, done_nm]
    exact this _ _ _ _ _ _ _ _ _ _ _ _ _ _ _ _ _ _ _ _ _ _ _ _ _ _ _ _ _ _ _ _ _ _ _ _
  | succ mm ih =>
    intro j h v pre r hj hpre hle a w hlen am hmv hvs hin hk Ab Ac Ad Al An Ao Ap Aq Ar Au Av Aw Ax Ay Az Ba Bb Bc Bd Be Bf Bg Bh Bi Bj Bk Bl Bm Bn Bo Bp Bq Br Bs Bt
    rw [loopK_eq evC_m, c22_3_eq]
    obtain ⟨h2, e2,Ac, w2⟩ := spec_RRNum w MAX (by unfold MAX; omega) hlen
    rw [show ((MAX : Nat) : Int) = 18446744073709551615 from rfl] at e2
    have nl := numP_le r MAX
    have l2 := Ac.len
    have a2 : AU n1 h2 v pre := a.mod Ac fun b hb e => by have := a.ge hb; have : b = rp := e; omega
    have am2 := am.modp Ac fun b hb => by
      have hb : b = rp := hb
      subst hb
      obtain ⟨cs, hr⟩ := w.cl
      exact ⟨_, _, hr, by decide, by decide⟩
    have hin2 := hin.trans (Ac.inn hin.len fun b hb e => by have : b = rp := e; omega)
    obtain ⟨a3, c3, h3, e3, s3, k3, q3⟩ := app_num (n0 := n1) (by omega) a2 (numP r MAX).1 (by omega)
    have q3' : ∀ q, q < n1 → h3.blks[q]? = h2.blks[q]? := fun q hq => q3 q (by omega) fun e => by have := a2.ge e; omega
    have w3 : RdrR N h3 rp (numP r MAX).2 := w2.kpC (fun cs hc => (q3' rp hr1).trans hc) fun b hb => q3' b (by omega)
    have am3 := am2.kpV hmv hvs q3'
    have l3 := k3.len
    have hin3 := hin2.trans ((k3.dn (n0 := h0.blks.length) (by omega)).inn)
    have hw : IntKind.wrap .i64 ((j : Int) + 1) = ((j + 1 : Nat) : Int) := by rw [wrap_i64] <;> omega
    have ih' := ih (j + 1) h3 _ (pre ++ [(numP r MAX).1]) (numP r MAX).2 (by omega) (by simp; omega) (by omega) s3 w3 (by omega) am3 hmv hvs hin3
      (fun h' v' a' b' c' d' i' => hk h' v' a' (by simpa [readRow] using b') (by simpa [readRow] using c') d' i')
    simp -implicitDefEqProofs (disch := omega) only [dcT, dcF, e2, mkU1, e3, hw, ↓cnd_true, ↓cnd_false, ↓Option.bind_some, ↓obH_some', bin_add, bin_sub, bin_mul, bin_lss, bin_leq, bin_gtr, bin_geq, bin_eql, bin_neq, un_not, un_neg, Option.bind_some, Option.bind_none, Option.map_some, cnd_true, cnd_false, pickV_true, pickV_false, gd_true, gd_false, gdV_true, gdV_false, gdH_true, gdH_false, gdS_true, gdS_false, wt_ff, wt_tt, wt_ft, wt_tf, wt_undef, obH_some', extractV_tuple, nilCheckV_ptr, againK_normal, againK_exit, againK_ret, blockK_normal, blockK_same, blockK_ret, seqK_normal, seqK_exit, seqK_ret, fin_done, if_true', if_false', Bool.not_true, Bool.not_false, idx0, idx1, idx2, idx3, idx4, chk_nil_l, chk_nil_r, done_nm]
    exact ih' _ _ _ _ _ _ _ _ _ _ _ _ _ _ _ _ _ _ _ _ _ _ _ _ _ _ _ _ _ _ _ _ _ _ _
theorem rread_loop {h0 : Heap} {N rp n : Nat} {bv : Value} (hn : n ≤ 16) (hN : N ≤ h0.blks.length) (hrp : h0.blks.length ≤ rp) :
    ∀ (mm i : Nat) (h : Heap) (mv : Value) (vs : List Value) (dn : List (List Nat)) (r : Option (List UInt8)), n = i + mm → dn.length = i → rp < h.blks.length → AMv 52 h0.blks.length h mv vs dn → RdrR N h rp r → (rbs r).length < 2 ^ 40 → In h0.blks.length No (nm h0) h →
    ∀ (Ab Ac Ad Aj Ak Al An Ao Ap Aq Ar Au Av Aw Ax Ay Az Ba Bb Bc Bd Be Bf Bg Bh Bi Bj Bk Bl Bm Bn Bo Bp Bq Br Bs Bt : Value),
    ∃ v' h', loopK Try.prog (evC Try.prog) c22_1 ⟨#[.int .i64 n,Ab,Ac,Ad, .slice none 0 0, .bool false, .pointer (some ⟨rp, 0, none⟩), mv, .int .i64 i,Aj,Ak,Al,An,Ao,Ap,Aq,Ar,Au,Av,Aw,Ax,Ay,Az,Ba,Bb,Bc,Bd,Be,Bf,Bg,Bh,Bi,Bj,Bk,Bl,Bm,Bn,Bo,Bp,Bq,Br,Bs,Bt], h⟩ (blockK 0 (seqK Try.prog (evC Try.prog) c22_2 (retK Try.f22 Try.prog h0))) =
      some (.tuple #[v', .bool (endP (readRows n mm r).2)], h') ∧ HExt h0 h' ∧ AM 52 h0.blks.length h' v' (if endP (readRows n mm r).2 = true then dn ++ (readRows n mm r).1 else []) := by
  intro mm
  induction mm with
  | zero =>
    intro i h mv vs dn r hi hd hrl A w hlen hin Ab Ac Ad Aj Ak Al An Ao Ap Aq Ar Au Av Aw Ax Ay Az Ba Bb Bc Bd Be Bf Bg Bh Bi Bj Bk Bl Bm Bn Bo Bp Bq Br Bs Bt
    rw [loopK_eq evC_m, c22_1_eq]
    have e1 := spec_RREnd w
    simp only [readRows]
    rw [List.append_nil]
    rcases Bool.eq_false_or_eq_true (endP r) with he | he
    · rw [he] at e1
      simp only [he, if_true]
      simp -implicitDefEqProofs (disch := omega) only [dcT, dcF, ↓c22_2_eq, e1, ↓ret22, ↓cnd_true, ↓cnd_false, ↓Option.bind_some, ↓obH_some', bin_add, bin_sub, bin_mul, bin_lss, bin_leq, bin_gtr, bin_geq, bin_eql, bin_neq, un_not, un_neg, Option.bind_some, Option.bind_none, Option.map_some, cnd_true, cnd_false, pickV_true, pickV_false, gd_true, gd_false, gdV_true, gdV_false, gdH_true, gdH_false, gdS_true, gdS_false, wt_ff, wt_tt, wt_ft, wt_tf, wt_undef, obH_some', extractV_tuple, nilCheckV_ptr, againK_normal, againK_exit, againK_ret, blockK_normal, blockK_same, blockK_ret, seqK_normal, seqK_exit, seqK_ret, fin_done, if_true', if_false', Bool.not_true, Bool.not_false, idx0, idx1, idx2, idx3, idx4, chk_nil_l, chk_nil_r, done_nm]
      exact ⟨_, _, rfl, done_ext' hin, AM.done ⟨vs, A⟩⟩
    · rw [he] at e1
      simp only [he, Bool.false_eq_true, if_false]
      simp -implicitDefEqProofs (disch := omega) only [dcT, dcF, ↓c22_2_eq, e1, ↓ret22, ↓cnd_true, ↓cnd_false, ↓Option.bind_some, ↓obH_some', bin_add, bin_sub, bin_mul, bin_lss, bin_leq, bin_gtr, bin_geq, bin_eql, bin_neq, un_not, un_neg, Option.bind_some, Option.bind_none, Option.map_some, cnd_true, cnd_false, pickV_true, pickV_false, gd_true, gd_false, gdV_true, gdV_false, gdH_true, gdH_false, gdS_true, gdS_false, wt_ff, wt_tt, wt_ft, wt_tf, wt_undef, obH_some', extractV_tuple, nilCheckV_ptr, againK_normal, againK_exit, againK_ret, blockK_normal, blockK_same, blockK_ret, seqK_normal, seqK_exit, seqK_ret, fin_done, if_true', if_false', Bool.not_true, Bool.not_false, idx0, idx1, idx2, idx3, idx4, chk_nil_l, chk_nil_r, done_nm]
      exact ⟨_, _, rfl, done_ext' hin, AM.nil _ _ _⟩
  | succ mm ih =>
    intro i h mv vs dn r hi hd hrl A w hlen hin Ab Ac Ad Aj Ak Al An Ao Ap Aq Ar Au Av Aw Ax Ay Az Ba Bb Bc Bd Be Bf Bg Bh Bi Bj Bk Bl Bm Bn Bo Bp Bq Br Bs Bt
    rw [loopK_eq evC_m, c22_1_eq]
    have hw : IntKind.wrap .i64 ((i : Int) + 1) = ((i + 1 : Nat) : Int) := by rw [wrap_i64] <;> omega
    have hle := readRow_le n r
    have hl0 := hin.len
    simp only [nm_blks] at hl0
    have inner := rread_inner (Q := fun res => ∃ v' h', res = some (.tuple #[v', .bool (endP (readRows n (mm + 1) r).2)], h') ∧ HExt h0 h' ∧ AM 52 h0.blks.length h' v' (if endP (readRows n (mm + 1) r).2 = true then dn ++ (readRows n (mm + 1) r).1 else [])) (h0 := h0) (n1 := h.blks.length) (N := N) (rp := rp) (n := n) (i := i) (b := bv) (mv := mv) (vs := vs) (m := dn) hn hN hrp hrl
      (seqK Try.prog (evC Try.prog) c22_4 (blockK 1 (seqK Try.prog (evC Try.prog) c22_5 (againK Try.prog (evC Try.prog) c22_1 (blockK 0 (seqK Try.prog (evC Try.prog) c22_2 (retK Try.f22 Try.prog h0)))))))
      n 0 h (.slice none 0 0) [] r (by omega) rfl (Nat.le_refl _) .nil w hlen A (A.smv etW.size).1.lo (fun x hx => by
        obtain ⟨k, hk, rfl⟩ := List.getElem_of_mem hx
        obtain ⟨r', _, hr'⟩ := A.rows.get (i := k) (a := vs[k]) (List.getElem?_eq_getElem hk)
        exact hr'.su.lo) hin (by
        intro h' v' hle' a' w' A' hin' Ab Ac Ad Ak Al An Ao Ap Aq Ar Au Av Aw Ax Ay Az Ba Bb Bc Bd Be Bf Bg Bh Bi Bj Bk Bl Bm Bn Bo Bp Bq Br Bs Bt
        rw [List.nil_append] at a'
        obtain ⟨aa, cc, rfl⟩ := a'.shape
        obtain ⟨a3, c3, h3, e3, A3, k3, o3⟩ := A'.app etW (by decide) (n0 := h0.blks.length) (n1 := h.blks.length) hin'.len hl0 (fun x hx => by
          obtain ⟨k, hk, rfl⟩ := List.getElem_of_mem hx
          obtain ⟨r', _, hr'⟩ := A.rows.get (i := k) (a := vs[k]) (List.getElem?_eq_getElem hk)
          exact hr'.su.lo) a' (by omega)
        have l3 := k3.len
        have w3 : RdrR N h3 rp (readRow n r).2 := w'.kpC (fun cs hc => o3 _ _ _ hc (by decide)) fun b hb => k3.old b (by omega)
        have ih' := ih (i + 1) h3 _ _ (dn ++ [(readRow n r).1]) (readRow n r).2 (by omega) (by simp; omega) (by omega) A3 w3 (by omega) (hin'.trans k3.inn)
        simp only [List.append_assoc, List.singleton_append] at ih'
        simp -implicitDefEqProofs (disch := omega) only [↓c22_4_eq, ↓c22_5_eq, mkW1, e3, hw, ↓cnd_true, ↓cnd_false, ↓Option.bind_some, ↓obH_some', bin_add, bin_sub, bin_mul, bin_lss, bin_leq, bin_gtr, bin_geq, bin_eql, bin_neq, un_not, un_neg, Option.bind_some, Option.bind_none, Option.map_some, cnd_true, cnd_false, pickV_true, pickV_false, gd_true, gd_false, gdV_true, gdV_false, gdH_true, gdH_false, gdS_true, gdS_false, wt_ff, wt_tt, wt_ft, wt_tf, wt_undef, obH_some', extractV_tuple, nilCheckV_ptr, againK_normal, againK_exit, againK_ret, blockK_normal, blockK_same, blockK_ret, seqK_normal, seqK_exit, seqK_ret, fin_done, if_true', if_false', Bool.not_true, Bool.not_false, idx0, idx1, idx2, idx3, idx4, chk_nil_l, chk_nil_r, done_nm]
        exact ih' _ _ _ _ _ _ _ _ _ _ _ _ _ _ _ _ _ _ _ _ _ _ _ _ _ _ _ _ _ _ _ _ _ _ _ _ _)
    rw [show ((0 : Nat) : Int) = 0 from rfl] at inner
    simp -implicitDefEqProofs (disch := omega) only [dcT, dcF, ↓cnd_true, ↓cnd_false, ↓Option.bind_some, ↓obH_some', bin_add, bin_sub, bin_mul, bin_lss, bin_leq, bin_gtr, bin_geq, bin_eql, bin_neq, un_not, un_neg, Option.bind_some, Option.bind_none, Option.map_some, cnd_true, cnd_false, pickV_true, pickV_false, gd_true, gd_false, gdV_true, gdV_false, gdH_true, gdH_false, gdS_true, gdS_false, wt_ff, wt_tt, wt_ft, wt_tf, wt_undef, obH_some', extractV_tuple, nilCheckV_ptr, againK_normal, againK_exit, againK_ret, blockK_normal, blockK_same, blockK_ret, seqK_normal, seqK_exit, seqK_ret, fin_done, if_true', if_false', Bool.not_true, Bool.not_false, idx0, idx1, idx2, idx3, idx4, chk_nil_l, chk_nil_r, done_nm]
    exact inner _ _ _ _ _ _ _ _ _ _ _ _ _ _ _ _ _ _ _ _ _ _ _ _ _ _ _ _ _ _ _ _ _ _ _
theorem spec_ReadMat {h : Heap} {n : Int} {b : Value} {bs : List UInt8} (sb : SB h b bs) (hl : bs.length < 2 ^ 38) :
    ∃ v' h', evC Try.prog 22 #[.int .i64 n, b] h = some (.tuple #[v', .bool (readM n bs).isSome], h') ∧ HExt h h' ∧ AM 52 h.blks.length h' v' ((readM n bs).getD []) := by
  rw [call22, c22_0_eq]
  by_cases hc : 1 ≤ n ∧ n ≤ 16
  · obtain ⟨n, rfl⟩ : ∃ k : Nat, n = k := ⟨n.toNat, by omega⟩
    have em : readM n bs = if endP (readRows n n (some bs)).2 = true then some (readRows n n (some bs)).1 else none := by
      unfold readM; rw [if_pos hc, Int.toNat_natCast]
    have e2' : (readM n bs).isSome = endP (readRows n n (some bs)).2 := by rw [em]; split <;> simp_all
    have e3' : (readM n bs).getD [] = if endP (readRows n n (some bs)).2 = true then [] ++ (readRows n n (some bs)).1 else [] := by rw [em]; split <;> simp
    rw [e2', e3']
    obtain ⟨ba, bc, rfl⟩ := sb.shape
    have w0 : RdrR h.blks.length ((nm h).new (.cells [.slice ba bs.length bc, .bool false]) 83) h.blks.length (some bs) := ⟨ba, bc, blk_new_self _ _ _, sb.nm.keep fun b hb _ => Heap.new_old hb, sb.lo, Nat.le_refl _⟩
    have i0 : In h.blks.length No (nm h) _ := In.new (by simp) (.cells [.slice ba bs.length bc, .bool false]) 83
    have main := rread_loop (h0 := h) (N := h.blks.length) (rp := h.blks.length) (n := n) (bv := undef) (by omega) (Nat.le_refl _) (Nat.le_refl _) n 0 _ (.slice none 0 0) [] [] (some bs) (by omega) rfl (by simp [Heap.new]) ⟨.nil, .nil, .nil⟩ w0 (by simp only [rbs, Option.getD_some]; omega) i0
    rw [show ((0 : Nat) : Int) = 0 from rfl] at main
    simp -implicitDefEqProofs (disch := omega) only [dcT, dcF, bdRR, bxRR, nm_blks, ↓cnd_true, ↓cnd_false, ↓Option.bind_some, ↓obH_some', bin_add, bin_sub, bin_mul, bin_lss, bin_leq, bin_gtr, bin_geq, bin_eql, bin_neq, un_not, un_neg, Option.bind_some, Option.bind_none, Option.map_some, cnd_true, cnd_false, pickV_true, pickV_false, gd_true, gd_false, gdV_true, gdV_false, gdH_true, gdH_false, gdS_true, gdS_false, wt_ff, wt_tt, wt_ft, wt_tf, wt_undef, obH_some', extractV_tuple, nilCheckV_ptr, againK_normal, againK_exit, againK_ret, blockK_normal, blockK_same, blockK_ret, seqK_normal, seqK_exit, seqK_ret, fin_done, if_true', if_false', Bool.not_true, Bool.not_false, idx0, idx1, idx2, idx3, idx4, chk_nil_l, chk_nil_r, done_nm]
    exact main _ _ _ _ _ _ _ _ _ _ _ _ _ _ _ _ _ _ _ _ _ _ _ _ _ _ _ _ _ _ _ _ _ _ _ _ _
  · have em : readM n bs = none := by unfold readM; rw [if_neg hc]
    rw [em]
    have key : ∀ b2 : Prop, b2 → b2 := fun _ x => x
    by_cases h1 : n < 1
    · simp -implicitDefEqProofs (disch := omega) only [dcT, dcF, ↓ret22, ↓cnd_true, ↓cnd_false, ↓Option.bind_some, ↓obH_some', bin_add, bin_sub, bin_mul, bin_lss, bin_leq, bin_gtr, bin_geq, bin_eql, bin_neq, un_not, un_neg, Option.bind_some, Option.bind_none, Option.map_some, cnd_true, cnd_false, pickV_true, pickV_false, gd_true, gd_false, gdV_true, gdV_false, gdH_true, gdH_false, gdS_true, gdS_false, wt_ff, wt_tt, wt_ft, wt_tf, wt_undef, obH_some', extractV_tuple, nilCheckV_ptr, againK_normal, againK_exit, againK_ret, blockK_normal, blockK_same, blockK_ret, seqK_normal, seqK_exit, seqK_ret, fin_done, if_true', if_false', Bool.not_true, Bool.not_false, idx0, idx1, idx2, idx3, idx4, chk_nil_l, chk_nil_r, done_nm]
      exact ⟨_, _, rfl, done_ext' (In.refl (by simp)), AM.nil _ _ _⟩
    · simp -implicitDefEqProofs (disch := omega) only [dcT, dcF, ↓ret22, ↓cnd_true, ↓cnd_false, ↓Option.bind_some, ↓obH_some', bin_add, bin_sub, bin_mul, bin_lss, bin_leq, bin_gtr, bin_geq, bin_eql, bin_neq, un_not, un_neg, Option.bind_some, Option.bind_none, Option.map_some, cnd_true, cnd_false, pickV_true, pickV_false, gd_true, gd_false, gdV_true, gdV_false, gdH_true, gdH_false, gdS_true, gdS_false, wt_ff, wt_tt, wt_ft, wt_tf, wt_undef, obH_some', extractV_tuple, nilCheckV_ptr, againK_normal, againK_exit, againK_ret, blockK_normal, blockK_same, blockK_ret, seqK_normal, seqK_exit, seqK_ret, fin_done, if_true', if_false', Bool.not_true, Bool.not_false, idx0, idx1, idx2, idx3, idx4, chk_nil_l, chk_nil_r, done_nm]
      exact ⟨_, _, rfl, done_ext' (In.refl (by simp)), AM.nil _ _ _⟩
end Go.Am
namespace Go.Am
open Go.Proofs
set_option maxRecDepth 100000
set_option linter.all false
attribute [local congr] obind_congr obH_congr cnd_congr chk_congr retK_congr codeK_congr
theorem bdE (n me k : Int) (a b : Option Addr) (l c l2 c2 : Nat) : buildV Try.prog 127 #[(0, .int .i64 n), (1, .int .i64 me), (2, .agg #[.int .i64 k, .slice a l c]), (3, .slice b l2 c2)] = some (.agg #[.int .i64 n, .int .i64 me, .int .i64 k, .slice a l c, .slice b l2 c2]) := by kernel_rfl
theorem bxE (n me k : Int) (v w : Value) (h : Heap) : boxV Try.prog 127 (.agg #[.int .i64 n, .int .i64 me, .int .i64 k, v, w]) h = some (.pointer (some ⟨h.blks.length, 0, none⟩), h.new (.cells [.int .i64 n, .int .i64 me, .int .i64 k, v, w]) 127) := by kernel_rfl
theorem faE0 (p : Nat) : fieldAddrV Try.prog 127 (.pointer (some ⟨p, 0, none⟩)) 0 = some (.pointer (some ⟨p, 0, none⟩)) := by kernel_rfl
theorem faE1 (p : Nat) : fieldAddrV Try.prog 127 (.pointer (some ⟨p, 0, none⟩)) 1 = some (.pointer (some ⟨p, 1, none⟩)) := by kernel_rfl
theorem faE2 (p : Nat) : fieldAddrV Try.prog 127 (.pointer (some ⟨p, 0, none⟩)) 2 = some (.pointer (some ⟨p, 2, none⟩)) := by kernel_rfl
theorem faE3 (p : Nat) : fieldAddrV Try.prog 127 (.pointer (some ⟨p, 0, none⟩)) 3 = some (.pointer (some ⟨p, 4, none⟩)) := by kernel_rfl
theorem faM12 (p : Nat) : fieldAddrV Try.prog 29 (.pointer (some ⟨p, 2, none⟩)) 1 = some (.pointer (some ⟨p, 3, none⟩)) := by kernel_rfl
theorem ldVv (p o : Nat) (h : Heap) : loadV Try.prog 53 (.pointer (some ⟨p, o, none⟩)) h = h.load1 p o := by kernel_rfl
theorem eqE (xo yo : Operand) (p : Nat) : binV Try.prog .eql 40 xo yo (.pointer (some ⟨p, 0, none⟩)) (.pointer none) = some (.bool false) := by kernel_rfl
theorem eqE0 (xo yo : Operand) : binV Try.prog .eql 40 xo yo (.pointer none) (.pointer none) = some (.bool true) := by kernel_rfl
theorem ldMo (p o : Nat) (h : Heap) : loadV Try.prog 29 (.pointer (some ⟨p, o, none⟩)) h = (h.loadN p o 2).map fun vs => .agg vs.toArray := by kernel_rfl
theorem stMo (p o : Nat) (n : Int) (a : Option Addr) (l c : Nat) (h : Heap) : storeV Try.prog 29 (.pointer (some ⟨p, o, none⟩)) (.agg #[.int .i64 n, .slice a l c]) h = h.storeN p o [.int .i64 n, .slice a l c] := by kernel_rfl
theorem stVv (p o : Nat) (a : Option Addr) (n c : Nat) (h : Heap) : storeV Try.prog 53 (.pointer (some ⟨p, o, none⟩)) (.slice a n c) h = h.storeN p o [.slice a n c] := by kernel_rfl
structure EnC (L : Nat) (h : Heap) (p : Nat) (n me : Int) (rv gv : Value) (m : List (List Nat)) (g : List Nat) : Prop where
  c : Cells h p 127 [.int .i64 n, .int .i64 me, .int .i64 n, rv, gv]
  am : AM 53 L h rv m
  au : AU L h gv g
def En (L : Nat) (h : Heap) (p : Nat) (n me : Int) (m : List (List Nat)) (g : List Nat) : Prop := ∃ rv gv, EnC L h p n me rv gv m g
variable {L : Nat} {h h' : Heap} {p : Nat} {n me : Int} {rv gv : Value} {m : List (List Nat)} {g : List Nat}
theorem EnC.kp (E : EnC L h p n me rv gv m g) (k : ∀ b all ty, h.blks[b]? = some ⟨.cells all, ty, true⟩ → ty = 127 ∧ b = p ∨ ty = 53 ∨ ty = 46 → h'.blks[b]? = h.blks[b]?) : EnC L h' p n me rv gv m g :=
  ⟨(k _ _ _ E.c (.inl ⟨rfl, rfl⟩)).trans E.c, E.am.kp fun b all ty hb ht _ => k b all ty hb (.inr ht), E.au.keep fun b _ hv => by obtain ⟨all, h1⟩ := E.au.blk hv; exact k b all _ h1 (.inr (.inr rfl))⟩
theorem EnC.same (E : EnC L h p n me rv gv m g) (s : Same h h') : EnC L h' p n me rv gv m g := E.kp fun b _ _ hb _ => s.2 b (List.getElem?_eq_some_iff.1 hb).1
theorem EnC.ext (E : EnC L h p n me rv gv m g) (e : HExt h h') : EnC L h' p n me rv gv m g := E.same e.same
theorem EnC.kpT (E : EnC L h p n me rv gv m g) {T : TypeId} (h1 : 127 ≠ T) (h2 : 53 ≠ T) (h3 : 46 ≠ T) (k : ∀ q ty cs, Cells h q ty cs → ty ≠ T → Cells h' q ty cs) : EnC L h' p n me rv gv m g :=
  E.kp fun b all ty hb ht => (k b ty all hb (by rcases ht with ⟨rfl, _⟩ | rfl | rfl <;> assumption)).trans hb.symm
theorem En.same (E : En L h p n me m g) (s : Same h h') : En L h' p n me m g := let ⟨_, _, x⟩ := E; ⟨_, _, x.same s⟩
theorem En.ext (E : En L h p n me m g) (s : HExt h h') : En L h' p n me m g := E.same s.same
theorem En.nm (E : En L h p n me m g) : En L (Am.nm h) p n me m g := E.same ⟨Nat.le_refl _, fun _ _ => rfl⟩
theorem En.done {h0 : Heap} (E : En L h p n me m g) : En L (Am.done h0 h) p n me m g := E.same ⟨Nat.le_refl _, fun _ _ => rfl⟩
theorem En.mod {S : Nat → Prop} (E : En L h p n me m g) (e : HMod S h h') (hp : ¬ S p) (k : ∀ b, S b → ∃ T cs, Cells h b T cs ∧ T ≠ 53 ∧ T ≠ 46) : En L h' p n me m g :=
  let ⟨rv, gv, x⟩ := E
  ⟨rv, gv, x.kp fun b all ty hb ht => e.old b (List.getElem?_eq_some_iff.1 hb).1 fun hs => by
    rcases ht with ⟨_, rfl⟩ | ht
    · exact hp hs
    · obtain ⟨T, cs, hc, h1, h2⟩ := k b hs
      unfold Cells at hc
      rw [hc] at hb
      simp only [Option.some.injEq, Blk.mk.injEq] at hb
      rcases ht with ht | ht
      · exact h1 (hb.2.1.trans ht)
      · exact h2 (hb.2.1.trans ht)⟩
theorem EnC.lt (E : EnC L h p n me rv gv m g) : p < h.blks.length := E.c.lt
theorem EnC.ldn (E : EnC L h p n me rv gv m g) (x : TypeId) : h.load1 p 0 = some (.int .i64 n) := by rw [E.c.load]; rfl
theorem EnC.l0 (E : EnC L h p n me rv gv m g) : h.load1 p 0 = some (.int .i64 n) := by rw [E.c.load]; rfl
theorem EnC.l1 (E : EnC L h p n me rv gv m g) : h.load1 p 1 = some (.int .i64 me) := by rw [E.c.load]; rfl
theorem EnC.l3 (E : EnC L h p n me rv gv m g) : h.load1 p 3 = some rv := by rw [E.c.load]; rfl
theorem EnC.l4 (E : EnC L h p n me rv gv m g) : h.load1 p 4 = some gv := by rw [E.c.load]; rfl
theorem EnC.ldm (E : EnC L h p n me rv gv m g) : loadV Try.prog 29 (.pointer (some ⟨p, 2, none⟩)) h = some (matV n rv) := by
  rw [ldMo]
  have : h.loadN p 2 2 = some [.int .i64 n, rv] := by
    have c := E.c
    unfold Cells at c
    simp [Heap.loadN, Heap.cells?, c]
  rw [this]; rfl
structure EnOk (n me : Int) (m : List (List Nat)) (g : List Nat) : Prop where
  gd : goodM n m = true
  me0 : 0 ≤ me
  men : me < n
  gl : (g.length : Int) = n
  m64 : ∀ r ∈ m, ∀ y ∈ r, y < 2 ^ 64
  g64 : ∀ y ∈ g, y < 2 ^ 64
theorem spec_ENew (n me : Int) (h : Heap) : (∃ (q : Nat) (h' : Heap), evC Try.prog 27 #[.int .i64 n, .int .i64 me] h = some (.tuple #[if 1 ≤ n ∧ n ≤ 16 ∧ 0 ≤ me ∧ me < n then .pointer (some ⟨q, 0, none⟩) else .pointer none, .int .i64 (if 1 ≤ n ∧ n ≤ 16 ∧ 0 ≤ me ∧ me < n then 0 else 1)], h') ∧ HExt h h' ∧
    (1 ≤ n ∧ n ≤ 16 ∧ 0 ≤ me ∧ me < n → h.blks.length ≤ q ∧ En h.blks.length h' q n me (zerosM n.toNat) (List.replicate n.toNat 0))) := by
  rw [call27, c27_0_eq]
  obtain ⟨v, g1, e1,Ab, a1⟩ := spec_MNew n (nm h)
  have i1 : In h.blks.length No (nm h) g1 := Ab.inn (Nat.le_refl _)
  by_cases hn : 1 ≤ n ∧ n ≤ 16
  · rw [if_pos hn, if_pos hn] at e1
    rw [if_pos hn] at a1
    obtain ⟨va, vc, rfl⟩ := a1.shape
    have k2 := alM g1
    have k2' := mvar (h := g1) n va (zerosM n.toNat).length vc
    have c2 := mvar_cells g1 [.int .i64 0, .slice none 0 0] [.int .i64 n, .slice va (zerosM n.toNat).length vc] 29
    have s2 := mvar_same g1 (.cells [.int .i64 0, .slice none 0 0]) (.cells [.int .i64 n, .slice va (zerosM n.toNat).length vc]) 29
    have i2 := i1.trans (mvar_in (h := g1) i1.len (.cells [.int .i64 0, .slice none 0 0]) (.cells [.int .i64 n, .slice va (zerosM n.toNat).length vc]) 29)
    have l2 := i2.len
    generalize (g1.new (.cells [.int .i64 0, .slice none 0 0]) 29).put g1.blks.length (.cells [.int .i64 n, .slice va (zerosM n.toNat).length vc]) = g2 at *
    by_cases h0 : 0 ≤ me
    · by_cases h1 : me < n
      · simp only [if_pos (show 1 ≤ n ∧ n ≤ 16 ∧ 0 ≤ me ∧ me < n from ⟨hn.1, hn.2, h0, h1⟩)]
        obtain ⟨ua, uc, g3, e3,Ad, a3⟩ := spec_New n (nm g2)
        obtain ⟨Ad', m3⟩ := Ad.amx
        have hz : List.replicate (min (max n 0) 64).toNat 0 = List.replicate n.toNat 0 := by congr 1; omega
        rw [hz] at e3 a3
        have c5 := Cells.new (am g3 g2) 127 [.int .i64 n, .int .i64 me, .int .i64 n, .slice va (zerosM n.toNat).length vc, .slice ua (List.replicate n.toNat 0).length uc]
        have i5 := (i2.trans (Ad'.inn i2.len)).trans (In.new (i2.trans (Ad'.inn i2.len)).len (.cells [.int .i64 n, .int .i64 me, .int .i64 n, .slice va (zerosM n.toNat).length vc, .slice ua (List.replicate n.toNat 0).length uc]) 127)
        have am5 := ((a1.same s2).same Ad'.same).same (Same.new (am g3 g2) (.cells [.int .i64 n, .int .i64 me, .int .i64 n, .slice va (zerosM n.toNat).length vc, .slice ua (List.replicate n.toNat 0).length uc]) 127)
        have a3' : AU h.blks.length (am g3 g2) (.slice ua (List.replicate n.toNat 0).length uc) (List.replicate n.toNat 0) := (a3.keep (h' := am g3 g2) fun _ _ _ => rfl).up l2
        have au5 := a3'.same (Same.new (am g3 g2) (.cells [.int .i64 n, .int .i64 me, .int .i64 n, .slice va (zerosM n.toNat).length vc, .slice ua (List.replicate n.toNat 0).length uc]) 127)
        have l3 := Ad'.len
        have hl : ((am g3 g2).new (.cells [.int .i64 n, .int .i64 me, .int .i64 n, .slice va (zerosM n.toNat).length vc, .slice ua (List.replicate n.toNat 0).length uc]) 127).blks.length = (am g3 g2).blks.length + 1 := by simp [Heap.new]
        have hq : ¬ me ≥ n := by omega
        simp -implicitDefEqProofs (disch := omega) only [dcT, dcF, e1, k2, k2', ldM' c2, e3, bdE, bxE, m3, List.append_nil, ↓ret27, ↓cnd_true, ↓cnd_false, ↓Option.bind_some, ↓obH_some', bin_add, bin_sub, bin_mul, bin_lss, bin_leq, bin_gtr, bin_geq, bin_eql, bin_neq, un_not, un_neg, Option.bind_some, Option.bind_none, Option.map_some, cnd_true, cnd_false, pickV_true, pickV_false, gd_true, gd_false, gdV_true, gdV_false, gdH_true, gdH_false, gdS_true, gdS_false, wt_ff, wt_tt, wt_ft, wt_tf, wt_undef, obH_some', extractV_tuple, nilCheckV_ptr, againK_normal, againK_exit, againK_ret, blockK_normal, blockK_same, blockK_ret, seqK_normal, seqK_exit, seqK_ret, fin_done, if_true', if_false', Bool.not_true, Bool.not_false, idx0, idx1, idx2, idx3, idx4, chk_nil_l, chk_nil_r, done_nm]
        exact ⟨_, _, rfl, done_ext' i5, fun _ => ⟨by have := l3; have : h.blks.length ≤ g2.blks.length := l2; omega,En.done ⟨_, _, ⟨c5, am5.up (Nat.le_refl _), au5⟩⟩⟩⟩
      · simp only [if_neg (show ¬ (1 ≤ n ∧ n ≤ 16 ∧ 0 ≤ me ∧ me < n) from fun x => h1 x.2.2.2)]
        simp -implicitDefEqProofs (disch := omega) only [dcT, dcF, e1, k2, k2', ↓ret27, ↓cnd_true, ↓cnd_false, ↓Option.bind_some, ↓obH_some', bin_add, bin_sub, bin_mul, bin_lss, bin_leq, bin_gtr, bin_geq, bin_eql, bin_neq, un_not, un_neg, Option.bind_some, Option.bind_none, Option.map_some, cnd_true, cnd_false, pickV_true, pickV_false, gd_true, gd_false, gdV_true, gdV_false, gdH_true, gdH_false, gdS_true, gdS_false, wt_ff, wt_tt, wt_ft, wt_tf, wt_undef, obH_some', extractV_tuple, nilCheckV_ptr, againK_normal, againK_exit, againK_ret, blockK_normal, blockK_same, blockK_ret, seqK_normal, seqK_exit, seqK_ret, fin_done, if_true', if_false', Bool.not_true, Bool.not_false, idx0, idx1, idx2, idx3, idx4, chk_nil_l, chk_nil_r, done_nm]
        exact ⟨0, _, rfl, done_ext' i2, fun x => absurd x.2.2.2 h1⟩
    · simp only [if_neg (show ¬ (1 ≤ n ∧ n ≤ 16 ∧ 0 ≤ me ∧ me < n) from fun x => h0 x.2.2.1)]
      simp -implicitDefEqProofs (disch := omega) only [dcT, dcF, e1, k2, k2', ↓ret27, ↓cnd_true, ↓cnd_false, ↓Option.bind_some, ↓obH_some', bin_add, bin_sub, bin_mul, bin_lss, bin_leq, bin_gtr, bin_geq, bin_eql, bin_neq, un_not, un_neg, Option.bind_some, Option.bind_none, Option.map_some, cnd_true, cnd_false, pickV_true, pickV_false, gd_true, gd_false, gdV_true, gdV_false, gdH_true, gdH_false, gdS_true, gdS_false, wt_ff, wt_tt, wt_ft, wt_tf, wt_undef, obH_some', extractV_tuple, nilCheckV_ptr, againK_normal, againK_exit, againK_ret, blockK_normal, blockK_same, blockK_ret, seqK_normal, seqK_exit, seqK_ret, fin_done, if_true', if_false', Bool.not_true, Bool.not_false, idx0, idx1, idx2, idx3, idx4, chk_nil_l, chk_nil_r, done_nm]
      exact ⟨0, _, rfl, done_ext' i2, fun x => absurd x.2.2.1 h0⟩
  · rw [if_neg hn, if_neg hn] at e1
    rw [if_neg hn] at a1
    obtain ⟨va, vc, rfl⟩ := a1.shape
    have k2 := alM g1
    have k2' := mvar (h := g1) 0 va ([] : List (List Nat)).length vc
    have i2 := i1.trans (mvar_in (h := g1) i1.len (.cells [.int .i64 0, .slice none 0 0]) (.cells [.int .i64 0, .slice va ([] : List (List Nat)).length vc]) 29)
    simp only [if_neg (show ¬ (1 ≤ n ∧ n ≤ 16 ∧ 0 ≤ me ∧ me < n) from fun x => hn ⟨x.1, x.2.1⟩)]
    simp -implicitDefEqProofs (disch := omega) only [dcT, dcF, e1, k2, k2', ↓ret27, ↓cnd_true, ↓cnd_false, ↓Option.bind_some, ↓obH_some', bin_add, bin_sub, bin_mul, bin_lss, bin_leq, bin_gtr, bin_geq, bin_eql, bin_neq, un_not, un_neg, Option.bind_some, Option.bind_none, Option.map_some, cnd_true, cnd_false, pickV_true, pickV_false, gd_true, gd_false, gdV_true, gdV_false, gdH_true, gdH_false, gdS_true, gdS_false, wt_ff, wt_tt, wt_ft, wt_tf, wt_undef, obH_some', extractV_tuple, nilCheckV_ptr, againK_normal, againK_exit, againK_ret, blockK_normal, blockK_same, blockK_ret, seqK_normal, seqK_exit, seqK_ret, fin_done, if_true', if_false', Bool.not_true, Bool.not_false, idx0, idx1, idx2, idx3, idx4, chk_nil_l, chk_nil_r, done_nm]
    exact ⟨0, _, rfl, done_ext' i2, fun x => absurd ⟨x.1, x.2.1⟩ hn⟩
theorem spec_EGot (E : En L h p n me m g) (hg : g.length < 2 ^ 39) :
    ∃ a c h', evC Try.prog 33 #[.pointer (some ⟨p, 0, none⟩)] h = some (.slice a g.length c, h') ∧ HExt h h' ∧ AU h.blks.length h' (.slice a g.length c) g := by
  rw [call33, c33_0_eq]
  obtain ⟨rv, gv, E⟩ := E
  have E0 := E.same (h' := nm h) ⟨Nat.le_refl _, fun _ _ => rfl⟩
  obtain ⟨a, c, h2, e2,Ac, a2⟩ := spec_CloneV (nm h) gv g E0.au.su hg
  simp -implicitDefEqProofs (disch := omega) only [faE3, ldVv, E0.l4, e2, ↓ret33, ↓cnd_true, ↓cnd_false, ↓Option.bind_some, ↓obH_some', bin_add, bin_sub, bin_mul, bin_lss, bin_leq, bin_gtr, bin_geq, bin_eql, bin_neq, un_not, un_neg, Option.bind_some, Option.bind_none, Option.map_some, cnd_true, cnd_false, pickV_true, pickV_false, gd_true, gd_false, gdV_true, gdV_false, gdH_true, gdH_false, gdS_true, gdS_false, wt_ff, wt_tt, wt_ft, wt_tf, wt_undef, obH_some', extractV_tuple, nilCheckV_ptr, againK_normal, againK_exit, againK_ret, blockK_normal, blockK_same, blockK_ret, seqK_normal, seqK_exit, seqK_ret, fin_done, if_true', if_false', Bool.not_true, Bool.not_false, idx0, idx1, idx2, idx3, idx4, chk_nil_l, chk_nil_r, done_nm]
  exact ⟨_, _, _, rfl, done_ext' (Ac.inn (Nat.le_refl _)), a2.done⟩
theorem sent_loop {h0 : Heap} {q p3 : Nat} {n : Int} {v : Value} {m : List (List Nat)} (s0 : SM h0 v m) (sml : Small m) (hq : h0.blks.length ≤ q) (hpq : p3 ≠ q) (hp : h0.blks.length ≤ p3) : ∀ (mm i : Nat) (h : Heap) (w : Value), m.length = i + mm → Cells h q 29 [.int .i64 0, .slice none 0 0] → Cells h p3 29 [.int .i64 n, w] → AM 53 h0.blks.length h w (m.take i) → In h0.blks.length No (nm h0) h →
    ∀ (Aa Ab Ae Af Ag Ah Ai Aj Ak Al An Ao Ap Av Aw Ax Ay Az Ba Bb Bc Bd Be Bf Bg : Value),
    ∃ v' h', loopK Try.prog (evC Try.prog) c35_1 ⟨#[Aa,Ab, .pointer (some ⟨q, 0, none⟩), .pointer (some ⟨p3, 0, none⟩),Ae,Af,Ag,Ah,Ai,Aj,Ak,Al,An,Ao,Ap, v, .int .i64 m.length, .int .i64 i,Av,Aw,Ax,Ay,Az,Ba,Bb,Bc,Bd,Be,Bf,Bg], h⟩ (blockK 0 (seqK Try.prog (evC Try.prog) c35_2 (retK Try.f35 Try.prog h0))) =
      some (matV n v', h') ∧ HExt h0 h' ∧ AM 53 h0.blks.length h' v' m := by
  intro mm
  induction mm with
  | zero =>
    intro i h w hi cq cp hA hin Aa Ab Ae Af Ag Ah Ai Aj Ak Al An Ao Ap Av Aw Ax Ay Az Ba Bb Bc Bd Be Bf Bg
    rw [loopK_eq evC_m, c35_1_eq]
    rw [List.take_of_length_le (by omega)] at hA
    obtain ⟨a, c, rfl⟩ := hA.shape
    have cq2 := cq.put [.int .i64 n, .slice a m.length c]
    simp -implicitDefEqProofs (disch := omega) only [dcT, dcF, ↓c35_2_eq, ldM, cp.loadN (n := 2) rfl, stM, storeN_blk cq (o := 0) (vs := [.int .i64 n, .slice a m.length c]) (by simp), w2_put, ↓ret35, ↓cnd_true, ↓cnd_false, ↓Option.bind_some, ↓obH_some', bin_add, bin_sub, bin_mul, bin_lss, bin_leq, bin_gtr, bin_geq, bin_eql, bin_neq, un_not, un_neg, Option.bind_some, Option.bind_none, Option.map_some, cnd_true, cnd_false, pickV_true, pickV_false, gd_true, gd_false, gdV_true, gdV_false, gdH_true, gdH_false, gdS_true, gdS_false, wt_ff, wt_tt, wt_ft, wt_tf, wt_undef, obH_some', extractV_tuple, nilCheckV_ptr, againK_normal, againK_exit, againK_ret, blockK_normal, blockK_same, blockK_ret, seqK_normal, seqK_exit, seqK_ret, fin_done, if_true', if_false', Bool.not_true, Bool.not_false, idx0, idx1, idx2, idx3, idx4, chk_nil_l, chk_nil_r, done_nm]
    simp -implicitDefEqProofs only [ldM, cq2.loadN (n := 2) rfl, Option.map_some, Option.bind_some, rvals_one, fin_done]
    exact ⟨_, _, rfl, done_ext' (hin.trans (In.put hin.len (.inl hq) _)), (hA.put cq (by decide) (by decide) _).done⟩
  | succ mm ih =>
    intro i h w hi cq cp hA hin Aa Ab Ae Af Ag Ah Ai Aj Ak Al An Ao Ap Av Aw Ax Ay Az Ba Bb Bc Bd Be Bf Bg
    rw [loopK_eq evC_m, c35_1_eq]
    have hlen : h0.blks.length ≤ h.blks.length := hin.len
    have s1 := s0.same hin.same0
    obtain ⟨ad, x, ea, ex, sx⟩ := s1.atV (i := i) (by omega)
    obtain ⟨a, c, h1, e1,Ab, s2⟩ := spec_CloneV (nm h) x _ sx.nm (by have := sml.2 i; omega)
    obtain ⟨Ab', m1⟩ := Ab.amx
    have s2' : AU h.blks.length (Am.am h1 h) (.slice a (m.getD i []).length c) (m.getD i []) := s2.keep fun _ _ _ => rfl
    obtain ⟨a2, c2, h2, e2, s3, k2, o2⟩ := hA.app etM (by decide) hlen Ab'.same s2' (by have := sml.1; simp; omega)
    have cp2 := o2 _ _ _ (cp.ext Ab') (by decide)
    have cq2 := o2 _ _ _ (cq.ext Ab') (by decide)
    have hw : IntKind.wrap .i64 ((i : Int) + 1) = ((i + 1 : Nat) : Int) := by have := sml.1; rw [wrap_i64] <;> omega
    rw [take_succ_getD m [] (by omega)] at e2 s3
    have cp3 := cp2.put [.int .i64 n, .slice a2 (m.take (i + 1)).length c2]
    simp -implicitDefEqProofs (disch := omega) only [dcT, dcF, ea, ex, faM1, ldRs, cp.load, two2, e1, mkR1, e2, stRs, storeN_blk cp2 (o := 1) (vs := [.slice a2 (m.take (i + 1)).length c2]) (by simp), w2_put1, m1, List.append_nil, hw, ↓cnd_true, ↓cnd_false, ↓Option.bind_some, ↓obH_some', bin_add, bin_sub, bin_mul, bin_lss, bin_leq, bin_gtr, bin_geq, bin_eql, bin_neq, un_not, un_neg, Option.bind_some, Option.bind_none, Option.map_some, cnd_true, cnd_false, pickV_true, pickV_false, gd_true, gd_false, gdV_true, gdV_false, gdH_true, gdH_false, gdS_true, gdS_false, wt_ff, wt_tt, wt_ft, wt_tf, wt_undef, obH_some', extractV_tuple, nilCheckV_ptr, againK_normal, againK_exit, againK_ret, blockK_normal, blockK_same, blockK_ret, seqK_normal, seqK_exit, seqK_ret, fin_done, if_true', if_false', Bool.not_true, Bool.not_false, idx0, idx1, idx2, idx3, idx4, chk_nil_l, chk_nil_r, done_nm]
    exact ih (i + 1) _ _ (by omega) (cq2.keepPut hpq _) cp3 (s3.put cp2 (by decide) (by decide) _) (((hin.trans (Ab'.inn hlen)).trans k2.inn).trans (In.put (by have := Ab'.len; have := k2.len; omega) (.inl hp) _)) _ _ _ _ _ _ _ _ _ _ _ _ _ _ _ _ _ _ _ _ _ _ _ _ _
theorem spec_ESent (E : En L h p n me m g) (sml : Small m) :
    ∃ v' h', evC Try.prog 35 #[.pointer (some ⟨p, 0, none⟩)] h = some (matV n v', h') ∧ HExt h h' ∧ AM 53 h.blks.length h' v' m := by
  rw [call35, c35_0_eq]
  obtain ⟨rv, gv, E⟩ := E
  have k1 := alM (nm h)
  have c1 := Cells.new (nm h) 29 [.int .i64 0, .slice none 0 0]
  have i1 : In h.blks.length No (nm h) _ := In.new (by simp) (.cells [.int .i64 0, .slice none 0 0]) 29
  have l1 : ((nm h).new (.cells [.int .i64 0, .slice none 0 0]) 29).blks.length = h.blks.length + 1 := by simp [Heap.new]
  have bl : (nm h).blks.length = h.blks.length := rfl
  rw [bl] at k1 c1
  generalize (nm h).new (.cells [.int .i64 0, .slice none 0 0]) 29 = g1 at *
  have k3 := alM g1
  have st3 : storeV Try.prog 29 (.pointer (some ⟨g1.blks.length, 0, none⟩)) (.agg #[.int .i64 n, .slice none 0 0]) (g1.new (.cells [.int .i64 0, .slice none 0 0]) 29) = _ := mvar (h := g1) n none 0 0
  have c3 := mvar_cells g1 [.int .i64 0, .slice none 0 0] [.int .i64 n, .slice none 0 0] 29
  have s3 := mvar_same g1 (.cells [.int .i64 0, .slice none 0 0]) (.cells [.int .i64 n, .slice none 0 0]) 29
  have i3 := i1.trans (mvar_in (h := g1) i1.len (.cells [.int .i64 0, .slice none 0 0]) (.cells [.int .i64 n, .slice none 0 0]) 29)
  have c13 := c1.same s3
  generalize (g1.new (.cells [.int .i64 0, .slice none 0 0]) 29).put g1.blks.length (.cells [.int .i64 n, .slice none 0 0]) = g3 at *
  have E1 := E.same i1.same0
  have E3 := E.same i3.same0
  have main := sent_loop (h0 := h) (q := h.blks.length) (p3 := g1.blks.length) (n := n) E.am.smV sml (Nat.le_refl _) (by omega) (by omega) m.length 0 g3 _ (by omega) c13 c3 (AM.nil _ _ _) i3
  rw [show ((0 : Nat) : Int) = 0 from rfl] at main
  simp -implicitDefEqProofs (disch := omega) only [k1, faE0, mldInt, E1.l0, bdM1, k3, st3, faE2, faM12, ldRs, E3.l3, E3.am.smV.lenRV, ↓cnd_true, ↓cnd_false, ↓Option.bind_some, ↓obH_some', bin_add, bin_sub, bin_mul, bin_lss, bin_leq, bin_gtr, bin_geq, bin_eql, bin_neq, un_not, un_neg, Option.bind_some, Option.bind_none, Option.map_some, cnd_true, cnd_false, pickV_true, pickV_false, gd_true, gd_false, gdV_true, gdV_false, gdH_true, gdH_false, gdS_true, gdS_false, wt_ff, wt_tt, wt_ft, wt_tf, wt_undef, obH_some', extractV_tuple, nilCheckV_ptr, againK_normal, againK_exit, againK_ret, blockK_normal, blockK_same, blockK_ret, seqK_normal, seqK_exit, seqK_ret, fin_done, if_true', if_false', Bool.not_true, Bool.not_false, idx0, idx1, idx2, idx3, idx4, chk_nil_l, chk_nil_r, done_nm]
  exact main _ _ _ _ _ _ _ _ _ _ _ _ _ _ _ _ _ _ _ _ _ _ _ _ _
end Go.Am
namespace Go.Am
open Go.Proofs
set_option maxRecDepth 100000
set_option linter.all false
attribute [local congr] obind_congr obH_congr cnd_congr chk_congr retK_congr codeK_congr
variable {L : Nat} {h h' : Heap} {p : Nat} {n me : Int} {rv gv : Value} {m : List (List Nat)} {g : List Nat}
theorem etBs : ElemT Try.prog 44 23 1 24 (.slice none 0 0) := ⟨by kernel_rfl, by kernel_rfl, by kernel_rfl, by kernel_rfl, by omega, rfl, rfl⟩
theorem mkBs1 (a : Option Addr) (n c : Nat) (h : Heap) : buildSliceV Try.prog 44 1 #[(0, .slice a n c)] h = some (.slice (some ⟨h.blks.length, 0, none⟩) 1 1, h.new (.cells [.slice a n c]) 23) := by kernel_rfl
structure ABv (n0 : Nat) (h : Heap) (v : Value) (vs : List Value) (l : List (List UInt8)) : Prop where
  out : Acc n0 h 23 1 v l.length vs
  rows : All2 (AB n0 h) vs l
def ABs (n0 : Nat) (h : Heap) (v : Value) (l : List (List UInt8)) : Prop := ∃ vs, ABv n0 h v vs l
theorem ABv.kp {n0 : Nat} {v : Value} {vs : List Value} {l : List (List UInt8)} (a : ABv n0 h v vs l) (k : ∀ b all ty, h.blks[b]? = some ⟨.cells all, ty, true⟩ → ty = 23 ∨ ty = 5 → n0 ≤ b → h'.blks[b]? = h.blks[b]?) : ABv n0 h' v vs l :=
  ⟨a.out.keep fun b _ hv => by obtain ⟨all, h1⟩ := a.out.blk hv; exact k b all _ h1 (.inl rfl) (a.out.ge hv), a.rows.mono fun _ _ x => x.keep fun b _ hv => by obtain ⟨all, h1⟩ := x.blk hv; exact k b all _ h1 (.inr rfl) (x.ge hv)⟩
theorem ABv.same {n0 : Nat} {v : Value} {vs : List Value} {l : List (List UInt8)} (a : ABv n0 h v vs l) (s : Same h h') : ABv n0 h' v vs l := a.kp fun b _ _ hb _ _ => s.2 b (List.getElem?_eq_some_iff.1 hb).1
theorem ABs.same {n0 : Nat} {v : Value} {l : List (List UInt8)} (a : ABs n0 h v l) (s : Same h h') : ABs n0 h' v l := let ⟨_, x⟩ := a; ⟨_, x.same s⟩
theorem ABs.up {n0 n1 : Nat} {v : Value} {l : List (List UInt8)} (a : ABs n0 h v l) (hn : n1 ≤ n0) : ABs n1 h v l := let ⟨_, x⟩ := a; ⟨_, x.out.up hn, x.rows.mono fun _ _ y => y.up hn⟩
theorem ABs.put {n0 : Nat} {v : Value} {l : List (List UInt8)} (a : ABs n0 h v l) {p : Nat} {ty : TypeId} {cs : List Value} (c : Cells h p ty cs) (h1 : ty ≠ 23) (h2 : ty ≠ 5) (body : Body) : ABs n0 (h.put p body) v l :=
  let ⟨vs, x⟩ := a
  ⟨vs, x.kp fun b all t hb ht _ => Heap.put_other (fun e => by
    subst e
    unfold Cells at c
    rw [hb] at c
    simp only [Option.some.injEq, Blk.mk.injEq] at c
    rcases ht with ht | ht
    · exact h1 (c.2.1.symm.trans ht)
    · exact h2 (c.2.1.symm.trans ht)) _⟩
theorem ABs.at {n0 : Nat} {v : Value} {l : List (List UInt8)} (a : ABs n0 h v l) {i : Nat} (hi : i < l.length) :
    ∃ ad x, indexAddrV Try.prog 44 v (.int .i64 i) = some (.pointer (some ad)) ∧ loadV Try.prog 23 (.pointer (some ad)) h = some x ∧ SB h x (l.getD i []) := by
  obtain ⟨vs, x⟩ := a
  obtain ⟨ad, e1, e2, _⟩ := (x.out.sl etBs.size).row.at1 etBs.under etBs.size (by kernel_rfl) hi .i64
  obtain ⟨y, hy, ay⟩ := x.rows.get' (i := i) (b := l[i]) (List.getElem?_eq_getElem hi)
  rw [hy] at e2
  refine ⟨ad, y, e1, e2, ?_⟩
  rw [List.getD_eq_getElem?_getD, List.getElem?_eq_getElem hi]
  exact ay.sl etB.size
theorem ABs.len {n0 : Nat} {v : Value} {l : List (List UInt8)} (a : ABs n0 h v l) : lenV Try.prog 44 v h = some (.int .i64 l.length) := let ⟨_, x⟩ := a; (x.out.sl etBs.size).row.len_eq etBs.under
theorem ABv.app {n0 : Nat} (hn : n0 ≤ h.blks.length) {v : Value} {vs : List Value} {l : List (List UInt8)} (A : ABv n0 h v vs l) {a : Option Addr} {c : Nat} {r : List UInt8} (ax : AB n0 h (.slice a r.length c) r) (hl : l.length < 2 ^ 38) :
    ∃ a' c' h', appendV Try.prog 44 (some 44) v (.slice (some ⟨h.blks.length, 0, none⟩) 1 1) (h.new (.cells [.slice a r.length c]) 23) = some (.slice a' (l ++ [r]).length c', h') ∧ ABs n0 h' (.slice a' (l ++ [r]).length c') (l ++ [r]) ∧ Keeps n0 h h' ∧ (∀ p ty cs, Cells h p ty cs → ty ≠ 23 → Cells h' p ty cs) := by
  have hlen : vs.length = l.length := A.rows.length_eq
  have ac := A.out
  rw [← hlen] at ac
  obtain ⟨a', c', h', e1, a1, k1, o1⟩ := app_out etBs hn ac a r.length c (by omega)
  have el : (vs ++ [Value.slice a r.length c]).length = (l ++ [r]).length := by simp [hlen]
  rw [el] at e1 a1
  have kk : ∀ b, n0 ≤ b → ∀ all, h.blks[b]? = some ⟨.cells all, 5, true⟩ → h'.blks[b]? = h.blks[b]? := fun b _ all hb => (o1 b _ all hb (by decide)).trans hb.symm
  refine ⟨a', c', h', e1, ⟨_, a1, (A.rows.mono fun x y s => ?_).append (.cons ?_ .nil)⟩, k1, o1⟩
  · exact s.keep fun b _ hv => by obtain ⟨all, h1⟩ := s.blk hv; exact kk b (s.ge hv) all h1
  · exact ax.keep fun b _ hv => by obtain ⟨all, h1⟩ := ax.blk hv; exact kk b (ax.ge hv) all h1
def toE (n me : Int) (to : Nat) : Nat := to &&& (allN n.toNat &&& (2 ^ 64 - 1 - 2 ^ me.toNat))
theorem toE_lt (n me : Int) (to : Nat) (h : to < 2 ^ 64) : toE n me to < 2 ^ 64 := andLtU h
theorem goodM_small {n : Int} {m : List (List Nat)} (g : goodM n m = true) : Small m := Small.good g
theorem send_loop {L : Nat} {p : Nat} {n me : Int} {rv gv : Value} {m : List (List Nat)} {g : List Nat} (ok : EnOk n me m g) {h0 : Heap} (hL : L ≤ h0.blks.length) (E0 : EnC L h0 p n me rv gv m g) (t : Nat) (tt : t < 128) {to : Nat} (hto : to < 2 ^ 64) : ∀ (mm i : Nat) (h : Heap) (v : Value), t = i + mm → EnC L h p n me rv gv m g → ABs h0.blks.length h v (List.replicate i (stampM n m)) → In h0.blks.length (Just p) (nm h0) h → 
    ∀ (Ac Ad Ae Ag Ah Ai Aj Ak Al An Ao Ap Aq Ar Au Av Aw Ax Ba Bb Bc Bd Be Bf Bg Bh Bi Bj Bk Bl Bm Bn Bo Bp Bq Br Bs Bt Bu Bv Bw Bx : Value),
    ∃ v' h', loopK Try.prog (evC Try.prog) c28_1 ⟨#[.pointer (some ⟨p, 0, none⟩), .int .u64 to,Ac,Ad,Ae, v,Ag,Ah,Ai,Aj,Ak,Al,An,Ao,Ap,Aq,Ar,Au,Av,Aw,Ax, .int .i64 t, .int .i64 i,Ba,Bb,Bc,Bd,Be,Bf,Bg,Bh,Bi,Bj,Bk,Bl,Bm,Bn,Bo,Bp,Bq,Br,Bs,Bt,Bu,Bv,Bw,Bx], h⟩ (blockK 0 (seqK Try.prog (evC Try.prog) c28_2 (retK Try.f28 Try.prog h0))) =
      some (v', h') ∧ HMod (Just p) h0 h' ∧ En L h' p n me (upM n m me to) g ∧ ABs h0.blks.length h' v' (List.replicate t (stampM n m)) := by
  intro mm
  induction mm with
  | zero =>
    intro i h v hi E A hin Ac Ad Ae Ag Ah Ai Aj Ak Al An Ao Ap Aq Ar Au Av Aw Ax Ba Bb Bc Bd Be Bf Bg Bh Bi Bj Bk Bl Bm Bn Bo Bp Bq Br Bs Bt Bu Bv Bw Bx
    obtain rfl : t = i := by omega
    rw [loopK_eq evC_m, c28_1_eq]
    obtain ⟨uv, h2, e2,Ac, a2⟩ := spec_MUp E.am.smV (goodM_small ok.gd) ok.m64 me to hto (n := n)
    obtain ⟨ua, uc, rfl⟩ := a2.shape
    have E2 := E.ext Ac
    have hl := hin.len
    have hl' : h0.blks.length ≤ h.blks.length := hl
    have st := storeN_blk E2.c (o := 2) (vs := [.int .i64 n, .slice ua (upM n m me to).length uc]) (by simp)
    rw [show List.take 2 [Value.int .i64 n, .int .i64 me, .int .i64 n, rv, gv] ++ [Value.int .i64 n, .slice ua (upM n m me to).length uc] ++ List.drop (2 + [Value.int .i64 n, .slice ua (upM n m me to).length uc].length) [Value.int .i64 n, .int .i64 me, .int .i64 n, rv, gv] = [.int .i64 n, .int .i64 me, .int .i64 n, .slice ua (upM n m me to).length uc, gv] from rfl] at st
    simp -implicitDefEqProofs (disch := omega) only [dcT, dcF, ↓c28_2_eq, faE2, E.ldm, faE1, mldInt, E.l1, e2, stMo, st, ↓ret28, ↓cnd_true, ↓cnd_false, ↓Option.bind_some, ↓obH_some', bin_add, bin_sub, bin_mul, bin_lss, bin_leq, bin_gtr, bin_geq, bin_eql, bin_neq, un_not, un_neg, Option.bind_some, Option.bind_none, Option.map_some, cnd_true, cnd_false, pickV_true, pickV_false, gd_true, gd_false, gdV_true, gdV_false, gdH_true, gdH_false, gdS_true, gdS_false, wt_ff, wt_tt, wt_ft, wt_tf, wt_undef, obH_some', extractV_tuple, nilCheckV_ptr, againK_normal, againK_exit, againK_ret, blockK_normal, blockK_same, blockK_ret, seqK_normal, seqK_exit, seqK_ret, fin_done, if_true', if_false', Bool.not_true, Bool.not_false, idx0, idx1, idx2, idx3, idx4, chk_nil_l, chk_nil_r, done_nm]
    have am3 := (a2.up (n1 := L) (by omega)).put E2.c (by decide) (by decide) (.cells [.int .i64 n, .int .i64 me, .int .i64 n, .slice ua (upM n m me to).length uc, gv])
    have au3 := E2.au.keep (h' := h2.put p (.cells [.int .i64 n, .int .i64 me, .int .i64 n, .slice ua (upM n m me to).length uc, gv])) fun b _ hv => Heap.put_other (fun e => by
      subst e
      obtain ⟨all, h1⟩ := E2.au.blk hv
      have c := E2.c
      unfold Cells at c
      rw [c] at h1
      simp only [Option.some.injEq, Blk.mk.injEq] at h1
      exact absurd h1.2.1 (by decide)) _
    exact ⟨_, _, rfl, done_mod ((hin.trans (Ac.inn hl)).trans (In.put (by have := Ac.len; simp only [nm_blks] at *; omega) (.inr (show Just p p from rfl)) _)),En.done ⟨_, _, ⟨E2.c.put _, am3, au3⟩⟩, ((A.same Ac.same).put E2.c (by decide) (by decide) _).same ⟨Nat.le_refl _, fun _ _ => rfl⟩⟩
  | succ mm ih =>
    intro i h v hi E A hin Ac Ad Ae Ag Ah Ai Aj Ak Al An Ao Ap Aq Ar Au Av Aw Ax Ba Bb Bc Bd Be Bf Bg Bh Bi Bj Bk Bl Bm Bn Bo Bp Bq Br Bs Bt Bu Bv Bw Bx
    rw [loopK_eq evC_m, c28_1_eq]
    have hl := hin.len
    have hl' : h0.blks.length ≤ h.blks.length := hl
    obtain ⟨sa, sc, h2, e2,Ac, a2⟩ := spec_Stamp (n := n) E.am.smV (by have := (goodM_small ok.gd).1; omega) ok.m64
    obtain ⟨vs, A⟩ := A.same Ac.same
    have l2 := Ac.len
    obtain ⟨a3, c3, h3, e3, A3, k3, o3⟩ := A.app (by omega) (a2.up hl') (by simp; omega)
    rw [show List.replicate i (stampM n m) ++ [stampM n m] = List.replicate (i + 1) (stampM n m) from List.replicate_succ'.symm] at e3 A3
    have E3 := (E.ext Ac).kpT (by decide) (by decide) (by decide) o3
    have hw : IntKind.wrap .i64 ((i : Int) + 1) = ((i + 1 : Nat) : Int) := by rw [wrap_i64] <;> omega
    simp -implicitDefEqProofs (disch := omega) only [dcT, dcF, faE2, E.ldm, e2, mkBs1, e3, hw, ↓cnd_true, ↓cnd_false, ↓Option.bind_some, ↓obH_some', bin_add, bin_sub, bin_mul, bin_lss, bin_leq, bin_gtr, bin_geq, bin_eql, bin_neq, un_not, un_neg, Option.bind_some, Option.bind_none, Option.map_some, cnd_true, cnd_false, pickV_true, pickV_false, gd_true, gd_false, gdV_true, gdV_false, gdH_true, gdH_false, gdS_true, gdS_false, wt_ff, wt_tt, wt_ft, wt_tf, wt_undef, obH_some', extractV_tuple, nilCheckV_ptr, againK_normal, againK_exit, againK_ret, blockK_normal, blockK_same, blockK_ret, seqK_normal, seqK_exit, seqK_ret, fin_done, if_true', if_false', Bool.not_true, Bool.not_false, idx0, idx1, idx2, idx3, idx4, chk_nil_l, chk_nil_r, done_nm]
    exact ih (i + 1) h3 _ (by omega) E3 A3 ((hin.trans (Ac.inn hl)).trans (k3.inn)) _ _ _ _ _ _ _ _ _ _ _ _ _ _ _ _ _ _ _ _ _ _ _ _ _ _ _ _ _ _ _ _ _ _ _ _ _ _ _ _ _ _
theorem spec_ESend (E : En L h p n me m g) (hL : L ≤ h.blks.length) (ok : EnOk n me m g) (to : Nat) (hto : to < 2 ^ 64) :
    ∃ v' h', evC Try.prog 28 #[.pointer (some ⟨p, 0, none⟩), .int .u64 to] h = some (v', h') ∧ HMod (Just p) h h' ∧ En L h' p n me (upM n m me (toE n me to)) g ∧ ABs h.blks.length h' v' (List.replicate (pop (toE n me to)) (stampM n m)) := by
  rw [call28, c28_0_eq]
  obtain ⟨rv, gv, E⟩ := E
  have E0 := E.same (h' := nm h) ⟨Nat.le_refl _, fun _ _ => rfl⟩
  have hg := (goodM_iff n m).1 ok.gd
  have h0 := ok.me0
  have h1 := ok.men
  obtain ⟨nn, rfl⟩ : ∃ k : Nat, n = k := ⟨n.toNat, by omega⟩
  obtain ⟨mk, rfl⟩ : ∃ k : Nat, me = k := ⟨me.toNat, by omega⟩
  have e1 := fun h => spec_All nn (by omega) h
  have am1 : am (nm (nm h)) (nm h) = nm h := rfl
  have e3 := mkI1 .i64 mk (nm h)
  have si := litI1 (nm h) mk
  have s3 := Same.new (nm h) (.cells [.int .i64 mk]) 3
  have i3 : In h.blks.length (Just p) (nm h) _ := In.new (by simp) (.cells [.int .i64 mk]) 3
  generalize (nm h).new (.cells [.int .i64 mk]) 3 = g3 at *
  have e4 := spec_Of si (by simp)
  have h2 : 2 ^ mk < 2 ^ 64 := Nat.pow_lt_pow_right (by omega) (by omega)
  rw [show ofL [(mk : Int)] = 2 ^ mk by
    show or1 0 mk = 2 ^ mk
    unfold or1
    rw [if_pos (by omega), Int.toNat_natCast, Nat.zero_or]] at e4
  have ha : allN nn < 2 ^ 64 := by unfold allN; have : 2 ^ nn < 2 ^ 64 := Nat.pow_lt_pow_right (by omega) (by omega); omega
  have e5 := fun t xo yo => andNotN t xo yo (allN nn) (2 ^ mk) ha h2
  have e6 := fun t xo yo => andNu t xo yo to (allN nn &&& (2 ^ 64 - 1 - 2 ^ mk)) hto (andLtU ha)
  rw [show to &&& (allN nn &&& (2 ^ 64 - 1 - 2 ^ mk)) = toE nn mk to by unfold toE; simp] at e6
  have ht := toE_lt nn mk to hto
  have e7 := fun h => spec_Count (toE nn mk to) ht h
  have main := send_loop ok hL E (pop (toE nn mk to)) (pop_lt _) ht _ 0 g3 (.slice none 0 0) (Nat.zero_add _).symm (E0.same s3) ⟨[], .nil, .nil⟩ i3
  rw [show ((0 : Nat) : Int) = 0 from rfl] at main
  simp -implicitDefEqProofs (disch := omega) only [faE0, mldInt, E0.l0, e1, am1, nmm, faE1, E0.l1, e3, e4, e5, e6, e7, List.append_nil, ↓cnd_true, ↓cnd_false, ↓Option.bind_some, ↓obH_some', bin_add, bin_sub, bin_mul, bin_lss, bin_leq, bin_gtr, bin_geq, bin_eql, bin_neq, un_not, un_neg, Option.bind_some, Option.bind_none, Option.map_some, cnd_true, cnd_false, pickV_true, pickV_false, gd_true, gd_false, gdV_true, gdV_false, gdH_true, gdH_false, gdS_true, gdS_false, wt_ff, wt_tt, wt_ft, wt_tf, wt_undef, obH_some', extractV_tuple, nilCheckV_ptr, againK_normal, againK_exit, againK_ret, blockK_normal, blockK_same, blockK_ret, seqK_normal, seqK_exit, seqK_ret, fin_done, if_true', if_false', Bool.not_true, Bool.not_false, idx0, idx1, idx2, idx3, idx4, chk_nil_l, chk_nil_r, done_nm]
  exact main _ _ _ _ _ _ _ _ _ _ _ _ _ _ _ _ _ _ _ _ _ _ _ _ _ _ _ _ _ _ _ _ _ _ _ _ _ _ _ _ _ _
end Go.Am
namespace Go.Am
open Go.Proofs
set_option maxRecDepth 100000
attribute [local congr] obind_congr obH_congr cnd_congr chk_congr retK_congr codeK_congr
theorem longs_loop {h0 h : Heap} {v w : Value} {a b : List Nat} (sv : SU h v a) (sw : SU h w b) (hab : a.length = b.length) (ha : a.length < 2 ^ 39) : ∀ (m i : Nat), a.length = i + m → ∀ (Ac Ad Ae Ag Ah Ai Aj Ak Al An Ao Ap Aq Ar Au Av Aw Ax Ay Az Ba Bb Bc : Value),
    loopK Try.prog (evC Try.prog) c32_1 ⟨#[v, w,Ac,Ad,Ae, .int .i64 i,Ag,Ah,Ai,Aj,Ak,Al,An,Ao,Ap,Aq,Ar,Au,Av,Aw,Ax,Ay,Az,Ba,Bb,Bc], h⟩ (blockK 0 (seqK Try.prog (evC Try.prog) c32_2 (retK Try.f32 Try.prog h0))) =
      some (.bool (decide (a.drop i = b.drop i)), done h0 h) := by
  intro m
  induction m with
  | zero =>
    intro i hm Ac Ad Ae Ag Ah Ai Aj Ak Al An Ao Ap Aq Ar Au Av Aw Ax Ay Az Ba Bb Bc
    rw [loopK_eq evC_m, c32_1_eq, List.drop_of_length_le (by omega), List.drop_of_length_le (by omega)]
    simp -implicitDefEqProofs (disch := omega) only [dcT, dcF, sv.row.len_eq etU.under, ↓c32_2_eq, ↓ret32, eq_self, decide_true, bin_add, bin_sub, bin_mul, bin_lss, bin_leq, bin_gtr, bin_geq, bin_eql, bin_neq, un_not, un_neg, Option.bind_some, Option.bind_none, Option.map_some, cnd_true, cnd_false, pickV_true, pickV_false, gd_true, gd_false, gdV_true, gdV_false, gdH_true, gdH_false, gdS_true, gdS_false, wt_ff, wt_tt, wt_ft, wt_tf, wt_undef, obH_some', extractV_tuple, nilCheckV_ptr, againK_normal, againK_exit, againK_ret, blockK_normal, blockK_same, blockK_ret, seqK_normal, seqK_exit, seqK_ret, fin_done, if_true', if_false', Bool.not_true, Bool.not_false, idx0, idx1, idx2, idx3, idx4, chk_nil_l, chk_nil_r, done_nm]
  | succ m ih =>
    intro i hm Ac Ad Ae Ag Ah Ai Aj Ak Al An Ao Ap Aq Ar Au Av Aw Ax Ay Az Ba Bb Bc
    rw [loopK_eq evC_m, c32_1_eq]
    obtain ⟨p, e1, e2⟩ := su_at sv etU.under (i := i) (by omega)
    obtain ⟨q, e3, e4⟩ := su_at sw etU.under (i := i) (by omega)
    have hw : IntKind.wrap .i64 ((i : Int) + 1) = ((i + 1 : Nat) : Int) := by rw [wrap_i64] <;> omega
    have ea : a.drop i = a.getD i 0 :: a.drop (i + 1) := by
      rw [List.drop_eq_getElem_cons (by omega : i < a.length), List.getD_eq_getElem?_getD, List.getElem?_eq_getElem (by omega)]; rfl
    have eb : b.drop i = b.getD i 0 :: b.drop (i + 1) := by
      rw [List.drop_eq_getElem_cons (by omega : i < b.length), List.getD_eq_getElem?_getD, List.getElem?_eq_getElem (by omega)]; rfl
    rw [ea, eb]
    generalize a.getD i 0 = x at *
    generalize b.getD i 0 = y at *
    by_cases hxy : x = y
    · simp -implicitDefEqProofs (disch := omega) only [dcT, dcF, sv.row.len_eq etU.under, e1, e2, e3, e4, hw, bin_add, bin_sub, bin_mul, bin_lss, bin_leq, bin_gtr, bin_geq, bin_eql, bin_neq, un_not, un_neg, Option.bind_some, Option.bind_none, Option.map_some, cnd_true, cnd_false, pickV_true, pickV_false, gd_true, gd_false, gdV_true, gdV_false, gdH_true, gdH_false, gdS_true, gdS_false, wt_ff, wt_tt, wt_ft, wt_tf, wt_undef, obH_some', extractV_tuple, nilCheckV_ptr, againK_normal, againK_exit, againK_ret, blockK_normal, blockK_same, blockK_ret, seqK_normal, seqK_exit, seqK_ret, fin_done, if_true', if_false', Bool.not_true, Bool.not_false, idx0, idx1, idx2, idx3, idx4, chk_nil_l, chk_nil_r, done_nm]
      rw [ih (i + 1) (by omega) _ _ _ _ _ _ _ _ _ _ _ _ _ _ _ _ _ _ _ _ _ _ _]
      simp [hxy]
    · simp -implicitDefEqProofs (disch := omega) only [dcT, dcF, sv.row.len_eq etU.under, e1, e2, e3, e4, ↓ret32, bin_add, bin_sub, bin_mul, bin_lss, bin_leq, bin_gtr, bin_geq, bin_eql, bin_neq, un_not, un_neg, Option.bind_some, Option.bind_none, Option.map_some, cnd_true, cnd_false, pickV_true, pickV_false, gd_true, gd_false, gdV_true, gdV_false, gdH_true, gdH_false, gdS_true, gdS_false, wt_ff, wt_tt, wt_ft, wt_tf, wt_undef, obH_some', extractV_tuple, nilCheckV_ptr, againK_normal, againK_exit, againK_ret, blockK_normal, blockK_same, blockK_ret, seqK_normal, seqK_exit, seqK_ret, fin_done, if_true', if_false', Bool.not_true, Bool.not_false, idx0, idx1, idx2, idx3, idx4, chk_nil_l, chk_nil_r, done_nm]
      simp [hxy]
theorem spec_longs {h : Heap} {v w : Value} {a b : List Nat} (sv : SU h v a) (sw : SU h w b) (ha : a.length < 2 ^ 39) (hb : b.length < 2 ^ 39) : evC Try.prog 32 #[v, w] h = some (.bool (decide (a = b)), h) := by
  rw [call32, c32_0_eq]
  by_cases hab : a.length = b.length
  · simp -implicitDefEqProofs (disch := omega) only [dcT, dcF, sv.nm.row.len_eq etU.under, sw.nm.row.len_eq etU.under, bin_add, bin_sub, bin_mul, bin_lss, bin_leq, bin_gtr, bin_geq, bin_eql, bin_neq, un_not, un_neg, Option.bind_some, Option.bind_none, Option.map_some, cnd_true, cnd_false, pickV_true, pickV_false, gd_true, gd_false, gdV_true, gdV_false, gdH_true, gdH_false, gdS_true, gdS_false, wt_ff, wt_tt, wt_ft, wt_tf, wt_undef, obH_some', extractV_tuple, nilCheckV_ptr, againK_normal, againK_exit, againK_ret, blockK_normal, blockK_same, blockK_ret, seqK_normal, seqK_exit, seqK_ret, fin_done, if_true', if_false', Bool.not_true, Bool.not_false, idx0, idx1, idx2, idx3, idx4, chk_nil_l, chk_nil_r, done_nm]
    exact longs_loop (h0 := h) sv.nm sw.nm hab ha a.length 0 (by omega) _ _ _ _ _ _ _ _ _ _ _ _ _ _ _ _ _ _ _ _ _ _ _
  · simp -implicitDefEqProofs (disch := omega) only [dcT, dcF, sv.nm.row.len_eq etU.under, sw.nm.row.len_eq etU.under, ↓ret32, bin_add, bin_sub, bin_mul, bin_lss, bin_leq, bin_gtr, bin_geq, bin_eql, bin_neq, un_not, un_neg, Option.bind_some, Option.bind_none, Option.map_some, cnd_true, cnd_false, pickV_true, pickV_false, gd_true, gd_false, gdV_true, gdV_false, gdH_true, gdH_false, gdS_true, gdS_false, wt_ff, wt_tt, wt_ft, wt_tf, wt_undef, obH_some', extractV_tuple, nilCheckV_ptr, againK_normal, againK_exit, againK_ret, blockK_normal, blockK_same, blockK_ret, seqK_normal, seqK_exit, seqK_ret, fin_done, if_true', if_false', Bool.not_true, Bool.not_false, idx0, idx1, idx2, idx3, idx4, chk_nil_l, chk_nil_r, done_nm]
    have : ¬ a = b := fun e => hab (by rw [e])
    simp [this]
end Go.Am
namespace Go.Am
open Go.Proofs
set_option maxRecDepth 100000
set_option linter.all false
attribute [local congr] obind_congr obH_congr cnd_congr chk_congr retK_congr codeK_congr
theorem mat1_loop {h0 : Heap} {p q : Nat} {n : Int} {v : Value} {vs : List Value} {m : List (List Nat)} (s0 : SMv h0 v vs m) (hm : m.length < 2 ^ 37) (hq : h0.blks.length ≤ q) (hpq : p ≠ q) (hp : h0.blks.length ≤ p) : ∀ (mm i : Nat) (h : Heap) (w : Value), m.length = i + mm → Cells h q 29 [.int .i64 0, .slice none 0 0] → Cells h p 29 [.int .i64 n, w] → Acc h0.blks.length h 53 1 w (vs.take i).length (vs.take i) → In h0.blks.length No (nm h0) h →
    ∀ (Aa Ac Ad Ah Ai Aj Ak Al An Ao Ap Aq Ar Au Av Aw Ax Ay Az Ba Bb : Value),
    ∃ v' h', loopK Try.prog (evC Try.prog) c20_1 ⟨#[Aa, v,Ac,Ad, .pointer (some ⟨q, 0, none⟩), .pointer (some ⟨p, 0, none⟩), .int .i64 i,Ah,Ai,Aj,Ak,Al,An,Ao,Ap,Aq,Ar,Au,Av,Aw,Ax,Ay,Az,Ba,Bb], h⟩ (blockK 0 (seqK Try.prog (evC Try.prog) c20_2 (retK Try.f20 Try.prog h0))) =
      some (matV n v', h') ∧ HExt h0 h' ∧ SM h' v' m := by
  have hvl : vs.length = m.length := s0.2.length_eq
  intro mm
  induction mm with
  | zero =>
    intro i h w hi cq cp hA hin Aa Ac Ad Ah Ai Aj Ak Al An Ao Ap Aq Ar Au Av Aw Ax Ay Az Ba Bb
    rw [loopK_eq evC_m, c20_1_eq]
    rw [List.take_of_length_le (by omega)] at hA
    have s1 : SM h v m := SM.same ⟨vs, s0⟩ hin.same0
    obtain ⟨a, c, rfl⟩ := hA.shape
    have cq2 := cq.put [.int .i64 n, .slice a vs.length c]
    simp -implicitDefEqProofs (disch := omega) only [dcT, dcF, s1.lenRW, ↓c20_2_eq, ldM, cp.loadN (n := 2) rfl, stM, storeN_blk cq (o := 0) (vs := [.int .i64 n, .slice a vs.length c]) (by simp), w2_put, ↓ret20, ↓cnd_true, ↓cnd_false, ↓Option.bind_some, ↓obH_some', bin_add, bin_sub, bin_mul, bin_lss, bin_leq, bin_gtr, bin_geq, bin_eql, bin_neq, un_not, un_neg, Option.bind_some, Option.bind_none, Option.map_some, cnd_true, cnd_false, pickV_true, pickV_false, gd_true, gd_false, gdV_true, gdV_false, gdH_true, gdH_false, gdS_true, gdS_false, wt_ff, wt_tt, wt_ft, wt_tf, wt_undef, obH_some', extractV_tuple, nilCheckV_ptr, againK_normal, againK_exit, againK_ret, blockK_normal, blockK_same, blockK_ret, seqK_normal, seqK_exit, seqK_ret, fin_done, if_true', if_false', Bool.not_true, Bool.not_false, idx0, idx1, idx2, idx3, idx4, chk_nil_l, chk_nil_r, done_nm]
    simp -implicitDefEqProofs only [ldM, cq2.loadN (n := 2) rfl, Option.map_some, Option.bind_some, rvals_one, fin_done]
    have hx := done_ext' (hin.trans (In.put hin.len (.inl hq) (.cells [.int .i64 n, .slice a vs.length c])))
    refine ⟨_, _, rfl, hx, vs, ?_, (s0.kp hx.old).2⟩
    rw [← hvl]
    exact ((acc_put hA cq (by decide) _).sl etM.size).done
  | succ mm ih =>
    intro i h w hi cq cp hA hin Aa Ac Ad Ah Ai Aj Ak Al An Ao Ap Aq Ar Au Av Aw Ax Ay Az Ba Bb
    rw [loopK_eq evC_m, c20_1_eq]
    have hlen : h0.blks.length ≤ h.blks.length := hin.len
    have s1 := s0.kp hin.same0.2
    have s1' : SM h v m := ⟨vs, s1⟩
    obtain ⟨ad, x, hx, ea, ex, sx⟩ := s1.at etW.under etW.size (by kernel_rfl) (i := i) (by omega)
    obtain ⟨xa, xl, xc, rfl⟩ := SM.slices s1 hx
    obtain ⟨a2, c2, h2, e2, s3, k2, o2⟩ := app_out etM hlen hA xa xl xc (by simp; omega)
    have cp2 := o2 _ _ _ cp (by decide)
    have cq2 := o2 _ _ _ cq (by decide)
    have hw : IntKind.wrap .i64 ((i : Int) + 1) = ((i + 1 : Nat) : Int) := by rw [wrap_i64] <;> omega
    rw [take_succ_get vs hx] at e2 s3
    have cp3 := cp2.put [.int .i64 n, .slice a2 (vs.take (i + 1)).length c2]
    simp -implicitDefEqProofs (disch := omega) only [dcT, dcF, s1'.lenRW, ea, ex, faM1, ldRs, cp.load, two2, mkR1, e2, stRs, storeN_blk cp2 (o := 1) (vs := [.slice a2 (vs.take (i + 1)).length c2]) (by simp), w2_put1, hw, ↓cnd_true, ↓cnd_false, ↓Option.bind_some, ↓obH_some', bin_add, bin_sub, bin_mul, bin_lss, bin_leq, bin_gtr, bin_geq, bin_eql, bin_neq, un_not, un_neg, Option.bind_some, Option.bind_none, Option.map_some, cnd_true, cnd_false, pickV_true, pickV_false, gd_true, gd_false, gdV_true, gdV_false, gdH_true, gdH_false, gdS_true, gdS_false, wt_ff, wt_tt, wt_ft, wt_tf, wt_undef, obH_some', extractV_tuple, nilCheckV_ptr, againK_normal, againK_exit, againK_ret, blockK_normal, blockK_same, blockK_ret, seqK_normal, seqK_exit, seqK_ret, fin_done, if_true', if_false', Bool.not_true, Bool.not_false, idx0, idx1, idx2, idx3, idx4, chk_nil_l, chk_nil_r, done_nm]
    exact ih (i + 1) _ _ (by omega) (cq2.keepPut hpq _) cp3 (acc_put s3 cp2 (by decide) _) ((hin.trans k2.inn).trans (In.put (by have := k2.len; omega) (.inl hp) _)) _ _ _ _ _ _ _ _ _ _ _ _ _ _ _ _ _ _ _ _ _
theorem spec_mat1 {h : Heap} (n : Int) {v : Value} {m : List (List Nat)} (s : SM h v m) (hm : m.length < 2 ^ 37) : ∃ v' h', evC Try.prog 20 #[.int .i64 n, v] h = some (matV n v', h') ∧ HExt h h' ∧ SM h' v' m := by
  rw [call20, c20_0_eq]
  have k1 := alM (nm h)
  have c1 := Cells.new (nm h) 29 [.int .i64 0, .slice none 0 0]
  have i1 : In h.blks.length No (nm h) _ := In.new (by simp) (.cells [.int .i64 0, .slice none 0 0]) 29
  have l1 : ((nm h).new (.cells [.int .i64 0, .slice none 0 0]) 29).blks.length = h.blks.length + 1 := by simp [Heap.new]
  have bl : (nm h).blks.length = h.blks.length := rfl
  rw [bl] at k1 c1
  generalize (nm h).new (.cells [.int .i64 0, .slice none 0 0]) 29 = g1 at *
  have k2 := alM g1
  have c2 := Cells.new g1 29 [.int .i64 0, .slice none 0 0]
  have i2 : In h.blks.length No g1 _ := In.new (by omega) (.cells [.int .i64 0, .slice none 0 0]) 29
  have c12 := (c1.keepNew (.cells [.int .i64 0, .slice none 0 0]) 29).keepPut (q := g1.blks.length) (by omega) (.cells [.int .i64 n, .slice none 0 0])
  have c22 := c2.put [.int .i64 n, .slice none 0 0]
  have i3 : In h.blks.length No _ _ := In.put (h := g1.new (.cells [.int .i64 0, .slice none 0 0]) 29) (p := g1.blks.length) (S := No) (Nat.le_trans (by omega) i2.len) (.inl (by omega)) (.cells [.int .i64 n, .slice none 0 0])
  have hin := (i1.trans i2).trans i3
  simp -implicitDefEqProofs (disch := omega) only [k1, bdM1, k2, stM, storeN_blk c2 (o := 0) (vs := [.int .i64 n, .slice none 0 0]) (by simp), w2_put, ↓cnd_true, ↓cnd_false, ↓Option.bind_some, ↓obH_some', bin_add, bin_sub, bin_mul, bin_lss, bin_leq, bin_gtr, bin_geq, bin_eql, bin_neq, un_not, un_neg, Option.bind_some, Option.bind_none, Option.map_some, cnd_true, cnd_false, pickV_true, pickV_false, gd_true, gd_false, gdV_true, gdV_false, gdH_true, gdH_false, gdS_true, gdS_false, wt_ff, wt_tt, wt_ft, wt_tf, wt_undef, obH_some', extractV_tuple, nilCheckV_ptr, againK_normal, againK_exit, againK_ret, blockK_normal, blockK_same, blockK_ret, seqK_normal, seqK_exit, seqK_ret, fin_done, if_true', if_false', Bool.not_true, Bool.not_false, idx0, idx1, idx2, idx3, idx4, chk_nil_l, chk_nil_r, done_nm]
  obtain ⟨vs, s0⟩ := s
  exact mat1_loop (h0 := h) s0 hm (by omega) (by omega) (by omega) m.length 0 _ _ (by omega) c12 c22 .nil hin _ _ _ _ _ _ _ _ _ _ _ _ _ _ _ _ _ _ _ _ _
theorem rows_loop {h0 : Heap} {p : Nat} {n : Int} {v : Value} {vs : List Value} {m : List (List Nat)} (s0 : SMv h0 v vs m) (hm : m.length < 2 ^ 37) (hp : h0.blks.length ≤ p) : ∀ (mm i : Nat) (h : Heap) (w : Value), m.length = i + mm → Cells h p 29 [.int .i64 n, v] → Acc h0.blks.length h 52 1 w (vs.take i).length (vs.take i) → In h0.blks.length No (nm h0) h →
    ∀ (Aa Ac Af Ag Ah Ai Aj Ak Al An Ao Ap Aq Ar Au Av Aw Ax : Value),
    ∃ v' h', loopK Try.prog (evC Try.prog) c25_1 ⟨#[Aa, .pointer (some ⟨p, 0, none⟩),Ac, w, .int .i64 i,Af,Ag,Ah,Ai,Aj,Ak,Al,An,Ao,Ap,Aq,Ar,Au,Av,Aw,Ax], h⟩ (blockK 0 (seqK Try.prog (evC Try.prog) c25_2 (retK Try.f25 Try.prog h0))) =
      some (v', h') ∧ HExt h0 h' ∧ SM h' v' m := by
  have hvl : vs.length = m.length := s0.2.length_eq
  intro mm
  induction mm with
  | zero =>
    intro i h w hi cp hA hin Aa Ac Af Ag Ah Ai Aj Ak Al An Ao Ap Aq Ar Au Av Aw Ax
    rw [loopK_eq evC_m, c25_1_eq]
    rw [List.take_of_length_le (by omega)] at hA
    have s1 : SM h v m := SM.same ⟨vs, s0⟩ hin.same0
    simp -implicitDefEqProofs (disch := omega) only [dcT, dcF, faM1, ldRs, cp.load, two2, s1.lenRV, ↓c25_2_eq, ↓ret25, ↓cnd_true, ↓cnd_false, ↓Option.bind_some, ↓obH_some', bin_add, bin_sub, bin_mul, bin_lss, bin_leq, bin_gtr, bin_geq, bin_eql, bin_neq, un_not, un_neg, Option.bind_some, Option.bind_none, Option.map_some, cnd_true, cnd_false, pickV_true, pickV_false, gd_true, gd_false, gdV_true, gdV_false, gdH_true, gdH_false, gdS_true, gdS_false, wt_ff, wt_tt, wt_ft, wt_tf, wt_undef, obH_some', extractV_tuple, nilCheckV_ptr, againK_normal, againK_exit, againK_ret, blockK_normal, blockK_same, blockK_ret, seqK_normal, seqK_exit, seqK_ret, fin_done, if_true', if_false', Bool.not_true, Bool.not_false, idx0, idx1, idx2, idx3, idx4, chk_nil_l, chk_nil_r, done_nm]
    have hx := done_ext' hin
    refine ⟨_, _, rfl, hx, vs, ?_, (s0.kp hx.old).2⟩
    rw [← hvl]
    exact (hA.sl etW.size).done
  | succ mm ih =>
    intro i h w hi cp hA hin Aa Ac Af Ag Ah Ai Aj Ak Al An Ao Ap Aq Ar Au Av Aw Ax
    rw [loopK_eq evC_m, c25_1_eq]
    have hlen : h0.blks.length ≤ h.blks.length := hin.len
    have s1 := s0.kp hin.same0.2
    have s1' : SM h v m := ⟨vs, s1⟩
    obtain ⟨ad, x, hx, ea, ex, sx⟩ := s1.at etM.under etM.size (by kernel_rfl) (i := i) (by omega)
    obtain ⟨xa, xl, xc, rfl⟩ := SM.slices s1 hx
    obtain ⟨a2, c2, h2, e2, s3, k2, o2⟩ := app_out etW hlen hA xa xl xc (by simp; omega)
    have cp2 := o2 _ _ _ cp (by decide)
    have hw : IntKind.wrap .i64 ((i : Int) + 1) = ((i + 1 : Nat) : Int) := by rw [wrap_i64] <;> omega
    rw [take_succ_get vs hx] at e2 s3
    simp -implicitDefEqProofs (disch := omega) only [dcT, dcF, faM1, ldRs, cp.load, two2, s1'.lenRV, ea, ex, mkW1, e2, hw, ↓cnd_true, ↓cnd_false, ↓Option.bind_some, ↓obH_some', bin_add, bin_sub, bin_mul, bin_lss, bin_leq, bin_gtr, bin_geq, bin_eql, bin_neq, un_not, un_neg, Option.bind_some, Option.bind_none, Option.map_some, cnd_true, cnd_false, pickV_true, pickV_false, gd_true, gd_false, gdV_true, gdV_false, gdH_true, gdH_false, gdS_true, gdS_false, wt_ff, wt_tt, wt_ft, wt_tf, wt_undef, obH_some', extractV_tuple, nilCheckV_ptr, againK_normal, againK_exit, againK_ret, blockK_normal, blockK_same, blockK_ret, seqK_normal, seqK_exit, seqK_ret, fin_done, if_true', if_false', Bool.not_true, Bool.not_false, idx0, idx1, idx2, idx3, idx4, chk_nil_l, chk_nil_r, done_nm]
    exact ih (i + 1) _ _ (by omega) cp2 s3 (hin.trans k2.inn) _ _ _ _ _ _ _ _ _ _ _ _ _ _ _ _ _ _
theorem spec_rowsM {h : Heap} {n : Int} {v : Value} {m : List (List Nat)} (s : SM h v m) (hm : m.length < 2 ^ 37) : ∃ v' h', evC Try.prog 25 #[matV n v] h = some (v', h') ∧ HExt h h' ∧ SM h' v' m := by
  rw [call25, c25_0_eq]
  have k0 := bxM (.int .i64 n) v (nm h)
  have c0 := Cells.new (nm h) 29 [.int .i64 n, v]
  have i0 : In h.blks.length No (nm h) _ := In.new (by simp) (.cells [.int .i64 n, v]) 29
  have bl : (nm h).blks.length = h.blks.length := rfl
  rw [bl] at k0 c0
  generalize (nm h).new (.cells [.int .i64 n, v]) 29 = g0 at *
  simp -implicitDefEqProofs (disch := omega) only [matV, k0, ↓cnd_true, ↓cnd_false, ↓Option.bind_some, ↓obH_some', bin_add, bin_sub, bin_mul, bin_lss, bin_leq, bin_gtr, bin_geq, bin_eql, bin_neq, un_not, un_neg, Option.bind_some, Option.bind_none, Option.map_some, cnd_true, cnd_false, pickV_true, pickV_false, gd_true, gd_false, gdV_true, gdV_false, gdH_true, gdH_false, gdS_true, gdS_false, wt_ff, wt_tt, wt_ft, wt_tf, wt_undef, obH_some', extractV_tuple, nilCheckV_ptr, againK_normal, againK_exit, againK_ret, blockK_normal, blockK_same, blockK_ret, seqK_normal, seqK_exit, seqK_ret, fin_done, if_true', if_false', Bool.not_true, Bool.not_false, idx0, idx1, idx2, idx3, idx4, chk_nil_l, chk_nil_r, done_nm]
  obtain ⟨vs, s0⟩ := s
  exact rows_loop (h0 := h) (n := n) s0 hm (by omega) m.length 0 _ _ (by omega) c0 .nil i0 _ _ _ _ _ _ _ _ _ _ _ _ _ _ _ _ _ _
theorem squares_loop {h0 h : Heap} {v w : Value} {a b : List (List Nat)} (s : SM h v a) (t : SM h w b) (sma : Small a) (smb : Small b) (hab : a.length = b.length) : ∀ (mm i : Nat), a.length = i + mm → ∀ (Ac Ad Ae Ag Ah Ai Aj Ak Al An Ao Ap Aq Ar Au Av Aw Ax Ay Az Ba Bb Bc Bd : Value),
    loopK Try.prog (evC Try.prog) c24_1 ⟨#[v, w,Ac,Ad,Ae, .int .i64 i,Ag,Ah,Ai,Aj,Ak,Al,An,Ao,Ap,Aq,Ar,Au,Av,Aw,Ax,Ay,Az,Ba,Bb,Bc,Bd], h⟩ (blockK 0 (seqK Try.prog (evC Try.prog) c24_2 (retK Try.f24 Try.prog h0))) =
      some (.bool (decide (a.drop i = b.drop i)), done h0 h) := by
  intro mm
  induction mm with
  | zero =>
    intro i hi Ac Ad Ae Ag Ah Ai Aj Ak Al An Ao Ap Aq Ar Au Av Aw Ax Ay Az Ba Bb Bc Bd
    rw [loopK_eq evC_m, c24_1_eq, List.drop_of_length_le (by omega), List.drop_of_length_le (by omega), decide_eq_true rfl]
    simp -implicitDefEqProofs (disch := omega) only [dcT, dcF, s.lenRW, ↓c24_2_eq, ↓ret24, ↓cnd_true, ↓cnd_false, ↓Option.bind_some, ↓obH_some', bin_add, bin_sub, bin_mul, bin_lss, bin_leq, bin_gtr, bin_geq, bin_eql, bin_neq, un_not, un_neg, Option.bind_some, Option.bind_none, Option.map_some, cnd_true, cnd_false, pickV_true, pickV_false, gd_true, gd_false, gdV_true, gdV_false, gdH_true, gdH_false, gdS_true, gdS_false, wt_ff, wt_tt, wt_ft, wt_tf, wt_undef, obH_some', extractV_tuple, nilCheckV_ptr, againK_normal, againK_exit, againK_ret, blockK_normal, blockK_same, blockK_ret, seqK_normal, seqK_exit, seqK_ret, fin_done, if_true', if_false', Bool.not_true, Bool.not_false, idx0, idx1, idx2, idx3, idx4, chk_nil_l, chk_nil_r, done_nm]
  | succ mm ih =>
    intro i hi Ac Ad Ae Ag Ah Ai Aj Ak Al An Ao Ap Aq Ar Au Av Aw Ax Ay Az Ba Bb Bc Bd
    rw [loopK_eq evC_m, c24_1_eq, drop_cons a [] (by omega), drop_cons b [] (by omega)]
    obtain ⟨ad, x, ea, ex, sx⟩ := s.atW (i := i) (by omega)
    obtain ⟨bd, y, eb, ey, sy⟩ := t.atW (i := i) (by omega)
    have hw : IntKind.wrap .i64 ((i : Int) + 1) = ((i + 1 : Nat) : Int) := by have := sma.1; rw [wrap_i64] <;> omega
    have el := spec_longs sx sy (by have := sma.2 i; omega) (by have := smb.2 i; omega)
    by_cases g : a.getD i [] = b.getD i []
    · rw [decide_eq_true g] at el
      simp -implicitDefEqProofs (disch := omega) only [dcT, dcF, s.lenRW, ea, ex, eb, ey, el, hw, ↓cnd_true, ↓cnd_false, ↓Option.bind_some, ↓obH_some', bin_add, bin_sub, bin_mul, bin_lss, bin_leq, bin_gtr, bin_geq, bin_eql, bin_neq, un_not, un_neg, Option.bind_some, Option.bind_none, Option.map_some, cnd_true, cnd_false, pickV_true, pickV_false, gd_true, gd_false, gdV_true, gdV_false, gdH_true, gdH_false, gdS_true, gdS_false, wt_ff, wt_tt, wt_ft, wt_tf, wt_undef, obH_some', extractV_tuple, nilCheckV_ptr, againK_normal, againK_exit, againK_ret, blockK_normal, blockK_same, blockK_ret, seqK_normal, seqK_exit, seqK_ret, fin_done, if_true', if_false', Bool.not_true, Bool.not_false, idx0, idx1, idx2, idx3, idx4, chk_nil_l, chk_nil_r, done_nm]
      rw [ih (i + 1) (by omega) _ _ _ _ _ _ _ _ _ _ _ _ _ _ _ _ _ _ _ _ _ _ _ _]
      rw [show decide (a.getD i [] :: a.drop (i + 1) = b.getD i [] :: b.drop (i + 1)) = decide (a.drop (i + 1) = b.drop (i + 1)) from by rw [g]; simp only [List.cons.injEq, true_and]]
    · rw [decide_eq_false g] at el
      rw [decide_eq_false (fun e => g (List.cons.inj e).1)]
      simp -implicitDefEqProofs (disch := omega) only [dcT, dcF, s.lenRW, ea, ex, eb, ey, el, ↓ret24, ↓cnd_true, ↓cnd_false, ↓Option.bind_some, ↓obH_some', bin_add, bin_sub, bin_mul, bin_lss, bin_leq, bin_gtr, bin_geq, bin_eql, bin_neq, un_not, un_neg, Option.bind_some, Option.bind_none, Option.map_some, cnd_true, cnd_false, pickV_true, pickV_false, gd_true, gd_false, gdV_true, gdV_false, gdH_true, gdH_false, gdS_true, gdS_false, wt_ff, wt_tt, wt_ft, wt_tf, wt_undef, obH_some', extractV_tuple, nilCheckV_ptr, againK_normal, againK_exit, againK_ret, blockK_normal, blockK_same, blockK_ret, seqK_normal, seqK_exit, seqK_ret, fin_done, if_true', if_false', Bool.not_true, Bool.not_false, idx0, idx1, idx2, idx3, idx4, chk_nil_l, chk_nil_r, done_nm]
theorem spec_squares {h : Heap} {v w : Value} {a b : List (List Nat)} (s : SM h v a) (t : SM h w b) (sma : Small a) (smb : Small b) : evC Try.prog 24 #[v, w] h = some (.bool (decide (a = b)), h) := by
  rw [call24, c24_0_eq]
  by_cases hab : a.length = b.length
  · have := squares_loop (h0 := h) s.nm t.nm sma smb hab a.length 0 (by omega)
    rw [List.drop_zero, List.drop_zero] at this
    simp -implicitDefEqProofs (disch := omega) only [dcT, dcF, s.nm.lenRW, t.nm.lenRW, ↓cnd_true, ↓cnd_false, ↓Option.bind_some, ↓obH_some', bin_add, bin_sub, bin_mul, bin_lss, bin_leq, bin_gtr, bin_geq, bin_eql, bin_neq, un_not, un_neg, Option.bind_some, Option.bind_none, Option.map_some, cnd_true, cnd_false, pickV_true, pickV_false, gd_true, gd_false, gdV_true, gdV_false, gdH_true, gdH_false, gdS_true, gdS_false, wt_ff, wt_tt, wt_ft, wt_tf, wt_undef, obH_some', extractV_tuple, nilCheckV_ptr, againK_normal, againK_exit, againK_ret, blockK_normal, blockK_same, blockK_ret, seqK_normal, seqK_exit, seqK_ret, fin_done, if_true', if_false', Bool.not_true, Bool.not_false, idx0, idx1, idx2, idx3, idx4, chk_nil_l, chk_nil_r, done_nm]
    exact this _ _ _ _ _ _ _ _ _ _ _ _ _ _ _ _ _ _ _ _ _ _ _ _
  · rw [decide_eq_false (fun e => hab (by rw [e]))]
    simp -implicitDefEqProofs (disch := omega) only [dcT, dcF, s.nm.lenRW, t.nm.lenRW, ↓ret24, ↓cnd_true, ↓cnd_false, ↓Option.bind_some, ↓obH_some', bin_add, bin_sub, bin_mul, bin_lss, bin_leq, bin_gtr, bin_geq, bin_eql, bin_neq, un_not, un_neg, Option.bind_some, Option.bind_none, Option.map_some, cnd_true, cnd_false, pickV_true, pickV_false, gd_true, gd_false, gdV_true, gdV_false, gdH_true, gdH_false, gdS_true, gdS_false, wt_ff, wt_tt, wt_ft, wt_tf, wt_undef, obH_some', extractV_tuple, nilCheckV_ptr, againK_normal, againK_exit, againK_ret, blockK_normal, blockK_same, blockK_ret, seqK_normal, seqK_exit, seqK_ret, fin_done, if_true', if_false', Bool.not_true, Bool.not_false, idx0, idx1, idx2, idx3, idx4, chk_nil_l, chk_nil_r, done_nm]
def heavyB (m : List (List Nat)) : Bool := decide (20 < m.length) || m.any fun r => decide (20 < r.length)
theorem heavy_loop {h0 h : Heap} {v : Value} {a : List (List Nat)} (s : SM h v a) (hl : a.length ≤ 20) : ∀ (mm i : Nat), a.length = i + mm → ∀ (Ab Ac Ae Af Ag Ah Ai Aj Ak Al An Ao Ap Aq Ar Au Av : Value),
    loopK Try.prog (evC Try.prog) c18_1 ⟨#[v,Ab,Ac, .int .i64 i,Ae,Af,Ag,Ah,Ai,Aj,Ak,Al,An,Ao,Ap,Aq,Ar,Au,Av], h⟩ (blockK 0 (seqK Try.prog (evC Try.prog) c18_2 (retK Try.f18 Try.prog h0))) =
      some (.bool ((a.drop i).any fun r => decide (20 < r.length)), done h0 h) := by
  intro mm
  induction mm with
  | zero =>
    intro i hi Ab Ac Ae Af Ag Ah Ai Aj Ak Al An Ao Ap Aq Ar Au Av
    rw [loopK_eq evC_m, c18_1_eq, List.drop_of_length_le (by omega)]
    simp -implicitDefEqProofs (disch := omega) only [dcT, dcF, s.lenRW, ↓c18_2_eq, ↓ret18, ↓cnd_true, ↓cnd_false, ↓Option.bind_some, ↓obH_some', bin_add, bin_sub, bin_mul, bin_lss, bin_leq, bin_gtr, bin_geq, bin_eql, bin_neq, un_not, un_neg, Option.bind_some, Option.bind_none, Option.map_some, cnd_true, cnd_false, pickV_true, pickV_false, gd_true, gd_false, gdV_true, gdV_false, gdH_true, gdH_false, gdS_true, gdS_false, wt_ff, wt_tt, wt_ft, wt_tf, wt_undef, obH_some', extractV_tuple, nilCheckV_ptr, againK_normal, againK_exit, againK_ret, blockK_normal, blockK_same, blockK_ret, seqK_normal, seqK_exit, seqK_ret, fin_done, if_true', if_false', Bool.not_true, Bool.not_false, idx0, idx1, idx2, idx3, idx4, chk_nil_l, chk_nil_r, done_nm]
    rfl
  | succ mm ih =>
    intro i hi Ab Ac Ae Af Ag Ah Ai Aj Ak Al An Ao Ap Aq Ar Au Av
    rw [loopK_eq evC_m, c18_1_eq, drop_cons a [] (by omega), List.any_cons]
    obtain ⟨ad, x, ea, ex, sx⟩ := s.atW (i := i) (by omega)
    have hw : IntKind.wrap .i64 ((i : Int) + 1) = ((i + 1 : Nat) : Int) := by rw [wrap_i64] <;> omega
    by_cases g : 20 < (a.getD i []).length
    · rw [decide_eq_true g, Bool.true_or]
      simp -implicitDefEqProofs (disch := omega) only [dcT, dcF, s.lenRW, ea, ex, sx.row.len_eq etU.under, ↓ret18, ↓cnd_true, ↓cnd_false, ↓Option.bind_some, ↓obH_some', bin_add, bin_sub, bin_mul, bin_lss, bin_leq, bin_gtr, bin_geq, bin_eql, bin_neq, un_not, un_neg, Option.bind_some, Option.bind_none, Option.map_some, cnd_true, cnd_false, pickV_true, pickV_false, gd_true, gd_false, gdV_true, gdV_false, gdH_true, gdH_false, gdS_true, gdS_false, wt_ff, wt_tt, wt_ft, wt_tf, wt_undef, obH_some', extractV_tuple, nilCheckV_ptr, againK_normal, againK_exit, againK_ret, blockK_normal, blockK_same, blockK_ret, seqK_normal, seqK_exit, seqK_ret, fin_done, if_true', if_false', Bool.not_true, Bool.not_false, idx0, idx1, idx2, idx3, idx4, chk_nil_l, chk_nil_r, done_nm]
    · rw [decide_eq_false g, Bool.false_or]
      simp -implicitDefEqProofs (disch := omega) only [dcT, dcF, s.lenRW, ea, ex, sx.row.len_eq etU.under, hw, ↓cnd_true, ↓cnd_false, ↓Option.bind_some, ↓obH_some', bin_add, bin_sub, bin_mul, bin_lss, bin_leq, bin_gtr, bin_geq, bin_eql, bin_neq, un_not, un_neg, Option.bind_some, Option.bind_none, Option.map_some, cnd_true, cnd_false, pickV_true, pickV_false, gd_true, gd_false, gdV_true, gdV_false, gdH_true, gdH_false, gdS_true, gdS_false, wt_ff, wt_tt, wt_ft, wt_tf, wt_undef, obH_some', extractV_tuple, nilCheckV_ptr, againK_normal, againK_exit, againK_ret, blockK_normal, blockK_same, blockK_ret, seqK_normal, seqK_exit, seqK_ret, fin_done, if_true', if_false', Bool.not_true, Bool.not_false, idx0, idx1, idx2, idx3, idx4, chk_nil_l, chk_nil_r, done_nm]
      exact ih (i + 1) (by omega) _ _ _ _ _ _ _ _ _ _ _ _ _ _ _ _ _
theorem spec_heavy {h : Heap} {v : Value} {a : List (List Nat)} (s : SM h v a) : evC Try.prog 18 #[v] h = some (.bool (heavyB a), h) := by
  rw [call18, c18_0_eq]
  unfold heavyB
  by_cases hl : 20 < a.length
  · rw [decide_eq_true hl, Bool.true_or]
    simp -implicitDefEqProofs (disch := omega) only [dcT, dcF, s.nm.lenRW, ↓ret18, ↓cnd_true, ↓cnd_false, ↓Option.bind_some, ↓obH_some', bin_add, bin_sub, bin_mul, bin_lss, bin_leq, bin_gtr, bin_geq, bin_eql, bin_neq, un_not, un_neg, Option.bind_some, Option.bind_none, Option.map_some, cnd_true, cnd_false, pickV_true, pickV_false, gd_true, gd_false, gdV_true, gdV_false, gdH_true, gdH_false, gdS_true, gdS_false, wt_ff, wt_tt, wt_ft, wt_tf, wt_undef, obH_some', extractV_tuple, nilCheckV_ptr, againK_normal, againK_exit, againK_ret, blockK_normal, blockK_same, blockK_ret, seqK_normal, seqK_exit, seqK_ret, fin_done, if_true', if_false', Bool.not_true, Bool.not_false, idx0, idx1, idx2, idx3, idx4, chk_nil_l, chk_nil_r, done_nm]
  · rw [decide_eq_false hl, Bool.false_or]
    have := heavy_loop (h0 := h) s.nm (by omega) a.length 0 (by omega)
    rw [List.drop_zero] at this
    simp -implicitDefEqProofs (disch := omega) only [dcT, dcF, s.nm.lenRW, ↓cnd_true, ↓cnd_false, ↓Option.bind_some, ↓obH_some', bin_add, bin_sub, bin_mul, bin_lss, bin_leq, bin_gtr, bin_geq, bin_eql, bin_neq, un_not, un_neg, Option.bind_some, Option.bind_none, Option.map_some, cnd_true, cnd_false, pickV_true, pickV_false, gd_true, gd_false, gdV_true, gdV_false, gdH_true, gdH_false, gdS_true, gdS_false, wt_ff, wt_tt, wt_ft, wt_tf, wt_undef, obH_some', extractV_tuple, nilCheckV_ptr, againK_normal, againK_exit, againK_ret, blockK_normal, blockK_same, blockK_ret, seqK_normal, seqK_exit, seqK_ret, fin_done, if_true', if_false', Bool.not_true, Bool.not_false, idx0, idx1, idx2, idx3, idx4, chk_nil_l, chk_nil_r, done_nm]
    exact this _ _ _ _ _ _ _ _ _ _ _ _ _ _ _ _ _
theorem heavy_small {m : List (List Nat)} (h : heavyB m = false) : m.length ≤ 20 ∧ ∀ i, (m.getD i []).length ≤ 20 := by
  unfold heavyB at h
  simp only [Bool.or_eq_false_iff, decide_eq_false_iff_not, List.any_eq_false, decide_eq_true_eq] at h
  refine ⟨by omega, fun i => ?_⟩
  rw [List.getD_eq_getElem?_getD]
  rcases Nat.lt_or_ge i m.length with hi | hi
  · rw [List.getElem?_eq_getElem hi]; have := h.2 _ (List.getElem_mem hi); simp only [Option.getD_some]; omega
  · rw [List.getElem?_eq_none hi]; simp
theorem heavy_Small {m : List (List Nat)} (h : heavyB m = false) : Small m := ⟨by have := (heavy_small h).1; omega, fun i => by have := (heavy_small h).2 i; omega⟩
end Go.Am
namespace Go.Am
open Go.Proofs
set_option maxRecDepth 100000
set_option linter.all false
attribute [local congr] obind_congr obH_congr cnd_congr chk_congr retK_congr codeK_congr
theorem ok2 : EnOk 2 0 [[0, 0], [0, 0]] [0, 0] := ⟨by decide, by decide, by decide, by decide, by decide, by decide⟩
theorem ok2' : EnOk 2 0 [[0, 1], [0, 0]] [0, 0] := ⟨by decide, by decide, by decide, by decide, by decide, by decide⟩
theorem stampM_len {n : Int} {m : List (List Nat)} (h : ∀ r ∈ m, ∀ y ∈ r, y < 2 ^ 64) : (stampM n m).length ≤ 2560 := by
  unfold stampM
  split
  · rename_i g
    have := good_total g h m.length
    rwa [List.take_length] at this
  · simp
theorem spec_awake17 (h : Heap) : ∃ h', evC Try.prog 17 #[] h = some (.bool true, h') ∧ HExt h h' := by
  rw [call17, c17_0_eq]
  obtain ⟨p, h1, e1,Ab, r1⟩ := spec_ENew 2 0 (nm h)
  obtain ⟨hp, E1⟩ := r1 (by decide)
  rw [show zerosM (2 : Int).toNat = [[0, 0], [0, 0]] from rfl, show List.replicate (2 : Int).toNat 0 = [0, 0] from rfl] at E1
  simp only [if_pos (show 1 ≤ (2 : Int) ∧ (2 : Int) ≤ 16 ∧ 0 ≤ (0 : Int) ∧ (0 : Int) < 2 by decide)] at e1
  have i1 : In h.blks.length No (nm h) h1 := Ab.inn (Nat.le_refl _)
  have l1 := i1.len
  have hp : h.blks.length ≤ p := hp
  have k2 := mkI1 .i64 1 h1
  have si2 := litI1 h1 1
  have s2 := Same.new h1 (.cells [.int .i64 1]) 3
  have i2 := i1.trans (In.new l1 (.cells [.int .i64 1]) 3)
  generalize h1.new (.cells [.int .i64 1]) 3 = h2 at *
  have e2 := spec_Of si2 (by simp)
  rw [show ofL [1] = 2 by decide] at e2
  obtain ⟨v3, h3, e3,Ad, E3, _⟩ := spec_ESend (E1.same s2) i2.len ok2 2 (by decide)
  rw [show toE 2 0 2 = 2 by decide, show upM 2 [[0, 0], [0, 0]] 0 2 = [[0, 1], [0, 0]] by decide] at E3
  have i3 := i2.trans (Ad.inn i2.len fun b hb e => by have : b = p := e; omega)
  have k4 := mkI1 .i64 1 h3
  have si4 := litI1 h3 1
  have s4 := Same.new h3 (.cells [.int .i64 1]) 3
  have i4 := i3.trans (In.new i3.len (.cells [.int .i64 1]) 3)
  generalize h3.new (.cells [.int .i64 1]) 3 = h4 at *
  have e4 := spec_Of si4 (by simp)
  rw [show ofL [1] = 2 by decide] at e4
  obtain ⟨v5, h5, e5,Af, E5, A5⟩ := spec_ESend (E3.same s4) i4.len ok2' 2 (by decide)
  rw [show toE 2 0 2 = 2 by decide, show pop 2 = 1 by decide] at A5
  rw [show toE 2 0 2 = 2 by decide, show upM 2 [[0, 1], [0, 0]] 0 2 = [[0, 2], [0, 0]] by decide] at E5
  have i5 := i4.trans (Af.inn i4.len fun b hb e => by have : b = p := e; omega)
  have ln := A5.len
  obtain ⟨ad, y, ea, ey, sy⟩ := A5.at (i := 0) (by simp)
  rw [show (List.replicate 1 (stampM 2 [[0, 1], [0, 0]])).getD 0 [] = stampM 2 [[0, 1], [0, 0]] from rfl] at sy
  rw [show ((List.replicate 1 (stampM 2 [[0, 1], [0, 0]])).length : Int) = 1 from by simp] at ln
  obtain ⟨v6, h6, e6,Ag, a6⟩ := spec_Read (n := 2) sy (by have := stampM_len (n := 2) (m := [[0, 1], [0, 0]]) (by decide); omega)
  rw [readM_stamp (by decide) (by decide)] at e6 a6
  rw [show readV 2 (some [[0, 1], [0, 0]]) = 2 from rfl, show (some [[0, 1], [0, 0]] : Option (List (List Nat))).isSome = true from rfl] at e6
  rw [show (some [[0, 1], [0, 0]] : Option (List (List Nat))).getD [] = [[0, 1], [0, 0]] from rfl] at a6
  have i6 := i5.trans (Ag.inn i5.len)
  obtain ⟨wa, wc, rfl⟩ := a6.shape
  have k7 := alM h6
  have k7' := mvar (h := h6) 2 wa ([[0, 1], [0, 0]] : List (List Nat)).length wc
  have c7 := mvar_cells h6 [.int .i64 0, .slice none 0 0] [.int .i64 2, .slice wa ([[0, 1], [0, 0]] : List (List Nat)).length wc] 29
  have s7 := mvar_same h6 (.cells [.int .i64 0, .slice none 0 0]) (.cells [.int .i64 2, .slice wa ([[0, 1], [0, 0]] : List (List Nat)).length wc]) 29
  have i7 := i6.trans (mvar_in (h := h6) i6.len (.cells [.int .i64 0, .slice none 0 0]) (.cells [.int .i64 2, .slice wa ([[0, 1], [0, 0]] : List (List Nat)).length wc]) 29)
  have a7 := a6.same s7
  have E7 := (E5.ext Ag).same s7
  generalize (h6.new (.cells [.int .i64 0, .slice none 0 0]) 29).put h6.blks.length (.cells [.int .i64 2, .slice wa ([[0, 1], [0, 0]] : List (List Nat)).length wc]) = h7 at *
  obtain ⟨h8, e8,Ai⟩ := spec_MAt (n := 2) a7.smV 0 1 (by decide)
  rw [show atM [[0, 1], [0, 0]] 0 1 = 1 by decide] at e8
  obtain ⟨v9, h9, e9,Aj, a9⟩ := spec_ESent (E7.ext Ai) (Small.of (by decide) (by decide))
  obtain ⟨h10, e10,Ak⟩ := spec_MAt (n := 2) a9.smV 0 1 (by decide)
  rw [show atM [[0, 2], [0, 0]] 0 1 = 2 by decide] at e10
  have i10 := ((i7.trans (Ai.inn i7.len)).trans (Aj.inn (i7.trans (Ai.inn i7.len)).len)).trans (Ak.inn ((i7.trans (Ai.inn i7.len)).trans (Aj.inn (i7.trans (Ai.inn i7.len)).len)).len)
  rw [show ((0 : Nat) : Int) = 0 from rfl] at ea
  rw [show ((2 : Nat) : Int) = 2 from rfl] at e2 e3 e4 e5 e10
  rw [show ((1 : Nat) : Int) = 1 from rfl] at e8
  simp -implicitDefEqProofs (disch := omega) only [dcT, dcF, e1, eqE, k2, e2, e3, k4, e4, e5, ln, ea, ey, e6, k7, k7', ldM' c7, e8, e9, e10, ne_eq, eq_self, not_true_eq_false, decide_true, decide_false, ↓ret17, ↓cnd_true, ↓cnd_false, ↓Option.bind_some, ↓obH_some', bin_add, bin_sub, bin_mul, bin_lss, bin_leq, bin_gtr, bin_geq, bin_eql, bin_neq, un_not, un_neg, Option.bind_some, Option.bind_none, Option.map_some, cnd_true, cnd_false, pickV_true, pickV_false, gd_true, gd_false, gdV_true, gdV_false, gdH_true, gdH_false, gdS_true, gdS_false, wt_ff, wt_tt, wt_ft, wt_tf, wt_undef, obH_some', extractV_tuple, nilCheckV_ptr, againK_normal, againK_exit, againK_ret, blockK_normal, blockK_same, blockK_ret, seqK_normal, seqK_exit, seqK_ret, fin_done, if_true', if_false', Bool.not_true, Bool.not_false, idx0, idx1, idx2, idx3, idx4, chk_nil_l, chk_nil_r, done_nm]
  exact ⟨_, rfl, done_ext' i10⟩
end Go.Am
