/- What the functions answer, in the machine. -/
import Derived.Test.YtdkegbcnlgghgaaDoorKB
import Derived.Test.YtdkegbcnlgghgaaDoorChecked
import Derived.RangeFuncStops
import Derived.RangeFuncBox
import Derived.RangeFuncLeaves
import Derived.Sort.MapsRangeIn
import Derived.WalkKit
import Derived.OwnWalkIn
import Derived.TacticsInMore
import Derived.RegionIn
import Derived.LoopNIn
import Derived.LoopIn
import Derived.Shelf.Abstract
import Derived.Maps.AppendAt
import Derived.KernelRfl
set_option linter.all false
namespace Go.Am
open Go.Proofs
set_option maxRecDepth 100000
theorem t_FanKnown : trueIn Tryd.prog 60 5 = true := by kernel_rfl
end Go.Am
set_option linter.unusedVariables false
set_option linter.unusedSimpArgs false
namespace Go.Proofs
open Go.RowKit Go.Maps Go.Shelf
abbrev kU : Int → Value := Value.int .u64
abbrev lU : Int → Lit := Lit.int .u64
def Came {H : Type} (D : DataW H) (left : Lit → Bool) (ss : List Int) : Prop := ss.Nodup ∧ ∀ x, x ∈ ss ↔ has D (lU x) = true ∧ left (lU x) = false
theorem Came.start {H : Type} (D : DataW H) : Came D (has D) [] := ⟨List.nodup_nil, fun x => by
  constructor
  · intro h; cases h
  · rintro ⟨h1, h2⟩; rw [h1] at h2; cases h2⟩
theorem Came.step {H : Type} {D : DataW H} {left : Lit → Bool} {ss : List Int} (c : Came D left ss) {x : Int} {y : DataW H} (hl : left (lU x) = true) (ha : ∀ zd, D.atKey (lU x) zd = y) :
    Came D (fun z => left z && !z.sameKey (lU x)) (ss ++ [x]) := by
  have hx : has D (lU x) = true := by
    cases hh : has D (lU x)
    · have h1 := (atKey_of_not_has hh .nil).symm.trans (ha _)
      have h2 := (atKey_of_not_has hh (.map [])).symm.trans (ha _)
      rw [← h1] at h2; cases h2
    · rfl
  have hn : x ∉ ss := fun h => by have := ((c.2 x).1 h).2; rw [hl] at this; cases this
  refine ⟨List.nodup_append.2 ⟨c.1, by simp, fun a ha b hb e => hn (by rw [List.mem_singleton] at hb; rw [← hb, ← e]; exact ha)⟩, fun z => ?_⟩
  rw [List.mem_append, List.mem_singleton, c.2 z]
  by_cases e : z = x
  · subst e
    have : Lit.sameKey (lU z) (lU z) = true := by simp [Lit.sameKey]
    simp [hx, this]
  · have : Lit.sameKey (lU z) (lU x) = false := sameKey_ne (fun h => e (by injection h))
    simp [e, this]
theorem Came.all {H : Type} {D : DataW H} {left : Lit → Bool} {ss : List Int} (c : Came D left ss) (hl : ∀ kl, left kl = false) : ss.Nodup ∧ ∀ x, x ∈ ss ↔ has D (lU x) = true :=
  ⟨c.1, fun x => by rw [c.2 x, hl]; simp⟩
abbrev fK : Nat := 77
abbrev fK1 : Nat := 90
theorem kU_under : Tryd.prog.underlying 29 = some (.int .u64) := by kernel_rfl
theorem mU_under : Tryd.prog.underlying 128 = some (.map 29 34) := by kernel_rfl
theorem kU_keyed : Keyed Tryd.prog 29 := int_keyed kU_under
set_option maxHeartbeats 1000000 in
theorem keys_in (F : Fence) (n : Nat) (h7 : F.fn fK) (hro : F.round = none) (mb : Option Nat) (w : World) :
    CallsIn F n Tryd.prog fK #[.map mb] w fun e w' => e = .returned (.func (.func fK1) #[] #[.pointer (some ⟨w.heap.size, 0, none⟩)]) ∧ w' = w.alloc (.cells #[.map mb] 128) := by
  refine callsIn_of_wp Tryd.func77 rfl h7 ?_ hro
  simp only [Tryd.ntmps77, List.size_toArray, List.length_cons, List.length_nil, Nat.reduceAdd, Nat.reduceSub, Array.replicate_succ, Array.replicate_zero, List.push_toArray, List.append_toArray, List.nil_append, List.cons_append]
  gi_wp2
  go_ret
  exact ⟨rfl, rfl⟩
set_option maxRecDepth 100000 in
set_option maxHeartbeats 1000000 in
theorem keys1S_in {H : Type} {R : Value → Option (DataW H × List MemPlace)} (F : Fence) (n : Nat) (h10 : F.fn fK1) (hro : F.round = none) (hn : 1 ≤ n) (l Bm b nn : Nat) (D0 : DataW H) (J Jx : List Int → World → Prop)
    (hY : ∀ pre x W, J pre W → pre.length < Maps.size D0 → YieldAt F (n - 1) Tryd.prog l #[kU x] W fun e W' =>
      (e = .returned (.bool true) ∧ J (pre ++ [x]) W' ∧ KeepsWalks W W') ∨ (e = .returned (.bool false) ∧ Jx (pre ++ [x]) W'))
    (W : World) (hJ : AbidesFrom W.heap.size J) (hm : W.cell? ⟨Bm, 0, none⟩ = some (.map (some b))) (hown : W.ownsMap Tryd.prog 29 R b nn D0) (h0 : J [] W) :
    CallsIn F n Tryd.prog fK1 #[.func (.yield l) #[] #[], .pointer (some ⟨Bm, 0, none⟩)] W fun e W' => (∃ v, e = .returned v) ∧
      ((∃ ss : List Int, (ss.Nodup ∧ ∀ x, x ∈ ss ↔ has D0 (lU x) = true) ∧ J ss W') ∨ (∃ pre : List Int, True ∧ Jx pre W')) := by
  refine callsIn_of_wp Tryd.func90 rfl h10 ?_ hro
  simp only [Tryd.ntmps90, List.size_toArray, List.length_cons, List.length_nil, Nat.reduceAdd, Nat.reduceSub, Array.replicate_succ, Array.replicate_zero, List.push_toArray, List.append_toArray, List.nil_append, List.cons_append]
  gi_wp2_with (first
    | (gi_at_range; refine wpListIn_range_own _ rfl _ 128 rfl 29 34 kU_keyed mU_under _ b nn _ rfl hown ?_; intro w0 hrg0 hg0 hs0)
    | gi_in)
  go_frame
  gi_loopw [3] (fun _ wr => ∃ (left : Lit → Bool) (cnt : Nat) (ss : List Int), wr.ranges Tryd.prog 29 R b W.heap.size nn D0 left cnt ∧ ss.length + cnt ≤ Maps.size D0 ∧ Came D0 left ss ∧ J ss wr)
    (fun _ wr => wr.rangeLeft b W.heap.size)
  case atStart =>
    exact ⟨_, _, [], hrg0, by simp, Came.start D0, hJ [] W w0 none h0 hg0 (fun r e => by cases e)⟩
  case round =>
    obtain ⟨left, cnt, ss, hrg, hcs, hC, hJs⟩ := hrel
    gi_wp2_with (first
      | (gi_at_next; refine wpListIn_next_ranges _ rfl _ rfl 29 kU_keyed R kU id (fun key kl hk => by obtain ⟨x, hx, _⟩ := Maps.keyOf_int_inv kU_under hk; exact ⟨x, hx⟩) (fun v _ _ => ⟨v, rfl⟩) b W.heap.size nn _ _ _ rfl hrg ?_ ?_)
      | gi_in)
    · intro hc0 hl0
      gi_wp2
      go_end0
      exact ⟨⟨_, rfl⟩, .inl ⟨ss, hC.all hl0, hJs⟩⟩
    · intro x c kl yd yp w2 cnt2 hkey hlk hv hat hrg2 hlt hg2 hs2 hen
      obtain ⟨x', ex, rfl, _⟩ := Maps.keyOf_int_inv kU_under hkey
      obtain rfl : x = x' := by injection ex
      have hJ2 : J ss w2 := hJ ss wr w2 (some W.heap.size) hJs hg2 (fun r e => by cases e; exact ⟨Nat.le_refl _, hrg.iter_walk⟩)
      obtain ⟨fn, tmps, assign, body, hy, hR⟩ := hY ss x w2 hJ2 (by omega)
      clear hs2
      gi_wp2
      refine hR.mono ?_
      have hC2 := hC.step hlk hat
      rintro e W3 (⟨rfl, hJ3, hk3⟩ | ⟨rfl, hJx3⟩)
      · gi_wp2
        have hrg3 := hrg2.of_walks hk3
        go_roundw
        case rel => exact ⟨_, cnt2, ss ++ [x], hrg3, by simp; omega, hC2, hJ3⟩
        case measure => rw [hrg3.left_eq, hrg.left_eq]; exact hlt
      · gi_wp2
        refine bodyPost_ret (results_none rfl _ _ _) rfl ?_
        exact ⟨⟨_, rfl⟩, .inr ⟨ss ++ [x], trivial, hJx3⟩⟩
theorem keys_stops {H : Type} {R : Value → Option (DataW H × List MemPlace)} (F : Fence) (n : Nat) (h10 : F.fn fK1) (hro : F.round = none) (hn : 1 ≤ n) (Bm b nn : Nat) (D0 : DataW H) (w : World) (hBm : Bm < w.heap.size)
    (hm : w.cell? ⟨Bm, 0, none⟩ = some (.map (some b))) (hown : w.ownsMap Tryd.prog 29 R b nn D0) :
    SeqStopsK F n Tryd.prog fK1 #[.pointer (some ⟨Bm, 0, none⟩)] (fun x : Int => #[kU x]) KeepsWalks (fun ss => ss.Nodup ∧ ∀ x, x ∈ ss ↔ has D0 (lU x) = true) (fun _ => True) (Maps.size D0) w := fun l J Jx W hW hJ _ hY h0 => by
  have hown' : W.ownsMap Tryd.prog 29 R b nn D0 := by
    have hbl := hown.lt
    obtain ⟨es, clock, hb,Ft, hs, hD⟩ := hown
    exact ⟨es, clock, (hW.block b hbl).trans hb,Ft, hs, hD⟩
  exact keys1S_in F n h10 hro hn l Bm b nn D0 J Jx hY W hJ ((hW.cell (p := ⟨Bm, 0, none⟩) hBm).trans hm) hown' h0
end Go.Proofs
set_option linter.unusedVariables false
set_option linter.unusedSimpArgs false
namespace Go.Proofs
open Go.RowKit Go.Maps Go.Shelf
attribute [local go_sem] Oper.semAt_some
abbrev fAS : Nat := 92
abbrev fCo : Nat := 88
theorem info_u64 : (Tryd.prog.info? 29).map (fun i => (i.zero, i.size, i.bytes)) = some (some (.int .u64 0), 1, 8) := by kernel_rfl
theorem sU_under : Tryd.prog.underlying 102 = some (.slice 29) := by kernel_rfl
set_option maxRecDepth 100000 in
set_option maxHeartbeats 2000000 in
theorem appendSeq_in (F : Fence) (n : Nat) (h3 : F.fn fAS) (hro : F.round = none) (hn : 2 ≤ n) (g : Nat) (lb : Array Value) (hFg : F.fn g) (eg : ∀ args w, (callFunc g args).run Tryd.prog w = .ok (.enter g args) w)
    (S : List Int → Prop) (N : Nat) (hN : N ≤ maxLen) (hNb : N * 8 ≤ 140737488355328) (w : World) (hseq : SeqStopsK F (n - 1) Tryd.prog g lb (fun x : Int => #[kU x]) KeepsWalks S (fun _ => True) N w) :
    CallsIn F n Tryd.prog fAS #[.slice none 0 0, .func (.func g) #[] lb] w fun e W' => ∃ (v : Value) (ss : List Int), e = .returned v ∧ S ss ∧ W'.ownsRow w.heap.size 29 1 v ss.length (ss.map kU) ∧ (v = .slice none 0 0 ↔ ss = []) ∧ Below w.heap.size w W' := by
  have h1 : 1 ≤ n := by omega
  obtain ⟨i0, hi, hz0, hz1, hz2⟩ := info_parts info_u64
  refine callsIn_of_wp_marks Tryd.func92 rfl h3 ?_ hro
  simp only [Tryd.ntmps92, List.size_toArray, List.length_cons, List.length_nil, Nat.reduceAdd, Nat.reduceSub, Array.replicate_succ, Array.replicate_zero, List.push_toArray, List.append_toArray, List.nil_append, List.cons_append]
  gi_wp2
  have bO := Boxed.new w 102 (.slice none 0 0)
  have hB0 : Below w.heap.size w (w.alloc (.cells #[.slice none 0 0] 102)) := (Below.refl _ w).alloc (Nat.le_refl _) _
  refine wpIn_rangeFunc_ownG hro h1 (gf := g) (lb := lb) rfl hFg eg hseq walksK_t walksK_b hB0 (fun _ => rfl)
    (fun pre W => (∃ v, Boxed W w.heap.size 102 v ∧ W.ownsRow w.heap.size 29 1 v pre.length (pre.map kU) ∧ (v = .slice none 0 0 ↔ pre = [])) ∧ Below w.heap.size w W)
    (fun _ _ _ => False)
    (OwnFrom.and (Own.from (holdsRow_own w.heap.size w.heap.size 102 29 1 (fun pre => pre.length) (fun pre => pre.map kU) (fun pre v => v = .slice none 0 0 ↔ pre = [])) _) (ownFrom_below (Nat.le_refl _) (by simp)))
    (fun _ _ _ _ _ hs _ _ => hs)
    ⟨⟨_, bO, World.ownsRow_nil _ _ _ _, by simp⟩, hB0⟩
    (fun x => { tmps := #[.slice none 0 0, .func (.func g) #[] lb, .pointer (some ⟨w.heap.size, 0, none⟩), undef, .slice none 0 0, kU x, .func (.func g) #[] lb, kU x, undef, undef, undef, undef, undef], defers := [] }) ?assign ?body ?done ?stop
  case assign =>
    intro l x W K hK
    gi_wp2
    exact hK
  case body =>
    rintro l pre x W ⟨⟨v, hv, hrow, hnil⟩, hB⟩ hlt
    have hc := hv.cell
    gi_wp2_with (gi_at_builtin; refine wpListIn_append_own _ rfl _ _ 102 rfl w.heap.size 29 i0 (.int .u64 0) 1 8 sU_under hi hz0 hz1 hz2 rfl (by decide) _ _ _ rfl (hrow.alloc _) ⟨W.heap.size, 0, none⟩ 1 1 [kU x] rfl rfl (cell_one_new _ _ _) (by simp [Value.oneCell']) (by omega) (by omega) (by have := hB.size; simp; omega) ?_; intro v' w1 hown' hgrow _; obtain ⟨g', cap', rfl⟩ := ownsRow_succ hown'; obtain ⟨hv1, hv2, hr2, hk2, hb2⟩ := hv.appended (by decide) hrow hB.size (Nat.le_refl _) hown' hgrow; have hc1 := hv1.cell; have hf1 := hv1.frozen)
    exact ⟨hk2.from _, KeepsOthers.walks hk2, ⟨_, hv2, by simpa using hr2, by simp⟩, hB.trans hb2⟩
  case done =>
    rintro D ys W hD hS ⟨⟨v, hv, hrow, hnil⟩, hB⟩ hK
    have hc := hv.cell
    gi_wp2
    refine ⟨by simp, .inl ⟨_, _, rfl, run_takeDeferred hK, ?_⟩⟩
    exact ⟨_, results_tmp rfl _ _ _, v, ys, rfl, hS, ownsRow_putObj hrow _ hK rfl, hnil, hB.trans (belowK_b (w := w) (Nat.le_refl _) W D _ _ (by simp at hD; omega) hK rfl rfl)⟩
  case stop =>
    rintro D c pre W _ _ h _
    exact h.elim
end Go.Proofs
set_option linter.unusedVariables false
set_option linter.unusedSimpArgs false
namespace Go.Proofs
open Go.RowKit Go.Maps Go.Shelf
abbrev fSo : Nat := 89
abbrev fSd : Nat := 76
abbrev fHe : Nat := 47
structure But (g : Nat) (w w' : World) : Prop where
  os : w'.os = w.os
  tape : w'.tape = w.tape
  output : w'.output = w.output
  size : w.heap.size ≤ w'.heap.size
  block : ∀ k, k < w.heap.size → k ≠ g → w'.heap[k]? = w.heap[k]?
theorem below_but {B g : Nat} {w w' w2 : World} (h : Below B w w') (k : But g w' w2) (hB : B ≤ g) (hw : B ≤ w.heap.size) : Below B w w2 :=
  ⟨k.os.trans h.os, k.tape.trans h.tape, k.output.trans h.output, Nat.le_trans h.size k.size, fun i hi => (k.block i (by have := h.size; omega) (by omega)).trans (h.block i hi)⟩
def SoAt (W : World) (g cap : Nat) (ns : List Nat) : Prop :=
  ∃ m cur e lo hi, m = ns.mergeSort ∧ W.heap[g]? = some (.cells cur e (lo, hi)) ∧ cur.size = cap ∧ (lo = hi ∨ cap ≤ lo) ∧ ∀ i v, m[i]? = some v → W.cell? ⟨g, i, none⟩ = some (.int .u64 (v : Nat))
structure SortDoes : Prop where
  nil : ∀ W, Calls Tryd.prog fSo #[.slice none 0 0] W fun e W' => e = .returned (.tuple #[]) ∧ Below W.heap.size W W'
  row : ∀ (W : World) g cap cur (ns : List Nat), W.heap[g]? = some (.cells cur 29 (0, 0)) → ns.length ≤ cap → cap ≤ maxLen → cur.size = cap → cur.toList.take ns.length = ns.map (fun n : Nat => kU (Int.ofNat n)) → 1 ≤ ns.length → ns.length ≤ 15 → ns.Nodup →
    Calls Tryd.prog fSo #[.slice (some ⟨g, 0, none⟩) ns.length cap] W fun e W' => e = .returned (.tuple #[]) ∧ SoAt W' g cap ns ∧ But g W W'
set_option maxRecDepth 100000 in
set_option maxHeartbeats 1000000 in
theorem collect_in (F : Fence) (n : Nat) (h8 : F.fn fCo) (h11 : F.fn fAS) (hro : F.round = none) (hn : 3 ≤ n) (g : Nat) (lb : Array Value) (hFg : F.fn g) (eg : ∀ args w, (callFunc g args).run Tryd.prog w = .ok (.enter g args) w)
    (S : List Int → Prop) (N : Nat) (hN : N ≤ maxLen) (hNb : N * 8 ≤ 140737488355328) (w : World) (hseq : SeqStopsK F (n - 1 - 1) Tryd.prog g lb (fun x : Int => #[kU x]) KeepsWalks S (fun _ => True) N w) :
    CallsIn F n Tryd.prog fCo #[.func (.func g) #[] lb] w fun e W' => ∃ (v : Value) (ss : List Int), e = .returned v ∧ S ss ∧ W'.ownsRow w.heap.size 29 1 v ss.length (ss.map kU) ∧ (v = .slice none 0 0 ↔ ss = []) ∧ Below w.heap.size w W' := by
  have h1 : 1 ≤ n := by omega
  refine callsIn_of_wp Tryd.func88 rfl h8 ?_ hro
  simp only [Tryd.ntmps88, List.size_toArray, List.length_cons, List.length_nil, Nat.reduceAdd, Nat.reduceSub, Array.replicate_succ, Array.replicate_zero, List.push_toArray, List.append_toArray, List.nil_append, List.cons_append]
  gi_wp2_with (gi_at_call 92; refine (appendSeq_in F (n - 1) h11 hro (by omega) g lb hFg eg S N hN hNb _ hseq).mono ?_; rintro e w' ⟨v, ss, rfl, hS, hrow, hnil, hb⟩)
  go_ret
  exact ⟨v, ss, rfl, hS, hrow, hnil, hb⟩
def SdFin (w : World) (ns : List Nat) (v : Value) (W' : World) : Prop :=
  ns = [] ∧ v = .slice none 0 0 ∨ 1 ≤ ns.length ∧ ∃ g cap, v = .slice (some ⟨g, 0, none⟩) ns.length cap ∧ w.heap.size ≤ g ∧ g < W'.heap.size ∧ ns.length ≤ cap ∧ SoAt W' g cap ns
def SdPost (w : World) (S : List Int → Prop) (e : Ending) (W' : World) : Prop :=
  ∃ (v : Value) (ns : List Nat), e = .returned v ∧ S (ns.map Int.ofNat) ∧ ns.Nodup ∧ ns.length ≤ 15 ∧ Below w.heap.size w W' ∧
    SdFin w ns v W'
theorem sort_row (hSo : SortDoes) (w w' : World) (v : Value) (ns : List Nat) (hnd : ns.Nodup) (hl : ns.length ≤ 15) (hrow : w'.ownsRow w.heap.size 29 1 v (ns.map Int.ofNat).length ((ns.map Int.ofNat).map kU)) (hnil : v = .slice none 0 0 ↔ ns.map Int.ofNat = []) (hb : Below w.heap.size w w') :
    Calls Tryd.prog fSo #[v] w' fun e W' => e = .returned (.tuple #[]) ∧ Below w.heap.size w W' ∧ SdFin w ns v W' := by
  obtain ⟨h0, h1⟩ := hrow
  rw [List.length_map] at h1
  rcases h1 with ⟨rfl, hz⟩ | ⟨g, cap, cur, rfl, hg, hgb, h2, h3, h4, h5⟩
  · refine (hSo.nil w').mono ?_
    rintro e W' ⟨rfl, hb2⟩
    exact ⟨rfl, hb.trans (hb2.mono hb.size), .inl ⟨List.eq_nil_of_length_eq_zero hz, rfl⟩⟩
  · have hlt : g < w'.heap.size := (Array.getElem?_eq_some_iff.1 hgb).1
    rcases Nat.eq_zero_or_pos ns.length with hz | hp
    · have := hnil.2 (by rw [List.eq_nil_of_length_eq_zero hz]; rfl)
      cases this
    · rw [Nat.mul_one] at h5 h4
      refine (hSo.row w' g cap cur ns hgb h2 h3 h4 (by rw [h5, List.map_map]; rfl) hp hl hnd).mono ?_
      rintro e W' ⟨rfl, hs, hbt⟩
      exact ⟨rfl, below_but hb hbt hg (Nat.le_refl _), .inr ⟨hp, g, cap, rfl, hg, Nat.lt_of_lt_of_le hlt hbt.size, h2, hs⟩⟩
set_option maxRecDepth 100000 in
set_option maxHeartbeats 1000000 in
theorem sorted_in (hSo : SortDoes) (n : Nat) (hn : 4 ≤ n) (g : Nat) (lb : Array Value) (eg : ∀ args w, (callFunc g args).run Tryd.prog w = .ok (.enter g args) w)
    (S : List Int → Prop) (N : Nat) (hN : N ≤ maxLen) (hNb : N * 8 ≤ 140737488355328) (hSN : ∀ ss, S ss → ∃ ns : List Nat, ss = ns.map Int.ofNat ∧ ns.Nodup ∧ ns.length ≤ 15) (w : World)
    (hseq : SeqStopsK Fence.wide (n - 1 - 1 - 1) Tryd.prog g lb (fun x : Int => #[kU x]) KeepsWalks S (fun _ => True) N w) :
    CallsIn Fence.wide n Tryd.prog fSd #[.func (.func g) #[] lb] w (SdPost w S) := by
  have h1 : 1 ≤ n := by omega
  have hfC : Fence.wide.fn fCo := trivial
  have hfS : Fence.wide.fn fSo := trivial
  refine callsIn_of_wp Tryd.func76 rfl trivial ?_ rfl
  simp only [Tryd.ntmps76, List.size_toArray, List.length_cons, List.length_nil, Nat.reduceAdd, Nat.reduceSub, Array.replicate_succ, Array.replicate_zero, List.push_toArray, List.append_toArray, List.nil_append, List.cons_append]
  gi_wp2_with (gi_at_call 88; refine (collect_in Fence.wide (n - 1) trivial trivial rfl (by omega) g lb trivial eg S N hN hNb _ hseq).mono ?_; rintro e w' ⟨v, ss, rfl, hS, hrow, hnil, hb⟩; obtain ⟨ns, rfl, hnd, hnl⟩ := hSN ss hS; have cS := (callsIn_wide (n := n - 1)).2 (sort_row hSo w w' v ns hnd hnl hrow hnil hb); have hz := hnil; go_frame)
  gi_wp2_with (gi_at_call 89; refine cS.mono ?_; rintro e w2 ⟨rfl, hb2, hfin⟩; go_frame)
  go_ret
  exact ⟨v, ns, rfl, hS, hnd, hnl, hb2, hfin⟩
end Go.Proofs
set_option linter.unusedVariables false
set_option linter.unusedSimpArgs false
namespace Go.Proofs
open Go.RowKit Go.Maps Go.Shelf
set_option maxRecDepth 100000 in
set_option maxHeartbeats 1000000 in
theorem held_in {H : Type} {R : Value → Option (DataW H × List MemPlace)} (hSo : SortDoes) (w : World) (pb po b nn : Nat) (D0 : DataW H) (hm : w.cell? ⟨pb, po + 2, none⟩ = some (.map (some b))) (hown : w.ownsMap Tryd.prog 29 R b nn D0)
    (hN : Maps.size D0 ≤ 15) (hSN : ∀ ss : List Int, (ss.Nodup ∧ ∀ x, x ∈ ss ↔ has D0 (lU x) = true) → ∃ ns : List Nat, ss = ns.map Int.ofNat ∧ ns.Nodup ∧ ns.length ≤ 15) :
    Calls Tryd.prog fHe #[.pointer (some ⟨pb, po, none⟩)] w fun e W' => ∃ (v : Value) (ns : List Nat), e = .returned v ∧ (∀ x : Int, x ∈ ns.map Int.ofNat ↔ has D0 (lU x) = true) ∧ ns.Nodup ∧ ns.length ≤ 15 ∧ Below w.heap.size w W' ∧ SdFin w ns v W' := by
  refine (callsIn_wide (n := 6)).1 ?_
  have hbl := hown.lt
  have hml : 15 ≤ maxLen := by unfold maxLen; omega
  have hseq : SeqStopsK Fence.wide 2 Tryd.prog fK1 #[.pointer (some ⟨w.heap.size, 0, none⟩)] (fun x : Int => #[kU x]) KeepsWalks (fun ss => ss.Nodup ∧ ∀ x, x ∈ ss ↔ has D0 (lU x) = true) (fun _ => True) (Maps.size D0) (w.alloc (.cells #[.map (some b)] 128)) :=
    keys_stops Fence.wide 2 trivial rfl (by omega) w.heap.size b nn D0 _ (by simp) (Boxed.new w 128 (.map (some b))).cell (by
      obtain ⟨es, clock, hb,Ft, hs, hD⟩ := hown
      exact ⟨es, clock, (Below.heap_alloc _ _ b hbl).trans hb,Ft, hs, hD⟩)
  have cK : ∀ mb W, CallsIn Fence.wide 5 Tryd.prog 77 #[.map mb] W fun e w' => e = .returned (.func (.func 90) #[] #[.pointer (some ⟨W.heap.size, 0, none⟩)]) ∧ w' = W.alloc (.cells #[.map mb] 128) := fun mb W => keys_in Fence.wide 5 trivial rfl mb W
  have cS := sorted_in hSo 5 (by omega) 90 #[.pointer (some ⟨w.heap.size, 0, none⟩)] (enters_of Tryd.func90 (by kernel_rfl) rfl) _ (Maps.size D0) (by omega) (by omega) hSN _ hseq
  have hfK : Fence.wide.fn fK := trivial
  have hfS : Fence.wide.fn fSd := trivial
  refine callsIn_of_wp Tryd.func47 rfl trivial ?_ rfl
  simp only [Tryd.ntmps47, List.size_toArray, List.length_cons, List.length_nil, Nat.reduceAdd, Nat.reduceSub, Array.replicate_succ, Array.replicate_zero, List.push_toArray, List.append_toArray, List.nil_append, List.cons_append]
  gi_wp2_with (first
    | (gi_at_call 77; refine (cK _ _).mono ?_; rintro e w' ⟨rfl, rfl⟩)
    | (gi_at_call 76; refine cS.mono ?_; rintro e w' ⟨v, ns, rfl, hS, hnd, hl, hb, hfin⟩))
  go_ret
  refine ⟨v, ns, rfl, hS.2, hnd, hl, ((Below.refl _ w).alloc (Nat.le_refl _) _).trans (hb.mono (by simp)), ?_⟩
  rcases hfin with h | ⟨h1, g, cap, h2, h3, h4⟩
  · exact .inl h
  · exact .inr ⟨h1, g, cap, h2, by simp at h3; omega, h4⟩
end Go.Proofs
namespace Go.Am
set_option linter.all false
def gt0 (l : List Nat) (i : Nat) : Nat := l.getD i 0
def swp (l : List Nat) (i j : Nat) : List Nat := (l.set i (gt0 l j)).set j (gt0 l i)
theorem swp_len (l : List Nat) (i j : Nat) : (swp l i j).length = l.length := by unfold swp; rw [List.length_set, List.length_set]
theorem gt0_of {l : List Nat} {i : Nat} (h : i < l.length) : gt0 l i = l[i] := by unfold gt0; rw [List.getD_eq_getElem?_getD, List.getElem?_eq_getElem h]; rfl
theorem gt0_set {l : List Nat} {i v j : Nat} (h : i < l.length) : gt0 (l.set i v) j = if j = i then v else gt0 l j := by
  unfold gt0
  rw [List.getD_eq_getElem?_getD, List.getD_eq_getElem?_getD, List.getElem?_set]
  by_cases e : i = j
  · rw [if_pos e, if_pos (by omega), if_pos e.symm]; rfl
  · rw [if_neg e, if_neg fun x => e x.symm]
theorem gt0_swp {l : List Nat} {i j : Nat} (hi : i < l.length) (hj : j < l.length) (k : Nat) : gt0 (swp l i j) k = if k = j then gt0 l i else if k = i then gt0 l j else gt0 l k := by
  unfold swp
  rw [gt0_set (by rw [List.length_set]; exact hj), gt0_set hi]
theorem swp_perm {l : List Nat} {i j : Nat} (hi : i < l.length) (hj : j < l.length) : (swp l i j).Perm l := by
  have : ((l.set i l[j]).set j l[i]).Perm l := List.set_set_perm hi hj
  unfold swp
  rw [gt0_of hi, gt0_of hj]
  exact this
inductive Sw (a b : Nat) : List Nat → List Nat → Prop
  | refl (l : List Nat) : Sw a b l l
  | step {l m : List Nat} {i j : Nat} : Sw a b l m → a ≤ i → i < b → a ≤ j → j < b → b ≤ l.length → Sw a b l (swp m i j)
theorem Sw.len {a b : Nat} {l m : List Nat} (s : Sw a b l m) : m.length = l.length := by
  induction s with
  | refl => rfl
  | step _ _ _ _ _ _ ih => rw [swp_len, ih]
theorem Sw.perm {a b : Nat} {l m : List Nat} (s : Sw a b l m) : m.Perm l := by
  induction s with
  | refl => exact .refl _
  | step s h1 h2 h3 h4 h5 ih =>
    have := s.len
    exact (swp_perm (by omega) (by omega)).trans ih
theorem Sw.trans {a b : Nat} {l m k : List Nat} (s : Sw a b l m) (t : Sw a b m k) : Sw a b l k := by
  induction t with
  | refl => exact s
  | step _ h1 h2 h3 h4 h5 ih => exact .step ih h1 h2 h3 h4 (by have := s.len; omega)
theorem Sw.one {a b : Nat} {l : List Nat} {i j : Nat} (h1 : a ≤ i) (h2 : i < b) (h3 : a ≤ j) (h4 : j < b) (h5 : b ≤ l.length) : Sw a b l (swp l i j) := .step (.refl l) h1 h2 h3 h4 h5
theorem Sw.out {a b : Nat} {l m : List Nat} (s : Sw a b l m) {k : Nat} (hk : k < a ∨ b ≤ k) : gt0 m k = gt0 l k := by
  induction s with
  | refl => rfl
  | step s h1 h2 h3 h4 h5 ih =>
    have := s.len
    rw [gt0_swp (by omega) (by omega), if_neg (by omega), if_neg (by omega), ih]
theorem Sw.all {a b : Nat} {l m : List Nat} (s : Sw a b l m) {P : Nat → Prop} (h : ∀ k, a ≤ k → k < b → P (gt0 l k)) : ∀ k, a ≤ k → k < b → P (gt0 m k) := by
  induction s with
  | refl => exact h
  | step s h1 h2 h3 h4 h5 ih =>
    intro k k1 k2
    have := s.len
    rw [gt0_swp (by omega) (by omega)]
    split
    · exact ih _ h1 h2
    · split
      · exact ih _ h3 h4
      · exact ih _ k1 k2
theorem Sw.wide {a b c d : Nat} {l m : List Nat} (s : Sw a b l m) (h1 : c ≤ a) (h2 : b ≤ d) (h3 : d ≤ l.length) : Sw c d l m := by
  induction s with
  | refl => exact .refl _
  | step s e1 e2 e3 e4 e5 ih => exact .step ih (by omega) (by omega) (by omega) (by omega) h3
def Srt (a b : Nat) (l : List Nat) : Prop := ∀ i j, a ≤ i → i < j → j < b → gt0 l i ≤ gt0 l j
theorem Srt.nil {a b : Nat} {l : List Nat} (h : b ≤ a + 1) : Srt a b l := fun i j h1 h2 h3 => by omega
theorem Srt.of_adj {a b : Nat} {l : List Nat} (h : ∀ i, a < i → i < b → gt0 l (i - 1) ≤ gt0 l i) : Srt a b l := by
  intro i j h1 h2 h3
  obtain ⟨d, rfl⟩ : ∃ d, j = i + 1 + d := ⟨j - i - 1, by omega⟩
  induction d with
  | zero => exact h (i + 1) (by omega) h3
  | succ d ih =>
    refine Nat.le_trans (ih (by omega) (by omega)) ?_
    have := h (i + 1 + (d + 1)) (by omega) h3
    rwa [show i + 1 + (d + 1) - 1 = i + 1 + d by omega] at this
theorem Srt.sorted {l : List Nat} (s : Srt 0 l.length l) : l.Pairwise (· ≤ ·) := by
  refine List.pairwise_iff_getElem.2 fun i j hi hj h => ?_
  have := s i j (Nat.zero_le _) h hj
  rwa [gt0_of hi, gt0_of hj] at this
theorem nodup_lt {l : List Nat} (n : l.Nodup) {i j : Nat} (hi : i < l.length) (hj : j < l.length) (h : i ≠ j) : gt0 l i ≠ gt0 l j := by
  rw [gt0_of hi, gt0_of hj]
  rcases Nat.lt_or_gt_of_ne h with h | h
  · exact List.pairwise_iff_getElem.1 n i j hi hj h
  · exact fun e => List.pairwise_iff_getElem.1 n j i hj hi h e.symm
def InsQ (a i j : Nat) (m : List Nat) : Prop := ∀ p q, a ≤ p → p < q → q ≤ i → q ≠ j → gt0 m p ≤ gt0 m q
theorem InsQ.start {a i : Nat} {m : List Nat} (s : Srt a i m) : InsQ a i i m := fun p q h1 h2 h3 h4 => s p q h1 h2 (by omega)
theorem InsQ.stop {a i j : Nat} {m : List Nat} (s : InsQ a i j m) (h : j ≤ a ∨ gt0 m (j - 1) ≤ gt0 m j) : Srt a (i + 1) m := by
  intro p q h1 h2 h3
  by_cases e : q = j
  · subst e
    rcases h with h | h
    · omega
    · by_cases e2 : p = q - 1
      · subst e2; exact h
      · exact Nat.le_trans (s p (q - 1) h1 (by omega) (by omega) (by omega)) h
  · exact s p q h1 h2 (by omega) e
theorem InsQ.step {a i j : Nat} {m : List Nat} (s : InsQ a i j m) (ha : a < j) (hj : j ≤ i) (hi : i < m.length) (h : gt0 m j < gt0 m (j - 1)) : InsQ a i (j - 1) (swp m j (j - 1)) := by
  intro p q h1 h2 h3 h4
  rw [gt0_swp (by omega) (by omega), gt0_swp (by omega) (by omega)]
  by_cases e : q = j
  · subst e
    rw [if_neg h4, if_pos rfl]
    by_cases e2 : p = q - 1
    · rw [if_pos e2]; omega
    · rw [if_neg e2, if_neg (by omega)]
      exact s p (q - 1) h1 (by omega) (by omega) (by omega)
  · rw [if_neg h4, if_neg e]
    split
    · exact s j q (by omega) (by omega) h3 e
    · split
      · exact s (j - 1) q (by omega) (by omega) h3 e
      · exact s p q h1 h2 h3 e
def PartOk (a b mid : Nat) (l : List Nat) : Prop := a ≤ mid ∧ mid < b ∧ (∀ k, a ≤ k → k < mid → gt0 l k < gt0 l mid) ∧ ∀ k, mid < k → k < b → gt0 l mid ≤ gt0 l k
theorem PartOk.stop {a b j : Nat} {l : List Nat} (hb : b ≤ l.length) (h1 : a ≤ j) (h2 : j < b) (hl : ∀ k, a < k → k ≤ j → gt0 l k < gt0 l a) (hr : ∀ k, j < k → k < b → gt0 l a ≤ gt0 l k) : PartOk a b j (swp l j a) := by
  have g := fun k => gt0_swp (l := l) (i := j) (j := a) (by omega) (by omega) k
  have ej : gt0 (swp l j a) j = gt0 l a := by
    rw [g]
    by_cases e : j = a
    · rw [if_pos e, e]
    · rw [if_neg e, if_pos rfl]
  refine ⟨h1, h2, fun k k1 k2 => ?_, fun k k1 k2 => ?_⟩
  · rw [ej, g]
    by_cases e : k = a
    · rw [if_pos e]
      exact hl j (by omega) (Nat.le_refl _)
    · rw [if_neg e, if_neg (by omega)]
      exact hl k (by omega) (by omega)
  · rw [ej, g, if_neg (by omega), if_neg (by omega)]
    exact hr k k1 k2
def Ord2 (B a b : Nat) (l : List Nat) : Prop := ∀ i j, i < j → j < B → (i < a ∨ b ≤ j) → gt0 l i ≤ gt0 l j
theorem Ord2.start (B : Nat) (l : List Nat) : Ord2 B 0 B l := fun i j h1 h2 h3 => by omega
theorem Ord2.sw {B a b : Nat} {l m : List Nat} (o : Ord2 B a b l) (s : Sw a b l m) (hb : b ≤ B) : Ord2 B a b m := by
  intro i j h1 h2 h3
  rcases h3 with h3 | h3
  · rw [s.out (.inl h3)]
    by_cases e : a ≤ j ∧ j < b
    · exact s.all (P := fun x => gt0 l i ≤ x) (fun k k1 k2 => o i k (by omega) (by omega) (.inl h3)) j e.1 e.2
    · rw [s.out (by omega)]
      exact o i j h1 h2 (.inl h3)
  · rw [s.out (.inr h3) (k := j)]
    by_cases e : a ≤ i ∧ i < b
    · exact s.all (P := fun x => x ≤ gt0 l j) (fun k k1 k2 => o k j (by omega) h2 (.inr h3)) i e.1 e.2
    · rw [s.out (by omega)]
      exact o i j h1 h2 (.inr h3)
theorem Ord2.left {B a b mid : Nat} {l m : List Nat} (o : Ord2 B a b l) (p : PartOk a b mid l) (s : Sw a mid l m) (r : Srt a mid m) (hb : b ≤ B) (hl : b ≤ l.length) : Ord2 B (mid + 1) b m := by
  obtain ⟨p1, p2, p3, p4⟩ := p
  have o' := o.sw (s.wide (Nat.le_refl _) (by omega) hl) hb
  have e0 : gt0 m mid = gt0 l mid := s.out (.inr (Nat.le_refl _))
  have lt := s.all (P := fun x => x < gt0 l mid) p3
  have ge : ∀ k, mid < k → k < b → gt0 l mid ≤ gt0 m k := fun k k1 k2 => by rw [s.out (.inr (by omega))]; exact p4 k k1 k2
  intro i j h1 h2 h3
  by_cases e : i < a ∨ b ≤ j
  · exact o' i j h1 h2 e
  · rcases Nat.lt_trichotomy i mid with h | h | h
    · have := lt i (by omega) h
      rcases Nat.lt_trichotomy j mid with k | k | k
      · exact r i j (by omega) h1 k
      · rw [k, e0]; omega
      · exact Nat.le_trans (Nat.le_of_lt this) (ge j k (by omega))
    · rw [h, e0]
      exact ge j (by omega) (by omega)
    · omega
theorem Ord2.right {B a b mid : Nat} {l m : List Nat} (o : Ord2 B a b l) (p : PartOk a b mid l) (s : Sw (mid + 1) b l m) (r : Srt (mid + 1) b m) (hb : b ≤ B) (hl : b ≤ l.length) : Ord2 B a mid m := by
  obtain ⟨p1, p2, p3, p4⟩ := p
  have o' := o.sw (s.wide (by omega) (Nat.le_refl _) hl) hb
  have e0 : gt0 m mid = gt0 l mid := s.out (.inl (by omega))
  have ge := s.all (P := fun x => gt0 l mid ≤ x) fun k k1 k2 => p4 k (by omega) k2
  have lt : ∀ k, a ≤ k → k < mid → gt0 m k < gt0 l mid := fun k k1 k2 => by rw [s.out (.inl (by omega))]; exact p3 k k1 k2
  intro i j h1 h2 h3
  by_cases e : i < a ∨ b ≤ j
  · exact o' i j h1 h2 e
  · rcases Nat.lt_trichotomy i mid with h | h | h
    · have := lt i (by omega) h
      rcases Nat.lt_trichotomy j mid with k | k | k
      · omega
      · rw [k, e0]; omega
      · exact Nat.le_trans (Nat.le_of_lt this) (ge j (by omega) (by omega))
    · rw [h, e0]
      exact ge j (by omega) (by omega)
    · exact r i j (by omega) h1 (by omega)
theorem Ord2.done {B a b : Nat} {l m : List Nat} (o : Ord2 B a b l) (s : Sw a b l m) (r : Srt a b m) (hb : b ≤ B) : Srt 0 B m := by
  have o' := o.sw s hb
  intro i j h1 h2 h3
  by_cases e : i < a ∨ b ≤ j
  · exact o' i j h2 h3 e
  · exact r i j (by omega) h2 (by omega)
end Go.Am
namespace Go.Am.Z
open Go.Proofs
set_option maxRecDepth 100000
set_option linter.all false
@[reducible] def xt0 : Xt Tryd.prog := ⟨fun _ => none⟩
@[reducible] def gl0 : Gl Tryd.prog := ⟨none⟩
attribute [local instance] xt0 gl0
theorem xm0 : XtM Tryd.prog := ⟨fun _ _ h => by cases h⟩
theorem xo0 : XtOk Tryd.prog := ⟨fun _ _ h => (by cases h), fun _ _ _ h => (by cases h)⟩
attribute [local instance] xm0 xo0
section
variable {β : Type}
noncomputable abbrev ev : Ev := evC Tryd.prog
noncomputable abbrev cK (c : Code) (n : Nat) (x : Nat → Value) (h : Heap) (k : Ex → St → Option β) : Option β := codeK Tryd.prog (evC Tryd.prog) loopL c ⟨ar n x, h⟩ k
noncomputable abbrev lK (c : Code) (n : Nat) (x : Nat → Value) (h : Heap) (k : Ex → St → Option β) : Option β := loopK Tryd.prog (evC Tryd.prog) c ⟨ar n x, h⟩ k
noncomputable abbrev sK (c : Code) (k : Ex → St → Option β) : Ex → St → Option β := seqK Tryd.prog (evC Tryd.prog) c k
theorem lK_eq (c : Code) (n : Nat) (x : Nat → Value) (h : Heap) (k : Ex → St → Option β) : lK c n x h k = cK c n x h (againK Tryd.prog (evC Tryd.prog) c k) := loopK_eq evC_m _ _ _
variable (x : Nat → Value) (h : Heap) (k : Ex → St → Option β) (r m : List Nat) (g : Heap)
noncomputable def c111_0 : Code := bodyC Tryd.f111 []
theorem c111_0_eq : cK c111_0 6 x h k =
(bn .neq 29 (x 0) (x 0)).bind fun v0 =>
k .ret ⟨ar 6 (up x [(2,v0),(3,(x 0)),(4,(x 0)),(5,v0)]), h⟩ := by kernel_rfl
theorem call111 (a0 : Value) : evC Tryd.prog 111 #[a0] h = cK c111_0 6 (up un [(0,a0)]) (nm h) (retK Tryd.f111 Tryd.prog h) :=
  (evC_call 111 Tryd.f111 c111_0 Tryd.func111 (by kernel_rfl) #[a0] h).trans (by kernel_rfl)
theorem ret111 : retK Tryd.f111 Tryd.prog g .ret ⟨ar 6 x, h⟩ = fin g (some (x 2)) h := by kernel_rfl
noncomputable def c101_0 : Code := bodyC Tryd.f101 []
theorem c101_0_eq : cK c101_0 17 x h k =
obH (ev 111 #[x 0] h) fun v0 h1 =>
obH (gdH (wt v0 true) h1 (ev 111 #[(gdV (wt v0 true) (x 1))] h1)) fun v2 h3 =>
(gd (wt v0 true) (unV Tryd.prog .not v2)).bind fun v4 =>
(pickV v0 v4 (.bool false)).bind fun v5 =>
(gd (wt v5 false) (bn .lss 29 (gdV (wt v5 false) (x 0)) (gdV (wt v5 false) (x 1)))).bind fun v6 =>
(pickV v5 (.bool true) v6).bind fun v7 =>
k .ret ⟨ar 17 (up x [(4,v7),(5,(x 0)),(6,v0),(7,v0),(8,(gdV (wt v0 true) (x 1))),(9,v2),(10,v4),(11,v5),(12,v5),(13,(gdV (wt v5 false) (x 0))),(14,(gdV (wt v5 false) (x 1))),(15,v6),(16,v7)]), h3⟩ := by kernel_rfl
theorem call101 (a0 a1 : Value) : evC Tryd.prog 101 #[a0,a1] h = cK c101_0 17 (up un [(0,a0),(1,a1)]) (nm h) (retK Tryd.f101 Tryd.prog h) :=
  (evC_call 101 Tryd.f101 c101_0 Tryd.func101 (by kernel_rfl) #[a0,a1] h).trans (by kernel_rfl)
theorem ret101 : retK Tryd.f101 Tryd.prog g .ret ⟨ar 17 x, h⟩ = fin g (some (x 4)) h := by kernel_rfl
noncomputable def c95_0 : Code := bodyC Tryd.f95 []
noncomputable def c95_1 : Code := bodyC Tryd.f95 [true, false, false]
noncomputable def c95_2 : Code := bodyC Tryd.f95 [true, false, false, true, false, false, true, false, false]
noncomputable def c95_3 : Code := bodyC Tryd.f95 [true, false, false, true, true]
theorem c95_0_eq : cK c95_0 49 x h k =
(bn .add 3 (x 1) (.int .i64 1)).bind fun v0 =>
lK c95_1 49 (up x [(6,v0),(8,(x 1)),(9,v0)]) h (blockK 0 k) := by kernel_rfl
theorem c95_1_eq : cK c95_1 49 x h k =
(bn .lss 3 (x 6) (x 2)).bind fun v1 =>
cnd v1 (
lK c95_2 49 (up x [(7,(x 6)),(10,(x 6)),(11,(x 2)),(12,v1),(15,(x 6))]) h (blockK 2 (blockK 1 (sK c95_3 k)))) (
k (.exit 0) ⟨ar 49 (up x [(10,(x 6)),(11,(x 2)),(12,v1)]), h⟩) := by kernel_rfl
theorem c95_2_eq : cK c95_2 49 x h k =
(bn .gtr 3 (x 7) (x 1)).bind fun v2 =>
(gd (wt v2 true) (ia 102 (gdV (wt v2 true) (x 0)) (gdV (wt v2 true) (x 7)))).bind fun v3 =>
(gd (wt v2 true) (ld 29 v3 h)).bind fun v4 =>
(gd (wt v2 true) (bn .sub 3 (gdV (wt v2 true) (x 7)) (.int .i64 1))).bind fun v5 =>
(gd (wt v2 true) (ia 102 (gdV (wt v2 true) (x 0)) v5)).bind fun v6 =>
(gd (wt v2 true) (ld 29 v6 h)).bind fun v7 =>
obH (gdH (wt v2 true) h (ev 101 #[v4,v7] h)) fun v8 h9 =>
(pickV v2 v8 (.bool false)).bind fun v10 =>
cnd v10 (
(bn .sub 3 (x 7) (.int .i64 1)).bind fun v11 =>
(bn .sub 3 (x 7) (.int .i64 1)).bind fun v12 =>
(ia 102 (x 0) v12).bind fun v13 =>
(ld 29 v13 h9).bind fun v14 =>
(ia 102 (x 0) (x 7)).bind fun v15 =>
(ld 29 v15 h9).bind fun v16 =>
(ia 102 (x 0) (x 7)).bind fun v17 =>
(sto 29 v17 v14 h9).bind fun h18 =>
(ia 102 (x 0) v11).bind fun v19 =>
(sto 29 v19 v16 h18).bind fun h20 =>
(bn .sub 3 (x 7) (.int .i64 1)).bind fun v21 =>
k .normal ⟨ar 49 (up x [(7,v21),(16,(x 7)),(17,(x 1)),(18,v2),(19,v2),(20,(gdV (wt v2 true) (x 0))),(21,(gdV (wt v2 true) (x 7))),(22,v3),(23,v4),(24,(gdV (wt v2 true) (x 0))),(25,(gdV (wt v2 true) (x 7))),(26,v5),(27,v6),(28,v7),(29,v8),(30,v10),(31,(x 7)),(32,v21),(33,(x 0)),(34,(x 7)),(35,(x 0)),(36,(x 7)),(37,v11),(38,(x 0)),(39,(x 7)),(40,v12),(41,v13),(42,v14),(43,(x 0)),(44,(x 7)),(45,v15),(46,v16),(47,v17),(48,v19)]), h20⟩) (
k (.exit 2) ⟨ar 49 (up x [(16,(x 7)),(17,(x 1)),(18,v2),(19,v2),(20,(gdV (wt v2 true) (x 0))),(21,(gdV (wt v2 true) (x 7))),(22,v3),(23,v4),(24,(gdV (wt v2 true) (x 0))),(25,(gdV (wt v2 true) (x 7))),(26,v5),(27,v6),(28,v7),(29,v8),(30,v10)]), h9⟩) := by kernel_rfl
theorem c95_3_eq : cK c95_3 49 x h k =
(bn .add 3 (x 6) (.int .i64 1)).bind fun v22 =>
k .normal ⟨ar 49 (up x [(6,v22),(13,(x 6)),(14,v22)]), h⟩ := by kernel_rfl
theorem call95 (a0 a1 a2 : Value) : evC Tryd.prog 95 #[a0,a1,a2] h = cK c95_0 49 (up un [(0,a0),(1,a1),(2,a2)]) (nm h) (retK Tryd.f95 Tryd.prog h) :=
  (evC_call 95 Tryd.f95 c95_0 Tryd.func95 (by kernel_rfl) #[a0,a1,a2] h).trans (by kernel_rfl)
theorem ret95 : retK Tryd.f95 Tryd.prog g .ret ⟨ar 49 x, h⟩ = fin g (some (.tuple #[])) h := by kernel_rfl
noncomputable def c100_0 : Code := bodyC Tryd.f100 []
noncomputable def c100_1 : Code := bodyC Tryd.f100 [true, true, false, true, false, false]
noncomputable def c100_2 : Code := bodyC Tryd.f100 [true, true, true]
noncomputable def c100_3 : Code := bodyC Tryd.f100 [true, true, false, true, false, false, true, false, false, false, false, false]
noncomputable def c100_4 : Code := bodyC Tryd.f100 [true, true, false, true, false, false, true, false, false, true]
noncomputable def c100_5 : Code := bodyC Tryd.f100 [true, true, false, true, false, false, true, true]
noncomputable def c100_6 : Code := bodyC Tryd.f100 [true, true, false, true, false, false, true, false, false, true, true, true, true, false, true, false, true, false, false]
noncomputable def c100_7 : Code := bodyC Tryd.f100 [true, true, false, true, false, false, true, false, false, true, true, true, true, true]
noncomputable def c100_8 : Code := bodyC Tryd.f100 [true, true, false, true, false, false, true, false, false, true, true, true, true, true, true, false, true, false, false]
theorem c100_0_eq : cK c100_0 133 x h k =
(bn .add 3 (x 1) (.int .i64 1)).bind fun v0 =>
lK c100_1 133 (up x [(6,(.bool false)),(7,v0),(8,(.int .i64 0)),(11,(x 1)),(12,v0)]) h (blockK 0 (sK c100_2 k)) := by kernel_rfl
theorem c100_1_eq : cK c100_1 133 x h k =
(bn .lss 3 (x 8) (.int .i64 5)).bind fun v1 =>
cnd v1 (
lK c100_3 133 (up x [(13,(x 8)),(14,v1)]) h (blockK 2 (sK c100_4 (blockK 1 (sK c100_5 k))))) (
k (.exit 0) ⟨ar 133 (up x [(13,(x 8)),(14,v1)]), h⟩) := by kernel_rfl
theorem c100_3_eq : cK c100_3 133 x h k =
(bn .lss 3 (x 7) (x 2)).bind fun v2 =>
(gd (wt v2 true) (ia 102 (gdV (wt v2 true) (x 0)) (gdV (wt v2 true) (x 7)))).bind fun v3 =>
(gd (wt v2 true) (ld 29 v3 h)).bind fun v4 =>
(gd (wt v2 true) (bn .sub 3 (gdV (wt v2 true) (x 7)) (.int .i64 1))).bind fun v5 =>
(gd (wt v2 true) (ia 102 (gdV (wt v2 true) (x 0)) v5)).bind fun v6 =>
(gd (wt v2 true) (ld 29 v6 h)).bind fun v7 =>
obH (gdH (wt v2 true) h (ev 101 #[v4,v7] h)) fun v8 h9 =>
(gd (wt v2 true) (unV Tryd.prog .not v8)).bind fun v10 =>
(pickV v2 v10 (.bool false)).bind fun v11 =>
cnd v11 (
(bn .add 3 (x 7) (.int .i64 1)).bind fun v12 =>
k .normal ⟨ar 133 (up x [(7,v12),(17,(x 7)),(18,(x 2)),(19,v2),(20,v2),(21,(gdV (wt v2 true) (x 0))),(22,(gdV (wt v2 true) (x 7))),(23,v3),(24,v4),(25,(gdV (wt v2 true) (x 0))),(26,(gdV (wt v2 true) (x 7))),(27,v5),(28,v6),(29,v7),(30,v8),(31,v10),(32,v11),(33,(x 7)),(34,v12)]), h9⟩) (
k (.exit 2) ⟨ar 133 (up x [(17,(x 7)),(18,(x 2)),(19,v2),(20,v2),(21,(gdV (wt v2 true) (x 0))),(22,(gdV (wt v2 true) (x 7))),(23,v3),(24,v4),(25,(gdV (wt v2 true) (x 0))),(26,(gdV (wt v2 true) (x 7))),(27,v5),(28,v6),(29,v7),(30,v8),(31,v10),(32,v11)]), h9⟩) := by kernel_rfl
theorem c100_4_eq : cK c100_4 133 x h k =
(bn .eql 3 (x 7) (x 2)).bind fun v13 =>
cnd v13 (
k .ret ⟨ar 133 (up x [(6,(.bool true)),(35,(x 7)),(36,(x 2)),(37,v13)]), h⟩) (
(bn .sub 3 (x 2) (x 1)).bind fun v14 =>
(bn .lss 3 v14 (.int .i64 50)).bind fun v15 =>
cnd v15 (
k .ret ⟨ar 133 (up x [(6,(.bool false)),(35,(x 7)),(36,(x 2)),(37,v13),(38,(x 2)),(39,(x 1)),(40,v14),(41,v15)]), h⟩) (
(bn .sub 3 (x 7) (.int .i64 1)).bind fun v16 =>
(bn .sub 3 (x 7) (.int .i64 1)).bind fun v17 =>
(ia 102 (x 0) v17).bind fun v18 =>
(ld 29 v18 h).bind fun v19 =>
(ia 102 (x 0) (x 7)).bind fun v20 =>
(ld 29 v20 h).bind fun v21 =>
(ia 102 (x 0) (x 7)).bind fun v22 =>
(sto 29 v22 v19 h).bind fun h23 =>
(ia 102 (x 0) v16).bind fun v24 =>
(sto 29 v24 v21 h23).bind fun h25 =>
(bn .sub 3 (x 7) (x 1)).bind fun v26 =>
(bn .geq 3 v26 (.int .i64 2)).bind fun v27 =>
cnd v27 (
(bn .sub 3 (x 7) (.int .i64 1)).bind fun v28 =>
lK c100_6 133 (up x [(9,v28),(35,(x 7)),(36,(x 2)),(37,v13),(38,(x 2)),(39,(x 1)),(40,v14),(41,v15),(42,(x 0)),(43,(x 7)),(44,(x 0)),(45,(x 7)),(46,v16),(47,(x 0)),(48,(x 7)),(49,v17),(50,v18),(51,v19),(52,(x 0)),(53,(x 7)),(54,v20),(55,v21),(56,v22),(57,v24),(58,(x 7)),(59,(x 1)),(60,v26),(61,v27),(62,(x 7)),(63,v28)]) h25 (blockK 4 (sK c100_7 k))) (
(bn .sub 3 (x 2) (x 7)).bind fun v29 =>
(bn .geq 3 v29 (.int .i64 2)).bind fun v30 =>
cnd v30 (
(bn .add 3 (x 7) (.int .i64 1)).bind fun v31 =>
lK c100_8 133 (up x [(10,v31),(35,(x 7)),(36,(x 2)),(37,v13),(38,(x 2)),(39,(x 1)),(40,v14),(41,v15),(42,(x 0)),(43,(x 7)),(44,(x 0)),(45,(x 7)),(46,v16),(47,(x 0)),(48,(x 7)),(49,v17),(50,v18),(51,v19),(52,(x 0)),(53,(x 7)),(54,v20),(55,v21),(56,v22),(57,v24),(58,(x 7)),(59,(x 1)),(60,v26),(61,v27),(95,(x 2)),(96,(x 7)),(97,v29),(98,v30),(99,(x 7)),(100,v31)]) h25 (blockK 6 k)) (
k .normal ⟨ar 133 (up x [(35,(x 7)),(36,(x 2)),(37,v13),(38,(x 2)),(39,(x 1)),(40,v14),(41,v15),(42,(x 0)),(43,(x 7)),(44,(x 0)),(45,(x 7)),(46,v16),(47,(x 0)),(48,(x 7)),(49,v17),(50,v18),(51,v19),(52,(x 0)),(53,(x 7)),(54,v20),(55,v21),(56,v22),(57,v24),(58,(x 7)),(59,(x 1)),(60,v26),(61,v27),(95,(x 2)),(96,(x 7)),(97,v29),(98,v30)]), h25⟩)))) := by kernel_rfl
theorem call100 (a0 a1 a2 : Value) : evC Tryd.prog 100 #[a0,a1,a2] h = cK c100_0 133 (up un [(0,a0),(1,a1),(2,a2)]) (nm h) (retK Tryd.f100 Tryd.prog h) :=
  (evC_call 100 Tryd.f100 c100_0 Tryd.func100 (by kernel_rfl) #[a0,a1,a2] h).trans (by kernel_rfl)
theorem ret100 : retK Tryd.f100 Tryd.prog g .ret ⟨ar 133 x, h⟩ = fin g (some (x 6)) h := by kernel_rfl
noncomputable def c112_0 : Code := bodyC Tryd.f112 []
theorem c112_0_eq : cK c112_0 28 x h k =
(ia 102 (x 0) (x 2)).bind fun v0 =>
(ld 29 v0 h).bind fun v1 =>
(ia 102 (x 0) (x 1)).bind fun v2 =>
(ld 29 v2 h).bind fun v3 =>
obH (ev 101 #[v1,v3] h) fun v4 h5 =>
cnd v4 (
(nilCheckV Tryd.prog (x 3)).bind fun v6 =>
(ld 3 v6 h5).bind fun v7 =>
(bn .add 3 v7 (.int .i64 1)).bind fun v8 =>
(nilCheckV Tryd.prog (x 3)).bind fun v9 =>
(sto 3 v9 v8 h5).bind fun h10 =>
k .ret ⟨ar 28 (up x [(8,(x 2)),(9,(x 1)),(10,(x 0)),(11,(x 2)),(12,v0),(13,v1),(14,(x 0)),(15,(x 1)),(16,v2),(17,v3),(18,v4),(19,(x 3)),(20,v6),(21,v7),(22,v8),(23,v9),(24,(x 2)),(25,(x 1))]), h10⟩) (
k .ret ⟨ar 28 (up x [(8,(x 1)),(9,(x 2)),(10,(x 0)),(11,(x 2)),(12,v0),(13,v1),(14,(x 0)),(15,(x 1)),(16,v2),(17,v3),(18,v4),(26,(x 1)),(27,(x 2))]), h5⟩) := by kernel_rfl
theorem call112 (a0 a1 a2 a3 : Value) : evC Tryd.prog 112 #[a0,a1,a2,a3] h = cK c112_0 28 (up un [(0,a0),(1,a1),(2,a2),(3,a3)]) (nm h) (retK Tryd.f112 Tryd.prog h) :=
  (evC_call 112 Tryd.f112 c112_0 Tryd.func112 (by kernel_rfl) #[a0,a1,a2,a3] h).trans (by kernel_rfl)
theorem ret112 : retK Tryd.f112 Tryd.prog g .ret ⟨ar 28 x, h⟩ = fin g (some (.tuple #[x 8, (x 9)])) h := by kernel_rfl
noncomputable def c110_0 : Code := bodyC Tryd.f110 []
theorem c110_0_eq : cK c110_0 36 x h k =
obH (ev 112 #[x 0,x 1,x 2,x 4] h) fun v0 h1 =>
(extractV v0 0).bind fun v2 =>
(extractV v0 1).bind fun v3 =>
obH (ev 112 #[x 0,v3,x 3,x 4] h1) fun v4 h5 =>
(extractV v4 0).bind fun v6 =>
(extractV v4 1).bind fun v7 =>
obH (ev 112 #[x 0,v2,v6,x 4] h5) fun v8 h9 =>
(extractV v8 0).bind fun v10 =>
(extractV v8 1).bind fun v11 =>
k .ret ⟨ar 36 (up x [(1,v10),(2,v11),(3,v7),(10,v11),(11,v0),(12,(x 0)),(13,(x 1)),(14,(x 2)),(15,(x 4)),(16,v0),(17,v2),(18,v3),(19,v4),(20,(x 0)),(21,v3),(22,(x 3)),(23,(x 4)),(24,v4),(25,v6),(26,v7),(27,v8),(28,(x 0)),(29,v2),(30,v6),(31,(x 4)),(32,v8),(33,v10),(34,v11),(35,v11)]), h9⟩ := by kernel_rfl
theorem call110 (a0 a1 a2 a3 a4 : Value) : evC Tryd.prog 110 #[a0,a1,a2,a3,a4] h = cK c110_0 36 (up un [(0,a0),(1,a1),(2,a2),(3,a3),(4,a4)]) (nm h) (retK Tryd.f110 Tryd.prog h) :=
  (evC_call 110 Tryd.f110 c110_0 Tryd.func110 (by kernel_rfl) #[a0,a1,a2,a3,a4] h).trans (by kernel_rfl)
theorem ret110 : retK Tryd.f110 Tryd.prog g .ret ⟨ar 36 x, h⟩ = fin g (some (x 10)) h := by kernel_rfl
noncomputable def c98_0 : Code := bodyC Tryd.f98 []
theorem c98_0_eq : cK c98_0 57 x h k =
(bn .sub 3 (x 2) (x 1)).bind fun v0 =>
obH (allocV Tryd.prog 3 h) fun v1 h2 =>
(bn .quo 3 v0 (.int .i64 4)).bind fun v3 =>
(bn .mul 3 v3 (.int .i64 1)).bind fun v4 =>
(bn .add 3 (x 1) v4).bind fun v5 =>
(bn .quo 3 v0 (.int .i64 4)).bind fun v6 =>
(bn .mul 3 v6 (.int .i64 2)).bind fun v7 =>
(bn .add 3 (x 1) v7).bind fun v8 =>
(bn .quo 3 v0 (.int .i64 4)).bind fun v9 =>
(bn .mul 3 v9 (.int .i64 3)).bind fun v10 =>
(bn .add 3 (x 1) v10).bind fun v11 =>
(bn .geq 3 v0 (.int .i64 8)).bind fun v12 =>
cnd v12 (
(bn .geq 3 v0 (.int .i64 50)).bind fun v13 =>
cnd v13 (
obH (ev 109 #[x 0,v5,v1] h2) fun v14 h15 =>
obH (ev 109 #[x 0,v8,v1] h15) fun v16 h17 =>
obH (ev 109 #[x 0,v11,v1] h17) fun v18 h19 =>
obH (ev 110 #[x 0,v14,v16,v18,v1] h19) fun v20 h21 =>
(ld 3 v1 h21).bind fun v22 =>
(bn .eql 3 v22 (.int .i64 0)).bind fun v23 =>
cnd v23 (
k .ret ⟨ar 57 (up x [(6,v20),(7,(.int .i64 1)),(8,v0),(9,v1),(10,v14),(11,v20),(12,v18),(13,(x 2)),(14,(x 1)),(15,v0),(16,(x 1)),(17,v0),(18,v3),(19,v4),(20,v5),(21,(x 1)),(22,v0),(23,v6),(24,v7),(25,v8),(26,(x 1)),(27,v0),(28,v9),(29,v10),(30,v11),(31,v0),(32,v12),(33,v0),(34,v13),(35,(x 0)),(36,v5),(37,v14),(38,(x 0)),(39,v8),(40,v16),(41,(x 0)),(42,v11),(43,v18),(44,(x 0)),(45,v14),(46,v16),(47,v18),(48,v20),(49,v22),(51,v23),(52,v23),(53,v20)]), h21⟩) (
(bn .eql 3 v22 (.int .i64 12)).bind fun v24 =>
cnd v24 (
k .ret ⟨ar 57 (up x [(6,v20),(7,(.int .i64 2)),(8,v0),(9,v1),(10,v14),(11,v20),(12,v18),(13,(x 2)),(14,(x 1)),(15,v0),(16,(x 1)),(17,v0),(18,v3),(19,v4),(20,v5),(21,(x 1)),(22,v0),(23,v6),(24,v7),(25,v8),(26,(x 1)),(27,v0),(28,v9),(29,v10),(30,v11),(31,v0),(32,v12),(33,v0),(34,v13),(35,(x 0)),(36,v5),(37,v14),(38,(x 0)),(39,v8),(40,v16),(41,(x 0)),(42,v11),(43,v18),(44,(x 0)),(45,v14),(46,v16),(47,v18),(48,v20),(49,v22),(51,v23),(52,v23),(54,v24),(55,v24),(56,v20)]), h21⟩) (
k .ret ⟨ar 57 (up x [(6,v20),(7,(.int .i64 0)),(8,v0),(9,v1),(10,v14),(11,v20),(12,v18),(13,(x 2)),(14,(x 1)),(15,v0),(16,(x 1)),(17,v0),(18,v3),(19,v4),(20,v5),(21,(x 1)),(22,v0),(23,v6),(24,v7),(25,v8),(26,(x 1)),(27,v0),(28,v9),(29,v10),(30,v11),(31,v0),(32,v12),(33,v0),(34,v13),(35,(x 0)),(36,v5),(37,v14),(38,(x 0)),(39,v8),(40,v16),(41,(x 0)),(42,v11),(43,v18),(44,(x 0)),(45,v14),(46,v16),(47,v18),(48,v20),(49,v22),(50,v20),(51,v23),(52,v23),(54,v24),(55,v24)]), h21⟩))) (
obH (ev 110 #[x 0,v5,v8,v11,v1] h2) fun v25 h26 =>
(ld 3 v1 h26).bind fun v27 =>
(bn .eql 3 v27 (.int .i64 0)).bind fun v28 =>
cnd v28 (
k .ret ⟨ar 57 (up x [(6,v25),(7,(.int .i64 1)),(8,v0),(9,v1),(10,v5),(11,v25),(12,v11),(13,(x 2)),(14,(x 1)),(15,v0),(16,(x 1)),(17,v0),(18,v3),(19,v4),(20,v5),(21,(x 1)),(22,v0),(23,v6),(24,v7),(25,v8),(26,(x 1)),(27,v0),(28,v9),(29,v10),(30,v11),(31,v0),(32,v12),(33,v0),(34,v13),(44,(x 0)),(45,v5),(46,v8),(47,v11),(48,v25),(49,v27),(51,v28),(52,v28),(53,v25)]), h26⟩) (
(bn .eql 3 v27 (.int .i64 12)).bind fun v29 =>
cnd v29 (
k .ret ⟨ar 57 (up x [(6,v25),(7,(.int .i64 2)),(8,v0),(9,v1),(10,v5),(11,v25),(12,v11),(13,(x 2)),(14,(x 1)),(15,v0),(16,(x 1)),(17,v0),(18,v3),(19,v4),(20,v5),(21,(x 1)),(22,v0),(23,v6),(24,v7),(25,v8),(26,(x 1)),(27,v0),(28,v9),(29,v10),(30,v11),(31,v0),(32,v12),(33,v0),(34,v13),(44,(x 0)),(45,v5),(46,v8),(47,v11),(48,v25),(49,v27),(51,v28),(52,v28),(54,v29),(55,v29),(56,v25)]), h26⟩) (
k .ret ⟨ar 57 (up x [(6,v25),(7,(.int .i64 0)),(8,v0),(9,v1),(10,v5),(11,v25),(12,v11),(13,(x 2)),(14,(x 1)),(15,v0),(16,(x 1)),(17,v0),(18,v3),(19,v4),(20,v5),(21,(x 1)),(22,v0),(23,v6),(24,v7),(25,v8),(26,(x 1)),(27,v0),(28,v9),(29,v10),(30,v11),(31,v0),(32,v12),(33,v0),(34,v13),(44,(x 0)),(45,v5),(46,v8),(47,v11),(48,v25),(49,v27),(50,v25),(51,v28),(52,v28),(54,v29),(55,v29)]), h26⟩)))) (
(ld 3 v1 h2).bind fun v30 =>
(bn .eql 3 v30 (.int .i64 0)).bind fun v31 =>
cnd v31 (
k .ret ⟨ar 57 (up x [(6,v8),(7,(.int .i64 1)),(8,v0),(9,v1),(10,v5),(11,v8),(12,v11),(13,(x 2)),(14,(x 1)),(15,v0),(16,(x 1)),(17,v0),(18,v3),(19,v4),(20,v5),(21,(x 1)),(22,v0),(23,v6),(24,v7),(25,v8),(26,(x 1)),(27,v0),(28,v9),(29,v10),(30,v11),(31,v0),(32,v12),(49,v30),(51,v31),(52,v31),(53,v8)]), h2⟩) (
(bn .eql 3 v30 (.int .i64 12)).bind fun v32 =>
cnd v32 (
k .ret ⟨ar 57 (up x [(6,v8),(7,(.int .i64 2)),(8,v0),(9,v1),(10,v5),(11,v8),(12,v11),(13,(x 2)),(14,(x 1)),(15,v0),(16,(x 1)),(17,v0),(18,v3),(19,v4),(20,v5),(21,(x 1)),(22,v0),(23,v6),(24,v7),(25,v8),(26,(x 1)),(27,v0),(28,v9),(29,v10),(30,v11),(31,v0),(32,v12),(49,v30),(51,v31),(52,v31),(54,v32),(55,v32),(56,v8)]), h2⟩) (
k .ret ⟨ar 57 (up x [(6,v8),(7,(.int .i64 0)),(8,v0),(9,v1),(10,v5),(11,v8),(12,v11),(13,(x 2)),(14,(x 1)),(15,v0),(16,(x 1)),(17,v0),(18,v3),(19,v4),(20,v5),(21,(x 1)),(22,v0),(23,v6),(24,v7),(25,v8),(26,(x 1)),(27,v0),(28,v9),(29,v10),(30,v11),(31,v0),(32,v12),(49,v30),(50,v8),(51,v31),(52,v31),(54,v32),(55,v32)]), h2⟩))) := by kernel_rfl
theorem call98 (a0 a1 a2 : Value) : evC Tryd.prog 98 #[a0,a1,a2] h = cK c98_0 57 (up un [(0,a0),(1,a1),(2,a2)]) (nm h) (retK Tryd.f98 Tryd.prog h) :=
  (evC_call 98 Tryd.f98 c98_0 Tryd.func98 (by kernel_rfl) #[a0,a1,a2] h).trans (by kernel_rfl)
theorem ret98 : retK Tryd.f98 Tryd.prog g .ret ⟨ar 57 x, h⟩ = fin g (some (.tuple #[x 6, (x 7)])) h := by kernel_rfl
noncomputable def c103_0 : Code := bodyC Tryd.f103 []
noncomputable def c103_1 : Code := bodyC Tryd.f103 [true, true, true, false, false, false]
noncomputable def c103_2 : Code := bodyC Tryd.f103 [true, true, true, true]
noncomputable def c103_3 : Code := bodyC Tryd.f103 [true, true, true, true, false, false, false]
noncomputable def c103_4 : Code := bodyC Tryd.f103 [true, true, true, true, true]
noncomputable def c103_5 : Code := bodyC Tryd.f103 [true, true, true, true, true, true, true, true, true, false, false, false]
noncomputable def c103_6 : Code := bodyC Tryd.f103 [true, true, true, true, true, true, true, true, true, true]
noncomputable def c103_7 : Code := bodyC Tryd.f103 [true, true, true, true, true, true, true, true, true, false, false, false, false, false, false, false]
noncomputable def c103_8 : Code := bodyC Tryd.f103 [true, true, true, true, true, true, true, true, true, false, false, false, false, true]
noncomputable def c103_9 : Code := bodyC Tryd.f103 [true, true, true, true, true, true, true, true, true, false, false, false, false, true, false, false, false]
noncomputable def c103_10 : Code := bodyC Tryd.f103 [true, true, true, true, true, true, true, true, true, false, false, false, false, true, true]
theorem c103_0_eq : cK c103_0 168 x h k =
(ia 102 (x 0) (x 3)).bind fun v0 =>
(ld 29 v0 h).bind fun v1 =>
(ia 102 (x 0) (x 1)).bind fun v2 =>
(ld 29 v2 h).bind fun v3 =>
(ia 102 (x 0) (x 1)).bind fun v4 =>
(sto 29 v4 v1 h).bind fun h5 =>
(ia 102 (x 0) (x 3)).bind fun v6 =>
(sto 29 v6 v3 h5).bind fun h7 =>
(bn .add 3 (x 1) (.int .i64 1)).bind fun v8 =>
(bn .sub 3 (x 2) (.int .i64 1)).bind fun v9 =>
lK c103_1 168 (up x [(8,(.int .i64 0)),(9,(.bool false)),(10,v8),(11,v9),(12,(x 0)),(13,(x 1)),(14,(x 0)),(15,(x 3)),(16,(x 0)),(17,(x 3)),(18,v0),(19,v1),(20,(x 0)),(21,(x 1)),(22,v2),(23,v3),(24,v4),(25,v6),(26,(x 1)),(27,v8),(28,(x 2)),(29,v9)]) h7 (blockK 0 (sK c103_2 k)) := by kernel_rfl
theorem c103_1_eq : cK c103_1 168 x h k =
(bn .leq 3 (x 10) (x 11)).bind fun v10 =>
(gd (wt v10 true) (ia 102 (gdV (wt v10 true) (x 0)) (gdV (wt v10 true) (x 10)))).bind fun v11 =>
(gd (wt v10 true) (ld 29 v11 h)).bind fun v12 =>
(gd (wt v10 true) (ia 102 (gdV (wt v10 true) (x 0)) (gdV (wt v10 true) (x 1)))).bind fun v13 =>
(gd (wt v10 true) (ld 29 v13 h)).bind fun v14 =>
obH (gdH (wt v10 true) h (ev 101 #[v12,v14] h)) fun v15 h16 =>
(pickV v10 v15 (.bool false)).bind fun v17 =>
cnd v17 (
(bn .add 3 (x 10) (.int .i64 1)).bind fun v18 =>
k .normal ⟨ar 168 (up x [(10,v18),(30,(x 10)),(31,(x 11)),(32,v10),(33,v10),(34,(gdV (wt v10 true) (x 0))),(35,(gdV (wt v10 true) (x 10))),(36,v11),(37,v12),(38,(gdV (wt v10 true) (x 0))),(39,(gdV (wt v10 true) (x 1))),(40,v13),(41,v14),(42,v15),(43,v17),(44,(x 10)),(45,v18)]), h16⟩) (
k (.exit 0) ⟨ar 168 (up x [(30,(x 10)),(31,(x 11)),(32,v10),(33,v10),(34,(gdV (wt v10 true) (x 0))),(35,(gdV (wt v10 true) (x 10))),(36,v11),(37,v12),(38,(gdV (wt v10 true) (x 0))),(39,(gdV (wt v10 true) (x 1))),(40,v13),(41,v14),(42,v15),(43,v17)]), h16⟩) := by kernel_rfl
theorem c103_2_eq : cK c103_2 168 x h k =
lK c103_3 168 x h (blockK 2 (sK c103_4 k)) := by kernel_rfl
theorem c103_3_eq : cK c103_3 168 x h k =
(bn .leq 3 (x 10) (x 11)).bind fun v19 =>
(gd (wt v19 true) (ia 102 (gdV (wt v19 true) (x 0)) (gdV (wt v19 true) (x 11)))).bind fun v20 =>
(gd (wt v19 true) (ld 29 v20 h)).bind fun v21 =>
(gd (wt v19 true) (ia 102 (gdV (wt v19 true) (x 0)) (gdV (wt v19 true) (x 1)))).bind fun v22 =>
(gd (wt v19 true) (ld 29 v22 h)).bind fun v23 =>
obH (gdH (wt v19 true) h (ev 101 #[v21,v23] h)) fun v24 h25 =>
(gd (wt v19 true) (unV Tryd.prog .not v24)).bind fun v26 =>
(pickV v19 v26 (.bool false)).bind fun v27 =>
cnd v27 (
(bn .sub 3 (x 11) (.int .i64 1)).bind fun v28 =>
k .normal ⟨ar 168 (up x [(11,v28),(46,(x 10)),(47,(x 11)),(48,v19),(49,v19),(50,(gdV (wt v19 true) (x 0))),(51,(gdV (wt v19 true) (x 11))),(52,v20),(53,v21),(54,(gdV (wt v19 true) (x 0))),(55,(gdV (wt v19 true) (x 1))),(56,v22),(57,v23),(58,v24),(59,v26),(60,v27),(61,(x 11)),(62,v28)]), h25⟩) (
k (.exit 2) ⟨ar 168 (up x [(46,(x 10)),(47,(x 11)),(48,v19),(49,v19),(50,(gdV (wt v19 true) (x 0))),(51,(gdV (wt v19 true) (x 11))),(52,v20),(53,v21),(54,(gdV (wt v19 true) (x 0))),(55,(gdV (wt v19 true) (x 1))),(56,v22),(57,v23),(58,v24),(59,v26),(60,v27)]), h25⟩) := by kernel_rfl
theorem c103_4_eq : cK c103_4 168 x h k =
(bn .gtr 3 (x 10) (x 11)).bind fun v29 =>
cnd v29 (
(ia 102 (x 0) (x 1)).bind fun v30 =>
(ld 29 v30 h).bind fun v31 =>
(ia 102 (x 0) (x 11)).bind fun v32 =>
(ld 29 v32 h).bind fun v33 =>
(ia 102 (x 0) (x 11)).bind fun v34 =>
(sto 29 v34 v31 h).bind fun h35 =>
(ia 102 (x 0) (x 1)).bind fun v36 =>
(sto 29 v36 v33 h35).bind fun h37 =>
k .ret ⟨ar 168 (up x [(8,(x 11)),(9,(.bool true)),(63,(x 10)),(64,(x 11)),(65,v29),(66,(x 0)),(67,(x 11)),(68,(x 0)),(69,(x 1)),(70,(x 0)),(71,(x 1)),(72,v30),(73,v31),(74,(x 0)),(75,(x 11)),(76,v32),(77,v33),(78,v34),(79,v36),(80,(x 11))]), h37⟩) (
(ia 102 (x 0) (x 11)).bind fun v38 =>
(ld 29 v38 h).bind fun v39 =>
(ia 102 (x 0) (x 10)).bind fun v40 =>
(ld 29 v40 h).bind fun v41 =>
(ia 102 (x 0) (x 10)).bind fun v42 =>
(sto 29 v42 v39 h).bind fun h43 =>
(ia 102 (x 0) (x 11)).bind fun v44 =>
(sto 29 v44 v41 h43).bind fun h45 =>
(bn .add 3 (x 10) (.int .i64 1)).bind fun v46 =>
(bn .sub 3 (x 11) (.int .i64 1)).bind fun v47 =>
lK c103_5 168 (up x [(10,v46),(11,v47),(63,(x 10)),(64,(x 11)),(65,v29),(81,(x 0)),(82,(x 10)),(83,(x 0)),(84,(x 11)),(85,(x 0)),(86,(x 11)),(87,v38),(88,v39),(89,(x 0)),(90,(x 10)),(91,v40),(92,v41),(93,v42),(94,v44),(95,(x 10)),(96,v46),(97,(x 11)),(98,v47)]) h45 (blockK 4 (sK c103_6 k))) := by kernel_rfl
theorem c103_5_eq : cK c103_5 168 x h k =
lK c103_7 168 x h (blockK 6 (sK c103_8 (blockK 5 k))) := by kernel_rfl
theorem c103_6_eq : cK c103_6 168 x h k =
(ia 102 (x 0) (x 1)).bind fun v48 =>
(ld 29 v48 h).bind fun v49 =>
(ia 102 (x 0) (x 11)).bind fun v50 =>
(ld 29 v50 h).bind fun v51 =>
(ia 102 (x 0) (x 11)).bind fun v52 =>
(sto 29 v52 v49 h).bind fun h53 =>
(ia 102 (x 0) (x 1)).bind fun v54 =>
(sto 29 v54 v51 h53).bind fun h55 =>
k .ret ⟨ar 168 (up x [(8,(x 11)),(9,(.bool false)),(153,(x 0)),(154,(x 11)),(155,(x 0)),(156,(x 1)),(157,(x 0)),(158,(x 1)),(159,v48),(160,v49),(161,(x 0)),(162,(x 11)),(163,v50),(164,v51),(165,v52),(166,v54),(167,(x 11))]), h55⟩ := by kernel_rfl
theorem c103_7_eq : cK c103_7 168 x h k =
(bn .leq 3 (x 10) (x 11)).bind fun v56 =>
(gd (wt v56 true) (ia 102 (gdV (wt v56 true) (x 0)) (gdV (wt v56 true) (x 10)))).bind fun v57 =>
(gd (wt v56 true) (ld 29 v57 h)).bind fun v58 =>
(gd (wt v56 true) (ia 102 (gdV (wt v56 true) (x 0)) (gdV (wt v56 true) (x 1)))).bind fun v59 =>
(gd (wt v56 true) (ld 29 v59 h)).bind fun v60 =>
obH (gdH (wt v56 true) h (ev 101 #[v58,v60] h)) fun v61 h62 =>
(pickV v56 v61 (.bool false)).bind fun v63 =>
cnd v63 (
(bn .add 3 (x 10) (.int .i64 1)).bind fun v64 =>
k .normal ⟨ar 168 (up x [(10,v64),(99,(x 10)),(100,(x 11)),(101,v56),(102,v56),(103,(gdV (wt v56 true) (x 0))),(104,(gdV (wt v56 true) (x 10))),(105,v57),(106,v58),(107,(gdV (wt v56 true) (x 0))),(108,(gdV (wt v56 true) (x 1))),(109,v59),(110,v60),(111,v61),(112,v63),(113,(x 10)),(114,v64)]), h62⟩) (
k (.exit 6) ⟨ar 168 (up x [(99,(x 10)),(100,(x 11)),(101,v56),(102,v56),(103,(gdV (wt v56 true) (x 0))),(104,(gdV (wt v56 true) (x 10))),(105,v57),(106,v58),(107,(gdV (wt v56 true) (x 0))),(108,(gdV (wt v56 true) (x 1))),(109,v59),(110,v60),(111,v61),(112,v63)]), h62⟩) := by kernel_rfl
theorem c103_8_eq : cK c103_8 168 x h k =
lK c103_9 168 x h (blockK 8 (sK c103_10 k)) := by kernel_rfl
theorem c103_9_eq : cK c103_9 168 x h k =
(bn .leq 3 (x 10) (x 11)).bind fun v65 =>
(gd (wt v65 true) (ia 102 (gdV (wt v65 true) (x 0)) (gdV (wt v65 true) (x 11)))).bind fun v66 =>
(gd (wt v65 true) (ld 29 v66 h)).bind fun v67 =>
(gd (wt v65 true) (ia 102 (gdV (wt v65 true) (x 0)) (gdV (wt v65 true) (x 1)))).bind fun v68 =>
(gd (wt v65 true) (ld 29 v68 h)).bind fun v69 =>
obH (gdH (wt v65 true) h (ev 101 #[v67,v69] h)) fun v70 h71 =>
(gd (wt v65 true) (unV Tryd.prog .not v70)).bind fun v72 =>
(pickV v65 v72 (.bool false)).bind fun v73 =>
cnd v73 (
(bn .sub 3 (x 11) (.int .i64 1)).bind fun v74 =>
k .normal ⟨ar 168 (up x [(11,v74),(115,(x 10)),(116,(x 11)),(117,v65),(118,v65),(119,(gdV (wt v65 true) (x 0))),(120,(gdV (wt v65 true) (x 11))),(121,v66),(122,v67),(123,(gdV (wt v65 true) (x 0))),(124,(gdV (wt v65 true) (x 1))),(125,v68),(126,v69),(127,v70),(128,v72),(129,v73),(130,(x 11)),(131,v74)]), h71⟩) (
k (.exit 8) ⟨ar 168 (up x [(115,(x 10)),(116,(x 11)),(117,v65),(118,v65),(119,(gdV (wt v65 true) (x 0))),(120,(gdV (wt v65 true) (x 11))),(121,v66),(122,v67),(123,(gdV (wt v65 true) (x 0))),(124,(gdV (wt v65 true) (x 1))),(125,v68),(126,v69),(127,v70),(128,v72),(129,v73)]), h71⟩) := by kernel_rfl
theorem c103_10_eq : cK c103_10 168 x h k =
(bn .gtr 3 (x 10) (x 11)).bind fun v75 =>
cnd v75 (
k (.exit 4) ⟨ar 168 (up x [(132,(x 10)),(133,(x 11)),(134,v75)]), h⟩) (
(ia 102 (x 0) (x 11)).bind fun v76 =>
(ld 29 v76 h).bind fun v77 =>
(ia 102 (x 0) (x 10)).bind fun v78 =>
(ld 29 v78 h).bind fun v79 =>
(ia 102 (x 0) (x 10)).bind fun v80 =>
(sto 29 v80 v77 h).bind fun h81 =>
(ia 102 (x 0) (x 11)).bind fun v82 =>
(sto 29 v82 v79 h81).bind fun h83 =>
(bn .add 3 (x 10) (.int .i64 1)).bind fun v84 =>
(bn .sub 3 (x 11) (.int .i64 1)).bind fun v85 =>
k .normal ⟨ar 168 (up x [(10,v84),(11,v85),(132,(x 10)),(133,(x 11)),(134,v75),(135,(x 0)),(136,(x 10)),(137,(x 0)),(138,(x 11)),(139,(x 0)),(140,(x 11)),(141,v76),(142,v77),(143,(x 0)),(144,(x 10)),(145,v78),(146,v79),(147,v80),(148,v82),(149,(x 10)),(150,v84),(151,(x 11)),(152,v85)]), h83⟩) := by kernel_rfl
theorem call103 (a0 a1 a2 a3 : Value) : evC Tryd.prog 103 #[a0,a1,a2,a3] h = cK c103_0 168 (up un [(0,a0),(1,a1),(2,a2),(3,a3)]) (nm h) (retK Tryd.f103 Tryd.prog h) :=
  (evC_call 103 Tryd.f103 c103_0 Tryd.func103 (by kernel_rfl) #[a0,a1,a2,a3] h).trans (by kernel_rfl)
theorem ret103 : retK Tryd.f103 Tryd.prog g .ret ⟨ar 168 x, h⟩ = fin g (some (.tuple #[x 8, (x 9)])) h := by kernel_rfl
noncomputable def c105_0 : Code := bodyC Tryd.f105 []
theorem c105_0_eq : cK c105_0 25 x h k =
(bn .geq 29 (x 0) (.int .u64 4294967296)).bind fun v0 =>
cnd v0 (
(bn .shr 29 (x 0) (.int .u64 32)).bind fun v1 =>
(bn .geq 29 v1 (.int .u64 65536)).bind fun v2 =>
cnd v2 (
(bn .shr 29 v1 (.int .u64 16)).bind fun v3 =>
(bn .add 3 (.int .i64 32) (.int .i64 16)).bind fun v4 =>
(bn .geq 29 v3 (.int .u64 256)).bind fun v5 =>
cnd v5 (
(bn .shr 29 v3 (.int .u64 8)).bind fun v6 =>
(bn .add 3 v4 (.int .i64 8)).bind fun v7 =>
obH (cv 29 5 v6 h) fun v8 h9 =>
(indexV Tryd.prog 9 (.string { data := (([0, 1, 2, 2, 3, 3, 3, 3, 4, 4, 4, 4, 4, 4, 4, 4, 5, 5, 5, 5, 5, 5, 5, 5, 5, 5, 5, 5, 5, 5, 5, 5, 6, 6, 6, 6, 6, 6, 6, 6, 6, 6, 6, 6, 6, 6, 6, 6, 6, 6, 6, 6, 6, 6, 6, 6, 6, 6, 6, 6, 6, 6, 6, 6].append [7, 7, 7, 7, 7, 7, 7, 7, 7, 7, 7, 7, 7, 7, 7, 7, 7, 7, 7, 7, 7, 7, 7, 7, 7, 7, 7, 7, 7, 7, 7, 7, 7, 7, 7, 7, 7, 7, 7, 7, 7, 7, 7, 7, 7, 7, 7, 7, 7, 7, 7, 7, 7, 7, 7, 7, 7, 7, 7, 7, 7, 7, 7, 7]).append ([8, 8, 8, 8, 8, 8, 8, 8, 8, 8, 8, 8, 8, 8, 8, 8, 8, 8, 8, 8, 8, 8, 8, 8, 8, 8, 8, 8, 8, 8, 8, 8, 8, 8, 8, 8, 8, 8, 8, 8, 8, 8, 8, 8, 8, 8, 8, 8, 8, 8, 8, 8, 8, 8, 8, 8, 8, 8, 8, 8, 8, 8, 8, 8].append [8, 8, 8, 8, 8, 8, 8, 8, 8, 8, 8, 8, 8, 8, 8, 8, 8, 8, 8, 8, 8, 8, 8, 8, 8, 8, 8, 8, 8, 8, 8, 8, 8, 8, 8, 8, 8, 8, 8, 8, 8, 8, 8, 8, 8, 8, 8, 8, 8, 8, 8, 8, 8, 8, 8, 8, 8, 8, 8, 8, 8, 8, 8, 8])).toArray }) v8).bind fun v10 =>
obH (cv 5 3 v10 h9) fun v11 h12 =>
(bn .add 3 v7 v11).bind fun v13 =>
k .ret ⟨ar 25 (up x [(0,v6),(2,v13),(3,(x 0)),(4,v0),(5,(x 0)),(6,v1),(7,v1),(8,v2),(9,v1),(10,v3),(11,(.int .i64 32)),(12,v4),(13,v3),(14,v5),(15,v3),(16,v6),(17,v4),(18,v7),(19,v7),(20,v6),(21,v8),(22,v10),(23,v11),(24,v13)]), h12⟩) (
obH (cv 29 5 v3 h) fun v14 h15 =>
(indexV Tryd.prog 9 (.string { data := (([0, 1, 2, 2, 3, 3, 3, 3, 4, 4, 4, 4, 4, 4, 4, 4, 5, 5, 5, 5, 5, 5, 5, 5, 5, 5, 5, 5, 5, 5, 5, 5, 6, 6, 6, 6, 6, 6, 6, 6, 6, 6, 6, 6, 6, 6, 6, 6, 6, 6, 6, 6, 6, 6, 6, 6, 6, 6, 6, 6, 6, 6, 6, 6].append [7, 7, 7, 7, 7, 7, 7, 7, 7, 7, 7, 7, 7, 7, 7, 7, 7, 7, 7, 7, 7, 7, 7, 7, 7, 7, 7, 7, 7, 7, 7, 7, 7, 7, 7, 7, 7, 7, 7, 7, 7, 7, 7, 7, 7, 7, 7, 7, 7, 7, 7, 7, 7, 7, 7, 7, 7, 7, 7, 7, 7, 7, 7, 7]).append ([8, 8, 8, 8, 8, 8, 8, 8, 8, 8, 8, 8, 8, 8, 8, 8, 8, 8, 8, 8, 8, 8, 8, 8, 8, 8, 8, 8, 8, 8, 8, 8, 8, 8, 8, 8, 8, 8, 8, 8, 8, 8, 8, 8, 8, 8, 8, 8, 8, 8, 8, 8, 8, 8, 8, 8, 8, 8, 8, 8, 8, 8, 8, 8].append [8, 8, 8, 8, 8, 8, 8, 8, 8, 8, 8, 8, 8, 8, 8, 8, 8, 8, 8, 8, 8, 8, 8, 8, 8, 8, 8, 8, 8, 8, 8, 8, 8, 8, 8, 8, 8, 8, 8, 8, 8, 8, 8, 8, 8, 8, 8, 8, 8, 8, 8, 8, 8, 8, 8, 8, 8, 8, 8, 8, 8, 8, 8, 8])).toArray }) v14).bind fun v16 =>
obH (cv 5 3 v16 h15) fun v17 h18 =>
(bn .add 3 v4 v17).bind fun v19 =>
k .ret ⟨ar 25 (up x [(0,v3),(2,v19),(3,(x 0)),(4,v0),(5,(x 0)),(6,v1),(7,v1),(8,v2),(9,v1),(10,v3),(11,(.int .i64 32)),(12,v4),(13,v3),(14,v5),(19,v4),(20,v3),(21,v14),(22,v16),(23,v17),(24,v19)]), h18⟩)) (
(bn .geq 29 v1 (.int .u64 256)).bind fun v20 =>
cnd v20 (
(bn .shr 29 v1 (.int .u64 8)).bind fun v21 =>
(bn .add 3 (.int .i64 32) (.int .i64 8)).bind fun v22 =>
obH (cv 29 5 v21 h) fun v23 h24 =>
(indexV Tryd.prog 9 (.string { data := (([0, 1, 2, 2, 3, 3, 3, 3, 4, 4, 4, 4, 4, 4, 4, 4, 5, 5, 5, 5, 5, 5, 5, 5, 5, 5, 5, 5, 5, 5, 5, 5, 6, 6, 6, 6, 6, 6, 6, 6, 6, 6, 6, 6, 6, 6, 6, 6, 6, 6, 6, 6, 6, 6, 6, 6, 6, 6, 6, 6, 6, 6, 6, 6].append [7, 7, 7, 7, 7, 7, 7, 7, 7, 7, 7, 7, 7, 7, 7, 7, 7, 7, 7, 7, 7, 7, 7, 7, 7, 7, 7, 7, 7, 7, 7, 7, 7, 7, 7, 7, 7, 7, 7, 7, 7, 7, 7, 7, 7, 7, 7, 7, 7, 7, 7, 7, 7, 7, 7, 7, 7, 7, 7, 7, 7, 7, 7, 7]).append ([8, 8, 8, 8, 8, 8, 8, 8, 8, 8, 8, 8, 8, 8, 8, 8, 8, 8, 8, 8, 8, 8, 8, 8, 8, 8, 8, 8, 8, 8, 8, 8, 8, 8, 8, 8, 8, 8, 8, 8, 8, 8, 8, 8, 8, 8, 8, 8, 8, 8, 8, 8, 8, 8, 8, 8, 8, 8, 8, 8, 8, 8, 8, 8].append [8, 8, 8, 8, 8, 8, 8, 8, 8, 8, 8, 8, 8, 8, 8, 8, 8, 8, 8, 8, 8, 8, 8, 8, 8, 8, 8, 8, 8, 8, 8, 8, 8, 8, 8, 8, 8, 8, 8, 8, 8, 8, 8, 8, 8, 8, 8, 8, 8, 8, 8, 8, 8, 8, 8, 8, 8, 8, 8, 8, 8, 8, 8, 8])).toArray }) v23).bind fun v25 =>
obH (cv 5 3 v25 h24) fun v26 h27 =>
(bn .add 3 v22 v26).bind fun v28 =>
k .ret ⟨ar 25 (up x [(0,v21),(2,v28),(3,(x 0)),(4,v0),(5,(x 0)),(6,v1),(7,v1),(8,v2),(13,v1),(14,v20),(15,v1),(16,v21),(17,(.int .i64 32)),(18,v22),(19,v22),(20,v21),(21,v23),(22,v25),(23,v26),(24,v28)]), h27⟩) (
obH (cv 29 5 v1 h) fun v29 h30 =>
(indexV Tryd.prog 9 (.string { data := (([0, 1, 2, 2, 3, 3, 3, 3, 4, 4, 4, 4, 4, 4, 4, 4, 5, 5, 5, 5, 5, 5, 5, 5, 5, 5, 5, 5, 5, 5, 5, 5, 6, 6, 6, 6, 6, 6, 6, 6, 6, 6, 6, 6, 6, 6, 6, 6, 6, 6, 6, 6, 6, 6, 6, 6, 6, 6, 6, 6, 6, 6, 6, 6].append [7, 7, 7, 7, 7, 7, 7, 7, 7, 7, 7, 7, 7, 7, 7, 7, 7, 7, 7, 7, 7, 7, 7, 7, 7, 7, 7, 7, 7, 7, 7, 7, 7, 7, 7, 7, 7, 7, 7, 7, 7, 7, 7, 7, 7, 7, 7, 7, 7, 7, 7, 7, 7, 7, 7, 7, 7, 7, 7, 7, 7, 7, 7, 7]).append ([8, 8, 8, 8, 8, 8, 8, 8, 8, 8, 8, 8, 8, 8, 8, 8, 8, 8, 8, 8, 8, 8, 8, 8, 8, 8, 8, 8, 8, 8, 8, 8, 8, 8, 8, 8, 8, 8, 8, 8, 8, 8, 8, 8, 8, 8, 8, 8, 8, 8, 8, 8, 8, 8, 8, 8, 8, 8, 8, 8, 8, 8, 8, 8].append [8, 8, 8, 8, 8, 8, 8, 8, 8, 8, 8, 8, 8, 8, 8, 8, 8, 8, 8, 8, 8, 8, 8, 8, 8, 8, 8, 8, 8, 8, 8, 8, 8, 8, 8, 8, 8, 8, 8, 8, 8, 8, 8, 8, 8, 8, 8, 8, 8, 8, 8, 8, 8, 8, 8, 8, 8, 8, 8, 8, 8, 8, 8, 8])).toArray }) v29).bind fun v31 =>
obH (cv 5 3 v31 h30) fun v32 h33 =>
(bn .add 3 (.int .i64 32) v32).bind fun v34 =>
k .ret ⟨ar 25 (up x [(0,v1),(2,v34),(3,(x 0)),(4,v0),(5,(x 0)),(6,v1),(7,v1),(8,v2),(13,v1),(14,v20),(19,(.int .i64 32)),(20,v1),(21,v29),(22,v31),(23,v32),(24,v34)]), h33⟩))) (
(bn .geq 29 (x 0) (.int .u64 65536)).bind fun v35 =>
cnd v35 (
(bn .shr 29 (x 0) (.int .u64 16)).bind fun v36 =>
(bn .add 3 (.int .i64 0) (.int .i64 16)).bind fun v37 =>
(bn .geq 29 v36 (.int .u64 256)).bind fun v38 =>
cnd v38 (
(bn .shr 29 v36 (.int .u64 8)).bind fun v39 =>
(bn .add 3 v37 (.int .i64 8)).bind fun v40 =>
obH (cv 29 5 v39 h) fun v41 h42 =>
(indexV Tryd.prog 9 (.string { data := (([0, 1, 2, 2, 3, 3, 3, 3, 4, 4, 4, 4, 4, 4, 4, 4, 5, 5, 5, 5, 5, 5, 5, 5, 5, 5, 5, 5, 5, 5, 5, 5, 6, 6, 6, 6, 6, 6, 6, 6, 6, 6, 6, 6, 6, 6, 6, 6, 6, 6, 6, 6, 6, 6, 6, 6, 6, 6, 6, 6, 6, 6, 6, 6].append [7, 7, 7, 7, 7, 7, 7, 7, 7, 7, 7, 7, 7, 7, 7, 7, 7, 7, 7, 7, 7, 7, 7, 7, 7, 7, 7, 7, 7, 7, 7, 7, 7, 7, 7, 7, 7, 7, 7, 7, 7, 7, 7, 7, 7, 7, 7, 7, 7, 7, 7, 7, 7, 7, 7, 7, 7, 7, 7, 7, 7, 7, 7, 7]).append ([8, 8, 8, 8, 8, 8, 8, 8, 8, 8, 8, 8, 8, 8, 8, 8, 8, 8, 8, 8, 8, 8, 8, 8, 8, 8, 8, 8, 8, 8, 8, 8, 8, 8, 8, 8, 8, 8, 8, 8, 8, 8, 8, 8, 8, 8, 8, 8, 8, 8, 8, 8, 8, 8, 8, 8, 8, 8, 8, 8, 8, 8, 8, 8].append [8, 8, 8, 8, 8, 8, 8, 8, 8, 8, 8, 8, 8, 8, 8, 8, 8, 8, 8, 8, 8, 8, 8, 8, 8, 8, 8, 8, 8, 8, 8, 8, 8, 8, 8, 8, 8, 8, 8, 8, 8, 8, 8, 8, 8, 8, 8, 8, 8, 8, 8, 8, 8, 8, 8, 8, 8, 8, 8, 8, 8, 8, 8, 8])).toArray }) v41).bind fun v43 =>
obH (cv 5 3 v43 h42) fun v44 h45 =>
(bn .add 3 v40 v44).bind fun v46 =>
k .ret ⟨ar 25 (up x [(0,v39),(2,v46),(3,(x 0)),(4,v0),(7,(x 0)),(8,v35),(9,(x 0)),(10,v36),(11,(.int .i64 0)),(12,v37),(13,v36),(14,v38),(15,v36),(16,v39),(17,v37),(18,v40),(19,v40),(20,v39),(21,v41),(22,v43),(23,v44),(24,v46)]), h45⟩) (
obH (cv 29 5 v36 h) fun v47 h48 =>
(indexV Tryd.prog 9 (.string { data := (([0, 1, 2, 2, 3, 3, 3, 3, 4, 4, 4, 4, 4, 4, 4, 4, 5, 5, 5, 5, 5, 5, 5, 5, 5, 5, 5, 5, 5, 5, 5, 5, 6, 6, 6, 6, 6, 6, 6, 6, 6, 6, 6, 6, 6, 6, 6, 6, 6, 6, 6, 6, 6, 6, 6, 6, 6, 6, 6, 6, 6, 6, 6, 6].append [7, 7, 7, 7, 7, 7, 7, 7, 7, 7, 7, 7, 7, 7, 7, 7, 7, 7, 7, 7, 7, 7, 7, 7, 7, 7, 7, 7, 7, 7, 7, 7, 7, 7, 7, 7, 7, 7, 7, 7, 7, 7, 7, 7, 7, 7, 7, 7, 7, 7, 7, 7, 7, 7, 7, 7, 7, 7, 7, 7, 7, 7, 7, 7]).append ([8, 8, 8, 8, 8, 8, 8, 8, 8, 8, 8, 8, 8, 8, 8, 8, 8, 8, 8, 8, 8, 8, 8, 8, 8, 8, 8, 8, 8, 8, 8, 8, 8, 8, 8, 8, 8, 8, 8, 8, 8, 8, 8, 8, 8, 8, 8, 8, 8, 8, 8, 8, 8, 8, 8, 8, 8, 8, 8, 8, 8, 8, 8, 8].append [8, 8, 8, 8, 8, 8, 8, 8, 8, 8, 8, 8, 8, 8, 8, 8, 8, 8, 8, 8, 8, 8, 8, 8, 8, 8, 8, 8, 8, 8, 8, 8, 8, 8, 8, 8, 8, 8, 8, 8, 8, 8, 8, 8, 8, 8, 8, 8, 8, 8, 8, 8, 8, 8, 8, 8, 8, 8, 8, 8, 8, 8, 8, 8])).toArray }) v47).bind fun v49 =>
obH (cv 5 3 v49 h48) fun v50 h51 =>
(bn .add 3 v37 v50).bind fun v52 =>
k .ret ⟨ar 25 (up x [(0,v36),(2,v52),(3,(x 0)),(4,v0),(7,(x 0)),(8,v35),(9,(x 0)),(10,v36),(11,(.int .i64 0)),(12,v37),(13,v36),(14,v38),(19,v37),(20,v36),(21,v47),(22,v49),(23,v50),(24,v52)]), h51⟩)) (
(bn .geq 29 (x 0) (.int .u64 256)).bind fun v53 =>
cnd v53 (
(bn .shr 29 (x 0) (.int .u64 8)).bind fun v54 =>
(bn .add 3 (.int .i64 0) (.int .i64 8)).bind fun v55 =>
obH (cv 29 5 v54 h) fun v56 h57 =>
(indexV Tryd.prog 9 (.string { data := (([0, 1, 2, 2, 3, 3, 3, 3, 4, 4, 4, 4, 4, 4, 4, 4, 5, 5, 5, 5, 5, 5, 5, 5, 5, 5, 5, 5, 5, 5, 5, 5, 6, 6, 6, 6, 6, 6, 6, 6, 6, 6, 6, 6, 6, 6, 6, 6, 6, 6, 6, 6, 6, 6, 6, 6, 6, 6, 6, 6, 6, 6, 6, 6].append [7, 7, 7, 7, 7, 7, 7, 7, 7, 7, 7, 7, 7, 7, 7, 7, 7, 7, 7, 7, 7, 7, 7, 7, 7, 7, 7, 7, 7, 7, 7, 7, 7, 7, 7, 7, 7, 7, 7, 7, 7, 7, 7, 7, 7, 7, 7, 7, 7, 7, 7, 7, 7, 7, 7, 7, 7, 7, 7, 7, 7, 7, 7, 7]).append ([8, 8, 8, 8, 8, 8, 8, 8, 8, 8, 8, 8, 8, 8, 8, 8, 8, 8, 8, 8, 8, 8, 8, 8, 8, 8, 8, 8, 8, 8, 8, 8, 8, 8, 8, 8, 8, 8, 8, 8, 8, 8, 8, 8, 8, 8, 8, 8, 8, 8, 8, 8, 8, 8, 8, 8, 8, 8, 8, 8, 8, 8, 8, 8].append [8, 8, 8, 8, 8, 8, 8, 8, 8, 8, 8, 8, 8, 8, 8, 8, 8, 8, 8, 8, 8, 8, 8, 8, 8, 8, 8, 8, 8, 8, 8, 8, 8, 8, 8, 8, 8, 8, 8, 8, 8, 8, 8, 8, 8, 8, 8, 8, 8, 8, 8, 8, 8, 8, 8, 8, 8, 8, 8, 8, 8, 8, 8, 8])).toArray }) v56).bind fun v58 =>
obH (cv 5 3 v58 h57) fun v59 h60 =>
(bn .add 3 v55 v59).bind fun v61 =>
k .ret ⟨ar 25 (up x [(0,v54),(2,v61),(3,(x 0)),(4,v0),(7,(x 0)),(8,v35),(13,(x 0)),(14,v53),(15,(x 0)),(16,v54),(17,(.int .i64 0)),(18,v55),(19,v55),(20,v54),(21,v56),(22,v58),(23,v59),(24,v61)]), h60⟩) (
obH (cv 29 5 (x 0) h) fun v62 h63 =>
(indexV Tryd.prog 9 (.string { data := (([0, 1, 2, 2, 3, 3, 3, 3, 4, 4, 4, 4, 4, 4, 4, 4, 5, 5, 5, 5, 5, 5, 5, 5, 5, 5, 5, 5, 5, 5, 5, 5, 6, 6, 6, 6, 6, 6, 6, 6, 6, 6, 6, 6, 6, 6, 6, 6, 6, 6, 6, 6, 6, 6, 6, 6, 6, 6, 6, 6, 6, 6, 6, 6].append [7, 7, 7, 7, 7, 7, 7, 7, 7, 7, 7, 7, 7, 7, 7, 7, 7, 7, 7, 7, 7, 7, 7, 7, 7, 7, 7, 7, 7, 7, 7, 7, 7, 7, 7, 7, 7, 7, 7, 7, 7, 7, 7, 7, 7, 7, 7, 7, 7, 7, 7, 7, 7, 7, 7, 7, 7, 7, 7, 7, 7, 7, 7, 7]).append ([8, 8, 8, 8, 8, 8, 8, 8, 8, 8, 8, 8, 8, 8, 8, 8, 8, 8, 8, 8, 8, 8, 8, 8, 8, 8, 8, 8, 8, 8, 8, 8, 8, 8, 8, 8, 8, 8, 8, 8, 8, 8, 8, 8, 8, 8, 8, 8, 8, 8, 8, 8, 8, 8, 8, 8, 8, 8, 8, 8, 8, 8, 8, 8].append [8, 8, 8, 8, 8, 8, 8, 8, 8, 8, 8, 8, 8, 8, 8, 8, 8, 8, 8, 8, 8, 8, 8, 8, 8, 8, 8, 8, 8, 8, 8, 8, 8, 8, 8, 8, 8, 8, 8, 8, 8, 8, 8, 8, 8, 8, 8, 8, 8, 8, 8, 8, 8, 8, 8, 8, 8, 8, 8, 8, 8, 8, 8, 8])).toArray }) v62).bind fun v64 =>
obH (cv 5 3 v64 h63) fun v65 h66 =>
(bn .add 3 (.int .i64 0) v65).bind fun v67 =>
k .ret ⟨ar 25 (up x [(2,v67),(3,(x 0)),(4,v0),(7,(x 0)),(8,v35),(13,(x 0)),(14,v53),(19,(.int .i64 0)),(20,(x 0)),(21,v62),(22,v64),(23,v65),(24,v67)]), h66⟩))) := by kernel_rfl
theorem call105 (a0 : Value) : evC Tryd.prog 105 #[a0] h = cK c105_0 25 (up un [(0,a0)]) (nm h) (retK Tryd.f105 Tryd.prog h) :=
  (evC_call 105 Tryd.f105 c105_0 Tryd.func105 (by kernel_rfl) #[a0] h).trans (by kernel_rfl)
noncomputable def c94_0 : Code := bodyC Tryd.f94 []
theorem c94_0_eq : cK c94_0 8 x h k =
cnd (.bool false) (
obH (cv 79 170 (x 0) h) fun v0 h1 =>
obH (ev 104 #[v0] h1) fun v2 h3 =>
k .ret ⟨ar 8 (up x [(2,v2),(3,(x 0)),(4,v0),(5,v2)]), h3⟩) (
obH (ev 105 #[x 0] h) fun v4 h5 =>
k .ret ⟨ar 8 (up x [(2,v4),(6,(x 0)),(7,v4)]), h5⟩) := by kernel_rfl
theorem call94 (a0 : Value) : evC Tryd.prog 94 #[a0] h = cK c94_0 8 (up un [(0,a0)]) (nm h) (retK Tryd.f94 Tryd.prog h) :=
  (evC_call 94 Tryd.f94 c94_0 Tryd.func94 (by kernel_rfl) #[a0] h).trans (by kernel_rfl)
theorem ret94 : retK Tryd.f94 Tryd.prog g .ret ⟨ar 8 x, h⟩ = fin g (some (x 2)) h := by kernel_rfl
noncomputable def c93_0 : Code := bodyC Tryd.f93 []
noncomputable def c93_1 : Code := bodyC Tryd.f93 [true, true, false, false]
theorem c93_0_eq : cK c93_0 134 x h k =
lK c93_1 134 (up x [(8,(.bool true)),(9,(.bool true))]) h (blockK 0 k) := by kernel_rfl
theorem c93_1_eq : cK c93_1 134 x h k =
(bn .sub 3 (x 2) (x 1)).bind fun v0 =>
(bn .leq 3 v0 (.int .i64 12)).bind fun v1 =>
cnd v1 (
obH (ev 95 #[x 0,x 1,x 2] h) fun v2 h3 =>
k .ret ⟨ar 134 (up x [(10,v0),(19,(x 2)),(20,(x 1)),(21,v0),(22,v0),(23,v1),(24,(x 0)),(25,(x 1)),(26,(x 2)),(27,v2)]), h3⟩) (
(bn .eql 3 (x 3) (.int .i64 0)).bind fun v4 =>
cnd v4 (
obH (ev 96 #[x 0,x 1,x 2] h) fun v5 h6 =>
k .ret ⟨ar 134 (up x [(10,v0),(19,(x 2)),(20,(x 1)),(21,v0),(22,v0),(23,v1),(28,(x 3)),(29,v4),(30,(x 0)),(31,(x 1)),(32,(x 2)),(33,v5)]), h6⟩) (
(unV Tryd.prog .not (x 8)).bind fun v7 =>
cnd v7 (
obH (ev 97 #[x 0,x 1,x 2] h) fun v8 h9 =>
(bn .sub 3 (x 3) (.int .i64 1)).bind fun v10 =>
obH (ev 98 #[x 0,x 1,x 2] h9) fun v11 h12 =>
(extractV v11 0).bind fun v13 =>
(extractV v11 1).bind fun v14 =>
(bn .eql 161 v14 (.int .i64 2)).bind fun v15 =>
cnd v15 (
obH (ev 99 #[x 0,x 1,x 2] h12) fun v16 h17 =>
(bn .sub 3 (x 2) (.int .i64 1)).bind fun v18 =>
(bn .sub 3 v13 (x 1)).bind fun v19 =>
(bn .sub 3 v18 v19).bind fun v20 =>
(pickV (x 8) (gdV (wt (x 8) true) (x 9)) (.bool false)).bind fun v21 =>
(gd (wt v21 true) (bn .eql 161 (gdV (wt v21 true) (.int .i64 1)) (.int .i64 1))).bind fun v22 =>
(pickV v21 v22 (.bool false)).bind fun v23 =>
cnd v23 (
obH (ev 100 #[x 0,x 1,x 2] h17) fun v24 h25 =>
cnd v24 (
k .ret ⟨ar 134 (up x [(3,v10),(10,v0),(11,v20),(12,(.int .i64 1)),(19,(x 2)),(20,(x 1)),(21,v0),(22,v0),(23,v1),(28,(x 3)),(29,v4),(34,(x 8)),(35,v7),(36,(x 0)),(37,(x 1)),(38,(x 2)),(39,v8),(40,(x 3)),(41,v10),(42,v11),(43,(x 0)),(44,(x 1)),(45,(x 2)),(46,v11),(47,v13),(48,v14),(49,v14),(50,v15),(51,(x 0)),(52,(x 1)),(53,(x 2)),(54,v16),(55,(x 2)),(56,v18),(57,v13),(58,(x 1)),(59,v19),(60,v20),(61,(x 8)),(62,(x 8)),(63,(gdV (wt (x 8) true) (x 9))),(64,v21),(65,v21),(66,(gdV (wt v21 true) (.int .i64 1))),(67,v22),(68,v23),(69,(x 0)),(70,(x 1)),(71,(x 2)),(72,v24)]), h25⟩) (
(bn .gtr 3 (x 1) (.int .i64 0)).bind fun v26 =>
(gd (wt v26 true) (bn .sub 3 (gdV (wt v26 true) (x 1)) (.int .i64 1))).bind fun v27 =>
(gd (wt v26 true) (ia 102 (gdV (wt v26 true) (x 0)) v27)).bind fun v28 =>
(gd (wt v26 true) (ld 29 v28 h25)).bind fun v29 =>
(gd (wt v26 true) (ia 102 (gdV (wt v26 true) (x 0)) (gdV (wt v26 true) v20))).bind fun v30 =>
(gd (wt v26 true) (ld 29 v30 h25)).bind fun v31 =>
obH (gdH (wt v26 true) h25 (ev 101 #[v29,v31] h25)) fun v32 h33 =>
(gd (wt v26 true) (unV Tryd.prog .not v32)).bind fun v34 =>
(pickV v26 v34 (.bool false)).bind fun v35 =>
cnd v35 (
obH (ev 102 #[x 0,x 1,x 2,v20] h33) fun v36 h37 =>
k .normal ⟨ar 134 (up x [(1,v36),(3,v10),(10,v0),(11,v20),(12,(.int .i64 1)),(13,v36),(19,(x 2)),(20,(x 1)),(21,v0),(22,v0),(23,v1),(28,(x 3)),(29,v4),(34,(x 8)),(35,v7),(36,(x 0)),(37,(x 1)),(38,(x 2)),(39,v8),(40,(x 3)),(41,v10),(42,v11),(43,(x 0)),(44,(x 1)),(45,(x 2)),(46,v11),(47,v13),(48,v14),(49,v14),(50,v15),(51,(x 0)),(52,(x 1)),(53,(x 2)),(54,v16),(55,(x 2)),(56,v18),(57,v13),(58,(x 1)),(59,v19),(60,v20),(61,(x 8)),(62,(x 8)),(63,(gdV (wt (x 8) true) (x 9))),(64,v21),(65,v21),(66,(gdV (wt v21 true) (.int .i64 1))),(67,v22),(68,v23),(69,(x 0)),(70,(x 1)),(71,(x 2)),(72,v24),(73,(x 1)),(74,v26),(75,v26),(76,(gdV (wt v26 true) (x 0))),(77,(gdV (wt v26 true) (x 1))),(78,v27),(79,v28),(80,v29),(81,(gdV (wt v26 true) (x 0))),(82,(gdV (wt v26 true) v20)),(83,v30),(84,v31),(85,v32),(86,v34),(87,v35),(88,(x 0)),(89,(x 1)),(90,(x 2)),(91,v20),(92,v36),(93,v36)]), h37⟩) (
obH (ev 103 #[x 0,x 1,x 2,v20] h33) fun v38 h39 =>
(extractV v38 0).bind fun v40 =>
(extractV v38 1).bind fun v41 =>
(bn .sub 3 v40 (x 1)).bind fun v42 =>
(bn .sub 3 (x 2) v40).bind fun v43 =>
(bn .quo 3 v0 (.int .i64 8)).bind fun v44 =>
(bn .lss 3 v42 v43).bind fun v45 =>
cnd v45 (
(bn .geq 3 v42 v44).bind fun v46 =>
obH (ev 93 #[x 0,x 1,v40,v10] h39) fun v47 h48 =>
(bn .add 3 v40 (.int .i64 1)).bind fun v49 =>
k .normal ⟨ar 134 (up x [(1,v49),(3,v10),(8,v46),(9,v41),(10,v0),(11,v20),(12,(.int .i64 1)),(14,v40),(15,v41),(16,v42),(17,v43),(18,v44),(19,(x 2)),(20,(x 1)),(21,v0),(22,v0),(23,v1),(28,(x 3)),(29,v4),(34,(x 8)),(35,v7),(36,(x 0)),(37,(x 1)),(38,(x 2)),(39,v8),(40,(x 3)),(41,v10),(42,v11),(43,(x 0)),(44,(x 1)),(45,(x 2)),(46,v11),(47,v13),(48,v14),(49,v14),(50,v15),(51,(x 0)),(52,(x 1)),(53,(x 2)),(54,v16),(55,(x 2)),(56,v18),(57,v13),(58,(x 1)),(59,v19),(60,v20),(61,(x 8)),(62,(x 8)),(63,(gdV (wt (x 8) true) (x 9))),(64,v21),(65,v21),(66,(gdV (wt v21 true) (.int .i64 1))),(67,v22),(68,v23),(69,(x 0)),(70,(x 1)),(71,(x 2)),(72,v24),(73,(x 1)),(74,v26),(75,v26),(76,(gdV (wt v26 true) (x 0))),(77,(gdV (wt v26 true) (x 1))),(78,v27),(79,v28),(80,v29),(81,(gdV (wt v26 true) (x 0))),(82,(gdV (wt v26 true) v20)),(83,v30),(84,v31),(85,v32),(86,v34),(87,v35),(94,v38),(95,(x 0)),(96,(x 1)),(97,(x 2)),(98,v20),(99,v38),(100,v40),(101,v41),(102,v41),(103,v40),(104,(x 1)),(105,v42),(106,(x 2)),(107,v40),(108,v43),(109,v0),(110,v44),(111,v42),(112,v43),(113,v45),(114,v42),(115,v44),(116,v46),(117,(x 0)),(118,(x 1)),(119,v40),(120,v10),(121,v47),(122,v40),(123,v49)]), h48⟩) (
(bn .geq 3 v43 v44).bind fun v50 =>
(bn .add 3 v40 (.int .i64 1)).bind fun v51 =>
obH (ev 93 #[x 0,v51,x 2,v10] h39) fun v52 h53 =>
k .normal ⟨ar 134 (up x [(2,v40),(3,v10),(8,v50),(9,v41),(10,v0),(11,v20),(12,(.int .i64 1)),(14,v40),(15,v41),(16,v42),(17,v43),(18,v44),(19,(x 2)),(20,(x 1)),(21,v0),(22,v0),(23,v1),(28,(x 3)),(29,v4),(34,(x 8)),(35,v7),(36,(x 0)),(37,(x 1)),(38,(x 2)),(39,v8),(40,(x 3)),(41,v10),(42,v11),(43,(x 0)),(44,(x 1)),(45,(x 2)),(46,v11),(47,v13),(48,v14),(49,v14),(50,v15),(51,(x 0)),(52,(x 1)),(53,(x 2)),(54,v16),(55,(x 2)),(56,v18),(57,v13),(58,(x 1)),(59,v19),(60,v20),(61,(x 8)),(62,(x 8)),(63,(gdV (wt (x 8) true) (x 9))),(64,v21),(65,v21),(66,(gdV (wt v21 true) (.int .i64 1))),(67,v22),(68,v23),(69,(x 0)),(70,(x 1)),(71,(x 2)),(72,v24),(73,(x 1)),(74,v26),(75,v26),(76,(gdV (wt v26 true) (x 0))),(77,(gdV (wt v26 true) (x 1))),(78,v27),(79,v28),(80,v29),(81,(gdV (wt v26 true) (x 0))),(82,(gdV (wt v26 true) v20)),(83,v30),(84,v31),(85,v32),(86,v34),(87,v35),(94,v38),(95,(x 0)),(96,(x 1)),(97,(x 2)),(98,v20),(99,v38),(100,v40),(101,v41),(102,v41),(103,v40),(104,(x 1)),(105,v42),(106,(x 2)),(107,v40),(108,v43),(109,v0),(110,v44),(111,v42),(112,v43),(113,v45),(124,v43),(125,v44),(126,v50),(127,(x 0)),(128,v40),(129,v51),(130,(x 2)),(131,v10),(132,v52),(133,v40)]), h53⟩)))) (
(bn .gtr 3 (x 1) (.int .i64 0)).bind fun v54 =>
(gd (wt v54 true) (bn .sub 3 (gdV (wt v54 true) (x 1)) (.int .i64 1))).bind fun v55 =>
(gd (wt v54 true) (ia 102 (gdV (wt v54 true) (x 0)) v55)).bind fun v56 =>
(gd (wt v54 true) (ld 29 v56 h17)).bind fun v57 =>
(gd (wt v54 true) (ia 102 (gdV (wt v54 true) (x 0)) (gdV (wt v54 true) v20))).bind fun v58 =>
(gd (wt v54 true) (ld 29 v58 h17)).bind fun v59 =>
obH (gdH (wt v54 true) h17 (ev 101 #[v57,v59] h17)) fun v60 h61 =>
(gd (wt v54 true) (unV Tryd.prog .not v60)).bind fun v62 =>
(pickV v54 v62 (.bool false)).bind fun v63 =>
cnd v63 (
obH (ev 102 #[x 0,x 1,x 2,v20] h61) fun v64 h65 =>
k .normal ⟨ar 134 (up x [(1,v64),(3,v10),(10,v0),(11,v20),(12,(.int .i64 1)),(13,v64),(19,(x 2)),(20,(x 1)),(21,v0),(22,v0),(23,v1),(28,(x 3)),(29,v4),(34,(x 8)),(35,v7),(36,(x 0)),(37,(x 1)),(38,(x 2)),(39,v8),(40,(x 3)),(41,v10),(42,v11),(43,(x 0)),(44,(x 1)),(45,(x 2)),(46,v11),(47,v13),(48,v14),(49,v14),(50,v15),(51,(x 0)),(52,(x 1)),(53,(x 2)),(54,v16),(55,(x 2)),(56,v18),(57,v13),(58,(x 1)),(59,v19),(60,v20),(61,(x 8)),(62,(x 8)),(63,(gdV (wt (x 8) true) (x 9))),(64,v21),(65,v21),(66,(gdV (wt v21 true) (.int .i64 1))),(67,v22),(68,v23),(73,(x 1)),(74,v54),(75,v54),(76,(gdV (wt v54 true) (x 0))),(77,(gdV (wt v54 true) (x 1))),(78,v55),(79,v56),(80,v57),(81,(gdV (wt v54 true) (x 0))),(82,(gdV (wt v54 true) v20)),(83,v58),(84,v59),(85,v60),(86,v62),(87,v63),(88,(x 0)),(89,(x 1)),(90,(x 2)),(91,v20),(92,v64),(93,v64)]), h65⟩) (
obH (ev 103 #[x 0,x 1,x 2,v20] h61) fun v66 h67 =>
(extractV v66 0).bind fun v68 =>
(extractV v66 1).bind fun v69 =>
(bn .sub 3 v68 (x 1)).bind fun v70 =>
(bn .sub 3 (x 2) v68).bind fun v71 =>
(bn .quo 3 v0 (.int .i64 8)).bind fun v72 =>
(bn .lss 3 v70 v71).bind fun v73 =>
cnd v73 (
(bn .geq 3 v70 v72).bind fun v74 =>
obH (ev 93 #[x 0,x 1,v68,v10] h67) fun v75 h76 =>
(bn .add 3 v68 (.int .i64 1)).bind fun v77 =>
k .normal ⟨ar 134 (up x [(1,v77),(3,v10),(8,v74),(9,v69),(10,v0),(11,v20),(12,(.int .i64 1)),(14,v68),(15,v69),(16,v70),(17,v71),(18,v72),(19,(x 2)),(20,(x 1)),(21,v0),(22,v0),(23,v1),(28,(x 3)),(29,v4),(34,(x 8)),(35,v7),(36,(x 0)),(37,(x 1)),(38,(x 2)),(39,v8),(40,(x 3)),(41,v10),(42,v11),(43,(x 0)),(44,(x 1)),(45,(x 2)),(46,v11),(47,v13),(48,v14),(49,v14),(50,v15),(51,(x 0)),(52,(x 1)),(53,(x 2)),(54,v16),(55,(x 2)),(56,v18),(57,v13),(58,(x 1)),(59,v19),(60,v20),(61,(x 8)),(62,(x 8)),(63,(gdV (wt (x 8) true) (x 9))),(64,v21),(65,v21),(66,(gdV (wt v21 true) (.int .i64 1))),(67,v22),(68,v23),(73,(x 1)),(74,v54),(75,v54),(76,(gdV (wt v54 true) (x 0))),(77,(gdV (wt v54 true) (x 1))),(78,v55),(79,v56),(80,v57),(81,(gdV (wt v54 true) (x 0))),(82,(gdV (wt v54 true) v20)),(83,v58),(84,v59),(85,v60),(86,v62),(87,v63),(94,v66),(95,(x 0)),(96,(x 1)),(97,(x 2)),(98,v20),(99,v66),(100,v68),(101,v69),(102,v69),(103,v68),(104,(x 1)),(105,v70),(106,(x 2)),(107,v68),(108,v71),(109,v0),(110,v72),(111,v70),(112,v71),(113,v73),(114,v70),(115,v72),(116,v74),(117,(x 0)),(118,(x 1)),(119,v68),(120,v10),(121,v75),(122,v68),(123,v77)]), h76⟩) (
(bn .geq 3 v71 v72).bind fun v78 =>
(bn .add 3 v68 (.int .i64 1)).bind fun v79 =>
obH (ev 93 #[x 0,v79,x 2,v10] h67) fun v80 h81 =>
k .normal ⟨ar 134 (up x [(2,v68),(3,v10),(8,v78),(9,v69),(10,v0),(11,v20),(12,(.int .i64 1)),(14,v68),(15,v69),(16,v70),(17,v71),(18,v72),(19,(x 2)),(20,(x 1)),(21,v0),(22,v0),(23,v1),(28,(x 3)),(29,v4),(34,(x 8)),(35,v7),(36,(x 0)),(37,(x 1)),(38,(x 2)),(39,v8),(40,(x 3)),(41,v10),(42,v11),(43,(x 0)),(44,(x 1)),(45,(x 2)),(46,v11),(47,v13),(48,v14),(49,v14),(50,v15),(51,(x 0)),(52,(x 1)),(53,(x 2)),(54,v16),(55,(x 2)),(56,v18),(57,v13),(58,(x 1)),(59,v19),(60,v20),(61,(x 8)),(62,(x 8)),(63,(gdV (wt (x 8) true) (x 9))),(64,v21),(65,v21),(66,(gdV (wt v21 true) (.int .i64 1))),(67,v22),(68,v23),(73,(x 1)),(74,v54),(75,v54),(76,(gdV (wt v54 true) (x 0))),(77,(gdV (wt v54 true) (x 1))),(78,v55),(79,v56),(80,v57),(81,(gdV (wt v54 true) (x 0))),(82,(gdV (wt v54 true) v20)),(83,v58),(84,v59),(85,v60),(86,v62),(87,v63),(94,v66),(95,(x 0)),(96,(x 1)),(97,(x 2)),(98,v20),(99,v66),(100,v68),(101,v69),(102,v69),(103,v68),(104,(x 1)),(105,v70),(106,(x 2)),(107,v68),(108,v71),(109,v0),(110,v72),(111,v70),(112,v71),(113,v73),(124,v71),(125,v72),(126,v78),(127,(x 0)),(128,v68),(129,v79),(130,(x 2)),(131,v10),(132,v80),(133,v68)]), h81⟩)))) (
(pickV (x 8) (gdV (wt (x 8) true) (x 9)) (.bool false)).bind fun v82 =>
(gd (wt v82 true) (bn .eql 161 (gdV (wt v82 true) v14) (.int .i64 1))).bind fun v83 =>
(pickV v82 v83 (.bool false)).bind fun v84 =>
cnd v84 (
obH (ev 100 #[x 0,x 1,x 2] h12) fun v85 h86 =>
cnd v85 (
k .ret ⟨ar 134 (up x [(3,v10),(10,v0),(11,v13),(12,v14),(19,(x 2)),(20,(x 1)),(21,v0),(22,v0),(23,v1),(28,(x 3)),(29,v4),(34,(x 8)),(35,v7),(36,(x 0)),(37,(x 1)),(38,(x 2)),(39,v8),(40,(x 3)),(41,v10),(42,v11),(43,(x 0)),(44,(x 1)),(45,(x 2)),(46,v11),(47,v13),(48,v14),(49,v14),(50,v15),(61,(x 8)),(62,(x 8)),(63,(gdV (wt (x 8) true) (x 9))),(64,v82),(65,v82),(66,(gdV (wt v82 true) v14)),(67,v83),(68,v84),(69,(x 0)),(70,(x 1)),(71,(x 2)),(72,v85)]), h86⟩) (
(bn .gtr 3 (x 1) (.int .i64 0)).bind fun v87 =>
(gd (wt v87 true) (bn .sub 3 (gdV (wt v87 true) (x 1)) (.int .i64 1))).bind fun v88 =>
(gd (wt v87 true) (ia 102 (gdV (wt v87 true) (x 0)) v88)).bind fun v89 =>
(gd (wt v87 true) (ld 29 v89 h86)).bind fun v90 =>
(gd (wt v87 true) (ia 102 (gdV (wt v87 true) (x 0)) (gdV (wt v87 true) v13))).bind fun v91 =>
(gd (wt v87 true) (ld 29 v91 h86)).bind fun v92 =>
obH (gdH (wt v87 true) h86 (ev 101 #[v90,v92] h86)) fun v93 h94 =>
(gd (wt v87 true) (unV Tryd.prog .not v93)).bind fun v95 =>
(pickV v87 v95 (.bool false)).bind fun v96 =>
cnd v96 (
obH (ev 102 #[x 0,x 1,x 2,v13] h94) fun v97 h98 =>
k .normal ⟨ar 134 (up x [(1,v97),(3,v10),(10,v0),(11,v13),(12,v14),(13,v97),(19,(x 2)),(20,(x 1)),(21,v0),(22,v0),(23,v1),(28,(x 3)),(29,v4),(34,(x 8)),(35,v7),(36,(x 0)),(37,(x 1)),(38,(x 2)),(39,v8),(40,(x 3)),(41,v10),(42,v11),(43,(x 0)),(44,(x 1)),(45,(x 2)),(46,v11),(47,v13),(48,v14),(49,v14),(50,v15),(61,(x 8)),(62,(x 8)),(63,(gdV (wt (x 8) true) (x 9))),(64,v82),(65,v82),(66,(gdV (wt v82 true) v14)),(67,v83),(68,v84),(69,(x 0)),(70,(x 1)),(71,(x 2)),(72,v85),(73,(x 1)),(74,v87),(75,v87),(76,(gdV (wt v87 true) (x 0))),(77,(gdV (wt v87 true) (x 1))),(78,v88),(79,v89),(80,v90),(81,(gdV (wt v87 true) (x 0))),(82,(gdV (wt v87 true) v13)),(83,v91),(84,v92),(85,v93),(86,v95),(87,v96),(88,(x 0)),(89,(x 1)),(90,(x 2)),(91,v13),(92,v97),(93,v97)]), h98⟩) (
obH (ev 103 #[x 0,x 1,x 2,v13] h94) fun v99 h100 =>
(extractV v99 0).bind fun v101 =>
(extractV v99 1).bind fun v102 =>
(bn .sub 3 v101 (x 1)).bind fun v103 =>
(bn .sub 3 (x 2) v101).bind fun v104 =>
(bn .quo 3 v0 (.int .i64 8)).bind fun v105 =>
(bn .lss 3 v103 v104).bind fun v106 =>
cnd v106 (
(bn .geq 3 v103 v105).bind fun v107 =>
obH (ev 93 #[x 0,x 1,v101,v10] h100) fun v108 h109 =>
(bn .add 3 v101 (.int .i64 1)).bind fun v110 =>
k .normal ⟨ar 134 (up x [(1,v110),(3,v10),(8,v107),(9,v102),(10,v0),(11,v13),(12,v14),(14,v101),(15,v102),(16,v103),(17,v104),(18,v105),(19,(x 2)),(20,(x 1)),(21,v0),(22,v0),(23,v1),(28,(x 3)),(29,v4),(34,(x 8)),(35,v7),(36,(x 0)),(37,(x 1)),(38,(x 2)),(39,v8),(40,(x 3)),(41,v10),(42,v11),(43,(x 0)),(44,(x 1)),(45,(x 2)),(46,v11),(47,v13),(48,v14),(49,v14),(50,v15),(61,(x 8)),(62,(x 8)),(63,(gdV (wt (x 8) true) (x 9))),(64,v82),(65,v82),(66,(gdV (wt v82 true) v14)),(67,v83),(68,v84),(69,(x 0)),(70,(x 1)),(71,(x 2)),(72,v85),(73,(x 1)),(74,v87),(75,v87),(76,(gdV (wt v87 true) (x 0))),(77,(gdV (wt v87 true) (x 1))),(78,v88),(79,v89),(80,v90),(81,(gdV (wt v87 true) (x 0))),(82,(gdV (wt v87 true) v13)),(83,v91),(84,v92),(85,v93),(86,v95),(87,v96),(94,v99),(95,(x 0)),(96,(x 1)),(97,(x 2)),(98,v13),(99,v99),(100,v101),(101,v102),(102,v102),(103,v101),(104,(x 1)),(105,v103),(106,(x 2)),(107,v101),(108,v104),(109,v0),(110,v105),(111,v103),(112,v104),(113,v106),(114,v103),(115,v105),(116,v107),(117,(x 0)),(118,(x 1)),(119,v101),(120,v10),(121,v108),(122,v101),(123,v110)]), h109⟩) (
(bn .geq 3 v104 v105).bind fun v111 =>
(bn .add 3 v101 (.int .i64 1)).bind fun v112 =>
obH (ev 93 #[x 0,v112,x 2,v10] h100) fun v113 h114 =>
k .normal ⟨ar 134 (up x [(2,v101),(3,v10),(8,v111),(9,v102),(10,v0),(11,v13),(12,v14),(14,v101),(15,v102),(16,v103),(17,v104),(18,v105),(19,(x 2)),(20,(x 1)),(21,v0),(22,v0),(23,v1),(28,(x 3)),(29,v4),(34,(x 8)),(35,v7),(36,(x 0)),(37,(x 1)),(38,(x 2)),(39,v8),(40,(x 3)),(41,v10),(42,v11),(43,(x 0)),(44,(x 1)),(45,(x 2)),(46,v11),(47,v13),(48,v14),(49,v14),(50,v15),(61,(x 8)),(62,(x 8)),(63,(gdV (wt (x 8) true) (x 9))),(64,v82),(65,v82),(66,(gdV (wt v82 true) v14)),(67,v83),(68,v84),(69,(x 0)),(70,(x 1)),(71,(x 2)),(72,v85),(73,(x 1)),(74,v87),(75,v87),(76,(gdV (wt v87 true) (x 0))),(77,(gdV (wt v87 true) (x 1))),(78,v88),(79,v89),(80,v90),(81,(gdV (wt v87 true) (x 0))),(82,(gdV (wt v87 true) v13)),(83,v91),(84,v92),(85,v93),(86,v95),(87,v96),(94,v99),(95,(x 0)),(96,(x 1)),(97,(x 2)),(98,v13),(99,v99),(100,v101),(101,v102),(102,v102),(103,v101),(104,(x 1)),(105,v103),(106,(x 2)),(107,v101),(108,v104),(109,v0),(110,v105),(111,v103),(112,v104),(113,v106),(124,v104),(125,v105),(126,v111),(127,(x 0)),(128,v101),(129,v112),(130,(x 2)),(131,v10),(132,v113),(133,v101)]), h114⟩)))) (
(bn .gtr 3 (x 1) (.int .i64 0)).bind fun v115 =>
(gd (wt v115 true) (bn .sub 3 (gdV (wt v115 true) (x 1)) (.int .i64 1))).bind fun v116 =>
(gd (wt v115 true) (ia 102 (gdV (wt v115 true) (x 0)) v116)).bind fun v117 =>
(gd (wt v115 true) (ld 29 v117 h12)).bind fun v118 =>
(gd (wt v115 true) (ia 102 (gdV (wt v115 true) (x 0)) (gdV (wt v115 true) v13))).bind fun v119 =>
(gd (wt v115 true) (ld 29 v119 h12)).bind fun v120 =>
obH (gdH (wt v115 true) h12 (ev 101 #[v118,v120] h12)) fun v121 h122 =>
(gd (wt v115 true) (unV Tryd.prog .not v121)).bind fun v123 =>
(pickV v115 v123 (.bool false)).bind fun v124 =>
cnd v124 (
obH (ev 102 #[x 0,x 1,x 2,v13] h122) fun v125 h126 =>
k .normal ⟨ar 134 (up x [(1,v125),(3,v10),(10,v0),(11,v13),(12,v14),(13,v125),(19,(x 2)),(20,(x 1)),(21,v0),(22,v0),(23,v1),(28,(x 3)),(29,v4),(34,(x 8)),(35,v7),(36,(x 0)),(37,(x 1)),(38,(x 2)),(39,v8),(40,(x 3)),(41,v10),(42,v11),(43,(x 0)),(44,(x 1)),(45,(x 2)),(46,v11),(47,v13),(48,v14),(49,v14),(50,v15),(61,(x 8)),(62,(x 8)),(63,(gdV (wt (x 8) true) (x 9))),(64,v82),(65,v82),(66,(gdV (wt v82 true) v14)),(67,v83),(68,v84),(73,(x 1)),(74,v115),(75,v115),(76,(gdV (wt v115 true) (x 0))),(77,(gdV (wt v115 true) (x 1))),(78,v116),(79,v117),(80,v118),(81,(gdV (wt v115 true) (x 0))),(82,(gdV (wt v115 true) v13)),(83,v119),(84,v120),(85,v121),(86,v123),(87,v124),(88,(x 0)),(89,(x 1)),(90,(x 2)),(91,v13),(92,v125),(93,v125)]), h126⟩) (
obH (ev 103 #[x 0,x 1,x 2,v13] h122) fun v127 h128 =>
(extractV v127 0).bind fun v129 =>
(extractV v127 1).bind fun v130 =>
(bn .sub 3 v129 (x 1)).bind fun v131 =>
(bn .sub 3 (x 2) v129).bind fun v132 =>
(bn .quo 3 v0 (.int .i64 8)).bind fun v133 =>
(bn .lss 3 v131 v132).bind fun v134 =>
cnd v134 (
(bn .geq 3 v131 v133).bind fun v135 =>
obH (ev 93 #[x 0,x 1,v129,v10] h128) fun v136 h137 =>
(bn .add 3 v129 (.int .i64 1)).bind fun v138 =>
k .normal ⟨ar 134 (up x [(1,v138),(3,v10),(8,v135),(9,v130),(10,v0),(11,v13),(12,v14),(14,v129),(15,v130),(16,v131),(17,v132),(18,v133),(19,(x 2)),(20,(x 1)),(21,v0),(22,v0),(23,v1),(28,(x 3)),(29,v4),(34,(x 8)),(35,v7),(36,(x 0)),(37,(x 1)),(38,(x 2)),(39,v8),(40,(x 3)),(41,v10),(42,v11),(43,(x 0)),(44,(x 1)),(45,(x 2)),(46,v11),(47,v13),(48,v14),(49,v14),(50,v15),(61,(x 8)),(62,(x 8)),(63,(gdV (wt (x 8) true) (x 9))),(64,v82),(65,v82),(66,(gdV (wt v82 true) v14)),(67,v83),(68,v84),(73,(x 1)),(74,v115),(75,v115),(76,(gdV (wt v115 true) (x 0))),(77,(gdV (wt v115 true) (x 1))),(78,v116),(79,v117),(80,v118),(81,(gdV (wt v115 true) (x 0))),(82,(gdV (wt v115 true) v13)),(83,v119),(84,v120),(85,v121),(86,v123),(87,v124),(94,v127),(95,(x 0)),(96,(x 1)),(97,(x 2)),(98,v13),(99,v127),(100,v129),(101,v130),(102,v130),(103,v129),(104,(x 1)),(105,v131),(106,(x 2)),(107,v129),(108,v132),(109,v0),(110,v133),(111,v131),(112,v132),(113,v134),(114,v131),(115,v133),(116,v135),(117,(x 0)),(118,(x 1)),(119,v129),(120,v10),(121,v136),(122,v129),(123,v138)]), h137⟩) (
(bn .geq 3 v132 v133).bind fun v139 =>
(bn .add 3 v129 (.int .i64 1)).bind fun v140 =>
obH (ev 93 #[x 0,v140,x 2,v10] h128) fun v141 h142 =>
k .normal ⟨ar 134 (up x [(2,v129),(3,v10),(8,v139),(9,v130),(10,v0),(11,v13),(12,v14),(14,v129),(15,v130),(16,v131),(17,v132),(18,v133),(19,(x 2)),(20,(x 1)),(21,v0),(22,v0),(23,v1),(28,(x 3)),(29,v4),(34,(x 8)),(35,v7),(36,(x 0)),(37,(x 1)),(38,(x 2)),(39,v8),(40,(x 3)),(41,v10),(42,v11),(43,(x 0)),(44,(x 1)),(45,(x 2)),(46,v11),(47,v13),(48,v14),(49,v14),(50,v15),(61,(x 8)),(62,(x 8)),(63,(gdV (wt (x 8) true) (x 9))),(64,v82),(65,v82),(66,(gdV (wt v82 true) v14)),(67,v83),(68,v84),(73,(x 1)),(74,v115),(75,v115),(76,(gdV (wt v115 true) (x 0))),(77,(gdV (wt v115 true) (x 1))),(78,v116),(79,v117),(80,v118),(81,(gdV (wt v115 true) (x 0))),(82,(gdV (wt v115 true) v13)),(83,v119),(84,v120),(85,v121),(86,v123),(87,v124),(94,v127),(95,(x 0)),(96,(x 1)),(97,(x 2)),(98,v13),(99,v127),(100,v129),(101,v130),(102,v130),(103,v129),(104,(x 1)),(105,v131),(106,(x 2)),(107,v129),(108,v132),(109,v0),(110,v133),(111,v131),(112,v132),(113,v134),(124,v132),(125,v133),(126,v139),(127,(x 0)),(128,v129),(129,v140),(130,(x 2)),(131,v10),(132,v141),(133,v129)]), h142⟩))))) (
obH (ev 98 #[x 0,x 1,x 2] h) fun v143 h144 =>
(extractV v143 0).bind fun v145 =>
(extractV v143 1).bind fun v146 =>
(bn .eql 161 v146 (.int .i64 2)).bind fun v147 =>
cnd v147 (
obH (ev 99 #[x 0,x 1,x 2] h144) fun v148 h149 =>
(bn .sub 3 (x 2) (.int .i64 1)).bind fun v150 =>
(bn .sub 3 v145 (x 1)).bind fun v151 =>
(bn .sub 3 v150 v151).bind fun v152 =>
(pickV (x 8) (gdV (wt (x 8) true) (x 9)) (.bool false)).bind fun v153 =>
(gd (wt v153 true) (bn .eql 161 (gdV (wt v153 true) (.int .i64 1)) (.int .i64 1))).bind fun v154 =>
(pickV v153 v154 (.bool false)).bind fun v155 =>
cnd v155 (
obH (ev 100 #[x 0,x 1,x 2] h149) fun v156 h157 =>
cnd v156 (
k .ret ⟨ar 134 (up x [(10,v0),(11,v152),(12,(.int .i64 1)),(19,(x 2)),(20,(x 1)),(21,v0),(22,v0),(23,v1),(28,(x 3)),(29,v4),(34,(x 8)),(35,v7),(42,v143),(43,(x 0)),(44,(x 1)),(45,(x 2)),(46,v143),(47,v145),(48,v146),(49,v146),(50,v147),(51,(x 0)),(52,(x 1)),(53,(x 2)),(54,v148),(55,(x 2)),(56,v150),(57,v145),(58,(x 1)),(59,v151),(60,v152),(61,(x 8)),(62,(x 8)),(63,(gdV (wt (x 8) true) (x 9))),(64,v153),(65,v153),(66,(gdV (wt v153 true) (.int .i64 1))),(67,v154),(68,v155),(69,(x 0)),(70,(x 1)),(71,(x 2)),(72,v156)]), h157⟩) (
(bn .gtr 3 (x 1) (.int .i64 0)).bind fun v158 =>
(gd (wt v158 true) (bn .sub 3 (gdV (wt v158 true) (x 1)) (.int .i64 1))).bind fun v159 =>
(gd (wt v158 true) (ia 102 (gdV (wt v158 true) (x 0)) v159)).bind fun v160 =>
(gd (wt v158 true) (ld 29 v160 h157)).bind fun v161 =>
(gd (wt v158 true) (ia 102 (gdV (wt v158 true) (x 0)) (gdV (wt v158 true) v152))).bind fun v162 =>
(gd (wt v158 true) (ld 29 v162 h157)).bind fun v163 =>
obH (gdH (wt v158 true) h157 (ev 101 #[v161,v163] h157)) fun v164 h165 =>
(gd (wt v158 true) (unV Tryd.prog .not v164)).bind fun v166 =>
(pickV v158 v166 (.bool false)).bind fun v167 =>
cnd v167 (
obH (ev 102 #[x 0,x 1,x 2,v152] h165) fun v168 h169 =>
k .normal ⟨ar 134 (up x [(1,v168),(10,v0),(11,v152),(12,(.int .i64 1)),(13,v168),(19,(x 2)),(20,(x 1)),(21,v0),(22,v0),(23,v1),(28,(x 3)),(29,v4),(34,(x 8)),(35,v7),(42,v143),(43,(x 0)),(44,(x 1)),(45,(x 2)),(46,v143),(47,v145),(48,v146),(49,v146),(50,v147),(51,(x 0)),(52,(x 1)),(53,(x 2)),(54,v148),(55,(x 2)),(56,v150),(57,v145),(58,(x 1)),(59,v151),(60,v152),(61,(x 8)),(62,(x 8)),(63,(gdV (wt (x 8) true) (x 9))),(64,v153),(65,v153),(66,(gdV (wt v153 true) (.int .i64 1))),(67,v154),(68,v155),(69,(x 0)),(70,(x 1)),(71,(x 2)),(72,v156),(73,(x 1)),(74,v158),(75,v158),(76,(gdV (wt v158 true) (x 0))),(77,(gdV (wt v158 true) (x 1))),(78,v159),(79,v160),(80,v161),(81,(gdV (wt v158 true) (x 0))),(82,(gdV (wt v158 true) v152)),(83,v162),(84,v163),(85,v164),(86,v166),(87,v167),(88,(x 0)),(89,(x 1)),(90,(x 2)),(91,v152),(92,v168),(93,v168)]), h169⟩) (
obH (ev 103 #[x 0,x 1,x 2,v152] h165) fun v170 h171 =>
(extractV v170 0).bind fun v172 =>
(extractV v170 1).bind fun v173 =>
(bn .sub 3 v172 (x 1)).bind fun v174 =>
(bn .sub 3 (x 2) v172).bind fun v175 =>
(bn .quo 3 v0 (.int .i64 8)).bind fun v176 =>
(bn .lss 3 v174 v175).bind fun v177 =>
cnd v177 (
(bn .geq 3 v174 v176).bind fun v178 =>
obH (ev 93 #[x 0,x 1,v172,x 3] h171) fun v179 h180 =>
(bn .add 3 v172 (.int .i64 1)).bind fun v181 =>
k .normal ⟨ar 134 (up x [(1,v181),(8,v178),(9,v173),(10,v0),(11,v152),(12,(.int .i64 1)),(14,v172),(15,v173),(16,v174),(17,v175),(18,v176),(19,(x 2)),(20,(x 1)),(21,v0),(22,v0),(23,v1),(28,(x 3)),(29,v4),(34,(x 8)),(35,v7),(42,v143),(43,(x 0)),(44,(x 1)),(45,(x 2)),(46,v143),(47,v145),(48,v146),(49,v146),(50,v147),(51,(x 0)),(52,(x 1)),(53,(x 2)),(54,v148),(55,(x 2)),(56,v150),(57,v145),(58,(x 1)),(59,v151),(60,v152),(61,(x 8)),(62,(x 8)),(63,(gdV (wt (x 8) true) (x 9))),(64,v153),(65,v153),(66,(gdV (wt v153 true) (.int .i64 1))),(67,v154),(68,v155),(69,(x 0)),(70,(x 1)),(71,(x 2)),(72,v156),(73,(x 1)),(74,v158),(75,v158),(76,(gdV (wt v158 true) (x 0))),(77,(gdV (wt v158 true) (x 1))),(78,v159),(79,v160),(80,v161),(81,(gdV (wt v158 true) (x 0))),(82,(gdV (wt v158 true) v152)),(83,v162),(84,v163),(85,v164),(86,v166),(87,v167),(94,v170),(95,(x 0)),(96,(x 1)),(97,(x 2)),(98,v152),(99,v170),(100,v172),(101,v173),(102,v173),(103,v172),(104,(x 1)),(105,v174),(106,(x 2)),(107,v172),(108,v175),(109,v0),(110,v176),(111,v174),(112,v175),(113,v177),(114,v174),(115,v176),(116,v178),(117,(x 0)),(118,(x 1)),(119,v172),(120,(x 3)),(121,v179),(122,v172),(123,v181)]), h180⟩) (
(bn .geq 3 v175 v176).bind fun v182 =>
(bn .add 3 v172 (.int .i64 1)).bind fun v183 =>
obH (ev 93 #[x 0,v183,x 2,x 3] h171) fun v184 h185 =>
k .normal ⟨ar 134 (up x [(2,v172),(8,v182),(9,v173),(10,v0),(11,v152),(12,(.int .i64 1)),(14,v172),(15,v173),(16,v174),(17,v175),(18,v176),(19,(x 2)),(20,(x 1)),(21,v0),(22,v0),(23,v1),(28,(x 3)),(29,v4),(34,(x 8)),(35,v7),(42,v143),(43,(x 0)),(44,(x 1)),(45,(x 2)),(46,v143),(47,v145),(48,v146),(49,v146),(50,v147),(51,(x 0)),(52,(x 1)),(53,(x 2)),(54,v148),(55,(x 2)),(56,v150),(57,v145),(58,(x 1)),(59,v151),(60,v152),(61,(x 8)),(62,(x 8)),(63,(gdV (wt (x 8) true) (x 9))),(64,v153),(65,v153),(66,(gdV (wt v153 true) (.int .i64 1))),(67,v154),(68,v155),(69,(x 0)),(70,(x 1)),(71,(x 2)),(72,v156),(73,(x 1)),(74,v158),(75,v158),(76,(gdV (wt v158 true) (x 0))),(77,(gdV (wt v158 true) (x 1))),(78,v159),(79,v160),(80,v161),(81,(gdV (wt v158 true) (x 0))),(82,(gdV (wt v158 true) v152)),(83,v162),(84,v163),(85,v164),(86,v166),(87,v167),(94,v170),(95,(x 0)),(96,(x 1)),(97,(x 2)),(98,v152),(99,v170),(100,v172),(101,v173),(102,v173),(103,v172),(104,(x 1)),(105,v174),(106,(x 2)),(107,v172),(108,v175),(109,v0),(110,v176),(111,v174),(112,v175),(113,v177),(124,v175),(125,v176),(126,v182),(127,(x 0)),(128,v172),(129,v183),(130,(x 2)),(131,(x 3)),(132,v184),(133,v172)]), h185⟩)))) (
(bn .gtr 3 (x 1) (.int .i64 0)).bind fun v186 =>
(gd (wt v186 true) (bn .sub 3 (gdV (wt v186 true) (x 1)) (.int .i64 1))).bind fun v187 =>
(gd (wt v186 true) (ia 102 (gdV (wt v186 true) (x 0)) v187)).bind fun v188 =>
(gd (wt v186 true) (ld 29 v188 h149)).bind fun v189 =>
(gd (wt v186 true) (ia 102 (gdV (wt v186 true) (x 0)) (gdV (wt v186 true) v152))).bind fun v190 =>
(gd (wt v186 true) (ld 29 v190 h149)).bind fun v191 =>
obH (gdH (wt v186 true) h149 (ev 101 #[v189,v191] h149)) fun v192 h193 =>
(gd (wt v186 true) (unV Tryd.prog .not v192)).bind fun v194 =>
(pickV v186 v194 (.bool false)).bind fun v195 =>
cnd v195 (
obH (ev 102 #[x 0,x 1,x 2,v152] h193) fun v196 h197 =>
k .normal ⟨ar 134 (up x [(1,v196),(10,v0),(11,v152),(12,(.int .i64 1)),(13,v196),(19,(x 2)),(20,(x 1)),(21,v0),(22,v0),(23,v1),(28,(x 3)),(29,v4),(34,(x 8)),(35,v7),(42,v143),(43,(x 0)),(44,(x 1)),(45,(x 2)),(46,v143),(47,v145),(48,v146),(49,v146),(50,v147),(51,(x 0)),(52,(x 1)),(53,(x 2)),(54,v148),(55,(x 2)),(56,v150),(57,v145),(58,(x 1)),(59,v151),(60,v152),(61,(x 8)),(62,(x 8)),(63,(gdV (wt (x 8) true) (x 9))),(64,v153),(65,v153),(66,(gdV (wt v153 true) (.int .i64 1))),(67,v154),(68,v155),(73,(x 1)),(74,v186),(75,v186),(76,(gdV (wt v186 true) (x 0))),(77,(gdV (wt v186 true) (x 1))),(78,v187),(79,v188),(80,v189),(81,(gdV (wt v186 true) (x 0))),(82,(gdV (wt v186 true) v152)),(83,v190),(84,v191),(85,v192),(86,v194),(87,v195),(88,(x 0)),(89,(x 1)),(90,(x 2)),(91,v152),(92,v196),(93,v196)]), h197⟩) (
obH (ev 103 #[x 0,x 1,x 2,v152] h193) fun v198 h199 =>
(extractV v198 0).bind fun v200 =>
(extractV v198 1).bind fun v201 =>
(bn .sub 3 v200 (x 1)).bind fun v202 =>
(bn .sub 3 (x 2) v200).bind fun v203 =>
(bn .quo 3 v0 (.int .i64 8)).bind fun v204 =>
(bn .lss 3 v202 v203).bind fun v205 =>
cnd v205 (
(bn .geq 3 v202 v204).bind fun v206 =>
obH (ev 93 #[x 0,x 1,v200,x 3] h199) fun v207 h208 =>
(bn .add 3 v200 (.int .i64 1)).bind fun v209 =>
k .normal ⟨ar 134 (up x [(1,v209),(8,v206),(9,v201),(10,v0),(11,v152),(12,(.int .i64 1)),(14,v200),(15,v201),(16,v202),(17,v203),(18,v204),(19,(x 2)),(20,(x 1)),(21,v0),(22,v0),(23,v1),(28,(x 3)),(29,v4),(34,(x 8)),(35,v7),(42,v143),(43,(x 0)),(44,(x 1)),(45,(x 2)),(46,v143),(47,v145),(48,v146),(49,v146),(50,v147),(51,(x 0)),(52,(x 1)),(53,(x 2)),(54,v148),(55,(x 2)),(56,v150),(57,v145),(58,(x 1)),(59,v151),(60,v152),(61,(x 8)),(62,(x 8)),(63,(gdV (wt (x 8) true) (x 9))),(64,v153),(65,v153),(66,(gdV (wt v153 true) (.int .i64 1))),(67,v154),(68,v155),(73,(x 1)),(74,v186),(75,v186),(76,(gdV (wt v186 true) (x 0))),(77,(gdV (wt v186 true) (x 1))),(78,v187),(79,v188),(80,v189),(81,(gdV (wt v186 true) (x 0))),(82,(gdV (wt v186 true) v152)),(83,v190),(84,v191),(85,v192),(86,v194),(87,v195),(94,v198),(95,(x 0)),(96,(x 1)),(97,(x 2)),(98,v152),(99,v198),(100,v200),(101,v201),(102,v201),(103,v200),(104,(x 1)),(105,v202),(106,(x 2)),(107,v200),(108,v203),(109,v0),(110,v204),(111,v202),(112,v203),(113,v205),(114,v202),(115,v204),(116,v206),(117,(x 0)),(118,(x 1)),(119,v200),(120,(x 3)),(121,v207),(122,v200),(123,v209)]), h208⟩) (
(bn .geq 3 v203 v204).bind fun v210 =>
(bn .add 3 v200 (.int .i64 1)).bind fun v211 =>
obH (ev 93 #[x 0,v211,x 2,x 3] h199) fun v212 h213 =>
k .normal ⟨ar 134 (up x [(2,v200),(8,v210),(9,v201),(10,v0),(11,v152),(12,(.int .i64 1)),(14,v200),(15,v201),(16,v202),(17,v203),(18,v204),(19,(x 2)),(20,(x 1)),(21,v0),(22,v0),(23,v1),(28,(x 3)),(29,v4),(34,(x 8)),(35,v7),(42,v143),(43,(x 0)),(44,(x 1)),(45,(x 2)),(46,v143),(47,v145),(48,v146),(49,v146),(50,v147),(51,(x 0)),(52,(x 1)),(53,(x 2)),(54,v148),(55,(x 2)),(56,v150),(57,v145),(58,(x 1)),(59,v151),(60,v152),(61,(x 8)),(62,(x 8)),(63,(gdV (wt (x 8) true) (x 9))),(64,v153),(65,v153),(66,(gdV (wt v153 true) (.int .i64 1))),(67,v154),(68,v155),(73,(x 1)),(74,v186),(75,v186),(76,(gdV (wt v186 true) (x 0))),(77,(gdV (wt v186 true) (x 1))),(78,v187),(79,v188),(80,v189),(81,(gdV (wt v186 true) (x 0))),(82,(gdV (wt v186 true) v152)),(83,v190),(84,v191),(85,v192),(86,v194),(87,v195),(94,v198),(95,(x 0)),(96,(x 1)),(97,(x 2)),(98,v152),(99,v198),(100,v200),(101,v201),(102,v201),(103,v200),(104,(x 1)),(105,v202),(106,(x 2)),(107,v200),(108,v203),(109,v0),(110,v204),(111,v202),(112,v203),(113,v205),(124,v203),(125,v204),(126,v210),(127,(x 0)),(128,v200),(129,v211),(130,(x 2)),(131,(x 3)),(132,v212),(133,v200)]), h213⟩)))) (
(pickV (x 8) (gdV (wt (x 8) true) (x 9)) (.bool false)).bind fun v214 =>
(gd (wt v214 true) (bn .eql 161 (gdV (wt v214 true) v146) (.int .i64 1))).bind fun v215 =>
(pickV v214 v215 (.bool false)).bind fun v216 =>
cnd v216 (
obH (ev 100 #[x 0,x 1,x 2] h144) fun v217 h218 =>
cnd v217 (
k .ret ⟨ar 134 (up x [(10,v0),(11,v145),(12,v146),(19,(x 2)),(20,(x 1)),(21,v0),(22,v0),(23,v1),(28,(x 3)),(29,v4),(34,(x 8)),(35,v7),(42,v143),(43,(x 0)),(44,(x 1)),(45,(x 2)),(46,v143),(47,v145),(48,v146),(49,v146),(50,v147),(61,(x 8)),(62,(x 8)),(63,(gdV (wt (x 8) true) (x 9))),(64,v214),(65,v214),(66,(gdV (wt v214 true) v146)),(67,v215),(68,v216),(69,(x 0)),(70,(x 1)),(71,(x 2)),(72,v217)]), h218⟩) (
(bn .gtr 3 (x 1) (.int .i64 0)).bind fun v219 =>
(gd (wt v219 true) (bn .sub 3 (gdV (wt v219 true) (x 1)) (.int .i64 1))).bind fun v220 =>
(gd (wt v219 true) (ia 102 (gdV (wt v219 true) (x 0)) v220)).bind fun v221 =>
(gd (wt v219 true) (ld 29 v221 h218)).bind fun v222 =>
(gd (wt v219 true) (ia 102 (gdV (wt v219 true) (x 0)) (gdV (wt v219 true) v145))).bind fun v223 =>
(gd (wt v219 true) (ld 29 v223 h218)).bind fun v224 =>
obH (gdH (wt v219 true) h218 (ev 101 #[v222,v224] h218)) fun v225 h226 =>
(gd (wt v219 true) (unV Tryd.prog .not v225)).bind fun v227 =>
(pickV v219 v227 (.bool false)).bind fun v228 =>
cnd v228 (
obH (ev 102 #[x 0,x 1,x 2,v145] h226) fun v229 h230 =>
k .normal ⟨ar 134 (up x [(1,v229),(10,v0),(11,v145),(12,v146),(13,v229),(19,(x 2)),(20,(x 1)),(21,v0),(22,v0),(23,v1),(28,(x 3)),(29,v4),(34,(x 8)),(35,v7),(42,v143),(43,(x 0)),(44,(x 1)),(45,(x 2)),(46,v143),(47,v145),(48,v146),(49,v146),(50,v147),(61,(x 8)),(62,(x 8)),(63,(gdV (wt (x 8) true) (x 9))),(64,v214),(65,v214),(66,(gdV (wt v214 true) v146)),(67,v215),(68,v216),(69,(x 0)),(70,(x 1)),(71,(x 2)),(72,v217),(73,(x 1)),(74,v219),(75,v219),(76,(gdV (wt v219 true) (x 0))),(77,(gdV (wt v219 true) (x 1))),(78,v220),(79,v221),(80,v222),(81,(gdV (wt v219 true) (x 0))),(82,(gdV (wt v219 true) v145)),(83,v223),(84,v224),(85,v225),(86,v227),(87,v228),(88,(x 0)),(89,(x 1)),(90,(x 2)),(91,v145),(92,v229),(93,v229)]), h230⟩) (
obH (ev 103 #[x 0,x 1,x 2,v145] h226) fun v231 h232 =>
(extractV v231 0).bind fun v233 =>
(extractV v231 1).bind fun v234 =>
(bn .sub 3 v233 (x 1)).bind fun v235 =>
(bn .sub 3 (x 2) v233).bind fun v236 =>
(bn .quo 3 v0 (.int .i64 8)).bind fun v237 =>
(bn .lss 3 v235 v236).bind fun v238 =>
cnd v238 (
(bn .geq 3 v235 v237).bind fun v239 =>
obH (ev 93 #[x 0,x 1,v233,x 3] h232) fun v240 h241 =>
(bn .add 3 v233 (.int .i64 1)).bind fun v242 =>
k .normal ⟨ar 134 (up x [(1,v242),(8,v239),(9,v234),(10,v0),(11,v145),(12,v146),(14,v233),(15,v234),(16,v235),(17,v236),(18,v237),(19,(x 2)),(20,(x 1)),(21,v0),(22,v0),(23,v1),(28,(x 3)),(29,v4),(34,(x 8)),(35,v7),(42,v143),(43,(x 0)),(44,(x 1)),(45,(x 2)),(46,v143),(47,v145),(48,v146),(49,v146),(50,v147),(61,(x 8)),(62,(x 8)),(63,(gdV (wt (x 8) true) (x 9))),(64,v214),(65,v214),(66,(gdV (wt v214 true) v146)),(67,v215),(68,v216),(69,(x 0)),(70,(x 1)),(71,(x 2)),(72,v217),(73,(x 1)),(74,v219),(75,v219),(76,(gdV (wt v219 true) (x 0))),(77,(gdV (wt v219 true) (x 1))),(78,v220),(79,v221),(80,v222),(81,(gdV (wt v219 true) (x 0))),(82,(gdV (wt v219 true) v145)),(83,v223),(84,v224),(85,v225),(86,v227),(87,v228),(94,v231),(95,(x 0)),(96,(x 1)),(97,(x 2)),(98,v145),(99,v231),(100,v233),(101,v234),(102,v234),(103,v233),(104,(x 1)),(105,v235),(106,(x 2)),(107,v233),(108,v236),(109,v0),(110,v237),(111,v235),(112,v236),(113,v238),(114,v235),(115,v237),(116,v239),(117,(x 0)),(118,(x 1)),(119,v233),(120,(x 3)),(121,v240),(122,v233),(123,v242)]), h241⟩) (
(bn .geq 3 v236 v237).bind fun v243 =>
(bn .add 3 v233 (.int .i64 1)).bind fun v244 =>
obH (ev 93 #[x 0,v244,x 2,x 3] h232) fun v245 h246 =>
k .normal ⟨ar 134 (up x [(2,v233),(8,v243),(9,v234),(10,v0),(11,v145),(12,v146),(14,v233),(15,v234),(16,v235),(17,v236),(18,v237),(19,(x 2)),(20,(x 1)),(21,v0),(22,v0),(23,v1),(28,(x 3)),(29,v4),(34,(x 8)),(35,v7),(42,v143),(43,(x 0)),(44,(x 1)),(45,(x 2)),(46,v143),(47,v145),(48,v146),(49,v146),(50,v147),(61,(x 8)),(62,(x 8)),(63,(gdV (wt (x 8) true) (x 9))),(64,v214),(65,v214),(66,(gdV (wt v214 true) v146)),(67,v215),(68,v216),(69,(x 0)),(70,(x 1)),(71,(x 2)),(72,v217),(73,(x 1)),(74,v219),(75,v219),(76,(gdV (wt v219 true) (x 0))),(77,(gdV (wt v219 true) (x 1))),(78,v220),(79,v221),(80,v222),(81,(gdV (wt v219 true) (x 0))),(82,(gdV (wt v219 true) v145)),(83,v223),(84,v224),(85,v225),(86,v227),(87,v228),(94,v231),(95,(x 0)),(96,(x 1)),(97,(x 2)),(98,v145),(99,v231),(100,v233),(101,v234),(102,v234),(103,v233),(104,(x 1)),(105,v235),(106,(x 2)),(107,v233),(108,v236),(109,v0),(110,v237),(111,v235),(112,v236),(113,v238),(124,v236),(125,v237),(126,v243),(127,(x 0)),(128,v233),(129,v244),(130,(x 2)),(131,(x 3)),(132,v245),(133,v233)]), h246⟩)))) (
(bn .gtr 3 (x 1) (.int .i64 0)).bind fun v247 =>
(gd (wt v247 true) (bn .sub 3 (gdV (wt v247 true) (x 1)) (.int .i64 1))).bind fun v248 =>
(gd (wt v247 true) (ia 102 (gdV (wt v247 true) (x 0)) v248)).bind fun v249 =>
(gd (wt v247 true) (ld 29 v249 h144)).bind fun v250 =>
(gd (wt v247 true) (ia 102 (gdV (wt v247 true) (x 0)) (gdV (wt v247 true) v145))).bind fun v251 =>
(gd (wt v247 true) (ld 29 v251 h144)).bind fun v252 =>
obH (gdH (wt v247 true) h144 (ev 101 #[v250,v252] h144)) fun v253 h254 =>
(gd (wt v247 true) (unV Tryd.prog .not v253)).bind fun v255 =>
(pickV v247 v255 (.bool false)).bind fun v256 =>
cnd v256 (
obH (ev 102 #[x 0,x 1,x 2,v145] h254) fun v257 h258 =>
k .normal ⟨ar 134 (up x [(1,v257),(10,v0),(11,v145),(12,v146),(13,v257),(19,(x 2)),(20,(x 1)),(21,v0),(22,v0),(23,v1),(28,(x 3)),(29,v4),(34,(x 8)),(35,v7),(42,v143),(43,(x 0)),(44,(x 1)),(45,(x 2)),(46,v143),(47,v145),(48,v146),(49,v146),(50,v147),(61,(x 8)),(62,(x 8)),(63,(gdV (wt (x 8) true) (x 9))),(64,v214),(65,v214),(66,(gdV (wt v214 true) v146)),(67,v215),(68,v216),(73,(x 1)),(74,v247),(75,v247),(76,(gdV (wt v247 true) (x 0))),(77,(gdV (wt v247 true) (x 1))),(78,v248),(79,v249),(80,v250),(81,(gdV (wt v247 true) (x 0))),(82,(gdV (wt v247 true) v145)),(83,v251),(84,v252),(85,v253),(86,v255),(87,v256),(88,(x 0)),(89,(x 1)),(90,(x 2)),(91,v145),(92,v257),(93,v257)]), h258⟩) (
obH (ev 103 #[x 0,x 1,x 2,v145] h254) fun v259 h260 =>
(extractV v259 0).bind fun v261 =>
(extractV v259 1).bind fun v262 =>
(bn .sub 3 v261 (x 1)).bind fun v263 =>
(bn .sub 3 (x 2) v261).bind fun v264 =>
(bn .quo 3 v0 (.int .i64 8)).bind fun v265 =>
(bn .lss 3 v263 v264).bind fun v266 =>
cnd v266 (
(bn .geq 3 v263 v265).bind fun v267 =>
obH (ev 93 #[x 0,x 1,v261,x 3] h260) fun v268 h269 =>
(bn .add 3 v261 (.int .i64 1)).bind fun v270 =>
k .normal ⟨ar 134 (up x [(1,v270),(8,v267),(9,v262),(10,v0),(11,v145),(12,v146),(14,v261),(15,v262),(16,v263),(17,v264),(18,v265),(19,(x 2)),(20,(x 1)),(21,v0),(22,v0),(23,v1),(28,(x 3)),(29,v4),(34,(x 8)),(35,v7),(42,v143),(43,(x 0)),(44,(x 1)),(45,(x 2)),(46,v143),(47,v145),(48,v146),(49,v146),(50,v147),(61,(x 8)),(62,(x 8)),(63,(gdV (wt (x 8) true) (x 9))),(64,v214),(65,v214),(66,(gdV (wt v214 true) v146)),(67,v215),(68,v216),(73,(x 1)),(74,v247),(75,v247),(76,(gdV (wt v247 true) (x 0))),(77,(gdV (wt v247 true) (x 1))),(78,v248),(79,v249),(80,v250),(81,(gdV (wt v247 true) (x 0))),(82,(gdV (wt v247 true) v145)),(83,v251),(84,v252),(85,v253),(86,v255),(87,v256),(94,v259),(95,(x 0)),(96,(x 1)),(97,(x 2)),(98,v145),(99,v259),(100,v261),(101,v262),(102,v262),(103,v261),(104,(x 1)),(105,v263),(106,(x 2)),(107,v261),(108,v264),(109,v0),(110,v265),(111,v263),(112,v264),(113,v266),(114,v263),(115,v265),(116,v267),(117,(x 0)),(118,(x 1)),(119,v261),(120,(x 3)),(121,v268),(122,v261),(123,v270)]), h269⟩) (
(bn .geq 3 v264 v265).bind fun v271 =>
(bn .add 3 v261 (.int .i64 1)).bind fun v272 =>
obH (ev 93 #[x 0,v272,x 2,x 3] h260) fun v273 h274 =>
k .normal ⟨ar 134 (up x [(2,v261),(8,v271),(9,v262),(10,v0),(11,v145),(12,v146),(14,v261),(15,v262),(16,v263),(17,v264),(18,v265),(19,(x 2)),(20,(x 1)),(21,v0),(22,v0),(23,v1),(28,(x 3)),(29,v4),(34,(x 8)),(35,v7),(42,v143),(43,(x 0)),(44,(x 1)),(45,(x 2)),(46,v143),(47,v145),(48,v146),(49,v146),(50,v147),(61,(x 8)),(62,(x 8)),(63,(gdV (wt (x 8) true) (x 9))),(64,v214),(65,v214),(66,(gdV (wt v214 true) v146)),(67,v215),(68,v216),(73,(x 1)),(74,v247),(75,v247),(76,(gdV (wt v247 true) (x 0))),(77,(gdV (wt v247 true) (x 1))),(78,v248),(79,v249),(80,v250),(81,(gdV (wt v247 true) (x 0))),(82,(gdV (wt v247 true) v145)),(83,v251),(84,v252),(85,v253),(86,v255),(87,v256),(94,v259),(95,(x 0)),(96,(x 1)),(97,(x 2)),(98,v145),(99,v259),(100,v261),(101,v262),(102,v262),(103,v261),(104,(x 1)),(105,v263),(106,(x 2)),(107,v261),(108,v264),(109,v0),(110,v265),(111,v263),(112,v264),(113,v266),(124,v264),(125,v265),(126,v271),(127,(x 0)),(128,v261),(129,v272),(130,(x 2)),(131,(x 3)),(132,v273),(133,v261)]), h274⟩))))))) := by kernel_rfl
theorem call93 (a0 a1 a2 a3 : Value) : evC Tryd.prog 93 #[a0,a1,a2,a3] h = cK c93_0 134 (up un [(0,a0),(1,a1),(2,a2),(3,a3)]) (nm h) (retK Tryd.f93 Tryd.prog h) :=
  (evC_call 93 Tryd.f93 c93_0 Tryd.func93 (by kernel_rfl) #[a0,a1,a2,a3] h).trans (by kernel_rfl)
theorem ret93 : retK Tryd.f93 Tryd.prog g .ret ⟨ar 134 x, h⟩ = fin g (some (.tuple #[])) h := by kernel_rfl
noncomputable def c89_0 : Code := bodyC Tryd.f89 []
theorem c89_0_eq : cK c89_0 11 x h k =
(ln 102 (x 0) h).bind fun v0 =>
obH (cv 3 79 v0 h) fun v1 h2 =>
obH (ev 94 #[v1] h2) fun v3 h4 =>
obH (ev 93 #[x 0,(.int .i64 0),v0,v3] h4) fun v5 h6 =>
k .normal ⟨ar 11 (up x [(2,v0),(3,(x 0)),(4,v0),(5,(x 0)),(6,v0),(7,v0),(8,v1),(9,v3),(10,v5)]), h6⟩ := by kernel_rfl
theorem call89 (a0 : Value) : evC Tryd.prog 89 #[a0] h = cK c89_0 11 (up un [(0,a0)]) (nm h) (retK Tryd.f89 Tryd.prog h) :=
  (evC_call 89 Tryd.f89 c89_0 Tryd.func89 (by kernel_rfl) #[a0] h).trans (by kernel_rfl)
theorem ret89 : retK Tryd.f89 Tryd.prog g .ret ⟨ar 11 x, h⟩ = fin g (some (.tuple #[])) h := by kernel_rfl
end
end Go.Am.Z
namespace Go.Am
open Go.Proofs
set_option maxRecDepth 100000
theorem vld64 (p o : Nat) (h : Heap) : loadV Tryd.prog 29 (.pointer (some ⟨p, o, none⟩)) h = h.load1 p o := by kernel_rfl
theorem vst64 (p o : Nat) (k : IntKind) (n : Int) (h : Heap) : storeV Tryd.prog 29 (.pointer (some ⟨p, o, none⟩)) (.int k n) h = h.storeN p o [.int k n] := by kernel_rfl
end Go.Am
namespace Go.Am.Z
open Go.Proofs
set_option maxRecDepth 100000
set_option linter.all false
attribute [local instance] xt0 gl0
attribute [local instance] xm0 xo0
attribute [local congr] obind_congr obH_congr cnd_congr chk_congr retK_congr codeK_congr
def NR (h : Heap) (p : Nat) (l : List Nat) : Prop := Cells h p 29 (l.map natV)
abbrev sv (p n c : Nat) : Value := .slice (some ⟨p, 0, none⟩) n c
theorem retN (f : Func) (g : Heap) (s : St) : retK f Tryd.prog g .normal s = retK f Tryd.prog g .ret s := (id rfl)
theorem wa (i : Nat) (h : i < 2 ^ 40) : IntKind.i64.wrap ((i : Int) + 1) = ((i + 1 : Nat) : Int) := by rw [wrap_i64] <;> omega
theorem ws (i : Nat) (h : i < 2 ^ 40) (h1 : 1 ≤ i) : IntKind.i64.wrap ((i : Int) - 1) = ((i - 1 : Nat) : Int) := by rw [wrap_i64] <;> omega
theorem wd (i j : Nat) (h : i < 2 ^ 40) (h1 : j ≤ i) : IntKind.i64.wrap ((i : Int) - j) = ((i - j : Nat) : Int) := by rw [wrap_i64] <;> omega
theorem iaS (p n c i : Nat) (h : i < n) : indexAddrV Tryd.prog 102 (sv p n c) (.int .i64 i) = some (.pointer (some ⟨p, i, none⟩)) := by
  have hu : Tryd.prog.underlying 102 = some (.slice 29) := by kernel_rfl
  have hz : sizeT Tryd.prog 29 = some 1 := by kernel_rfl
  unfold indexAddrV
  simp only [hu, natOf_int, hz, if_pos h, Nat.zero_add, Nat.mul_one]
theorem NR.at {h : Heap} {p : Nat} {l : List Nat} (c : NR h p l) {i : Nat} (hi : i < l.length) : h.load1 p i = some (.int .u64 (gt0 l i : Nat)) := by
  rw [Cells.load c, List.getElem?_map, List.getElem?_eq_getElem hi, gt0_of hi]; rfl
theorem NR.set {h : Heap} {p : Nat} {l : List Nat} (c : NR h p l) {i : Nat} (hi : i < l.length) (v : Nat) : h.storeN p i [.int .u64 v] = some (h.put p (.cells ((l.set i v).map natV))) := by
  rw [storeN_blk c (by simp; omega), List.map_set]
  congr 3
  rw [List.set_eq_take_append_cons_drop, if_pos (by simpa using hi)]
  simp [natV]
theorem NR.put {h : Heap} {p : Nat} {l : List Nat} (c : NR h p l) (m : List Nat) : NR (h.put p (.cells (m.map natV))) p m := Cells.put c _
theorem NR.nm {h : Heap} {p : Nat} {l : List Nat} (c : NR h p l) : NR (nm h) p l := c
theorem NR.done {h0 h : Heap} {p : Nat} {l : List Nat} (c : NR h p l) : NR (done h0 h) p l := c
theorem NR.ext {h h' : Heap} {p : Nat} {l : List Nat} (c : NR h p l) (e : HExt h h') : NR h' p l := Cells.ext c e
theorem NR.swap {n0 : Nat} {h : Heap} {p : Nat} {l : List Nat} (hn : n0 ≤ h.blks.length) (c : NR h p l) {i j : Nat} (hi : i < l.length) (hj : j < l.length) :
    ∃ h1 h2, h.storeN p i [.int .u64 (gt0 l j : Nat)] = some h1 ∧ h1.storeN p j [.int .u64 (gt0 l i : Nat)] = some h2 ∧ NR h2 p (swp l i j) ∧ In n0 (Just p) h h2 := by
  refine ⟨h.put p (.cells ((l.set i (gt0 l j)).map natV)), (h.put p (.cells ((l.set i (gt0 l j)).map natV))).put p (.cells ((swp l i j).map natV)), c.set hi _, (c.put _).set (by rw [List.length_set]; exact hj) _, (c.put _).put _, ?_⟩
  have e1 : In n0 (Just p) h (h.put p (.cells ((l.set i (gt0 l j)).map natV))) := In.put hn (.inr (show Just p p from rfl)) _
  exact e1.trans (In.put (by rw [Heap.put_len]; exact hn) (.inr (show Just p p from rfl)) _)
theorem spec_isNaN (a : Int) (h : Heap) : evC Tryd.prog 111 #[.int .u64 a] h = some (.bool false, h) := by
  rw [call111]
  simp -implicitDefEqProofs only [↓c111_0_eq, eq_self, ne_eq, not_true_eq_false, decide_false, ↓ret111, ↓cnd_true, ↓cnd_false, ↓Option.bind_some, ↓obH_some', bin_add, bin_sub, bin_mul, bin_lss, bin_leq, bin_gtr, bin_geq, bin_eql, bin_neq, un_not, un_neg, Option.bind_some, Option.bind_none, Option.map_some, cnd_true, cnd_false, pickV_true, pickV_false, gd_true, gd_false, gdV_true, gdV_false, gdH_true, gdH_false, gdS_true, gdS_false, wt_ff, wt_tt, wt_ft, wt_tf, wt_undef, obH_some', extractV_tuple, nilCheckV_ptr, againK_normal, againK_exit, againK_ret, blockK_normal, blockK_same, blockK_ret, seqK_normal, seqK_exit, seqK_ret, fin_done, if_true', if_false', Bool.not_true, Bool.not_false, idx0, idx1, idx2, idx3, idx4, chk_nil_l, chk_nil_r, done_nm, up_cons, up_nil, cond_true, cond_false, Nat.reduceBEq]
theorem spec_Less (a b : Nat) (h : Heap) : evC Tryd.prog 101 #[.int .u64 a, .int .u64 b] h = some (.bool (decide (a < b)), h) := by
  rw [call101]
  have e1 := fun h => spec_isNaN a h
  have e2 := fun h => spec_isNaN b h
  have e3 : decide ((a : Int) < b) = decide (a < b) := by simp
  simp -implicitDefEqProofs (disch := omega) only [↓c101_0_eq, e1, e2, e3, ↓ret101, ↓cnd_true, ↓cnd_false, ↓Option.bind_some, ↓obH_some', bin_add, bin_sub, bin_mul, bin_lss, bin_leq, bin_gtr, bin_geq, bin_eql, bin_neq, un_not, un_neg, Option.bind_some, Option.bind_none, Option.map_some, cnd_true, cnd_false, pickV_true, pickV_false, gd_true, gd_false, gdV_true, gdV_false, gdH_true, gdH_false, gdS_true, gdS_false, wt_ff, wt_tt, wt_ft, wt_tf, wt_undef, obH_some', extractV_tuple, nilCheckV_ptr, againK_normal, againK_exit, againK_ret, blockK_normal, blockK_same, blockK_ret, seqK_normal, seqK_exit, seqK_ret, fin_done, if_true', if_false', Bool.not_true, Bool.not_false, idx0, idx1, idx2, idx3, idx4, chk_nil_l, chk_nil_r, done_nm, up_cons, up_nil, cond_true, cond_false, Nat.reduceBEq]
section
variable {n0 p n c : Nat} {b : Nat}
theorem ins_in {β : Type} {Q : Option β → Prop} {a i : Nat} {l : List Nat} {g : Heap} {k : Ex → St → Option β} (hn : n < 2 ^ 40) (hin : i < n) :
    ∀ (j : Nat), a ≤ j → j ≤ i → ∀ (x : Nat → Value) (h : Heap) (m : List Nat),In n0 (Just p) g h → n0 ≤ h.blks.length → NR h p m → m.length = n → InsQ a i j m → Sw a (i + 1) l m →
    x 0 = sv p n c → x 1 = .int .i64 a → x 2 = .int .i64 b → x 6 = .int .i64 i → x 7 = .int .i64 j →
    (∀ (x' : Nat → Value) (h' : Heap) (m' : List Nat),In n0 (Just p) g h' → n0 ≤ h'.blks.length → NR h' p m' → m'.length = n → Srt a (i + 1) m' → Sw a (i + 1) l m' → x' 0 = sv p n c → x' 1 = .int .i64 a → x' 2 = .int .i64 b → x' 6 = .int .i64 i → Q (k .normal ⟨ar 49 x', h'⟩)) →
    Q (lK c95_2 49 x h (blockK 2 k)) := by
  intro j
  induction j with
  | zero =>
    intro ha hj x h m hin' h0 hm hl q s Aa Ab Ac Ag Ah hk
    rw [lK_eq]
    have e := fun x' y0 y1 y2 y6 => hk x' h m hin' h0 hm hl (q.stop (.inl (by omega))) s y0 y1 y2 y6
    simp -implicitDefEqProofs (disch := omega) only [↓c95_2_eq,Aa,Ab,Ah, dcF, ↓cnd_true, ↓cnd_false, ↓Option.bind_some, ↓obH_some', bin_add, bin_sub, bin_mul, bin_lss, bin_leq, bin_gtr, bin_geq, bin_eql, bin_neq, un_not, un_neg, Option.bind_some, Option.bind_none, Option.map_some, cnd_true, cnd_false, pickV_true, pickV_false, gd_true, gd_false, gdV_true, gdV_false, gdH_true, gdH_false, gdS_true, gdS_false, wt_ff, wt_tt, wt_ft, wt_tf, wt_undef, obH_some', extractV_tuple, nilCheckV_ptr, againK_normal, againK_exit, againK_ret, blockK_normal, blockK_same, blockK_ret, seqK_normal, seqK_exit, seqK_ret, fin_done, if_true', if_false', Bool.not_true, Bool.not_false, idx0, idx1, idx2, idx3, idx4, chk_nil_l, chk_nil_r, done_nm, up_cons, up_nil, cond_true, cond_false, Nat.reduceBEq]
    exact e _ Aa Ab Ac Ag
  | succ j ih =>
    intro ha hj x h m hin' h0 hm hl q s Aa Ab Ac Ag Ah hk
    rw [lK_eq]
    by_cases h1 : a < j + 1
    · have d1 : ((j + 1 : Nat) : Int) > (a : Int) := by omega
      have i1 := iaS p n c (j + 1) (by omega)
      have i2 := iaS p n c j (by omega)
      have w1 : IntKind.i64.wrap (((j + 1 : Nat) : Int) - 1) = (j : Int) := by rw [wrap_i64] <;> omega
      have l1 := hm.at (i := j + 1) (by omega)
      have l2 := hm.at (i := j) (by omega)
      have e1 := fun h => spec_Less (gt0 m (j + 1)) (gt0 m j) h
      by_cases h2 : gt0 m (j + 1) < gt0 m j
      · obtain ⟨ha1, ha2, s1, s2, hm2, hin2⟩ := hm.swap (n0 := n0) h0 (i := j + 1) (j := j) (by omega) (by omega)
        simp -implicitDefEqProofs (disch := omega) only [↓c95_2_eq,Aa,Ab,Ah, d1, i1, i2, w1, vld64, vst64, l1, l2, e1, h2, s1, s2, decide_true, ↓cnd_true, ↓cnd_false, ↓Option.bind_some, ↓obH_some', bin_add, bin_sub, bin_mul, bin_lss, bin_leq, bin_gtr, bin_geq, bin_eql, bin_neq, un_not, un_neg, Option.bind_some, Option.bind_none, Option.map_some, cnd_true, cnd_false, pickV_true, pickV_false, gd_true, gd_false, gdV_true, gdV_false, gdH_true, gdH_false, gdS_true, gdS_false, wt_ff, wt_tt, wt_ft, wt_tf, wt_undef, obH_some', extractV_tuple, nilCheckV_ptr, againK_normal, againK_exit, againK_ret, blockK_normal, blockK_same, blockK_ret, seqK_normal, seqK_exit, seqK_ret, fin_done, if_true', if_false', Bool.not_true, Bool.not_false, idx0, idx1, idx2, idx3, idx4, chk_nil_l, chk_nil_r, done_nm, up_cons, up_nil, cond_true, cond_false, Nat.reduceBEq]
        refine ih (by omega) (by omega) _ _ _ (hin'.trans hin2) (Nat.le_trans h0 hin2.len) hm2 (by rw [swp_len, hl]) (q.step h1 hj (by omega) h2) (.step s (by omega) (by omega) (by omega) (by omega) (by have := s.len; omega)) ?_ ?_ ?_ ?_ ?_ hk
        · exact Aa
        · exact Ab
        · exact Ac
        · exact Ag
        · rfl
      · have e := fun x' y0 y1 y2 y6 => hk x' h m hin' h0 hm hl (q.stop (.inr (by simpa using h2))) s y0 y1 y2 y6
        simp -implicitDefEqProofs (disch := omega) only [↓c95_2_eq,Aa,Ab,Ah, d1, i1, i2, w1, vld64, vst64, l1, l2, e1, h2, decide_true, decide_false, ↓cnd_true, ↓cnd_false, ↓Option.bind_some, ↓obH_some', bin_add, bin_sub, bin_mul, bin_lss, bin_leq, bin_gtr, bin_geq, bin_eql, bin_neq, un_not, un_neg, Option.bind_some, Option.bind_none, Option.map_some, cnd_true, cnd_false, pickV_true, pickV_false, gd_true, gd_false, gdV_true, gdV_false, gdH_true, gdH_false, gdS_true, gdS_false, wt_ff, wt_tt, wt_ft, wt_tf, wt_undef, obH_some', extractV_tuple, nilCheckV_ptr, againK_normal, againK_exit, againK_ret, blockK_normal, blockK_same, blockK_ret, seqK_normal, seqK_exit, seqK_ret, fin_done, if_true', if_false', Bool.not_true, Bool.not_false, idx0, idx1, idx2, idx3, idx4, chk_nil_l, chk_nil_r, done_nm, up_cons, up_nil, cond_true, cond_false, Nat.reduceBEq]
        exact e _ Aa Ab Ac Ag
    · have e := fun x' y0 y1 y2 y6 => hk x' h m hin' h0 hm hl (q.stop (.inl (by omega))) s y0 y1 y2 y6
      have d1 : ¬ ((j + 1 : Nat) : Int) > (a : Int) := by omega
      simp -implicitDefEqProofs (disch := omega) only [↓c95_2_eq,Aa,Ab,Ah, d1, decide_false, ↓cnd_true, ↓cnd_false, ↓Option.bind_some, ↓obH_some', bin_add, bin_sub, bin_mul, bin_lss, bin_leq, bin_gtr, bin_geq, bin_eql, bin_neq, un_not, un_neg, Option.bind_some, Option.bind_none, Option.map_some, cnd_true, cnd_false, pickV_true, pickV_false, gd_true, gd_false, gdV_true, gdV_false, gdH_true, gdH_false, gdS_true, gdS_false, wt_ff, wt_tt, wt_ft, wt_tf, wt_undef, obH_some', extractV_tuple, nilCheckV_ptr, againK_normal, againK_exit, againK_ret, blockK_normal, blockK_same, blockK_ret, seqK_normal, seqK_exit, seqK_ret, fin_done, if_true', if_false', Bool.not_true, Bool.not_false, idx0, idx1, idx2, idx3, idx4, chk_nil_l, chk_nil_r, done_nm, up_cons, up_nil, cond_true, cond_false, Nat.reduceBEq]
      exact e _ Aa Ab Ac Ag
theorem ins_out {a : Nat} {l : List Nat} {g : Heap} (hn : n < 2 ^ 40) (hb : b ≤ n) (hp : p < g.blks.length) :
    ∀ (d i : Nat), b - i = d → a ≤ i → ∀ (x : Nat → Value) (h : Heap) (m : List Nat),In g.blks.length (Just p) (nm g) h → NR h p m → m.length = n → l.length = n → Srt a i m → Sw a b l m →
    x 0 = sv p n c → x 1 = .int .i64 a → x 2 = .int .i64 b → x 6 = .int .i64 i →
    ∃ h' m', lK c95_1 49 x h (blockK 0 (retK Tryd.f95 Tryd.prog g)) = some (.tuple #[], h') ∧ HMod (Just p) g h' ∧ NR h' p m' ∧ Srt a b m' ∧ Sw a b l m' := by
  intro d
  induction d with
  | zero =>
    intro i e1 e2 x h m hin hm hl hl2 hs sw Aa Ab Ac Ag
    rw [lK_eq]
    have d1 : ¬ (i : Int) < b := by omega
    refine ⟨_, m, ?_, done_mod hin, hm.done, fun u v h1 h2 h3 => hs u v h1 h2 (by omega), sw⟩
    simp -implicitDefEqProofs (disch := omega) only [↓c95_1_eq,Aa,Ab,Ac,Ag, d1, decide_false, retN, ret95, ↓cnd_true, ↓cnd_false, ↓Option.bind_some, ↓obH_some', bin_add, bin_sub, bin_mul, bin_lss, bin_leq, bin_gtr, bin_geq, bin_eql, bin_neq, un_not, un_neg, Option.bind_some, Option.bind_none, Option.map_some, cnd_true, cnd_false, pickV_true, pickV_false, gd_true, gd_false, gdV_true, gdV_false, gdH_true, gdH_false, gdS_true, gdS_false, wt_ff, wt_tt, wt_ft, wt_tf, wt_undef, obH_some', extractV_tuple, nilCheckV_ptr, againK_normal, againK_exit, againK_ret, blockK_normal, blockK_same, blockK_ret, seqK_normal, seqK_exit, seqK_ret, fin_done, if_true', if_false', Bool.not_true, Bool.not_false, idx0, idx1, idx2, idx3, idx4, chk_nil_l, chk_nil_r, done_nm, up_cons, up_nil, cond_true, cond_false, Nat.reduceBEq]
  | succ d ih =>
    intro i e1 e2 x h m hin hm hl hl2 hs sw Aa Ab Ac Ag
    rw [lK_eq]
    have d1 : (i : Int) < b := by omega
    simp -implicitDefEqProofs (disch := omega) only [↓c95_1_eq,Aa,Ab,Ac,Ag, d1, decide_true, ↓cnd_true, ↓cnd_false, ↓Option.bind_some, ↓obH_some', bin_add, bin_sub, bin_mul, bin_lss, bin_leq, bin_gtr, bin_geq, bin_eql, bin_neq, un_not, un_neg, Option.bind_some, Option.bind_none, Option.map_some, cnd_true, cnd_false, pickV_true, pickV_false, gd_true, gd_false, gdV_true, gdV_false, gdH_true, gdH_false, gdS_true, gdS_false, wt_ff, wt_tt, wt_ft, wt_tf, wt_undef, obH_some', extractV_tuple, nilCheckV_ptr, againK_normal, againK_exit, againK_ret, blockK_normal, blockK_same, blockK_ret, seqK_normal, seqK_exit, seqK_ret, fin_done, if_true', if_false', Bool.not_true, Bool.not_false, idx0, idx1, idx2, idx3, idx4, chk_nil_l, chk_nil_r, done_nm, up_cons, up_nil, cond_true, cond_false, Nat.reduceBEq]
    refine ins_in (c := c) (b := b) (Q := fun o => ∃ h' m', o = some (Value.tuple #[], h') ∧ HMod (Just p) g h' ∧ NR h' p m' ∧ Srt a b m' ∧ Sw a b l m') (l := m) hn (by omega) i e2 (Nat.le_refl _) _ _ m hin (Nat.le_trans hin.le hin.len) hm hl (.start hs) (.refl _) ?_ ?_ ?_ ?_ ?_ ?_
    · exact Aa
    · exact Ab
    · exact Ac
    · exact Ag
    · rfl
    · intro x' h' m' hin' _ hm' hl' hs' sw' y0 y1 y2 y6
      have w1 := wa i (by omega)
      simp -implicitDefEqProofs (disch := omega) only [↓c95_3_eq, y0, y1, y2, y6, w1, ↓cnd_true, ↓cnd_false, ↓Option.bind_some, ↓obH_some', bin_add, bin_sub, bin_mul, bin_lss, bin_leq, bin_gtr, bin_geq, bin_eql, bin_neq, un_not, un_neg, Option.bind_some, Option.bind_none, Option.map_some, cnd_true, cnd_false, pickV_true, pickV_false, gd_true, gd_false, gdV_true, gdV_false, gdH_true, gdH_false, gdS_true, gdS_false, wt_ff, wt_tt, wt_ft, wt_tf, wt_undef, obH_some', extractV_tuple, nilCheckV_ptr, againK_normal, againK_exit, againK_ret, blockK_normal, blockK_same, blockK_ret, seqK_normal, seqK_exit, seqK_ret, fin_done, if_true', if_false', Bool.not_true, Bool.not_false, idx0, idx1, idx2, idx3, idx4, chk_nil_l, chk_nil_r, done_nm, up_cons, up_nil, cond_true, cond_false, Nat.reduceBEq]
      refine ih (i + 1) (by omega) (by omega) _ _ _ hin' hm' hl' hl2 hs' (sw.trans (sw'.wide (Nat.le_refl _) (by omega) (by omega))) ?_ ?_ ?_ ?_
      · exact y0
      · exact y1
      · exact y2
      · rfl
theorem spec_ins {h : Heap} {l : List Nat} (hm : NR h p l) (hl : l.length = n) (hn : n < 2 ^ 40) {a : Nat} (ha : a ≤ b) (hb : b ≤ n) :
    ∃ h' m, evC Tryd.prog 95 #[sv p n c, .int .i64 a, .int .i64 b] h = some (.tuple #[], h') ∧ HMod (Just p) h h' ∧ NR h' p m ∧ Srt a b m ∧ Sw a b l m := by
  rw [call95]
  have w1 := wa a (by omega)
  by_cases e : a + 1 ≤ b
  · have := ins_out (c := c) (l := l) (a := a) (g := h) hn hb (Cells.lt hm) (b - (a + 1)) (a + 1) rfl (by omega)
    simp -implicitDefEqProofs (disch := omega) only [↓c95_0_eq, w1, ↓cnd_true, ↓cnd_false, ↓Option.bind_some, ↓obH_some', bin_add, bin_sub, bin_mul, bin_lss, bin_leq, bin_gtr, bin_geq, bin_eql, bin_neq, un_not, un_neg, Option.bind_some, Option.bind_none, Option.map_some, cnd_true, cnd_false, pickV_true, pickV_false, gd_true, gd_false, gdV_true, gdV_false, gdH_true, gdH_false, gdS_true, gdS_false, wt_ff, wt_tt, wt_ft, wt_tf, wt_undef, obH_some', extractV_tuple, nilCheckV_ptr, againK_normal, againK_exit, againK_ret, blockK_normal, blockK_same, blockK_ret, seqK_normal, seqK_exit, seqK_ret, fin_done, if_true', if_false', Bool.not_true, Bool.not_false, idx0, idx1, idx2, idx3, idx4, chk_nil_l, chk_nil_r, done_nm, up_cons, up_nil, cond_true, cond_false, Nat.reduceBEq]
    refine this _ (Am.nm h) l (In.refl (Nat.le_refl h.blks.length)) hm.nm hl hl (.nil (by omega)) (.refl _) ?_ ?_ ?_ ?_ <;> rfl
  · simp -implicitDefEqProofs (disch := omega) only [↓c95_0_eq, w1, ↓cnd_true, ↓cnd_false, ↓Option.bind_some, ↓obH_some', bin_add, bin_sub, bin_mul, bin_lss, bin_leq, bin_gtr, bin_geq, bin_eql, bin_neq, un_not, un_neg, Option.bind_some, Option.bind_none, Option.map_some, cnd_true, cnd_false, pickV_true, pickV_false, gd_true, gd_false, gdV_true, gdV_false, gdH_true, gdH_false, gdS_true, gdS_false, wt_ff, wt_tt, wt_ft, wt_tf, wt_undef, obH_some', extractV_tuple, nilCheckV_ptr, againK_normal, againK_exit, againK_ret, blockK_normal, blockK_same, blockK_ret, seqK_normal, seqK_exit, seqK_ret, fin_done, if_true', if_false', Bool.not_true, Bool.not_false, idx0, idx1, idx2, idx3, idx4, chk_nil_l, chk_nil_r, done_nm, up_cons, up_nil, cond_true, cond_false, Nat.reduceBEq]
    rw [lK_eq]
    have d1 : ¬ ((a + 1 : Nat) : Int) < b := by omega
    refine ⟨_, l, ?_, done_mod (In.refl (Nat.le_refl h.blks.length)), hm.nm.done, .nil (by omega), .refl _⟩
    simp -implicitDefEqProofs (disch := omega) only [↓c95_1_eq, d1, decide_false, retN, ret95, ↓cnd_true, ↓cnd_false, ↓Option.bind_some, ↓obH_some', bin_add, bin_sub, bin_mul, bin_lss, bin_leq, bin_gtr, bin_geq, bin_eql, bin_neq, un_not, un_neg, Option.bind_some, Option.bind_none, Option.map_some, cnd_true, cnd_false, pickV_true, pickV_false, gd_true, gd_false, gdV_true, gdV_false, gdH_true, gdH_false, gdS_true, gdS_false, wt_ff, wt_tt, wt_ft, wt_tf, wt_undef, obH_some', extractV_tuple, nilCheckV_ptr, againK_normal, againK_exit, againK_ret, blockK_normal, blockK_same, blockK_ret, seqK_normal, seqK_exit, seqK_ret, fin_done, if_true', if_false', Bool.not_true, Bool.not_false, idx0, idx1, idx2, idx3, idx4, chk_nil_l, chk_nil_r, done_nm, up_cons, up_nil, cond_true, cond_false, Nat.reduceBEq]
theorem pin_loop {β : Type} {Q : Option β → Prop} {a : Nat} {l : List Nat} {k : Ex → St → Option β} {h : Heap} (hn : n < 2 ^ 40) (hb : b ≤ n) (hm : NR h p l) (hl : l.length = n) :
    ∀ (d i : Nat), b - i = d → a < i → i ≤ b → Srt a i l → ∀ (x : Nat → Value), x 0 = sv p n c → x 1 = .int .i64 a → x 2 = .int .i64 b → x 7 = .int .i64 i →
    (∀ (x' : Nat → Value) (i : Nat), a < i → i ≤ b → Srt a i l → x' 0 = sv p n c → x' 1 = .int .i64 a → x' 2 = .int .i64 b → x' 7 = .int .i64 i → Q (k .normal ⟨ar 133 x', h⟩)) →
    Q (lK c100_3 133 x h (blockK 2 k)) := by
  intro d
  induction d with
  | zero =>
    intro i e1 e2 e3 hs x Aa Ab Ac Ah hk
    rw [lK_eq]
    have e := fun x' y0 y1 y2 y7 => hk x' i e2 e3 hs y0 y1 y2 y7
    have d1 : ¬ (i : Int) < b := by omega
    simp -implicitDefEqProofs (disch := omega) only [↓c100_3_eq,Aa,Ab,Ac,Ah, d1, decide_false, ↓cnd_true, ↓cnd_false, ↓Option.bind_some, ↓obH_some', bin_add, bin_sub, bin_mul, bin_lss, bin_leq, bin_gtr, bin_geq, bin_eql, bin_neq, un_not, un_neg, Option.bind_some, Option.bind_none, Option.map_some, cnd_true, cnd_false, pickV_true, pickV_false, gd_true, gd_false, gdV_true, gdV_false, gdH_true, gdH_false, gdS_true, gdS_false, wt_ff, wt_tt, wt_ft, wt_tf, wt_undef, obH_some', extractV_tuple, nilCheckV_ptr, againK_normal, againK_exit, againK_ret, blockK_normal, blockK_same, blockK_ret, seqK_normal, seqK_exit, seqK_ret, fin_done, if_true', if_false', Bool.not_true, Bool.not_false, idx0, idx1, idx2, idx3, idx4, chk_nil_l, chk_nil_r, done_nm, up_cons, up_nil, cond_true, cond_false, Nat.reduceBEq]
    exact e _ Aa Ab Ac Ah
  | succ d ih =>
    intro i e1 e2 e3 hs x Aa Ab Ac Ah hk
    rw [lK_eq]
    have d1 : (i : Int) < b := by omega
    have i1 := iaS p n c i (by omega)
    have i2 := iaS p n c (i - 1) (by omega)
    have w1 := ws i (by omega) (by omega)
    have w2 := wa i (by omega)
    have l1 := hm.at (i := i) (by omega)
    have l2 := hm.at (i := i - 1) (by omega)
    have e1' := fun h => spec_Less (gt0 l i) (gt0 l (i - 1)) h
    by_cases h2 : gt0 l i < gt0 l (i - 1)
    · have e := fun x' y0 y1 y2 y7 => hk x' i e2 e3 hs y0 y1 y2 y7
      simp -implicitDefEqProofs (disch := omega) only [↓c100_3_eq,Aa,Ab,Ac,Ah, d1, i1, i2, w1, vld64, l1, l2, e1', h2, decide_true, decide_false, ↓cnd_true, ↓cnd_false, ↓Option.bind_some, ↓obH_some', bin_add, bin_sub, bin_mul, bin_lss, bin_leq, bin_gtr, bin_geq, bin_eql, bin_neq, un_not, un_neg, Option.bind_some, Option.bind_none, Option.map_some, cnd_true, cnd_false, pickV_true, pickV_false, gd_true, gd_false, gdV_true, gdV_false, gdH_true, gdH_false, gdS_true, gdS_false, wt_ff, wt_tt, wt_ft, wt_tf, wt_undef, obH_some', extractV_tuple, nilCheckV_ptr, againK_normal, againK_exit, againK_ret, blockK_normal, blockK_same, blockK_ret, seqK_normal, seqK_exit, seqK_ret, fin_done, if_true', if_false', Bool.not_true, Bool.not_false, idx0, idx1, idx2, idx3, idx4, chk_nil_l, chk_nil_r, done_nm, up_cons, up_nil, cond_true, cond_false, Nat.reduceBEq]
      exact e _ Aa Ab Ac Ah
    · simp -implicitDefEqProofs (disch := omega) only [↓c100_3_eq,Aa,Ab,Ac,Ah, d1, i1, i2, w1, w2, vld64, l1, l2, e1', h2, decide_true, decide_false, ↓cnd_true, ↓cnd_false, ↓Option.bind_some, ↓obH_some', bin_add, bin_sub, bin_mul, bin_lss, bin_leq, bin_gtr, bin_geq, bin_eql, bin_neq, un_not, un_neg, Option.bind_some, Option.bind_none, Option.map_some, cnd_true, cnd_false, pickV_true, pickV_false, gd_true, gd_false, gdV_true, gdV_false, gdH_true, gdH_false, gdS_true, gdS_false, wt_ff, wt_tt, wt_ft, wt_tf, wt_undef, obH_some', extractV_tuple, nilCheckV_ptr, againK_normal, againK_exit, againK_ret, blockK_normal, blockK_same, blockK_ret, seqK_normal, seqK_exit, seqK_ret, fin_done, if_true', if_false', Bool.not_true, Bool.not_false, idx0, idx1, idx2, idx3, idx4, chk_nil_l, chk_nil_r, done_nm, up_cons, up_nil, cond_true, cond_false, Nat.reduceBEq]
      refine ih (i + 1) (by omega) (by omega) (by omega) (.of_adj fun u h1 h2' => ?_) _ ?_ ?_ ?_ ?_ hk
      · by_cases e : u = i
        · subst e; omega
        · exact hs (u - 1) u (by omega) (by omega) (by omega)
      · exact Aa
      · exact Ab
      · exact Ac
      · rfl
theorem spec_pin {h : Heap} {l : List Nat} (hm : NR h p l) (hl : l.length = n) (hn : n < 2 ^ 40) {a : Nat} (ha : a < b) (hb : b ≤ n) (hs : b - a < 50) :
    ∃ r, evC Tryd.prog 100 #[sv p n c, .int .i64 a, .int .i64 b] h = some (.bool r, h) ∧ (r = true → Srt a b l) := by
  rw [call100]
  have w1 := wa a (by omega)
  have w2 := wd b a (by omega) (by omega)
  have d5 : (0 : Int) < 5 := by omega
  simp -implicitDefEqProofs (disch := omega) only [↓c100_0_eq, w1, ↓cnd_true, ↓cnd_false, ↓Option.bind_some, ↓obH_some', bin_add, bin_sub, bin_mul, bin_lss, bin_leq, bin_gtr, bin_geq, bin_eql, bin_neq, un_not, un_neg, Option.bind_some, Option.bind_none, Option.map_some, cnd_true, cnd_false, pickV_true, pickV_false, gd_true, gd_false, gdV_true, gdV_false, gdH_true, gdH_false, gdS_true, gdS_false, wt_ff, wt_tt, wt_ft, wt_tf, wt_undef, obH_some', extractV_tuple, nilCheckV_ptr, againK_normal, againK_exit, againK_ret, blockK_normal, blockK_same, blockK_ret, seqK_normal, seqK_exit, seqK_ret, fin_done, if_true', if_false', Bool.not_true, Bool.not_false, idx0, idx1, idx2, idx3, idx4, chk_nil_l, chk_nil_r, done_nm, up_cons, up_nil, cond_true, cond_false, Nat.reduceBEq]
  rw [lK_eq]
  simp -implicitDefEqProofs (disch := omega) only [↓c100_1_eq, d5, decide_true, ↓cnd_true, ↓cnd_false, ↓Option.bind_some, ↓obH_some', bin_add, bin_sub, bin_mul, bin_lss, bin_leq, bin_gtr, bin_geq, bin_eql, bin_neq, un_not, un_neg, Option.bind_some, Option.bind_none, Option.map_some, cnd_true, cnd_false, pickV_true, pickV_false, gd_true, gd_false, gdV_true, gdV_false, gdH_true, gdH_false, gdS_true, gdS_false, wt_ff, wt_tt, wt_ft, wt_tf, wt_undef, obH_some', extractV_tuple, nilCheckV_ptr, againK_normal, againK_exit, againK_ret, blockK_normal, blockK_same, blockK_ret, seqK_normal, seqK_exit, seqK_ret, fin_done, if_true', if_false', Bool.not_true, Bool.not_false, idx0, idx1, idx2, idx3, idx4, chk_nil_l, chk_nil_r, done_nm, up_cons, up_nil, cond_true, cond_false, Nat.reduceBEq]
  refine pin_loop (a := a) (c := c) (b := b) (Q := fun o => ∃ r, o = some (Value.bool r, h) ∧ (r = true → Srt a b l)) hn hb hm.nm hl (b - (a + 1)) (a + 1) rfl (by omega) (by omega) (.nil (by omega)) _ ?_ ?_ ?_ ?_ ?_
  · rfl
  · rfl
  · rfl
  · rfl
  · intro x' i h1 h2 h3 y0 y1 y2 y7
    by_cases e : i = b
    · subst e
      refine ⟨true, ?_, fun _ => h3⟩
      simp -implicitDefEqProofs (disch := omega) only [↓c100_4_eq, y0, y1, y2, y7, decide_true, ↓ret100, ↓cnd_true, ↓cnd_false, ↓Option.bind_some, ↓obH_some', bin_add, bin_sub, bin_mul, bin_lss, bin_leq, bin_gtr, bin_geq, bin_eql, bin_neq, un_not, un_neg, Option.bind_some, Option.bind_none, Option.map_some, cnd_true, cnd_false, pickV_true, pickV_false, gd_true, gd_false, gdV_true, gdV_false, gdH_true, gdH_false, gdS_true, gdS_false, wt_ff, wt_tt, wt_ft, wt_tf, wt_undef, obH_some', extractV_tuple, nilCheckV_ptr, againK_normal, againK_exit, againK_ret, blockK_normal, blockK_same, blockK_ret, seqK_normal, seqK_exit, seqK_ret, fin_done, if_true', if_false', Bool.not_true, Bool.not_false, idx0, idx1, idx2, idx3, idx4, chk_nil_l, chk_nil_r, done_nm, up_cons, up_nil, cond_true, cond_false, Nat.reduceBEq]
    · have d1 : ¬ (i : Int) = b := by omega
      have d2 : ((b - a : Nat) : Int) < 50 := by omega
      refine ⟨false, ?_, fun h => by cases h⟩
      simp -implicitDefEqProofs (disch := omega) only [↓c100_4_eq, y0, y1, y2, y7, d1, d2, w2, decide_true, decide_false, ↓ret100, ↓cnd_true, ↓cnd_false, ↓Option.bind_some, ↓obH_some', bin_add, bin_sub, bin_mul, bin_lss, bin_leq, bin_gtr, bin_geq, bin_eql, bin_neq, un_not, un_neg, Option.bind_some, Option.bind_none, Option.map_some, cnd_true, cnd_false, pickV_true, pickV_false, gd_true, gd_false, gdV_true, gdV_false, gdH_true, gdH_false, gdS_true, gdS_false, wt_ff, wt_tt, wt_ft, wt_tf, wt_undef, obH_some', extractV_tuple, nilCheckV_ptr, againK_normal, againK_exit, againK_ret, blockK_normal, blockK_same, blockK_ret, seqK_normal, seqK_exit, seqK_ret, fin_done, if_true', if_false', Bool.not_true, Bool.not_false, idx0, idx1, idx2, idx3, idx4, chk_nil_l, chk_nil_r, done_nm, up_cons, up_nil, cond_true, cond_false, Nat.reduceBEq]
end
end Go.Am.Z
namespace Go.Am.Z
open Go.Proofs
set_option maxRecDepth 100000
set_option linter.all false
attribute [local instance] xt0 gl0
attribute [local instance] xm0 xo0
attribute [local congr] obind_congr obH_congr cnd_congr chk_congr retK_congr codeK_congr
section
variable {p n c : Nat}
theorem vldI (p o : Nat) (h : Heap) : loadV Tryd.prog 3 (.pointer (some ⟨p, o, none⟩)) h = h.load1 p o := by kernel_rfl
theorem vstI (p o : Nat) (k : IntKind) (n : Int) (h : Heap) : storeV Tryd.prog 3 (.pointer (some ⟨p, o, none⟩)) (.int k n) h = h.storeN p o [.int k n] := by kernel_rfl
theorem alI (h : Heap) : allocV Tryd.prog 3 h = some (.pointer (some ⟨h.blks.length, 0, none⟩), h.new (.cells [.int .i64 0]) 3) := by kernel_rfl
abbrev Bx (h : Heap) (q s : Nat) : Prop := Cells h q 3 [.int .i64 s]
theorem spec_order2 {h : Heap} {l : List Nat} {q s i j : Nat} (hm : NR h p l) (hl : l.length = n) (hq : Bx h q s) (hs : s < 2 ^ 40) (hi : i < n) (hj : j < n) :
    ∃ h' s', evC Tryd.prog 112 #[sv p n c, .int .i64 i, .int .i64 j, .pointer (some ⟨q, 0, none⟩)] h = some (.tuple #[.int .i64 (if gt0 l j < gt0 l i then j else i : Nat), .int .i64 (if gt0 l j < gt0 l i then i else j : Nat)], h') ∧
      HMod (Just q) h h' ∧ Bx h' q s' ∧ s' ≤ s + 1 := by
  rw [call112]
  have i1 := iaS p n c i hi
  have i2 := iaS p n c j hj
  have l1 := hm.nm.at (i := i) (by omega)
  have l2 := hm.nm.at (i := j) (by omega)
  have e1 := fun h => spec_Less (gt0 l j) (gt0 l i) h
  have w1 := wa s hs
  by_cases e : gt0 l j < gt0 l i
  · rw [if_pos e, if_pos e]
    have l3 : (nm h).load1 q 0 = some (.int .i64 s) := Cells.load (Cells.nm hq) 0
    have s1 : (nm h).storeN q 0 [.int .i64 ((s + 1 : Nat) : Int)] = some ((nm h).put q (.cells [.int .i64 ((s + 1 : Nat) : Int)])) := by
      rw [storeN_blk (Cells.nm hq) (by simp)]; rfl
    refine ⟨_, s + 1, ?_, done_mod (In.put (h := nm h) (Nat.le_refl h.blks.length) (.inr (show Just q q from rfl)) (.cells [.int .i64 ((s + 1 : Nat) : Int)])), Cells.done (Cells.put (Cells.nm hq) _), by omega⟩
    simp -implicitDefEqProofs (disch := omega) only [↓c112_0_eq, i1, i2, vld64, vldI, vstI, l1, l2, l3, s1, w1, e1, e, decide_true, ↓ret112, ↓cnd_true, ↓cnd_false, ↓Option.bind_some, ↓obH_some', bin_add, bin_sub, bin_mul, bin_lss, bin_leq, bin_gtr, bin_geq, bin_eql, bin_neq, un_not, un_neg, Option.bind_some, Option.bind_none, Option.map_some, cnd_true, cnd_false, pickV_true, pickV_false, gd_true, gd_false, gdV_true, gdV_false, gdH_true, gdH_false, gdS_true, gdS_false, wt_ff, wt_tt, wt_ft, wt_tf, wt_undef, obH_some', extractV_tuple, nilCheckV_ptr, againK_normal, againK_exit, againK_ret, blockK_normal, blockK_same, blockK_ret, seqK_normal, seqK_exit, seqK_ret, fin_done, if_true', if_false', Bool.not_true, Bool.not_false, idx0, idx1, idx2, idx3, idx4, chk_nil_l, chk_nil_r, done_nm, up_cons, up_nil, cond_true, cond_false, Nat.reduceBEq]
  · rw [if_neg e, if_neg e]
    refine ⟨h, s, ?_, (HExt.refl h).mod _, hq, by omega⟩
    simp -implicitDefEqProofs (disch := omega) only [↓c112_0_eq, i1, i2, vld64, l1, l2, e1, e, decide_false, ↓ret112, ↓cnd_true, ↓cnd_false, ↓Option.bind_some, ↓obH_some', bin_add, bin_sub, bin_mul, bin_lss, bin_leq, bin_gtr, bin_geq, bin_eql, bin_neq, un_not, un_neg, Option.bind_some, Option.bind_none, Option.map_some, cnd_true, cnd_false, pickV_true, pickV_false, gd_true, gd_false, gdV_true, gdV_false, gdH_true, gdH_false, gdS_true, gdS_false, wt_ff, wt_tt, wt_ft, wt_tf, wt_undef, obH_some', extractV_tuple, nilCheckV_ptr, againK_normal, againK_exit, againK_ret, blockK_normal, blockK_same, blockK_ret, seqK_normal, seqK_exit, seqK_ret, fin_done, if_true', if_false', Bool.not_true, Bool.not_false, idx0, idx1, idx2, idx3, idx4, chk_nil_l, chk_nil_r, done_nm, up_cons, up_nil, cond_true, cond_false, Nat.reduceBEq]
theorem spec_median {h : Heap} {l : List Nat} {q s i j k : Nat} (hm : NR h p l) (hl : l.length = n) (hq : Bx h q s) (hpq : p ≠ q) (hs : s < 2 ^ 20) (hi : i < n) (hj : j < n) (hk : k < n) (h1 : i ≠ j) (h2 : j ≠ k) (h3 : i ≠ k) :
    ∃ h' s' r lo hi', evC Tryd.prog 110 #[sv p n c, .int .i64 i, .int .i64 j, .int .i64 k, .pointer (some ⟨q, 0, none⟩)] h = some (.int .i64 (r : Nat), h') ∧
      HMod (Just q) h h' ∧ Bx h' q s' ∧ s' ≤ s + 3 ∧ (r = i ∨ r = j ∨ r = k) ∧ (lo = i ∨ lo = j ∨ lo = k) ∧ (hi' = i ∨ hi' = j ∨ hi' = k) ∧ lo ≠ r ∧ hi' ≠ r ∧ gt0 l lo ≤ gt0 l r ∧ gt0 l r ≤ gt0 l hi' := by
  rw [call110]
  obtain ⟨ha, s1, e1, m1, b1, le1⟩ := spec_order2 (c := c) (n := n) hm.nm hl (Cells.nm hq) (by omega) hi hj
  have hm1 : NR ha p l := Cells.mod hm.nm m1 hpq
  generalize hx : (if gt0 l j < gt0 l i then j else i) = x at e1
  generalize hy : (if gt0 l j < gt0 l i then i else j) = y at e1
  have hxn : x < n := by rw [← hx]; split <;> omega
  have hyn : y < n := by rw [← hy]; split <;> omega
  obtain ⟨hb, s2, e2, m2, b2, le2⟩ := spec_order2 (c := c) (n := n) hm1 hl b1 (by omega) hyn hk
  have hm2 : NR hb p l := Cells.mod hm1 m2 hpq
  generalize hy' : (if gt0 l k < gt0 l y then k else y) = y' at e2
  generalize hz : (if gt0 l k < gt0 l y then y else k) = z at e2
  have hyn' : y' < n := by rw [← hy']; split <;> omega
  obtain ⟨hc, s3, e3, m3, b3, le3⟩ := spec_order2 (c := c) (n := n) hm2 hl b2 (by omega) hxn hyn'
  generalize hx' : (if gt0 l y' < gt0 l x then y' else x) = x' at e3
  generalize hy2 : (if gt0 l y' < gt0 l x then x else y') = y2 at e3
  have k1 : In h.blks.length (Just q) (nm h) hc := ((m1.inn (Nat.le_refl h.blks.length) (fun _ _ x => x)).trans (m2.inn m1.len (fun _ _ x => x))).trans (m3.inn (Nat.le_trans m1.len m2.len) (fun _ _ x => x))
  have key : (y2 = i ∨ y2 = j ∨ y2 = k) ∧ (x' = i ∨ x' = j ∨ x' = k) ∧ (z = i ∨ z = j ∨ z = k) ∧ x' ≠ y2 ∧ z ≠ y2 ∧ gt0 l x' ≤ gt0 l y2 ∧ gt0 l y2 ≤ gt0 l z := by
    clear e1 e2 e3 m1 m2 m3 b1 b2 b3 k1 hm1 hm2
    by_cases c1 : gt0 l j < gt0 l i
    · rw [if_pos c1] at hx hy
      subst hx hy
      by_cases c2 : gt0 l k < gt0 l i
      · rw [if_pos c2] at hy' hz
        subst hy' hz
        by_cases c3 : gt0 l k < gt0 l j
        · rw [if_pos c3] at hx' hy2
          subst hx' hy2
          simp only [true_or, or_true, true_and]; omega
        · rw [if_neg c3] at hx' hy2
          subst hx' hy2
          simp only [true_or, or_true, true_and]; omega
      · rw [if_neg c2] at hy' hz
        subst hy' hz
        rw [if_neg (by omega)] at hx' hy2
        subst hx' hy2
        simp only [true_or, or_true, true_and]; omega
    · rw [if_neg c1] at hx hy
      subst hx hy
      by_cases c2 : gt0 l k < gt0 l j
      · rw [if_pos c2] at hy' hz
        subst hy' hz
        by_cases c3 : gt0 l k < gt0 l i
        · rw [if_pos c3] at hx' hy2
          subst hx' hy2
          simp only [true_or, or_true, true_and]; omega
        · rw [if_neg c3] at hx' hy2
          subst hx' hy2
          simp only [true_or, or_true, true_and]; omega
      · rw [if_neg c2] at hy' hz
        subst hy' hz
        rw [if_neg (by omega)] at hx' hy2
        subst hx' hy2
        simp only [true_or, or_true, true_and]; omega
  refine ⟨done h hc, s3, y2, x', z, ?_, done_mod k1, Cells.done b3, by omega, key⟩
  simp -implicitDefEqProofs (disch := omega) only [↓c110_0_eq, e1, e2, e3, am_nm, nm_mods, List.nil_append, List.append_nil, ↓ret110, ↓cnd_true, ↓cnd_false, ↓Option.bind_some, ↓obH_some', bin_add, bin_sub, bin_mul, bin_lss, bin_leq, bin_gtr, bin_geq, bin_eql, bin_neq, un_not, un_neg, Option.bind_some, Option.bind_none, Option.map_some, cnd_true, cnd_false, pickV_true, pickV_false, gd_true, gd_false, gdV_true, gdV_false, gdH_true, gdH_false, gdS_true, gdS_false, wt_ff, wt_tt, wt_ft, wt_tf, wt_undef, obH_some', extractV_tuple, nilCheckV_ptr, againK_normal, againK_exit, againK_ret, blockK_normal, blockK_same, blockK_ret, seqK_normal, seqK_exit, seqK_ret, fin_done, if_true', if_false', Bool.not_true, Bool.not_false, idx0, idx1, idx2, idx3, idx4, chk_nil_l, chk_nil_r, done_nm, up_cons, up_nil, cond_true, cond_false, Nat.reduceBEq]
theorem q4 (k : Nat) (h1 : 13 ≤ k) (h2 : k ≤ 15) : binV Tryd.prog .quo 3 (.tmp 0) (.tmp 0) (.int .i64 k) (.int .i64 4) = some (.int .i64 3) := by
  obtain rfl | rfl | rfl : k = 13 ∨ k = 14 ∨ k = 15 := by omega
  all_goals kernel_rfl
theorem q8 (k : Nat) (h1 : 13 ≤ k) (h2 : k ≤ 15) : binV Tryd.prog .quo 3 (.tmp 0) (.tmp 0) (.int .i64 k) (.int .i64 8) = some (.int .i64 1) := by
  obtain rfl | rfl | rfl : k = 13 ∨ k = 14 ∨ k = 15 := by omega
  all_goals kernel_rfl
theorem spec_pivot {h : Heap} {l : List Nat} (hm : NR h p l) (hl : l.length = n) (hn : n < 2 ^ 20) {a b : Nat} (h1 : a + 13 ≤ b) (h2 : b ≤ a + 15) (hb : b ≤ n) :
    ∃ (h' : Heap) (r lo hi' : Nat) (t : Int), evC Tryd.prog 98 #[sv p n c, .int .i64 a, .int .i64 b] h = some (.tuple #[.int .i64 (r : Nat), .int .i64 t], h') ∧
      HExt h h' ∧ (t = 0 ∨ t = 1) ∧ a ≤ r ∧ r < b ∧ a ≤ lo ∧ lo < b ∧ a ≤ hi' ∧ hi' < b ∧ lo ≠ r ∧ hi' ≠ r ∧ gt0 l lo ≤ gt0 l r ∧ gt0 l r ≤ gt0 l hi' := by
  rw [call98]
  have w0 := wd b a (by omega) (by omega)
  have u1 := q4 (b - a) (by omega) (by omega)
  have w1 : IntKind.i64.wrap (3 * 1) = 3 := rfl
  have w2 : IntKind.i64.wrap (3 * 2) = 6 := rfl
  have w3 : IntKind.i64.wrap (3 * 3) = 9 := rfl
  have v1 : IntKind.i64.wrap ((a : Int) + 3) = ((a + 3 : Nat) : Int) := by rw [wrap_i64] <;> omega
  have v2 : IntKind.i64.wrap ((a : Int) + 6) = ((a + 6 : Nat) : Int) := by rw [wrap_i64] <;> omega
  have v3 : IntKind.i64.wrap ((a : Int) + 9) = ((a + 9 : Nat) : Int) := by rw [wrap_i64] <;> omega
  have d1 : ((b - a : Nat) : Int) ≥ 8 := by omega
  have d2 : ¬ ((b - a : Nat) : Int) ≥ 50 := by omega
  have hp := Cells.lt hm
  have q0 : Bx ((nm h).new (.cells [.int .i64 0]) 3) (nm h).blks.length 0 := Cells.new _ _ _
  have hne : p ≠ (nm h).blks.length := by simp; omega
  have k0 : In h.blks.length No (nm h) ((nm h).new (.cells [.int .i64 0]) 3) := In.new (h := nm h) (Nat.le_refl h.blks.length) _ _
  obtain ⟨h', s', r, lo, hi', e1, m1, b1, le1, r1, r2, r3, r4, r5, r6, r7⟩ := spec_median (c := c) (n := n) (q := (nm h).blks.length) (s := 0) (Cells.keepNew hm.nm _ _) hl q0 hne (by omega) (i := a + 3) (j := a + 6) (k := a + 9) (by omega) (by omega) (by omega) (by omega) (by omega) (by omega)
  have k1 : In h.blks.length No (nm h) h' := k0.trans (m1.inn k0.len (fun q hq (hh : q = _) => absurd hq (by subst hh; simp)))
  have ls : h'.load1 (nm h).blks.length 0 = some (.int .i64 s') := Cells.load b1 0
  have a1 := alI (nm h)
  generalize hg : (nm h).new (.cells [.int .i64 0]) 3 = g at *
  generalize hq : (nm h).blks.length = q at *
  by_cases hz : s' = 0
  · have d3 : ((s' : Nat) : Int) = 0 := by omega
    refine ⟨done h h', r, lo, hi', 1, ?_, done_ext' k1, .inr rfl, by omega, by omega, by omega, by omega, by omega, by omega, r4, r5, r6, r7⟩
    simp -implicitDefEqProofs (disch := omega) only [↓c98_0_eq, w0, u1, w1, w2, w3, v1, v2, v3, d1, d2, a1, e1, vldI, ls, d3, am_nm, nm_mods, List.nil_append, List.append_nil, decide_true, decide_false, ↓ret98, ↓cnd_true, ↓cnd_false, ↓Option.bind_some, ↓obH_some', bin_add, bin_sub, bin_mul, bin_lss, bin_leq, bin_gtr, bin_geq, bin_eql, bin_neq, un_not, un_neg, Option.bind_some, Option.bind_none, Option.map_some, cnd_true, cnd_false, pickV_true, pickV_false, gd_true, gd_false, gdV_true, gdV_false, gdH_true, gdH_false, gdS_true, gdS_false, wt_ff, wt_tt, wt_ft, wt_tf, wt_undef, obH_some', extractV_tuple, nilCheckV_ptr, againK_normal, againK_exit, againK_ret, blockK_normal, blockK_same, blockK_ret, seqK_normal, seqK_exit, seqK_ret, fin_done, if_true', if_false', Bool.not_true, Bool.not_false, idx0, idx1, idx2, idx3, idx4, chk_nil_l, chk_nil_r, done_nm, up_cons, up_nil, cond_true, cond_false, Nat.reduceBEq]
  · have d3 : ¬ ((s' : Nat) : Int) = 0 := by omega
    have d4 : ¬ ((s' : Nat) : Int) = 12 := by omega
    refine ⟨done h h', r, lo, hi', 0, ?_, done_ext' k1, .inl rfl, by omega, by omega, by omega, by omega, by omega, by omega, r4, r5, r6, r7⟩
    simp -implicitDefEqProofs (disch := omega) only [↓c98_0_eq, w0, u1, w1, w2, w3, v1, v2, v3, d1, d2, a1, e1, vldI, ls, d3, d4, am_nm, nm_mods, List.nil_append, List.append_nil, decide_true, decide_false, ↓ret98, ↓cnd_true, ↓cnd_false, ↓Option.bind_some, ↓obH_some', bin_add, bin_sub, bin_mul, bin_lss, bin_leq, bin_gtr, bin_geq, bin_eql, bin_neq, un_not, un_neg, Option.bind_some, Option.bind_none, Option.map_some, cnd_true, cnd_false, pickV_true, pickV_false, gd_true, gd_false, gdV_true, gdV_false, gdH_true, gdH_false, gdS_true, gdS_false, wt_ff, wt_tt, wt_ft, wt_tf, wt_undef, obH_some', extractV_tuple, nilCheckV_ptr, againK_normal, againK_exit, againK_ret, blockK_normal, blockK_same, blockK_ret, seqK_normal, seqK_exit, seqK_ret, fin_done, if_true', if_false', Bool.not_true, Bool.not_false, idx0, idx1, idx2, idx3, idx4, chk_nil_l, chk_nil_r, done_nm, up_cons, up_nil, cond_true, cond_false, Nat.reduceBEq]
end
end Go.Am.Z
namespace Go.Am.Z
open Go.Proofs
set_option maxRecDepth 100000
set_option linter.all false
attribute [local instance] xt0 gl0
attribute [local instance] xm0 xo0
attribute [local congr] obind_congr obH_congr cnd_congr chk_congr retK_congr codeK_congr
structure PI (n a b i j : Nat) (m : List Nat) : Prop where
  len : m.length = n
  hb : b ≤ n
  hn : n < 2 ^ 40
  ai : a < i
  ij : i ≤ j + 1
  jb : j < b
  le : ∀ k, a < k → k < i → gt0 m k < gt0 m a
  ge : ∀ k, j < k → k < b → gt0 m a ≤ gt0 m k
section
variable {p n c a b : Nat}
theorem PI.swap {i j : Nat} {m : List Nat} (q : PI n a b i j m) (h : i ≤ j) (h1 : ¬ gt0 m i < gt0 m a) (h2 : gt0 m j < gt0 m a) : PI n a b (i + 1) (j - 1) (swp m i j) := by
  obtain ⟨len, hb, hn, ai, ij, jb, le, ge⟩ := q
  have ne : i ≠ j := fun e => by subst e; omega
  have g := fun k => gt0_swp (l := m) (i := i) (j := j) (by omega) (by omega) k
  have ga : gt0 (swp m i j) a = gt0 m a := by rw [g, if_neg (by omega), if_neg (by omega)]
  refine ⟨by rw [swp_len, len], hb, hn, by omega, by omega, by omega, fun k k1 k2 => ?_, fun k k1 k2 => ?_⟩
  · rw [ga, g, if_neg (by omega)]
    split
    · exact h2
    · exact le k k1 (by omega)
  · rw [ga, g]
    split
    · omega
    · rw [if_neg (by omega)]
      exact ge k (by omega) k2
theorem par_inc1 {β : Type} {Q : Option β → Prop} {k : Ex → St → Option β} {h : Heap} {m : List Nat} {j : Nat} (hm : NR h p m) :
    ∀ (d i : Nat), j + 1 - i = d → PI n a b i j m → ∀ (x : Nat → Value), x 0 = sv p n c → x 1 = .int .i64 a → x 2 = .int .i64 b → x 10 = .int .i64 i → x 11 = .int .i64 j →
    (∀ (x' : Nat → Value) (i' : Nat), i ≤ i' → PI n a b i' j m → (j < i' ∨ ¬ gt0 m i' < gt0 m a) → x' 0 = sv p n c → x' 1 = .int .i64 a → x' 2 = .int .i64 b → x' 10 = .int .i64 i' → x' 11 = .int .i64 j → Q (k .normal ⟨ar 168 x', h⟩)) →
    Q (lK c103_1 168 x h (blockK 0 k)) := by
  intro d
  induction d with
  | zero =>
    intro i e1 q x Aa Ab Ac Ak Al hk
    have e := fun x' => hk x' i (Nat.le_refl _) q (.inl (by omega))
    have d1 : ¬ (i : Int) ≤ j := by omega
    rw [lK_eq]
    simp -implicitDefEqProofs (disch := omega) only [↓c103_1_eq,Aa,Ab,Ac,Ak,Al, d1, decide_false, ↓cnd_true, ↓cnd_false, ↓Option.bind_some, ↓obH_some', bin_add, bin_sub, bin_mul, bin_lss, bin_leq, bin_gtr, bin_geq, bin_eql, bin_neq, un_not, un_neg, Option.bind_some, Option.bind_none, Option.map_some, cnd_true, cnd_false, pickV_true, pickV_false, gd_true, gd_false, gdV_true, gdV_false, gdH_true, gdH_false, gdS_true, gdS_false, wt_ff, wt_tt, wt_ft, wt_tf, wt_undef, obH_some', extractV_tuple, nilCheckV_ptr, againK_normal, againK_exit, againK_ret, blockK_normal, blockK_same, blockK_ret, seqK_normal, seqK_exit, seqK_ret, fin_done, if_true', if_false', Bool.not_true, Bool.not_false, idx0, idx1, idx2, idx3, idx4, chk_nil_l, chk_nil_r, done_nm, up_cons, up_nil, cond_true, cond_false, Nat.reduceBEq]
    exact e _ Aa Ab Ac Ak Al
  | succ d ih =>
    intro i e1 q x Aa Ab Ac Ak Al hk
    obtain ⟨len, hb, hn, ai, ij, jb, le, ge⟩ := q
    have d1 : (i : Int) ≤ j := by omega
    have i1 := iaS p n c i (by omega)
    have i2 := iaS p n c a (by omega)
    have l1 := hm.at (i := i) (by omega)
    have l2 := hm.at (i := a) (by omega)
    have w1 := wa i (by omega)
    have e2 := fun h => spec_Less (gt0 m i) (gt0 m a) h
    rw [lK_eq]
    by_cases h2 : gt0 m i < gt0 m a
    · simp -implicitDefEqProofs (disch := omega) only [↓c103_1_eq,Aa,Ab,Ac,Ak,Al, d1, i1, i2, vld64, l1, l2, w1, e2, h2, decide_true, ↓cnd_true, ↓cnd_false, ↓Option.bind_some, ↓obH_some', bin_add, bin_sub, bin_mul, bin_lss, bin_leq, bin_gtr, bin_geq, bin_eql, bin_neq, un_not, un_neg, Option.bind_some, Option.bind_none, Option.map_some, cnd_true, cnd_false, pickV_true, pickV_false, gd_true, gd_false, gdV_true, gdV_false, gdH_true, gdH_false, gdS_true, gdS_false, wt_ff, wt_tt, wt_ft, wt_tf, wt_undef, obH_some', extractV_tuple, nilCheckV_ptr, againK_normal, againK_exit, againK_ret, blockK_normal, blockK_same, blockK_ret, seqK_normal, seqK_exit, seqK_ret, fin_done, if_true', if_false', Bool.not_true, Bool.not_false, idx0, idx1, idx2, idx3, idx4, chk_nil_l, chk_nil_r, done_nm, up_cons, up_nil, cond_true, cond_false, Nat.reduceBEq]
      refine ih (i + 1) (by omega) ⟨len, hb, hn, by omega, by omega, jb, fun k k1 k2 => ?_, ge⟩ _ ?_ ?_ ?_ ?_ ?_ (fun x' i' le' => hk x' i' (by omega))
      · by_cases e : k = i
        · subst e; exact h2
        · exact le k k1 (by omega)
      · exact Aa
      · exact Ab
      · exact Ac
      · rfl
      · exact Al
    · have e := fun x' => hk x' i (Nat.le_refl _) ⟨len, hb, hn, ai, ij, jb, le, ge⟩ (.inr h2)
      simp -implicitDefEqProofs (disch := omega) only [↓c103_1_eq,Aa,Ab,Ac,Ak,Al, d1, i1, i2, vld64, l1, l2, w1, e2, h2, decide_true, decide_false, ↓cnd_true, ↓cnd_false, ↓Option.bind_some, ↓obH_some', bin_add, bin_sub, bin_mul, bin_lss, bin_leq, bin_gtr, bin_geq, bin_eql, bin_neq, un_not, un_neg, Option.bind_some, Option.bind_none, Option.map_some, cnd_true, cnd_false, pickV_true, pickV_false, gd_true, gd_false, gdV_true, gdV_false, gdH_true, gdH_false, gdS_true, gdS_false, wt_ff, wt_tt, wt_ft, wt_tf, wt_undef, obH_some', extractV_tuple, nilCheckV_ptr, againK_normal, againK_exit, againK_ret, blockK_normal, blockK_same, blockK_ret, seqK_normal, seqK_exit, seqK_ret, fin_done, if_true', if_false', Bool.not_true, Bool.not_false, idx0, idx1, idx2, idx3, idx4, chk_nil_l, chk_nil_r, done_nm, up_cons, up_nil, cond_true, cond_false, Nat.reduceBEq]
      exact e _ Aa Ab Ac Ak Al
theorem par_inc7 {β : Type} {Q : Option β → Prop} {k : Ex → St → Option β} {h : Heap} {m : List Nat} {j : Nat} (hm : NR h p m) :
    ∀ (d i : Nat), j + 1 - i = d → PI n a b i j m → ∀ (x : Nat → Value), x 0 = sv p n c → x 1 = .int .i64 a → x 2 = .int .i64 b → x 10 = .int .i64 i → x 11 = .int .i64 j →
    (∀ (x' : Nat → Value) (i' : Nat), i ≤ i' → PI n a b i' j m → (j < i' ∨ ¬ gt0 m i' < gt0 m a) → x' 0 = sv p n c → x' 1 = .int .i64 a → x' 2 = .int .i64 b → x' 10 = .int .i64 i' → x' 11 = .int .i64 j → Q (k .normal ⟨ar 168 x', h⟩)) →
    Q (lK c103_7 168 x h (blockK 6 k)) := by
  intro d
  induction d with
  | zero =>
    intro i e1 q x Aa Ab Ac Ak Al hk
    have e := fun x' => hk x' i (Nat.le_refl _) q (.inl (by omega))
    have d1 : ¬ (i : Int) ≤ j := by omega
    rw [lK_eq]
    simp -implicitDefEqProofs (disch := omega) only [↓c103_7_eq,Aa,Ab,Ac,Ak,Al, d1, decide_false, ↓cnd_true, ↓cnd_false, ↓Option.bind_some, ↓obH_some', bin_add, bin_sub, bin_mul, bin_lss, bin_leq, bin_gtr, bin_geq, bin_eql, bin_neq, un_not, un_neg, Option.bind_some, Option.bind_none, Option.map_some, cnd_true, cnd_false, pickV_true, pickV_false, gd_true, gd_false, gdV_true, gdV_false, gdH_true, gdH_false, gdS_true, gdS_false, wt_ff, wt_tt, wt_ft, wt_tf, wt_undef, obH_some', extractV_tuple, nilCheckV_ptr, againK_normal, againK_exit, againK_ret, blockK_normal, blockK_same, blockK_ret, seqK_normal, seqK_exit, seqK_ret, fin_done, if_true', if_false', Bool.not_true, Bool.not_false, idx0, idx1, idx2, idx3, idx4, chk_nil_l, chk_nil_r, done_nm, up_cons, up_nil, cond_true, cond_false, Nat.reduceBEq]
    exact e _ Aa Ab Ac Ak Al
  | succ d ih =>
    intro i e1 q x Aa Ab Ac Ak Al hk
    obtain ⟨len, hb, hn, ai, ij, jb, le, ge⟩ := q
    have d1 : (i : Int) ≤ j := by omega
    have i1 := iaS p n c i (by omega)
    have i2 := iaS p n c a (by omega)
    have l1 := hm.at (i := i) (by omega)
    have l2 := hm.at (i := a) (by omega)
    have w1 := wa i (by omega)
    have e2 := fun h => spec_Less (gt0 m i) (gt0 m a) h
    rw [lK_eq]
    by_cases h2 : gt0 m i < gt0 m a
    · simp -implicitDefEqProofs (disch := omega) only [↓c103_7_eq,Aa,Ab,Ac,Ak,Al, d1, i1, i2, vld64, l1, l2, w1, e2, h2, decide_true, ↓cnd_true, ↓cnd_false, ↓Option.bind_some, ↓obH_some', bin_add, bin_sub, bin_mul, bin_lss, bin_leq, bin_gtr, bin_geq, bin_eql, bin_neq, un_not, un_neg, Option.bind_some, Option.bind_none, Option.map_some, cnd_true, cnd_false, pickV_true, pickV_false, gd_true, gd_false, gdV_true, gdV_false, gdH_true, gdH_false, gdS_true, gdS_false, wt_ff, wt_tt, wt_ft, wt_tf, wt_undef, obH_some', extractV_tuple, nilCheckV_ptr, againK_normal, againK_exit, againK_ret, blockK_normal, blockK_same, blockK_ret, seqK_normal, seqK_exit, seqK_ret, fin_done, if_true', if_false', Bool.not_true, Bool.not_false, idx0, idx1, idx2, idx3, idx4, chk_nil_l, chk_nil_r, done_nm, up_cons, up_nil, cond_true, cond_false, Nat.reduceBEq]
      refine ih (i + 1) (by omega) ⟨len, hb, hn, by omega, by omega, jb, fun k k1 k2 => ?_, ge⟩ _ ?_ ?_ ?_ ?_ ?_ (fun x' i' le' => hk x' i' (by omega))
      · by_cases e : k = i
        · subst e; exact h2
        · exact le k k1 (by omega)
      · exact Aa
      · exact Ab
      · exact Ac
      · rfl
      · exact Al
    · have e := fun x' => hk x' i (Nat.le_refl _) ⟨len, hb, hn, ai, ij, jb, le, ge⟩ (.inr h2)
      simp -implicitDefEqProofs (disch := omega) only [↓c103_7_eq,Aa,Ab,Ac,Ak,Al, d1, i1, i2, vld64, l1, l2, w1, e2, h2, decide_true, decide_false, ↓cnd_true, ↓cnd_false, ↓Option.bind_some, ↓obH_some', bin_add, bin_sub, bin_mul, bin_lss, bin_leq, bin_gtr, bin_geq, bin_eql, bin_neq, un_not, un_neg, Option.bind_some, Option.bind_none, Option.map_some, cnd_true, cnd_false, pickV_true, pickV_false, gd_true, gd_false, gdV_true, gdV_false, gdH_true, gdH_false, gdS_true, gdS_false, wt_ff, wt_tt, wt_ft, wt_tf, wt_undef, obH_some', extractV_tuple, nilCheckV_ptr, againK_normal, againK_exit, againK_ret, blockK_normal, blockK_same, blockK_ret, seqK_normal, seqK_exit, seqK_ret, fin_done, if_true', if_false', Bool.not_true, Bool.not_false, idx0, idx1, idx2, idx3, idx4, chk_nil_l, chk_nil_r, done_nm, up_cons, up_nil, cond_true, cond_false, Nat.reduceBEq]
      exact e _ Aa Ab Ac Ak Al
theorem par_dec3 {β : Type} {Q : Option β → Prop} {k : Ex → St → Option β} {h : Heap} {m : List Nat} {i : Nat} (hm : NR h p m) :
    ∀ (d j : Nat), j + 1 - i = d → PI n a b i j m → ∀ (x : Nat → Value), x 0 = sv p n c → x 1 = .int .i64 a → x 2 = .int .i64 b → x 10 = .int .i64 i → x 11 = .int .i64 j →
    (∀ (x' : Nat → Value) (j' : Nat), j' ≤ j → PI n a b i j' m → (j' < i ∨ gt0 m j' < gt0 m a) → x' 0 = sv p n c → x' 1 = .int .i64 a → x' 2 = .int .i64 b → x' 10 = .int .i64 i → x' 11 = .int .i64 j' → Q (k .normal ⟨ar 168 x', h⟩)) →
    Q (lK c103_3 168 x h (blockK 2 k)) := by
  intro d
  induction d with
  | zero =>
    intro j e1 q x Aa Ab Ac Ak Al hk
    have e := fun x' => hk x' j (Nat.le_refl _) q (.inl (by omega))
    have d1 : ¬ (i : Int) ≤ j := by omega
    rw [lK_eq]
    simp -implicitDefEqProofs (disch := omega) only [↓c103_3_eq,Aa,Ab,Ac,Ak,Al, d1, decide_false, ↓cnd_true, ↓cnd_false, ↓Option.bind_some, ↓obH_some', bin_add, bin_sub, bin_mul, bin_lss, bin_leq, bin_gtr, bin_geq, bin_eql, bin_neq, un_not, un_neg, Option.bind_some, Option.bind_none, Option.map_some, cnd_true, cnd_false, pickV_true, pickV_false, gd_true, gd_false, gdV_true, gdV_false, gdH_true, gdH_false, gdS_true, gdS_false, wt_ff, wt_tt, wt_ft, wt_tf, wt_undef, obH_some', extractV_tuple, nilCheckV_ptr, againK_normal, againK_exit, againK_ret, blockK_normal, blockK_same, blockK_ret, seqK_normal, seqK_exit, seqK_ret, fin_done, if_true', if_false', Bool.not_true, Bool.not_false, idx0, idx1, idx2, idx3, idx4, chk_nil_l, chk_nil_r, done_nm, up_cons, up_nil, cond_true, cond_false, Nat.reduceBEq]
    exact e _ Aa Ab Ac Ak Al
  | succ d ih =>
    intro j e1 q x Aa Ab Ac Ak Al hk
    obtain ⟨len, hb, hn, ai, ij, jb, le, ge⟩ := q
    have d1 : (i : Int) ≤ j := by omega
    have i1 := iaS p n c j (by omega)
    have i2 := iaS p n c a (by omega)
    have l1 := hm.at (i := j) (by omega)
    have l2 := hm.at (i := a) (by omega)
    have w1 := ws j (by omega) (by omega)
    have e2 := fun h => spec_Less (gt0 m j) (gt0 m a) h
    rw [lK_eq]
    by_cases h2 : gt0 m j < gt0 m a
    · have e := fun x' => hk x' j (Nat.le_refl _) ⟨len, hb, hn, ai, ij, jb, le, ge⟩ (.inr h2)
      simp -implicitDefEqProofs (disch := omega) only [↓c103_3_eq,Aa,Ab,Ac,Ak,Al, d1, i1, i2, vld64, l1, l2, w1, e2, h2, decide_true, decide_false, ↓cnd_true, ↓cnd_false, ↓Option.bind_some, ↓obH_some', bin_add, bin_sub, bin_mul, bin_lss, bin_leq, bin_gtr, bin_geq, bin_eql, bin_neq, un_not, un_neg, Option.bind_some, Option.bind_none, Option.map_some, cnd_true, cnd_false, pickV_true, pickV_false, gd_true, gd_false, gdV_true, gdV_false, gdH_true, gdH_false, gdS_true, gdS_false, wt_ff, wt_tt, wt_ft, wt_tf, wt_undef, obH_some', extractV_tuple, nilCheckV_ptr, againK_normal, againK_exit, againK_ret, blockK_normal, blockK_same, blockK_ret, seqK_normal, seqK_exit, seqK_ret, fin_done, if_true', if_false', Bool.not_true, Bool.not_false, idx0, idx1, idx2, idx3, idx4, chk_nil_l, chk_nil_r, done_nm, up_cons, up_nil, cond_true, cond_false, Nat.reduceBEq]
      exact e _ Aa Ab Ac Ak Al
    · simp -implicitDefEqProofs (disch := omega) only [↓c103_3_eq,Aa,Ab,Ac,Ak,Al, d1, i1, i2, vld64, l1, l2, w1, e2, h2, decide_true, decide_false, ↓cnd_true, ↓cnd_false, ↓Option.bind_some, ↓obH_some', bin_add, bin_sub, bin_mul, bin_lss, bin_leq, bin_gtr, bin_geq, bin_eql, bin_neq, un_not, un_neg, Option.bind_some, Option.bind_none, Option.map_some, cnd_true, cnd_false, pickV_true, pickV_false, gd_true, gd_false, gdV_true, gdV_false, gdH_true, gdH_false, gdS_true, gdS_false, wt_ff, wt_tt, wt_ft, wt_tf, wt_undef, obH_some', extractV_tuple, nilCheckV_ptr, againK_normal, againK_exit, againK_ret, blockK_normal, blockK_same, blockK_ret, seqK_normal, seqK_exit, seqK_ret, fin_done, if_true', if_false', Bool.not_true, Bool.not_false, idx0, idx1, idx2, idx3, idx4, chk_nil_l, chk_nil_r, done_nm, up_cons, up_nil, cond_true, cond_false, Nat.reduceBEq]
      refine ih (j - 1) (by omega) ⟨len, hb, hn, by omega, by omega, by omega, le, fun k k1 k2 => ?_⟩ _ ?_ ?_ ?_ ?_ ?_ (fun x' i' le' => hk x' i' (by omega))
      · by_cases e : k = j
        · subst e; omega
        · exact ge k (by omega) k2
      · exact Aa
      · exact Ab
      · exact Ac
      · exact Ak
      · rfl
theorem par_dec9 {β : Type} {Q : Option β → Prop} {k : Ex → St → Option β} {h : Heap} {m : List Nat} {i : Nat} (hm : NR h p m) :
    ∀ (d j : Nat), j + 1 - i = d → PI n a b i j m → ∀ (x : Nat → Value), x 0 = sv p n c → x 1 = .int .i64 a → x 2 = .int .i64 b → x 10 = .int .i64 i → x 11 = .int .i64 j →
    (∀ (x' : Nat → Value) (j' : Nat), j' ≤ j → PI n a b i j' m → (j' < i ∨ gt0 m j' < gt0 m a) → x' 0 = sv p n c → x' 1 = .int .i64 a → x' 2 = .int .i64 b → x' 10 = .int .i64 i → x' 11 = .int .i64 j' → Q (k .normal ⟨ar 168 x', h⟩)) →
    Q (lK c103_9 168 x h (blockK 8 k)) := by
  intro d
  induction d with
  | zero =>
    intro j e1 q x Aa Ab Ac Ak Al hk
    have e := fun x' => hk x' j (Nat.le_refl _) q (.inl (by omega))
    have d1 : ¬ (i : Int) ≤ j := by omega
    rw [lK_eq]
    simp -implicitDefEqProofs (disch := omega) only [↓c103_9_eq,Aa,Ab,Ac,Ak,Al, d1, decide_false, ↓cnd_true, ↓cnd_false, ↓Option.bind_some, ↓obH_some', bin_add, bin_sub, bin_mul, bin_lss, bin_leq, bin_gtr, bin_geq, bin_eql, bin_neq, un_not, un_neg, Option.bind_some, Option.bind_none, Option.map_some, cnd_true, cnd_false, pickV_true, pickV_false, gd_true, gd_false, gdV_true, gdV_false, gdH_true, gdH_false, gdS_true, gdS_false, wt_ff, wt_tt, wt_ft, wt_tf, wt_undef, obH_some', extractV_tuple, nilCheckV_ptr, againK_normal, againK_exit, againK_ret, blockK_normal, blockK_same, blockK_ret, seqK_normal, seqK_exit, seqK_ret, fin_done, if_true', if_false', Bool.not_true, Bool.not_false, idx0, idx1, idx2, idx3, idx4, chk_nil_l, chk_nil_r, done_nm, up_cons, up_nil, cond_true, cond_false, Nat.reduceBEq]
    exact e _ Aa Ab Ac Ak Al
  | succ d ih =>
    intro j e1 q x Aa Ab Ac Ak Al hk
    obtain ⟨len, hb, hn, ai, ij, jb, le, ge⟩ := q
    have d1 : (i : Int) ≤ j := by omega
    have i1 := iaS p n c j (by omega)
    have i2 := iaS p n c a (by omega)
    have l1 := hm.at (i := j) (by omega)
    have l2 := hm.at (i := a) (by omega)
    have w1 := ws j (by omega) (by omega)
    have e2 := fun h => spec_Less (gt0 m j) (gt0 m a) h
    rw [lK_eq]
    by_cases h2 : gt0 m j < gt0 m a
    · have e := fun x' => hk x' j (Nat.le_refl _) ⟨len, hb, hn, ai, ij, jb, le, ge⟩ (.inr h2)
      simp -implicitDefEqProofs (disch := omega) only [↓c103_9_eq,Aa,Ab,Ac,Ak,Al, d1, i1, i2, vld64, l1, l2, w1, e2, h2, decide_true, decide_false, ↓cnd_true, ↓cnd_false, ↓Option.bind_some, ↓obH_some', bin_add, bin_sub, bin_mul, bin_lss, bin_leq, bin_gtr, bin_geq, bin_eql, bin_neq, un_not, un_neg, Option.bind_some, Option.bind_none, Option.map_some, cnd_true, cnd_false, pickV_true, pickV_false, gd_true, gd_false, gdV_true, gdV_false, gdH_true, gdH_false, gdS_true, gdS_false, wt_ff, wt_tt, wt_ft, wt_tf, wt_undef, obH_some', extractV_tuple, nilCheckV_ptr, againK_normal, againK_exit, againK_ret, blockK_normal, blockK_same, blockK_ret, seqK_normal, seqK_exit, seqK_ret, fin_done, if_true', if_false', Bool.not_true, Bool.not_false, idx0, idx1, idx2, idx3, idx4, chk_nil_l, chk_nil_r, done_nm, up_cons, up_nil, cond_true, cond_false, Nat.reduceBEq]
      exact e _ Aa Ab Ac Ak Al
    · simp -implicitDefEqProofs (disch := omega) only [↓c103_9_eq,Aa,Ab,Ac,Ak,Al, d1, i1, i2, vld64, l1, l2, w1, e2, h2, decide_true, decide_false, ↓cnd_true, ↓cnd_false, ↓Option.bind_some, ↓obH_some', bin_add, bin_sub, bin_mul, bin_lss, bin_leq, bin_gtr, bin_geq, bin_eql, bin_neq, un_not, un_neg, Option.bind_some, Option.bind_none, Option.map_some, cnd_true, cnd_false, pickV_true, pickV_false, gd_true, gd_false, gdV_true, gdV_false, gdH_true, gdH_false, gdS_true, gdS_false, wt_ff, wt_tt, wt_ft, wt_tf, wt_undef, obH_some', extractV_tuple, nilCheckV_ptr, againK_normal, againK_exit, againK_ret, blockK_normal, blockK_same, blockK_ret, seqK_normal, seqK_exit, seqK_ret, fin_done, if_true', if_false', Bool.not_true, Bool.not_false, idx0, idx1, idx2, idx3, idx4, chk_nil_l, chk_nil_r, done_nm, up_cons, up_nil, cond_true, cond_false, Nat.reduceBEq]
      refine ih (j - 1) (by omega) ⟨len, hb, hn, by omega, by omega, by omega, le, fun k k1 k2 => ?_⟩ _ ?_ ?_ ?_ ?_ ?_ (fun x' i' le' => hk x' i' (by omega))
      · by_cases e : k = j
        · subst e; omega
        · exact ge k (by omega) k2
      · exact Aa
      · exact Ab
      · exact Ac
      · exact Ak
      · rfl
def PQ (p n a b v : Nat) (g : Heap) (l : List Nat) (o : Option (Value × Heap)) : Prop :=
  ∃ h' m mid al, o = some (.tuple #[.int .i64 (mid : Nat), .bool al], h') ∧ HMod (Just p) g h' ∧ NR h' p m ∧ Sw a b l m ∧ PartOk a b mid m ∧ gt0 m mid = v
theorem par_end {i j : Nat} {g h : Heap} {l m : List Nat} (q : PI n a b i j m) (hij : j < i) (hm : NR h p m) (hin : In g.blks.length (Just p) (nm g) h) (sw : Sw a b l m) (hl : l.length = n) (hn0 : g.blks.length ≤ h.blks.length) :
    ∃ h1 h2, h.storeN p j [.int .u64 (gt0 m a : Nat)] = some h1 ∧ h1.storeN p a [.int .u64 (gt0 m j : Nat)] = some h2 ∧ NR h2 p (swp m j a) ∧ In g.blks.length (Just p) (nm g) h2 ∧ Sw a b l (swp m j a) ∧ PartOk a b j (swp m j a) ∧ gt0 (swp m j a) j = gt0 m a := by
  obtain ⟨len, hb, hn, ai, ij, jb, le, ge⟩ := q
  obtain ⟨h1, h2, e1, e2, e3, e4⟩ := hm.swap (n0 := g.blks.length) hn0 (i := j) (j := a) (by omega) (by omega)
  refine ⟨h1, h2, e1, e2, e3, hin.trans e4, .step sw (by omega) jb (Nat.le_refl _) (by omega) (by omega), .stop (by omega) (by omega) jb (fun k k1 k2 => le k k1 (by omega)) ge, ?_⟩
  rw [gt0_swp (by omega) (by omega)]
  split
  · rename_i e; rw [e]
  · rw [if_pos rfl]
theorem par_loop {g : Heap} {l : List Nat} {v : Nat} (hl : l.length = n) :
    ∀ (d i j : Nat), j + 1 - i ≤ d → ∀ (x : Nat → Value) (h : Heap) (m : List Nat), PI n a b i j m → NR h p m → In g.blks.length (Just p) (nm g) h → g.blks.length ≤ h.blks.length → Sw a b l m → gt0 m a = v →
    x 0 = sv p n c → x 1 = .int .i64 a → x 2 = .int .i64 b → x 10 = .int .i64 i → x 11 = .int .i64 j →
    PQ p n a b v g l (lK c103_5 168 x h (blockK 4 (sK c103_6 (retK Tryd.f103 Tryd.prog g)))) := by
  intro d
  induction d with
  | zero =>
    intro i j e1 x h m q hm hin hn0 sw hv Aa Ab Ac Ak Al
    rw [lK_eq]
    simp -implicitDefEqProofs (disch := omega) only [↓c103_5_eq, ↓cnd_true, ↓cnd_false, ↓Option.bind_some, ↓obH_some', bin_add, bin_sub, bin_mul, bin_lss, bin_leq, bin_gtr, bin_geq, bin_eql, bin_neq, un_not, un_neg, Option.bind_some, Option.bind_none, Option.map_some, cnd_true, cnd_false, pickV_true, pickV_false, gd_true, gd_false, gdV_true, gdV_false, gdH_true, gdH_false, gdS_true, gdS_false, wt_ff, wt_tt, wt_ft, wt_tf, wt_undef, obH_some', extractV_tuple, nilCheckV_ptr, againK_normal, againK_exit, againK_ret, blockK_normal, blockK_same, blockK_ret, seqK_normal, seqK_exit, seqK_ret, fin_done, if_true', if_false', Bool.not_true, Bool.not_false, idx0, idx1, idx2, idx3, idx4, chk_nil_l, chk_nil_r, done_nm, up_cons, up_nil, cond_true, cond_false, Nat.reduceBEq]
    refine par_inc7 (a := a) (b := b) (c := c) (Q := PQ p n a b v g l) hm _ i rfl q x Aa Ab Ac Ak Al ?_
    intro y i' lei q1 r1 y0 y1 y2 y10 y11
    simp -implicitDefEqProofs (disch := omega) only [↓c103_8_eq, ↓cnd_true, ↓cnd_false, ↓Option.bind_some, ↓obH_some', bin_add, bin_sub, bin_mul, bin_lss, bin_leq, bin_gtr, bin_geq, bin_eql, bin_neq, un_not, un_neg, Option.bind_some, Option.bind_none, Option.map_some, cnd_true, cnd_false, pickV_true, pickV_false, gd_true, gd_false, gdV_true, gdV_false, gdH_true, gdH_false, gdS_true, gdS_false, wt_ff, wt_tt, wt_ft, wt_tf, wt_undef, obH_some', extractV_tuple, nilCheckV_ptr, againK_normal, againK_exit, againK_ret, blockK_normal, blockK_same, blockK_ret, seqK_normal, seqK_exit, seqK_ret, fin_done, if_true', if_false', Bool.not_true, Bool.not_false, idx0, idx1, idx2, idx3, idx4, chk_nil_l, chk_nil_r, done_nm, up_cons, up_nil, cond_true, cond_false, Nat.reduceBEq]
    refine par_dec9 (a := a) (b := b) (c := c) (Q := PQ p n a b v g l) hm _ j rfl q1 y y0 y1 y2 y10 y11 ?_
    intro z j' lej q2 r2 z0 z1 z2 z10 z11
    have ⟨len, hb, hn, ai, ij, jb, le, ge⟩ := q2
    by_cases hlt : j' < i'
    · have d1 : (i' : Int) > j' := by omega
      have i1 := iaS p n c a (by omega)
      have i2 := iaS p n c j' (by omega)
      have l1 := hm.at (i := a) (by omega)
      have l2 := hm.at (i := j') (by omega)
      obtain ⟨g1, g2, s1, s2, f1, f2, f3, f4, f5⟩ := par_end q2 hlt hm hin sw hl hn0
      have bx : ∀ (k : Ex → St → Option (Value × Heap)) s, blockK 5 k (.exit 4) s = k (.exit 4) s := fun _ _ => rfl
      refine ⟨done g g2, swp m j' a, j', false, ?_, done_mod f2, f1.done, f3, f4, by rw [f5, hv]⟩
      simp -implicitDefEqProofs (disch := omega) only [↓c103_10_eq, ↓c103_6_eq, z0, z1, z2, z10, z11, d1, i1, i2, vld64, vst64, l1, l2, s1, s2, bx, decide_true, ↓ret103, ↓cnd_true, ↓cnd_false, ↓Option.bind_some, ↓obH_some', bin_add, bin_sub, bin_mul, bin_lss, bin_leq, bin_gtr, bin_geq, bin_eql, bin_neq, un_not, un_neg, Option.bind_some, Option.bind_none, Option.map_some, cnd_true, cnd_false, pickV_true, pickV_false, gd_true, gd_false, gdV_true, gdV_false, gdH_true, gdH_false, gdS_true, gdS_false, wt_ff, wt_tt, wt_ft, wt_tf, wt_undef, obH_some', extractV_tuple, nilCheckV_ptr, againK_normal, againK_exit, againK_ret, blockK_normal, blockK_same, blockK_ret, seqK_normal, seqK_exit, seqK_ret, fin_done, if_true', if_false', Bool.not_true, Bool.not_false, idx0, idx1, idx2, idx3, idx4, chk_nil_l, chk_nil_r, done_nm, up_cons, up_nil, cond_true, cond_false, Nat.reduceBEq]
    · omega
  | succ d ih =>
    intro i j e1 x h m q hm hin hn0 sw hv Aa Ab Ac Ak Al
    rw [lK_eq]
    simp -implicitDefEqProofs (disch := omega) only [↓c103_5_eq, ↓cnd_true, ↓cnd_false, ↓Option.bind_some, ↓obH_some', bin_add, bin_sub, bin_mul, bin_lss, bin_leq, bin_gtr, bin_geq, bin_eql, bin_neq, un_not, un_neg, Option.bind_some, Option.bind_none, Option.map_some, cnd_true, cnd_false, pickV_true, pickV_false, gd_true, gd_false, gdV_true, gdV_false, gdH_true, gdH_false, gdS_true, gdS_false, wt_ff, wt_tt, wt_ft, wt_tf, wt_undef, obH_some', extractV_tuple, nilCheckV_ptr, againK_normal, againK_exit, againK_ret, blockK_normal, blockK_same, blockK_ret, seqK_normal, seqK_exit, seqK_ret, fin_done, if_true', if_false', Bool.not_true, Bool.not_false, idx0, idx1, idx2, idx3, idx4, chk_nil_l, chk_nil_r, done_nm, up_cons, up_nil, cond_true, cond_false, Nat.reduceBEq]
    refine par_inc7 (a := a) (b := b) (c := c) (Q := PQ p n a b v g l) hm _ i rfl q x Aa Ab Ac Ak Al ?_
    intro y i' lei q1 r1 y0 y1 y2 y10 y11
    simp -implicitDefEqProofs (disch := omega) only [↓c103_8_eq, ↓cnd_true, ↓cnd_false, ↓Option.bind_some, ↓obH_some', bin_add, bin_sub, bin_mul, bin_lss, bin_leq, bin_gtr, bin_geq, bin_eql, bin_neq, un_not, un_neg, Option.bind_some, Option.bind_none, Option.map_some, cnd_true, cnd_false, pickV_true, pickV_false, gd_true, gd_false, gdV_true, gdV_false, gdH_true, gdH_false, gdS_true, gdS_false, wt_ff, wt_tt, wt_ft, wt_tf, wt_undef, obH_some', extractV_tuple, nilCheckV_ptr, againK_normal, againK_exit, againK_ret, blockK_normal, blockK_same, blockK_ret, seqK_normal, seqK_exit, seqK_ret, fin_done, if_true', if_false', Bool.not_true, Bool.not_false, idx0, idx1, idx2, idx3, idx4, chk_nil_l, chk_nil_r, done_nm, up_cons, up_nil, cond_true, cond_false, Nat.reduceBEq]
    refine par_dec9 (a := a) (b := b) (c := c) (Q := PQ p n a b v g l) hm _ j rfl q1 y y0 y1 y2 y10 y11 ?_
    intro z j' lej q2 r2 z0 z1 z2 z10 z11
    have ⟨len, hb, hn, ai, ij, jb, le, ge⟩ := q2
    by_cases hlt : j' < i'
    · have d1 : (i' : Int) > j' := by omega
      have i1 := iaS p n c a (by omega)
      have i2 := iaS p n c j' (by omega)
      have l1 := hm.at (i := a) (by omega)
      have l2 := hm.at (i := j') (by omega)
      obtain ⟨g1, g2, s1, s2, f1, f2, f3, f4, f5⟩ := par_end q2 hlt hm hin sw hl hn0
      have bx : ∀ (k : Ex → St → Option (Value × Heap)) s, blockK 5 k (.exit 4) s = k (.exit 4) s := fun _ _ => rfl
      refine ⟨done g g2, swp m j' a, j', false, ?_, done_mod f2, f1.done, f3, f4, by rw [f5, hv]⟩
      simp -implicitDefEqProofs (disch := omega) only [↓c103_10_eq, ↓c103_6_eq, z0, z1, z2, z10, z11, d1, i1, i2, vld64, vst64, l1, l2, s1, s2, bx, decide_true, ↓ret103, ↓cnd_true, ↓cnd_false, ↓Option.bind_some, ↓obH_some', bin_add, bin_sub, bin_mul, bin_lss, bin_leq, bin_gtr, bin_geq, bin_eql, bin_neq, un_not, un_neg, Option.bind_some, Option.bind_none, Option.map_some, cnd_true, cnd_false, pickV_true, pickV_false, gd_true, gd_false, gdV_true, gdV_false, gdH_true, gdH_false, gdS_true, gdS_false, wt_ff, wt_tt, wt_ft, wt_tf, wt_undef, obH_some', extractV_tuple, nilCheckV_ptr, againK_normal, againK_exit, againK_ret, blockK_normal, blockK_same, blockK_ret, seqK_normal, seqK_exit, seqK_ret, fin_done, if_true', if_false', Bool.not_true, Bool.not_false, idx0, idx1, idx2, idx3, idx4, chk_nil_l, chk_nil_r, done_nm, up_cons, up_nil, cond_true, cond_false, Nat.reduceBEq]
    · have n1 : ¬ gt0 m i' < gt0 m a := r1.resolve_left (by omega)
      have n2 : gt0 m j' < gt0 m a := r2.resolve_left hlt
      have d1 : ¬ (i' : Int) > j' := by omega
      have i1 := iaS p n c i' (by omega)
      have i2 := iaS p n c j' (by omega)
      have l1 := hm.at (i := i') (by omega)
      have l2 := hm.at (i := j') (by omega)
      have w1 := wa i' (by omega)
      have w2 := ws j' (by omega) (by omega)
      obtain ⟨g1, g2, s1, s2, f1, f2⟩ := hm.swap (n0 := g.blks.length) hn0 (i := i') (j := j') (by omega) (by omega)
      simp -implicitDefEqProofs (disch := omega) only [↓c103_10_eq, z0, z1, z2, z10, z11, d1, i1, i2, vld64, vst64, l1, l2, s1, s2, w1, w2, decide_true, decide_false, ↓cnd_true, ↓cnd_false, ↓Option.bind_some, ↓obH_some', bin_add, bin_sub, bin_mul, bin_lss, bin_leq, bin_gtr, bin_geq, bin_eql, bin_neq, un_not, un_neg, Option.bind_some, Option.bind_none, Option.map_some, cnd_true, cnd_false, pickV_true, pickV_false, gd_true, gd_false, gdV_true, gdV_false, gdH_true, gdH_false, gdS_true, gdS_false, wt_ff, wt_tt, wt_ft, wt_tf, wt_undef, obH_some', extractV_tuple, nilCheckV_ptr, againK_normal, againK_exit, againK_ret, blockK_normal, blockK_same, blockK_ret, seqK_normal, seqK_exit, seqK_ret, fin_done, if_true', if_false', Bool.not_true, Bool.not_false, idx0, idx1, idx2, idx3, idx4, chk_nil_l, chk_nil_r, done_nm, up_cons, up_nil, cond_true, cond_false, Nat.reduceBEq]
      refine ih (i' + 1) (j' - 1) (by omega) _ _ _ (q2.swap (by omega) n1 n2) f1 (hin.trans f2) (Nat.le_trans hn0 f2.len) (.step sw (by omega) (by omega) (by omega) (by omega) (by omega)) (by rw [gt0_swp (by omega) (by omega), if_neg (by omega), if_neg (by omega), hv]) ?_ ?_ ?_ ?_ ?_
      · exact z0
      · exact z1
      · exact z2
      · rfl
      · rfl
theorem spec_part {h : Heap} {l : List Nat} {pv : Nat} (hm : NR h p l) (hl : l.length = n) (hn : n < 2 ^ 40) (h1 : a ≤ pv) (h2 : pv < b) (hb : b ≤ n) (h3 : a + 1 < b) :
    PQ p n a b (gt0 l pv) h l (evC Tryd.prog 103 #[sv p n c, .int .i64 a, .int .i64 b, .int .i64 pv] h) := by
  rw [call103]
  have i1 := iaS p n c a (by omega)
  have i2 := iaS p n c pv (by omega)
  have l1 := hm.nm.at (i := a) (by omega)
  have l2 := hm.nm.at (i := pv) (by omega)
  have w1 := wa a (by omega)
  have w2 := ws b (by omega) (by omega)
  have hp := Cells.lt hm
  obtain ⟨g1, g2, s1, s2, f1, f2⟩ := NR.swap (h := nm h) (n0 := h.blks.length) (Nat.le_refl _) hm.nm (i := a) (j := pv) (by omega) (by omega)
  have sw : Sw a b l (swp l a pv) := .one (Nat.le_refl _) (by omega) h1 h2 (by omega)
  have q0 : PI n a b (a + 1) (b - 1) (swp l a pv) := ⟨by rw [swp_len, hl], hb, hn, by omega, by omega, by omega, fun k k1 k2 => by omega, fun k k1 k2 => by omega⟩
  have hv : gt0 (swp l a pv) a = gt0 l pv := by
    rw [gt0_swp (by omega) (by omega)]
    split
    · rename_i e; rw [e]
    · rw [if_pos rfl]
  simp -implicitDefEqProofs (disch := omega) only [↓c103_0_eq, i1, i2, vld64, vst64, l1, l2, s1, s2, w1, w2, ↓cnd_true, ↓cnd_false, ↓Option.bind_some, ↓obH_some', bin_add, bin_sub, bin_mul, bin_lss, bin_leq, bin_gtr, bin_geq, bin_eql, bin_neq, un_not, un_neg, Option.bind_some, Option.bind_none, Option.map_some, cnd_true, cnd_false, pickV_true, pickV_false, gd_true, gd_false, gdV_true, gdV_false, gdH_true, gdH_false, gdS_true, gdS_false, wt_ff, wt_tt, wt_ft, wt_tf, wt_undef, obH_some', extractV_tuple, nilCheckV_ptr, againK_normal, againK_exit, againK_ret, blockK_normal, blockK_same, blockK_ret, seqK_normal, seqK_exit, seqK_ret, fin_done, if_true', if_false', Bool.not_true, Bool.not_false, idx0, idx1, idx2, idx3, idx4, chk_nil_l, chk_nil_r, done_nm, up_cons, up_nil, cond_true, cond_false, Nat.reduceBEq]
  refine par_inc1 (a := a) (b := b) (c := c) (Q := PQ p n a b (gt0 l pv) h l) f1 _ (a + 1) rfl q0 _ ?_ ?_ ?_ ?_ ?_ ?_
  · rfl
  · rfl
  · rfl
  · rfl
  · rfl
  intro y i' lei q1 r1 y0 y1 y2 y10 y11
  simp -implicitDefEqProofs (disch := omega) only [↓c103_2_eq, ↓cnd_true, ↓cnd_false, ↓Option.bind_some, ↓obH_some', bin_add, bin_sub, bin_mul, bin_lss, bin_leq, bin_gtr, bin_geq, bin_eql, bin_neq, un_not, un_neg, Option.bind_some, Option.bind_none, Option.map_some, cnd_true, cnd_false, pickV_true, pickV_false, gd_true, gd_false, gdV_true, gdV_false, gdH_true, gdH_false, gdS_true, gdS_false, wt_ff, wt_tt, wt_ft, wt_tf, wt_undef, obH_some', extractV_tuple, nilCheckV_ptr, againK_normal, againK_exit, againK_ret, blockK_normal, blockK_same, blockK_ret, seqK_normal, seqK_exit, seqK_ret, fin_done, if_true', if_false', Bool.not_true, Bool.not_false, idx0, idx1, idx2, idx3, idx4, chk_nil_l, chk_nil_r, done_nm, up_cons, up_nil, cond_true, cond_false, Nat.reduceBEq]
  refine par_dec3 (a := a) (b := b) (c := c) (Q := PQ p n a b (gt0 l pv) h l) f1 _ (b - 1) rfl q1 y y0 y1 y2 y10 y11 ?_
  intro z j' lej q2 r2 z0 z1 z2 z10 z11
  have ⟨len, hb, hn, ai, ij, jb, le, ge⟩ := q2
  by_cases hlt : j' < i'
  · have d1 : (i' : Int) > j' := by omega
    have i1 := iaS p n c a (by omega)
    have i2 := iaS p n c j' (by omega)
    have l1 := f1.at (i := a) (by omega)
    have l2 := f1.at (i := j') (by omega)
    obtain ⟨g3, g4, s1, s2, e1, e2, e3, e4, e5⟩ := par_end q2 hlt f1 f2 sw hl f2.len
    refine ⟨done h g4, swp (swp l a pv) j' a, j', true, ?_, done_mod e2, e1.done, e3, e4, by rw [e5, hv]⟩
    simp -implicitDefEqProofs (disch := omega) only [↓c103_4_eq, z0, z1, z2, z10, z11, d1, i1, i2, vld64, vst64, l1, l2, s1, s2, decide_true, ↓ret103, ↓cnd_true, ↓cnd_false, ↓Option.bind_some, ↓obH_some', bin_add, bin_sub, bin_mul, bin_lss, bin_leq, bin_gtr, bin_geq, bin_eql, bin_neq, un_not, un_neg, Option.bind_some, Option.bind_none, Option.map_some, cnd_true, cnd_false, pickV_true, pickV_false, gd_true, gd_false, gdV_true, gdV_false, gdH_true, gdH_false, gdS_true, gdS_false, wt_ff, wt_tt, wt_ft, wt_tf, wt_undef, obH_some', extractV_tuple, nilCheckV_ptr, againK_normal, againK_exit, againK_ret, blockK_normal, blockK_same, blockK_ret, seqK_normal, seqK_exit, seqK_ret, fin_done, if_true', if_false', Bool.not_true, Bool.not_false, idx0, idx1, idx2, idx3, idx4, chk_nil_l, chk_nil_r, done_nm, up_cons, up_nil, cond_true, cond_false, Nat.reduceBEq]
  · have n1 : ¬ gt0 (swp l a pv) i' < gt0 (swp l a pv) a := r1.resolve_left (by omega)
    have n2 : gt0 (swp l a pv) j' < gt0 (swp l a pv) a := r2.resolve_left hlt
    have d1 : ¬ (i' : Int) > j' := by omega
    have i1 := iaS p n c i' (by omega)
    have i2 := iaS p n c j' (by omega)
    have l1 := f1.at (i := i') (by omega)
    have l2 := f1.at (i := j') (by omega)
    have w1 := wa i' (by omega)
    have w2 := ws j' (by omega) (by omega)
    obtain ⟨g3, g4, s1, s2, e1, e2⟩ := f1.swap (n0 := h.blks.length) f2.len (i := i') (j := j') (by omega) (by omega)
    simp -implicitDefEqProofs (disch := omega) only [↓c103_4_eq, z0, z1, z2, z10, z11, d1, i1, i2, vld64, vst64, l1, l2, s1, s2, w1, w2, decide_true, decide_false, ↓cnd_true, ↓cnd_false, ↓Option.bind_some, ↓obH_some', bin_add, bin_sub, bin_mul, bin_lss, bin_leq, bin_gtr, bin_geq, bin_eql, bin_neq, un_not, un_neg, Option.bind_some, Option.bind_none, Option.map_some, cnd_true, cnd_false, pickV_true, pickV_false, gd_true, gd_false, gdV_true, gdV_false, gdH_true, gdH_false, gdS_true, gdS_false, wt_ff, wt_tt, wt_ft, wt_tf, wt_undef, obH_some', extractV_tuple, nilCheckV_ptr, againK_normal, againK_exit, againK_ret, blockK_normal, blockK_same, blockK_ret, seqK_normal, seqK_exit, seqK_ret, fin_done, if_true', if_false', Bool.not_true, Bool.not_false, idx0, idx1, idx2, idx3, idx4, chk_nil_l, chk_nil_r, done_nm, up_cons, up_nil, cond_true, cond_false, Nat.reduceBEq]
    refine par_loop (c := c) hl _ (i' + 1) (j' - 1) (Nat.le_refl _) _ g4 _ (q2.swap (by omega) n1 n2) e1 (f2.trans e2) (Nat.le_trans f2.len e2.len) (.step sw (by omega) (by omega) (by omega) (by omega) (by omega)) (by rw [gt0_swp (by omega) (by omega), if_neg (by omega), if_neg (by omega), hv]) ?_ ?_ ?_ ?_ ?_
    · exact z0
    · exact z1
    · exact z2
    · rfl
    · rfl
end
end Go.Am.Z
namespace Go.Am.Z
open Go.Proofs
set_option maxRecDepth 100000
set_option linter.all false
attribute [local instance] xt0 gl0
attribute [local instance] xm0 xo0
attribute [local congr] obind_congr obH_congr cnd_congr chk_congr retK_congr codeK_congr
theorem Sw.ex {a b : Nat} {l m : List Nat} (s : Sw a b l m) {P : Nat → Prop} (h : ∃ k, a ≤ k ∧ k < b ∧ P (gt0 l k)) : ∃ k, a ≤ k ∧ k < b ∧ P (gt0 m k) := by
  induction s with
  | refl => exact h
  | step s h1 h2 h3 h4 h5 ih =>
    rename_i m i j
    obtain ⟨k, k1, k2, k3⟩ := ih
    have := s.len
    have g := fun k => gt0_swp (l := m) (i := i) (j := j) (by omega) (by omega) k
    by_cases e : k = i
    · exact ⟨j, h3, h4, by rw [g, if_pos rfl, ← e]; exact k3⟩
    · by_cases e2 : k = j
      · refine ⟨i, h1, h2, ?_⟩
        rw [g]
        split
        · rename_i e3; rw [e3, ← e2]; exact k3
        · rw [if_pos rfl, ← e2]; exact k3
      · exact ⟨k, k1, k2, by rw [g, if_neg e2, if_neg e]; exact k3⟩
theorem spec_Len64 (k : Nat) (hk : k ≤ 15) (h : Heap) : ∃ m : Int, evC Tryd.prog 105 #[.int .u64 k] h = some (.int .i64 m, h) ∧ (k ≠ 0 → m ≠ 0) := by
  rw [call105]
  obtain rfl | rfl | rfl | rfl | rfl | rfl | rfl | rfl | rfl | rfl | rfl | rfl | rfl | rfl | rfl | rfl : k = 0 ∨ k = 1 ∨ k = 2 ∨ k = 3 ∨ k = 4 ∨ k = 5 ∨ k = 6 ∨ k = 7 ∨ k = 8 ∨ k = 9 ∨ k = 10 ∨ k = 11 ∨ k = 12 ∨ k = 13 ∨ k = 14 ∨ k = 15 := by omega
  · refine ⟨0, ?_, by omega⟩
    have d1 : ¬ ((0 : Nat) : Int) ≥ 4294967296 := by omega
    have d2 : ¬ ((0 : Nat) : Int) ≥ 65536 := by omega
    have d3 : ¬ ((0 : Nat) : Int) ≥ 256 := by omega
    simp -implicitDefEqProofs (disch := omega) only [↓c105_0_eq, d1, d2, d3, decide_true, decide_false, ↓cnd_true, ↓cnd_false, ↓Option.bind_some, ↓obH_some', bin_add, bin_sub, bin_mul, bin_lss, bin_leq, bin_gtr, bin_geq, bin_eql, bin_neq, un_not, un_neg, Option.bind_some, Option.bind_none, Option.map_some, cnd_true, cnd_false, pickV_true, pickV_false, gd_true, gd_false, gdV_true, gdV_false, gdH_true, gdH_false, gdS_true, gdS_false, wt_ff, wt_tt, wt_ft, wt_tf, wt_undef, obH_some', extractV_tuple, nilCheckV_ptr, againK_normal, againK_exit, againK_ret, blockK_normal, blockK_same, blockK_ret, seqK_normal, seqK_exit, seqK_ret, fin_done, if_true', if_false', Bool.not_true, Bool.not_false, idx0, idx1, idx2, idx3, idx4, chk_nil_l, chk_nil_r, done_nm, up_cons, up_nil, cond_true, cond_false, Nat.reduceBEq]
    refine Eq.trans ?_ (Eq.refl _)
    kernel_rfl
  · refine ⟨1, ?_, by omega⟩
    have d1 : ¬ ((1 : Nat) : Int) ≥ 4294967296 := by omega
    have d2 : ¬ ((1 : Nat) : Int) ≥ 65536 := by omega
    have d3 : ¬ ((1 : Nat) : Int) ≥ 256 := by omega
    simp -implicitDefEqProofs (disch := omega) only [↓c105_0_eq, d1, d2, d3, decide_true, decide_false, ↓cnd_true, ↓cnd_false, ↓Option.bind_some, ↓obH_some', bin_add, bin_sub, bin_mul, bin_lss, bin_leq, bin_gtr, bin_geq, bin_eql, bin_neq, un_not, un_neg, Option.bind_some, Option.bind_none, Option.map_some, cnd_true, cnd_false, pickV_true, pickV_false, gd_true, gd_false, gdV_true, gdV_false, gdH_true, gdH_false, gdS_true, gdS_false, wt_ff, wt_tt, wt_ft, wt_tf, wt_undef, obH_some', extractV_tuple, nilCheckV_ptr, againK_normal, againK_exit, againK_ret, blockK_normal, blockK_same, blockK_ret, seqK_normal, seqK_exit, seqK_ret, fin_done, if_true', if_false', Bool.not_true, Bool.not_false, idx0, idx1, idx2, idx3, idx4, chk_nil_l, chk_nil_r, done_nm, up_cons, up_nil, cond_true, cond_false, Nat.reduceBEq]
    refine Eq.trans ?_ (Eq.refl _)
    kernel_rfl
  · refine ⟨2, ?_, by omega⟩
    have d1 : ¬ ((2 : Nat) : Int) ≥ 4294967296 := by omega
    have d2 : ¬ ((2 : Nat) : Int) ≥ 65536 := by omega
    have d3 : ¬ ((2 : Nat) : Int) ≥ 256 := by omega
    simp -implicitDefEqProofs (disch := omega) only [↓c105_0_eq, d1, d2, d3, decide_true, decide_false, ↓cnd_true, ↓cnd_false, ↓Option.bind_some, ↓obH_some', bin_add, bin_sub, bin_mul, bin_lss, bin_leq, bin_gtr, bin_geq, bin_eql, bin_neq, un_not, un_neg, Option.bind_some, Option.bind_none, Option.map_some, cnd_true, cnd_false, pickV_true, pickV_false, gd_true, gd_false, gdV_true, gdV_false, gdH_true, gdH_false, gdS_true, gdS_false, wt_ff, wt_tt, wt_ft, wt_tf, wt_undef, obH_some', extractV_tuple, nilCheckV_ptr, againK_normal, againK_exit, againK_ret, blockK_normal, blockK_same, blockK_ret, seqK_normal, seqK_exit, seqK_ret, fin_done, if_true', if_false', Bool.not_true, Bool.not_false, idx0, idx1, idx2, idx3, idx4, chk_nil_l, chk_nil_r, done_nm, up_cons, up_nil, cond_true, cond_false, Nat.reduceBEq]
    refine Eq.trans ?_ (Eq.refl _)
    kernel_rfl
  · refine ⟨2, ?_, by omega⟩
    have d1 : ¬ ((3 : Nat) : Int) ≥ 4294967296 := by omega
    have d2 : ¬ ((3 : Nat) : Int) ≥ 65536 := by omega
    have d3 : ¬ ((3 : Nat) : Int) ≥ 256 := by omega
    simp -implicitDefEqProofs (disch := omega) only [↓c105_0_eq, d1, d2, d3, decide_true, decide_false, ↓cnd_true, ↓cnd_false, ↓Option.bind_some, ↓obH_some', bin_add, bin_sub, bin_mul, bin_lss, bin_leq, bin_gtr, bin_geq, bin_eql, bin_neq, un_not, un_neg, Option.bind_some, Option.bind_none, Option.map_some, cnd_true, cnd_false, pickV_true, pickV_false, gd_true, gd_false, gdV_true, gdV_false, gdH_true, gdH_false, gdS_true, gdS_false, wt_ff, wt_tt, wt_ft, wt_tf, wt_undef, obH_some', extractV_tuple, nilCheckV_ptr, againK_normal, againK_exit, againK_ret, blockK_normal, blockK_same, blockK_ret, seqK_normal, seqK_exit, seqK_ret, fin_done, if_true', if_false', Bool.not_true, Bool.not_false, idx0, idx1, idx2, idx3, idx4, chk_nil_l, chk_nil_r, done_nm, up_cons, up_nil, cond_true, cond_false, Nat.reduceBEq]
    refine Eq.trans ?_ (Eq.refl _)
    kernel_rfl
  · refine ⟨3, ?_, by omega⟩
    have d1 : ¬ ((4 : Nat) : Int) ≥ 4294967296 := by omega
    have d2 : ¬ ((4 : Nat) : Int) ≥ 65536 := by omega
    have d3 : ¬ ((4 : Nat) : Int) ≥ 256 := by omega
    simp -implicitDefEqProofs (disch := omega) only [↓c105_0_eq, d1, d2, d3, decide_true, decide_false, ↓cnd_true, ↓cnd_false, ↓Option.bind_some, ↓obH_some', bin_add, bin_sub, bin_mul, bin_lss, bin_leq, bin_gtr, bin_geq, bin_eql, bin_neq, un_not, un_neg, Option.bind_some, Option.bind_none, Option.map_some, cnd_true, cnd_false, pickV_true, pickV_false, gd_true, gd_false, gdV_true, gdV_false, gdH_true, gdH_false, gdS_true, gdS_false, wt_ff, wt_tt, wt_ft, wt_tf, wt_undef, obH_some', extractV_tuple, nilCheckV_ptr, againK_normal, againK_exit, againK_ret, blockK_normal, blockK_same, blockK_ret, seqK_normal, seqK_exit, seqK_ret, fin_done, if_true', if_false', Bool.not_true, Bool.not_false, idx0, idx1, idx2, idx3, idx4, chk_nil_l, chk_nil_r, done_nm, up_cons, up_nil, cond_true, cond_false, Nat.reduceBEq]
    refine Eq.trans ?_ (Eq.refl _)
    kernel_rfl
  · refine ⟨3, ?_, by omega⟩
    have d1 : ¬ ((5 : Nat) : Int) ≥ 4294967296 := by omega
    have d2 : ¬ ((5 : Nat) : Int) ≥ 65536 := by omega
    have d3 : ¬ ((5 : Nat) : Int) ≥ 256 := by omega
    simp -implicitDefEqProofs (disch := omega) only [↓c105_0_eq, d1, d2, d3, decide_true, decide_false, ↓cnd_true, ↓cnd_false, ↓Option.bind_some, ↓obH_some', bin_add, bin_sub, bin_mul, bin_lss, bin_leq, bin_gtr, bin_geq, bin_eql, bin_neq, un_not, un_neg, Option.bind_some, Option.bind_none, Option.map_some, cnd_true, cnd_false, pickV_true, pickV_false, gd_true, gd_false, gdV_true, gdV_false, gdH_true, gdH_false, gdS_true, gdS_false, wt_ff, wt_tt, wt_ft, wt_tf, wt_undef, obH_some', extractV_tuple, nilCheckV_ptr, againK_normal, againK_exit, againK_ret, blockK_normal, blockK_same, blockK_ret, seqK_normal, seqK_exit, seqK_ret, fin_done, if_true', if_false', Bool.not_true, Bool.not_false, idx0, idx1, idx2, idx3, idx4, chk_nil_l, chk_nil_r, done_nm, up_cons, up_nil, cond_true, cond_false, Nat.reduceBEq]
    refine Eq.trans ?_ (Eq.refl _)
    kernel_rfl
  · refine ⟨3, ?_, by omega⟩
    have d1 : ¬ ((6 : Nat) : Int) ≥ 4294967296 := by omega
    have d2 : ¬ ((6 : Nat) : Int) ≥ 65536 := by omega
    have d3 : ¬ ((6 : Nat) : Int) ≥ 256 := by omega
    simp -implicitDefEqProofs (disch := omega) only [↓c105_0_eq, d1, d2, d3, decide_true, decide_false, ↓cnd_true, ↓cnd_false, ↓Option.bind_some, ↓obH_some', bin_add, bin_sub, bin_mul, bin_lss, bin_leq, bin_gtr, bin_geq, bin_eql, bin_neq, un_not, un_neg, Option.bind_some, Option.bind_none, Option.map_some, cnd_true, cnd_false, pickV_true, pickV_false, gd_true, gd_false, gdV_true, gdV_false, gdH_true, gdH_false, gdS_true, gdS_false, wt_ff, wt_tt, wt_ft, wt_tf, wt_undef, obH_some', extractV_tuple, nilCheckV_ptr, againK_normal, againK_exit, againK_ret, blockK_normal, blockK_same, blockK_ret, seqK_normal, seqK_exit, seqK_ret, fin_done, if_true', if_false', Bool.not_true, Bool.not_false, idx0, idx1, idx2, idx3, idx4, chk_nil_l, chk_nil_r, done_nm, up_cons, up_nil, cond_true, cond_false, Nat.reduceBEq]
    refine Eq.trans ?_ (Eq.refl _)
    kernel_rfl
  · refine ⟨3, ?_, by omega⟩
    have d1 : ¬ ((7 : Nat) : Int) ≥ 4294967296 := by omega
    have d2 : ¬ ((7 : Nat) : Int) ≥ 65536 := by omega
    have d3 : ¬ ((7 : Nat) : Int) ≥ 256 := by omega
    simp -implicitDefEqProofs (disch := omega) only [↓c105_0_eq, d1, d2, d3, decide_true, decide_false, ↓cnd_true, ↓cnd_false, ↓Option.bind_some, ↓obH_some', bin_add, bin_sub, bin_mul, bin_lss, bin_leq, bin_gtr, bin_geq, bin_eql, bin_neq, un_not, un_neg, Option.bind_some, Option.bind_none, Option.map_some, cnd_true, cnd_false, pickV_true, pickV_false, gd_true, gd_false, gdV_true, gdV_false, gdH_true, gdH_false, gdS_true, gdS_false, wt_ff, wt_tt, wt_ft, wt_tf, wt_undef, obH_some', extractV_tuple, nilCheckV_ptr, againK_normal, againK_exit, againK_ret, blockK_normal, blockK_same, blockK_ret, seqK_normal, seqK_exit, seqK_ret, fin_done, if_true', if_false', Bool.not_true, Bool.not_false, idx0, idx1, idx2, idx3, idx4, chk_nil_l, chk_nil_r, done_nm, up_cons, up_nil, cond_true, cond_false, Nat.reduceBEq]
    refine Eq.trans ?_ (Eq.refl _)
    kernel_rfl
  · refine ⟨4, ?_, by omega⟩
    have d1 : ¬ ((8 : Nat) : Int) ≥ 4294967296 := by omega
    have d2 : ¬ ((8 : Nat) : Int) ≥ 65536 := by omega
    have d3 : ¬ ((8 : Nat) : Int) ≥ 256 := by omega
    simp -implicitDefEqProofs (disch := omega) only [↓c105_0_eq, d1, d2, d3, decide_true, decide_false, ↓cnd_true, ↓cnd_false, ↓Option.bind_some, ↓obH_some', bin_add, bin_sub, bin_mul, bin_lss, bin_leq, bin_gtr, bin_geq, bin_eql, bin_neq, un_not, un_neg, Option.bind_some, Option.bind_none, Option.map_some, cnd_true, cnd_false, pickV_true, pickV_false, gd_true, gd_false, gdV_true, gdV_false, gdH_true, gdH_false, gdS_true, gdS_false, wt_ff, wt_tt, wt_ft, wt_tf, wt_undef, obH_some', extractV_tuple, nilCheckV_ptr, againK_normal, againK_exit, againK_ret, blockK_normal, blockK_same, blockK_ret, seqK_normal, seqK_exit, seqK_ret, fin_done, if_true', if_false', Bool.not_true, Bool.not_false, idx0, idx1, idx2, idx3, idx4, chk_nil_l, chk_nil_r, done_nm, up_cons, up_nil, cond_true, cond_false, Nat.reduceBEq]
    refine Eq.trans ?_ (Eq.refl _)
    kernel_rfl
  · refine ⟨4, ?_, by omega⟩
    have d1 : ¬ ((9 : Nat) : Int) ≥ 4294967296 := by omega
    have d2 : ¬ ((9 : Nat) : Int) ≥ 65536 := by omega
    have d3 : ¬ ((9 : Nat) : Int) ≥ 256 := by omega
    simp -implicitDefEqProofs (disch := omega) only [↓c105_0_eq, d1, d2, d3, decide_true, decide_false, ↓cnd_true, ↓cnd_false, ↓Option.bind_some, ↓obH_some', bin_add, bin_sub, bin_mul, bin_lss, bin_leq, bin_gtr, bin_geq, bin_eql, bin_neq, un_not, un_neg, Option.bind_some, Option.bind_none, Option.map_some, cnd_true, cnd_false, pickV_true, pickV_false, gd_true, gd_false, gdV_true, gdV_false, gdH_true, gdH_false, gdS_true, gdS_false, wt_ff, wt_tt, wt_ft, wt_tf, wt_undef, obH_some', extractV_tuple, nilCheckV_ptr, againK_normal, againK_exit, againK_ret, blockK_normal, blockK_same, blockK_ret, seqK_normal, seqK_exit, seqK_ret, fin_done, if_true', if_false', Bool.not_true, Bool.not_false, idx0, idx1, idx2, idx3, idx4, chk_nil_l, chk_nil_r, done_nm, up_cons, up_nil, cond_true, cond_false, Nat.reduceBEq]
    refine Eq.trans ?_ (Eq.refl _)
    kernel_rfl
  · refine ⟨4, ?_, by omega⟩
    have d1 : ¬ ((10 : Nat) : Int) ≥ 4294967296 := by omega
    have d2 : ¬ ((10 : Nat) : Int) ≥ 65536 := by omega
    have d3 : ¬ ((10 : Nat) : Int) ≥ 256 := by omega
    simp -implicitDefEqProofs (disch := omega) only [↓c105_0_eq, d1, d2, d3, decide_true, decide_false, ↓cnd_true, ↓cnd_false, ↓Option.bind_some, ↓obH_some', bin_add, bin_sub, bin_mul, bin_lss, bin_leq, bin_gtr, bin_geq, bin_eql, bin_neq, un_not, un_neg, Option.bind_some, Option.bind_none, Option.map_some, cnd_true, cnd_false, pickV_true, pickV_false, gd_true, gd_false, gdV_true, gdV_false, gdH_true, gdH_false, gdS_true, gdS_false, wt_ff, wt_tt, wt_ft, wt_tf, wt_undef, obH_some', extractV_tuple, nilCheckV_ptr, againK_normal, againK_exit, againK_ret, blockK_normal, blockK_same, blockK_ret, seqK_normal, seqK_exit, seqK_ret, fin_done, if_true', if_false', Bool.not_true, Bool.not_false, idx0, idx1, idx2, idx3, idx4, chk_nil_l, chk_nil_r, done_nm, up_cons, up_nil, cond_true, cond_false, Nat.reduceBEq]
    refine Eq.trans ?_ (Eq.refl _)
    kernel_rfl
  · refine ⟨4, ?_, by omega⟩
    have d1 : ¬ ((11 : Nat) : Int) ≥ 4294967296 := by omega
    have d2 : ¬ ((11 : Nat) : Int) ≥ 65536 := by omega
    have d3 : ¬ ((11 : Nat) : Int) ≥ 256 := by omega
    simp -implicitDefEqProofs (disch := omega) only [↓c105_0_eq, d1, d2, d3, decide_true, decide_false, ↓cnd_true, ↓cnd_false, ↓Option.bind_some, ↓obH_some', bin_add, bin_sub, bin_mul, bin_lss, bin_leq, bin_gtr, bin_geq, bin_eql, bin_neq, un_not, un_neg, Option.bind_some, Option.bind_none, Option.map_some, cnd_true, cnd_false, pickV_true, pickV_false, gd_true, gd_false, gdV_true, gdV_false, gdH_true, gdH_false, gdS_true, gdS_false, wt_ff, wt_tt, wt_ft, wt_tf, wt_undef, obH_some', extractV_tuple, nilCheckV_ptr, againK_normal, againK_exit, againK_ret, blockK_normal, blockK_same, blockK_ret, seqK_normal, seqK_exit, seqK_ret, fin_done, if_true', if_false', Bool.not_true, Bool.not_false, idx0, idx1, idx2, idx3, idx4, chk_nil_l, chk_nil_r, done_nm, up_cons, up_nil, cond_true, cond_false, Nat.reduceBEq]
    refine Eq.trans ?_ (Eq.refl _)
    kernel_rfl
  · refine ⟨4, ?_, by omega⟩
    have d1 : ¬ ((12 : Nat) : Int) ≥ 4294967296 := by omega
    have d2 : ¬ ((12 : Nat) : Int) ≥ 65536 := by omega
    have d3 : ¬ ((12 : Nat) : Int) ≥ 256 := by omega
    simp -implicitDefEqProofs (disch := omega) only [↓c105_0_eq, d1, d2, d3, decide_true, decide_false, ↓cnd_true, ↓cnd_false, ↓Option.bind_some, ↓obH_some', bin_add, bin_sub, bin_mul, bin_lss, bin_leq, bin_gtr, bin_geq, bin_eql, bin_neq, un_not, un_neg, Option.bind_some, Option.bind_none, Option.map_some, cnd_true, cnd_false, pickV_true, pickV_false, gd_true, gd_false, gdV_true, gdV_false, gdH_true, gdH_false, gdS_true, gdS_false, wt_ff, wt_tt, wt_ft, wt_tf, wt_undef, obH_some', extractV_tuple, nilCheckV_ptr, againK_normal, againK_exit, againK_ret, blockK_normal, blockK_same, blockK_ret, seqK_normal, seqK_exit, seqK_ret, fin_done, if_true', if_false', Bool.not_true, Bool.not_false, idx0, idx1, idx2, idx3, idx4, chk_nil_l, chk_nil_r, done_nm, up_cons, up_nil, cond_true, cond_false, Nat.reduceBEq]
    refine Eq.trans ?_ (Eq.refl _)
    kernel_rfl
  · refine ⟨4, ?_, by omega⟩
    have d1 : ¬ ((13 : Nat) : Int) ≥ 4294967296 := by omega
    have d2 : ¬ ((13 : Nat) : Int) ≥ 65536 := by omega
    have d3 : ¬ ((13 : Nat) : Int) ≥ 256 := by omega
    simp -implicitDefEqProofs (disch := omega) only [↓c105_0_eq, d1, d2, d3, decide_true, decide_false, ↓cnd_true, ↓cnd_false, ↓Option.bind_some, ↓obH_some', bin_add, bin_sub, bin_mul, bin_lss, bin_leq, bin_gtr, bin_geq, bin_eql, bin_neq, un_not, un_neg, Option.bind_some, Option.bind_none, Option.map_some, cnd_true, cnd_false, pickV_true, pickV_false, gd_true, gd_false, gdV_true, gdV_false, gdH_true, gdH_false, gdS_true, gdS_false, wt_ff, wt_tt, wt_ft, wt_tf, wt_undef, obH_some', extractV_tuple, nilCheckV_ptr, againK_normal, againK_exit, againK_ret, blockK_normal, blockK_same, blockK_ret, seqK_normal, seqK_exit, seqK_ret, fin_done, if_true', if_false', Bool.not_true, Bool.not_false, idx0, idx1, idx2, idx3, idx4, chk_nil_l, chk_nil_r, done_nm, up_cons, up_nil, cond_true, cond_false, Nat.reduceBEq]
    refine Eq.trans ?_ (Eq.refl _)
    kernel_rfl
  · refine ⟨4, ?_, by omega⟩
    have d1 : ¬ ((14 : Nat) : Int) ≥ 4294967296 := by omega
    have d2 : ¬ ((14 : Nat) : Int) ≥ 65536 := by omega
    have d3 : ¬ ((14 : Nat) : Int) ≥ 256 := by omega
    simp -implicitDefEqProofs (disch := omega) only [↓c105_0_eq, d1, d2, d3, decide_true, decide_false, ↓cnd_true, ↓cnd_false, ↓Option.bind_some, ↓obH_some', bin_add, bin_sub, bin_mul, bin_lss, bin_leq, bin_gtr, bin_geq, bin_eql, bin_neq, un_not, un_neg, Option.bind_some, Option.bind_none, Option.map_some, cnd_true, cnd_false, pickV_true, pickV_false, gd_true, gd_false, gdV_true, gdV_false, gdH_true, gdH_false, gdS_true, gdS_false, wt_ff, wt_tt, wt_ft, wt_tf, wt_undef, obH_some', extractV_tuple, nilCheckV_ptr, againK_normal, againK_exit, againK_ret, blockK_normal, blockK_same, blockK_ret, seqK_normal, seqK_exit, seqK_ret, fin_done, if_true', if_false', Bool.not_true, Bool.not_false, idx0, idx1, idx2, idx3, idx4, chk_nil_l, chk_nil_r, done_nm, up_cons, up_nil, cond_true, cond_false, Nat.reduceBEq]
    refine Eq.trans ?_ (Eq.refl _)
    kernel_rfl
  · refine ⟨4, ?_, by omega⟩
    have d1 : ¬ ((15 : Nat) : Int) ≥ 4294967296 := by omega
    have d2 : ¬ ((15 : Nat) : Int) ≥ 65536 := by omega
    have d3 : ¬ ((15 : Nat) : Int) ≥ 256 := by omega
    simp -implicitDefEqProofs (disch := omega) only [↓c105_0_eq, d1, d2, d3, decide_true, decide_false, ↓cnd_true, ↓cnd_false, ↓Option.bind_some, ↓obH_some', bin_add, bin_sub, bin_mul, bin_lss, bin_leq, bin_gtr, bin_geq, bin_eql, bin_neq, un_not, un_neg, Option.bind_some, Option.bind_none, Option.map_some, cnd_true, cnd_false, pickV_true, pickV_false, gd_true, gd_false, gdV_true, gdV_false, gdH_true, gdH_false, gdS_true, gdS_false, wt_ff, wt_tt, wt_ft, wt_tf, wt_undef, obH_some', extractV_tuple, nilCheckV_ptr, againK_normal, againK_exit, againK_ret, blockK_normal, blockK_same, blockK_ret, seqK_normal, seqK_exit, seqK_ret, fin_done, if_true', if_false', Bool.not_true, Bool.not_false, idx0, idx1, idx2, idx3, idx4, chk_nil_l, chk_nil_r, done_nm, up_cons, up_nil, cond_true, cond_false, Nat.reduceBEq]
    refine Eq.trans ?_ (Eq.refl _)
    kernel_rfl
theorem spec_Len (k : Nat) (hk : k ≤ 15) (h : Heap) : ∃ m : Int, evC Tryd.prog 94 #[.int .u64 k] h = some (.int .i64 m, h) ∧ (k ≠ 0 → m ≠ 0) := by
  rw [call94]
  obtain ⟨m, e1, e2⟩ := spec_Len64 k hk (nm h)
  refine ⟨m, ?_, e2⟩
  simp -implicitDefEqProofs (disch := omega) only [↓c94_0_eq, e1, am_nm, nm_mods, List.nil_append, List.append_nil, ↓ret94, ↓cnd_true, ↓cnd_false, ↓Option.bind_some, ↓obH_some', bin_add, bin_sub, bin_mul, bin_lss, bin_leq, bin_gtr, bin_geq, bin_eql, bin_neq, un_not, un_neg, Option.bind_some, Option.bind_none, Option.map_some, cnd_true, cnd_false, pickV_true, pickV_false, gd_true, gd_false, gdV_true, gdV_false, gdH_true, gdH_false, gdS_true, gdS_false, wt_ff, wt_tt, wt_ft, wt_tf, wt_undef, obH_some', extractV_tuple, nilCheckV_ptr, againK_normal, againK_exit, againK_ret, blockK_normal, blockK_same, blockK_ret, seqK_normal, seqK_exit, seqK_ret, fin_done, if_true', if_false', Bool.not_true, Bool.not_false, idx0, idx1, idx2, idx3, idx4, chk_nil_l, chk_nil_r, done_nm, up_cons, up_nil, cond_true, cond_false, Nat.reduceBEq]
section
variable {p n c : Nat}
def SQ (p n : Nat) (g : Heap) (l : List Nat) (o : Option (Value × Heap)) : Prop :=
  ∃ h' m, o = some (.tuple #[], h') ∧ HMod (Just p) g h' ∧ NR h' p m ∧ Srt 0 n m ∧ Sw 0 n l m
theorem pdq_small {h : Heap} {l : List Nat} (hm : NR h p l) (hl : l.length = n) (hn : n < 2 ^ 40) {a b : Nat} (ha : a ≤ b) (hb : b ≤ n) (hs : b - a ≤ 12) (v : Value) :
    ∃ h' m, evC Tryd.prog 93 #[sv p n c, .int .i64 a, .int .i64 b, v] h = some (.tuple #[], h') ∧ HMod (Just p) h h' ∧ NR h' p m ∧ Srt a b m ∧ Sw a b l m := by
  rw [call93]
  obtain ⟨h', m, e1, e2, e3, e4, e5⟩ := spec_ins (c := c) hm.nm hl hn ha hb
  have w0 := wd b a (by omega) ha
  have d1 : ((b - a : Nat) : Int) ≤ 12 := by omega
  refine ⟨done h h', m, ?_, done_mod (e2.inn (Nat.le_refl h.blks.length) (fun _ _ x => x)), e3.done, e4, e5⟩
  simp -implicitDefEqProofs (disch := omega) only [↓c93_0_eq, ↓cnd_true, ↓cnd_false, ↓Option.bind_some, ↓obH_some', bin_add, bin_sub, bin_mul, bin_lss, bin_leq, bin_gtr, bin_geq, bin_eql, bin_neq, un_not, un_neg, Option.bind_some, Option.bind_none, Option.map_some, cnd_true, cnd_false, pickV_true, pickV_false, gd_true, gd_false, gdV_true, gdV_false, gdH_true, gdH_false, gdS_true, gdS_false, wt_ff, wt_tt, wt_ft, wt_tf, wt_undef, obH_some', extractV_tuple, nilCheckV_ptr, againK_normal, againK_exit, againK_ret, blockK_normal, blockK_same, blockK_ret, seqK_normal, seqK_exit, seqK_ret, fin_done, if_true', if_false', Bool.not_true, Bool.not_false, idx0, idx1, idx2, idx3, idx4, chk_nil_l, chk_nil_r, done_nm, up_cons, up_nil, cond_true, cond_false, Nat.reduceBEq]
  rw [lK_eq]
  simp -implicitDefEqProofs (disch := omega) only [↓c93_1_eq, w0, d1, e1, decide_true, ↓ret93, am_nm, nm_mods, List.nil_append, List.append_nil, ↓cnd_true, ↓cnd_false, ↓Option.bind_some, ↓obH_some', bin_add, bin_sub, bin_mul, bin_lss, bin_leq, bin_gtr, bin_geq, bin_eql, bin_neq, un_not, un_neg, Option.bind_some, Option.bind_none, Option.map_some, cnd_true, cnd_false, pickV_true, pickV_false, gd_true, gd_false, gdV_true, gdV_false, gdH_true, gdH_false, gdS_true, gdS_false, wt_ff, wt_tt, wt_ft, wt_tf, wt_undef, obH_some', extractV_tuple, nilCheckV_ptr, againK_normal, againK_exit, againK_ret, blockK_normal, blockK_same, blockK_ret, seqK_normal, seqK_exit, seqK_ret, fin_done, if_true', if_false', Bool.not_true, Bool.not_false, idx0, idx1, idx2, idx3, idx4, chk_nil_l, chk_nil_r, done_nm, up_cons, up_nil, cond_true, cond_false, Nat.reduceBEq]
theorem pdq_loop {g : Heap} {l : List Nat} (hl : l.length = n) (hn : n ≤ 15) (nd : l.Nodup) :
    ∀ (d a b : Nat), b - a ≤ d → a ≤ b → b ≤ n → ∀ (x : Nat → Value) (h : Heap) (m : List Nat) (w : Bool) (t : Int),In g.blks.length (Just p) (nm g) h → g.blks.length ≤ h.blks.length → NR h p m → Ord2 n a b m → Sw 0 n l m →
    x 0 = sv p n c → x 1 = .int .i64 a → x 2 = .int .i64 b → x 3 = .int .i64 t → t ≠ 0 → x 8 = .bool true → x 9 = .bool w →
    SQ p n g l (lK c93_1 134 x h (blockK 0 (retK Tryd.f93 Tryd.prog g))) := by
  intro d
  induction d with
  | zero =>
    intro a b e1 hab hbn x h m w t hin hn0 hm o sw Aa Ab Ac Ad ht Ai Aj
    obtain ⟨h', m', e1, e2, e3, e4, e5⟩ := spec_ins (c := c) hm (by rw [sw.len, hl]) (by omega) hab hbn
    have w0 := wd b a (by omega) hab
    have d1 : ((b - a : Nat) : Int) ≤ 12 := by omega
    rw [lK_eq]
    refine ⟨done g h', m', ?_, done_mod (hin.trans (e2.inn hn0 (fun _ _ x => x))), e3.done, o.done e5 e4 hbn, sw.trans (e5.wide (Nat.zero_le _) hbn (by rw [sw.len, hl]; exact Nat.le_refl _))⟩
    simp -implicitDefEqProofs (disch := omega) only [↓c93_1_eq,Aa,Ab,Ac, w0, d1, e1, decide_true, ↓ret93, ↓cnd_true, ↓cnd_false, ↓Option.bind_some, ↓obH_some', bin_add, bin_sub, bin_mul, bin_lss, bin_leq, bin_gtr, bin_geq, bin_eql, bin_neq, un_not, un_neg, Option.bind_some, Option.bind_none, Option.map_some, cnd_true, cnd_false, pickV_true, pickV_false, gd_true, gd_false, gdV_true, gdV_false, gdH_true, gdH_false, gdS_true, gdS_false, wt_ff, wt_tt, wt_ft, wt_tf, wt_undef, obH_some', extractV_tuple, nilCheckV_ptr, againK_normal, againK_exit, againK_ret, blockK_normal, blockK_same, blockK_ret, seqK_normal, seqK_exit, seqK_ret, fin_done, if_true', if_false', Bool.not_true, Bool.not_false, idx0, idx1, idx2, idx3, idx4, chk_nil_l, chk_nil_r, done_nm, up_cons, up_nil, cond_true, cond_false, Nat.reduceBEq]
  | succ d ih =>
    intro a b e1 hab hbn x h m w t hin hn0 hm o sw Aa Ab Ac Ad ht Ai Aj
    by_cases hs : b - a ≤ 12
    · obtain ⟨h', m', e1, e2, e3, e4, e5⟩ := spec_ins (c := c) hm (by rw [sw.len, hl]) (by omega) hab hbn
      have w0 := wd b a (by omega) hab
      have d1 : ((b - a : Nat) : Int) ≤ 12 := by omega
      rw [lK_eq]
      refine ⟨done g h', m', ?_, done_mod (hin.trans (e2.inn hn0 (fun _ _ x => x))), e3.done, o.done e5 e4 hbn, sw.trans (e5.wide (Nat.zero_le _) hbn (by rw [sw.len, hl]; exact Nat.le_refl _))⟩
      simp -implicitDefEqProofs (disch := omega) only [↓c93_1_eq,Aa,Ab,Ac, w0, d1, e1, decide_true, ↓ret93, ↓cnd_true, ↓cnd_false, ↓Option.bind_some, ↓obH_some', bin_add, bin_sub, bin_mul, bin_lss, bin_leq, bin_gtr, bin_geq, bin_eql, bin_neq, un_not, un_neg, Option.bind_some, Option.bind_none, Option.map_some, cnd_true, cnd_false, pickV_true, pickV_false, gd_true, gd_false, gdV_true, gdV_false, gdH_true, gdH_false, gdS_true, gdS_false, wt_ff, wt_tt, wt_ft, wt_tf, wt_undef, obH_some', extractV_tuple, nilCheckV_ptr, againK_normal, againK_exit, againK_ret, blockK_normal, blockK_same, blockK_ret, seqK_normal, seqK_exit, seqK_ret, fin_done, if_true', if_false', Bool.not_true, Bool.not_false, idx0, idx1, idx2, idx3, idx4, chk_nil_l, chk_nil_r, done_nm, up_cons, up_nil, cond_true, cond_false, Nat.reduceBEq]
    have ml : m.length = n := by rw [sw.len, hl]
    obtain ⟨h1, r, lo, hi', u, ev1, ex1, hu, r1, r2, lo1, lo2, _, _, lo3, _, lo4, _⟩ := spec_pivot (c := c) hm ml (by omega) (a := a) (b := b) (by omega) (by omega) hbn
    have hm1 := hm.ext ex1
    have mnd : m.Nodup := (sw.perm.nodup_iff).2 nd
    have lo5 : gt0 m lo < gt0 m r := by
      have := nodup_lt mnd (i := lo) (j := r) (by omega) (by omega) lo3
      omega
    obtain ⟨h2, m2, mid, al, ev2, md2, hm2, sw2, po, pv⟩ := spec_part (c := c) hm1 ml (by omega) r1 r2 hbn (by omega)
    have o2 := o.sw sw2 hbn
    have ml2 : m2.length = n := by rw [sw2.len, ml]
    have amid : a < mid := by
      obtain ⟨k, k1, k2, k3⟩ := Sw.ex sw2 (P := fun y => y < gt0 m r) ⟨lo, lo1, lo2, lo5⟩
      rcases Nat.lt_trichotomy k mid with hk | hk | hk
      · omega
      · subst hk; omega
      · have := po.2.2.2 k hk k2; omega
    have bmid := po.2.1
    have in2 : In g.blks.length (Just p) (nm g) h2 := (hin.trans (ex1.inn hn0)).trans (md2.inn (Nat.le_trans hn0 ex1.len) (fun _ _ x => x))
    have hn2 : g.blks.length ≤ h2.blks.length := Nat.le_trans hn0 (Nat.le_trans ex1.len md2.len)
    have swA : Sw 0 n l m2 := sw.trans (sw2.wide (Nat.zero_le _) hbn (by omega))
    have d1 : ¬ ((b - a : Nat) : Int) ≤ 12 := by omega
    have w0 := wd b a (by omega) hab
    have w1 := wd mid a (by omega) (by omega)
    have w2 := wd b mid (by omega) (by omega)
    have w3 := wa mid (by omega)
    have u8 := q8 (b - a) (by omega) (by omega)
    have c1 : ¬ (0 : Int) = 2 := by omega
    have c2 : ¬ (1 : Int) = 2 := by omega
    have c3 : ¬ (0 : Int) = 1 := by omega
    have bl : ((mid - a : Nat) : Int) ≥ 1 := by omega
    have br : ((b - mid : Nat) : Int) ≥ 1 := by omega
    have lk := lK_eq c93_1 134 x h (blockK 0 (retK Tryd.f93 Tryd.prog g))
    have fin1 : Srt a b m → SQ p n g l (some (.tuple #[], done g h1)) := fun s =>
      ⟨_, m, rfl, done_mod (hin.trans (ex1.inn hn0)), hm1.done, o.done (.refl m) s hbn, sw⟩
    by_cases hlr : mid - a < b - mid
    · obtain ⟨h3, m3, ev3, md3, hm3, st3, sw3⟩ := pdq_small (c := c) hm2 ml2 (by omega) (a := a) (b := mid) (by omega) (by omega) (by omega) (.int .i64 t)
      have d4 : ((mid - a : Nat) : Int) < ((b - mid : Nat) : Int) := by omega
      have in3 := in2.trans (md3.inn hn2 (fun _ _ x => x))
      have nx := fun x' w' (y0 : x' 0 = sv p n c) (y1 : x' 1 = .int .i64 ((mid + 1 : Nat) : Int)) (y2 : x' 2 = .int .i64 b) (y3 : x' 3 = .int .i64 t) (y8 : x' 8 = .bool true) (y9 : x' 9 = .bool w') =>
        ih (mid + 1) b (by omega) (by omega) hbn x' h3 m3 w' t in3 (Nat.le_trans hn2 md3.len) hm3 (o2.left po sw3 st3 hbn (by omega)) (swA.trans (sw3.wide (Nat.zero_le _) (by omega) (by omega))) y0 y1 y2 y3 ht y8 y9
      rcases hu with rfl | rfl
      · cases w
        · have vv := 0
          by_cases a0 : 0 < a
          · have d3 : (a : Int) > 0 := by omega
            have i1 := iaS p n c (a - 1) (by omega)
            have i2 := iaS p n c r (by omega)
            have l1 := hm1.at (i := a - 1) (by omega)
            have l2 := hm1.at (i := r) (by omega)
            have w4 := ws a (by omega) (by omega)
            have lt : gt0 m (a - 1) < gt0 m r := by
              have := nodup_lt mnd (i := a - 1) (j := r) (by omega) (by omega) (by omega)
              have := o (a - 1) r (by omega) (by omega) (.inl (by omega))
              omega
            have el := fun h => spec_Less (gt0 m (a - 1)) (gt0 m r) h
            rw [lk]
            simp -implicitDefEqProofs (disch := omega) only [↓c93_1_eq,Aa,Ab,Ac,Ad,Ai,Aj, w0, w1, w2, w3, d1, d4, ht, ev1, ev2, ev3, u8, c1, c2, c3, bl, br, decide_true, decide_false, c1, d3, i1, i2, vld64, l1, l2, w4, lt, el, ↓cnd_true, ↓cnd_false, ↓Option.bind_some, ↓obH_some', bin_add, bin_sub, bin_mul, bin_lss, bin_leq, bin_gtr, bin_geq, bin_eql, bin_neq, un_not, un_neg, Option.bind_some, Option.bind_none, Option.map_some, cnd_true, cnd_false, pickV_true, pickV_false, gd_true, gd_false, gdV_true, gdV_false, gdH_true, gdH_false, gdS_true, gdS_false, wt_ff, wt_tt, wt_ft, wt_tf, wt_undef, obH_some', extractV_tuple, nilCheckV_ptr, againK_normal, againK_exit, againK_ret, blockK_normal, blockK_same, blockK_ret, seqK_normal, seqK_exit, seqK_ret, fin_done, if_true', if_false', Bool.not_true, Bool.not_false, idx0, idx1, idx2, idx3, idx4, chk_nil_l, chk_nil_r, done_nm, up_cons, up_nil, cond_true, cond_false, Nat.reduceBEq]
            refine nx _ al ?_ ?_ ?_ ?_ ?_ ?_
            · first | rfl | exact Aa | exact Ab | exact Ac | exact Ad | exact Ai | exact Aj
            · first | rfl | exact Aa | exact Ab | exact Ac | exact Ad | exact Ai | exact Aj
            · first | rfl | exact Aa | exact Ab | exact Ac | exact Ad | exact Ai | exact Aj
            · first | rfl | exact Aa | exact Ab | exact Ac | exact Ad | exact Ai | exact Aj
            · first | rfl | exact Aa | exact Ab | exact Ac | exact Ad | exact Ai | exact Aj
            · first | rfl | exact Aa | exact Ab | exact Ac | exact Ad | exact Ai | exact Aj
          · have d3 : ¬ (a : Int) > 0 := by omega
            rw [lk]
            simp -implicitDefEqProofs (disch := omega) only [↓c93_1_eq,Aa,Ab,Ac,Ad,Ai,Aj, w0, w1, w2, w3, d1, d4, ht, ev1, ev2, ev3, u8, c1, c2, c3, bl, br, decide_true, decide_false, c1, d3, ↓cnd_true, ↓cnd_false, ↓Option.bind_some, ↓obH_some', bin_add, bin_sub, bin_mul, bin_lss, bin_leq, bin_gtr, bin_geq, bin_eql, bin_neq, un_not, un_neg, Option.bind_some, Option.bind_none, Option.map_some, cnd_true, cnd_false, pickV_true, pickV_false, gd_true, gd_false, gdV_true, gdV_false, gdH_true, gdH_false, gdS_true, gdS_false, wt_ff, wt_tt, wt_ft, wt_tf, wt_undef, obH_some', extractV_tuple, nilCheckV_ptr, againK_normal, againK_exit, againK_ret, blockK_normal, blockK_same, blockK_ret, seqK_normal, seqK_exit, seqK_ret, fin_done, if_true', if_false', Bool.not_true, Bool.not_false, idx0, idx1, idx2, idx3, idx4, chk_nil_l, chk_nil_r, done_nm, up_cons, up_nil, cond_true, cond_false, Nat.reduceBEq]
            refine nx _ al ?_ ?_ ?_ ?_ ?_ ?_
            · first | rfl | exact Aa | exact Ab | exact Ac | exact Ad | exact Ai | exact Aj
            · first | rfl | exact Aa | exact Ab | exact Ac | exact Ad | exact Ai | exact Aj
            · first | rfl | exact Aa | exact Ab | exact Ac | exact Ad | exact Ai | exact Aj
            · first | rfl | exact Aa | exact Ab | exact Ac | exact Ad | exact Ai | exact Aj
            · first | rfl | exact Aa | exact Ab | exact Ac | exact Ad | exact Ai | exact Aj
            · first | rfl | exact Aa | exact Ab | exact Ac | exact Ad | exact Ai | exact Aj
        · have vv := 0
          by_cases a0 : 0 < a
          · have d3 : (a : Int) > 0 := by omega
            have i1 := iaS p n c (a - 1) (by omega)
            have i2 := iaS p n c r (by omega)
            have l1 := hm1.at (i := a - 1) (by omega)
            have l2 := hm1.at (i := r) (by omega)
            have w4 := ws a (by omega) (by omega)
            have lt : gt0 m (a - 1) < gt0 m r := by
              have := nodup_lt mnd (i := a - 1) (j := r) (by omega) (by omega) (by omega)
              have := o (a - 1) r (by omega) (by omega) (.inl (by omega))
              omega
            have el := fun h => spec_Less (gt0 m (a - 1)) (gt0 m r) h
            rw [lk]
            simp -implicitDefEqProofs (disch := omega) only [↓c93_1_eq,Aa,Ab,Ac,Ad,Ai,Aj, w0, w1, w2, w3, d1, d4, ht, ev1, ev2, ev3, u8, c1, c2, c3, bl, br, decide_true, decide_false, c1, d3, i1, i2, vld64, l1, l2, w4, lt, el, ↓cnd_true, ↓cnd_false, ↓Option.bind_some, ↓obH_some', bin_add, bin_sub, bin_mul, bin_lss, bin_leq, bin_gtr, bin_geq, bin_eql, bin_neq, un_not, un_neg, Option.bind_some, Option.bind_none, Option.map_some, cnd_true, cnd_false, pickV_true, pickV_false, gd_true, gd_false, gdV_true, gdV_false, gdH_true, gdH_false, gdS_true, gdS_false, wt_ff, wt_tt, wt_ft, wt_tf, wt_undef, obH_some', extractV_tuple, nilCheckV_ptr, againK_normal, againK_exit, againK_ret, blockK_normal, blockK_same, blockK_ret, seqK_normal, seqK_exit, seqK_ret, fin_done, if_true', if_false', Bool.not_true, Bool.not_false, idx0, idx1, idx2, idx3, idx4, chk_nil_l, chk_nil_r, done_nm, up_cons, up_nil, cond_true, cond_false, Nat.reduceBEq]
            refine nx _ al ?_ ?_ ?_ ?_ ?_ ?_
            · first | rfl | exact Aa | exact Ab | exact Ac | exact Ad | exact Ai | exact Aj
            · first | rfl | exact Aa | exact Ab | exact Ac | exact Ad | exact Ai | exact Aj
            · first | rfl | exact Aa | exact Ab | exact Ac | exact Ad | exact Ai | exact Aj
            · first | rfl | exact Aa | exact Ab | exact Ac | exact Ad | exact Ai | exact Aj
            · first | rfl | exact Aa | exact Ab | exact Ac | exact Ad | exact Ai | exact Aj
            · first | rfl | exact Aa | exact Ab | exact Ac | exact Ad | exact Ai | exact Aj
          · have d3 : ¬ (a : Int) > 0 := by omega
            rw [lk]
            simp -implicitDefEqProofs (disch := omega) only [↓c93_1_eq,Aa,Ab,Ac,Ad,Ai,Aj, w0, w1, w2, w3, d1, d4, ht, ev1, ev2, ev3, u8, c1, c2, c3, bl, br, decide_true, decide_false, c1, d3, ↓cnd_true, ↓cnd_false, ↓Option.bind_some, ↓obH_some', bin_add, bin_sub, bin_mul, bin_lss, bin_leq, bin_gtr, bin_geq, bin_eql, bin_neq, un_not, un_neg, Option.bind_some, Option.bind_none, Option.map_some, cnd_true, cnd_false, pickV_true, pickV_false, gd_true, gd_false, gdV_true, gdV_false, gdH_true, gdH_false, gdS_true, gdS_false, wt_ff, wt_tt, wt_ft, wt_tf, wt_undef, obH_some', extractV_tuple, nilCheckV_ptr, againK_normal, againK_exit, againK_ret, blockK_normal, blockK_same, blockK_ret, seqK_normal, seqK_exit, seqK_ret, fin_done, if_true', if_false', Bool.not_true, Bool.not_false, idx0, idx1, idx2, idx3, idx4, chk_nil_l, chk_nil_r, done_nm, up_cons, up_nil, cond_true, cond_false, Nat.reduceBEq]
            refine nx _ al ?_ ?_ ?_ ?_ ?_ ?_
            · first | rfl | exact Aa | exact Ab | exact Ac | exact Ad | exact Ai | exact Aj
            · first | rfl | exact Aa | exact Ab | exact Ac | exact Ad | exact Ai | exact Aj
            · first | rfl | exact Aa | exact Ab | exact Ac | exact Ad | exact Ai | exact Aj
            · first | rfl | exact Aa | exact Ab | exact Ac | exact Ad | exact Ai | exact Aj
            · first | rfl | exact Aa | exact Ab | exact Ac | exact Ad | exact Ai | exact Aj
            · first | rfl | exact Aa | exact Ab | exact Ac | exact Ad | exact Ai | exact Aj
      · cases w
        · have vv := 0
          by_cases a0 : 0 < a
          · have d3 : (a : Int) > 0 := by omega
            have i1 := iaS p n c (a - 1) (by omega)
            have i2 := iaS p n c r (by omega)
            have l1 := hm1.at (i := a - 1) (by omega)
            have l2 := hm1.at (i := r) (by omega)
            have w4 := ws a (by omega) (by omega)
            have lt : gt0 m (a - 1) < gt0 m r := by
              have := nodup_lt mnd (i := a - 1) (j := r) (by omega) (by omega) (by omega)
              have := o (a - 1) r (by omega) (by omega) (.inl (by omega))
              omega
            have el := fun h => spec_Less (gt0 m (a - 1)) (gt0 m r) h
            rw [lk]
            simp -implicitDefEqProofs (disch := omega) only [↓c93_1_eq,Aa,Ab,Ac,Ad,Ai,Aj, w0, w1, w2, w3, d1, d4, ht, ev1, ev2, ev3, u8, c1, c2, c3, bl, br, decide_true, decide_false, c1, d3, i1, i2, vld64, l1, l2, w4, lt, el, ↓cnd_true, ↓cnd_false, ↓Option.bind_some, ↓obH_some', bin_add, bin_sub, bin_mul, bin_lss, bin_leq, bin_gtr, bin_geq, bin_eql, bin_neq, un_not, un_neg, Option.bind_some, Option.bind_none, Option.map_some, cnd_true, cnd_false, pickV_true, pickV_false, gd_true, gd_false, gdV_true, gdV_false, gdH_true, gdH_false, gdS_true, gdS_false, wt_ff, wt_tt, wt_ft, wt_tf, wt_undef, obH_some', extractV_tuple, nilCheckV_ptr, againK_normal, againK_exit, againK_ret, blockK_normal, blockK_same, blockK_ret, seqK_normal, seqK_exit, seqK_ret, fin_done, if_true', if_false', Bool.not_true, Bool.not_false, idx0, idx1, idx2, idx3, idx4, chk_nil_l, chk_nil_r, done_nm, up_cons, up_nil, cond_true, cond_false, Nat.reduceBEq]
            refine nx _ al ?_ ?_ ?_ ?_ ?_ ?_
            · first | rfl | exact Aa | exact Ab | exact Ac | exact Ad | exact Ai | exact Aj
            · first | rfl | exact Aa | exact Ab | exact Ac | exact Ad | exact Ai | exact Aj
            · first | rfl | exact Aa | exact Ab | exact Ac | exact Ad | exact Ai | exact Aj
            · first | rfl | exact Aa | exact Ab | exact Ac | exact Ad | exact Ai | exact Aj
            · first | rfl | exact Aa | exact Ab | exact Ac | exact Ad | exact Ai | exact Aj
            · first | rfl | exact Aa | exact Ab | exact Ac | exact Ad | exact Ai | exact Aj
          · have d3 : ¬ (a : Int) > 0 := by omega
            rw [lk]
            simp -implicitDefEqProofs (disch := omega) only [↓c93_1_eq,Aa,Ab,Ac,Ad,Ai,Aj, w0, w1, w2, w3, d1, d4, ht, ev1, ev2, ev3, u8, c1, c2, c3, bl, br, decide_true, decide_false, c1, d3, ↓cnd_true, ↓cnd_false, ↓Option.bind_some, ↓obH_some', bin_add, bin_sub, bin_mul, bin_lss, bin_leq, bin_gtr, bin_geq, bin_eql, bin_neq, un_not, un_neg, Option.bind_some, Option.bind_none, Option.map_some, cnd_true, cnd_false, pickV_true, pickV_false, gd_true, gd_false, gdV_true, gdV_false, gdH_true, gdH_false, gdS_true, gdS_false, wt_ff, wt_tt, wt_ft, wt_tf, wt_undef, obH_some', extractV_tuple, nilCheckV_ptr, againK_normal, againK_exit, againK_ret, blockK_normal, blockK_same, blockK_ret, seqK_normal, seqK_exit, seqK_ret, fin_done, if_true', if_false', Bool.not_true, Bool.not_false, idx0, idx1, idx2, idx3, idx4, chk_nil_l, chk_nil_r, done_nm, up_cons, up_nil, cond_true, cond_false, Nat.reduceBEq]
            refine nx _ al ?_ ?_ ?_ ?_ ?_ ?_
            · first | rfl | exact Aa | exact Ab | exact Ac | exact Ad | exact Ai | exact Aj
            · first | rfl | exact Aa | exact Ab | exact Ac | exact Ad | exact Ai | exact Aj
            · first | rfl | exact Aa | exact Ab | exact Ac | exact Ad | exact Ai | exact Aj
            · first | rfl | exact Aa | exact Ab | exact Ac | exact Ad | exact Ai | exact Aj
            · first | rfl | exact Aa | exact Ab | exact Ac | exact Ad | exact Ai | exact Aj
            · first | rfl | exact Aa | exact Ab | exact Ac | exact Ad | exact Ai | exact Aj
        · obtain ⟨rr, ev4, hr⟩ := spec_pin (c := c) hm1 ml (by omega) (a := a) (b := b) (by omega) hbn (by omega)
          cases rr
          · have vv := 0
            by_cases a0 : 0 < a
            · have d3 : (a : Int) > 0 := by omega
              have i1 := iaS p n c (a - 1) (by omega)
              have i2 := iaS p n c r (by omega)
              have l1 := hm1.at (i := a - 1) (by omega)
              have l2 := hm1.at (i := r) (by omega)
              have w4 := ws a (by omega) (by omega)
              have lt : gt0 m (a - 1) < gt0 m r := by
                have := nodup_lt mnd (i := a - 1) (j := r) (by omega) (by omega) (by omega)
                have := o (a - 1) r (by omega) (by omega) (.inl (by omega))
                omega
              have el := fun h => spec_Less (gt0 m (a - 1)) (gt0 m r) h
              rw [lk]
              simp -implicitDefEqProofs (disch := omega) only [↓c93_1_eq,Aa,Ab,Ac,Ad,Ai,Aj, w0, w1, w2, w3, d1, d4, ht, ev1, ev2, ev3, u8, c1, c2, c3, bl, br, decide_true, decide_false, ev4, d3, i1, i2, vld64, l1, l2, w4, lt, el, ↓cnd_true, ↓cnd_false, ↓Option.bind_some, ↓obH_some', bin_add, bin_sub, bin_mul, bin_lss, bin_leq, bin_gtr, bin_geq, bin_eql, bin_neq, un_not, un_neg, Option.bind_some, Option.bind_none, Option.map_some, cnd_true, cnd_false, pickV_true, pickV_false, gd_true, gd_false, gdV_true, gdV_false, gdH_true, gdH_false, gdS_true, gdS_false, wt_ff, wt_tt, wt_ft, wt_tf, wt_undef, obH_some', extractV_tuple, nilCheckV_ptr, againK_normal, againK_exit, againK_ret, blockK_normal, blockK_same, blockK_ret, seqK_normal, seqK_exit, seqK_ret, fin_done, if_true', if_false', Bool.not_true, Bool.not_false, idx0, idx1, idx2, idx3, idx4, chk_nil_l, chk_nil_r, done_nm, up_cons, up_nil, cond_true, cond_false, Nat.reduceBEq]
              refine nx _ al ?_ ?_ ?_ ?_ ?_ ?_
              · first | rfl | exact Aa | exact Ab | exact Ac | exact Ad | exact Ai | exact Aj
              · first | rfl | exact Aa | exact Ab | exact Ac | exact Ad | exact Ai | exact Aj
              · first | rfl | exact Aa | exact Ab | exact Ac | exact Ad | exact Ai | exact Aj
              · first | rfl | exact Aa | exact Ab | exact Ac | exact Ad | exact Ai | exact Aj
              · first | rfl | exact Aa | exact Ab | exact Ac | exact Ad | exact Ai | exact Aj
              · first | rfl | exact Aa | exact Ab | exact Ac | exact Ad | exact Ai | exact Aj
            · have d3 : ¬ (a : Int) > 0 := by omega
              rw [lk]
              simp -implicitDefEqProofs (disch := omega) only [↓c93_1_eq,Aa,Ab,Ac,Ad,Ai,Aj, w0, w1, w2, w3, d1, d4, ht, ev1, ev2, ev3, u8, c1, c2, c3, bl, br, decide_true, decide_false, ev4, d3, ↓cnd_true, ↓cnd_false, ↓Option.bind_some, ↓obH_some', bin_add, bin_sub, bin_mul, bin_lss, bin_leq, bin_gtr, bin_geq, bin_eql, bin_neq, un_not, un_neg, Option.bind_some, Option.bind_none, Option.map_some, cnd_true, cnd_false, pickV_true, pickV_false, gd_true, gd_false, gdV_true, gdV_false, gdH_true, gdH_false, gdS_true, gdS_false, wt_ff, wt_tt, wt_ft, wt_tf, wt_undef, obH_some', extractV_tuple, nilCheckV_ptr, againK_normal, againK_exit, againK_ret, blockK_normal, blockK_same, blockK_ret, seqK_normal, seqK_exit, seqK_ret, fin_done, if_true', if_false', Bool.not_true, Bool.not_false, idx0, idx1, idx2, idx3, idx4, chk_nil_l, chk_nil_r, done_nm, up_cons, up_nil, cond_true, cond_false, Nat.reduceBEq]
              refine nx _ al ?_ ?_ ?_ ?_ ?_ ?_
              · first | rfl | exact Aa | exact Ab | exact Ac | exact Ad | exact Ai | exact Aj
              · first | rfl | exact Aa | exact Ab | exact Ac | exact Ad | exact Ai | exact Aj
              · first | rfl | exact Aa | exact Ab | exact Ac | exact Ad | exact Ai | exact Aj
              · first | rfl | exact Aa | exact Ab | exact Ac | exact Ad | exact Ai | exact Aj
              · first | rfl | exact Aa | exact Ab | exact Ac | exact Ad | exact Ai | exact Aj
              · first | rfl | exact Aa | exact Ab | exact Ac | exact Ad | exact Ai | exact Aj
          · have q := fin1 (hr rfl)
            rw [lk]
            simp -implicitDefEqProofs (disch := omega) only [↓c93_1_eq,Aa,Ab,Ac,Ad,Ai,Aj, w0, w1, w2, w3, d1, d4, ht, ev1, ev2, ev3, u8, c1, c2, c3, bl, br, decide_true, decide_false, ev4, ↓ret93, ↓cnd_true, ↓cnd_false, ↓Option.bind_some, ↓obH_some', bin_add, bin_sub, bin_mul, bin_lss, bin_leq, bin_gtr, bin_geq, bin_eql, bin_neq, un_not, un_neg, Option.bind_some, Option.bind_none, Option.map_some, cnd_true, cnd_false, pickV_true, pickV_false, gd_true, gd_false, gdV_true, gdV_false, gdH_true, gdH_false, gdS_true, gdS_false, wt_ff, wt_tt, wt_ft, wt_tf, wt_undef, obH_some', extractV_tuple, nilCheckV_ptr, againK_normal, againK_exit, againK_ret, blockK_normal, blockK_same, blockK_ret, seqK_normal, seqK_exit, seqK_ret, fin_done, if_true', if_false', Bool.not_true, Bool.not_false, idx0, idx1, idx2, idx3, idx4, chk_nil_l, chk_nil_r, done_nm, up_cons, up_nil, cond_true, cond_false, Nat.reduceBEq]
            exact q
    · obtain ⟨h3, m3, ev3, md3, hm3, st3, sw3⟩ := pdq_small (c := c) hm2 ml2 (by omega) (a := mid + 1) (b := b) (by omega) hbn (by omega) (.int .i64 t)
      have d4 : ¬ ((mid - a : Nat) : Int) < ((b - mid : Nat) : Int) := by omega
      have in3 := in2.trans (md3.inn hn2 (fun _ _ x => x))
      have nx := fun x' w' (y0 : x' 0 = sv p n c) (y1 : x' 1 = .int .i64 a) (y2 : x' 2 = .int .i64 ((mid : Nat) : Int)) (y3 : x' 3 = .int .i64 t) (y8 : x' 8 = .bool true) (y9 : x' 9 = .bool w') =>
        ih a mid (by omega) (by omega) (by omega) x' h3 m3 w' t in3 (Nat.le_trans hn2 md3.len) hm3 (o2.right po sw3 st3 hbn (by omega)) (swA.trans (sw3.wide (Nat.zero_le _) (by omega) (by omega))) y0 y1 y2 y3 ht y8 y9
      rcases hu with rfl | rfl
      · cases w
        · have vv := 0
          by_cases a0 : 0 < a
          · have d3 : (a : Int) > 0 := by omega
            have i1 := iaS p n c (a - 1) (by omega)
            have i2 := iaS p n c r (by omega)
            have l1 := hm1.at (i := a - 1) (by omega)
            have l2 := hm1.at (i := r) (by omega)
            have w4 := ws a (by omega) (by omega)
            have lt : gt0 m (a - 1) < gt0 m r := by
              have := nodup_lt mnd (i := a - 1) (j := r) (by omega) (by omega) (by omega)
              have := o (a - 1) r (by omega) (by omega) (.inl (by omega))
              omega
            have el := fun h => spec_Less (gt0 m (a - 1)) (gt0 m r) h
            rw [lk]
            simp -implicitDefEqProofs (disch := omega) only [↓c93_1_eq,Aa,Ab,Ac,Ad,Ai,Aj, w0, w1, w2, w3, d1, d4, ht, ev1, ev2, ev3, u8, c1, c2, c3, bl, br, decide_true, decide_false, c1, d3, i1, i2, vld64, l1, l2, w4, lt, el, ↓cnd_true, ↓cnd_false, ↓Option.bind_some, ↓obH_some', bin_add, bin_sub, bin_mul, bin_lss, bin_leq, bin_gtr, bin_geq, bin_eql, bin_neq, un_not, un_neg, Option.bind_some, Option.bind_none, Option.map_some, cnd_true, cnd_false, pickV_true, pickV_false, gd_true, gd_false, gdV_true, gdV_false, gdH_true, gdH_false, gdS_true, gdS_false, wt_ff, wt_tt, wt_ft, wt_tf, wt_undef, obH_some', extractV_tuple, nilCheckV_ptr, againK_normal, againK_exit, againK_ret, blockK_normal, blockK_same, blockK_ret, seqK_normal, seqK_exit, seqK_ret, fin_done, if_true', if_false', Bool.not_true, Bool.not_false, idx0, idx1, idx2, idx3, idx4, chk_nil_l, chk_nil_r, done_nm, up_cons, up_nil, cond_true, cond_false, Nat.reduceBEq]
            refine nx _ al ?_ ?_ ?_ ?_ ?_ ?_
            · first | rfl | exact Aa | exact Ab | exact Ac | exact Ad | exact Ai | exact Aj
            · first | rfl | exact Aa | exact Ab | exact Ac | exact Ad | exact Ai | exact Aj
            · first | rfl | exact Aa | exact Ab | exact Ac | exact Ad | exact Ai | exact Aj
            · first | rfl | exact Aa | exact Ab | exact Ac | exact Ad | exact Ai | exact Aj
            · first | rfl | exact Aa | exact Ab | exact Ac | exact Ad | exact Ai | exact Aj
            · first | rfl | exact Aa | exact Ab | exact Ac | exact Ad | exact Ai | exact Aj
          · have d3 : ¬ (a : Int) > 0 := by omega
            rw [lk]
            simp -implicitDefEqProofs (disch := omega) only [↓c93_1_eq,Aa,Ab,Ac,Ad,Ai,Aj, w0, w1, w2, w3, d1, d4, ht, ev1, ev2, ev3, u8, c1, c2, c3, bl, br, decide_true, decide_false, c1, d3, ↓cnd_true, ↓cnd_false, ↓Option.bind_some, ↓obH_some', bin_add, bin_sub, bin_mul, bin_lss, bin_leq, bin_gtr, bin_geq, bin_eql, bin_neq, un_not, un_neg, Option.bind_some, Option.bind_none, Option.map_some, cnd_true, cnd_false, pickV_true, pickV_false, gd_true, gd_false, gdV_true, gdV_false, gdH_true, gdH_false, gdS_true, gdS_false, wt_ff, wt_tt, wt_ft, wt_tf, wt_undef, obH_some', extractV_tuple, nilCheckV_ptr, againK_normal, againK_exit, againK_ret, blockK_normal, blockK_same, blockK_ret, seqK_normal, seqK_exit, seqK_ret, fin_done, if_true', if_false', Bool.not_true, Bool.not_false, idx0, idx1, idx2, idx3, idx4, chk_nil_l, chk_nil_r, done_nm, up_cons, up_nil, cond_true, cond_false, Nat.reduceBEq]
            refine nx _ al ?_ ?_ ?_ ?_ ?_ ?_
            · first | rfl | exact Aa | exact Ab | exact Ac | exact Ad | exact Ai | exact Aj
            · first | rfl | exact Aa | exact Ab | exact Ac | exact Ad | exact Ai | exact Aj
            · first | rfl | exact Aa | exact Ab | exact Ac | exact Ad | exact Ai | exact Aj
            · first | rfl | exact Aa | exact Ab | exact Ac | exact Ad | exact Ai | exact Aj
            · first | rfl | exact Aa | exact Ab | exact Ac | exact Ad | exact Ai | exact Aj
            · first | rfl | exact Aa | exact Ab | exact Ac | exact Ad | exact Ai | exact Aj
        · have vv := 0
          by_cases a0 : 0 < a
          · have d3 : (a : Int) > 0 := by omega
            have i1 := iaS p n c (a - 1) (by omega)
            have i2 := iaS p n c r (by omega)
            have l1 := hm1.at (i := a - 1) (by omega)
            have l2 := hm1.at (i := r) (by omega)
            have w4 := ws a (by omega) (by omega)
            have lt : gt0 m (a - 1) < gt0 m r := by
              have := nodup_lt mnd (i := a - 1) (j := r) (by omega) (by omega) (by omega)
              have := o (a - 1) r (by omega) (by omega) (.inl (by omega))
              omega
            have el := fun h => spec_Less (gt0 m (a - 1)) (gt0 m r) h
            rw [lk]
            simp -implicitDefEqProofs (disch := omega) only [↓c93_1_eq,Aa,Ab,Ac,Ad,Ai,Aj, w0, w1, w2, w3, d1, d4, ht, ev1, ev2, ev3, u8, c1, c2, c3, bl, br, decide_true, decide_false, c1, d3, i1, i2, vld64, l1, l2, w4, lt, el, ↓cnd_true, ↓cnd_false, ↓Option.bind_some, ↓obH_some', bin_add, bin_sub, bin_mul, bin_lss, bin_leq, bin_gtr, bin_geq, bin_eql, bin_neq, un_not, un_neg, Option.bind_some, Option.bind_none, Option.map_some, cnd_true, cnd_false, pickV_true, pickV_false, gd_true, gd_false, gdV_true, gdV_false, gdH_true, gdH_false, gdS_true, gdS_false, wt_ff, wt_tt, wt_ft, wt_tf, wt_undef, obH_some', extractV_tuple, nilCheckV_ptr, againK_normal, againK_exit, againK_ret, blockK_normal, blockK_same, blockK_ret, seqK_normal, seqK_exit, seqK_ret, fin_done, if_true', if_false', Bool.not_true, Bool.not_false, idx0, idx1, idx2, idx3, idx4, chk_nil_l, chk_nil_r, done_nm, up_cons, up_nil, cond_true, cond_false, Nat.reduceBEq]
            refine nx _ al ?_ ?_ ?_ ?_ ?_ ?_
            · first | rfl | exact Aa | exact Ab | exact Ac | exact Ad | exact Ai | exact Aj
            · first | rfl | exact Aa | exact Ab | exact Ac | exact Ad | exact Ai | exact Aj
            · first | rfl | exact Aa | exact Ab | exact Ac | exact Ad | exact Ai | exact Aj
            · first | rfl | exact Aa | exact Ab | exact Ac | exact Ad | exact Ai | exact Aj
            · first | rfl | exact Aa | exact Ab | exact Ac | exact Ad | exact Ai | exact Aj
            · first | rfl | exact Aa | exact Ab | exact Ac | exact Ad | exact Ai | exact Aj
          · have d3 : ¬ (a : Int) > 0 := by omega
            rw [lk]
            simp -implicitDefEqProofs (disch := omega) only [↓c93_1_eq,Aa,Ab,Ac,Ad,Ai,Aj, w0, w1, w2, w3, d1, d4, ht, ev1, ev2, ev3, u8, c1, c2, c3, bl, br, decide_true, decide_false, c1, d3, ↓cnd_true, ↓cnd_false, ↓Option.bind_some, ↓obH_some', bin_add, bin_sub, bin_mul, bin_lss, bin_leq, bin_gtr, bin_geq, bin_eql, bin_neq, un_not, un_neg, Option.bind_some, Option.bind_none, Option.map_some, cnd_true, cnd_false, pickV_true, pickV_false, gd_true, gd_false, gdV_true, gdV_false, gdH_true, gdH_false, gdS_true, gdS_false, wt_ff, wt_tt, wt_ft, wt_tf, wt_undef, obH_some', extractV_tuple, nilCheckV_ptr, againK_normal, againK_exit, againK_ret, blockK_normal, blockK_same, blockK_ret, seqK_normal, seqK_exit, seqK_ret, fin_done, if_true', if_false', Bool.not_true, Bool.not_false, idx0, idx1, idx2, idx3, idx4, chk_nil_l, chk_nil_r, done_nm, up_cons, up_nil, cond_true, cond_false, Nat.reduceBEq]
            refine nx _ al ?_ ?_ ?_ ?_ ?_ ?_
            · first | rfl | exact Aa | exact Ab | exact Ac | exact Ad | exact Ai | exact Aj
            · first | rfl | exact Aa | exact Ab | exact Ac | exact Ad | exact Ai | exact Aj
            · first | rfl | exact Aa | exact Ab | exact Ac | exact Ad | exact Ai | exact Aj
            · first | rfl | exact Aa | exact Ab | exact Ac | exact Ad | exact Ai | exact Aj
            · first | rfl | exact Aa | exact Ab | exact Ac | exact Ad | exact Ai | exact Aj
            · first | rfl | exact Aa | exact Ab | exact Ac | exact Ad | exact Ai | exact Aj
      · cases w
        · have vv := 0
          by_cases a0 : 0 < a
          · have d3 : (a : Int) > 0 := by omega
            have i1 := iaS p n c (a - 1) (by omega)
            have i2 := iaS p n c r (by omega)
            have l1 := hm1.at (i := a - 1) (by omega)
            have l2 := hm1.at (i := r) (by omega)
            have w4 := ws a (by omega) (by omega)
            have lt : gt0 m (a - 1) < gt0 m r := by
              have := nodup_lt mnd (i := a - 1) (j := r) (by omega) (by omega) (by omega)
              have := o (a - 1) r (by omega) (by omega) (.inl (by omega))
              omega
            have el := fun h => spec_Less (gt0 m (a - 1)) (gt0 m r) h
            rw [lk]
            simp -implicitDefEqProofs (disch := omega) only [↓c93_1_eq,Aa,Ab,Ac,Ad,Ai,Aj, w0, w1, w2, w3, d1, d4, ht, ev1, ev2, ev3, u8, c1, c2, c3, bl, br, decide_true, decide_false, c1, d3, i1, i2, vld64, l1, l2, w4, lt, el, ↓cnd_true, ↓cnd_false, ↓Option.bind_some, ↓obH_some', bin_add, bin_sub, bin_mul, bin_lss, bin_leq, bin_gtr, bin_geq, bin_eql, bin_neq, un_not, un_neg, Option.bind_some, Option.bind_none, Option.map_some, cnd_true, cnd_false, pickV_true, pickV_false, gd_true, gd_false, gdV_true, gdV_false, gdH_true, gdH_false, gdS_true, gdS_false, wt_ff, wt_tt, wt_ft, wt_tf, wt_undef, obH_some', extractV_tuple, nilCheckV_ptr, againK_normal, againK_exit, againK_ret, blockK_normal, blockK_same, blockK_ret, seqK_normal, seqK_exit, seqK_ret, fin_done, if_true', if_false', Bool.not_true, Bool.not_false, idx0, idx1, idx2, idx3, idx4, chk_nil_l, chk_nil_r, done_nm, up_cons, up_nil, cond_true, cond_false, Nat.reduceBEq]
            refine nx _ al ?_ ?_ ?_ ?_ ?_ ?_
            · first | rfl | exact Aa | exact Ab | exact Ac | exact Ad | exact Ai | exact Aj
            · first | rfl | exact Aa | exact Ab | exact Ac | exact Ad | exact Ai | exact Aj
            · first | rfl | exact Aa | exact Ab | exact Ac | exact Ad | exact Ai | exact Aj
            · first | rfl | exact Aa | exact Ab | exact Ac | exact Ad | exact Ai | exact Aj
            · first | rfl | exact Aa | exact Ab | exact Ac | exact Ad | exact Ai | exact Aj
            · first | rfl | exact Aa | exact Ab | exact Ac | exact Ad | exact Ai | exact Aj
          · have d3 : ¬ (a : Int) > 0 := by omega
            rw [lk]
            simp -implicitDefEqProofs (disch := omega) only [↓c93_1_eq,Aa,Ab,Ac,Ad,Ai,Aj, w0, w1, w2, w3, d1, d4, ht, ev1, ev2, ev3, u8, c1, c2, c3, bl, br, decide_true, decide_false, c1, d3, ↓cnd_true, ↓cnd_false, ↓Option.bind_some, ↓obH_some', bin_add, bin_sub, bin_mul, bin_lss, bin_leq, bin_gtr, bin_geq, bin_eql, bin_neq, un_not, un_neg, Option.bind_some, Option.bind_none, Option.map_some, cnd_true, cnd_false, pickV_true, pickV_false, gd_true, gd_false, gdV_true, gdV_false, gdH_true, gdH_false, gdS_true, gdS_false, wt_ff, wt_tt, wt_ft, wt_tf, wt_undef, obH_some', extractV_tuple, nilCheckV_ptr, againK_normal, againK_exit, againK_ret, blockK_normal, blockK_same, blockK_ret, seqK_normal, seqK_exit, seqK_ret, fin_done, if_true', if_false', Bool.not_true, Bool.not_false, idx0, idx1, idx2, idx3, idx4, chk_nil_l, chk_nil_r, done_nm, up_cons, up_nil, cond_true, cond_false, Nat.reduceBEq]
            refine nx _ al ?_ ?_ ?_ ?_ ?_ ?_
            · first | rfl | exact Aa | exact Ab | exact Ac | exact Ad | exact Ai | exact Aj
            · first | rfl | exact Aa | exact Ab | exact Ac | exact Ad | exact Ai | exact Aj
            · first | rfl | exact Aa | exact Ab | exact Ac | exact Ad | exact Ai | exact Aj
            · first | rfl | exact Aa | exact Ab | exact Ac | exact Ad | exact Ai | exact Aj
            · first | rfl | exact Aa | exact Ab | exact Ac | exact Ad | exact Ai | exact Aj
            · first | rfl | exact Aa | exact Ab | exact Ac | exact Ad | exact Ai | exact Aj
        · obtain ⟨rr, ev4, hr⟩ := spec_pin (c := c) hm1 ml (by omega) (a := a) (b := b) (by omega) hbn (by omega)
          cases rr
          · have vv := 0
            by_cases a0 : 0 < a
            · have d3 : (a : Int) > 0 := by omega
              have i1 := iaS p n c (a - 1) (by omega)
              have i2 := iaS p n c r (by omega)
              have l1 := hm1.at (i := a - 1) (by omega)
              have l2 := hm1.at (i := r) (by omega)
              have w4 := ws a (by omega) (by omega)
              have lt : gt0 m (a - 1) < gt0 m r := by
                have := nodup_lt mnd (i := a - 1) (j := r) (by omega) (by omega) (by omega)
                have := o (a - 1) r (by omega) (by omega) (.inl (by omega))
                omega
              have el := fun h => spec_Less (gt0 m (a - 1)) (gt0 m r) h
              rw [lk]
              simp -implicitDefEqProofs (disch := omega) only [↓c93_1_eq,Aa,Ab,Ac,Ad,Ai,Aj, w0, w1, w2, w3, d1, d4, ht, ev1, ev2, ev3, u8, c1, c2, c3, bl, br, decide_true, decide_false, ev4, d3, i1, i2, vld64, l1, l2, w4, lt, el, ↓cnd_true, ↓cnd_false, ↓Option.bind_some, ↓obH_some', bin_add, bin_sub, bin_mul, bin_lss, bin_leq, bin_gtr, bin_geq, bin_eql, bin_neq, un_not, un_neg, Option.bind_some, Option.bind_none, Option.map_some, cnd_true, cnd_false, pickV_true, pickV_false, gd_true, gd_false, gdV_true, gdV_false, gdH_true, gdH_false, gdS_true, gdS_false, wt_ff, wt_tt, wt_ft, wt_tf, wt_undef, obH_some', extractV_tuple, nilCheckV_ptr, againK_normal, againK_exit, againK_ret, blockK_normal, blockK_same, blockK_ret, seqK_normal, seqK_exit, seqK_ret, fin_done, if_true', if_false', Bool.not_true, Bool.not_false, idx0, idx1, idx2, idx3, idx4, chk_nil_l, chk_nil_r, done_nm, up_cons, up_nil, cond_true, cond_false, Nat.reduceBEq]
              refine nx _ al ?_ ?_ ?_ ?_ ?_ ?_
              · first | rfl | exact Aa | exact Ab | exact Ac | exact Ad | exact Ai | exact Aj
              · first | rfl | exact Aa | exact Ab | exact Ac | exact Ad | exact Ai | exact Aj
              · first | rfl | exact Aa | exact Ab | exact Ac | exact Ad | exact Ai | exact Aj
              · first | rfl | exact Aa | exact Ab | exact Ac | exact Ad | exact Ai | exact Aj
              · first | rfl | exact Aa | exact Ab | exact Ac | exact Ad | exact Ai | exact Aj
              · first | rfl | exact Aa | exact Ab | exact Ac | exact Ad | exact Ai | exact Aj
            · have d3 : ¬ (a : Int) > 0 := by omega
              rw [lk]
              simp -implicitDefEqProofs (disch := omega) only [↓c93_1_eq,Aa,Ab,Ac,Ad,Ai,Aj, w0, w1, w2, w3, d1, d4, ht, ev1, ev2, ev3, u8, c1, c2, c3, bl, br, decide_true, decide_false, ev4, d3, ↓cnd_true, ↓cnd_false, ↓Option.bind_some, ↓obH_some', bin_add, bin_sub, bin_mul, bin_lss, bin_leq, bin_gtr, bin_geq, bin_eql, bin_neq, un_not, un_neg, Option.bind_some, Option.bind_none, Option.map_some, cnd_true, cnd_false, pickV_true, pickV_false, gd_true, gd_false, gdV_true, gdV_false, gdH_true, gdH_false, gdS_true, gdS_false, wt_ff, wt_tt, wt_ft, wt_tf, wt_undef, obH_some', extractV_tuple, nilCheckV_ptr, againK_normal, againK_exit, againK_ret, blockK_normal, blockK_same, blockK_ret, seqK_normal, seqK_exit, seqK_ret, fin_done, if_true', if_false', Bool.not_true, Bool.not_false, idx0, idx1, idx2, idx3, idx4, chk_nil_l, chk_nil_r, done_nm, up_cons, up_nil, cond_true, cond_false, Nat.reduceBEq]
              refine nx _ al ?_ ?_ ?_ ?_ ?_ ?_
              · first | rfl | exact Aa | exact Ab | exact Ac | exact Ad | exact Ai | exact Aj
              · first | rfl | exact Aa | exact Ab | exact Ac | exact Ad | exact Ai | exact Aj
              · first | rfl | exact Aa | exact Ab | exact Ac | exact Ad | exact Ai | exact Aj
              · first | rfl | exact Aa | exact Ab | exact Ac | exact Ad | exact Ai | exact Aj
              · first | rfl | exact Aa | exact Ab | exact Ac | exact Ad | exact Ai | exact Aj
              · first | rfl | exact Aa | exact Ab | exact Ac | exact Ad | exact Ai | exact Aj
          · have q := fin1 (hr rfl)
            rw [lk]
            simp -implicitDefEqProofs (disch := omega) only [↓c93_1_eq,Aa,Ab,Ac,Ad,Ai,Aj, w0, w1, w2, w3, d1, d4, ht, ev1, ev2, ev3, u8, c1, c2, c3, bl, br, decide_true, decide_false, ev4, ↓ret93, ↓cnd_true, ↓cnd_false, ↓Option.bind_some, ↓obH_some', bin_add, bin_sub, bin_mul, bin_lss, bin_leq, bin_gtr, bin_geq, bin_eql, bin_neq, un_not, un_neg, Option.bind_some, Option.bind_none, Option.map_some, cnd_true, cnd_false, pickV_true, pickV_false, gd_true, gd_false, gdV_true, gdV_false, gdH_true, gdH_false, gdS_true, gdS_false, wt_ff, wt_tt, wt_ft, wt_tf, wt_undef, obH_some', extractV_tuple, nilCheckV_ptr, againK_normal, againK_exit, againK_ret, blockK_normal, blockK_same, blockK_ret, seqK_normal, seqK_exit, seqK_ret, fin_done, if_true', if_false', Bool.not_true, Bool.not_false, idx0, idx1, idx2, idx3, idx4, chk_nil_l, chk_nil_r, done_nm, up_cons, up_nil, cond_true, cond_false, Nat.reduceBEq]
            exact q
theorem spec_Sort {h : Heap} {l : List Nat} (hm : NR h p l) (hl : l.length = n) (h0 : n ≠ 0) (hn : n ≤ 15) (nd : l.Nodup) :
    SQ p n h l (evC Tryd.prog 89 #[sv p n c] h) := by
  have key : ∀ t : Int, t ≠ 0 → SQ p n (nm h) l (evC Tryd.prog 93 #[sv p n c, .int .i64 0, .int .i64 n, .int .i64 t] (nm h)) := by
    intro t ht
    rw [call93]
    simp -implicitDefEqProofs (disch := omega) only [↓c93_0_eq, ↓cnd_true, ↓cnd_false, ↓Option.bind_some, ↓obH_some', bin_add, bin_sub, bin_mul, bin_lss, bin_leq, bin_gtr, bin_geq, bin_eql, bin_neq, un_not, un_neg, Option.bind_some, Option.bind_none, Option.map_some, cnd_true, cnd_false, pickV_true, pickV_false, gd_true, gd_false, gdV_true, gdV_false, gdH_true, gdH_false, gdS_true, gdS_false, wt_ff, wt_tt, wt_ft, wt_tf, wt_undef, obH_some', extractV_tuple, nilCheckV_ptr, againK_normal, againK_exit, againK_ret, blockK_normal, blockK_same, blockK_ret, seqK_normal, seqK_exit, seqK_ret, fin_done, if_true', if_false', Bool.not_true, Bool.not_false, idx0, idx1, idx2, idx3, idx4, chk_nil_l, chk_nil_r, done_nm, up_cons, up_nil, cond_true, cond_false, Nat.reduceBEq]
    refine pdq_loop (c := c) hl hn nd n 0 n (Nat.le_refl _) (Nat.zero_le _) (Nat.le_refl _) _ (nm (nm h)) l true t (In.refl (Nat.le_refl (nm h).blks.length)) (Nat.le_refl (nm h).blks.length) hm.nm.nm (.start n l) (.refl l) ?_ ?_ ?_ ?_ ht ?_ ?_
    all_goals rfl
  rw [call89]
  obtain ⟨m, e1, e2⟩ := spec_Len n hn (nm h)
  obtain ⟨h', m', g1, g2, g3, g4, g5⟩ := key m (e2 h0)
  have lnS : lenV Tryd.prog 102 (sv p n c) (nm h) = some (.int .i64 n) := by
    have hu : Tryd.prog.underlying 102 = some (.slice 29) := by kernel_rfl
    unfold lenV; rw [hu]
  have cv1 : convV Tryd.prog 3 79 (.int .i64 n) (nm h) = some (.int .u64 n, nm h) := conv_u64 (ks := .i64) (by kernel_rfl) (by kernel_rfl) _ _ _ (by omega) (by omega)
  refine ⟨done h h', m', ?_, done_mod (g2.inn (Nat.le_refl h.blks.length) (fun _ _ x => x)), g3.done, g4, g5⟩
  simp -implicitDefEqProofs (disch := omega) only [↓c89_0_eq, lnS, cv1, e1, g1, retN, am_nm, nm_mods, List.nil_append, List.append_nil, ret89, ↓cnd_true, ↓cnd_false, ↓Option.bind_some, ↓obH_some', bin_add, bin_sub, bin_mul, bin_lss, bin_leq, bin_gtr, bin_geq, bin_eql, bin_neq, un_not, un_neg, Option.bind_some, Option.bind_none, Option.map_some, cnd_true, cnd_false, pickV_true, pickV_false, gd_true, gd_false, gdV_true, gdV_false, gdH_true, gdH_false, gdS_true, gdS_false, wt_ff, wt_tt, wt_ft, wt_tf, wt_undef, obH_some', extractV_tuple, nilCheckV_ptr, againK_normal, againK_exit, againK_ret, blockK_normal, blockK_same, blockK_ret, seqK_normal, seqK_exit, seqK_ret, fin_done, if_true', if_false', Bool.not_true, Bool.not_false, idx0, idx1, idx2, idx3, idx4, chk_nil_l, chk_nil_r, done_nm, up_cons, up_nil, cond_true, cond_false, Nat.reduceBEq]
end
end Go.Am.Z
namespace Go.Am.Z
open Go.Proofs Go.RowKit
set_option maxRecDepth 100000
set_option linter.all false
section
attribute [local instance] xt0 gl0
attribute [local instance] xm0 xo0
attribute [local congr] obind_congr obH_congr cnd_congr chk_congr retK_congr codeK_congr
theorem ins_nil (v : Value) (h : Heap) : evC Tryd.prog 95 #[v, .int .i64 0, .int .i64 0] h = some (.tuple #[], h) := by
  rw [call95]
  have w1 : IntKind.i64.wrap (0 + 1) = 1 := rfl
  have d1 : ¬ (1 : Int) < 0 := by omega
  simp -implicitDefEqProofs (disch := omega) only [↓c95_0_eq, w1, ↓cnd_true, ↓cnd_false, ↓Option.bind_some, ↓obH_some', bin_add, bin_sub, bin_mul, bin_lss, bin_leq, bin_gtr, bin_geq, bin_eql, bin_neq, un_not, un_neg, Option.bind_some, Option.bind_none, Option.map_some, cnd_true, cnd_false, pickV_true, pickV_false, gd_true, gd_false, gdV_true, gdV_false, gdH_true, gdH_false, gdS_true, gdS_false, wt_ff, wt_tt, wt_ft, wt_tf, wt_undef, obH_some', extractV_tuple, nilCheckV_ptr, againK_normal, againK_exit, againK_ret, blockK_normal, blockK_same, blockK_ret, seqK_normal, seqK_exit, seqK_ret, fin_done, if_true', if_false', Bool.not_true, Bool.not_false, idx0, idx1, idx2, idx3, idx4, chk_nil_l, chk_nil_r, done_nm, up_cons, up_nil, cond_true, cond_false, Nat.reduceBEq]
  rw [lK_eq]
  simp -implicitDefEqProofs (disch := omega) only [↓c95_1_eq, d1, decide_false, retN, ret95, ↓cnd_true, ↓cnd_false, ↓Option.bind_some, ↓obH_some', bin_add, bin_sub, bin_mul, bin_lss, bin_leq, bin_gtr, bin_geq, bin_eql, bin_neq, un_not, un_neg, Option.bind_some, Option.bind_none, Option.map_some, cnd_true, cnd_false, pickV_true, pickV_false, gd_true, gd_false, gdV_true, gdV_false, gdH_true, gdH_false, gdS_true, gdS_false, wt_ff, wt_tt, wt_ft, wt_tf, wt_undef, obH_some', extractV_tuple, nilCheckV_ptr, againK_normal, againK_exit, againK_ret, blockK_normal, blockK_same, blockK_ret, seqK_normal, seqK_exit, seqK_ret, fin_done, if_true', if_false', Bool.not_true, Bool.not_false, idx0, idx1, idx2, idx3, idx4, chk_nil_l, chk_nil_r, done_nm, up_cons, up_nil, cond_true, cond_false, Nat.reduceBEq]
theorem pdq_nil (v : Value) (t : Int) (h : Heap) : evC Tryd.prog 93 #[v, .int .i64 0, .int .i64 0, .int .i64 t] h = some (.tuple #[], h) := by
  rw [call93]
  have w1 : IntKind.i64.wrap (0 - 0) = 0 := rfl
  have d1 : (0 : Int) ≤ 12 := by omega
  simp -implicitDefEqProofs (disch := omega) only [↓c93_0_eq, ↓cnd_true, ↓cnd_false, ↓Option.bind_some, ↓obH_some', bin_add, bin_sub, bin_mul, bin_lss, bin_leq, bin_gtr, bin_geq, bin_eql, bin_neq, un_not, un_neg, Option.bind_some, Option.bind_none, Option.map_some, cnd_true, cnd_false, pickV_true, pickV_false, gd_true, gd_false, gdV_true, gdV_false, gdH_true, gdH_false, gdS_true, gdS_false, wt_ff, wt_tt, wt_ft, wt_tf, wt_undef, obH_some', extractV_tuple, nilCheckV_ptr, againK_normal, againK_exit, againK_ret, blockK_normal, blockK_same, blockK_ret, seqK_normal, seqK_exit, seqK_ret, fin_done, if_true', if_false', Bool.not_true, Bool.not_false, idx0, idx1, idx2, idx3, idx4, chk_nil_l, chk_nil_r, done_nm, up_cons, up_nil, cond_true, cond_false, Nat.reduceBEq]
  rw [lK_eq]
  simp -implicitDefEqProofs (disch := omega) only [↓c93_1_eq, w1, d1, ins_nil, decide_true, ↓ret93, am_nm, nm_mods, List.nil_append, List.append_nil, ↓cnd_true, ↓cnd_false, ↓Option.bind_some, ↓obH_some', bin_add, bin_sub, bin_mul, bin_lss, bin_leq, bin_gtr, bin_geq, bin_eql, bin_neq, un_not, un_neg, Option.bind_some, Option.bind_none, Option.map_some, cnd_true, cnd_false, pickV_true, pickV_false, gd_true, gd_false, gdV_true, gdV_false, gdH_true, gdH_false, gdS_true, gdS_false, wt_ff, wt_tt, wt_ft, wt_tf, wt_undef, obH_some', extractV_tuple, nilCheckV_ptr, againK_normal, againK_exit, againK_ret, blockK_normal, blockK_same, blockK_ret, seqK_normal, seqK_exit, seqK_ret, fin_done, if_true', if_false', Bool.not_true, Bool.not_false, idx0, idx1, idx2, idx3, idx4, chk_nil_l, chk_nil_r, done_nm, up_cons, up_nil, cond_true, cond_false, Nat.reduceBEq]
theorem sort_nil (h : Heap) : evC Tryd.prog 89 #[.slice none 0 0] h = some (.tuple #[], h) := by
  rw [call89]
  obtain ⟨m, e1, _⟩ := spec_Len 0 (by omega) (nm h)
  have lnS : lenV Tryd.prog 102 (.slice none 0 0) (nm h) = some (.int .i64 0) := by kernel_rfl
  have cv1 : convV Tryd.prog 3 79 (.int .i64 0) (nm h) = some (.int .u64 0, nm h) := conv_u64 (ks := .i64) (by kernel_rfl) (by kernel_rfl) _ _ _ (by omega) (by omega)
  simp -implicitDefEqProofs (disch := omega) only [↓c89_0_eq, lnS, cv1, show ((0 : Nat) : Int) = 0 from rfl, show evC Tryd.prog 94 #[.int .u64 0] (nm h) = some (.int .i64 m, nm h) from e1, pdq_nil, retN, am_nm, nm_mods, List.nil_append, List.append_nil, ret89, ↓cnd_true, ↓cnd_false, ↓Option.bind_some, ↓obH_some', bin_add, bin_sub, bin_mul, bin_lss, bin_leq, bin_gtr, bin_geq, bin_eql, bin_neq, un_not, un_neg, Option.bind_some, Option.bind_none, Option.map_some, cnd_true, cnd_false, pickV_true, pickV_false, gd_true, gd_false, gdV_true, gdV_false, gdH_true, gdH_false, gdS_true, gdS_false, wt_ff, wt_tt, wt_ft, wt_tf, wt_undef, obH_some', extractV_tuple, nilCheckV_ptr, againK_normal, againK_exit, againK_ret, blockK_normal, blockK_same, blockK_ret, seqK_normal, seqK_exit, seqK_ret, fin_done, if_true', if_false', Bool.not_true, Bool.not_false, idx0, idx1, idx2, idx3, idx4, chk_nil_l, chk_nil_r, done_nm, up_cons, up_nil, cond_true, cond_false, Nat.reduceBEq]
theorem mixedS : Tryd.prog.follows .mixedOrders = true := by kernel_rfl
theorem does_nil (W : World) : Calls Tryd.prog fSo #[.slice none 0 0] W fun e W' => e = .returned (.tuple #[]) ∧ Below W.heap.size W W' := by
  have hA : ARel noE #[.slice none 0 0] #[.slice none 0 0] := ⟨rfl, fun i h1 h2 => by
    have : i = 0 := by simp at h1; omega
    subst this; exact .sliceNil⟩
  refine (evC_sound mixedS W.heap.size fSo #[.slice none 0 0] ⟨[], []⟩ _ _ noE W _ (sort_nil _) (rel_none _ (GlobW.none rfl _ _)) hA (fun b _ _ => rfl)).mono ?_
  rintro e W' ⟨v', E', rfl, h2, h3⟩
  obtain rfl : v' = .tuple #[] := h3.ground_eq (by simp [ground])
  exact ⟨rfl, h2.fr.os, h2.fr.tape, h2.fr.output, h2.fr.size, fun k hk => h2.fr.blk k hk fun ⟨b, kk, l, _, h1, _⟩ => by cases h1⟩
theorem srt_merge {n : Nat} {l m : List Nat} (hs : Srt 0 n m) (sw : Sw 0 n l m) (hl : l.length = n) : m = l.mergeSort := by
  have ml : m.length = n := by rw [sw.len, hl]
  subst ml
  have tr : ∀ a b c : Nat, decide (a ≤ b) = true → decide (b ≤ c) = true → decide (a ≤ c) = true := fun a b c h1 h2 => by simp at *; omega
  have to : ∀ a b : Nat, (decide (a ≤ b) || decide (b ≤ a)) = true := fun a b => by simp; omega
  refine List.Perm.eq_of_pairwise (le := fun a b => decide (a ≤ b) = true) (fun a b _ _ h1 h2 => ?_) (hs.sorted.imp fun h => by simpa using h) (List.pairwise_mergeSort tr to l) (sw.perm.trans (List.mergeSort_perm l _).symm)
  simp at h1 h2; omega
theorem does_row (W : World) (g cap : Nat) (cur : Array Value) (ns : List Nat) (hg : W.heap[g]? = some (.cells cur 29 (0, 0))) (h1 : ns.length ≤ cap) (h2 : cap ≤ maxLen) (h3 : cur.size = cap) (h4 : cur.toList.take ns.length = ns.map (fun n : Nat => kU (Int.ofNat n)))
    (hp : 1 ≤ ns.length) (h15 : ns.length ≤ 15) (nd : ns.Nodup) :
    Calls Tryd.prog fSo #[.slice (some ⟨g, 0, none⟩) ns.length cap] W fun e W' => e = .returned (.tuple #[]) ∧ SoAt W' g cap ns ∧ But g W W' := by
  have hlt : g < W.heap.size := (Array.getElem?_eq_some_iff.1 hg).1
  let E : Env := fun b => if b = 0 then some ⟨g, 0, cap, 1⟩ else none
  let hh : Heap := ⟨[⟨.cells (ns.map natV), 29, true⟩], []⟩
  have e0 : E 0 = some ⟨g, 0, cap, 1⟩ := rfl
  have eo : ∀ b l, E b = some l → b = 0 ∧ l = ⟨g, 0, cap, 1⟩ := fun b l h => by
    show b = 0 ∧ _
    by_cases hb : b = 0
    · subst hb; rw [e0] at h; cases h; exact ⟨rfl, rfl⟩
    · have : E b = none := if_neg hb
      rw [this] at h; cases h
  have hsz : sizeT Tryd.prog 29 = some 1 := by kernel_rfl
  have hk0 : ∀ b k, hh.blks[b]? = some k → b = 0 ∧ k = ⟨.cells (ns.map natV), 29, true⟩ := fun b k h => by
    match b, h with
    | 0, h => cases h; exact ⟨rfl, rfl⟩
    | b + 1, h => cases h
  have hcell : ∀ (i : Nat) v, (ns.map natV)[i]? = some v → W.cell? ⟨g, i, none⟩ = some v := fun i v hv => by
    obtain ⟨hi, _⟩ := List.getElem?_eq_some_iff.1 hv
    rw [List.length_map] at hi
    have : (cur.toList.take ns.length)[i]? = some v := by rw [h4]; exact hv
    rw [List.getElem?_take, if_pos hi] at this
    simp only [World.cell?, hg]
    simpa using this
  have hR : Rel Tryd.prog 0 E hh W := by
    refine ⟨fun b k l hk hl => ?_, fun _ _ _ _ _ _ => Nat.zero_le _, fun b k l hk hl ho => ?_, fun b l hl => ?_, fun b b2 k k2 l l2 hk hk2 _ _ _ _ _ _ _ => ?_, GlobW.none rfl _ _, Nat.zero_le _⟩
    · obtain ⟨rfl, rfl⟩ := hk0 b k hk
      obtain ⟨_, rfl⟩ := eo _ _ hl
      refine ⟨hsz, fun i v hv => ⟨v, by rw [Nat.zero_add]; exact hcell i v hv, ?_⟩, fun _ => ⟨cur, _, 0, 0, hg, h3, hsz, .inl rfl⟩⟩
      rw [List.getElem?_map] at hv
      obtain ⟨x, _, rfl⟩ := Option.map_eq_some_iff.1 hv
      exact .int _ _
    · obtain ⟨rfl, rfl⟩ := hk0 b k hk
      cases ho
    · obtain ⟨_, rfl⟩ := eo _ _ hl
      exact hlt
    · rw [(hk0 b k hk).1, (hk0 b2 k2 hk2).1]
  obtain ⟨h', m, ev, _, hm, hs, sw⟩ := spec_Sort (p := 0) (n := ns.length) (c := UNK) (h := hh) (l := ns) (show Cells hh 0 29 (ns.map natV) from rfl) rfl (by omega) h15 nd
  have hA : ARel E #[sv 0 ns.length UNK] #[.slice (some ⟨g, 0, none⟩) ns.length cap] := ⟨rfl, fun i h1' h2' => by
    have : i = 0 := by simp at h1'; omega
    subst this
    have := VR.slice (E := E) (b := 0) (o := 0) (n := ns.length) (c := UNK) (c' := cap) e0 (.inl rfl) h1 (fun _ => by simp)
    simpa using this⟩
  have hfree : Free E hh h' := fun b hb _ => by
    have : b ≠ 0 := by have : hh.blks.length = 1 := rfl; omega
    exact if_neg this
  refine (evC_sound mixedS 0 fSo #[sv 0 ns.length UNK] hh _ _ E W _ ev hR hA hfree).mono ?_
  rintro e W' ⟨v', E', rfl, p, h3'⟩
  obtain rfl : v' = .tuple #[] := h3'.ground_eq (by simp [ground])
  have hb := p.rel.blk 0 _ _ hm (p.ext 0 _ e0)
  obtain ⟨_, b2, b3⟩ := hb
  obtain ⟨cs, e, lo, hi, q1, q2, _, q4⟩ := b3 rfl
  refine ⟨rfl, ⟨m, cs, e, lo, hi, srt_merge hs sw rfl, q1, q2, ?_, fun i v hv => ?_⟩, p.fr.os, p.fr.tape, p.fr.output, p.fr.size, fun k hk hne => p.fr.blk k hk fun ⟨b, kk, l, _, hl, _, _, hc⟩ => ?_⟩
  · rcases q4 with q | q
    · exact .inl q
    · exact .inr q.1
  · obtain ⟨v2, c1, c2⟩ := b2 i (natV v) (by rw [List.getElem?_map, hv]; rfl)
    rw [Nat.zero_add] at c1
    have : v2 = natV v := c2.ground_eq rfl
    rw [c1, this]; rfl
  · obtain ⟨_, rfl⟩ := eo _ _ hl
    exact hne hc.symm
theorem sort_does : SortDoes := ⟨does_nil, does_row⟩
end
end Go.Am.Z
