/- What the functions answer, in the machine. -/
import Derived.Test.YtclpkcampbhbdaaDoorKE
import Derived.Shelf.SlSortCmp.NoneTotal
import Derived.Shelf.Spec.TrailingZeros
set_option linter.all false
namespace Go.Proofs
open Go.Shelf
def srtLay_ren : Go.Shelf.Ren := ⟨fun | 6 => 73 | 15 => 88 | 14 => 87 | 28 => 102 | 29 => 103 | 20 => 94 | 21 => 95 | 22 => 96 | 23 => 97 | 24 => 98 | 25 => 99 | 26 => 100 | 27 => 101 | 46 => 105 | 47 => 106 | 48 => 107 | 49 => 108 | 50 => 109 | 57 => 110 | n => n, fun | 22 => 63 | 24 => 68 | 25 => 118 | 3 => 3 | 39 => 57 | 0 => 0 | 53 => 169 | 55 => 23 | 4 => 4 | 46 => 163 | 45 => 162 | 50 => 45 | 5 => 5 | 9 => 9 | 66 => 171 | 70 => 175 | 76 => 177 | 77 => 178 | n => n, fun | n => n⟩
theorem srtLay : Go.Proofs.SlLaysF0.n6 Tryd.prog srtLay_ren := { mixed := by kernel_rfl, f6 := ⟨"slices.SortFunc[[]shoal/trim.Entry,shoal/trim.Entry]", by decide, Tryd.func73.trans (congrArg some (by kernel_rfl))⟩, f14 := ⟨"slices.pdqsortCmpFunc[shoal/trim.Entry]", by decide, Tryd.func87.trans (congrArg some (by kernel_rfl))⟩, f15 := Tryd.func88.trans (congrArg some (by kernel_rfl)), f20 := ⟨"slices.insertionSortCmpFunc[shoal/trim.Entry]", by decide, Tryd.func94.trans (congrArg some (by kernel_rfl))⟩, f21 := ⟨"slices.heapSortCmpFunc[shoal/trim.Entry]", by decide, Tryd.func95.trans (congrArg some (by kernel_rfl))⟩, f22 := ⟨"slices.breakPatternsCmpFunc[shoal/trim.Entry]", by decide, Tryd.func96.trans (congrArg some (by kernel_rfl))⟩, f23 := ⟨"slices.choosePivotCmpFunc[shoal/trim.Entry]", by decide, Tryd.func97.trans (congrArg some (by kernel_rfl))⟩, f24 := ⟨"slices.reverseRangeCmpFunc[shoal/trim.Entry]", by decide, Tryd.func98.trans (congrArg some (by kernel_rfl))⟩, f25 := ⟨"slices.partialInsertionSortCmpFunc[shoal/trim.Entry]", by decide, Tryd.func99.trans (congrArg some (by kernel_rfl))⟩, f26 := ⟨"slices.partitionEqualCmpFunc[shoal/trim.Entry]", by decide, Tryd.func100.trans (congrArg some (by kernel_rfl))⟩, f27 := ⟨"slices.partitionCmpFunc[shoal/trim.Entry]", by decide, Tryd.func101.trans (congrArg some (by kernel_rfl))⟩, f28 := Tryd.func102.trans (congrArg some (by kernel_rfl)), f29 := Tryd.func103.trans (congrArg some (by kernel_rfl)), f46 := ⟨"slices.siftDownCmpFunc[shoal/trim.Entry]", by decide, Tryd.func105.trans (congrArg some (by kernel_rfl))⟩, f47 := Tryd.func106.trans (congrArg some (by kernel_rfl)), f48 := Tryd.func107.trans (congrArg some (by kernel_rfl)), f49 := ⟨"slices.medianAdjacentCmpFunc[shoal/trim.Entry]", by decide, Tryd.func108.trans (congrArg some (by kernel_rfl))⟩, f50 := ⟨"slices.medianCmpFunc[shoal/trim.Entry]", by decide, Tryd.func109.trans (congrArg some (by kernel_rfl))⟩, f57 := ⟨"slices.order2CmpFunc[shoal/trim.Entry]", by decide, Tryd.func110.trans (congrArg some (by kernel_rfl))⟩, t0 := Tryd.underlying0, a0 := Tryd.isAgg0, z0 := Tryd.sizeOf0, v0 := Tryd.zeroValue0, t3 := Tryd.underlying3, a3 := Tryd.isAgg3, z3 := Tryd.sizeOf3, v3 := Tryd.zeroValue3, t4 := Tryd.underlying4, a4 := Tryd.isAgg4, z4 := Tryd.sizeOf4, v4 := Tryd.zeroValue4, t5 := Tryd.underlying5, a5 := Tryd.isAgg5, z5 := Tryd.sizeOf5, v5 := Tryd.zeroValue5, t9 := Tryd.underlying9, a9 := Tryd.isAgg9, z9 := Tryd.sizeOf9, v9 := Tryd.zeroValue9, t22 := Tryd.underlying63, a22 := Tryd.isAgg63, z22 := Tryd.sizeOf63, v22 := Tryd.zeroValue63, t25 := Tryd.underlying118, a25 := Tryd.isAgg118, z25 := Tryd.sizeOf118, v25 := Tryd.zeroValue118, t39 := Tryd.underlying57, a39 := Tryd.isAgg57, z39 := Tryd.sizeOf57, v39 := Tryd.zeroValue57, t45 := Tryd.underlying162, a45 := Tryd.isAgg162, z45 := Tryd.sizeOf162, v45 := Tryd.zeroValue162, t46 := Tryd.underlying163, a46 := Tryd.isAgg163, z46 := Tryd.sizeOf163, v46 := Tryd.zeroValue163, t50 := Tryd.underlying45, a50 := Tryd.isAgg45, z50 := Tryd.sizeOf45, v50 := Tryd.zeroValue45, t53 := Tryd.underlying169, a53 := Tryd.isAgg169, z53 := Tryd.sizeOf169, v53 := Tryd.zeroValue169, t55 := Tryd.underlying23, a55 := Tryd.isAgg23, z55 := Tryd.sizeOf23, v55 := Tryd.zeroValue23, t66 := Tryd.underlying171, a66 := Tryd.isAgg171, z66 := Tryd.sizeOf171, v66 := Tryd.zeroValue171, t70 := Tryd.underlying175, a70 := Tryd.isAgg175, z70 := Tryd.sizeOf175, v70 := Tryd.zeroValue175, t76 := Tryd.underlying177, a76 := Tryd.isAgg177, z76 := Tryd.sizeOf177, v76 := Tryd.zeroValue177, t77 := Tryd.underlying178, a77 := Tryd.isAgg178, z77 := Tryd.sizeOf178, v77 := Tryd.zeroValue178 }
end Go.Proofs
namespace Go.Am
open Go.Proofs Go.Sort
set_option maxRecDepth 100000
set_option linter.all false
theorem mixedT : Tryd.prog.follows .mixedOrders = true := by kernel_rfl
theorem grown_of {h : Heap} {W W' : World} (fr : Fr noE h W W') : ∃ q os', W' = grow (W.drewN q) os' := by
  have hb : ∀ c, c < W.heap.size → W'.heap[c]? = W.heap[c]? := fun c hc => fr.blk c hc fun ⟨b, k, l, _, h1, _⟩ => by cases h1
  have ho := fr.os
  have ht := fr.tape
  have hu := fr.output
  have hs := fr.size
  have hd := fr.drawn
  obtain ⟨heap, tape, drawn, os, output⟩ := W
  obtain ⟨heap', tape', drawn', os', output'⟩ := W'
  simp only at ho ht hu hs hd hb
  subst ho ht hu
  refine ⟨drawn' - drawn, heap'.extract heap.size heap'.size, ?_⟩
  unfold grow World.drewN
  simp only
  congr 1
  · apply Array.ext_getElem?
    intro c
    rcases Nat.lt_or_ge c heap.size with h1 | h1
    · rw [Array.getElem?_append_left h1, ← hb c h1]
    · rw [Array.getElem?_append_right h1, Array.getElem?_extract]
      split
      · rename_i h2; rw [show heap.size + (c - heap.size) = c by omega]
      · rename_i h2; rw [Array.getElem?_eq_none (by omega)]
  · omega
theorem cmp_lays (blk off size : Nat) (w : World) : CmpLays Tryd.prog 55 #[] entC 3 cmpE blk off size w := fun m os dk _ x y => by
  obtain ⟨h', he, _⟩ := Z.spec_order x y ⟨[], []⟩
  have hA : ARel noE #[entV x, entV y] #[.agg (entC x).toArray, .agg (entC y).toArray] := ⟨rfl, fun i h1 h2 => by
    have : i = 0 ∨ i = 1 := by simp at h1; omega
    rcases this with rfl | rfl
    · exact VR.of_ground (v := entV x) (by simp [ground, entV, ground0])
    · exact VR.of_ground (v := entV y) (by simp [ground, entV, ground0])⟩
  rw [Array.append_empty]
  refine (@evC_sound _ Z.xt0 Z.gl0 Z.xo0 mixedT (sortWorldK entC 3 w blk off m dk os).heap.size 55 #[entV x, entV y] ⟨[], []⟩ _ h' noE _ _ he (@rel_none _ Z.gl0 _ (@GlobW.none _ Z.gl0 rfl _ _)) hA (fun b _ _ => rfl)).mono ?_
  rintro e W' ⟨v', E', h1, h2, h3⟩
  cases h3
  exact ⟨h1, grown_of (@Post.fr _ Z.gl0 _ _ _ _ _ _ _ h2)⟩
theorem swo : SWO (ltOf cmpE) := by
  have key : ∀ x y : E3, ltOf cmpE x y = decide (x.f < y.f ∨ x.f = y.f ∧ x.n < y.n) := fun x y => by
    unfold ltOf cmpE
    by_cases h1 : x.f < y.f
    · simp [h1]
    · by_cases h2 : y.f < x.f
      · have : ¬ (x.f = y.f) := by omega
        simp [h1, h2, this]
      · have : x.f = y.f := by omega
        by_cases h3 : x.n < y.n
        · simp [h1, h2, h3, this]
        · by_cases h4 : y.n < x.n <;> simp [h1, h2, h3, h4, this]
  constructor
  · intro x; rw [key]; simp
  · intro x y z h1 h2; rw [key] at *; simp at *; omega
  · intro x y z h1 h2; rw [key] at *; simp at *; omega
theorem flatK_ent (l : List E3) : (flatK entC 3 l.toArray).toList = entL l := by
  have key : ∀ (l : List E3) (t : Nat), t < l.length * 3 → (entC (l.getD (t / 3) default))[t % 3]! = (entL l)[t]! := by
    intro l
    induction l with
    | nil => intro t ht; simp at ht
    | cons e l ih =>
      intro t ht
      rcases Nat.lt_or_ge t 3 with h | h
      · have : t = 0 ∨ t = 1 ∨ t = 2 := by omega
        rcases this with rfl | rfl | rfl <;> rfl
      · obtain ⟨u, rfl⟩ : ∃ u, t = u + 3 := ⟨t - 3, by omega⟩
        rw [show (u + 3) / 3 = u / 3 + 1 by omega, show (u + 3) % 3 = u % 3 by omega]
        simp only [List.getD_cons_succ]
        rw [ih u (by simp at ht; omega)]
        rfl
  apply List.ext_getElem
  · simp [entL_len]
  · intro t h1 h2
    have ht : t < l.length * 3 := by rw [entL_len] at h2; exact h2
    have := key l t ht
    rw [getElem!_pos (entL l) t h2] at this
    rw [← this]
    simp only [flatK, Array.toList_map, Array.toList_range, List.getElem_map, List.getElem_range]
    congr 1
    simp [getElem!_def, List.getD_eq_getElem?_getD]
    cases l[t / 3]? <;> rfl
theorem setCells_sort {w : World} {blk off : Nat} {l : List E3} (hH : HoldsK entC 3 w blk off l.toArray) (d : Array E3) (hd : d.size = l.length) : w.setCells blk off (entL d.toList) = putRowK entC 3 w blk off d := by
  have e0 := putRow_self id w blk off _ hH
  have e1 := setCells_putRow w blk off (entL d.toList) 0 (flatK entC 3 l.toArray) (by rw [entL_len, size_flatK]; simp [hd])
  rw [e0, Nat.add_zero] at e1
  rw [e1]
  unfold putRowK
  congr 1
  refine ext_get! (by simp [hd]) fun t ht => ?_
  have ht' : t < (flatK entC 3 l.toArray).size := by simpa using ht
  have hlen : (entL d.toList).length = (flatK entC 3 l.toArray).size := by rw [entL_len, size_flatK]; simp [hd]
  rw [get_setMany _ _ _ _ ht', if_pos (by omega), Nat.sub_zero]
  have := flatK_ent d.toList
  simp only [Array.toArray_toList] at this
  rw [← this]
  simp [getElem!_def]
theorem Post.grown {P : Program} [Gl P] {base : Nat} {E : Env} {h h' : Heap} {w w1 : World} (p : Post P base E h w E h' w1) (os : Array Obj) : Post P base E h w E h' (grow w1 os) := by
  have hb : ∀ c, c < w1.heap.size → (grow w1 os).heap[c]? = w1.heap[c]? := fun c hc => by
    unfold grow
    exact Array.getElem?_append_left hc
  refine ⟨p.ext, p.dom, ⟨fun b k l hk hl => (p.rel.blk b k l hk hl).congr (Ext.refl _) (hb _ (p.rel.bnd b l hl)), p.rel.low, p.rel.ro, fun b l hl => ?_, p.rel.inj, p.rel.glob.keep (fun c hc => hb c (Nat.lt_of_lt_of_le hc p.rel.base)), ?_⟩, ⟨p.fr.os, p.fr.tape, p.fr.output, ?_, fun c hc hm => ?_, p.fr.drawn⟩, p.orig⟩
  · have := p.rel.bnd b l hl
    simp [grow]; omega
  · have := p.rel.base
    simp [grow]; omega
  · have := p.fr.size
    simp [grow]; omega
  · rw [hb c (Nat.lt_of_lt_of_le hc p.fr.size)]; exact p.fr.blk c hc hm
theorem Post.drewN {P : Program} [Gl P] {base : Nat} {E : Env} {h h' : Heap} {w w1 : World} (n : Nat) (p : Post P base E h (w.drewN n) E h' w1) : Post P base E h w E h' w1 :=
  ⟨p.ext, p.dom, p.rel, ⟨p.fr.os, p.fr.tape, p.fr.output, p.fr.size, p.fr.blk, Nat.le_trans (Nat.le_add_right _ _) p.fr.drawn⟩, p.orig⟩
theorem VR.func_inv {E : Env} {fn : Fn} {f c : Array Value} {x : Value} (h : VR E (.func fn f c) x) (hf : f.size = 0) (hc : c.size = 0) : x = .func fn #[] #[] := by
  cases h with
  | func h1 _ h2 _ =>
    rw [hf] at h1
    rw [hc] at h2
    congr 1
    · exact Array.eq_empty_of_size_eq_zero h1.symm
    · exact Array.eq_empty_of_size_eq_zero h2.symm
theorem enters_order : ∀ args w, (callFunc 55 args).run Tryd.prog w = .ok (.enter 55 args) w := enters_of Tryd.func55 (by kernel_rfl) rfl
theorem aggE : ∀ w, (isAgg 68).run Tryd.prog w = .ok true w := fun w => by simpa using run_isAggT (P := Tryd.prog) (t := 68) (b := true) (by kernel_rfl) w
theorem sizE : ∀ w, (Go.sizeOf 68).run Tryd.prog w = .ok 3 w := fun w => run_sizeT (P := Tryd.prog) (t := 68) (by kernel_rfl) w
theorem pdq_size (l : List E3) : (pdq (ltOf cmpE) l.toArray 0 l.toArray.size (Lib.bitLen l.toArray.size) true true).size = l.length := by
  have h := pdq_sorts (ltOf cmpE) swo l.toArray 0 l.toArray.size (Lib.bitLen l.toArray.size) true true (Nat.zero_le _) (Nat.le_refl _) (Or.inl rfl)
  rw [h.1.1]; simp
theorem sort_sound (base : Nat) (args : Array Value) (h : Heap) (v : Value) (h' : Heap) (E : Env) (w : World) (args' : Array Value) (hv : sortX 55 args h = some (v, h')) (hR : Rel Tryd.prog base E h w) (ha : ARel E args args') :
    Calls Tryd.prog 73 args' w fun e w' => ∃ v' E', e = .returned v' ∧ Post Tryd.prog base E h w E' h' w' ∧ VR E' v v' := by
  have two : ∀ x y, args.toList = [x, y] → ∃ x' y', args' = #[x', y'] ∧ VR E x x' ∧ VR E y y' := fun x y he => by
    have hl := ha.list
    rw [he] at hl
    obtain ⟨x', h1, r1⟩ := hl.2 0 x rfl
    obtain ⟨y', h2, r2⟩ := hl.2 1 y rfl
    have h3 := hl.1
    refine ⟨x', y', ?_, r1, r2⟩
    obtain ⟨l⟩ := args'
    match l, h3, h1, h2 with
    | [a, b], _, h1, h2 => cases h1; cases h2; rfl
  unfold sortX at hv
  split at hv
  · rename_i ad n c f x y he
    split at hv
    · rename_i hc
      obtain ⟨rfl, hx, hy, hn2⟩ := hc
      split at hv
      · rename_i hn0
        subst hn0
        cases hv
        obtain ⟨x', y', rfl, r1, r2⟩ := two _ _ he
        rw [r2.func_inv hx hy]
        have : ∃ p' c', x' = .slice p' 0 c' := by cases r1 <;> exact ⟨_, _, rfl⟩
        obtain ⟨p', c', rfl⟩ := this
        exact (AnyF.slices_SortFunc_none srtLay p' c' _ w).mono fun e w' ⟨h1, h2⟩ => ⟨_, E, h1, by rw [h2]; exact Post.refl hR, VR.undef⟩
      · rename_i hn0
        have hn : 0 < n := Nat.pos_of_ne_zero hn0
        split at hv
        · rename_i b o
          split at hv
          · rename_i cs hcs
            split at hv
            · rename_i l hl
              obtain ⟨h1, hs, hq⟩ := Option.map_eq_some_iff.1 hv
              cases hq
              obtain ⟨x', y', rfl, r1, r2⟩ := two _ _ he
              rw [r2.func_inv hx hy]
              have hcse := e3Of_inv _ _ hl
              subst hcse
              have hlen := loadN_len hcs
              rw [entL_len] at hlen
              have hln : l.length = n := by omega
              cases r1 with
              | sliceEmpty => omega
              | @slice _ _ _ _ c' l0 hE _ _ _ =>
                have hst : ∃ cs0 ty, h.blks[b]? = some ⟨.cells cs0, ty, true⟩ ∧ o + n * 3 ≤ cs0.length := by
                  unfold Heap.storeN at hs
                  split at hs
                  · rename_i cs0 ty hk
                    refine ⟨cs0, ty, hk, ?_⟩
                    unfold Heap.loadN Heap.cells? at hcs
                    rw [hk] at hcs
                    simp only at hcs
                    split at hcs
                    · assumption
                    · cases hcs
                  · cases hs
                obtain ⟨cs0, ty, hk, hle⟩ := hst
                obtain ⟨oc, oe, lo, hi, hheap, hsz, _, hfz⟩ := (hR.blk b _ l0 hk hE).2.2 rfl
                obtain ⟨cs', hLr, hcell⟩ := loadN_read hR hcs hE
                have hcell' : ∀ (j : Nat) v, (entL l)[j]? = some v → w.cell? ⟨l0.cb, l0.s + o + j, none⟩ = some v := fun j v hj => by
                  obtain ⟨v', h2, h3⟩ := hLr.2 j v hj
                  have hg : ground v = true := by
                    have : ∀ (l : List E3) (j : Nat) v, (entL l)[j]? = some v → ground v = true := by
                      intro l
                      induction l with
                      | nil => intro j v h; simp [entL] at h
                      | cons e l ih =>
                        intro j v h
                        match j, h with
                        | 0, h => cases h; rfl
                        | 1, h => cases h; rfl
                        | 2, h => cases h; rfl
                        | j + 3, h => exact ih j v h
                    exact this l j v hj
                  rw [h3.ground_eq hg] at h2
                  rw [Nat.add_assoc]
                  exact hcell j v h2
                have hH : HoldsK entC 3 w l0.cb (l0.s + o) l.toArray := fun j hj => by
                  have hj' : j < (entL l).length := by rw [entL_len]; simpa using hj
                  have e1 : (flatK entC 3 l.toArray)[j]! = (entL l)[j] := by
                    rw [← getElem!_pos (entL l) j hj', ← flatK_ent l]; simp [getElem!_def]
                  have h2 := hcell' j _ (List.getElem?_eq_getElem hj')
                  refine ⟨by rw [h2]; simp only [id]; rw [e1], ?_⟩
                  have hlt : l0.s + o + j < oc.size := by
                    simp only [World.cell?, hheap] at h2
                    have := (Array.getElem?_eq_some_iff.1 (by simpa using h2)).1
                    exact this
                  simp only [World.frozen?, hheap]
                  simp
                  omega
                have hlt : l0.cb < w.heap.size := hR.bnd b l0 hE
                have hcon := AnyQ.slices_SortFunc_eq srtLay 3 aggE sizE entC (fun _ => rfl) (fun x v hv => by simp [entC] at hv; rcases hv with rfl | rfl | rfl <;> rfl) cmpE swo 55 #[] l0.cb (l0.s + o) c' l.toArray w enters_order (cmp_lays _ _ _ _) hH hlt (by simp; omega)
                rw [show l.toArray.size = n by simpa using hln] at hcon
                refine hcon.mono ?_
                rintro e w' ⟨h2, m, os, h3⟩
                refine ⟨_, E, h2, ?_, VR.undef⟩
                have hRn : Rel Tryd.prog base E h (w.drewN m) := Rel.drawn hR _
                have hHn : HoldsK entC 3 (w.drewN m) l0.cb (l0.s + o) l.toArray := hH
                obtain ⟨w2, hw2, hp2⟩ := storeN_run hRn hs hE (vs' := entL (srtE l)) ⟨rfl, fun i v hv => ⟨v, hv, by
                  have : ∀ (l : List E3) (j : Nat) v, (entL l)[j]? = some v → ground v = true := by
                    intro l
                    induction l with
                    | nil => intro j v h; simp [entL] at h
                    | cons e l ih =>
                      intro j v h
                      match j, h with
                      | 0, h => cases h; rfl
                      | 1, h => cases h; rfl
                      | 2, h => cases h; rfl
                      | j + 3, h => exact ih j v h
                  exact VR.of_ground (this _ i v hv)⟩⟩ (entL_one _)
                have hds : (pdq (ltOf cmpE) l.toArray 0 l.toArray.size (Lib.bitLen l.toArray.size) true true).size = l.length := pdq_size l
                have e2 := setCells_sort hHn (pdq (ltOf cmpE) l.toArray 0 l.toArray.size (Lib.bitLen l.toArray.size) true true) hds
                have hrun := stores_of_holds Tryd.prog hHn 0 (entL (srtE l)) (by rw [entL_len, size_flatK]; unfold srtE; rw [Array.length_toList]; exact Nat.le_of_eq (by rw [show (pdq (fun x y : E3 => decide (cmpE x y < 0)) l.toArray 0 l.toArray.size (Lib.bitLen l.toArray.size) true true).size = l.length from hds]; simp)) (fun v hv => by
                  have := List.all_eq_true.1 (entL_one (srtE l)) v hv
                  exact this)
                rw [Nat.add_zero] at hrun
                rw [show (storeCells ⟨l0.cb, l0.s + o, none⟩ (entL (srtE l))).run Tryd.prog (w.drewN m) = Sem.run Tryd.prog (storeCells ⟨l0.cb, l0.s + o, none⟩ (entL (srtE l)) 0) (w.drewN m) from rfl, hrun] at hw2
                cases hw2
                have e3 : w' = grow ((w.drewN m).setCells l0.cb (l0.s + o) (entL (srtE l))) os := by
                  rw [h3]
                  unfold sortWorldK
                  congr 1
                  rw [show n = l.toArray.size by simpa using hln.symm]
                  exact e2.symm
                rw [e3]
                exact (hp2.drewN m).grown os
            · cases hv
          · cases hv
        · cases hv
    · cases hv
  · cases hv
def tzRen : Go.Shelf.Ren := ⟨fun | 29 => 60 | n => n, fun | 0 => 0 | 3 => 3 | 4 => 4 | 5 => 5 | 22 => 23 | 25 => 57 | 54 => 144 | n => n, fun | 1 => 0 | n => n⟩
theorem tzLay : Go.Proofs.Lays7.n29 Tryd.prog tzRen := { mixed := by kernel_rfl, f29 := Tryd.func60.trans (congrArg some (by kernel_rfl)), t0 := Tryd.underlying0, a0 := Tryd.isAgg0, z0 := Tryd.sizeOf0, v0 := Tryd.zeroValue0, i0 := by kernel_rfl, t3 := Tryd.underlying3, a3 := Tryd.isAgg3, z3 := Tryd.sizeOf3, v3 := Tryd.zeroValue3, i3 := by kernel_rfl, t4 := Tryd.underlying4, a4 := Tryd.isAgg4, z4 := Tryd.sizeOf4, v4 := Tryd.zeroValue4, i4 := by kernel_rfl, t5 := Tryd.underlying5, a5 := Tryd.isAgg5, z5 := Tryd.sizeOf5, v5 := Tryd.zeroValue5, i5 := by kernel_rfl, t22 := Tryd.underlying23, a22 := Tryd.isAgg23, z22 := Tryd.sizeOf23, v22 := Tryd.zeroValue23, i22 := by kernel_rfl, t25 := Tryd.underlying57, a25 := Tryd.isAgg57, z25 := Tryd.sizeOf57, v25 := Tryd.zeroValue57, i25 := by kernel_rfl, t54 := Tryd.underlying144, a54 := Tryd.isAgg144, z54 := Tryd.sizeOf144, g1 := by kernel_rfl }
theorem tz_sound (base : Nat) (args : Array Value) (h : Heap) (v : Value) (h' : Heap) (E : Env) (w : World) (args' : Array Value) (hv : tzX args h = some (v, h')) (hR : Rel Tryd.prog base E h w) (ha : ARel E args args') :
    Calls Tryd.prog 60 args' w fun e w' => ∃ v' E', e = .returned v' ∧ Post Tryd.prog base E h w E' h' w' ∧ VR E' v v' := by
  obtain ⟨n, hn, h0, h1, rfl, rfl⟩ := tzX_h hv
  have hl := ha.list
  rw [hn] at hl
  obtain ⟨x', g1, r1⟩ := hl.2 0 _ rfl
  have h3 := hl.1
  have hargs : args' = #[.int .u64 n] := by
    obtain ⟨l⟩ := args'
    match l, h3, g1 with
    | [a], _, g1 => cases g1; cases r1; rfl
  subst hargs
  obtain ⟨k, rfl⟩ : ∃ k : Nat, n = k := ⟨n.toNat, by omega⟩
  have hT : TabAt (tzRen.g 1) Lib.deBruijn64tab w := fun j hj => by
    obtain ⟨_, gl⟩ := hR.glob 0 _ rfl
    have := gl j (.int .u8 (Lib.deBruijn64tab.getD j 0 : Nat)) (by rw [List.getElem?_map, List.getElem?_eq_getElem hj, List.getD_eq_getElem?_getD, List.getElem?_eq_getElem hj]; rfl)
    exact this
  refine (Any7.bits_TrailingZeros64 tzLay k (by omega) w fun _ => hT).mono ?_
  rintro e w' ⟨rfl, rfl⟩
  exact ⟨_, E, rfl, Post.refl hR, .int _ _⟩
instance : XtOk Tryd.prog := ⟨fun f g hX args h v h' hv => by
    rcases xt_inv hX with ⟨_, rfl⟩ | ⟨_, rfl⟩ | ⟨_, rfl⟩
    · exact sortX_grow _ _ _ _ _ hv
    · obtain ⟨_, _, _, _, _, rfl⟩ := tzX_h hv; exact Grow.refl _
    · exact insX_grow _ _ _ _ hv,
  fun base f g hX args h v h' E w args' hv hR ha hf => by
    rcases xt_inv hX with ⟨rfl, rfl⟩ | ⟨rfl, rfl⟩ | ⟨rfl, rfl⟩
    · exact sort_sound base args h v h' E w args' hv hR ha
    · exact tz_sound base args h v h' E w args' hv hR ha
    · exact ins_sound base args h v h' E w args' hv hR ha hf⟩

end Go.Am
