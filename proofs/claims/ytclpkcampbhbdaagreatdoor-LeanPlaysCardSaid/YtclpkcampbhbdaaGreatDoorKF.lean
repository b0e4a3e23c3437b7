/- What the functions answer, in the machine. -/
import Derived.Test.YtclpkcampbhbdaaGreatDoorKE
import Derived.Test.YtclpkcampbhbdaaGreatDoorChecked
import Derived.Shelf.Spec.SlicesInsert
import Derived.WalkKit
import Derived.KernelRfl
import Derived.Lib.AppendZerosOnto
import Derived.Laws.NewBlocks
set_option linter.all false
namespace Go.Am
open Go.Proofs
set_option maxRecDepth 100000
set_option linter.all false
attribute [local congr] zCc zCn zCp zCo zCg zCd
theorem entL_takeR : ∀ (es : List E3) (i : Nat), (entL es).take (i * 3) = entL (es.take i)
  | [], i => by simp [entL]
  | e :: es, 0 => rfl
  | e :: es, i + 1 => by
    rw [show (i + 1) * 3 = (i * 3) + 1 + 1 + 1 by omega]
    simp only [entL, List.take_succ_cons]
    rw [entL_takeR es i]
theorem entL_dropR : ∀ (es : List E3) (i : Nat), (entL es).drop (i * 3) = entL (es.drop i)
  | [], i => by simp [entL]
  | e :: es, 0 => rfl
  | e :: es, i + 1 => by
    rw [show (i + 1) * 3 = (i * 3) + 1 + 1 + 1 by omega]
    simp only [entL, List.drop_succ_cons]
    exact entL_dropR es i
theorem sr_mid {h : Heap} {v : Value} {es : List E3} (s : SE h v es) {i j : Nat} (hij : i ≤ j) (hj : j ≤ es.length) {lo hi : Option Value} (hlo : lo.elim (some 0) natOf? = some i) (hhi : hi.elim (some es.length) natOf? = some j) :
    ∃ a c, sliceV Tryz.prog 31 v lo hi none h = some (.slice a ((es.drop i).take (j - i)).length c) ∧ SE h (.slice a ((es.drop i).take (j - i)).length c) ((es.drop i).take (j - i)) := by
  obtain ⟨v3, e3, s3, b3⟩ := Sl.sub s etR.under etR.size hij hj hlo hhi
  obtain ⟨a4, c4, rfl⟩ := s3.shape
  have el : ((es.drop i).take (j - i)).length = j - i := by simp; omega
  rw [entL_dropR, entL_takeR] at s3
  refine ⟨a4, c4, ?_⟩
  unfold SE
  rw [el]
  exact ⟨e3, s3⟩
theorem sr_drop {h : Heap} {v : Value} {es : List E3} (s : SE h v es) {i : Nat} (hi : i ≤ es.length) (k : IntKind) :
    ∃ a c, sliceV Tryz.prog 31 v (some (.int k i)) none none h = some (.slice a (es.drop i).length c) ∧ SE h (.slice a (es.drop i).length c) (es.drop i) := by
  have := sr_mid s (i := i) (j := es.length) hi (Nat.le_refl _) (lo := some (.int k i)) (hi := none) (natOf_int k _) rfl
  rwa [List.take_of_length_le (by simp)] at this
theorem sr_take {h : Heap} {v : Value} {es : List E3} (s : SE h v es) {i : Nat} (hi : i ≤ es.length) (k : IntKind) :
    ∃ a c, sliceV Tryz.prog 31 v none (some (.int k i)) none h = some (.slice a (es.take i).length c) ∧ SE h (.slice a (es.take i).length c) (es.take i) := by
  have := sr_mid s (i := 0) (j := i) (Nat.zero_le _) hi (lo := none) (hi := some (.int k i)) rfl (natOf_int k _)
  rwa [List.drop_zero, Nat.sub_zero] at this
theorem mkR0 (h : Heap) : zBw Tryz.prog 31 0 #[] h = some (.slice (some ⟨h.blks.length, 0, none⟩) 0 0, h.new (.cells []) 87) := by kernel_rfl
theorem appendV_mods0 {P : Program} {t : TypeId} {t1 : Option TypeId} {b : Nat} {x : Value} {h : Heap} {v' : Value} {h' : Heap} (e : appendV P t t1 (.slice (some ⟨b, 0, none⟩) 0 0) x h = some (v', h')) : h'.mods = h.mods := by
  unfold appendV at e
  split at e
  · rename_i elem base sLen sCap hu hs
    injection hs with e1 e2 e3
    subst e1 e2 e3
    split at e
    · split at e
      · split at e
        · split at e
          · cases e; rfl
          · rename_i hn
            rw [if_neg (by unfold UNK; omega), if_neg (by omega)] at e
            simp only at e
            cases hl : h.loadN b 0 (0 * _) with
            | none => rw [hl] at e; cases e
            | some old => rw [hl] at e; cases e; rfl
        · cases e
      · cases e
    · cases e
  · cases e
theorem addR_tail {h : Heap} {v : Value} {es : List E3} {p k : Nat} {x : E3} (s : SE h v es) (hk : k ≤ es.length) (hl : es.length < 2 ^ 38) (c : Cells h p 87 (entC x)) {rv : Value} {ds : List E3} (sr : SE h rv ds) (hd : ds.length ≤ es.length) :
    ∃ hE ta tc a1 c1 hF hG hH a2 c2 a3 c3, zBw Tryz.prog 31 0 #[] h = some (.slice (some ⟨h.blks.length, 0, none⟩) 0 0, hE) ∧ sliceV Tryz.prog 31 v none (some (.int .i64 k)) none hE = some (.slice ta (es.take k).length tc) ∧
      appendV Tryz.prog 31 (some 31) (.slice (some ⟨h.blks.length, 0, none⟩) 0 0) (.slice ta (es.take k).length tc) (nm hE) = some (.slice a1 (es.take k).length c1, hF) ∧
      (am hF hE).loadN p 0 3 = some (entC x) ∧ zBw Tryz.prog 31 1 #[(0, entV x)] (am hF hE) = some (.slice (some ⟨(am hF hE).blks.length, 0, none⟩) 1 1, (am hF hE).new (.cells (entC x)) 87) ∧
      appendV Tryz.prog 31 (some 31) (.slice a1 (es.take k).length c1) (.slice (some ⟨(am hF hE).blks.length, 0, none⟩) 1 1) ((am hF hE).new (.cells (entC x)) 87) = some (.slice a2 (es.take k ++ [x]).length c2, hG) ∧
      appendV Tryz.prog 31 (some 31) (.slice a2 (es.take k ++ [x]).length c2) rv hG = some (.slice a3 (es.take k ++ [x] ++ ds).length c3, hH) ∧
      hF.mods = [] ∧ (∀ {n0 : Nat}, n0 ≤ h.blks.length → In n0 No h hH) ∧ SE hH (.slice a3 (es.take k ++ [x] ++ ds).length c3) (es.take k ++ [x] ++ ds) := by
  have hpl : p < h.blks.length := c.lt
  have i1 := In.new (S := No) (h := h) (Nat.le_refl h.blks.length) (.cells []) 87
  have cE := blk_new_self h (.cells []) 87
  have sE : SE (h.new (.cells []) 87) v es := Sl.keepNew s _ _
  have rE : SE (h.new (.cells []) 87) rv ds := Sl.keepNew sr _ _
  have cEp := c.keepNew (.cells []) 87
  have mE := mkR0 h
  have lE : (h.new (.cells []) 87).blks.length = h.blks.length + 1 := by simp [Heap.new]
  have sameE : Same h (h.new (.cells []) 87) := Same.new _ _ _
  generalize hhE : h.new (.cells []) 87 = hE at *
  obtain ⟨ta, tc, t1, t2⟩ := sr_take sE hk .i64
  have aE : AR h.blks.length (nm hE) (.slice (some ⟨h.blks.length, 0, none⟩) 0 0) [] := .full (all := []) (Nat.le_refl _) (by omega) cE (by simp) (by simp [entL])
  obtain ⟨a1, c1, hF, q1, q2, q3, q4, _⟩ := app_ents etR etR.under (n0 := h.blks.length) (h := nm hE) (by show _ ≤ hE.blks.length; omega) aE (Sl.nm t2) (by simp; omega)
  rw [List.nil_append] at q1 q2
  have mF : hF.mods = [] := appendV_mods0 q1
  have sameF : Same h hF := ⟨by have := q3.len; have : (nm hE).blks.length = hE.blks.length := rfl; omega, fun b hb => (q3.old b hb).trans (sameE.2 b hb)⟩
  have sameA : Same h (am hF hE) := sameF
  have lx : (am hF hE).loadN p 0 3 = some (entC x) := (c.same sameA).loadN (n := 3) rfl
  have aA : AR h.blks.length (am hF hE) (.slice a1 (es.take k).length c1) (es.take k) := Acc.keep q2 fun _ _ _ => rfl
  obtain ⟨a2, c2, hG, g1, g2, g3, g4⟩ := app_ent etR (n0 := h.blks.length) sameA.1 aA x (by simp; omega)
  have sameG : Same h hG := ⟨Nat.le_trans sameA.1 g3.len, fun b hb => (g3.old b hb).trans (sameA.2 b hb)⟩
  obtain ⟨a3, c3, hH, j1, j2, j3, j4, _⟩ := app_ents etR etR.under (n0 := h.blks.length) sameG.1 g2 (Sl.same sr sameG) (by simp; omega)
  refine ⟨hE, ta, tc, a1, c1, hF, hG, hH, a2, c2, a3, c3, mE, t1, q1, lx, bsR x (am hF hE), g1, j1, mF, fun {n0} hn => ?_, Acc.sl j2 etR.size⟩
  have kA : Keeps h.blks.length h (am hF hE) := ⟨Nat.le_refl _, sameA.1, fun b hb => sameA.2 b hb, fun m hm => by
    have e : (am hF hE).mods = hF.mods ++ hE.mods := rfl
    rw [e, mF, ← hhE] at hm
    exact .inl hm⟩
  exact Keeps.inn (((kA.trans g3).trans j3).dn hn)
theorem addR_loop {β : Type} {Q : Option β → Prop} {kk : Ex → St → Option β} {n0 : Nat} {hS h1 : Heap} {v : Value} {es : List E3} {p : Nat} {e0 : E3} (s : SE h1 v es) (hl : es.length < 2 ^ 38) (c : Cells h1 p 87 (entC e0))
    (hk : ∀ (h : Heap) (y : Nat → Value),In n0 No hS h → Same h1 h → y 0 = v → y 3 = .pointer (some ⟨p, 0, none⟩) → y 5 = .int .i64 (bsK es e0 : Nat) → Q (kk .normal ⟨ar 66 y, h⟩)) :
    ∀ (m i : Nat), bsK es e0 - i = m → i ≤ bsK es e0 → ∀ (x : Nat → Value) (h : Heap),In n0 No hS h → Same h1 h → x 0 = v → x 3 = .pointer (some ⟨p, 0, none⟩) → x 5 = .int .i64 i → Q (lK c41_1 66 x h (zCr 0 kk)) := by
  intro m
  have hkl := bsK_le es e0
  obtain ⟨va, vc, rfl⟩ := s.shape
  induction m with
  | zero =>
    intro i e1 e2 x h hin hs Aa Ad Af
    obtain rfl : i = bsK es e0 := by omega
    rw [lK_eq]
    by_cases hil : bsK es e0 < es.length
    · obtain ⟨b, of, hb, hbl, e1, e2⟩ := s.at' (t := 31) (el := 87) (by kernel_rfl) (by kernel_rfl) hil
      obtain ⟨f1, _⟩ := e2 h (hs.2 b hbl)
      have lx : h.loadN p 0 3 = some (entC e0) := (c.same hs).loadN (n := 3) rfl
      obtain ⟨h2, q2, y2⟩ := spec_ahead es[bsK es e0] e0 h
      rw [decide_eq_false (fun k => bsK_geR hil ((cmpE_lt _ _).1 k))] at q2
      simp -implicitDefEqProofs (disch := omega) only [↓c41_1_eq,Aa,Ad,Af, lnRs, dcT, e1, ldR, f1, lx, Option.map_some, entA, q2, ↓zAf, ↓zAb, ↓Option.bind_some, ↓zAa, zBd, zBm, zBl, zBe, zBn, zBk, zBi, zBf, zBj, zBq, zBp, Option.bind_some, Option.bind_none, Option.map_some, zAf, zAb, zAl, zAk, zBh, zAw, zAy, zAp, zBc, zAs, zBa, zAr, zBt, zBu, zBv, zBs, zAz, zAa, zAc, zAd, zAe, zAh, zAm, zAg, zAj, zAn, zAi, zAu, zAx, zAv, zBb, zAt, Bool.not_true, Bool.not_false, zCk, zCj, zCl, zCi, zCm, zAq, zAo, zBg, zBo, zBr, cond_true, cond_false, Nat.reduceBEq]
      exact hk h2 _ (hin.trans (y2.inn (Nat.le_trans hin.le hin.len))) (hs.trans y2.same) Aa Ad Af
    · simp -implicitDefEqProofs (disch := omega) only [↓c41_1_eq,Aa,Ad,Af, lnRs, dcF, ↓zAf, ↓zAb, ↓Option.bind_some, ↓zAa, zBd, zBm, zBl, zBe, zBn, zBk, zBi, zBf, zBj, zBq, zBp, Option.bind_some, Option.bind_none, Option.map_some, zAf, zAb, zAl, zAk, zBh, zAw, zAy, zAp, zBc, zAs, zBa, zAr, zBt, zBu, zBv, zBs, zAz, zAa, zAc, zAd, zAe, zAh, zAm, zAg, zAj, zAn, zAi, zAu, zAx, zAv, zBb, zAt, Bool.not_true, Bool.not_false, zCk, zCj, zCl, zCi, zCm, zAq, zAo, zBg, zBo, zBr, cond_true, cond_false, Nat.reduceBEq]
      exact hk h _ hin hs Aa Ad Af
  | succ m ih =>
    intro i hm hi x h hin hs Aa Ad Af
    have hik : i < bsK es e0 := by omega
    have hil : i < es.length := by omega
    rw [lK_eq]
    obtain ⟨b, of, hb, hbl, e1, e2⟩ := s.at' (t := 31) (el := 87) (by kernel_rfl) (by kernel_rfl) hil
    obtain ⟨f1, _⟩ := e2 h (hs.2 b hbl)
    have lx : h.loadN p 0 3 = some (entC e0) := (c.same hs).loadN (n := 3) rfl
    obtain ⟨h2, q2, y2⟩ := spec_ahead es[i] e0 h
    rw [decide_eq_true ((cmpE_lt _ _).2 (bsK_loR i hik hil))] at q2
    have wi : IntKind.i64.wrap ((i : Int) + 1) = ((i + 1 : Nat) : Int) := by rw [wrap_i64] <;> omega
    simp -implicitDefEqProofs (disch := omega) only [↓c41_1_eq,Aa,Ad,Af, lnRs, dcT, e1, ldR, f1, lx, Option.map_some, entA, q2, wi, ↓zAf, ↓zAb, ↓Option.bind_some, ↓zAa, zBd, zBm, zBl, zBe, zBn, zBk, zBi, zBf, zBj, zBq, zBp, Option.bind_some, Option.bind_none, Option.map_some, zAf, zAb, zAl, zAk, zBh, zAw, zAy, zAp, zBc, zAs, zBa, zAr, zBt, zBu, zBv, zBs, zAz, zAa, zAc, zAd, zAe, zAh, zAm, zAg, zAj, zAn, zAi, zAu, zAx, zAv, zBb, zAt, Bool.not_true, Bool.not_false, zCk, zCj, zCl, zCi, zCm, zAq, zAo, zBg, zBo, zBr, cond_true, cond_false, Nat.reduceBEq]
    exact ih (i + 1) (by omega) (by omega) _ h2 (hin.trans (y2.inn (Nat.le_trans hin.le hin.len))) (hs.trans y2.same) Aa Ad rfl
theorem spec_AddLog {h : Heap} {v : Value} {es : List E3} (s : SE h v es) (hl : es.length < 2 ^ 38) (e0 : E3) : ∃ a c h', evC Tryz.prog 41 #[v, entV e0] h = some (.slice a (addE es e0).length c, h') ∧ HExt h h' ∧ SE h' (.slice a (addE es e0).length c) (addE es e0) := by
  rw [call41]
  have c1 := Cells.new (nm h) 87 (entC e0)
  have k1 : In h.blks.length No (nm h) ((nm h).new (.cells (entC e0)) 87) := In.new (h := nm h) (Nat.le_refl h.blks.length) _ _
  have s1 : SE ((nm h).new (.cells (entC e0)) 87) v es := s.nm.keepNew _ _
  have bx : boxV Tryz.prog 87 (entV e0) (nm h) = some (.pointer (some ⟨(nm h).blks.length, 0, none⟩), (nm h).new (.cells (entC e0)) 87) := bxRe _ _ _ _
  generalize hh1 : (nm h).new (.cells (entC e0)) 87 = h1 at *
  generalize hp : (nm h).blks.length = p at *
  obtain ⟨h2, q2,Ac⟩ := spec_GoodLog s1 (by omega)
  have k2 := k1.trans (Ac.inn (Nat.le_trans k1.le k1.len))
  have s2 : SE h2 v es := Sl.same s1 Ac.same
  have c2 := c1.same Ac.same
  obtain ⟨va, vc, rfl⟩ := s.shape
  have lx2 : h2.loadN p 0 3 = some (entC e0) := c2.loadN (n := 3) rfl
  cases hg : goodE es with
  | false =>
    rw [hg] at q2
    have ea : addE es e0 = es := by unfold addE; rw [if_neg (by rw [hg]; intro k; cases k.1)]
    rw [ea]
    refine ⟨va, vc, _, ?_, zCf k2, s2.done⟩
    simp -implicitDefEqProofs (disch := omega) only [↓c41_0_eq, bx, q2, ↓ret41, ↓zAf, ↓zAb, ↓Option.bind_some, ↓zAa, zBd, zBm, zBl, zBe, zBn, zBk, zBi, zBf, zBj, zBq, zBp, Option.bind_some, Option.bind_none, Option.map_some, zAf, zAb, zAl, zAk, zBh, zAw, zAy, zAp, zBc, zAs, zBa, zAr, zBt, zBu, zBv, zBs, zAz, zAa, zAc, zAd, zAe, zAh, zAm, zAg, zAj, zAn, zAi, zAu, zAx, zAv, zBb, zAt, Bool.not_true, Bool.not_false, zCk, zCj, zCl, zCi, zCm, zAq, zAo, zBg, zBo, zBr, cond_true, cond_false, Nat.reduceBEq]
  | true =>
    rw [hg] at q2
    obtain ⟨h3, q3,Ad⟩ := spec_GoodEntry e0 h2
    have k3 := k2.trans (Ad.inn (Nat.le_trans k2.le k2.len))
    have s3 : SE h3 (.slice va es.length vc) es := Sl.same s2 Ad.same
    have c3 := c2.same Ad.same
    cases hm : mayE e0 with
    | false =>
      rw [hm] at q3
      have ea : addE es e0 = es := by unfold addE; rw [if_neg (by rw [hm]; intro k; cases k.2)]
      rw [ea]
      refine ⟨va, vc, _, ?_, zCf k3, s3.done⟩
      simp -implicitDefEqProofs (disch := omega) only [↓c41_0_eq, bx, q2, ldR, lx2, Option.map_some, entA, q3, ↓ret41, ↓zAf, ↓zAb, ↓Option.bind_some, ↓zAa, zBd, zBm, zBl, zBe, zBn, zBk, zBi, zBf, zBj, zBq, zBp, Option.bind_some, Option.bind_none, Option.map_some, zAf, zAb, zAl, zAk, zBh, zAw, zAy, zAp, zBc, zAs, zBa, zAr, zBt, zBu, zBv, zBs, zAz, zAa, zAc, zAd, zAe, zAh, zAm, zAg, zAj, zAn, zAi, zAu, zAx, zAv, zBb, zAt, Bool.not_true, Bool.not_false, zCk, zCj, zCl, zCi, zCm, zAq, zAo, zBg, zBo, zBr, cond_true, cond_false, Nat.reduceBEq]
    | true =>
      rw [hm] at q3
      have hkl := bsK_le es e0
      simp -implicitDefEqProofs (disch := omega) only [↓c41_0_eq, bx, q2, ldR, lx2, Option.map_some, entA, q3, ↓zAf, ↓zAb, ↓Option.bind_some, ↓zAa, zBd, zBm, zBl, zBe, zBn, zBk, zBi, zBf, zBj, zBq, zBp, Option.bind_some, Option.bind_none, Option.map_some, zAf, zAb, zAl, zAk, zBh, zAw, zAy, zAp, zBc, zAs, zBa, zAr, zBt, zBu, zBv, zBs, zAz, zAa, zAc, zAd, zAe, zAh, zAm, zAg, zAj, zAn, zAi, zAu, zAx, zAv, zBb, zAt, Bool.not_true, Bool.not_false, zCk, zCj, zCl, zCi, zCm, zAq, zAo, zBg, zBo, zBr, cond_true, cond_false, Nat.reduceBEq]
      refine addR_loop (Q := fun r => ∃ a c h', r = some (Value.slice a (addE es e0).length c, h') ∧ HExt h h' ∧ SE h' (.slice a (addE es e0).length c) (addE es e0)) (n0 := h.blks.length) (hS := nm h) (h1 := h3) (p := p) (e0 := e0) s3 hl c3 (fun h4 y hin hs y0 y3 y5 => ?_) (bsK es e0) 0 (by omega) (by omega) _ h3 k3 (Same.refl _) ?_ ?_ ?_
      · have s4 : SE h4 (.slice va es.length vc) es := Sl.same s3 hs
        have c4 := c3.same hs
        have p0 : h4.load1 p 0 = some (.int .i64 e0.f) := c4.load 0
        have p1 : h4.load1 p (0 + 1) = some (.int .u64 e0.n) := c4.load 1
        obtain ⟨ra, rc, r1, r2⟩ := sr_drop s4 hkl .i64
        cases hb : bsF es e0 with
        | true =>
          obtain ⟨hk', b1, b2⟩ := key_bs hb
          have ea : addE es e0 = es.take (bsK es e0) ++ [e0] ++ es.drop (bsK es e0 + 1) := by
            unfold addE
            rw [if_pos ⟨hg, hm⟩, if_pos hb, List.set_eq_take_append_cons_drop, if_pos hk']
            simp
          have dl : 0 < (es.drop (bsK es e0)).length := by rw [List.length_drop]; omega
          obtain ⟨b', of', _, hbl', e1', e2'⟩ := SE.at' r2 (t := 31) (el := 87) (by kernel_rfl) (by kernel_rfl) dl
          obtain ⟨_, f2, f3, _⟩ := e2' h4 rfl
          rw [List.getElem_drop] at f2 f3
          simp only [Nat.add_zero] at f2 f3
          obtain ⟨ra2, rc2, r3, r4⟩ := sr_drop r2 (i := 1) (by omega) .i64
          rw [List.drop_drop] at r3 r4
          obtain ⟨hE, ta, tc, a1, cc1, hF, hG, hH, a2, cc2, a3, cc3, w1, w2, w3, w4, w5, w6, w7, w8, w9, w10⟩ := addR_tail s4 hkl hl c4 r4 (by rw [List.length_drop]; omega)
          rw [ea]
          have i1 := e1' .i64
          refine ⟨a3, cc3, _, ?_, zCf (hin.trans (w9 hin.len)), w10.done⟩
          rw [show ((1 : Nat) : Int) = 1 from rfl] at r3
          rw [show ((0 : Nat) : Int) = 0 from rfl] at i1
          simp -implicitDefEqProofs (disch := omega) only [↓c41_2_eq, y0, y3, y5, r1, lnRs, dcT, i1, faRe0, faRe1, ldI, ldU, f2, f3, p0, p1, decide_eq_true b1, r3, w1, w2, w3, ldR, w4, Option.map_some, entA, w5, w6, w7, w8, List.append_nil, ↓ret41, ↓zAf, ↓zAb, ↓Option.bind_some, ↓zAa, zBd, zBm, zBl, zBe, zBn, zBk, zBi, zBf, zBj, zBq, zBp, Option.bind_some, Option.bind_none, Option.map_some, zAf, zAb, zAl, zAk, zBh, zAw, zAy, zAp, zBc, zAs, zBa, zAr, zBt, zBu, zBv, zBs, zAz, zAa, zAc, zAd, zAe, zAh, zAm, zAg, zAj, zAn, zAi, zAu, zAx, zAv, zBb, zAt, Bool.not_true, Bool.not_false, zCk, zCj, zCl, zCi, zCm, zAq, zAo, zBg, zBo, zBr, cond_true, cond_false, Nat.reduceBEq]
        | false =>
          have ea : addE es e0 = es.take (bsK es e0) ++ [e0] ++ es.drop (bsK es e0) := by
            unfold addE insE
            rw [if_pos ⟨hg, hm⟩, if_neg (by rw [hb]; decide)]
            simp
          obtain ⟨hE, ta, tc, a1, cc1, hF, hG, hH, a2, cc2, a3, cc3, w1, w2, w3, w4, w5, w6, w7, w8, w9, w10⟩ := addR_tail s4 hkl hl c4 r2 (by rw [List.length_drop]; omega)
          rw [ea]
          refine ⟨a3, cc3, _, ?_, zCf (hin.trans (w9 hin.len)), w10.done⟩
          by_cases hlt : bsK es e0 < es.length
          · have dl : 0 < (es.drop (bsK es e0)).length := by rw [List.length_drop]; omega
            obtain ⟨b', of', _, hbl', e1', e2'⟩ := SE.at' r2 (t := 31) (el := 87) (by kernel_rfl) (by kernel_rfl) dl
            obtain ⟨_, f2, f3, _⟩ := e2' h4 rfl
            rw [List.getElem_drop] at f2 f3
            simp only [Nat.add_zero] at f2 f3
            have i1 := e1' .i64
            rw [show ((0 : Nat) : Int) = 0 from rfl] at i1
            by_cases hf : es[bsK es e0].f = e0.f
            · have hn : ¬ (es[bsK es e0].n = e0.n) := fun hn => by
                have hs' := ((zCx es).1 hg).2
                have := (key_at hs' hlt hf hn).1
                rw [this] at hb; cases hb
              simp -implicitDefEqProofs (disch := omega) only [↓c41_2_eq, y0, y3, y5, r1, lnRs, dcT, dcF, i1, faRe0, faRe1, ldI, ldU, f2, f3, p0, p1, decide_eq_true hf, w1, w2, w3, ldR, w4, Option.map_some, entA, w5, w6, w7, w8, List.append_nil, ↓ret41, ↓zAf, ↓zAb, ↓Option.bind_some, ↓zAa, zBd, zBm, zBl, zBe, zBn, zBk, zBi, zBf, zBj, zBq, zBp, Option.bind_some, Option.bind_none, Option.map_some, zAf, zAb, zAl, zAk, zBh, zAw, zAy, zAp, zBc, zAs, zBa, zAr, zBt, zBu, zBv, zBs, zAz, zAa, zAc, zAd, zAe, zAh, zAm, zAg, zAj, zAn, zAi, zAu, zAx, zAv, zBb, zAt, Bool.not_true, Bool.not_false, zCk, zCj, zCl, zCi, zCm, zAq, zAo, zBg, zBo, zBr, cond_true, cond_false, Nat.reduceBEq]
            · simp -implicitDefEqProofs (disch := omega) only [↓c41_2_eq, y0, y3, y5, r1, lnRs, dcT, dcF, i1, faRe0, faRe1, ldI, ldU, f2, f3, p0, p1, decide_eq_false hf, w1, w2, w3, ldR, w4, Option.map_some, entA, w5, w6, w7, w8, List.append_nil, ↓ret41, ↓zAf, ↓zAb, ↓Option.bind_some, ↓zAa, zBd, zBm, zBl, zBe, zBn, zBk, zBi, zBf, zBj, zBq, zBp, Option.bind_some, Option.bind_none, Option.map_some, zAf, zAb, zAl, zAk, zBh, zAw, zAy, zAp, zBc, zAs, zBa, zAr, zBt, zBu, zBv, zBs, zAz, zAa, zAc, zAd, zAe, zAh, zAm, zAg, zAj, zAn, zAi, zAu, zAx, zAv, zBb, zAt, Bool.not_true, Bool.not_false, zCk, zCj, zCl, zCi, zCm, zAq, zAo, zBg, zBo, zBr, cond_true, cond_false, Nat.reduceBEq]
          · have dl : (es.drop (bsK es e0)).length = 0 := by rw [List.length_drop]; omega
            have dn : decide ((((es.drop (bsK es e0)).length : Nat) : Int) > 0) = false := decide_eq_false (by omega)
            simp -implicitDefEqProofs (disch := omega) only [↓c41_2_eq, y0, y3, y5, r1, lnRs, dn, w1, w2, w3, ldR, w4, Option.map_some, entA, w5, w6, w7, w8, List.append_nil, ↓ret41, ↓zAf, ↓zAb, ↓Option.bind_some, ↓zAa, zBd, zBm, zBl, zBe, zBn, zBk, zBi, zBf, zBj, zBq, zBp, Option.bind_some, Option.bind_none, Option.map_some, zAf, zAb, zAl, zAk, zBh, zAw, zAy, zAp, zBc, zAs, zBa, zAr, zBt, zBu, zBv, zBs, zAz, zAa, zAc, zAd, zAe, zAh, zAm, zAg, zAj, zAn, zAi, zAu, zAx, zAv, zBb, zAt, Bool.not_true, Bool.not_false, zCk, zCj, zCl, zCi, zCm, zAq, zAo, zBg, zBo, zBr, cond_true, cond_false, Nat.reduceBEq]
      · rfl
      · rfl
      · rfl
end Go.Am
namespace Go.Am
open Go.Proofs
set_option maxRecDepth 100000
set_option linter.all false
attribute [local congr] zCc zCn zCp zCo zCg zCd
theorem addE_lenR (es : List E3) (x : E3) : (addE es x).length ≤ es.length + 1 := by
  unfold addE
  split
  · split
    · rw [List.length_set]; omega
    · unfold insE; rw [List.length_append, List.length_cons, List.length_take, List.length_drop]; omega
  · omega
theorem fold_lenR : ∀ (L r : List E3), (L.foldl addE r).length ≤ r.length + L.length
  | [], r => by simp
  | x :: L, r => by
    have a := fold_lenR L (addE r x)
    have b := addE_lenR r x
    simp only [List.foldl_cons, List.length_cons]
    omega
def rA (own heard : List E3) (i : Nat) : List E3 := ((own.take i).filterMap (gA heard)).foldl addE []
theorem rA_len (own heard : List E3) (i : Nat) (hi : i ≤ own.length) : (rA own heard i).length ≤ i := by
  have a := fold_lenR ((own.take i).filterMap (gA heard)) []
  have b := List.length_filterMap_le (gA heard) (own.take i)
  rw [List.length_take] at b
  unfold rA
  simp only [List.length_nil] at a
  omega
theorem rA_some {own heard : List E3} {i : Nat} (hi : i < own.length) {e : E3} (h : gA heard own[i] = some e) : rA own heard (i + 1) = addE (rA own heard i) e := by
  unfold rA
  rw [List.take_succ, List.getElem?_eq_getElem hi, Option.toList_some, List.filterMap_append, List.foldl_append]
  simp [h]
theorem rA_none {own heard : List E3} {i : Nat} (hi : i < own.length) (h : gA heard own[i] = none) : rA own heard (i + 1) = rA own heard i := by
  unfold rA
  rw [List.take_succ, List.getElem?_eq_getElem hi, Option.toList_some, List.filterMap_append, List.foldl_append]
  simp [h]
def rB (own heard : List E3) (j : Nat) : List E3 := ((heard.take j).filter (gB own)).foldl addE (rA own heard own.length)
theorem rB_len (own heard : List E3) (j : Nat) (hj : j ≤ heard.length) : (rB own heard j).length ≤ own.length + j := by
  have a := fold_lenR ((heard.take j).filter (gB own)) (rA own heard own.length)
  have b := List.length_filter_le (gB own) (heard.take j)
  have c := rA_len own heard own.length (Nat.le_refl _)
  rw [List.length_take] at b
  unfold rB
  omega
theorem rB_some {own heard : List E3} {j : Nat} (hj : j < heard.length) (h : gB own heard[j] = true) : rB own heard (j + 1) = addE (rB own heard j) heard[j] := by
  unfold rB
  rw [List.take_succ, List.getElem?_eq_getElem hj, Option.toList_some, List.filter_append, List.foldl_append]
  simp [h]
theorem rB_none {own heard : List E3} {j : Nat} (hj : j < heard.length) (h : gB own heard[j] = false) : rB own heard (j + 1) = rB own heard j := by
  unfold rB
  rw [List.take_succ, List.getElem?_eq_getElem hj, Option.toList_some, List.filter_append, List.foldl_append]
  simp [h]
theorem rB_all (own heard : List E3) : rB own heard heard.length = joinR own heard := by
  unfold rB rA joinR
  rw [List.take_length, List.take_length]
theorem findI_yes {l : List E3} {x : E3} (h : bsF l x = true) : findI l x l.length = (bsK l x : Nat) := by
  obtain ⟨hk, _⟩ := key_bs h
  unfold findI
  rw [if_pos ⟨h, hk⟩]
theorem findI_no {l : List E3} {x : E3} (h : bsF l x = false) : findI l x l.length = -1 := by
  unfold findI
  rw [if_neg (by rw [h]; intro k; cases k.1)]
theorem joinA_loop {β : Type} {Q : Option β → Prop} {kk : Ex → St → Option β} {n0 : Nat} {hS h1 : Heap} {va vb : Value} {own heard : List E3} (s : SE h1 va own) (s2 : SE h1 vb heard) (hs2 : Srt heard) (w : wide own) (w2 : wide heard) (hl : own.length < 2 ^ 36) (hl2 : heard.length < 2 ^ 36)
    (hk : ∀ (h : Heap) (y : Nat → Value) (a : Option Addr) (c : Nat),In n0 No hS h → Same h1 h → SE h (.slice a (rA own heard own.length).length c) (rA own heard own.length) → y 0 = va → y 1 = vb → y 5 = .slice a (rA own heard own.length).length c → Q (kk .normal ⟨ar 98 y, h⟩)) :
    ∀ (m i : Nat), own.length - i = m → i ≤ own.length → ∀ (x : Nat → Value) (h : Heap) (a : Option Addr) (c : Nat),In n0 No hS h → Same h1 h → SE h (.slice a (rA own heard i).length c) (rA own heard i) → x 0 = va → x 1 = vb → x 5 = .slice a (rA own heard i).length c → x 6 = .int .i64 i →
    Q (lK c45_1 98 x h (zCr 0 kk)) := by
  intro m
  obtain ⟨a1, c1, rfl⟩ := s.shape
  obtain ⟨a2, c2, rfl⟩ := s2.shape
  induction m with
  | zero =>
    intro i e1 e2 x h a c hin hs sr Aa Ab Af Ag
    obtain rfl : i = own.length := by omega
    rw [lK_eq]
    simp -implicitDefEqProofs (disch := omega) only [↓c45_1_eq,Aa,Ab,Af,Ag, lnRs, dcF, ↓zAf, ↓zAb, ↓Option.bind_some, ↓zAa, zBd, zBm, zBl, zBe, zBn, zBk, zBi, zBf, zBj, zBq, zBp, Option.bind_some, Option.bind_none, Option.map_some, zAf, zAb, zAl, zAk, zBh, zAw, zAy, zAp, zBc, zAs, zBa, zAr, zBt, zBu, zBv, zBs, zAz, zAa, zAc, zAd, zAe, zAh, zAm, zAg, zAj, zAn, zAi, zAu, zAx, zAv, zBb, zAt, Bool.not_true, Bool.not_false, zCk, zCj, zCl, zCi, zCm, zAq, zAo, zBg, zBo, zBr, cond_true, cond_false, Nat.reduceBEq]
    exact hk h _ a c hin hs sr Aa Ab Af
  | succ m ih =>
    intro i hm hi x h a c hin hs sr Aa Ab Af Ag
    have hil : i < own.length := by omega
    rw [lK_eq]
    obtain ⟨b, of, hb, hbl, e1, e2⟩ := s.at' (t := 31) (el := 87) (by kernel_rfl) (by kernel_rfl) hil
    obtain ⟨f1, _⟩ := e2 h (hs.2 b hbl)
    have wi : IntKind.i64.wrap ((i : Int) + 1) = ((i + 1 : Nat) : Int) := by rw [wrap_i64] <;> omega
    have rl := rA_len own heard i hi
    obtain ⟨h2, q2, y2⟩ := spec_find (Sl.same s2 hs) hs2 (by omega) own[i]
    have hs2' := hs.trans y2.same
    have in2 := hin.trans (y2.inn (Nat.le_trans hin.le hin.len))
    obtain ⟨g0, g1, g2, g3⟩ := e2 h2 (hs2'.2 b hbl)
    have sr2 := Sl.same sr y2.same
    cases hbs : bsF heard own[i] with
    | true =>
      obtain ⟨hk', _, _⟩ := key_bs hbs
      rw [findI_yes hbs] at q2
      obtain ⟨b', of', hb', hbl', e1', e2'⟩ := s2.at' (t := 31) (el := 87) (by kernel_rfl) (by kernel_rfl) hk'
      obtain ⟨_, _, _, g4⟩ := e2' h2 (hs2'.2 b' hbl')
      have an := fun t xo yo => anU t xo yo own[i].t heard[bsK heard own[i]].t (w _ (List.getElem_mem hil)).2 (w2 _ (List.getElem_mem hk')).2
      have hga : gA heard own[i] = some { own[i] with t := own[i].t &&& heard[bsK heard own[i]].t } := by
        unfold gA bothF
        rw [if_pos hbs, if_pos hbs, List.getD_eq_getElem?_getD, List.getElem?_eq_getElem hk']
        rfl
      have er := rA_some hil hga
      obtain ⟨a3, c3, h3, q3, y3, s3⟩ := spec_AddLog sr2 (by omega) { own[i] with t := own[i].t &&& heard[bsK heard own[i]].t }
      rw [← er] at q3 s3
      have q3' : evC Tryz.prog 41 #[.slice a (rA own heard i).length c, .agg #[.int .i64 own[i].f, .int .u64 (own[i].n : Nat), .int .u64 ((own[i].t &&& heard[bsK heard own[i]].t : Nat) : Int)]] h2 = some (.slice a3 (rA own heard (i + 1)).length c3, h3) := q3
      have bd := bdR3 own[i].f (own[i].n : Nat) ((own[i].t &&& heard[bsK heard own[i]].t : Nat) : Int)
      simp -implicitDefEqProofs (disch := omega) only [↓c45_1_eq,Aa,Ab,Af,Ag, lnRs, dcT, e1, ldR, f1, Option.map_some, entA, q2, faRe0, faRe1, faRe2, ldI, ldU, g1, g2, g3, e1', g4, an, bd, q3', wi, ↓zAf, ↓zAb, ↓Option.bind_some, ↓zAa, zBd, zBm, zBl, zBe, zBn, zBk, zBi, zBf, zBj, zBq, zBp, Option.bind_some, Option.bind_none, Option.map_some, zAf, zAb, zAl, zAk, zBh, zAw, zAy, zAp, zBc, zAs, zBa, zAr, zBt, zBu, zBv, zBs, zAz, zAa, zAc, zAd, zAe, zAh, zAm, zAg, zAj, zAn, zAi, zAu, zAx, zAv, zBb, zAt, Bool.not_true, Bool.not_false, zCk, zCj, zCl, zCi, zCm, zAq, zAo, zBg, zBo, zBr, cond_true, cond_false, Nat.reduceBEq]
      exact ih (i + 1) (by omega) (by omega) _ h3 a3 c3 (in2.trans (y3.inn (Nat.le_trans in2.le in2.len))) (hs2'.trans y3.same) s3 Aa Ab rfl rfl
    | false =>
      rw [findI_no hbs] at q2
      cases hmo : moreF heard own[i] with
      | true =>
        rw [hmo] at q2
        have er := rA_none hil (show gA heard own[i] = none by unfold gA; rw [if_neg (by rw [hbs]; decide), if_pos hmo])
        rw [← er] at sr2 Af
        simp -implicitDefEqProofs (disch := omega) only [↓c45_1_eq,Aa,Ab,Ag, lnRs, dcT, dcF, e1, ldR, f1, Option.map_some, entA, q2, wi, ↓zAf, ↓zAb, ↓Option.bind_some, ↓zAa, zBd, zBm, zBl, zBe, zBn, zBk, zBi, zBf, zBj, zBq, zBp, Option.bind_some, Option.bind_none, Option.map_some, zAf, zAb, zAl, zAk, zBh, zAw, zAy, zAp, zBc, zAs, zBa, zAr, zBt, zBu, zBv, zBs, zAz, zAa, zAc, zAd, zAe, zAh, zAm, zAg, zAj, zAn, zAi, zAu, zAx, zAv, zBb, zAt, Bool.not_true, Bool.not_false, zCk, zCj, zCl, zCi, zCm, zAq, zAo, zBg, zBo, zBr, cond_true, cond_false, Nat.reduceBEq]
        exact ih (i + 1) (by omega) (by omega) _ h2 a c in2 hs2' sr2 Aa Ab Af rfl
      | false =>
        rw [hmo] at q2
        have er := rA_some hil (show gA heard own[i] = some own[i] by unfold gA; rw [if_neg (by rw [hbs]; decide), if_neg (by rw [hmo]; decide)])
        obtain ⟨a3, c3, h3, q3, y3, s3⟩ := spec_AddLog sr2 (by omega) own[i]
        rw [← er] at q3 s3
        simp -implicitDefEqProofs (disch := omega) only [↓c45_1_eq,Aa,Ab,Af,Ag, lnRs, dcT, dcF, e1, ldR, f1, g0, Option.map_some, entA, q2, q3, wi, ↓zAf, ↓zAb, ↓Option.bind_some, ↓zAa, zBd, zBm, zBl, zBe, zBn, zBk, zBi, zBf, zBj, zBq, zBp, Option.bind_some, Option.bind_none, Option.map_some, zAf, zAb, zAl, zAk, zBh, zAw, zAy, zAp, zBc, zAs, zBa, zAr, zBt, zBu, zBv, zBs, zAz, zAa, zAc, zAd, zAe, zAh, zAm, zAg, zAj, zAn, zAi, zAu, zAx, zAv, zBb, zAt, Bool.not_true, Bool.not_false, zCk, zCj, zCl, zCi, zCm, zAq, zAo, zBg, zBo, zBr, cond_true, cond_false, Nat.reduceBEq]
        exact ih (i + 1) (by omega) (by omega) _ h3 a3 c3 (in2.trans (y3.inn (Nat.le_trans in2.le in2.len))) (hs2'.trans y3.same) s3 Aa Ab rfl rfl
theorem joinB_loop {h0 h1 : Heap} {va vb : Value} {own heard : List E3} (s : SE h1 va own) (s2 : SE h1 vb heard) (hs1 : Srt own) (hl : own.length < 2 ^ 36) (hl2 : heard.length < 2 ^ 36) :
    ∀ (m j : Nat), heard.length - j = m → j ≤ heard.length → ∀ (x : Nat → Value) (h : Heap) (a : Option Addr) (c : Nat),In h0.blks.length No (nm h0) h → Same h1 h → SE h (.slice a (rB own heard j).length c) (rB own heard j) → x 0 = va → x 1 = vb → x 5 = .slice a (rB own heard j).length c → x 9 = .int .i64 j →
    ∃ a' c' h', lK c45_3 98 x h (zCr 2 (sK c45_4 (zCw Tryz.f45 Tryz.prog h0))) = some (.slice a' (rB own heard heard.length).length c', done h0 h') ∧ In h0.blks.length No (nm h0) h' ∧ SE h' (.slice a' (rB own heard heard.length).length c') (rB own heard heard.length) := by
  intro m
  obtain ⟨a1, c1, rfl⟩ := s.shape
  obtain ⟨a2, c2, rfl⟩ := s2.shape
  induction m with
  | zero =>
    intro j e1 e2 x h a c hin hs sr Aa Ab Af Aj
    obtain rfl : j = heard.length := by omega
    rw [lK_eq]
    refine ⟨a, c, h, ?_, hin, sr⟩
    simp -implicitDefEqProofs (disch := omega) only [↓c45_3_eq, ↓c45_4_eq,Aa,Ab,Af,Aj, lnRs, dcF, ↓ret45, ↓zAf, ↓zAb, ↓Option.bind_some, ↓zAa, zBd, zBm, zBl, zBe, zBn, zBk, zBi, zBf, zBj, zBq, zBp, Option.bind_some, Option.bind_none, Option.map_some, zAf, zAb, zAl, zAk, zBh, zAw, zAy, zAp, zBc, zAs, zBa, zAr, zBt, zBu, zBv, zBs, zAz, zAa, zAc, zAd, zAe, zAh, zAm, zAg, zAj, zAn, zAi, zAu, zAx, zAv, zBb, zAt, Bool.not_true, Bool.not_false, zCk, zCj, zCl, zCi, zCm, zAq, zAo, zBg, zBo, zBr, cond_true, cond_false, Nat.reduceBEq]
  | succ m ih =>
    intro j hm hj x h a c hin hs sr Aa Ab Af Aj
    have hjl : j < heard.length := by omega
    rw [lK_eq]
    obtain ⟨b, of, hb, hbl, e1, e2⟩ := s2.at' (t := 31) (el := 87) (by kernel_rfl) (by kernel_rfl) hjl
    obtain ⟨f1, _⟩ := e2 h (hs.2 b hbl)
    have wj : IntKind.i64.wrap ((j : Int) + 1) = ((j + 1 : Nat) : Int) := by rw [wrap_i64] <;> omega
    have rl := rB_len own heard j hj
    obtain ⟨h2, q2, y2⟩ := spec_find (Sl.same s hs) hs1 (by omega) heard[j]
    have hs2' := hs.trans y2.same
    have in2 := hin.trans (y2.inn (Nat.le_trans hin.le hin.len))
    obtain ⟨g0, _⟩ := e2 h2 (hs2'.2 b hbl)
    have sr2 := Sl.same sr y2.same
    cases hbs : bsF own heard[j] with
    | true =>
      rw [findI_yes hbs] at q2
      have er := rB_none hjl (show gB own heard[j] = false by unfold gB; rw [hbs]; rfl)
      rw [← er] at sr2 Af
      simp -implicitDefEqProofs (disch := omega) only [↓c45_3_eq,Aa,Ab,Aj, lnRs, dcT, dcF, e1, ldR, f1, Option.map_some, entA, q2, wj, ↓zAf, ↓zAb, ↓Option.bind_some, ↓zAa, zBd, zBm, zBl, zBe, zBn, zBk, zBi, zBf, zBj, zBq, zBp, Option.bind_some, Option.bind_none, Option.map_some, zAf, zAb, zAl, zAk, zBh, zAw, zAy, zAp, zBc, zAs, zBa, zAr, zBt, zBu, zBv, zBs, zAz, zAa, zAc, zAd, zAe, zAh, zAm, zAg, zAj, zAn, zAi, zAu, zAx, zAv, zBb, zAt, Bool.not_true, Bool.not_false, zCk, zCj, zCl, zCi, zCm, zAq, zAo, zBg, zBo, zBr, cond_true, cond_false, Nat.reduceBEq]
      exact ih (j + 1) (by omega) (by omega) _ h2 a c in2 hs2' sr2 Aa Ab Af rfl
    | false =>
      rw [findI_no hbs] at q2
      cases hmo : moreF own heard[j] with
      | true =>
        rw [hmo] at q2
        have er := rB_none hjl (show gB own heard[j] = false by unfold gB; rw [hbs, hmo]; rfl)
        rw [← er] at sr2 Af
        simp -implicitDefEqProofs (disch := omega) only [↓c45_3_eq,Aa,Ab,Aj, lnRs, dcT, dcF, e1, ldR, f1, Option.map_some, entA, q2, wj, ↓zAf, ↓zAb, ↓Option.bind_some, ↓zAa, zBd, zBm, zBl, zBe, zBn, zBk, zBi, zBf, zBj, zBq, zBp, Option.bind_some, Option.bind_none, Option.map_some, zAf, zAb, zAl, zAk, zBh, zAw, zAy, zAp, zBc, zAs, zBa, zAr, zBt, zBu, zBv, zBs, zAz, zAa, zAc, zAd, zAe, zAh, zAm, zAg, zAj, zAn, zAi, zAu, zAx, zAv, zBb, zAt, Bool.not_true, Bool.not_false, zCk, zCj, zCl, zCi, zCm, zAq, zAo, zBg, zBo, zBr, cond_true, cond_false, Nat.reduceBEq]
        exact ih (j + 1) (by omega) (by omega) _ h2 a c in2 hs2' sr2 Aa Ab Af rfl
      | false =>
        rw [hmo] at q2
        have er := rB_some hjl (show gB own heard[j] = true by unfold gB; rw [hbs, hmo]; rfl)
        obtain ⟨a3, c3, h3, q3, y3, s3⟩ := spec_AddLog sr2 (by omega) heard[j]
        rw [← er] at q3 s3
        simp -implicitDefEqProofs (disch := omega) only [↓c45_3_eq,Aa,Ab,Af,Aj, lnRs, dcT, dcF, e1, ldR, f1, g0, Option.map_some, entA, q2, q3, wj, ↓zAf, ↓zAb, ↓Option.bind_some, ↓zAa, zBd, zBm, zBl, zBe, zBn, zBk, zBi, zBf, zBj, zBq, zBp, Option.bind_some, Option.bind_none, Option.map_some, zAf, zAb, zAl, zAk, zBh, zAw, zAy, zAp, zBc, zAs, zBa, zAr, zBt, zBu, zBv, zBs, zAz, zAa, zAc, zAd, zAe, zAh, zAm, zAg, zAj, zAn, zAi, zAu, zAx, zAv, zBb, zAt, Bool.not_true, Bool.not_false, zCk, zCj, zCl, zCi, zCm, zAq, zAo, zBg, zBo, zBr, cond_true, cond_false, Nat.reduceBEq]
        exact ih (j + 1) (by omega) (by omega) _ h3 a3 c3 (in2.trans (y3.inn (Nat.le_trans in2.le in2.len))) (hs2'.trans y3.same) s3 Aa Ab rfl rfl
theorem spec_JoinLog {h : Heap} {va vb : Value} {own heard : List E3} (s : SE h va own) (s2 : SE h vb heard) (w : wide own) (w2 : wide heard) (hl : own.length < 2 ^ 36) (hl2 : heard.length < 2 ^ 36) : ∃ a c h', evC Tryz.prog 45 #[va, vb] h = some (.slice a (joinE own heard).length c, h') ∧ HExt h h' ∧ SE h' (.slice a (joinE own heard).length c) (joinE own heard) := by
  rw [call45]
  obtain ⟨h2, q2,Ac⟩ := spec_GoodLog s.nm (by omega)
  have k2 : In h.blks.length No (nm h) h2 := Ac.inn (Nat.le_refl h.blks.length)
  have sa : SE h2 va own := Sl.same s.nm Ac.same
  have sb : SE h2 vb heard := Sl.same s2.nm Ac.same
  obtain ⟨a1, c1, rfl⟩ := s.shape
  obtain ⟨a2, c2, rfl⟩ := s2.shape
  cases hg : goodE own with
  | false =>
    rw [hg] at q2
    have ej : joinE own heard = own := by unfold joinE; rw [if_neg (by rw [hg]; intro k; cases k.1)]
    rw [ej]
    refine ⟨a1, c1, _, ?_, zCf k2, sa.done⟩
    simp -implicitDefEqProofs (disch := omega) only [↓c45_0_eq, q2, ↓ret45, ↓zAf, ↓zAb, ↓Option.bind_some, ↓zAa, zBd, zBm, zBl, zBe, zBn, zBk, zBi, zBf, zBj, zBq, zBp, Option.bind_some, Option.bind_none, Option.map_some, zAf, zAb, zAl, zAk, zBh, zAw, zAy, zAp, zBc, zAs, zBa, zAr, zBt, zBu, zBv, zBs, zAz, zAa, zAc, zAd, zAe, zAh, zAm, zAg, zAj, zAn, zAi, zAu, zAx, zAv, zBb, zAt, Bool.not_true, Bool.not_false, zCk, zCj, zCl, zCi, zCm, zAq, zAo, zBg, zBo, zBr, cond_true, cond_false, Nat.reduceBEq]
  | true =>
    rw [hg] at q2
    obtain ⟨h3, q3,Ad⟩ := spec_GoodLog sb (by omega)
    have k3 := k2.trans (Ad.inn (Nat.le_trans k2.le k2.len))
    have sa3 := Sl.same sa Ad.same
    have sb3 := Sl.same sb Ad.same
    cases hg2 : goodE heard with
    | false =>
      rw [hg2] at q3
      have ej : joinE own heard = own := by unfold joinE; rw [if_neg (by rw [hg2]; intro k; cases k.2)]
      rw [ej]
      refine ⟨a1, c1, _, ?_, zCf k3, sa3.done⟩
      simp -implicitDefEqProofs (disch := omega) only [↓c45_0_eq, q2, q3, ↓ret45, ↓zAf, ↓zAb, ↓Option.bind_some, ↓zAa, zBd, zBm, zBl, zBe, zBn, zBk, zBi, zBf, zBj, zBq, zBp, Option.bind_some, Option.bind_none, Option.map_some, zAf, zAb, zAl, zAk, zBh, zAw, zAy, zAp, zBc, zAs, zBa, zAr, zBt, zBu, zBv, zBs, zAz, zAa, zAc, zAd, zAe, zAh, zAm, zAg, zAj, zAn, zAi, zAu, zAx, zAv, zBb, zAt, Bool.not_true, Bool.not_false, zCk, zCj, zCl, zCi, zCm, zAq, zAo, zBg, zBo, zBr, cond_true, cond_false, Nat.reduceBEq]
    | true =>
      rw [hg2] at q3
      have t1 := ((zCx own).1 hg).2
      have t2 := ((zCx heard).1 hg2).2
      have ej : rB own heard heard.length = joinE own heard := (rB_all own heard).trans (joinR_eq hg hg2)
      simp -implicitDefEqProofs (disch := omega) only [↓c45_0_eq, q2, q3, ↓zAf, ↓zAb, ↓Option.bind_some, ↓zAa, zBd, zBm, zBl, zBe, zBn, zBk, zBi, zBf, zBj, zBq, zBp, Option.bind_some, Option.bind_none, Option.map_some, zAf, zAb, zAl, zAk, zBh, zAw, zAy, zAp, zBc, zAs, zBa, zAr, zBt, zBu, zBv, zBs, zAz, zAa, zAc, zAd, zAe, zAh, zAm, zAg, zAj, zAn, zAi, zAu, zAx, zAv, zBb, zAt, Bool.not_true, Bool.not_false, zCk, zCj, zCl, zCi, zCm, zAq, zAo, zBg, zBo, zBr, cond_true, cond_false, Nat.reduceBEq]
      refine joinA_loop (Q := fun r => ∃ a c h', r = some (Value.slice a (joinE own heard).length c, h') ∧ HExt h h' ∧ SE h' (.slice a (joinE own heard).length c) (joinE own heard)) (n0 := h.blks.length) (hS := nm h) sa3 sb3 t2 w w2 hl hl2 (fun h4 y a c hin hs sr y0 y1 y5 => ?_) own.length 0 (by omega) (by omega) _ h3 none 0 k3 (Same.refl _) (SE.nil _) ?_ ?_ ?_ ?_
      · have lp := joinB_loop (h0 := h) (Sl.same sa3 hs) (Sl.same sb3 hs) t1 hl hl2 heard.length 0 (by omega) (by omega)
        have fin' : ∀ {r : Option (Value × Heap)}, (∃ a c h', r = some (.slice a (rB own heard heard.length).length c, done h h') ∧ In h.blks.length No (nm h) h' ∧ SE h' (.slice a (rB own heard heard.length).length c) (rB own heard heard.length)) → ∃ a c h', r = some (Value.slice a (joinE own heard).length c, h') ∧ HExt h h' ∧ SE h' (.slice a (joinE own heard).length c) (joinE own heard) := fun ⟨a, c, h', q1, q2, q3⟩ => by
          rw [ej] at q1 q3
          exact ⟨a, c, _, q1, zCf q2, q3.done⟩
        simp -implicitDefEqProofs (disch := omega) only [↓c45_2_eq, ↓zAf, ↓zAb, ↓Option.bind_some, ↓zAa, zBd, zBm, zBl, zBe, zBn, zBk, zBi, zBf, zBj, zBq, zBp, Option.bind_some, Option.bind_none, Option.map_some, zAf, zAb, zAl, zAk, zBh, zAw, zAy, zAp, zBc, zAs, zBa, zAr, zBt, zBu, zBv, zBs, zAz, zAa, zAc, zAd, zAe, zAh, zAm, zAg, zAj, zAn, zAi, zAu, zAx, zAv, zBb, zAt, Bool.not_true, Bool.not_false, zCk, zCj, zCl, zCi, zCm, zAq, zAo, zBg, zBo, zBr, cond_true, cond_false, Nat.reduceBEq]
        exact fin' (lp _ h4 a c hin (Same.refl _) sr y0 y1 y5 rfl)
      all_goals rfl
end Go.Am
namespace Go.Am
open Go.Proofs
set_option maxRecDepth 100000
set_option linter.all false
attribute [local congr] zCc zCn zCp zCo zCg zCd
theorem spec_PurgeG {h : Heap} {v : Value} {es : List E3} (s : SE h v es) (hl : es.length < 2 ^ 38) (hg : goodE es = true) : ∃ a c h', evC Tryz.prog 39 #[v] h = some (.slice a (purgeE es).length c, h') ∧ HExt h h' ∧ AR 0 h' (.slice a (purgeE es).length c) (purgeE es) := by
  rw [call39]
  obtain ⟨h2, q2,Ac⟩ := spec_GoodLog s.nm (by omega)
  have k2 : In h.blks.length No (nm h) h2 := Ac.inn (Nat.le_refl h.blks.length)
  have s2 : SE h2 v es := Sl.same s.nm Ac.same
  obtain ⟨va, vc, rfl⟩ := s.shape
  unfold purgeE
  rw [hg] at q2
  have lp := purgeR_loop (h0 := h) s2 hl Ac.len es.length 0 (by omega) (by omega)
  have fin' : ∀ {r : Option (Value × Heap)}, (∃ a c h', r = some (.slice a (zCv es).length c, done h h') ∧ In h.blks.length No (nm h) h' ∧ AR h2.blks.length h' (.slice a (zCv es).length c) (zCv es)) → ∃ a c h', r = some (.slice a (zCv es).length c, h') ∧ HExt h h' ∧ AR 0 h' (.slice a (zCv es).length c) (zCv es) := fun ⟨a, c, h', q1, q2, q3⟩ => ⟨a, c, _, q1, zCf q2, Acc.done (q3.up (Nat.zero_le _))⟩
  simp only [hg, if_true]
  simp -implicitDefEqProofs (disch := omega) only [↓c39_0_eq, q2, ↓zAf, ↓zAb, ↓Option.bind_some, ↓zAa, zBd, zBm, zBl, zBe, zBn, zBk, zBi, zBf, zBj, zBq, zBp, Option.bind_some, Option.bind_none, Option.map_some, zAf, zAb, zAl, zAk, zBh, zAw, zAy, zAp, zBc, zAs, zBa, zAr, zBt, zBu, zBv, zBs, zAz, zAa, zAc, zAd, zAe, zAh, zAm, zAg, zAj, zAn, zAi, zAu, zAx, zAv, zBb, zAt, Bool.not_true, Bool.not_false, zCk, zCj, zCl, zCi, zCm, zAq, zAo, zBg, zBo, zBr, cond_true, cond_false, Nat.reduceBEq]
  refine fin' (lp _ _ none 0 [] k2 (Same.refl _) (AR.nil _ _) (by rw [List.drop_zero]; rfl) ?_ ?_ ?_)
  all_goals rfl
end Go.Am
namespace Go.Am
open Go.Proofs
set_option maxRecDepth 100000
set_option linter.all false
attribute [local congr] zCc zCn zCp zCo zCg zCd
theorem allN_succS (i : Nat) : allN i ||| 2 ^ i = allN (i + 1) := by
  unfold allN
  refine Nat.eq_of_testBit_eq fun j => ?_
  rw [Nat.testBit_or, Nat.testBit_two_pow_sub_one, Nat.testBit_two_pow_sub_one, Nat.testBit_two_pow]
  by_cases h : j < i
  · simp [h]; omega
  · by_cases e : i = j
    · simp [e]
    · have : ¬ j < i + 1 := by omega
      simp [h, e, this]
theorem allN_ltS {i : Nat} (h : i ≤ 63) : allN i < 2 ^ 64 := by unfold allN; have : 2 ^ i < 2 ^ 64 := Nat.pow_lt_pow_right (by omega) (by omega); omega
theorem shlS (t : TypeId) (xo yo : Operand) (p : Nat) (hp : p < 64) : binV Tryz.prog .shl t xo yo (.int .u64 1) (.int .u64 p) = some (.int .u64 ((2 ^ p : Nat) : Int)) := by
  have h2 : 2 ^ p < 2 ^ 64 := Nat.pow_lt_pow_right (by omega) hp
  rw [bin_shl64 _ _ _ _ _ _ (by omega) (by omega) (by omega), Int.toNat_natCast, show (1 : Int).toNat = 1 from rfl, Nat.one_mul, Nat.mod_eq_of_lt h2]
theorem orS (t : TypeId) (xo yo : Operand) (a b : Nat) (ha : a < 2 ^ 64) (hb : b < 2 ^ 64) : binV Tryz.prog .or t xo yo (.int .u64 a) (.int .u64 b) = some (.int .u64 ((a ||| b : Nat) : Int)) := by
  rw [bin_or64 _ _ _ _ _ (by omega) (by omega) (by omega) (by omega), Int.toNat_natCast, Int.toNat_natCast]
theorem allofS_loop {h0 h : Heap} {n : Nat} (hn : n ≤ 16) : ∀ (mm i : Nat), n = i + mm → ∀ x : Nat → Value, x 0 = .int .i64 n → x 3 = .int .u64 (allN i : Nat) → x 4 = .int .i64 i →
    lK c20_1 20 x h (zCr 0 (sK c20_2 (zCw Tryz.f20 Tryz.prog h0))) = some (.int .u64 (allN n : Nat), done h0 h) := by
  intro mm
  induction mm with
  | zero =>
    intro i hi x Aa Ad Ae
    obtain rfl : n = i := by omega
    rw [lK_eq]
    simp -implicitDefEqProofs (disch := omega) only [↓c20_1_eq, ↓c20_2_eq, dcT, dcF,Aa,Ad,Ae, ↓ret20, ↓zAf, ↓zAb, ↓Option.bind_some, ↓zAa, zBd, zBm, zBl, zBe, zBn, zBk, zBi, zBf, zBj, zBq, zBp, Option.bind_some, Option.bind_none, Option.map_some, zAf, zAb, zAl, zAk, zBh, zAw, zAy, zAp, zBc, zAs, zBa, zAr, zBt, zBu, zBv, zBs, zAz, zAa, zAc, zAd, zAe, zAh, zAm, zAg, zAj, zAn, zAi, zAu, zAx, zAv, zBb, zAt, Bool.not_true, Bool.not_false, zCk, zCj, zCl, zCi, zCm, zAq, zAo, zBg, zBo, zBr, cond_true, cond_false, Nat.reduceBEq]
  | succ mm ih =>
    intro i hi x Aa Ad Ae
    rw [lK_eq]
    have hw : IntKind.wrap .i64 ((i : Int) + 1) = ((i + 1 : Nat) : Int) := by rw [wrap_i64] <;> omega
    have cv := fun h => cvUint (i : Int) h (by omega) (by omega)
    have e1 := fun t xo yo => shlS t xo yo i (by omega)
    have e2 := fun t xo yo => orS t xo yo (allN i) (2 ^ i) (allN_ltS (by omega)) (Nat.pow_lt_pow_right (by omega) (by omega))
    rw [allN_succS] at e2
    simp -implicitDefEqProofs (disch := omega) only [↓c20_1_eq, dcT, dcF,Aa,Ad,Ae, cv, e1, e2, hw, ↓zAf, ↓zAb, ↓Option.bind_some, ↓zAa, zBd, zBm, zBl, zBe, zBn, zBk, zBi, zBf, zBj, zBq, zBp, Option.bind_some, Option.bind_none, Option.map_some, zAf, zAb, zAl, zAk, zBh, zAw, zAy, zAp, zBc, zAs, zBa, zAr, zBt, zBu, zBv, zBs, zAz, zAa, zAc, zAd, zAe, zAh, zAm, zAg, zAj, zAn, zAi, zAu, zAx, zAv, zBb, zAt, Bool.not_true, Bool.not_false, zCk, zCj, zCl, zCi, zCm, zAq, zAo, zBg, zBo, zBr, cond_true, cond_false, Nat.reduceBEq]
    exact ih (i + 1) (by omega) _ Aa rfl rfl
theorem spec_AllOfS (n : Nat) (hn : n ≤ 16) (h : Heap) : evC Tryz.prog 20 #[.int .i64 n] h = some (.int .u64 (allN n : Nat), h) := by
  rw [call20]
  simp -implicitDefEqProofs (disch := omega) only [↓c20_0_eq, ↓zAf, ↓zAb, ↓Option.bind_some, ↓zAa, zBd, zBm, zBl, zBe, zBn, zBk, zBi, zBf, zBj, zBq, zBp, Option.bind_some, Option.bind_none, Option.map_some, zAf, zAb, zAl, zAk, zBh, zAw, zAy, zAp, zBc, zAs, zBa, zAr, zBt, zBu, zBv, zBs, zAz, zAa, zAc, zAd, zAe, zAh, zAm, zAg, zAj, zAn, zAi, zAu, zAx, zAv, zBb, zAt, Bool.not_true, Bool.not_false, zCk, zCj, zCl, zCi, zCm, zAq, zAo, zBg, zBo, zBr, cond_true, cond_false, Nat.reduceBEq]
  exact allofS_loop (h0 := h) (h := nm h) hn n 0 (by omega) _ rfl rfl rfl
def bitsTo (s k : Nat) : List Nat := (List.range k).filter fun (i : Nat) => s.testBit i
theorem bitsTo_succ (s k : Nat) : bitsTo s (k + 1) = bitsTo s k ++ (if s.testBit k = true then [k] else []) := by
  unfold bitsTo
  rw [List.range_succ, List.filter_append]
  congr 1
  by_cases h : s.testBit k = true
  · rw [if_pos h]; simp [h]
  · rw [if_neg h]; simp [h]
theorem bitsTo_len (s k : Nat) : (bitsTo s k).length ≤ k := by
  unfold bitsTo
  exact Nat.le_trans (List.length_filter_le ..) (by simp)
theorem listS_loop {h0 : Heap} {s : Nat} (hs : s < 2 ^ 64) : ∀ (mm i : Nat), 64 = i + mm → ∀ (x : Nat → Value) (h : Heap) (a : Option Addr) (c : Nat),In h0.blks.length No (nm h0) h → AI h0.blks.length h (.slice a (bitsTo s i).length c) (bitsTo s i) →
    x 0 = .int .u64 s → x 3 = .slice a (bitsTo s i).length c → x 4 = .int .i64 i →
    ∃ a' c' h', lK c23_1 17 x h (zCr 0 (sK c23_2 (zCw Tryz.f23 Tryz.prog h0))) = some (.slice a' (bitsTo s 64).length c', done h0 h') ∧ In h0.blks.length No (nm h0) h' ∧ AI h0.blks.length h' (.slice a' (bitsTo s 64).length c') (bitsTo s 64) := by
  intro mm
  induction mm with
  | zero =>
    intro i hi x h a c hin ha Aa Ad Ae
    obtain rfl : i = 64 := by omega
    rw [lK_eq]
    refine ⟨a, c, h, ?_, hin, ha⟩
    simp -implicitDefEqProofs (disch := omega) only [↓c23_1_eq, ↓c23_2_eq, dcF,Aa,Ad,Ae, ↓ret23, ↓zAf, ↓zAb, ↓Option.bind_some, ↓zAa, zBd, zBm, zBl, zBe, zBn, zBk, zBi, zBf, zBj, zBq, zBp, Option.bind_some, Option.bind_none, Option.map_some, zAf, zAb, zAl, zAk, zBh, zAw, zAy, zAp, zBc, zAs, zBa, zAr, zBt, zBu, zBv, zBs, zAz, zAa, zAc, zAd, zAe, zAh, zAm, zAg, zAj, zAn, zAi, zAu, zAx, zAv, zBb, zAt, Bool.not_true, Bool.not_false, zCk, zCj, zCl, zCi, zCm, zAq, zAo, zBg, zBo, zBr, cond_true, cond_false, Nat.reduceBEq]
  | succ mm ih =>
    intro i hi x h a c hin ha Aa Ad Ae
    rw [lK_eq]
    have hw : IntKind.wrap .i64 ((i : Int) + 1) = ((i + 1 : Nat) : Int) := by rw [wrap_i64] <;> omega
    have hh := spec_In s hs (i : Int) h
    have hb := bitsTo_succ s i
    have hbl := bitsTo_len s i
    have e0 : hasB s (i : Int) = s.testBit i := by unfold hasB; rw [decide_eq_true (by omega), Int.toNat_natCast]; rfl
    rw [e0] at hh
    cases hv : s.testBit i with
    | true =>
      rw [hv] at hh
      rw [hv, if_pos rfl] at hb
      obtain ⟨a', c', h2, g1, g2, g3, g4⟩ := app_int (Nat.le_trans hin.le hin.len) ha i (by omega)
      rw [← hb] at g1 g2
      have k1 := mkI1 (i : Nat) h
      simp -implicitDefEqProofs (disch := omega) only [↓c23_1_eq, dcT,Aa,Ad,Ae, hh, k1, g1, hw, ↓zAf, ↓zAb, ↓Option.bind_some, ↓zAa, zBd, zBm, zBl, zBe, zBn, zBk, zBi, zBf, zBj, zBq, zBp, Option.bind_some, Option.bind_none, Option.map_some, zAf, zAb, zAl, zAk, zBh, zAw, zAy, zAp, zBc, zAs, zBa, zAr, zBt, zBu, zBv, zBs, zAz, zAa, zAc, zAd, zAe, zAh, zAm, zAg, zAj, zAn, zAi, zAu, zAx, zAv, zBb, zAt, Bool.not_true, Bool.not_false, zCk, zCj, zCl, zCi, zCm, zAq, zAo, zBg, zBo, zBr, cond_true, cond_false, Nat.reduceBEq]
      exact ih (i + 1) (by omega) _ h2 a' c' (hin.trans (Keeps.inn (S := No) g3)) g2 Aa rfl rfl
    | false =>
      rw [hv] at hh
      rw [hv, if_neg (by simp), List.append_nil] at hb
      rw [← hb] at ha Ad
      simp -implicitDefEqProofs (disch := omega) only [↓c23_1_eq, dcT,Aa,Ae, hh, hw, ↓zAf, ↓zAb, ↓Option.bind_some, ↓zAa, zBd, zBm, zBl, zBe, zBn, zBk, zBi, zBf, zBj, zBq, zBp, Option.bind_some, Option.bind_none, Option.map_some, zAf, zAb, zAl, zAk, zBh, zAw, zAy, zAp, zBc, zAs, zBa, zAr, zBt, zBu, zBv, zBs, zAz, zAa, zAc, zAd, zAe, zAh, zAm, zAg, zAj, zAn, zAi, zAu, zAx, zAv, zBb, zAt, Bool.not_true, Bool.not_false, zCk, zCj, zCl, zCi, zCm, zAq, zAo, zBg, zBo, zBr, cond_true, cond_false, Nat.reduceBEq]
      exact ih (i + 1) (by omega) _ h a c hin ha Aa Ad rfl
theorem spec_ListS (s : Nat) (hs : s < 2 ^ 64) (h : Heap) : ∃ a c h', evC Tryz.prog 23 #[.int .u64 s] h = some (.slice a (bitsTo s 64).length c, h') ∧ HExt h h' ∧ AI h.blks.length h' (.slice a (bitsTo s 64).length c) (bitsTo s 64) := by
  rw [call23]
  have lp := listS_loop (h0 := h) hs 64 0 (by omega)
  have fin' : ∀ {r : Option (Value × Heap)}, (∃ a c h', r = some (.slice a (bitsTo s 64).length c, done h h') ∧ In h.blks.length No (nm h) h' ∧ AI h.blks.length h' (.slice a (bitsTo s 64).length c) (bitsTo s 64)) → ∃ a c h', r = some (.slice a (bitsTo s 64).length c, h') ∧ HExt h h' ∧ AI h.blks.length h' (.slice a (bitsTo s 64).length c) (bitsTo s 64) := fun ⟨a, c, h', q1, q2, q3⟩ => ⟨a, c, _, q1, zCf q2, Acc.done q3⟩
  simp -implicitDefEqProofs (disch := omega) only [↓c23_0_eq, ↓zAf, ↓zAb, ↓Option.bind_some, ↓zAa, zBd, zBm, zBl, zBe, zBn, zBk, zBi, zBf, zBj, zBq, zBp, Option.bind_some, Option.bind_none, Option.map_some, zAf, zAb, zAl, zAk, zBh, zAw, zAy, zAp, zBc, zAs, zBa, zAr, zBt, zBu, zBv, zBs, zAz, zAa, zAc, zAd, zAe, zAh, zAm, zAg, zAj, zAn, zAi, zAu, zAx, zAv, zBb, zAt, Bool.not_true, Bool.not_false, zCk, zCj, zCl, zCi, zCm, zAq, zAo, zBg, zBo, zBr, cond_true, cond_false, Nat.reduceBEq]
  refine fin' (lp _ _ none 0 (In.refl (Nat.le_refl _)) .nil ?_ ?_ ?_)
  all_goals rfl
end Go.Am
namespace Go.Am
open Go.Proofs
set_option maxRecDepth 100000
set_option linter.all false
attribute [local congr] zCc zCn zCp zCo zCg zCd
theorem putR_loop {h0 h1 : Heap} {v : Value} {es : List E3} {p : Nat} (s : SE h1 v es) (hv : Lo v p) (hw : wide es) (hf : ∀ e ∈ es, 0 ≤ e.f ∧ e.f < 2 ^ 63) (hl : es.length < 2 ^ 32) (hn : h0.blks.length ≤ p) (hp1 : p ≤ h1.blks.length) :
    ∀ (m i : Nat), es.length - i = m → i ≤ es.length → ∀ (x : Nat → Value) (h : Heap),In h0.blks.length No (nm h0) h → Old p h1 h → WrR p h p (putL es.length ++ encL (es.take i)) →
    x 0 = v → x 3 = .pointer (some ⟨p, 0, none⟩) → x 4 = .int .i64 i →
    ∃ a c h', lK c38_1 47 x h (zCr 0 (sK c38_2 (zCw Tryz.f38 Tryz.prog h0))) = some (.slice a (logB es).length c, done h0 h') ∧ In h0.blks.length No (nm h0) h' ∧ AB h0.blks.length h' (.slice a (logB es).length c) (logB es) := by
  intro m
  obtain ⟨va, vc, rfl⟩ := s.shape
  have ll : ∀ i, (encL (es.take i)).length ≤ 30 * es.length := fun i => by
    have := encL_le (es.take i) (fun e he => (hf e (List.mem_of_mem_take he)).2) (fun e he => hw e (List.mem_of_mem_take he))
    have h2 : (es.take i).length ≤ es.length := by rw [List.length_take]; omega
    omega
  have l0 := putL_le es.length (by omega)
  induction m with
  | zero =>
    intro i e1 e2 x h hin ho w Aa Ad Ae
    obtain rfl : i = es.length := by omega
    rw [List.take_length] at w
    obtain ⟨a, c, q1, q2, q3⟩ := w
    have hla := q1.load 0
    rw [lK_eq]
    refine ⟨a, c, h, ?_, hin, Acc.up q2 hn⟩
    have hld : h.load1 p 0 = some (.slice a (logB es).length c) := hla
    simp -implicitDefEqProofs (disch := omega) only [↓c38_1_eq, ↓c38_2_eq,Aa,Ad,Ae, lnRs, dcF, faRW, ldB, hld, ↓ret38, ↓zAf, ↓zAb, ↓Option.bind_some, ↓zAa, zBd, zBm, zBl, zBe, zBn, zBk, zBi, zBf, zBj, zBq, zBp, Option.bind_some, Option.bind_none, Option.map_some, zAf, zAb, zAl, zAk, zBh, zAw, zAy, zAp, zBc, zAs, zBa, zAr, zBt, zBu, zBv, zBs, zAz, zAa, zAc, zAd, zAe, zAh, zAm, zAg, zAj, zAn, zAi, zAu, zAx, zAv, zBb, zAt, Bool.not_true, Bool.not_false, zCk, zCj, zCl, zCi, zCm, zAq, zAo, zBg, zBo, zBr, cond_true, cond_false, Nat.reduceBEq]
  | succ m ih =>
    intro i hm hi x h hin ho w Aa Ad Ae
    have hil : i < es.length := by omega
    have hph : p ≤ h.blks.length := Nat.le_trans hp1 ho.1
    obtain ⟨b, of, hb, hbl, e1, e2⟩ := s.at' (t := 31) (el := 87) (by kernel_rfl) (by kernel_rfl) hil
    obtain ⟨_, f1, f2, f3⟩ := e2 h (ho.2 b (hv b hb))
    have wd := hw es[i] (List.getElem_mem hil)
    have fd := hf es[i] (List.getElem_mem hil)
    have wlt := w.lt
    have bl := ll i
    have p1 := putL_le es[i].f.toNat (by omega)
    have p2 := putL_le es[i].n wd.1
    have p3 := putL_le es[i].t wd.2
    obtain ⟨hC, q1, q2, q3⟩ := spec_RWNum w hph es[i].f.toNat (by omega) (by rw [List.length_append]; omega)
    rw [Int.toNat_of_nonneg fd.1] at q1
    have lC := q2.len
    have oC := ho.trans (q2.to (Nat.le_refl _) hph)
    obtain ⟨_, _, f2', _⟩ := e2 hC (oC.2 b (hv b hb))
    obtain ⟨hD, r1, r2, r3⟩ := spec_RWNum (q3.up (n1 := p) (by omega)) (by omega) es[i].n wd.1 (by simp only [List.length_append]; omega)
    have lD := r2.len
    have oD := oC.trans (r2.to (Nat.le_refl _) (by omega))
    obtain ⟨_, _, _, f3'⟩ := e2 hD (oD.2 b (hv b hb))
    obtain ⟨hE, s1, s2, s3⟩ := spec_RWNum (r3.up (n1 := p) (by omega)) (by omega) es[i].t wd.2 (by simp only [List.length_append]; omega)
    have lE := s2.len
    have oE := oD.trans (s2.to (Nat.le_refl _) (by omega))
    have cv := fun h => cvI64 es[i].f h fd.1 fd.2
    have wi : IntKind.i64.wrap ((i : Int) + 1) = ((i + 1 : Nat) : Int) := by rw [wrap_i64] <;> omega
    have ht : es.take i ++ [es[i]] = es.take (i + 1) := by rw [List.take_succ, List.getElem?_eq_getElem hil]; rfl
    have hsn := encL_snoc (es.take i) es[i]
    rw [ht] at hsn
    have w2 : WrR p hE p (putL es.length ++ encL (es.take (i + 1))) := by
      have := s3.up (n1 := p) (by omega)
      rw [hsn]
      simpa [encE, List.append_assoc] using this
    have hb0 : ∀ b, b < h0.blks.length → Just p b → No b := fun b hb e => by have : b = p := e; omega
    have hin2 := ((hin.trans (q2.inn (by omega) hb0)).trans (r2.inn (by omega) hb0)).trans (s2.inn (by omega) hb0)
    rw [lK_eq]
    simp -implicitDefEqProofs (disch := omega) only [↓c38_1_eq, ↓c38_2_eq,Aa,Ad,Ae, lnRs, dcT, e1, faRe0, faRe1, faRe2, ldI, ldU, f1, f2', f3', cv, q1, r1, s1, wi, ↓zAf, ↓zAb, ↓Option.bind_some, ↓zAa, zBd, zBm, zBl, zBe, zBn, zBk, zBi, zBf, zBj, zBq, zBp, Option.bind_some, Option.bind_none, Option.map_some, zAf, zAb, zAl, zAk, zBh, zAw, zAy, zAp, zBc, zAs, zBa, zAr, zBt, zBu, zBv, zBs, zAz, zAa, zAc, zAd, zAe, zAh, zAm, zAg, zAj, zAn, zAi, zAu, zAx, zAv, zBb, zAt, Bool.not_true, Bool.not_false, zCk, zCj, zCl, zCi, zCm, zAq, zAo, zBg, zBo, zBr, cond_true, cond_false, Nat.reduceBEq]
    refine ih (i + 1) (by omega) (by omega) _ hE hin2 oE w2 ?_ ?_ ?_
    · exact Aa
    · exact Ad
    · rfl
theorem spec_PutLog {h : Heap} {v : Value} {es : List E3} (s : SE h v es) (hw : wide es) (hl : es.length < 2 ^ 32) : ∃ a c h', evC Tryz.prog 38 #[v] h = some (.slice a (putE es).length c, h') ∧ HExt h h' ∧ AB h.blks.length h' (.slice a (putE es).length c) (putE es) := by
  rw [call38]
  obtain ⟨h2, q2,Ac⟩ := spec_GoodLog s.nm (by omega)
  have hx2 := Ac.len
  have k2 : In h.blks.length No (nm h) h2 := Ac.inn (Nat.le_refl h.blks.length)
  unfold putE
  cases hg : goodE es with
  | false =>
    rw [hg] at q2
    refine ⟨none, 0, _, ?_, zCf k2, Acc.done .nil⟩
    simp -implicitDefEqProofs (disch := omega) only [↓c38_0_eq, q2, ↓ret38, ↓zAf, ↓zAb, ↓Option.bind_some, ↓zAa, zBd, zBm, zBl, zBe, zBn, zBk, zBi, zBf, zBj, zBq, zBp, Option.bind_some, Option.bind_none, Option.map_some, zAf, zAb, zAl, zAk, zBh, zAw, zAy, zAp, zBc, zAs, zBa, zAr, zBt, zBu, zBv, zBs, zAz, zAa, zAc, zAd, zAe, zAh, zAm, zAg, zAj, zAn, zAi, zAu, zAx, zAv, zBb, zAt, Bool.not_true, Bool.not_false, zCk, zCj, zCl, zCi, zCm, zAq, zAo, zBg, zBo, zBr, cond_true, cond_false, Nat.reduceBEq]
    rfl
  | true =>
    rw [hg] at q2
    have hf := good_f hg
    have s2 := s.nm.ext Ac
    have lo := Sl.lo s2
    have c3 := Cells.new h2 153 [.slice none 0 0]
    have s3 := Sl.keepNew s2 (.cells [.slice none 0 0]) 153
    have k3 := k2.trans (In.new (S := No) hx2 (.cells [.slice none 0 0]) 153)
    have n3 : (h2.new (.cells [.slice none 0 0]) 153).blks.length = h2.blks.length + 1 := by simp [Heap.new]
    generalize hh3 : h2.new (.cells [.slice none 0 0]) 153 = h3 at c3 s3 k3 n3
    have w3 : WrR h3.blks.length h3 h2.blks.length [] := ⟨none, 0, c3, .nil, fun e => by cases e⟩
    obtain ⟨a, c, rfl⟩ := s.shape
    have cv := fun h => cvI64 (es.length : Int) h (by omega) (by omega)
    obtain ⟨h4, q4,Ae, w4⟩ := spec_RWNum w3 (by omega) es.length (by omega) (by simp)
    have hx4 := Ae.len
    have hx2' : h.blks.length ≤ h2.blks.length := hx2
    have o4 : Old h2.blks.length h3 h4 := Ae.to (Nat.le_refl _) (by omega)
    have s4 : SE h4 (.slice a es.length c) es := Sl.old s3 o4 lo
    have k4 := k3.trans (Ae.inn (by omega) (fun b hb e => by have : b = h2.blks.length := e; omega))
    have lp := putR_loop (h0 := h) s4 lo hw (fun e he => ⟨(hf e he).1, by have := (hf e he).2.1; omega⟩) hl (by omega) (by omega) es.length 0 (by omega) (by omega)
    have fin' : ∀ {r : Option (Value × Heap)}, (∃ a c h', r = some (.slice a (logB es).length c, done h h') ∧ In h.blks.length No (nm h) h' ∧ AB h.blks.length h' (.slice a (logB es).length c) (logB es)) → ∃ a c h', r = some (.slice a (logB es).length c, h') ∧ HExt h h' ∧ AB h.blks.length h' (.slice a (logB es).length c) (logB es) := fun ⟨a, c, h', g1, g2, g3⟩ => ⟨a, c, _, g1, zCf g2, Acc.done g3⟩
    simp only [if_true]
    simp -implicitDefEqProofs (disch := omega) only [↓c38_0_eq, q2, bdRW, bxRW, hh3, lnRs, cv, q4, ↓zAf, ↓zAb, ↓Option.bind_some, ↓zAa, zBd, zBm, zBl, zBe, zBn, zBk, zBi, zBf, zBj, zBq, zBp, Option.bind_some, Option.bind_none, Option.map_some, zAf, zAb, zAl, zAk, zBh, zAw, zAy, zAp, zBc, zAs, zBa, zAr, zBt, zBu, zBv, zBs, zAz, zAa, zAc, zAd, zAe, zAh, zAm, zAg, zAj, zAn, zAi, zAu, zAx, zAv, zBb, zAt, Bool.not_true, Bool.not_false, zCk, zCj, zCl, zCi, zCm, zAq, zAo, zBg, zBo, zBr, cond_true, cond_false, Nat.reduceBEq]
    refine fin' (lp _ _ k4 (Old.refl _ _) ?_ ?_ ?_ ?_)
    · rw [List.take_zero, show encL [] = [] from rfl, List.append_nil, ← List.nil_append (putL es.length)]; exact w4.up (by omega)
    all_goals rfl
theorem alRe (h : Heap) : allocV Tryz.prog 87 h = some (.pointer (some ⟨h.blks.length, 0, none⟩), h.new (.cells [.int .i64 0, .int .u64 0, .int .u64 0]) 87) := by kernel_rfl
theorem stRe (p : Nat) (a b c : Int) (h : Heap) : storeV Tryz.prog 87 (.pointer (some ⟨p, 0, none⟩)) (.agg #[.int .i64 a, .int .u64 b, .int .u64 c]) h = h.storeN p 0 [.int .i64 a, .int .u64 b, .int .u64 c] := by kernel_rfl
theorem stU64 (p o : Nat) (k : IntKind) (n : Int) (h : Heap) : storeV Tryz.prog 30 (.pointer (some ⟨p, o, none⟩)) (.int k n) h = h.storeN p o [.int k n] := by kernel_rfl
theorem bdR1 (a : Int) : buildV Tryz.prog 87 #[(0, .int .i64 a)] = some (.agg #[.int .i64 a, .int .u64 0, .int .u64 0]) := by kernel_rfl
theorem nc (p o : Nat) : zBy Tryz.prog (.pointer (some ⟨p, o, none⟩)) = some (.pointer (some ⟨p, o, none⟩)) := rfl
theorem RdrR.old {N k : Nat} {h h' : Heap} {p : Nat} {r : Option (List UInt8)} (w : RdrR N h p r) (o : Old k h h') (hp : p < k) : RdrR N h' p r :=
  let ⟨a, c, x, y, z⟩ := w
  ⟨a, c, x.old o hp, y.old o fun b hb => by have := z.1 b hb; have := z.2; omega, z⟩
theorem getR_stop {h0 : Heap} {n1 p N : Nat} {a : Option Addr} {acc : List E3} {c : Nat} {r : Option (List UInt8)} (hl : acc.length < 2 ^ 38) (x : Nat → Value) (h : Heap) (hin : In h0.blks.length No (nm h0) h) (w : RdrR N h p r) (ha : AR n1 h (.slice a acc.length c) acc)
    (Ae : x 4 = .pointer (some ⟨p, 0, none⟩)) (Ag : x 6 = .slice a acc.length c) :
    ∃ a' c' h', cK c44_2 49 x h (zCw Tryz.f44 Tryz.prog h0) = some (.tuple #[.slice a' ((logOf (acc, r)).getD []).length c', .bool (logOf (acc, r)).isSome], done h0 h') ∧ In h0.blks.length No (nm h0) h' ∧ AR n1 h' (.slice a' ((logOf (acc, r)).getD []).length c') ((logOf (acc, r)).getD []) := by
  have e1 := spec_RREnd w
  cases hE : endP r with
  | false =>
    rw [hE] at e1
    have hlo : logOf (acc, r) = none := by unfold logOf; rw [if_neg (by simp [hE])]
    rw [hlo]
    refine ⟨none, 0, h, ?_, hin, AR.nil _ _⟩
    simp -implicitDefEqProofs (disch := omega) only [↓c44_2_eq,Ae,Ag, e1, ↓ret44, ↓zAf, ↓zAb, ↓Option.bind_some, ↓zAa, zBd, zBm, zBl, zBe, zBn, zBk, zBi, zBf, zBj, zBq, zBp, Option.bind_some, Option.bind_none, Option.map_some, zAf, zAb, zAl, zAk, zBh, zAw, zAy, zAp, zBc, zAs, zBa, zAr, zBt, zBu, zBv, zBs, zAz, zAa, zAc, zAd, zAe, zAh, zAm, zAg, zAj, zAn, zAi, zAu, zAx, zAv, zBb, zAt, Bool.not_true, Bool.not_false, zCk, zCj, zCl, zCi, zCm, zAq, zAo, zBg, zBo, zBr, cond_true, cond_false, Nat.reduceBEq]
    rfl
  | true =>
    rw [hE] at e1
    obtain ⟨h2, q2, y2⟩ := spec_GoodLog ha.se (by omega)
    have k2 := hin.trans (y2.inn (Nat.le_trans hin.le hin.len))
    cases hg : goodE acc with
    | false =>
      rw [hg] at q2
      have hlo : logOf (acc, r) = none := by unfold logOf; rw [if_neg (by simp [hg])]
      rw [hlo]
      refine ⟨none, 0, h2, ?_, k2, AR.nil _ _⟩
      simp -implicitDefEqProofs (disch := omega) only [↓c44_2_eq,Ae,Ag, e1, q2, ↓ret44, ↓zAf, ↓zAb, ↓Option.bind_some, ↓zAa, zBd, zBm, zBl, zBe, zBn, zBk, zBi, zBf, zBj, zBq, zBp, Option.bind_some, Option.bind_none, Option.map_some, zAf, zAb, zAl, zAk, zBh, zAw, zAy, zAp, zBc, zAs, zBa, zAr, zBt, zBu, zBv, zBs, zAz, zAa, zAc, zAd, zAe, zAh, zAm, zAg, zAj, zAn, zAi, zAu, zAx, zAv, zBb, zAt, Bool.not_true, Bool.not_false, zCk, zCj, zCl, zCi, zCm, zAq, zAo, zBg, zBo, zBr, cond_true, cond_false, Nat.reduceBEq]
      rfl
    | true =>
      rw [hg] at q2
      have hlo : logOf (acc, r) = some acc := by unfold logOf; rw [if_pos ⟨hE, hg⟩]
      rw [hlo]
      refine ⟨a, c, h2, ?_, k2, ha.same y2.same⟩
      simp -implicitDefEqProofs (disch := omega) only [↓c44_2_eq,Ae,Ag, e1, q2, Option.getD_some, Option.isSome_some, ↓ret44, ↓zAf, ↓zAb, ↓Option.bind_some, ↓zAa, zBd, zBm, zBl, zBe, zBn, zBk, zBi, zBf, zBj, zBq, zBp, Option.bind_some, Option.bind_none, Option.map_some, zAf, zAb, zAl, zAk, zBh, zAw, zAy, zAp, zBc, zAs, zBa, zAr, zBt, zBu, zBv, zBs, zAz, zAa, zAc, zAd, zAe, zAh, zAm, zAg, zAj, zAn, zAi, zAu, zAx, zAv, zBb, zAt, Bool.not_true, Bool.not_false, zCk, zCj, zCl, zCi, zCm, zAq, zAo, zBg, zBo, zBr, cond_true, cond_false, Nat.reduceBEq]
theorem getR_loop {h0 : Heap} {p N T : Nat} (hn : h0.blks.length ≤ p) (hT : T < 2 ^ 33) :
    ∀ (n i : Nat) (r : Option (List UInt8)) (acc : List E3), i + n = T → acc.length = i → (rbs r).length < 2 ^ 30 → wide acc → ∀ (x : Nat → Value) (h : Heap) (a : Option Addr) (c : Nat),In h0.blks.length No (nm h0) h → RdrR N h p r → AR (p + 1) h (.slice a acc.length c) acc →
    x 4 = .pointer (some ⟨p, 0, none⟩) → x 5 = .int .u64 T → x 6 = .slice a acc.length c → x 7 = .int .u64 i →
    ∃ a' c' h', lK c44_1 49 x h (zCr 0 (sK c44_2 (zCw Tryz.f44 Tryz.prog h0))) = some (.tuple #[.slice a' ((logOf (acc ++ (rdR n r).1, (rdR n r).2)).getD []).length c', .bool (logOf (acc ++ (rdR n r).1, (rdR n r).2)).isSome], done h0 h') ∧ In h0.blks.length No (nm h0) h' ∧ AR (p + 1) h' (.slice a' ((logOf (acc ++ (rdR n r).1, (rdR n r).2)).getD []).length c') ((logOf (acc ++ (rdR n r).1, (rdR n r).2)).getD []) := by
  intro n
  induction n with
  | zero =>
    intro i r acc e1 e2 hr hw x h a c hin w ha Ae Af Ag Ah
    obtain rfl : i = T := by omega
    simp only [rdR, List.append_nil]
    have dl : decide ((i : Int) < i) = false := decide_eq_false (by omega)
    rw [lK_eq]
    simp -implicitDefEqProofs (disch := omega) only [↓c44_1_eq,Ae,Af,Ag,Ah, dl, ↓zAf, ↓zAb, ↓Option.bind_some, ↓zAa, zBd, zBm, zBl, zBe, zBn, zBk, zBi, zBf, zBj, zBq, zBp, Option.bind_some, Option.bind_none, Option.map_some, zAf, zAb, zAl, zAk, zBh, zAw, zAy, zAp, zBc, zAs, zBa, zAr, zBt, zBu, zBv, zBs, zAz, zAa, zAc, zAd, zAe, zAh, zAm, zAg, zAj, zAn, zAi, zAu, zAx, zAv, zBb, zAt, Bool.not_true, Bool.not_false, zCk, zCj, zCl, zCi, zCm, zAq, zAo, zBg, zBo, zBr, cond_true, cond_false, Nat.reduceBEq]
    refine getR_stop (by omega) _ h hin w ha ?_ ?_
    · exact Ae
    · exact Ag
  | succ n ih =>
    intro i r acc e1 e2 hr hw x h a c hin w ha Ae Af Ag Ah
    have dl : decide ((i : Int) < T) = true := decide_eq_true (by omega)
    cases r with
    | none =>
      obtain ⟨ra, rc, hc, _, _⟩ := id w
      have lb : h.load1 p 1 = some (.bool (none : Option (List UInt8)).isNone) := hc.load 1
      simp only [rdR, List.append_nil]
      rw [lK_eq]
      simp -implicitDefEqProofs (disch := omega) only [↓c44_1_eq,Ae,Af,Ag,Ah, dl, nc, faRR1, ldBool, lb, Option.isNone_none, ↓zAf, ↓zAb, ↓Option.bind_some, ↓zAa, zBd, zBm, zBl, zBe, zBn, zBk, zBi, zBf, zBj, zBq, zBp, Option.bind_some, Option.bind_none, Option.map_some, zAf, zAb, zAl, zAk, zBh, zAw, zAy, zAp, zBc, zAs, zBa, zAr, zBt, zBu, zBv, zBs, zAz, zAa, zAc, zAd, zAe, zAh, zAm, zAg, zAj, zAn, zAi, zAu, zAx, zAv, zBb, zAt, Bool.not_true, Bool.not_false, zCk, zCj, zCl, zCi, zCm, zAq, zAo, zBg, zBo, zBr, cond_true, cond_false, Nat.reduceBEq]
      refine getR_stop (by omega) _ h hin w ha ?_ ?_
      · exact Ae
      · exact Ag
    | some bs =>
      obtain ⟨ra, rc, hc, _, _⟩ := id w
      have lb : h.load1 p 1 = some (.bool (some bs).isNone) := hc.load 1
      have hph := w.lt
      have nb : ∀ b, b < h0.blks.length → Just p b → No b := fun b hb e => by have : b = p := e; omega
      have hrw : acc ++ (rdR (n + 1) (some bs)).1 = (acc ++ [(rdE 15 (some bs)).1]) ++ (rdR n (rdE 15 (some bs)).2).1 := by simp [rdR]
      have hr2 : (rdR (n + 1) (some bs)).2 = (rdR n (rdE 15 (some bs)).2).2 := rfl
      rw [lK_eq, hrw, hr2]
      have hE : (rdE 15 (some bs)).1 = ⟨(numP (some bs) 15).1, (numP (numP (some bs) 15).2 (2 ^ 64 - 1)).1, (numP (numP (numP (some bs) 15).2 (2 ^ 64 - 1)).2 65535).1⟩ := rfl
      have hE2 : (rdE 15 (some bs)).2 = (numP (numP (numP (some bs) 15).2 (2 ^ 64 - 1)).2 65535).2 := rfl
      have n1 := numP_le (some bs) 15
      have n2 := numP_le (numP (some bs) 15).2 (2 ^ 64 - 1)
      have n3 := numP_le (numP (numP (some bs) 15).2 (2 ^ 64 - 1)).2 65535
      obtain ⟨hA, q1, y1, w1⟩ := spec_RRNum w 15 (by omega) (by omega)
      have lA := y1.len
      generalize hr1 : numP (some bs) 15 = r1 at q1 w1 n1 n2 n3 hE hE2
      have hv1 : ∀ h, convV Tryz.prog 30 3 (.int .u64 (r1.1 : Int)) h = some (.int .i64 (r1.1 : Int), h) := fun h => cvU64 (r1.1 : Int) h (by omega) (by omega)
      have kA := hin.trans (y1.inn (by omega) nb)
      have aA := ha.mod y1 (fun b hb e => by have := ha.ge hb; have : b = p := e; omega)
      have cB := (Cells.new hA 87 [.int .i64 0, .int .u64 0, .int .u64 0])
      have lB : (hA.new (.cells [.int .i64 0, .int .u64 0, .int .u64 0]) 87).blks.length = hA.blks.length + 1 := by simp [Heap.new]
      have wB := w1.same (Same.new hA (.cells [.int .i64 0, .int .u64 0, .int .u64 0]) 87)
      have kB := kA.trans (In.new (S := No) (by omega) (.cells [.int .i64 0, .int .u64 0, .int .u64 0]) 87)
      have aB := aA.same (Same.new hA (.cells [.int .i64 0, .int .u64 0, .int .u64 0]) 87)
      have aL := Sl.lo (AR.se aA)
      generalize hhB : hA.new (.cells [.int .i64 0, .int .u64 0, .int .u64 0]) 87 = hB at cB lB wB kB aB
      have st1 := zCh cB (o := 0) (vs := [.int .i64 (r1.1 : Int), .int .u64 0, .int .u64 0]) (by simp)
      simp only [List.take_zero, List.nil_append, List.append_nil, List.length_cons, List.length_nil, List.drop_succ_cons, List.drop_zero, Nat.zero_add, Nat.reduceAdd, List.drop_nil] at st1
      have cC := cB.put [.int .i64 (r1.1 : Int), .int .u64 0, .int .u64 0]
      have wC := RdrR.keepPut wB (q := hA.blks.length) (by omega) (.cells [.int .i64 (r1.1 : Int), .int .u64 0, .int .u64 0])
      have kC := kB.trans (In.put (S := No) (Nat.le_trans kB.le kB.len) (p := hA.blks.length) (.inl (by omega)) (.cells [.int .i64 (r1.1 : Int), .int .u64 0, .int .u64 0]))
      have aC := aB.keepPut (p := hA.blks.length) (fun e => by have := aL _ e; omega) (.cells [.int .i64 (r1.1 : Int), .int .u64 0, .int .u64 0])
      have lC : (hB.put hA.blks.length (.cells [.int .i64 (r1.1 : Int), .int .u64 0, .int .u64 0])).blks.length = hB.blks.length := Heap.put_len _ _ _
      generalize hhC : hB.put hA.blks.length (.cells [.int .i64 (r1.1 : Int), .int .u64 0, .int .u64 0]) = hC at st1 cC wC kC aC lC
      obtain ⟨hD, q2, y2, w2⟩ := spec_RRNum wC (2 ^ 64 - 1) (by omega) (by omega)
      have lD := y2.len
      generalize hr2' : numP r1.2 (2 ^ 64 - 1) = r2 at q2 w2 n2 n3 hE hE2
      have cD := cC.mod y2 (fun e => by have : hA.blks.length = p := e; omega)
      have kD := kC.trans (y2.inn (by omega) nb)
      have aD := aC.mod y2 (fun b hb e => by have := aC.ge hb; have : b = p := e; omega)
      have st2 := zCh cD (o := 1) (vs := [.int .u64 (r2.1 : Int)]) (by simp)
      simp only [List.take_succ_cons, List.take_zero, List.nil_append, List.append_nil, List.length_cons, List.length_nil, List.drop_succ_cons, List.drop_zero, Nat.zero_add, Nat.reduceAdd, List.drop_nil, List.cons_append, List.singleton_append] at st2
      have cE := cD.put [.int .i64 (r1.1 : Int), .int .u64 (r2.1 : Int), .int .u64 0]
      have wE := RdrR.keepPut w2 (q := hA.blks.length) (by omega) (.cells [.int .i64 (r1.1 : Int), .int .u64 (r2.1 : Int), .int .u64 0])
      have kE := kD.trans (In.put (S := No) (Nat.le_trans kD.le kD.len) (p := hA.blks.length) (.inl (by omega)) (.cells [.int .i64 (r1.1 : Int), .int .u64 (r2.1 : Int), .int .u64 0]))
      have aE := aD.keepPut (p := hA.blks.length) (fun e => by have := aL _ e; omega) (.cells [.int .i64 (r1.1 : Int), .int .u64 (r2.1 : Int), .int .u64 0])
      have lE : (hD.put hA.blks.length (.cells [.int .i64 (r1.1 : Int), .int .u64 (r2.1 : Int), .int .u64 0])).blks.length = hD.blks.length := Heap.put_len _ _ _
      generalize hhE : hD.put hA.blks.length (.cells [.int .i64 (r1.1 : Int), .int .u64 (r2.1 : Int), .int .u64 0]) = hE' at st2 cE wE kE aE lE
      obtain ⟨hF, q3, y3, w3⟩ := spec_RRNum wE 65535 (by omega) (by omega)
      have lF := y3.len
      generalize hr3 : numP r2.2 65535 = r3 at q3 w3 n3 hE hE2
      have cF := cE.mod y3 (fun e => by have : hA.blks.length = p := e; omega)
      have kF := kE.trans (y3.inn (by omega) nb)
      have aF := aE.mod y3 (fun b hb e => by have := aE.ge hb; have : b = p := e; omega)
      have st3 := zCh cF (o := 2) (vs := [.int .u64 (r3.1 : Int)]) (by simp)
      simp only [List.take_succ_cons, List.take_zero, List.nil_append, List.append_nil, List.length_cons, List.length_nil, List.drop_succ_cons, List.drop_zero, Nat.zero_add, Nat.reduceAdd, List.drop_nil, List.cons_append, List.singleton_append] at st3
      have cG := cF.put [.int .i64 (r1.1 : Int), .int .u64 (r2.1 : Int), .int .u64 (r3.1 : Int)]
      have wG := RdrR.keepPut w3 (q := hA.blks.length) (by omega) (.cells [.int .i64 (r1.1 : Int), .int .u64 (r2.1 : Int), .int .u64 (r3.1 : Int)])
      have kG := kF.trans (In.put (S := No) (Nat.le_trans kF.le kF.len) (p := hA.blks.length) (.inl (by omega)) (.cells [.int .i64 (r1.1 : Int), .int .u64 (r2.1 : Int), .int .u64 (r3.1 : Int)]))
      have aG := aF.keepPut (p := hA.blks.length) (fun e => by have := aL _ e; omega) (.cells [.int .i64 (r1.1 : Int), .int .u64 (r2.1 : Int), .int .u64 (r3.1 : Int)])
      have lG : (hF.put hA.blks.length (.cells [.int .i64 (r1.1 : Int), .int .u64 (r2.1 : Int), .int .u64 (r3.1 : Int)])).blks.length = hF.blks.length := Heap.put_len _ _ _
      generalize hhG : hF.put hA.blks.length (.cells [.int .i64 (r1.1 : Int), .int .u64 (r2.1 : Int), .int .u64 (r3.1 : Int)]) = hG at st3 cG wG kG aG lG
      have lT : (hG.loadN hA.blks.length 0 3).map (fun cs => Value.agg cs.toArray) = some (entV ⟨r1.1, r2.1, r3.1⟩) := by rw [cG.loadN (n := 3) rfl]; rfl
      have bs3 := bsR ⟨r1.1, r2.1, r3.1⟩ hG
      obtain ⟨a', c', hH, g1, g2, g3, g4⟩ := app_ent etR (n0 := p + 1) (by omega) aG ⟨r1.1, r2.1, r3.1⟩ (by omega)
      have oH : Old (p + 1) hG hH := ⟨g3.len, fun q hq => g4 q (by omega) (fun e => by have := aG.ge e; omega)⟩
      have wH := wG.old oH (by omega)
      have kH := kG.trans (Keeps.inn (S := No) (g3.dn (by omega)))
      have wi : IntKind.u64.wrap ((i : Int) + 1) = ((i + 1 : Nat) : Int) := by rw [wrap_u64] <;> omega
      rw [show ((15 : Nat) : Int) = 15 from rfl] at q1
      rw [show ((2 ^ 64 - 1 : Nat) : Int) = 18446744073709551615 from rfl] at q2
      rw [show ((65535 : Nat) : Int) = 65535 from rfl] at q3
      simp -implicitDefEqProofs (disch := omega) only [↓c44_1_eq,Ae,Af,Ag,Ah, dl, nc, faRR1, ldBool, lb, Option.isNone_some, q1, hv1, bdR1, alRe, hhB, stRe, st1, hhC, q2, faRe1, stU64, st2, hhE, q3, faRe2, st3, hhG, ldR, lT, bs3, g1, wi, Nat.zero_add, ↓zAf, ↓zAb, ↓Option.bind_some, ↓zAa, zBd, zBm, zBl, zBe, zBn, zBk, zBi, zBf, zBj, zBq, zBp, Option.bind_some, Option.bind_none, Option.map_some, zAf, zAb, zAl, zAk, zBh, zAw, zAy, zAp, zBc, zAs, zBa, zAr, zBt, zBu, zBv, zBs, zAz, zAa, zAc, zAd, zAe, zAh, zAm, zAg, zAj, zAn, zAi, zAu, zAx, zAv, zBb, zAt, Bool.not_true, Bool.not_false, zCk, zCj, zCl, zCi, zCm, zAq, zAo, zBg, zBo, zBr, cond_true, cond_false, Nat.reduceBEq]
      rw [hE, hE2]
      refine ih (i + 1) r3.2 (acc ++ [⟨r1.1, r2.1, r3.1⟩]) (by omega) (by simp; omega) (by omega) ?_ _ _ a' c' kH wH g2 ?_ ?_ ?_ ?_
      · intro e he
        rcases List.mem_append.1 he with he | he
        · exact hw e he
        · rw [List.mem_singleton] at he; subst he; exact ⟨n2.2.1, n3.2.1⟩
      · exact Ae
      · exact Af
      · rfl
      · rfl
end Go.Am
namespace Go.Am
open Go.Proofs
set_option maxRecDepth 100000
set_option linter.all false
attribute [local congr] zCc zCn zCp zCo zCg zCd
theorem spec_GetLog {h : Heap} {v : Value} {bs : List UInt8} (s : SB h v bs) (hl : bs.length < 2 ^ 30) : ∃ a c h', evC Tryz.prog 44 #[v] h = some (.tuple #[.slice a ((getR bs).getD []).length c, .bool (getR bs).isSome], h') ∧ HExt h h' ∧ AR h.blks.length h' (.slice a ((getR bs).getD []).length c) ((getR bs).getD []) := by
  rw [call44]
  obtain ⟨va, vc, rfl⟩ := s.shape
  have lo := s.lo
  have c1 := Cells.new (nm h) 160 [.slice va bs.length vc, .bool false]
  have s1 : SB ((nm h).new (.cells [.slice va bs.length vc, .bool false]) 160) (.slice va bs.length vc) bs := s.nm.keepNew _ _
  have k1 : In h.blks.length No (nm h) ((nm h).new (.cells [.slice va bs.length vc, .bool false]) 160) := In.new (h := nm h) (Nat.le_refl h.blks.length) _ _
  have e0 : (nm h).blks.length = h.blks.length := rfl
  have e1 : ((nm h).new (.cells [.slice va bs.length vc, .bool false]) 160).blks.length = h.blks.length + 1 := by simp [Heap.new]
  generalize hh : (nm h).new (.cells [.slice va bs.length vc, .bool false]) 160 = h1 at c1 s1 k1 e1
  rw [e0] at c1
  have w1 : RdrR h.blks.length h1 h.blks.length (some bs) := ⟨va, vc, c1, s1, lo, Nat.le_refl _⟩
  have hrb : (rbs (some bs)).length = bs.length := rfl
  have n1 := numP_le (some bs) (2 ^ 32)
  rw [hrb] at n1
  obtain ⟨h2, q2, y2, w2⟩ := spec_RRNum w1 (2 ^ 32) (by omega) (by rw [hrb]; omega)
  have k2 := k1.trans (y2.inn (by omega) (fun b hb e => by have : b = h.blks.length := e; omega))
  have hy2 := y2.len
  rw [show ((2 ^ 32 : Nat) : Int) = 4294967296 from rfl] at q2
  have lp := getR_loop (h0 := h) (p := h.blks.length) (N := h.blks.length) (T := (numP (some bs) (2 ^ 32)).1) (Nat.le_refl _) (by omega) (numP (some bs) (2 ^ 32)).1 0 (numP (some bs) (2 ^ 32)).2 [] (by omega) rfl (by omega) (fun e he => (List.not_mem_nil he).elim)
  have fin' : ∀ {r : Option (Value × Heap)}, (∃ a c h', r = some (.tuple #[.slice a ((getR bs).getD []).length c, .bool (getR bs).isSome], done h h') ∧ In h.blks.length No (nm h) h' ∧ AR (h.blks.length + 1) h' (.slice a ((getR bs).getD []).length c) ((getR bs).getD [])) → ∃ a c h', r = some (.tuple #[.slice a ((getR bs).getD []).length c, .bool (getR bs).isSome], h') ∧ HExt h h' ∧ AR h.blks.length h' (.slice a ((getR bs).getD []).length c) ((getR bs).getD []) := fun ⟨a, c, h', g1, g2, g3⟩ => ⟨a, c, _, g1, zCf g2, (Acc.up g3 (by omega)).done⟩
  simp -implicitDefEqProofs (disch := omega) only [↓c44_0_eq, bdRR, bxRR, e0, hh, q2, ↓zAf, ↓zAb, ↓Option.bind_some, ↓zAa, zBd, zBm, zBl, zBe, zBn, zBk, zBi, zBf, zBj, zBq, zBp, Option.bind_some, Option.bind_none, Option.map_some, zAf, zAb, zAl, zAk, zBh, zAw, zAy, zAp, zBc, zAs, zBa, zAr, zBt, zBu, zBv, zBs, zAz, zAa, zAc, zAd, zAe, zAh, zAm, zAg, zAj, zAn, zAi, zAu, zAx, zAv, zBb, zAt, Bool.not_true, Bool.not_false, zCk, zCj, zCl, zCi, zCm, zAq, zAo, zBg, zBo, zBr, cond_true, cond_false, Nat.reduceBEq]
  refine fin' (lp _ _ none 0 k2 w2 (AR.nil _ _) ?_ ?_ ?_ ?_)
  all_goals rfl
end Go.Am
namespace Go.Am
open Go.Proofs
set_option maxRecDepth 100000
set_option linter.all false
attribute [local congr] zCc zCn zCp zCo zCg zCd
theorem faGn0 (p : Nat) : zCb Tryz.prog 33 (.pointer (some ⟨p, 0, none⟩)) 0 = some (.pointer (some ⟨p, 0, none⟩)) := by kernel_rfl
theorem faGn1 (p : Nat) : zCb Tryz.prog 33 (.pointer (some ⟨p, 0, none⟩)) 1 = some (.pointer (some ⟨p, 1, none⟩)) := by kernel_rfl
theorem faGn2 (p : Nat) : zCb Tryz.prog 33 (.pointer (some ⟨p, 0, none⟩)) 2 = some (.pointer (some ⟨p, 2, none⟩)) := by kernel_rfl
theorem faGn3 (p : Nat) : zCb Tryz.prog 33 (.pointer (some ⟨p, 0, none⟩)) 3 = some (.pointer (some ⟨p, 3, none⟩)) := by kernel_rfl
theorem faGn4 (p : Nat) : zCb Tryz.prog 33 (.pointer (some ⟨p, 0, none⟩)) 4 = some (.pointer (some ⟨p, 4, none⟩)) := by kernel_rfl
theorem ldGl (p o : Nat) (h : Heap) : loadV Tryz.prog 31 (.pointer (some ⟨p, o, none⟩)) h = h.load1 p o := by kernel_rfl
theorem ldGs (p o : Nat) (h : Heap) : loadV Tryz.prog 29 (.pointer (some ⟨p, o, none⟩)) h = h.load1 p o := by kernel_rfl
theorem stGl (p o : Nat) (a : Option Addr) (n c : Nat) (h : Heap) : storeV Tryz.prog 31 (.pointer (some ⟨p, o, none⟩)) (.slice a n c) h = h.storeN p o [.slice a n c] := by kernel_rfl
theorem stGs (p o : Nat) (a : Option Addr) (n c : Nat) (h : Heap) : storeV Tryz.prog 29 (.pointer (some ⟨p, o, none⟩)) (.slice a n c) h = h.storeN p o [.slice a n c] := by kernel_rfl
theorem lnGs (a : Option Addr) (n c : Nat) (h : Heap) : lenV Tryz.prog 29 (.slice a n c) h = some (.int .i64 n) := by kernel_rfl
structure REn (h : Heap) (p : Nat) (sv : Value) (n me : Int) (num : Nat) (es : List E3) (ns : List Nat) : Prop where
  eng : ∃ lv, Cells h p 33 [.int .i64 n, .int .i64 me, .int .u64 num, lv, sv] ∧ AR 0 h lv es
  seen : AU 0 h sv ns
theorem REn.same {h h' : Heap} {p : Nat} {sv : Value} {n me : Int} {num : Nat} {es : List E3} {ns : List Nat} (R : REn h p sv n me num es ns) (e : Same h h') : REn h' p sv n me num es ns :=
  let ⟨lv, a, b⟩ := R.eng
  ⟨⟨lv, a.same e, b.same e⟩, R.seen.same e⟩
theorem REn.kp {h h' : Heap} {p : Nat} {sv : Value} {n me : Int} {num : Nat} {es : List E3} {ns : List Nat} (R : REn h p sv n me num es ns)
    (k : ∀ (b : Nat) (all : List Value) (ty : TypeId), h.blks[b]? = some ⟨.cells all, ty, true⟩ → (ty = 33 ∨ ty = 87 ∨ ty = 30 ∧ zBz sv = some b) → h'.blks[b]? = h.blks[b]?) : REn h' p sv n me num es ns :=
  let ⟨lv, a, b⟩ := R.eng
  ⟨⟨lv, (k p _ _ a (.inl rfl)).trans a, b.keep fun q _ hq => by obtain ⟨all, h1⟩ := b.blk hq; exact k q all _ h1 (.inr (.inl rfl))⟩, R.seen.keep fun q _ hq => by obtain ⟨all, h1⟩ := R.seen.blk hq; exact k q all _ h1 (.inr (.inr ⟨rfl, hq⟩))⟩
theorem spec_refAtR {h : Heap} {v : Value} {ns : List Nat} (s : SU h v ns) (i : Int) : evC Tryz.prog 51 #[v, .int .i64 i] h = some (.int .u64 (atN ns i), h) := by
  rw [call51]
  obtain ⟨a, c, rfl⟩ := s.shape
  unfold atN
  by_cases h1 : i < 0
  · rw [if_pos (.inl h1)]
    simp -implicitDefEqProofs (disch := omega) only [↓c51_0_eq, dcT, ↓ret51, ↓zAf, ↓zAb, ↓Option.bind_some, ↓zAa, zBd, zBm, zBl, zBe, zBn, zBk, zBi, zBf, zBj, zBq, zBp, Option.bind_some, Option.bind_none, Option.map_some, zAf, zAb, zAl, zAk, zBh, zAw, zAy, zAp, zBc, zAs, zBa, zAr, zBt, zBu, zBv, zBs, zAz, zAa, zAc, zAd, zAe, zAh, zAm, zAg, zAj, zAn, zAi, zAu, zAx, zAv, zBb, zAt, Bool.not_true, Bool.not_false, zCk, zCj, zCl, zCi, zCm, zAq, zAo, zBg, zBo, zBr, cond_true, cond_false, Nat.reduceBEq]
    rfl
  · by_cases h2 : (ns.length : Int) ≤ i
    · rw [if_pos (.inr h2)]
      have g : i ≥ (ns.length : Int) := h2
      simp -implicitDefEqProofs (disch := omega) only [↓c51_0_eq, dcT, dcF, lnGs, ↓ret51, ↓zAf, ↓zAb, ↓Option.bind_some, ↓zAa, zBd, zBm, zBl, zBe, zBn, zBk, zBi, zBf, zBj, zBq, zBp, Option.bind_some, Option.bind_none, Option.map_some, zAf, zAb, zAl, zAk, zBh, zAw, zAy, zAp, zBc, zAs, zBa, zAr, zBt, zBu, zBv, zBs, zAz, zAa, zAc, zAd, zAe, zAh, zAm, zAg, zAj, zAn, zAi, zAu, zAx, zAv, zBb, zAt, Bool.not_true, Bool.not_false, zCk, zCj, zCl, zCi, zCm, zAq, zAo, zBg, zBo, zBr, cond_true, cond_false, Nat.reduceBEq]
      rfl
    · rw [if_neg (by omega)]
      obtain ⟨k, rfl⟩ : ∃ k : Nat, i = k := ⟨i.toNat, by omega⟩
      rw [Int.toNat_natCast]
      obtain ⟨ad, e1, e2⟩ := su_at (Sl.nm s) etU.under (i := k) (by omega)
      simp -implicitDefEqProofs (disch := omega) only [↓c51_0_eq, dcT, dcF, lnGs, e1, e2, ↓ret51, ↓zAf, ↓zAb, ↓Option.bind_some, ↓zAa, zBd, zBm, zBl, zBe, zBn, zBk, zBi, zBf, zBj, zBq, zBp, Option.bind_some, Option.bind_none, Option.map_some, zAf, zAb, zAl, zAk, zBh, zAw, zAy, zAp, zBc, zAs, zBa, zAr, zBt, zBu, zBv, zBs, zAz, zAa, zAc, zAd, zAe, zAh, zAm, zAg, zAj, zAn, zAi, zAu, zAx, zAv, zBb, zAt, Bool.not_true, Bool.not_false, zCk, zCj, zCl, zCi, zCm, zAq, zAo, zBg, zBo, zBr, cond_true, cond_false, Nat.reduceBEq]
theorem rcan_loop {h0 h : Heap} {p : Nat} {sv : Value} {n me : Int} {num : Nat} {es g : List E3} {ns : List Nat} {a : Option Addr} {c : Nat} (R : REn h p sv n me num es ns) (hw : wide g) (s : SE h (.slice a g.length c) g) (hl : g.length < 2 ^ 40) :
    ∀ (m i : Nat), g.length = i + m → ∀ x : Nat → Value, x 0 = .pointer (some ⟨p, 0, none⟩) → x 9 = .slice a g.length c → x 11 = .int .i64 i →
    lK c12_1 89 x h (zCr 0 (sK c12_2 (zCw Tryz.f12 Tryz.prog h0))) = some (.bool (!(g.drop i).any (stopE me ns)), done h0 h) := by
  intro m
  obtain ⟨lv, ce, ae⟩ := R.eng
  have m1 : h.load1 p 1 = some (.int .i64 me) := ce.load 1
  have m4 : h.load1 p 4 = some sv := ce.load 4
  induction m with
  | zero =>
    intro i hi x Aa Aj Al
    obtain rfl : i = g.length := by omega
    rw [lK_eq, List.drop_length]
    simp -implicitDefEqProofs (disch := omega) only [↓c12_1_eq, ↓c12_2_eq, ↓c12_3_eq, dcF,Aj,Al, lnRs, ↓ret12, ↓zAf, ↓zAb, ↓Option.bind_some, ↓zAa, zBd, zBm, zBl, zBe, zBn, zBk, zBi, zBf, zBj, zBq, zBp, Option.bind_some, Option.bind_none, Option.map_some, zAf, zAb, zAl, zAk, zBh, zAw, zAy, zAp, zBc, zAs, zBa, zAr, zBt, zBu, zBv, zBs, zAz, zAa, zAc, zAd, zAe, zAh, zAm, zAg, zAj, zAn, zAi, zAu, zAx, zAv, zBb, zAt, Bool.not_true, Bool.not_false, zCk, zCj, zCl, zCi, zCm, zAq, zAo, zBg, zBo, zBr, cond_true, cond_false, Nat.reduceBEq]
    rfl
  | succ m ih =>
    intro i hi x Aa Aj Al
    have hil : i < g.length := by omega
    rw [lK_eq, List.drop_eq_getElem_cons hil, List.any_cons]
    obtain ⟨b, o, hb, hbl, e1, e2⟩ := s.at' (t := 31) (el := 87) (by kernel_rfl) (by kernel_rfl) hil
    obtain ⟨_, f1, f2, f3⟩ := e2 h rfl
    have e1' := e1 .i64
    have wd := hw g[i] (List.getElem_mem hil)
    have wi : IntKind.i64.wrap ((i : Int) + 1) = ((i + 1 : Nat) : Int) := by rw [wrap_i64] <;> omega
    have hh := spec_In g[i].t wd.2 me h
    have ha := spec_refAtR R.seen.su.nm g[i].f
    have dm : decide (g[i].f ≠ me) = !decide (g[i].f = me) := by by_cases e : g[i].f = me <;> simp [e]
    by_cases hf : g[i].f = me
    · have st : stopE me ns g[i] = false := by unfold stopE; rw [decide_eq_false (fun k => k hf), Bool.false_and, Bool.and_false]
      have d1 : decide (g[i].f ≠ me) = false := decide_eq_false (fun k => k hf)
      rw [st, Bool.false_or]
      simp -implicitDefEqProofs (disch := omega) only [↓c12_1_eq, ↓c12_3_eq, ↓c12_4_eq, ↓c12_5_eq, ↓c12_7_eq, ↓c12_8_eq, ↓c12_9_eq, ↓d12_0_0, ↓d12_0_1, ↓d12_0_2, ↓d12_0_3, ↓d12_0_4, ↓d12_0_5, ↓d12_0_6, ↓d12_0_7, ↓d12_0_8, ↓d12_0_9, ↓d12_0_10, ↓d12_0_11, ↓d12_0_12, ↓d12_0_13, ↓d12_0_14, ↓d12_0_15, ↓d12_0_16, ↓d12_0_17, ↓d12_0_18, ↓d12_0_19, ↓d12_0_20, ↓d12_0_21, ↓d12_0_22, ↓d12_0_23, ↓d12_0_24, ↓d12_0_25, ↓d12_0_26, ↓d12_0_27, ↓d12_0_28, ↓d12_0_29, ↓d12_0_30, ↓d12_0_31, ↓d12_0_32, ↓d12_0_33, ↓d12_0_34, ↓d12_0_35, ↓d12_0_36, ↓d12_0_37, ↓d12_0_38, ↓d12_0_39, ↓d12_0_40, dcT,Aa,Aj,Al, lnRs, e1', faRe0, ldI, f1, faGn1, m1, d1, ↓zAf, ↓zAb, ↓Option.bind_some, ↓zAa, zBd, zBm, zBl, zBe, zBn, zBk, zBi, zBf, zBj, zBq, zBp, Option.bind_some, Option.bind_none, Option.map_some, zAf, zAb, zAl, zAk, zBh, zAw, zAy, zAp, zBc, zAs, zBa, zAr, zBt, zBu, zBv, zBs, zAz, zAa, zAc, zAd, zAe, zAh, zAm, zAg, zAj, zAn, zAi, zAu, zAx, zAv, zBb, zAt, Bool.not_true, Bool.not_false, zCk, zCj, zCl, zCi, zCm, zAq, zAo, zBg, zBo, zBr, cond_true, cond_false, Nat.reduceBEq]
      simp -implicitDefEqProofs (disch := omega) only [↓c12_6_eq,Al, wi, ↓zAf, ↓zAb, ↓Option.bind_some, ↓zAa, zBd, zBm, zBl, zBe, zBn, zBk, zBi, zBf, zBj, zBq, zBp, Option.bind_some, Option.bind_none, Option.map_some, zAf, zAb, zAl, zAk, zBh, zAw, zAy, zAp, zBc, zAs, zBa, zAr, zBt, zBu, zBv, zBs, zAz, zAa, zAc, zAd, zAe, zAh, zAm, zAg, zAj, zAn, zAi, zAu, zAx, zAv, zBb, zAt, Bool.not_true, Bool.not_false, zCk, zCj, zCl, zCi, zCm, zAq, zAo, zBg, zBo, zBr, cond_true, cond_false, Nat.reduceBEq]
      exact ih (i + 1) (by omega) _ Aa Aj rfl
    · have d1 : decide (g[i].f ≠ me) = true := decide_eq_true hf
      cases hhb : hasB g[i].t me with
      | false =>
        have st : stopE me ns g[i] = false := by unfold stopE; rw [hhb, Bool.false_and]
        rw [hhb] at hh
        rw [st, Bool.false_or]
        simp -implicitDefEqProofs (disch := omega) only [↓c12_1_eq, ↓c12_3_eq, ↓c12_4_eq, ↓c12_5_eq, ↓c12_7_eq, ↓c12_8_eq, ↓c12_9_eq, ↓d12_0_0, ↓d12_0_1, ↓d12_0_2, ↓d12_0_3, ↓d12_0_4, ↓d12_0_5, ↓d12_0_6, ↓d12_0_7, ↓d12_0_8, ↓d12_0_9, ↓d12_0_10, ↓d12_0_11, ↓d12_0_12, ↓d12_0_13, ↓d12_0_14, ↓d12_0_15, ↓d12_0_16, ↓d12_0_17, ↓d12_0_18, ↓d12_0_19, ↓d12_0_20, ↓d12_0_21, ↓d12_0_22, ↓d12_0_23, ↓d12_0_24, ↓d12_0_25, ↓d12_0_26, ↓d12_0_27, ↓d12_0_28, ↓d12_0_29, ↓d12_0_30, ↓d12_0_31, ↓d12_0_32, ↓d12_0_33, ↓d12_0_34, ↓d12_0_35, ↓d12_0_36, ↓d12_0_37, ↓d12_0_38, ↓d12_0_39, ↓d12_0_40, dcT,Aa,Aj,Al, lnRs, e1', faRe0, faRe2, ldI, ldU, f1, f3, faGn1, m1, d1, hh, ↓zAf, ↓zAb, ↓Option.bind_some, ↓zAa, zBd, zBm, zBl, zBe, zBn, zBk, zBi, zBf, zBj, zBq, zBp, Option.bind_some, Option.bind_none, Option.map_some, zAf, zAb, zAl, zAk, zBh, zAw, zAy, zAp, zBc, zAs, zBa, zAr, zBt, zBu, zBv, zBs, zAz, zAa, zAc, zAd, zAe, zAh, zAm, zAg, zAj, zAn, zAi, zAu, zAx, zAv, zBb, zAt, Bool.not_true, Bool.not_false, zCk, zCj, zCl, zCi, zCm, zAq, zAo, zBg, zBo, zBr, cond_true, cond_false, Nat.reduceBEq]
        simp -implicitDefEqProofs (disch := omega) only [↓c12_6_eq,Al, wi, ↓zAf, ↓zAb, ↓Option.bind_some, ↓zAa, zBd, zBm, zBl, zBe, zBn, zBk, zBi, zBf, zBj, zBq, zBp, Option.bind_some, Option.bind_none, Option.map_some, zAf, zAb, zAl, zAk, zBh, zAw, zAy, zAp, zBc, zAs, zBa, zAr, zBt, zBu, zBv, zBs, zAz, zAa, zAc, zAd, zAe, zAh, zAm, zAg, zAj, zAn, zAi, zAu, zAx, zAv, zBb, zAt, Bool.not_true, Bool.not_false, zCk, zCj, zCl, zCi, zCm, zAq, zAo, zBg, zBo, zBr, cond_true, cond_false, Nat.reduceBEq]
        exact ih (i + 1) (by omega) _ Aa Aj rfl
      | true =>
        rw [hhb] at hh
        by_cases hlt : ((atN ns g[i].f : Nat) : Int) < g[i].n
        · have st : stopE me ns g[i] = true := by unfold stopE; rw [hhb, d1, decide_eq_true hlt]; rfl
          rw [st, Bool.true_or]
          simp -implicitDefEqProofs (disch := omega) only [↓c12_1_eq, ↓c12_3_eq, ↓c12_4_eq, ↓c12_5_eq, ↓c12_7_eq, ↓c12_8_eq, ↓c12_9_eq, ↓d12_0_0, ↓d12_0_1, ↓d12_0_2, ↓d12_0_3, ↓d12_0_4, ↓d12_0_5, ↓d12_0_6, ↓d12_0_7, ↓d12_0_8, ↓d12_0_9, ↓d12_0_10, ↓d12_0_11, ↓d12_0_12, ↓d12_0_13, ↓d12_0_14, ↓d12_0_15, ↓d12_0_16, ↓d12_0_17, ↓d12_0_18, ↓d12_0_19, ↓d12_0_20, ↓d12_0_21, ↓d12_0_22, ↓d12_0_23, ↓d12_0_24, ↓d12_0_25, ↓d12_0_26, ↓d12_0_27, ↓d12_0_28, ↓d12_0_29, ↓d12_0_30, ↓d12_0_31, ↓d12_0_32, ↓d12_0_33, ↓d12_0_34, ↓d12_0_35, ↓d12_0_36, ↓d12_0_37, ↓d12_0_38, ↓d12_0_39, ↓d12_0_40, dcT,Aa,Aj,Al, lnRs, e1', faRe0, faRe1, faRe2, ldI, ldU, ldGs, f1, f2, f3, faGn1, faGn4, m1, m4, d1, hh, ha, am_nm, nm_mods, List.nil_append, List.append_nil, decide_eq_true hlt, ↓ret12, ↓zAf, ↓zAb, ↓Option.bind_some, ↓zAa, zBd, zBm, zBl, zBe, zBn, zBk, zBi, zBf, zBj, zBq, zBp, Option.bind_some, Option.bind_none, Option.map_some, zAf, zAb, zAl, zAk, zBh, zAw, zAy, zAp, zBc, zAs, zBa, zAr, zBt, zBu, zBv, zBs, zAz, zAa, zAc, zAd, zAe, zAh, zAm, zAg, zAj, zAn, zAi, zAu, zAx, zAv, zBb, zAt, Bool.not_true, Bool.not_false, zCk, zCj, zCl, zCi, zCm, zAq, zAo, zBg, zBo, zBr, cond_true, cond_false, Nat.reduceBEq]
        · have st : stopE me ns g[i] = false := by unfold stopE; rw [decide_eq_false hlt, Bool.and_false, Bool.and_false]
          rw [st, Bool.false_or]
          simp -implicitDefEqProofs (disch := omega) only [↓c12_1_eq, ↓c12_3_eq, ↓c12_4_eq, ↓c12_5_eq, ↓c12_7_eq, ↓c12_8_eq, ↓c12_9_eq, ↓d12_0_0, ↓d12_0_1, ↓d12_0_2, ↓d12_0_3, ↓d12_0_4, ↓d12_0_5, ↓d12_0_6, ↓d12_0_7, ↓d12_0_8, ↓d12_0_9, ↓d12_0_10, ↓d12_0_11, ↓d12_0_12, ↓d12_0_13, ↓d12_0_14, ↓d12_0_15, ↓d12_0_16, ↓d12_0_17, ↓d12_0_18, ↓d12_0_19, ↓d12_0_20, ↓d12_0_21, ↓d12_0_22, ↓d12_0_23, ↓d12_0_24, ↓d12_0_25, ↓d12_0_26, ↓d12_0_27, ↓d12_0_28, ↓d12_0_29, ↓d12_0_30, ↓d12_0_31, ↓d12_0_32, ↓d12_0_33, ↓d12_0_34, ↓d12_0_35, ↓d12_0_36, ↓d12_0_37, ↓d12_0_38, ↓d12_0_39, ↓d12_0_40, dcT,Aa,Aj,Al, lnRs, e1', faRe0, faRe1, faRe2, ldI, ldU, ldGs, f1, f2, f3, faGn1, faGn4, m1, m4, d1, hh, ha, am_nm, nm_mods, List.nil_append, List.append_nil, decide_eq_false hlt, ↓zAf, ↓zAb, ↓Option.bind_some, ↓zAa, zBd, zBm, zBl, zBe, zBn, zBk, zBi, zBf, zBj, zBq, zBp, Option.bind_some, Option.bind_none, Option.map_some, zAf, zAb, zAl, zAk, zBh, zAw, zAy, zAp, zBc, zAs, zBa, zAr, zBt, zBu, zBv, zBs, zAz, zAa, zAc, zAd, zAe, zAh, zAm, zAg, zAj, zAn, zAi, zAu, zAx, zAv, zBb, zAt, Bool.not_true, Bool.not_false, zCk, zCj, zCl, zCi, zCm, zAq, zAo, zBg, zBo, zBr, cond_true, cond_false, Nat.reduceBEq]
          simp -implicitDefEqProofs (disch := omega) only [↓c12_6_eq,Al, wi, ↓zAf, ↓zAb, ↓Option.bind_some, ↓zAa, zBd, zBm, zBl, zBe, zBn, zBk, zBi, zBf, zBj, zBq, zBp, Option.bind_some, Option.bind_none, Option.map_some, zAf, zAb, zAl, zAk, zBh, zAw, zAy, zAp, zBc, zAs, zBa, zAr, zBt, zBu, zBv, zBs, zAz, zAa, zAc, zAd, zAe, zAh, zAm, zAg, zAj, zAn, zAi, zAu, zAx, zAv, zBb, zAt, Bool.not_true, Bool.not_false, zCk, zCj, zCl, zCi, zCm, zAq, zAo, zBg, zBo, zBr, cond_true, cond_false, Nat.reduceBEq]
          exact ih (i + 1) (by omega) _ Aa Aj rfl
theorem canE_some {n me : Int} {ns : List Nat} {fr : Int} {k : Nat} {bs : List UInt8} {g : List E3} (hg : getP bs = some g) : canE n me ns fr k bs = if fr < 0 ∨ n ≤ fr ∨ fr = me ∨ k < 1 then false else !g.any (stopE me ns) := by
  unfold canE
  rw [hg]
theorem spec_rcan {h : Heap} {p : Nat} {sv : Value} {n me : Int} {num : Nat} {es : List E3} {ns : List Nat} (R : REn h p sv n me num es ns) (fr : Int) (k : Nat) {v : Value} {bs : List UInt8} (sb : SB h v bs) (hl : bs.length < 2 ^ 30) :
    ∃ h', evC Tryz.prog 12 #[.pointer (some ⟨p, 0, none⟩), .int .i64 fr, .int .u64 k, v] h = some (.bool (canE n me ns fr k bs), h') ∧ HExt h h' := by
  rw [call12]
  obtain ⟨a, c, h1, q1,Ab, r1⟩ := spec_GetLog sb.nm hl
  have k1 : In h.blks.length No (nm h) h1 := Ab.inn (Nat.le_refl h.blks.length)
  rw [← get_same bs (by omega)] at q1 r1
  have R1 := (R.same (sameNm h)).same Ab.same
  obtain ⟨lv, ce, ae⟩ := R1.eng
  have m0 : h1.load1 p 0 = some (.int .i64 n) := ce.load 0
  have m1 : h1.load1 p 1 = some (.int .i64 me) := ce.load 1
  cases hg : getP bs with
  | none =>
    rw [show canE n me ns fr k bs = false by unfold canE; rw [hg]]
    rw [hg] at q1
    refine ⟨_, ?_, zCf k1⟩
    simp -implicitDefEqProofs (disch := omega) only [↓c12_0_eq, q1, Option.isSome_none, zAc, ↓ret12, ↓zAf, ↓zAb, ↓Option.bind_some, ↓zAa, zBd, zBm, zBl, zBe, zBn, zBk, zBi, zBf, zBj, zBq, zBp, Option.bind_some, Option.bind_none, Option.map_some, zAf, zAb, zAl, zAk, zBh, zAw, zAy, zAp, zBc, zAs, zBa, zAr, zBt, zBu, zBv, zBs, zAz, zAa, zAc, zAd, zAe, zAh, zAm, zAg, zAj, zAn, zAi, zAu, zAx, zAv, zBb, zAt, Bool.not_true, Bool.not_false, zCk, zCj, zCl, zCi, zCm, zAq, zAo, zBg, zBo, zBr, cond_true, cond_false, Nat.reduceBEq]
  | some g =>
    have hgl := getP_len bs
    rw [canE_some hg]
    rw [hg] at q1 r1 hgl
    simp only [Option.getD_some, Option.isSome_some] at q1 r1 hgl
    refine ⟨_, ?_, zCf k1⟩
    by_cases g1 : fr < 0
    · rw [if_pos (.inl g1)]
      simp -implicitDefEqProofs (disch := omega) only [↓c12_0_eq, dcT, q1, zAc, ↓ret12, ↓zAf, ↓zAb, ↓Option.bind_some, ↓zAa, zBd, zBm, zBl, zBe, zBn, zBk, zBi, zBf, zBj, zBq, zBp, Option.bind_some, Option.bind_none, Option.map_some, zAf, zAb, zAl, zAk, zBh, zAw, zAy, zAp, zBc, zAs, zBa, zAr, zBt, zBu, zBv, zBs, zAz, zAa, zAc, zAd, zAe, zAh, zAm, zAg, zAj, zAn, zAi, zAu, zAx, zAv, zBb, zAt, Bool.not_true, Bool.not_false, zCk, zCj, zCl, zCi, zCm, zAq, zAo, zBg, zBo, zBr, cond_true, cond_false, Nat.reduceBEq]
    by_cases g2 : fr ≥ n
    · rw [if_pos (.inr (.inl g2))]
      simp -implicitDefEqProofs (disch := omega) only [↓c12_0_eq, dcT, dcF, q1, zAc, faGn0, ldI, m0, ↓ret12, ↓zAf, ↓zAb, ↓Option.bind_some, ↓zAa, zBd, zBm, zBl, zBe, zBn, zBk, zBi, zBf, zBj, zBq, zBp, Option.bind_some, Option.bind_none, Option.map_some, zAf, zAb, zAl, zAk, zBh, zAw, zAy, zAp, zBc, zAs, zBa, zAr, zBt, zBu, zBv, zBs, zAz, zAa, zAc, zAd, zAe, zAh, zAm, zAg, zAj, zAn, zAi, zAu, zAx, zAv, zBb, zAt, Bool.not_true, Bool.not_false, zCk, zCj, zCl, zCi, zCm, zAq, zAo, zBg, zBo, zBr, cond_true, cond_false, Nat.reduceBEq]
    by_cases g3 : fr = me
    · rw [if_pos (.inr (.inr (.inl g3)))]
      simp -implicitDefEqProofs (disch := omega) only [↓c12_0_eq, dcT, dcF, q1, zAc, faGn0, faGn1, ldI, m0, m1, decide_eq_true g3, ↓ret12, ↓zAf, ↓zAb, ↓Option.bind_some, ↓zAa, zBd, zBm, zBl, zBe, zBn, zBk, zBi, zBf, zBj, zBq, zBp, Option.bind_some, Option.bind_none, Option.map_some, zAf, zAb, zAl, zAk, zBh, zAw, zAy, zAp, zBc, zAs, zBa, zAr, zBt, zBu, zBv, zBs, zAz, zAa, zAc, zAd, zAe, zAh, zAm, zAg, zAj, zAn, zAi, zAu, zAx, zAv, zBb, zAt, Bool.not_true, Bool.not_false, zCk, zCj, zCl, zCi, zCm, zAq, zAo, zBg, zBo, zBr, cond_true, cond_false, Nat.reduceBEq]
    by_cases g4 : k = 0
    · rw [if_pos (.inr (.inr (.inr (by omega))))]
      simp -implicitDefEqProofs (disch := omega) only [↓c12_0_eq, dcT, dcF, q1, zAc, faGn0, faGn1, ldI, m0, m1, decide_eq_false g3, show decide ((k : Int) = 0) = true from decide_eq_true (by omega), ↓ret12, ↓zAf, ↓zAb, ↓Option.bind_some, ↓zAa, zBd, zBm, zBl, zBe, zBn, zBk, zBi, zBf, zBj, zBq, zBp, Option.bind_some, Option.bind_none, Option.map_some, zAf, zAb, zAl, zAk, zBh, zAw, zAy, zAp, zBc, zAs, zBa, zAr, zBt, zBu, zBv, zBs, zAz, zAa, zAc, zAd, zAe, zAh, zAm, zAg, zAj, zAn, zAi, zAu, zAx, zAv, zBb, zAt, Bool.not_true, Bool.not_false, zCk, zCj, zCl, zCi, zCm, zAq, zAo, zBg, zBo, zBr, cond_true, cond_false, Nat.reduceBEq]
    · rw [if_neg (by omega)]
      simp -implicitDefEqProofs (disch := omega) only [↓c12_0_eq, dcT, dcF, q1, zAc, faGn0, faGn1, ldI, m0, m1, decide_eq_false g3, show decide ((k : Int) = 0) = false from decide_eq_false (by omega), ↓zAf, ↓zAb, ↓Option.bind_some, ↓zAa, zBd, zBm, zBl, zBe, zBn, zBk, zBi, zBf, zBj, zBq, zBp, Option.bind_some, Option.bind_none, Option.map_some, zAf, zAb, zAl, zAk, zBh, zAw, zAy, zAp, zBc, zAs, zBa, zAr, zBt, zBu, zBv, zBs, zAz, zAa, zAc, zAd, zAe, zAh, zAm, zAg, zAj, zAn, zAi, zAu, zAx, zAv, zBb, zAt, Bool.not_true, Bool.not_false, zCk, zCj, zCl, zCi, zCm, zAq, zAo, zBg, zBo, zBr, cond_true, cond_false, Nat.reduceBEq]
      have lp := rcan_loop (h0 := h) R1 (getP_wide hg) r1.se (by omega) g.length 0 (by omega)
      rw [List.drop_zero] at lp
      refine lp _ ?_ ?_ ?_
      all_goals rfl
end Go.Am
namespace Go.Am
open Go.Proofs
set_option maxRecDepth 100000
set_option linter.all false
attribute [local congr] zCc zCn zCp zCo zCg zCd
theorem sendT_eqP (n P to : Nat) (hP : P < 64) : outB (to &&& allN n) (2 ^ P) = sendT n (P : Nat) to := by
  unfold sendT outB
  have e : ofN (P : Nat) = 2 ^ P := by unfold ofN; rw [if_pos (by omega), Int.toNat_natCast]
  rw [e, Nat.and_assoc]
theorem sendT_ltP (n : Nat) (me : Int) (to : Nat) : sendT n me to < 2 ^ n := by
  have h1 : sendT n me to ≤ allN n := Nat.le_trans Nat.and_le_right Nat.and_le_left
  have h2 : 1 ≤ 2 ^ n := Nat.one_le_two_pow
  unfold allN at h1
  omega
theorem adP1 (t : TypeId) (xo yo : Operand) (k : Nat) (hk : k + 1 < 2 ^ 64) : binV Tryz.prog .add t xo yo (.int .u64 k) (.int .u64 1) = some (.int .u64 ((k + 1 : Nat) : Int)) := by
  rw [zBd, show (k : Int) + 1 = ((k + 1 : Nat) : Int) by omega, wrap_u64 (by omega) (by omega)]
theorem rsend_loop {h0 : Heap} {p : Nat} {sv : Value} {n me : Int} {num : Nat} {es : List E3} {ns : List Nat} {ds : List Nat} {da : Option Addr} {dc : Nat} {t : Nat} (hw : wide es) (hl : es.length < 2 ^ 30) (ht : t < 2 ^ 64) (hd : ds.length ≤ 64) {S : Nat → Prop} {Q : Option (Value × Heap) → Prop}
    (hk : ∀ (x' : Nat → Value) (h' : Heap) (ov' : Value),In h0.blks.length S (nm h0) h' → REn h' p sv n me num es ns → ABs h0.blks.length h' ov' (ds.map (rowF es t)) → x' 0 = .pointer (some ⟨p, 0, none⟩) → x' 1 = .int .u64 t → x' 5 = ov' → Q (cK c8_2 74 x' h' (zCw Tryz.f8 Tryz.prog h0))) :
    ∀ (m i : Nat), ds.length - i = m → i ≤ ds.length → ∀ (x : Nat → Value) (h : Heap) (ov : Value),In h0.blks.length S (nm h0) h → REn h p sv n me num es ns → AI h0.blks.length h (.slice da ds.length dc) ds → ABs h0.blks.length h ov ((ds.take i).map (rowF es t)) →
    x 0 = .pointer (some ⟨p, 0, none⟩) → x 1 = .int .u64 t → x 5 = ov → x 6 = .slice da ds.length dc → x 7 = .int .i64 i →
    Q (lK c8_1 74 x h (zCr 0 (sK c8_2 (zCw Tryz.f8 Tryz.prog h0)))) := by
  intro m
  have ln : ∀ h, lenV Tryz.prog 68 (.slice da ds.length dc) h = some (.int .i64 ds.length) := fun h => by kernel_rfl
  induction m with
  | zero =>
    intro i e1 e2 x h ov hin l ad ab Aa Ab Af Ag Ah
    obtain rfl : i = ds.length := by omega
    rw [List.take_length] at ab
    rw [lK_eq]
    simp -implicitDefEqProofs (disch := omega) only [↓c8_1_eq, dcF,Ag,Ah, ln, ↓zAf, ↓zAb, ↓Option.bind_some, ↓zAa, zBd, zBm, zBl, zBe, zBn, zBk, zBi, zBf, zBj, zBq, zBp, Option.bind_some, Option.bind_none, Option.map_some, zAf, zAb, zAl, zAk, zBh, zAw, zAy, zAp, zBc, zAs, zBa, zAr, zBt, zBu, zBv, zBs, zAz, zAa, zAc, zAd, zAe, zAh, zAm, zAg, zAj, zAn, zAi, zAu, zAx, zAv, zBb, zAt, Bool.not_true, Bool.not_false, zCk, zCj, zCl, zCi, zCm, zAq, zAo, zBg, zBo, zBr, cond_true, cond_false, Nat.reduceBEq]
    exact hk _ h ov hin l ab Aa Ab Af
  | succ m ih =>
    intro i hm hi x h ov hin l ad ab Aa Ab Af Ag Ah
    have hil : i < ds.length := by omega
    obtain ⟨di, f1, f2⟩ := si_at (ad.sl etI.size) hil
    obtain ⟨lv, ce, ae⟩ := l.eng
    have m3 : h.load1 p 3 = some lv := ce.load 3
    obtain ⟨a2, c2, h2, q2, y2, r2⟩ := spec_ButLog ae.se hw (by omega) t ht (ds[i] : Int)
    have ll : (zDe es (outB t (ofN (ds[i] : Int)))).length = es.length := lessE_len _ _
    rw [← ll] at q2 r2
    obtain ⟨a3, c3, h3, q3, y3, r3⟩ := spec_PurgeR r2 (by omega)
    have pl : (purgeE (zDe es (outB t (ofN (ds[i] : Int))))).length ≤ es.length := by
      have := (purgeE_sub (zDe es (outB t (ofN (ds[i] : Int))))).length_le
      omega
    obtain ⟨a4, c4, h4, q4, y4, r4⟩ := spec_PutLog r3 (wide_purge (wide_lessE hw)) (by omega)
    have z4 := (y2.same.trans y3.same).trans y4.same
    have ab4 := ab.same z4
    have hn : h0.blks.length ≤ h.blks.length := Nat.le_trans hin.le hin.len
    have r4' : AB h0.blks.length h4 (.slice a4 (rowF es t ds[i]).length c4) (rowF es t ds[i]) := Acc.up r4 (by have := y2.len; have := y3.len; omega)
    obtain ⟨vs, abv⟩ := ab4
    have bs := mkBs1 a4 (rowF es t ds[i]).length c4 h4
    obtain ⟨a5, c5, h5, q5, ab5, k5, o5⟩ := abv.app (Nat.le_trans hn z4.1) r4' (by rw [List.length_map, List.length_take]; omega)
    have hin5 := (((hin.trans (y2.inn hn)).trans (y3.inn (by have := y2.len; omega))).trans (y4.inn (by have := y2.len; have := y3.len; omega))).trans (Keeps.inn (S := S) k5)
    have hmap : (ds.take i).map (rowF es t) ++ [rowF es t ds[i]] = (ds.take (i + 1)).map (rowF es t) := by
      rw [List.take_succ, List.getElem?_eq_getElem hil, List.map_append]; rfl
    rw [hmap] at q5 ab5
    have wi : IntKind.i64.wrap ((i : Int) + 1) = ((i + 1 : Nat) : Int) := by rw [wrap_i64] <;> omega
    have tk : ∀ (b : Nat) (all : List Value) (ty : TypeId), h4.blks[b]? = some ⟨.cells all, ty, true⟩ → ty ≠ 35 → h5.blks[b]? = h4.blks[b]? := fun b all ty hb tt => (o5 b ty all hb tt).trans hb.symm
    rw [lK_eq]
    have q4' : evC Tryz.prog 38 #[.slice a3 (purgeE (zDe es (outB t (ofN (ds[i] : Int))))).length c3] h3 = some (.slice a4 (rowF es t ds[i]).length c4, h4) := q4
    simp -implicitDefEqProofs (disch := omega) only [↓c8_1_eq, dcT,Aa,Ab,Af,Ag,Ah, ln, f1, f2, zAd, faGn3, ldGl, m3, q2, q3, q4', bs, q5, wi, ↓zAf, ↓zAb, ↓Option.bind_some, ↓zAa, zBd, zBm, zBl, zBe, zBn, zBk, zBi, zBf, zBj, zBq, zBp, Option.bind_some, Option.bind_none, Option.map_some, zAf, zAb, zAl, zAk, zBh, zAw, zAy, zAp, zBc, zAs, zBa, zAr, zBt, zBu, zBv, zBs, zAz, zAa, zAc, zAd, zAe, zAh, zAm, zAg, zAj, zAn, zAi, zAu, zAx, zAv, zBb, zAt, Bool.not_true, Bool.not_false, zCk, zCj, zCl, zCi, zCm, zAq, zAo, zBg, zBo, zBr, cond_true, cond_false, Nat.reduceBEq]
    refine ih (i + 1) (by omega) (by omega) _ h5 _ hin5 ((l.same z4).kp fun b all ty hb ht => tk b all ty hb (by rcases ht with rfl | rfl | ⟨rfl, _⟩ <;> decide)) ((ad.same z4).keep fun b _ hb => by obtain ⟨all, h1⟩ := (ad.same z4).blk hb; exact tk b all _ h1 (by decide)) ab5 ?_ ?_ ?_ ?_ ?_
    · exact Aa
    · exact Ab
    · rfl
    · exact Ag
    · rfl
theorem spec_rsend {h : Heap} {p : Nat} {sv : Value} {n P : Nat} {num : Nat} {es : List E3} {ns : List Nat} (R : REn h p sv n (P : Nat) num es ns) (hn : n ≤ 16) (hP : P < n) (hg : goodE es = true) (hw : wide es) (hl : es.length < 2 ^ 29) (hnum : num + 1 < 2 ^ 64) (to : Nat) (hto : to < 2 ^ 64) :
    ∃ v h', evC Tryz.prog 8 #[.pointer (some ⟨p, 0, none⟩), .int .u64 to] h = some (v, h') ∧ HMod (Just p) h h' ∧ REn h' p sv n (P : Nat) (num + 1) (sendLog es (P : Nat) num (sendT n (P : Nat) to)) ns ∧ ABs h.blks.length h' v ((bitsTo (sendT n (P : Nat) to) 64).map (rowF es (sendT n (P : Nat) to))) := by
  rw [call8]
  have R0 := R.same (sameNm h)
  obtain ⟨lv, ce, ae⟩ := R0.eng
  have hph : p < h.blks.length := ce.lt
  have m0 : (nm h).load1 p 0 = some (.int .i64 n) := ce.load 0
  have m1 : (nm h).load1 p 1 = some (.int .i64 (P : Nat)) := ce.load 1
  have m2 : (nm h).load1 p 2 = some (.int .u64 num) := ce.load 2
  have al := spec_AllOfS n (by omega)
  have cvu := fun h => cvUint (P : Int) h (by omega) (by omega)
  have an := fun t xo yo => anU t xo yo to (allN n) hto (allN_ltS (by omega))
  have sl := fun t xo yo => shlS t xo yo P (by omega)
  have ao := fun t xo yo => anS t xo yo (to &&& allN n) (2 ^ P) (Nat.lt_of_le_of_lt Nat.and_le_left hto) (Nat.pow_lt_pow_right (by omega) (by omega))
  rw [sendT_eqP n P to (by omega)] at ao
  have tlt := sendT_ltP n (P : Nat) to
  have h16 : (2 : Nat) ^ n ≤ 2 ^ 16 := Nat.pow_le_pow_right (by omega) hn
  generalize sendT n (P : Nat) to = t at ao tlt ⊢
  have ad1 := fun tt xo yo => adP1 tt xo yo num hnum
  have st1 := zCh ce (o := 2) (vs := [.int .u64 ((num + 1 : Nat) : Int)]) (by simp)
  simp only [List.take_succ_cons, List.take_zero, List.nil_append, List.append_nil, List.length_cons, List.length_nil, List.drop_succ_cons, List.drop_zero, Nat.zero_add, Nat.reduceAdd, List.drop_nil, List.cons_append, List.singleton_append] at st1
  have c1 := ce.put [.int .i64 n, .int .i64 (P : Nat), .int .u64 ((num + 1 : Nat) : Int), lv, sv]
  have nel : ∀ b, zBz lv = some b → b ≠ p := fun b hb e => by
    obtain ⟨all, h1⟩ := ae.blk hb
    subst e
    exact absurd (ce.ty h1) (by decide)
  have nes : ∀ b, zBz sv = some b → b ≠ p := fun b hb e => by
    obtain ⟨all, h1⟩ := R0.seen.blk hb
    subst e
    exact absurd (ce.ty h1) (by decide)
  have R1 : REn ((nm h).put p (.cells [.int .i64 n, .int .i64 (P : Nat), .int .u64 ((num + 1 : Nat) : Int), lv, sv])) p sv n (P : Nat) (num + 1) es ns :=
    ⟨⟨lv, c1, ae.keepPut (fun e => nel p e rfl) _⟩, R0.seen.keepPut (fun e => nes p e rfl) _⟩
  have k1 : In h.blks.length (Just p) (nm h) ((nm h).put p (.cells [.int .i64 n, .int .i64 (P : Nat), .int .u64 ((num + 1 : Nat) : Int), lv, sv])) := In.put (h := nm h) (Nat.le_refl h.blks.length) (.inr (show Just p p from rfl)) _
  generalize (nm h).put p (.cells [.int .i64 n, .int .i64 (P : Nat), .int .u64 ((num + 1 : Nat) : Int), lv, sv]) = h1 at st1 c1 R1 k1
  obtain ⟨da, dc, h2, e2, y2, A2⟩ := spec_ListS t (by omega) h1
  have k2 := k1.trans (y2.inn (S := Just p) (Nat.le_trans k1.le k1.len))
  have blen := bitsTo_len t 64
  simp -implicitDefEqProofs (disch := omega) only [↓c8_0_eq, zAd, faGn0, faGn1, faGn2, ldI, ldU, m0, m1, m2, al, am_nm, nm_mods, List.nil_append, List.append_nil, an, cvu, sl, ao, ad1, vst64, st1, e2, ↓zAf, ↓zAb, ↓Option.bind_some, ↓zAa, zBd, zBm, zBl, zBe, zBn, zBk, zBi, zBf, zBj, zBq, zBp, Option.bind_some, Option.bind_none, Option.map_some, zAf, zAb, zAl, zAk, zBh, zAw, zAy, zAp, zBc, zAs, zBa, zAr, zBt, zBu, zBv, zBs, zAz, zAa, zAc, zAd, zAe, zAh, zAm, zAg, zAj, zAn, zAi, zAu, zAx, zAv, zBb, zAt, Bool.not_true, Bool.not_false, zCk, zCj, zCl, zCi, zCm, zAq, zAo, zBg, zBo, zBr, cond_true, cond_false, Nat.reduceBEq]
  refine rsend_loop (h0 := h) (S := Just p) (p := p) (sv := sv) (n := n) (me := (P : Nat)) (num := num + 1) (es := es) (ns := ns) (t := t) (ds := bitsTo t 64) (Q := fun r => ∃ v h', r = some (v, h') ∧ HMod (Just p) h h' ∧ REn h' p sv n (P : Nat) (num + 1) (sendLog es (P : Nat) num t) ns ∧ ABs h.blks.length h' v ((bitsTo t 64).map (rowF es t))) hw (by omega) (by omega) blen (fun y h3 ov k3 R3 B3 y0 y1 y5 => ?_) (bitsTo t 64).length 0 rfl (Nat.zero_le _) _ h2 (.slice none 0 0) k2 (R1.same y2.same) (Acc.up A2 (Nat.le_trans k1.le k1.len)) ?_ ?_ ?_ ?_ ?_ ?_
  · obtain ⟨lv3, ce3, ae3⟩ := R3.eng
    have n1 : h3.load1 p 1 = some (.int .i64 (P : Nat)) := ce3.load 1
    have n2 : h3.load1 p 2 = some (.int .u64 ((num + 1 : Nat) : Int)) := ce3.load 2
    have n3 : h3.load1 p 3 = some lv3 := ce3.load 3
    have hn3 : h.blks.length ≤ h3.blks.length := Nat.le_trans k3.le k3.len
    obtain ⟨a4, c4, h4, q4, y4, s4⟩ := spec_LessLog (h := nm h3) (Sl.nm ae3.se) hw (by omega) t (by omega)
    obtain ⟨y4', md4⟩ := y4.amx
    have ce4 := ce3.same y4'.same
    have o1 : (am h4 h3).load1 p 1 = some (.int .i64 (P : Nat)) := ce4.load 1
    have o2 : (am h4 h3).load1 p 2 = some (.int .u64 ((num + 1 : Nat) : Int)) := ce4.load 2
    have ll : (zDe es t).length = es.length := lessE_len _ _
    rw [← ll] at q4 s4
    have s4' : SE (am h4 h3) (.slice a4 (zDe es t).length c4) (zDe es t) := Sl.keep s4 fun _ _ _ => rfl
    obtain ⟨a5, c5, h5, q5, y5', s5⟩ := spec_AddLog s4' (by omega) ⟨(P : Nat), num + 1, t⟩
    have q5' : evC Tryz.prog 41 #[.slice a4 (zDe es t).length c4, .agg #[.int .i64 (P : Nat), .int .u64 ((num + 1 : Nat) : Int), .int .u64 t]] (am h4 h3) = some (.slice a5 (addE (zDe es t) ⟨(P : Nat), num + 1, t⟩).length c5, h5) := q5
    have bd := bdR3 (P : Nat) ((num + 1 : Nat) : Int) (t : Nat)
    have al5 := addE_len (zDe es t) ⟨(P : Nat), num + 1, t⟩
    have hm : mayE ⟨(P : Nat), num + 1, t⟩ = true := by
      unfold mayE
      simp only [Bool.and_eq_true, decide_eq_true_eq]
      omega
    obtain ⟨a6, c6, h6, q6, y6, s6⟩ := spec_PurgeG s5 (by omega) (good_add (good_less t hg) hm)
    have q6' : evC Tryz.prog 39 #[.slice a5 (addE (zDe es t) ⟨(P : Nat), num + 1, t⟩).length c5] h5 = some (.slice a6 (sendLog es (P : Nat) num t).length c6, h6) := q6
    have sm : Same h3 h6 := (y4'.same.trans y5'.same).trans y6.same
    have ce6 := ce3.same sm
    have st6 := zCh ce6 (o := 3) (vs := [.slice a6 (sendLog es (P : Nat) num t).length c6]) (by simp)
    simp only [List.take_succ_cons, List.take_zero, List.nil_append, List.append_nil, List.length_cons, List.length_nil, List.drop_succ_cons, List.drop_zero, Nat.zero_add, Nat.reduceAdd, List.drop_nil, List.cons_append, List.singleton_append] at st6
    have c7 := ce6.put [.int .i64 n, .int .i64 (P : Nat), .int .u64 ((num + 1 : Nat) : Int), .slice a6 (sendLog es (P : Nat) num t).length c6, sv]
    have ne6 : zBz (.slice a6 (sendLog es (P : Nat) num t).length c6) ≠ some p := fun e => by
      obtain ⟨all, h1⟩ := Acc.blk s6 e
      exact absurd (ce6.ty h1) (by decide)
    have ne7 : zBz sv ≠ some p := fun e => by
      obtain ⟨all, h1⟩ := R3.seen.blk e
      exact absurd (ce3.ty h1) (by decide)
    have l4 := y4'.len
    have l5 := y5'.len
    have l6 := y6.len
    have k7 := (((k3.trans (y4'.inn (S := Just p) hn3)).trans (y5'.inn (S := Just p) (by omega))).trans (y6.inn (S := Just p) (by omega))).trans (In.put (S := Just p) (by omega) (p := p) (.inr (show Just p p from rfl)) (.cells [.int .i64 n, .int .i64 (P : Nat), .int .u64 ((num + 1 : Nat) : Int), .slice a6 (sendLog es (P : Nat) num t).length c6, sv]))
    refine ⟨ov, _, ?_, done_mod k7, ⟨⟨_, c7.done, (Acc.keepPut s6 ne6 _).done⟩, ((R3.seen.same sm).keepPut ne7 _).done⟩, ?_⟩
    · simp -implicitDefEqProofs (disch := omega) only [↓c8_2_eq, y0, y1, y5, zAd, faGn1, faGn2, faGn3, ldI, ldU, ldGl, n1, n2, n3, q4, md4, o1, o2, bd, q5', q6', stGl, st6, List.nil_append, List.append_nil, ↓ret8, ↓zAf, ↓zAb, ↓Option.bind_some, ↓zAa, zBd, zBm, zBl, zBe, zBn, zBk, zBi, zBf, zBj, zBq, zBp, Option.bind_some, Option.bind_none, Option.map_some, zAf, zAb, zAl, zAk, zBh, zAw, zAy, zAp, zBc, zAs, zBa, zAr, zBt, zBu, zBv, zBs, zAz, zAa, zAc, zAd, zAe, zAh, zAm, zAg, zAj, zAn, zAi, zAu, zAx, zAv, zBb, zAt, Bool.not_true, Bool.not_false, zCk, zCj, zCl, zCi, zCm, zAq, zAo, zBg, zBo, zBr, cond_true, cond_false, Nat.reduceBEq]
    · obtain ⟨vs, x⟩ := ABs.put (B3.same sm) ce6 (by decide) (by decide) (.cells [.int .i64 n, .int .i64 (P : Nat), .int .u64 ((num + 1 : Nat) : Int), .slice a6 (sendLog es (P : Nat) num t).length c6, sv])
      exact ⟨vs, x.kp fun _ _ _ _ _ _ => rfl⟩
  · exact ⟨[], ⟨.nil, .nil⟩⟩
  all_goals rfl
end Go.Am
namespace Go.Am
open Go.Proofs
set_option maxRecDepth 100000
set_option linter.all false
attribute [local congr] zCc zCn zCp zCo zCg zCd
theorem spec_rtakeNo {h : Heap} {p : Nat} {sv : Value} {n me : Int} {num : Nat} {es : List E3} {ns : List Nat} (R : REn h p sv n me num es ns) (fr : Int) (k to : Nat) {v : Value} {bs : List UInt8} (sb : SB h v bs) (hl : bs.length < 2 ^ 30) (hc : canE n me ns fr k bs = false) :
    ∃ h', evC Tryz.prog 10 #[.pointer (some ⟨p, 0, none⟩), .int .i64 fr, .int .u64 k, .int .u64 to, v] h = some (.bool false, h') ∧ HExt h h' := by
  rw [call10]
  obtain ⟨h1, q1,Ab⟩ := spec_rcan (R.same (sameNm h)) fr k sb.nm hl
  rw [hc] at q1
  refine ⟨_, ?_, zCf (Ab.inn (Nat.le_refl h.blks.length))⟩
  simp -implicitDefEqProofs (disch := omega) only [↓c10_0_eq, q1, ↓ret10, ↓zAf, ↓zAb, ↓Option.bind_some, ↓zAa, zBd, zBm, zBl, zBe, zBn, zBk, zBi, zBf, zBj, zBq, zBp, Option.bind_some, Option.bind_none, Option.map_some, zAf, zAb, zAl, zAk, zBh, zAw, zAy, zAp, zBc, zAs, zBa, zAr, zBt, zBu, zBv, zBs, zAz, zAa, zAc, zAd, zAe, zAh, zAm, zAg, zAj, zAn, zAi, zAu, zAx, zAv, zBb, zAt, Bool.not_true, Bool.not_false, zCk, zCj, zCl, zCi, zCm, zAq, zAo, zBg, zBo, zBr, cond_true, cond_false, Nat.reduceBEq]
theorem spec_rtake {h : Heap} {p : Nat} {sv : Value} {n P : Nat} {num : Nat} {es : List E3} {ns : List Nat} (R : REn h p sv n (P : Nat) num es ns) (hn : n ≤ 16) (hP : P < n) (hnl : ns.length = n) (hg0 : goodE es = true) (hw : wide es) (hl : es.length < 2 ^ 28) (j k to : Nat) (hj : j < n) (hk : k < 2 ^ 64) (hto : to < 2 ^ 64) {v : Value} {bs : List UInt8} (sb : SB h v bs) (hbs : bs.length < 2 ^ 26)
    {g : List E3} (hg : getP bs = some g) (hc : canE n (P : Nat) ns (j : Nat) k bs = true) (hm : mayE ⟨(j : Nat), k, to⟩ = true) :
    ∃ sv' h', evC Tryz.prog 10 #[.pointer (some ⟨p, 0, none⟩), .int .i64 (j : Nat), .int .u64 k, .int .u64 to, v] h = some (.bool true, h') ∧ HMod (Just p) h h' ∧ REn h' p sv' n (P : Nat) num (takeLog es (P : Nat) (j : Nat) k to g) (ns.set j k) ∧ ∀ b, zBz sv' = some b → h.blks.length ≤ b := by
  rw [call10]
  have R0 := R.same (sameNm h)
  obtain ⟨h1, q1,Ab⟩ := spec_rcan R0 (j : Nat) k sb.nm (by omega)
  rw [hc] at q1
  have k1 : In h.blks.length (Just p) (nm h) h1 := Ab.inn (Nat.le_refl h.blks.length)
  have sb1 : SB h1 v bs := Sl.same (Sl.nm sb) Ab.same
  obtain ⟨a2, c2, h2, q2,Ac, r2⟩ := spec_GetLog sb1 (by omega)
  rw [← get_same bs (by omega), hg] at q2 r2
  simp only [Option.getD_some, Option.isSome_some] at q2 r2
  have gl := getP_len bs
  rw [hg, Option.getD_some] at gl
  have k2 := k1.trans (Ac.inn (S := Just p) (Nat.le_trans k1.le k1.len))
  have R2 := (R0.same Ab.same).same Ac.same
  have n2 : h.blks.length ≤ h2.blks.length := Nat.le_trans k2.le k2.len
  have mk3 := mkU0 h2
  have A3 := AU.lit (h := h2) (n0 := h2.blks.length) (Nat.le_refl _) [] (by simp)
  have y3 : Same h2 (h2.new (.cells []) 30) := Same.new _ _ _
  have k3 := k2.trans (In.new (S := Just p) n2 (.cells []) 30)
  have e3 : (h2.new (.cells []) 30).blks.length = h2.blks.length + 1 := by simp [Heap.new]
  simp only [List.map_nil, List.length_nil] at A3
  generalize h2.new (.cells []) 30 = h3 at mk3 A3 y3 k3 e3
  have R3 := R2.same y3
  obtain ⟨a4, c4, h4, q4, A4, K4, o4⟩ := app_nums etU etU.under (n0 := h2.blks.length) (by omega) A3 R3.seen.su (by simp; omega)
  rw [List.nil_append] at q4 A4
  obtain ⟨b5, o5, h5, e5, _, st5, A5, K5, le5, _, ot5⟩ := A4.set1 etU.under etU.size (i := j) (by omega) (.int .u64 (k : Nat)) .i64
  rw [show (ns.map u64V).set j (.int .u64 (k : Nat)) = (ns.set j k).map u64V by rw [List.map_set]; rfl] at A5
  have hsl : (ns.set j k).length = ns.length := List.length_set ..
  have A5' : AU h2.blks.length h5 (.slice a4 (ns.set j k).length c4) (ns.set j k) := by
    unfold AU
    rw [hsl]
    exact A5
  have y25 : Same h2 h5 := ⟨Nat.le_trans (Nat.le_trans y3.1 K4.len) K5.len, fun b hb => ((K5.old b hb).trans (K4.old b hb)).trans (y3.2 b hb)⟩
  have k5 := (k3.trans (Keeps.inn (S := Just p) (n0 := h.blks.length) ⟨by omega, K4.len, fun b hb => K4.old b (by omega), fun m hm => (K4.mods m hm).imp id fun x => Nat.le_trans n2 x⟩)).trans (Keeps.inn (S := Just p) (n0 := h.blks.length) ⟨by have := K4.len; omega, K5.len, fun b hb => K5.old b (by omega), fun m hm => (K5.mods m hm).imp id fun x => Nat.le_trans n2 x⟩)
  have R5 := R2.same y25
  have r5 := r2.same y25
  obtain ⟨lv, ce3, ae3⟩ := R3.eng
  obtain ⟨_, _, _⟩ := R2.eng
  have m4 : h3.load1 p 4 = some sv := ce3.load 4
  have ce5 : Cells h5 p 33 [.int .i64 n, .int .i64 (P : Nat), .int .u64 num, lv, sv] := by
    have hp : p < h2.blks.length := by obtain ⟨_, c, _⟩ := R2.eng; exact c.lt
    exact ((K5.old p hp).trans (K4.old p hp)).trans ce3
  have ae5 : AR 0 h5 lv es := ae3.keep fun b hb hv => by
    obtain ⟨all, hh⟩ := ae3.blk hv
    rcases Nat.lt_or_ge b h2.blks.length with hlt | hge
    · exact (K5.old b hlt).trans (K4.old b hlt)
    · obtain ⟨lv2, ce2, ae2⟩ := R2.eng
      have e := (ce2.same y3).symm.trans ce3
      simp only [Option.some.injEq, Blk.mk.injEq, Body.cells.injEq, List.cons.injEq, and_true, true_and] at e
      have e := e
      rw [e] at ae2
      obtain ⟨all2, hh2⟩ := ae2.blk hv
      have := (List.getElem?_eq_some_iff.1 hh2).1
      omega
  have st6 := zCh ce5 (o := 4) (vs := [.slice a4 ns.length c4]) (by simp)
  simp only [List.take_succ_cons, List.take_zero, List.nil_append, List.append_nil, List.length_cons, List.length_nil, List.drop_succ_cons, List.drop_zero, Nat.zero_add, Nat.reduceAdd, List.drop_nil, List.cons_append, List.singleton_append] at st6
  have c6 := ce5.put [.int .i64 n, .int .i64 (P : Nat), .int .u64 num, lv, .slice a4 ns.length c4]
  have nt : ∀ {ty : TypeId} {all : List Value} {b : Nat}, h5.blks[b]? = some ⟨.cells all, ty, true⟩ → ty ≠ 33 → b ≠ p := fun {ty all b} hb ht e => by
    subst e
    exact ht (ce5.ty hb).symm
  have ae6 := ae5.keepPut (p := p) (fun e => by obtain ⟨all, hh⟩ := ae5.blk e; exact nt hh (by decide) rfl) (.cells [.int .i64 n, .int .i64 (P : Nat), .int .u64 num, lv, .slice a4 ns.length c4])
  have A6 := A5'.keepPut (p := p) (fun e => by obtain ⟨all, hh⟩ := A5'.blk e; exact nt hh (by decide) rfl) (.cells [.int .i64 n, .int .i64 (P : Nat), .int .u64 num, lv, .slice a4 ns.length c4])
  have r6 := r5.keepPut (p := p) (fun e => by obtain ⟨all, hh⟩ := r5.blk e; exact nt hh (by decide) rfl) (.cells [.int .i64 n, .int .i64 (P : Nat), .int .u64 num, lv, .slice a4 ns.length c4])
  have k6 := k5.trans (In.put (S := Just p) (Nat.le_trans k5.le k5.len) (p := p) (.inr (show Just p p from rfl)) (.cells [.int .i64 n, .int .i64 (P : Nat), .int .u64 num, lv, .slice a4 ns.length c4]))
  generalize h5.put p (.cells [.int .i64 n, .int .i64 (P : Nat), .int .u64 num, lv, .slice a4 ns.length c4]) = h6 at st6 c6 ae6 A6 r6 k6
  have n6 : h.blks.length ≤ h6.blks.length := Nat.le_trans k6.le k6.len
  have m1 : h6.load1 p 1 = some (.int .i64 (P : Nat)) := c6.load 1
  have cvu := fun h => cvUint (P : Int) h (by omega) (by omega)
  have sl := fun t xo yo => shlS t xo yo P (by omega)
  have eo : 2 ^ P = ofN (P : Nat) := by unfold ofN; rw [if_pos (by omega), Int.toNat_natCast]
  have o64 : ofN (P : Nat) < 2 ^ 64 := ofN_lt _
  rw [eo] at sl
  have bd := bdR3 (j : Nat) (k : Nat) (to : Nat)
  obtain ⟨a7, c7, h7, q7, y7, s7⟩ := spec_AddLog (AR.se r6) (by omega) ⟨(j : Nat), k, to⟩
  have q7' : evC Tryz.prog 41 #[.slice a2 g.length c2, .agg #[.int .i64 (j : Nat), .int .u64 k, .int .u64 to]] h6 = some (.slice a7 (addE g ⟨(j : Nat), k, to⟩).length c7, h7) := q7
  have al := addE_len g ⟨(j : Nat), k, to⟩
  have wa : wide (addE g ⟨(j : Nat), k, to⟩) := fun e he => by
    rcases mem_addE he with he | rfl
    · exact getP_wide hg e he
    · exact ⟨hk, hto⟩
  obtain ⟨a8, c8, h8, q8, y8, s8⟩ := spec_LessLog s7 wa (by omega) (ofN (P : Nat)) o64
  have ll8 : (zDe (addE g ⟨(j : Nat), k, to⟩) (ofN (P : Nat))).length = (addE g ⟨(j : Nat), k, to⟩).length := lessE_len _ _
  have sm8 := y7.same.trans y8.same
  have m3 : h8.load1 p 3 = some lv := (c6.same sm8).load 3
  have wl : wide (zDe (addE g ⟨(j : Nat), k, to⟩) (ofN (P : Nat))) := wide_lessE wa
  obtain ⟨a9, c9, h9, q9, y9, s9⟩ := spec_JoinLog (AR.se (ae6.same sm8)) s8 hw wl (by omega) (by omega)
  have jl := joinE_len es (zDe (addE g ⟨(j : Nat), k, to⟩) (ofN (P : Nat)))
  obtain ⟨a10, c10, h10, q10, y10, s10⟩ := spec_LessLog s9 (wide_join hw wl) (by omega) (ofN (P : Nat)) o64
  have ll10 : (zDe (joinE es (zDe (addE g ⟨(j : Nat), k, to⟩) (ofN (P : Nat)))) (ofN (P : Nat))).length = (joinE es (zDe (addE g ⟨(j : Nat), k, to⟩) (ofN (P : Nat)))).length := lessE_len _ _
  have gd : goodE (zDe (joinE es (zDe (addE g ⟨(j : Nat), k, to⟩) (ofN (P : Nat)))) (ofN (P : Nat))) = true := good_less _ (srt_join hg0 (good_less _ (good_add (getP_good hg) hm)))
  obtain ⟨a11, c11, h11, q11, y11, s11⟩ := spec_PurgeG s10 (by omega) gd
  have q11' : evC Tryz.prog 39 #[.slice a10 (joinE es (zDe (addE g ⟨(j : Nat), k, to⟩) (ofN (P : Nat)))).length c10] h10 = some (.slice a11 (takeLog es (P : Nat) (j : Nat) k to g).length c11, h11) := q11
  have sm11 := ((sm8.trans y9.same).trans y10.same).trans y11.same
  have c11' := c6.same sm11
  have st12 := zCh c11' (o := 3) (vs := [.slice a11 (takeLog es (P : Nat) (j : Nat) k to g).length c11]) (by simp)
  simp only [List.take_succ_cons, List.take_zero, List.nil_append, List.append_nil, List.length_cons, List.length_nil, List.drop_succ_cons, List.drop_zero, Nat.zero_add, Nat.reduceAdd, List.drop_nil, List.cons_append, List.singleton_append] at st12
  have d12 := c11'.put [.int .i64 n, .int .i64 (P : Nat), .int .u64 num, .slice a11 (takeLog es (P : Nat) (j : Nat) k to g).length c11, .slice a4 ns.length c4]
  have nt11 : ∀ {ty : TypeId} {all : List Value} {b : Nat}, h11.blks[b]? = some ⟨.cells all, ty, true⟩ → ty ≠ 33 → b ≠ p := fun {ty all b} hb ht e => by
    subst e
    exact ht (c11'.ty hb).symm
  have l7 := y7.len
  have l8 := y8.len
  have l9 := y9.len
  have l10 := y10.len
  have l11 := y11.len
  have A11 := A6.same sm11
  have k12 := (((((k6.trans (y7.inn (S := Just p) n6)).trans (y8.inn (S := Just p) (by omega))).trans (y9.inn (S := Just p) (by omega))).trans (y10.inn (S := Just p) (by omega))).trans (y11.inn (S := Just p) (by omega))).trans (In.put (S := Just p) (by omega) (p := p) (.inr (show Just p p from rfl)) (.cells [.int .i64 n, .int .i64 (P : Nat), .int .u64 num, .slice a11 (takeLog es (P : Nat) (j : Nat) k to g).length c11, .slice a4 ns.length c4]))
  have e4s : (Value.slice a4 ns.length c4) = .slice a4 (ns.set j k).length c4 := by rw [hsl]
  refine ⟨.slice a4 ns.length c4, _, ?_, done_mod k12, ⟨⟨_, d12.done, (Acc.keepPut s11 (fun e => by obtain ⟨all, hh⟩ := Acc.blk s11 e; exact nt11 hh (by decide) rfl) _).done⟩, ?_⟩, fun b hb => ?_⟩
  · simp -implicitDefEqProofs (disch := omega) only [↓c10_0_eq, q1, q2, zAc, mk3, zAd, faGn1, faGn3, faGn4, ldGs, ldGl, m4, q4, e5, vst64, st5, stGs, st6, ldI, m1, cvu, sl, bd, q7', q8, m3, q9, q10, q11', stGl, st12, ↓ret10, ↓zAf, ↓zAb, ↓Option.bind_some, ↓zAa, zBd, zBm, zBl, zBe, zBn, zBk, zBi, zBf, zBj, zBq, zBp, Option.bind_some, Option.bind_none, Option.map_some, zAf, zAb, zAl, zAk, zBh, zAw, zAy, zAp, zBc, zAs, zBa, zAr, zBt, zBu, zBv, zBs, zAz, zAa, zAc, zAd, zAe, zAh, zAm, zAg, zAj, zAn, zAi, zAu, zAx, zAv, zBb, zAt, Bool.not_true, Bool.not_false, zCk, zCj, zCl, zCi, zCm, zAq, zAo, zBg, zBo, zBr, cond_true, cond_false, Nat.reduceBEq]
  · have z := (A11.keepPut (p := p) (fun e => by obtain ⟨all, hh⟩ := A11.blk e; exact nt11 hh (by decide) rfl) (.cells [.int .i64 n, .int .i64 (P : Nat), .int .u64 num, .slice a11 (takeLog es (P : Nat) (j : Nat) k to g).length c11, .slice a4 ns.length c4])).done (h0 := h)
    rw [← e4s] at z
    exact Acc.up z (Nat.zero_le _)
  · rw [e4s] at hb
    exact Nat.le_trans n2 (Acc.ge A6 hb)
end Go.Am
namespace Go.Am
open Go.Proofs
set_option maxRecDepth 100000
set_option linter.all false
attribute [local congr] zCc zCn zCp zCo zCg zCd
theorem All2.lenAL {α β : Type} {R : α → β → Prop} {l : List α} {m : List β} (h : All2 R l m) : l.length = m.length := by
  induction h with
  | nil => rfl
  | cons _ _ ih => simp [ih]
structure AL where
  op : Int
  frm : Int
  at' : Int
  num : Nat
  to : Nat
  b : List UInt8
def alC (p : AL) (bv : Value) : List Value := [.int .i64 p.op, .int .i64 p.frm, .int .i64 p.at', .int .u64 p.num, .int .u64 p.to, bv]
def SAl (h : Heap) (v : Value) (l : List AL) : Prop := ∃ bvs, Row h 6 v l.length (List.zipWith alC l bvs).flatten ∧ All2 (fun bv p => SB h bv p.b) bvs l
theorem SAl.same {h h' : Heap} {v : Value} {l : List AL} (s : SAl h v l) (e : Same h h') : SAl h' v l := let ⟨bvs, r, b⟩ := s; ⟨bvs, r.keep fun b hb _ => e.2 b hb, b.mono fun _ _ x => x.same e⟩
theorem SAl.len {h : Heap} {v : Value} {l : List AL} (s : SAl h v l) : lenV Tryz.prog 22 v h = some (.int .i64 l.length) := by
  obtain ⟨bvs, r, b⟩ := s
  have hu : Tryz.prog.underlying 22 = some (.slice 37) := by kernel_rfl
  exact r.len_eq hu
theorem flat6A : ∀ (l : List AL) (bvs : List Value) (i k : Nat), k < 6 → l.length = bvs.length → (hi : i < l.length) → (hb : i < bvs.length) → (List.zipWith alC l bvs).flatten[i * 6 + k]? = (alC l[i] bvs[i])[k]?
  | [], _, i, k, _, _, hi, _ => by simp at hi
  | _ :: _, [], i, k, _, hl, _, _ => by simp at hl
  | p :: l, v :: bvs, 0, k, hk, hl, hi, hb => by
    simp only [List.zipWith_cons_cons, List.flatten_cons, Nat.zero_mul, Nat.zero_add, List.getElem_cons_zero]
    rw [List.getElem?_append_left (by simpa [alC] using hk)]
  | p :: l, v :: bvs, i + 1, k, hk, hl, hi, hb => by
    simp only [List.zipWith_cons_cons, List.flatten_cons, List.getElem_cons_succ]
    rw [List.getElem?_append_right (by simp [alC]; omega)]
    have : (i + 1) * 6 + k - (alC p v).length = i * 6 + k := by simp [alC]; omega
    rw [this]
    exact flat6A l bvs i k hk (by simpa using hl) (by simpa using hi) (by simpa using hb)
structure AlAt (h : Heap) (v : Value) (i : Nat) (p : AL) (b o : Nat) (bv : Value) : Prop where
  at_ : zCt Tryz.prog 22 v (.int .i64 i) = some (.pointer (some ⟨b, o, none⟩))
  l0 : h.load1 b o = some (.int .i64 p.op)
  l1 : h.load1 b (o + 1) = some (.int .i64 p.frm)
  l3 : h.load1 b (o + 3) = some (.int .u64 p.num)
  l4 : h.load1 b (o + 4) = some (.int .u64 p.to)
  l5 : h.load1 b (o + 5) = some bv
  sb : SB h bv p.b
theorem SAl.at {v : Value} {h : Heap} {l : List AL} (s : SAl h v l) {i : Nat} (hi : i < l.length) : ∃ b o bv, ∀ h', Same h h' → AlAt h' v i l[i] b o bv := by
  obtain ⟨bvs, r, hb⟩ := s
  have hl : bvs.length = l.length := hb.lenAL
  have hu : Tryz.prog.underlying 22 = some (.slice 37) := by kernel_rfl
  have hs : sizeT Tryz.prog 37 = some 6 := by kernel_rfl
  cases r0 : v with
  | slice ad n c =>
    subst r0
    have r' := r
    generalize hn : l.length = n at r'
    generalize hcs : (List.zipWith alC l bvs).flatten = cs at r'
    cases r' with
    | nil => omega
    | mk hld =>
      rename_i b o
      rw [← hn, ← hcs] at hld
      refine ⟨b, o + i * 6, bvs[i], fun h' e => ?_⟩
      have hld' : h'.loadN b o (l.length * 6) = some (List.zipWith alC l bvs).flatten := by rw [loadN_of (e.2 b (loadN_lt hld))]; exact hld
      have get : ∀ k, k < 6 → h'.load1 b (o + i * 6 + k) = (alC l[i] bvs[i])[k]? := fun k hk => by
        rw [Nat.add_assoc, loadN_get hld' (by omega), flat6A l bvs i k hk hl.symm hi (by omega)]
      obtain ⟨p, hp, hsb⟩ := hb.get (i := i) (a := bvs[i]) (List.getElem?_eq_getElem (by omega))
      obtain rfl : l[i] = p := by rw [List.getElem?_eq_getElem hi] at hp; exact Option.some.inj hp
      refine ⟨?_, get 0 (by omega), get 1 (by omega), get 3 (by omega), get 4 (by omega), get 5 (by omega), hsb.same e⟩
      unfold zCt
      simp only [hu, natOf_int, hs]
      rw [if_pos (by omega)]
  | _ => subst r0; cases r
theorem reads_al {h : Heap} {f : Nat} {cs : List Value} {d : DT} (x : Reads Tryz.prog h f 37 cs d) : ∃ p bv, cs = alC p bv ∧ SB h bv p.b ∧ p.num < 2 ^ 64 ∧ p.to < 2 ^ 64 := by
  obtain ⟨g, l, rfl, hlen, ha⟩ := reads_struct Tryz.underlying37 x
  rw [show Tryz.prog.cellsOf 37 = 6 by kernel_rfl] at hlen
  obtain ⟨c0, c1, c2, c3, c4, c5, rfl⟩ : ∃ c0 c1 c2 c3 c4 c5, cs = [c0, c1, c2, c3, c4, c5] := by
    match cs, hlen with
    | [a, b, c, d, e, f], _ => exact ⟨a, b, c, d, e, f, rfl⟩
  have h0 : Tryz.prog.cellsOf 3 = 1 := by kernel_rfl
  have h1 : Tryz.prog.cellsOf 30 = 1 := by kernel_rfl
  have h3 : Tryz.prog.cellsOf 35 = 1 := by kernel_rfl
  cases ha with
  | cons a0 ha => cases ha with
    | cons a1 ha => cases ha with
      | cons a2 ha => cases ha with
        | cons a3 ha => cases ha with
          | cons a4 ha => cases ha with
            | cons a5 ha =>
            cases ha
            simp only [h0, h1, h3] at a0 a1 a2 a3 a4 a5
            obtain ⟨z, _, z2, z3⟩ := reads_int (k := .i64) (by kernel_rfl) a0
            obtain ⟨u, _, u2, u3⟩ := reads_int (k := .i64) (by kernel_rfl) a1
            obtain ⟨w, _, w2, w3⟩ := reads_int (k := .i64) (by kernel_rfl) a2
            obtain ⟨y, _, y2, y3⟩ := reads_int (k := .u64) (by kernel_rfl) a3
            obtain ⟨t, _, t2, t3⟩ := reads_int (k := .u64) (by kernel_rfl) a4
            obtain ⟨q, l', v, css, _, e2, e3, e4, e5⟩ := reads_slice (e := 5) (by kernel_rfl) a5
            obtain ⟨zs, g1, g2, g3⟩ := reads_ints (k := .u8) (by kernel_rfl) e4
            obtain ⟨bs, b1, b2⟩ := ints_bytes zs g3
            rw [show Tryz.prog.cellsOf 5 = 1 by kernel_rfl, g2, b2, ← g1, ← b1] at e3
            simp only [List.drop_zero, List.drop_succ_cons, List.take_succ_cons, List.take_zero, List.cons.injEq, and_true] at z2 u2 w2 y2 t2 e2
            subst z2 u2 w2 y2 t2 e2
            have hy := wf_nat rfl y3
            have ht := wf_nat rfl t3
            simp only [IntKind.bits] at hy ht
            refine ⟨⟨z, u, w, y.toNat, t.toNat, bs⟩, c5, ?_, e3, by show y.toNat < 2 ^ 64; omega, by show t.toNat < 2 ^ 64; omega⟩
            unfold alC
            simp only
            rw [Int.toNat_of_nonneg hy.1, Int.toNat_of_nonneg ht.1]
theorem reads_als {h : Heap} {f : Nat} : ∀ {css : List (List Value)} {l : List DT}, All2 (fun c d => c.length = Tryz.prog.cellsOf 37 ∧ Reads Tryz.prog h f 37 c d) css l → ∃ (ps : List AL) (bvs : List Value), css.flatten = (List.zipWith alC ps bvs).flatten ∧ ps.length = l.length ∧ All2 (fun bv p => SB h bv p.b) bvs ps ∧ ∀ p ∈ ps, (p.num < 2 ^ 64 ∧ p.to < 2 ^ 64)
  | _, _, .nil => ⟨[], [], rfl, rfl, .nil, by simp⟩
  | _, _, .cons x q => by
    obtain ⟨ps, bvs, e, hl, a, b⟩ := reads_als q
    obtain ⟨p, bv, rfl, s, h1⟩ := reads_al x.2
    refine ⟨p :: ps, bv :: bvs, by simp [e], by simp [hl], .cons s a, fun y hy => ?_⟩
    rcases List.mem_cons.1 hy with rfl | hy
    · exact h1
    · exact b y hy
theorem Rd.als {h : Heap} {v : Value} {d : DT} (r : Rd Tryz.prog h 22 v d) : ∃ ps : List AL, SAl h v ps ∧ ∀ p ∈ ps, (p.num < 2 ^ 64 ∧ p.to < 2 ^ 64) := by
  obtain ⟨f, l, css, rfl, h1, h2, h3⟩ := r.slice (e := 37) (by kernel_rfl)
  obtain ⟨ps, bvs, e, hl, a, b⟩ := reads_als h2
  rw [show Tryz.prog.cellsOf 37 = 6 by kernel_rfl, e, ← hl] at h1
  exact ⟨ps, ⟨bvs, h1.row, a⟩, b⟩
end Go.Am
namespace Go.Am
open Go.Proofs
set_option maxRecDepth 100000
set_option linter.all false
attribute [local congr] zCc zCn zCp zCo zCg zCd
theorem ldAc (p o : Nat) (h : Heap) : loadV Tryz.prog 37 (.pointer (some ⟨p, o, none⟩)) h = (h.loadN p o 6).map fun vs => .agg vs.toArray := by kernel_rfl
theorem alAc (h : Heap) : allocV Tryz.prog 37 h = some (.pointer (some ⟨h.blks.length, 0, none⟩), h.new (.cells [.int .i64 0, .int .i64 0, .int .i64 0, .int .u64 0, .int .u64 0, .slice none 0 0]) 37) := by kernel_rfl
theorem stAc (p : Nat) (a b c d e : Int) (x : Option Addr) (l k : Nat) (h : Heap) : storeV Tryz.prog 37 (.pointer (some ⟨p, 0, none⟩)) (.agg #[.int .i64 a, .int .i64 b, .int .i64 c, .int .u64 d, .int .u64 e, .slice x l k]) h = h.storeN p 0 [.int .i64 a, .int .i64 b, .int .i64 c, .int .u64 d, .int .u64 e, .slice x l k] := by kernel_rfl
theorem flat6_part (l : List AL) (bvs : List Value) (hl : l.length = bvs.length) (i : Nat) (hi : i < l.length) (hb : i < bvs.length) : ((List.zipWith alC l bvs).flatten.drop (i * 6)).take 6 = alC l[i] bvs[i] := by
  refine List.ext_getElem? fun k => ?_
  by_cases hk : k < 6
  · rw [List.getElem?_take_of_lt hk, List.getElem?_drop, flat6A l bvs i k hk hl hi hb]
  · rw [List.getElem?_eq_none (by rw [List.length_take]; omega), List.getElem?_eq_none (by simp [alC]; omega)]
theorem SAl.atN {v : Value} {h : Heap} {l : List AL} (s : SAl h v l) {i : Nat} (hi : i < l.length) : ∃ b o bv, ∀ h', Same h h' → zCt Tryz.prog 22 v (.int .i64 i) = some (.pointer (some ⟨b, o, none⟩)) ∧ loadV Tryz.prog 37 (.pointer (some ⟨b, o, none⟩)) h' = some (.agg (alC l[i] bv).toArray) ∧ SB h' bv l[i].b := by
  obtain ⟨bvs, r, hb⟩ := s
  have hl : bvs.length = l.length := hb.lenAL
  have hu : Tryz.prog.underlying 22 = some (.slice 37) := by kernel_rfl
  have hs : sizeT Tryz.prog 37 = some 6 := by kernel_rfl
  cases r0 : v with
  | slice ad n c =>
    subst r0
    have r' := r
    generalize hn : l.length = n at r'
    generalize hcs : (List.zipWith alC l bvs).flatten = cs at r'
    cases r' with
    | nil => omega
    | mk hld =>
      rename_i b o
      rw [← hn, ← hcs] at hld
      refine ⟨b, o + i * 6, bvs[i], fun h' e => ?_⟩
      have hld' : h'.loadN b o (l.length * 6) = some (List.zipWith alC l bvs).flatten := by rw [loadN_of (e.2 b (loadN_lt hld))]; exact hld
      obtain ⟨p, hp, hsb⟩ := hb.get (i := i) (a := bvs[i]) (List.getElem?_eq_getElem (by omega))
      obtain rfl : l[i] = p := by rw [List.getElem?_eq_getElem hi] at hp; exact Option.some.inj hp
      refine ⟨?_, ?_, hsb.same e⟩
      · unfold zCt
        simp only [hu, natOf_int, hs]
        rw [if_pos (by omega)]
      · rw [ldAc, loadN_sub hld' (by omega), flat6_part l bvs hl.symm i hi (by omega)]; rfl
  | _ => subst r0; cases r
theorem var_ac (h : Heap) (e : AL) (x : Option Addr) (l k : Nat) : ∃ hA h', allocV Tryz.prog 37 h = some (.pointer (some ⟨h.blks.length, 0, none⟩), hA) ∧ Same h hA ∧ storeV Tryz.prog 37 (.pointer (some ⟨h.blks.length, 0, none⟩)) (.agg (alC e (.slice x l k)).toArray) hA = some h' ∧
    Cells h' h.blks.length 37 (alC e (.slice x l k)) ∧ Same h h' := by
  have c := Cells.new h 37 [.int .i64 0, .int .i64 0, .int .i64 0, .int .u64 0, .int .u64 0, .slice none 0 0]
  have c' : Cells ((h.new (.cells [.int .i64 0, .int .i64 0, .int .i64 0, .int .u64 0, .int .u64 0, .slice none 0 0]) 37).put h.blks.length (.cells (alC e (.slice x l k)))) h.blks.length 37 (alC e (.slice x l k)) := c.put _
  refine ⟨_, _, alAc h, Same.new h _ _, ?_, c', (Same.new h _ _).put (Nat.le_refl _) _⟩
  rw [show storeV Tryz.prog 37 (.pointer (some ⟨h.blks.length, 0, none⟩)) (.agg (alC e (.slice x l k)).toArray) _ = _ from stAc _ _ _ _ _ _ _ _ _ _, zCh c (by simp)]; rfl
end Go.Am
namespace Go.Am
open Go.Proofs
set_option maxRecDepth 100000
set_option linter.all false
attribute [local congr] zCc zCn zCp zCo zCg zCd
theorem fvLp (a : Option Addr) (n c : Nat) : fieldV Tryz.prog 51 (.agg #[.slice a n c]) 0 = some (.slice a n c) := by kernel_rfl
structure KP (b x : Nat → Value) : Prop where
  e2 : x 2 = b 2
  e7 : x 7 = b 7
  e9 : x 9 = b 9
  e11 : x 11 = b 11
theorem pl_tail {β : Type} {Q : Option β → Prop} {kk : Ex → St → Option β} {h : Heap} {p s pq P n num : Nat} {sv : Value} {es : List E3} {ns : List Nat} {b : Nat → Value} (L : LEn h p s n (P : Nat) num es ns) (R : REn h pq sv n (P : Nat) num es ns) (hl : es.length < 2 ^ 37) (b7 : b 7 = .pointer (some ⟨p, 0, none⟩)) (b9 : b 9 = .pointer (some ⟨pq, 0, none⟩))
    (hk : ∀ (h' : Heap) (y : Nat → Value), Same h h' → KP b y → y 10 = b 10 → Q (kk .normal ⟨ar 202 y, h'⟩)) : ∀ x : Nat → Value, KP b x → x 10 = b 10 → Q (cK c3_17 202 x h kk) := by
  intro x K Ak
  have Ah := K.e7.trans b7
  have Aj := K.e9.trans b9
  have nl := L.len
  obtain ⟨wa, wc, h1, e1, y1, w1⟩ := spec_Seen (L.same (sameNm h))
  obtain ⟨y1', m1⟩ := y1.amx
  have L1 := L.same y1'.same
  have R1 := R.same y1'.same
  have w1' : SU (am h1 h) (.slice wa ns.length wc) ns := Sl.keep w1 fun _ _ _ => rfl
  obtain ⟨lv, ce, ae⟩ := R1.eng
  have n4 : (am h1 h).load1 pq 4 = some sv := ce.load 4
  have e2 := spec_longs w1' R1.seen.su (by omega) rfl
  rw [decide_eq_true rfl] at e2
  obtain ⟨a2, c2, h2, q2, y2, s2⟩ := spec_Log (L1.same (sameNm (am h1 h))) (by omega)
  obtain ⟨y2', m2⟩ := y2.amx
  have s2' : SE (am h2 (am h1 h)) (.slice a2 es.length c2) es := Sl.keep s2 fun _ _ _ => rfl
  have R2 := R1.same y2'.same
  have sm2 := y1'.same.trans y2'.same
  obtain ⟨a3, c3, h3, q3, y3, r3⟩ := spec_log1 (Sl.nm s2') (by omega)
  obtain ⟨y3', m3⟩ := y3.amx
  have s3' : SE (am h3 (am h2 (am h1 h))) (.slice a3 es.length c3) es := Sl.keep (AR.se r3) fun _ _ _ => rfl
  have R3 := R2.same y3'.same
  have sm3 := sm2.trans y3'.same
  obtain ⟨lv3, ce3, ae3⟩ := R3.eng
  have n3 : (am h3 (am h2 (am h1 h))).load1 pq 3 = some lv3 := ce3.load 3
  have e4 := spec_logs s3' (AR.se ae3) (by omega) (by omega)
  rw [decide_eq_true rfl] at e4
  simp -implicitDefEqProofs (maxSteps := 2000000) (disch := omega) only [↓c3_17_eq, ↓c3_19_eq, ↓c3_20_eq, ↓d3_0_0, ↓d3_0_1, ↓d3_0_2, ↓d3_0_3, ↓d3_0_4, ↓d3_0_5, ↓d3_0_6, ↓d3_0_7, ↓d3_0_8, ↓d3_0_9, ↓d3_0_10, ↓d3_0_11, ↓d3_0_12, ↓d3_0_13, ↓d3_0_14, ↓d3_0_15, ↓d3_0_16, ↓d3_0_17, ↓d3_0_18, ↓d3_0_19, ↓d3_0_20, dcT, dcF,Ah,Aj, e1, m1, zAd, faGn3, faGn4, ldGs, ldGl, n4, e2, q2, m2, fvLp, q3, m3, n3, e4, List.append_nil, List.nil_append, ↓zAf, ↓zAb, ↓Option.bind_some, ↓zAa, zBd, zBm, zBl, zBe, zBn, zBk, zBi, zBf, zBj, zBq, zBp, Option.bind_some, Option.bind_none, Option.map_some, zAf, zAb, zAl, zAk, zBh, zAw, zAy, zAp, zBc, zAs, zBa, zAr, zBt, zBu, zBv, zBs, zAz, zAa, zAc, zAd, zAe, zAh, zAm, zAg, zAj, zAn, zAi, zAu, zAx, zAv, zBb, zAt, Bool.not_true, Bool.not_false, zCk, zCj, zCl, zCi, zCm, zAq, zAo, zBg, zBo, zBr, cond_true, cond_false, Nat.reduceBEq]
  exact hk _ _ sm3 ⟨K.e2, K.e7, K.e9, K.e11⟩ Ak
theorem ABv.appP {n0 : Nat} {h : Heap} (hn : n0 ≤ h.blks.length) {v : Value} {vs : List Value} {l : List (List UInt8)} (A : ABv n0 h v vs l) {n1 : Nat} {a : Option Addr} {c : Nat} {r : List UInt8} (ax : AB n1 h (.slice a r.length c) r) (hn1 : n0 ≤ n1) (hl : l.length < 2 ^ 38) :
    ∃ a' c' h', appendV Tryz.prog 34 (some 34) v (.slice (some ⟨h.blks.length, 0, none⟩) 1 1) (h.new (.cells [.slice a r.length c]) 35) = some (.slice a' (l ++ [r]).length c', h') ∧ ABs n0 h' (.slice a' (l ++ [r]).length c') (l ++ [r]) ∧ Keeps n0 h h' ∧ (∀ b, b < h.blks.length → zBz v ≠ some b → h'.blks[b]? = h.blks[b]?) ∧ (∀ b, zBz (.slice a' (l ++ [r]).length c') = some b → h.blks.length ≤ b ∨ zBz v = some b) := by
  have hlen : vs.length = l.length := A.rows.length_eq
  have A2 : Acc n0 (h.new (.cells [.slice a r.length c]) 35) 35 1 v l.length vs := A.out.keep fun b hb _ => Heap.new_old hb
  have hrow : Row (h.new (.cells [.slice a r.length c]) 35) 1 (.slice (some ⟨h.blks.length, 0, none⟩) 1 1) 1 [.slice a r.length c] := .mk (loadN_blk (blk_new_self _ _ _) rfl)
  obtain ⟨v', h', e1, e2, e3, e4, e5⟩ := append_acc etBs (t1 := some 34) (n0 := n0) (by simp [Heap.new]; omega) A2 (newsV_row etBs.under hrow) (by simp) (by omega) (by omega) (by simp [Value.oneCell'])
  obtain ⟨a', c', rfl⟩ := e2.shape
  have el : l.length + 1 = (l ++ [r]).length := by simp
  rw [el] at e1 e2 e5
  have kk : ∀ b, b < h.blks.length → zBz v ≠ some b → h'.blks[b]? = h.blks[b]? := fun b hb hv => (e4 b (by simp [Heap.new]; omega) hv).trans (Heap.new_old hb)
  have tne : ∀ {y : Value} {s : List UInt8} {k0 : Nat}, AB k0 h y s → ∀ b, zBz y = some b → zBz v ≠ some b := fun {y s k0} s b hv hb => by
    obtain ⟨_,Ab⟩ := s.blk hv
    obtain ⟨_,Ac⟩ := A.out.blk hb
    rw [Ab] at Ac
    simp only [Option.some.injEq, Blk.mk.injEq] at Ac
    exact absurd Ac.2.1 (by decide)
  have ax' := Acc.up ax hn1
  refine ⟨a', c', h', e1, ⟨_, e2, (A.rows.mono fun x y s => s.keep fun b hb hv => kk b hb (tne s b hv)).append (.cons (ax'.keep fun b hb hv => kk b hb (tne ax' b hv)) .nil)⟩, (Keeps.new hn _ _).trans e3, kk, fun b hb => ?_⟩
  rcases e5 with ⟨e5, e6⟩ | ⟨e5, _⟩
  · exact .inr (by rw [e5] at hb; exact hb)
  · rw [e5] at hb
    have := Option.some.inj hb
    simp [Heap.new] at this
    exact .inl (by omega)
end Go.Am
namespace Go.Am
open Go.Proofs
set_option maxRecDepth 100000
set_option linter.all false
attribute [local congr] zCc zCn zCp zCo zCg zCd
theorem ABs.atP {n0 : Nat} {h : Heap} {v : Value} {l : List (List UInt8)} (a : ABs n0 h v l) {i : Nat} (hi : i < l.length) :
    ∃ ad x c, zCt Tryz.prog 34 v (.int .i64 i) = some (.pointer (some ad)) ∧ loadV Tryz.prog 35 (.pointer (some ad)) h = some (.slice x (l.getD i []).length c) ∧ AB n0 h (.slice x (l.getD i []).length c) (l.getD i []) := by
  obtain ⟨vs, x⟩ := a
  obtain ⟨ad, e1, e2, _⟩ := (x.out.sl etBs.size).row.at1 etBs.under etBs.size (by kernel_rfl) hi .i64
  obtain ⟨y, hy, ay⟩ := x.rows.get' (i := i) (b := l[i]) (List.getElem?_eq_getElem hi)
  rw [hy] at e2
  obtain ⟨z, c, rfl⟩ : ∃ z c, y = .slice z l[i].length c := Acc.shape ay
  have e : l.getD i [] = l[i] := by rw [List.getD_eq_getElem?_getD, List.getElem?_eq_getElem hi]; rfl
  rw [e]
  exact ⟨ad, z, c, e1, e2, ay⟩
theorem pl_told {β : Type} {Q : Option β → Prop} {kk : Ex → St → Option β} {h0 : Heap} {p s pq P n num : Nat} {qv sv wv : Value} {es : List E3} {ns : List Nat} {b : Nat → Value} {Rw T : List (List UInt8)} (hR : Rw.length ≤ 64) (hT : T.length + 64 < 2 ^ 37)
    (hk : ∀ (h' : Heap) (tv' : Value) (y : Nat → Value), Same h0 h' → LEn h' p s n (P : Nat) num es ns → REn h' pq qv n (P : Nat) num es ns → ABs h0.blks.length h' tv' (T ++ Rw) → KP b y → y 10 = tv' → Q (kk .normal ⟨ar 202 y, h'⟩)) :
    ∀ (mm q : Nat),Rw.length = q + mm → ∀ (x : Nat → Value) (h : Heap) (tv : Value), Same h0 h → LEn h p s n (P : Nat) num es ns → REn h pq qv n (P : Nat) num es ns → ABs h0.blks.length h tv (T ++ Rw.take q) → ABs h0.blks.length h sv Rw → ABs h0.blks.length h wv Rw → (∀ b, zBz tv = some b → zBz sv ≠ some b ∧ zBz wv ≠ some b) →
      KP b x → x 10 = tv → x 14 = sv → x 15 = wv → x 16 = .int .i64 q → Q (lK c3_18 202 x h (zCr 3 (zCr 2 kk))) := by
  intro mm
  induction mm with
  | zero =>
    intro q hq x h tv sm L R A S W dj K Ak Ap Aq Ar
    rw [lK_eq]
    obtain rfl : q = Rw.length := by omega
    rw [List.take_length] at A
    have ln := W.len
    simp -implicitDefEqProofs (disch := omega) only [↓c3_18_eq, dcF,Aq,Ar, ln, ↓zAf, ↓zAb, ↓Option.bind_some, ↓zAa, zBd, zBm, zBl, zBe, zBn, zBk, zBi, zBf, zBj, zBq, zBp, Option.bind_some, Option.bind_none, Option.map_some, zAf, zAb, zAl, zAk, zBh, zAw, zAy, zAp, zBc, zAs, zBa, zAr, zBt, zBu, zBv, zBs, zAz, zAa, zAc, zAd, zAe, zAh, zAm, zAg, zAj, zAn, zAi, zAu, zAx, zAv, zBb, zAt, Bool.not_true, Bool.not_false, zCk, zCj, zCl, zCi, zCm, zAq, zAo, zBg, zBo, zBr, cond_true, cond_false, Nat.reduceBEq]
    exact hk h tv _ sm L R A ⟨K.e2, K.e7, K.e9, K.e11⟩ Ak
  | succ mm ih =>
    intro q hq x h tv sm L R A S W dj K Ak Ap Aq Ar
    rw [lK_eq]
    have hlt : q < Rw.length := by omega
    have ln := W.len
    obtain ⟨ad, sx, sc, ea, ex, ab⟩ := S.atP hlt
    obtain ⟨ad2, wx, wc, ea2, ex2, ab2⟩ := W.atP hlt
    have gd : Rw.getD q [] = Rw[q] := by rw [List.getD_eq_getElem?_getD, List.getElem?_eq_getElem hlt]; rfl
    rw [gd] at ex ab ex2 ab2
    have f1 := strB (ab.sl etB.size)
    have f2 := strB (ab2.sl etB.size)
    have hse : ∀ xo yo (x : List UInt8), binV Tryz.prog .neq 9 xo yo (strV x) (strV x) = some (.bool false) := fun xo yo x => by rw [bin_strneq, decide_eq_false (fun h => h rfl)]
    have hw : IntKind.wrap .i64 ((q : Int) + 1) = ((q + 1 : Nat) : Int) := by rw [wrap_i64] <;> omega
    obtain ⟨vs, A⟩ := A
    obtain ⟨a3, c3, h3, e3, A3, k3, o3, n3⟩ := A.appP sm.1 ab (Nat.le_refl _) (by rw [List.length_append, List.length_take]; omega)
    rw [show T ++ Rw.take q ++ [Rw[q]] = T ++ Rw.take (q + 1) by rw [List.take_succ, List.getElem?_eq_getElem hlt, List.append_assoc]; rfl] at e3 A3 n3
    have tne : ∀ (b : Nat) (all : List Value) (ty : TypeId), h.blks[b]? = some ⟨.cells all, ty, true⟩ → ty ≠ 35 → h3.blks[b]? = h.blks[b]? := fun b all ty hb ht => o3 b (List.getElem?_eq_some_iff.1 hb).1 fun e => by
      obtain ⟨_,Ac⟩ := A.out.blk e
      rw [hb] at Ac
      simp only [Option.some.injEq, Blk.mk.injEq] at Ac
      exact ht Ac.2.1
    have kpR : ∀ {rv : Value}, ABs h0.blks.length h rv Rw → (∀ b, zBz tv = some b → zBz rv ≠ some b) → ABs h0.blks.length h3 rv Rw := fun {rv} S d => by
      obtain ⟨ws, x⟩ := S
      exact ⟨ws, x.out.keep fun b hb hv => o3 b hb fun e => d b e hv, x.rows.mono fun _ _ y => Acc.keep y fun b _ hv => by obtain ⟨all, h1⟩ := Acc.blk y hv; exact tne b all _ h1 (by decide)⟩
    have S3 := kpR S fun b hb => (dj b hb).1
    have W3 := kpR W fun b hb => (dj b hb).2
    have L3 : LEn h3 p s n (P : Nat) num es ns := L.kp ⟨k3.len, fun q ty cs c ht => (tne q cs ty c ht).trans c⟩
    have R3 : REn h3 pq qv n (P : Nat) num es ns := R.kp fun b all ty hb ht => tne b all ty hb (by rcases ht with rfl | rfl | ⟨rfl, _⟩ <;> decide)
    have lt : ∀ {rv : Value}, ABs h0.blks.length h rv Rw → ∀ b, zBz rv = some b → b < h.blks.length := fun {rv} S b hb => by
      obtain ⟨ws, x⟩ := S
      obtain ⟨all, h1⟩ := x.out.blk hb
      exact (List.getElem?_eq_some_iff.1 h1).1
    have dj3 : ∀ b, zBz (.slice a3 (T ++ Rw.take (q + 1)).length c3) = some b → zBz sv ≠ some b ∧ zBz wv ≠ some b := fun b hb => by
      rcases n3 b hb with h1 | h1
      · exact ⟨fun e => by have := lt S b e; omega, fun e => by have := lt W b e; omega⟩
      · exact dj b h1
    have sm3 : Same h0 h3 := ⟨Nat.le_trans sm.1 k3.len, fun b hb => (k3.old b hb).trans (sm.2 b hb)⟩
    have bs := mkBs1 sx Rw[q].length sc h
    simp -implicitDefEqProofs (disch := omega) only [↓c3_18_eq, dcT,Ak,Ap,Aq,Ar, ln, ea, ex, ea2, ex2, f1, f2, hse, bs, e3, hw, ↓zAf, ↓zAb, ↓Option.bind_some, ↓zAa, zBd, zBm, zBl, zBe, zBn, zBk, zBi, zBf, zBj, zBq, zBp, Option.bind_some, Option.bind_none, Option.map_some, zAf, zAb, zAl, zAk, zBh, zAw, zAy, zAp, zBc, zAs, zBa, zAr, zBt, zBu, zBv, zBs, zAz, zAa, zAc, zAd, zAe, zAh, zAm, zAg, zAj, zAn, zAi, zAu, zAx, zAv, zBb, zAt, Bool.not_true, Bool.not_false, zCk, zCj, zCl, zCi, zCm, zAq, zAo, zBg, zBo, zBr, cond_true, cond_false, Nat.reduceBEq]
    exact ih (q + 1) (by omega) _ h3 _ sm3 L3 R3 A3 S3 W3 dj3 ⟨K.e2, K.e7, K.e9, K.e11⟩ rfl Ap Aq rfl
end Go.Am
namespace Go.Am
open Go.Proofs
set_option maxRecDepth 100000
set_option linter.all false
attribute [local congr] zCc zCn zCp zCo zCg zCd
theorem wide_addP {es : List E3} {x : E3} (w : wide es) (h1 : x.n < 2 ^ 64) (h2 : x.t < 2 ^ 64) : wide (addE es x) := fun e he => by
  rcases mem_addE he with he | rfl
  · exact w e he
  · exact ⟨h1, h2⟩
theorem wide_sendP {es : List E3} (w : wide es) (me : Int) (num t : Nat) (h1 : num + 1 < 2 ^ 64) (h2 : t < 2 ^ 64) : wide (sendLog es me num t) := wide_purge (wide_addP (wide_lessE w) h1 h2)
theorem wide_takeP {es g : List E3} (w : wide es) (wg : wide g) (me fr : Int) (k to : Nat) (h1 : k < 2 ^ 64) (h2 : to < 2 ^ 64) : wide (takeLog es me fr k to g) := wide_purge (wide_lessE (wide_join w (wide_lessE (wide_addP wg h1 h2))))
theorem HMod.lowsP {S : Nat → Prop} {h1 h h' : Heap} (m : HMod S h h') (e : Same h1 h) (hS : ∀ b, b < h1.blks.length → ¬ S b) : Same h1 h' :=
  ⟨Nat.le_trans e.1 m.len, fun b hb => (m.old b (Nat.lt_of_lt_of_le hb e.1) (hS b hb)).trans (e.2 b hb)⟩
theorem LEn.tyP {h : Heap} {p s : Nat} {n me : Int} {num : Nat} {es : List E3} {ns : List Nat} (l : LEn h p s n me num es ns) {b : Nat} (hb : b = p ∨ b = s) {all : List Value} {ty : TypeId} (hk : h.blks[b]? = some ⟨.cells all, ty, true⟩) : ty = 90 ∨ ty = 30 := by
  obtain ⟨_, _, c, _⟩ := l.eng
  rcases hb with rfl | rfl
  · exact .inl (c.ty hk).symm
  · exact .inr (l.seen.ty hk).symm
theorem hasB_sendTP (n P to : Nat) (hn : n ≤ 16) (hP : P < n) : hasB (sendT n (P : Nat) to) (P : Nat) = false := by
  have h := hasB_outMe (allN n) (P : Nat) (allN_lt n (by omega)) (by omega) (by omega)
  unfold sendT
  unfold hasB at h ⊢
  rw [Nat.testBit_and]
  cases hb : (outB (allN n) (ofN (P : Nat))).testBit (P : Int).toNat with
  | false => simp
  | true => rw [hb] at h; simp at h; omega
structure PSt (h0 h : Heap) (n P p s pq : Nat) (sv tv : Value) (num : Nat) (es : List E3) (ns : List Nat) (T : List (List UInt8)) (K : List (Int × Nat)) : Prop where
  sm : Same h0 h
  L : LEn h p s n (P : Nat) num es ns
  R : REn h pq sv n (P : Nat) num es ns
  A : ABs h0.blks.length h tv T
  lp : h0.blks.length ≤ p ∧ h0.blks.length ≤ s ∧ h0.blks.length ≤ pq ∧ p ≠ s
  ss : zBz sv ≠ some s
  inv : LInv (P : Nat) es
  w : wide es
  kb : KB K es
  nl : ns.length = n
  told : ∀ b ∈ T, Told K b
section
variable {h0 h : Heap} {n P p s pq : Nat} {sv tv : Value} {num : Nat} {es : List E3} {ns : List Nat} {T : List (List UInt8)} {K : List (Int × Nat)}
theorem PSt.same {h' : Heap} (S : PSt h0 h n P p s pq sv tv num es ns T K) (e : Same h h') : PSt h0 h' n P p s pq sv tv num es ns T K :=
  ⟨S.sm.trans e, S.L.same e, S.R.same e, S.A.same e, S.lp, S.ss, S.inv, S.w, S.kb, S.nl, S.told⟩
theorem PSt.onL {h' : Heap} {T0 : Nat → Prop} (S : PSt h0 h n P p s pq sv tv num es ns T K) (m : HMod T0 h h') (hT : ∀ b, T0 b → b = p ∨ b = s) :
    Same h0 h' ∧ REn h' pq sv n (P : Nat) num es ns ∧ ABs h0.blks.length h' tv T ∧ ∀ (q : Nat) (all : List Value) (ty : TypeId), h.blks[q]? = some ⟨.cells all, ty, true⟩ → ty ≠ 90 → ty ≠ 30 → h'.blks[q]? = h.blks[q]? := by
  have tk : ∀ (q : Nat) (all : List Value) (ty : TypeId), h.blks[q]? = some ⟨.cells all, ty, true⟩ → ty ≠ 90 → ty ≠ 30 → h'.blks[q]? = h.blks[q]? := fun q all ty hq t1 t2 => m.old q (List.getElem?_eq_some_iff.1 hq).1 fun e => by
    rcases S.L.tyP (hT q e) hq with e | e
    · exact t1 e
    · exact t2 e
  have lp := S.lp
  refine ⟨m.lowsP S.sm fun b hb e => ?_, S.R.kp fun q all ty hq ht => ?_, ?_, tk⟩
  · have := hT b e; omega
  · rcases ht with rfl | rfl | ⟨rfl, hv⟩
    · exact tk q all _ hq (by decide) (by decide)
    · exact tk q all _ hq (by decide) (by decide)
    · refine m.old q (List.getElem?_eq_some_iff.1 hq).1 fun e => ?_
      rcases hT q e with rfl | rfl
      · obtain ⟨_, _, c, _⟩ := S.L.eng
        exact absurd (c.ty hq) (by decide)
      · exact S.ss hv
  · obtain ⟨vs, x⟩ := S.A
    exact ⟨vs, x.kp fun b all ty hb ht _ => tk b all ty hb (by rcases ht with rfl | rfl <;> decide) (by rcases ht with rfl | rfl <;> decide)⟩
theorem REn.onR {h' : Heap} {p s pq : Nat} {n me : Int} {num num' : Nat} {es es' : List E3} {ns ns' : List Nat} {sv tv : Value} (R : REn h pq sv n me num es ns) (m : HMod (Just pq) h h') (sm : Same h0 h) (hpq : h0.blks.length ≤ pq) (L : LEn h p s n me num' es' ns') (A : ABs h0.blks.length h tv T) :
    Same h0 h' ∧ LEn h' p s n me num' es' ns' ∧ ABs h0.blks.length h' tv T := by
  obtain ⟨_, c, _⟩ := R.eng
  have tk : ∀ (q : Nat) (all : List Value) (ty : TypeId), h.blks[q]? = some ⟨.cells all, ty, true⟩ → ty ≠ 33 → h'.blks[q]? = h.blks[q]? := fun q all ty hq t1 => m.old q (List.getElem?_eq_some_iff.1 hq).1 fun e => by
    have e : q = pq := e
    subst e
    exact t1 (c.ty hq).symm
  refine ⟨m.lowsP sm fun b hb e => ?_, ?_, ?_⟩
  · have e : b = pq := e; omega
  · obtain ⟨la, lc, a, b⟩ := L.eng
    exact ⟨⟨la, lc, (tk p _ _ a (by decide)).trans a, b.keep fun q _ hq => by obtain ⟨all, hh⟩ := b.blk hq; exact tk q all _ hh (by decide)⟩, (tk s _ _ L.seen (by decide)).trans L.seen, L.len⟩
  · obtain ⟨vs, x⟩ := A
    exact ⟨vs, x.kp fun b all ty hb ht _ => tk b all ty hb (by rcases ht with rfl | rfl <;> decide)⟩
end
theorem faAc0 (p : Nat) : zCb Tryz.prog 37 (.pointer (some ⟨p, 0, none⟩)) 0 = some (.pointer (some ⟨p, 0, none⟩)) := by kernel_rfl
theorem faAc1 (p : Nat) : zCb Tryz.prog 37 (.pointer (some ⟨p, 0, none⟩)) 1 = some (.pointer (some ⟨p, 1, none⟩)) := by kernel_rfl
theorem faAc2 (p : Nat) : zCb Tryz.prog 37 (.pointer (some ⟨p, 0, none⟩)) 2 = some (.pointer (some ⟨p, 2, none⟩)) := by kernel_rfl
theorem faAc3 (p : Nat) : zCb Tryz.prog 37 (.pointer (some ⟨p, 0, none⟩)) 3 = some (.pointer (some ⟨p, 3, none⟩)) := by kernel_rfl
theorem faAc4 (p : Nat) : zCb Tryz.prog 37 (.pointer (some ⟨p, 0, none⟩)) 4 = some (.pointer (some ⟨p, 4, none⟩)) := by kernel_rfl
theorem faAc5 (p : Nat) : zCb Tryz.prog 37 (.pointer (some ⟨p, 0, none⟩)) 5 = some (.pointer (some ⟨p, 5, none⟩)) := by kernel_rfl
theorem bneqP (xo yo : Operand) (a b : Bool) : binV Tryz.prog .neq 4 xo yo (.bool a) (.bool b) = some (.bool (!(a == b))) := bin_bneq _ _ _ _ (by cases a <;> cases b <;> kernel_rfl)
theorem bb_ne (r : Bool) : (!(r == r)) = false := by cases r <;> rfl
def Keys (K : List (Int × Nat)) (bs : List UInt8) (K1 : List (Int × Nat)) : Prop := (∀ x ∈ K, x ∈ K1) ∧ K1.length ≤ K.length + 300 ∧ ∀ g, getP bs = some g → KB K1 g
section
variable {β : Type} {Q : Option β → Prop} {kk : Ex → St → Option β} {h0 h : Heap} {n P p s pq pm : Nat} {sv tv : Value} {num : Nat} {es : List E3} {ns : List Nat} {T : List (List UInt8)} {K : List (Int × Nat)} {b : Nat → Value} {e : AL} {bv0 bv : Value} {bs : List UInt8} {K1 : List (Int × Nat)}
theorem pl_can (S : PSt h0 h n P p s pq sv tv num es ns T K) (cm : Cells h pm 37 (alC e bv0)) (h1 : e.op ≠ 0) (h2 : e.op ≠ 1) (sb : SB h bv bs) (hl : bs.length < 2 ^ 26) (b7 : b 7 = .pointer (some ⟨p, 0, none⟩)) (b9 : b 9 = .pointer (some ⟨pq, 0, none⟩))
    (hk : ∀ (h' : Heap) (y : Nat → Value), Same h h' → KP b y → y 10 = tv → Q (kk .normal ⟨ar 202 y, h'⟩)) :
    ∀ x : Nat → Value, KP b x → x 10 = tv → x 12 = .pointer (some ⟨pm, 0, none⟩) → x 13 = bv → Q (cK c3_16 202 x h kk) := by
  intro x KK Ak An Ao
  have Ah := KK.e7.trans b7
  have Aj := KK.e9.trans b9
  have a0 : h.load1 pm 0 = some (.int .i64 e.op) := cm.load 0
  have a1 : h.load1 pm 1 = some (.int .i64 e.frm) := cm.load 1
  have a3 : h.load1 pm 3 = some (.int .u64 e.num) := cm.load 3
  obtain ⟨hA, q1, y1⟩ := spec_Can (S.L.same (sameNm h)) e.frm e.num sb.nm (by omega)
  obtain ⟨y1', m1⟩ := y1.amx
  have cA := cm.same y1'.same
  have n1 : (am hA h).load1 pm 1 = some (.int .i64 e.frm) := cA.load 1
  have n3 : (am hA h).load1 pm 3 = some (.int .u64 e.num) := cA.load 3
  obtain ⟨hB, q2, y2⟩ := spec_rcan (S.R.same y1'.same) e.frm e.num (Sl.same sb y1'.same) (by omega)
  simp -implicitDefEqProofs (disch := omega) only [↓c3_16_eq,Ah,Aj,An,Ao, faAc0, faAc1, faAc3, ldI, ldU, a0, a1, a3, decide_eq_false h1, decide_eq_false h2, q1, m1, n1, n3, q2, bneqP, bb_ne, List.nil_append, List.append_nil, ↓zAf, ↓zAb, ↓Option.bind_some, ↓zAa, zBd, zBm, zBl, zBe, zBn, zBk, zBi, zBf, zBj, zBq, zBp, Option.bind_some, Option.bind_none, Option.map_some, zAf, zAb, zAl, zAk, zBh, zAw, zAy, zAp, zBc, zAs, zBa, zAr, zBt, zBu, zBv, zBs, zAz, zAa, zAc, zAd, zAe, zAh, zAm, zAg, zAj, zAn, zAi, zAu, zAx, zAv, zBb, zAt, Bool.not_true, Bool.not_false, zCk, zCj, zCl, zCi, zCm, zAq, zAo, zBg, zBo, zBr, cond_true, cond_false, Nat.reduceBEq]
  exact hk hB _ (y1'.same.trans y2.same) ⟨KK.e2, KK.e7, KK.e9, KK.e11⟩ Ak
theorem pl_take (S : PSt h0 h n P p s pq sv tv num es ns T K) (hn : n ≤ 16) (hP : P < n) (hK : K.length ≤ 2 ^ 20) (cm : Cells h pm 37 (alC e bv0)) (h1 : e.op = 1) (sb : SB h bv bs) (hl : bs.length < 2 ^ 26) (hnum : e.num < 2 ^ 64) (hto : e.to < 65536)
    (sb2 : ∀ h' : Heap, (∀ (q : Nat) (all : List Value) (ty : TypeId), h.blks[q]? = some ⟨.cells all, ty, true⟩ → ty ≠ 90 → ty ≠ 30 → h'.blks[q]? = h.blks[q]?) → Same h0 h' → SB h' bv bs) (hne : zBz bv ≠ some p ∧ zBz bv ≠ some s) (hK1 : Keys K bs K1) (b7 : b 7 = .pointer (some ⟨p, 0, none⟩)) (b9 : b 9 = .pointer (some ⟨pq, 0, none⟩))
    (hk : ∀ (h' : Heap) (y : Nat → Value) (sv' : Value) (es' : List E3) (ns' : List Nat) (K' : List (Int × Nat)), PSt h0 h' n P p s pq sv' tv num es' ns' T K' → K'.length ≤ K.length + 301 → KP b y → y 10 = tv → Q (kk .normal ⟨ar 202 y, h'⟩)) :
    ∀ x : Nat → Value, KP b x → x 10 = tv → x 12 = .pointer (some ⟨pm, 0, none⟩) → x 13 = bv → Q (cK c3_16 202 x h kk) := by
  intro x KK Ak An Ao
  have Ah := KK.e7.trans b7
  have Aj := KK.e9.trans b9
  have a0 : h.load1 pm 0 = some (.int .i64 e.op) := cm.load 0
  have a1 : h.load1 pm 1 = some (.int .i64 e.frm) := cm.load 1
  have a3 : h.load1 pm 3 = some (.int .u64 e.num) := cm.load 3
  have a4 : h.load1 pm 4 = some (.int .u64 e.to) := cm.load 4
  have hlen := S.kb.len S.inv.good
  have lp := S.lp
  have d0 : decide (e.op = 0) = false := decide_eq_false (by omega)
  have d1 : decide (e.op = 1) = true := decide_eq_true h1
  cases hc : canE n (P : Nat) ns e.frm e.num bs with
  | false =>
    obtain ⟨hA, q1, y1⟩ := spec_TakeNo (S.L.same (sameNm h)) e.frm e.num e.to sb.nm (by omega) hc
    obtain ⟨y1', m1⟩ := y1.amx
    have cA := cm.same y1'.same
    have n1 : (am hA h).load1 pm 1 = some (.int .i64 e.frm) := cA.load 1
    have n3 : (am hA h).load1 pm 3 = some (.int .u64 e.num) := cA.load 3
    have n4 : (am hA h).load1 pm 4 = some (.int .u64 e.to) := cA.load 4
    obtain ⟨hB, q2, y2⟩ := spec_rtakeNo (S.R.same y1'.same) e.frm e.num e.to (Sl.same sb y1'.same) (by omega) hc
    simp -implicitDefEqProofs (disch := omega) only [↓c3_16_eq,Ah,Aj,An,Ao, faAc0, faAc1, faAc3, faAc4, ldI, ldU, a0, a1, a3, a4, d0, d1, q1, m1, n1, n3, n4, q2, bneqP, bb_ne, List.nil_append, List.append_nil, ↓zAf, ↓zAb, ↓Option.bind_some, ↓zAa, zBd, zBm, zBl, zBe, zBn, zBk, zBi, zBf, zBj, zBq, zBp, Option.bind_some, Option.bind_none, Option.map_some, zAf, zAb, zAl, zAk, zBh, zAw, zAy, zAp, zBc, zAs, zBa, zAr, zBt, zBu, zBv, zBs, zAz, zAa, zAc, zAd, zAe, zAh, zAm, zAg, zAj, zAn, zAi, zAu, zAx, zAv, zBb, zAt, Bool.not_true, Bool.not_false, zCk, zCj, zCl, zCi, zCm, zAq, zAo, zBg, zBo, zBr, cond_true, cond_false, Nat.reduceBEq]
    exact hk hB _ sv es ns K (S.same (y1'.same.trans y2.same)) (by omega) ⟨KK.e2, KK.e7, KK.e9, KK.e11⟩ Ak
  | true =>
    obtain ⟨g, hg⟩ : ∃ g, getP bs = some g := by
      cases hg : getP bs with
      | none => unfold canE at hc; rw [hg] at hc; cases hc
      | some g => exact ⟨g, rfl⟩
    have hc' := hc
    rw [canE_some hg] at hc'
    split at hc'
    · cases hc'
    rename_i hcf
    obtain ⟨j, hj⟩ : ∃ j : Nat, e.frm = j := ⟨e.frm.toNat, by omega⟩
    rw [hj] at a1 hc hcf
    have hm : mayE ⟨(j : Nat), e.num, e.to⟩ = true := by
      unfold mayE
      simp only [Bool.and_eq_true, decide_eq_true_eq]
      omega
    have gl := getP_len bs
    rw [hg, Option.getD_some] at gl
    obtain ⟨hA, q1, m1, L1⟩ := spec_Take (S.L.same (sameNm h)) hn S.nl S.w (by omega) lp.2.2.2 (j : Nat) e.num e.to hnum (by omega) sb.nm hl hne.1 hne.2 hg hc (insOk_all (by omega))
    have m1' := m1.amx
    have md := m1.mods_nm
    obtain ⟨smA, RA, AA, tk⟩ := S.onL m1' (fun b hb => hb)
    have LA : LEn (am hA h) p s n (P : Nat) num (takeLog es (P : Nat) (j : Nat) e.num e.to g) (ns.set j e.num) := by
      have := L1.same (⟨Nat.le_refl _, fun _ _ => rfl⟩ : Same hA (am hA h))
      rwa [Int.toNat_natCast] at this
    have cA : Cells (am hA h) pm 37 (alC e bv0) := (tk pm _ _ cm (by decide) (by decide)).trans cm
    have n1 : (am hA h).load1 pm 1 = some (.int .i64 e.frm) := cA.load 1
    rw [hj] at n1
    have n3 : (am hA h).load1 pm 3 = some (.int .u64 e.num) := cA.load 3
    have n4 : (am hA h).load1 pm 4 = some (.int .u64 e.to) := cA.load 4
    obtain ⟨sv', hB, q2, m2, R2, f2⟩ := spec_rtake RA hn hP S.nl S.inv.good S.w (by omega) j e.num e.to (by omega) hnum (by omega) (sb2 _ tk smA) hl hg hc hm
    obtain ⟨smB, LB, AB⟩ := RA.onR m2 smA lp.2.2.1 LA AA
    have npm : pm ≠ p ∧ pm ≠ s := by
      constructor
      · intro e'
        rcases S.L.tyP (.inl e') cm with k | k
        · exact absurd k (by decide)
        · exact absurd k (by decide)
      · intro e'
        rcases S.L.tyP (.inr e') cm with k | k
        · exact absurd k (by decide)
        · exact absurd k (by decide)
    have ck : ∀ X : Option β, chk (rb (.pointer (some ⟨pm, 4, none⟩)) ++ (rb (.pointer (some ⟨pm, 3, none⟩)) ++ rb (.pointer (some ⟨pm, 1, none⟩)))) hA.mods X = X := fun X => chk_ne (fun b hb z hz e' => by
      have hb : b = pm := by
        simp only [rb_ptr, List.mem_append, List.mem_singleton] at hb
        rcases hb with h | h | h <;> exact h
      rcases md z hz with k | k
      · exact npm.1 (by rw [← hb, e', k])
      · exact npm.2 (by rw [← hb, e', k])) X
    have s64 : s < h.blks.length := S.L.seen.lt
    simp -implicitDefEqProofs (disch := omega) only [↓c3_16_eq,Ah,Aj,An,Ao, faAc0, faAc1, faAc3, faAc4, ldI, ldU, a0, a1, a3, a4, d0, d1, q1, n1, n3, n4, q2, bneqP, bb_ne, List.nil_append, List.append_nil, ck, ↓zAf, ↓zAb, ↓Option.bind_some, ↓zAa, zBd, zBm, zBl, zBe, zBn, zBk, zBi, zBf, zBj, zBq, zBp, Option.bind_some, Option.bind_none, Option.map_some, zAf, zAb, zAl, zAk, zBh, zAw, zAy, zAp, zBc, zAs, zBa, zAr, zBt, zBu, zBv, zBs, zAz, zAa, zAc, zAd, zAe, zAh, zAm, zAg, zAj, zAn, zAi, zAu, zAx, zAv, zBb, zAt, Bool.not_true, Bool.not_false, zCk, zCj, zCl, zCi, zCm, zAq, zAo, zBg, zBo, zBr, cond_true, cond_false, Nat.reduceBEq]
    refine hk hB _ sv' _ _ (((j : Nat), e.num) :: K1) ⟨smB, LB, R2, AB, lp, fun hs => ?_, inv_take S.inv (getP_good hg) (j : Nat) e.num e.to hm (by omega) (by omega), wide_takeP S.w (getP_wide hg) _ _ _ _ hnum (by omega), ((S.kb.more hK1.1).take (hK1.2.2 g hg) _ _ _ _).more fun x hx => ?_, by rw [List.length_set]; exact S.nl, fun b hb => (S.told b hb).more fun x hx => List.mem_cons_of_mem _ (hK1.1 x hx)⟩ ?_ ⟨KK.e2, KK.e7, KK.e9, KK.e11⟩ Ak
    · have := f2 s hs
      have : (am hA h).blks.length = hA.blks.length := rfl
      have := m1.len
      have : (nm h).blks.length = h.blks.length := rfl
      omega
    · rcases List.mem_cons.1 hx with rfl | hx
      · exact List.mem_cons_self
      · rcases List.mem_append.1 hx with hx | hx <;> exact List.mem_cons_of_mem _ hx
    · have := hK1.2.1
      simp only [List.length_cons]
      omega
end
end Go.Am
namespace Go.Am
open Go.Proofs
set_option maxRecDepth 100000
set_option linter.all false
attribute [local congr] zCc zCn zCp zCo zCg zCd
theorem ABs.geP {n0 : Nat} {h : Heap} {v : Value} {l : List (List UInt8)} (a : ABs n0 h v l) {b : Nat} (hb : zBz v = some b) : n0 ≤ b := let ⟨_, x⟩ := a; Acc.ge x.out hb
theorem ABs.ltP {n0 : Nat} {h : Heap} {v : Value} {l : List (List UInt8)} (a : ABs n0 h v l) {b : Nat} (hb : zBz v = some b) : b < h.blks.length := by
  obtain ⟨_, x⟩ := a
  obtain ⟨all, hh⟩ := x.out.blk hb
  exact (List.getElem?_eq_some_iff.1 hh).1
section
variable {β : Type} {Q : Option β → Prop} {kk : Ex → St → Option β} {h0 h : Heap} {n P p s pq pm : Nat} {sv tv : Value} {num : Nat} {es : List E3} {ns : List Nat} {T : List (List UInt8)} {K : List (Int × Nat)} {b : Nat → Value} {e : AL} {bv0 bv : Value} {bs : List UInt8} {K1 : List (Int × Nat)}
theorem pl_send (S : PSt h0 h n P p s pq sv tv num es ns T K) (hn : n ≤ 16) (hP : P < n) (hK : K.length ≤ 2 ^ 20) (hT : T.length + 64 < 2 ^ 37) (hnm : num + 1 < 2 ^ 64) (cm : Cells h pm 37 (alC e bv0)) (h1 : e.op = 0) (hto : e.to < 65536) (b7 : b 7 = .pointer (some ⟨p, 0, none⟩)) (b9 : b 9 = .pointer (some ⟨pq, 0, none⟩))
    (hk : ∀ (h' : Heap) (y : Nat → Value) (tv' : Value) (es' : List E3) (T' : List (List UInt8)) (K' : List (Int × Nat)), PSt h0 h' n P p s pq sv tv' (num + 1) es' ns T' K' → K'.length ≤ K.length + 301 → T'.length ≤ T.length + 64 → KP b y → y 10 = tv' → Q (kk .normal ⟨ar 202 y, h'⟩)) :
    ∀ x : Nat → Value, KP b x → x 10 = tv → x 12 = .pointer (some ⟨pm, 0, none⟩) → Q (cK c3_16 202 x h kk) := by
  intro x KK Ak An
  have Ah := KK.e7.trans b7
  have Aj := KK.e9.trans b9
  have a0 : h.load1 pm 0 = some (.int .i64 e.op) := cm.load 0
  have a4 : h.load1 pm 4 = some (.int .u64 e.to) := cm.load 4
  have hlen := S.kb.len S.inv.good
  have lp := S.lp
  have d0 : decide (e.op = 0) = true := decide_eq_true h1
  have tlt := sendT_ltP n (P : Nat) e.to
  have h16 : (2 : Nat) ^ n ≤ 2 ^ 16 := Nat.pow_le_pow_right (by omega) hn
  have htm := hasB_sendTP n P e.to hn hP
  obtain ⟨lw, hA, q1, m1, L1, B1⟩ := spec_Send (S.L.same (sameNm h)) hn S.w (by omega) hnm e.to (by omega) lp.2.2.2 (insOk_all (by rw [lessE_len]; omega))
  rw [listW_bits _ (by omega), show bitsL (sendT n (P : Nat) e.to) = bitsTo (sendT n (P : Nat) e.to) 64 from rfl] at B1
  have m1' := m1.amx
  have md := m1.mods_nm
  obtain ⟨smA, RA, AA, tk⟩ := S.onL m1' (fun b hb => .inl hb)
  have LA := L1.same (⟨Nat.le_refl _, fun _ _ => rfl⟩ : Same hA (am hA h))
  have BA : ABs (nm h).blks.length (am hA h) lw ((bitsTo (sendT n (P : Nat) e.to) 64).map (rowF es (sendT n (P : Nat) e.to))) := B1.same (⟨Nat.le_refl _, fun _ _ => rfl⟩ : Same hA (am hA h))
  have cA : Cells (am hA h) pm 37 (alC e bv0) := (tk pm _ _ cm (by decide) (by decide)).trans cm
  have n4 : (am hA h).load1 pm 4 = some (.int .u64 e.to) := cA.load 4
  obtain ⟨rw', hB, q2, m2, R2, B2⟩ := spec_rsend RA hn hP S.inv.good S.w (by omega) hnm e.to (by omega)
  obtain ⟨smB, LB, AB⟩ := RA.onR m2 smA lp.2.2.1 LA AA
  have e0 : (nm h).blks.length = h.blks.length := rfl
  have eA : (am hA h).blks.length = hA.blks.length := rfl
  have hAl := m1.len
  have h0l := S.sm.1
  obtain ⟨_, _, BB⟩ := RA.onR m2 smA lp.2.2.1 LA (BA.up (n1 := h0.blks.length) (by omega))
  have npm : pm ≠ p := fun e' => by
    rcases S.L.tyP (.inl e') cm with k | k
    · exact absurd k (by decide)
    · exact absurd k (by decide)
  have ck : ∀ X : Option β, chk (rb (.pointer (some ⟨pm, 4, none⟩))) hA.mods X = X := fun X => chk_ne (fun b hb z hz e' => by
    have hb : b = pm := by
      simp only [rb_ptr, List.mem_singleton] at hb
      exact hb
    have k : z = p := (md z hz).symm ▸ rfl
    exact npm (by rw [← hb, e', k])) X
  have ln1 := BB.len
  have ln2 := B2.len
  have blen := bitsTo_len (sendT n (P : Nat) e.to) 64
  simp -implicitDefEqProofs (disch := omega) only [↓c3_16_eq,Ah,Aj,An, faAc0, faAc4, ldI, ldU, a0, a4, d0, q1, n4, q2, ck, ln1, ln2, ne_eq, eq_self, not_true_eq_false, decide_false, List.nil_append, List.append_nil, ↓zAf, ↓zAb, ↓Option.bind_some, ↓zAa, zBd, zBm, zBl, zBe, zBn, zBk, zBi, zBf, zBj, zBq, zBp, Option.bind_some, Option.bind_none, Option.map_some, zAf, zAb, zAl, zAk, zBh, zAw, zAy, zAp, zBc, zAs, zBa, zAr, zBt, zBu, zBv, zBs, zAz, zAa, zAc, zAd, zAe, zAh, zAm, zAg, zAj, zAn, zAi, zAu, zAx, zAv, zBb, zAt, Bool.not_true, Bool.not_false, zCk, zCj, zCl, zCi, zCm, zAq, zAo, zBg, zBo, zBr, cond_true, cond_false, Nat.reduceBEq]
  refine pl_told (h0 := h0) (b := b) (Rw := (bitsTo (sendT n (P : Nat) e.to) 64).map (rowF es (sendT n (P : Nat) e.to))) (T := T) (by rw [List.length_map]; exact blen) hT (fun h' tv' y sm L R A Ky y10 => ?_) ((bitsTo (sendT n (P : Nat) e.to) 64).map (rowF es (sendT n (P : Nat) e.to))).length 0 (by omega) _ hB tv smB LB R2 (by rw [List.take_zero, List.append_nil]; exact AB) BB (B2.up (by omega)) (fun b hb => ?_) ⟨KK.e2, KK.e7, KK.e9, KK.e11⟩ Ak ?_ ?_ ?_
  · refine hk h' y tv' _ _ (((P : Nat), num + 1) :: K) ⟨sm, L, R, A, lp, S.ss, inv_send S.inv num _ (by omega) (by omega) (by omega) htm, wide_sendP S.w _ _ _ hnm (by omega), S.kb.send _ _ _, S.nl, fun r hr => ?_⟩ (by simp) (by rw [List.length_append, List.length_map]; omega) Ky y10
    rcases List.mem_append.1 hr with hr | hr
    · exact (S.told r hr).more fun x hx => List.mem_cons_of_mem _ hx
    · obtain ⟨d, hd, rfl⟩ := List.mem_map.1 hr
      have gg : goodE (purgeE (zDe es (outB (sendT n (P : Nat) e.to) (ofN (d : Nat))))) = true := by
        unfold purgeE
        rw [if_pos (good_less _ S.inv.good)]
        exact good_purge (good_less _ S.inv.good)
      refine ⟨purgeE (zDe es (outB (sendT n (P : Nat) e.to) (ofN (d : Nat)))), ?_, gg, wide_purge (wide_lessE S.w), (S.kb.stamp _).more fun x hx => List.mem_cons_of_mem _ hx⟩
      unfold rowF putE
      rw [if_pos gg]
  · have h1 := S.A.ltP hb
    exact ⟨fun e => by have := BA.geP e; omega, fun e => by have := B2.geP e; omega⟩
  all_goals rfl
theorem pl_act (S : PSt h0 h n P p s pq sv tv num es ns T K) (hn : n ≤ 16) (hP : P < n) (hK : K.length ≤ 2 ^ 20) (hT : T.length + 64 < 2 ^ 37) (hnm : num + 1 < 2 ^ 64) (cm : Cells h pm 37 (alC e bv0)) (sb : SB h bv bs) (hl : bs.length < 2 ^ 26) (hnum : e.num < 2 ^ 64) (hto : e.to < 65536)
    (sb2 : ∀ h' : Heap, (∀ (q : Nat) (all : List Value) (ty : TypeId), h.blks[q]? = some ⟨.cells all, ty, true⟩ → ty ≠ 90 → ty ≠ 30 → h'.blks[q]? = h.blks[q]?) → Same h0 h' → SB h' bv bs) (hne : zBz bv ≠ some p ∧ zBz bv ≠ some s) (hK1 : Keys K bs K1) (b7 : b 7 = .pointer (some ⟨p, 0, none⟩)) (b9 : b 9 = .pointer (some ⟨pq, 0, none⟩))
    (hk : ∀ (h' : Heap) (y : Nat → Value) (sv' tv' : Value) (num' : Nat) (es' : List E3) (ns' : List Nat) (T' : List (List UInt8)) (K' : List (Int × Nat)), PSt h0 h' n P p s pq sv' tv' num' es' ns' T' K' → K'.length ≤ K.length + 301 → num' ≤ num + 1 → T'.length ≤ T.length + 64 → KP b y → y 10 = tv' → Q (kk .normal ⟨ar 202 y, h'⟩)) :
    ∀ x : Nat → Value, KP b x → x 10 = tv → x 12 = .pointer (some ⟨pm, 0, none⟩) → x 13 = bv → Q (cK c3_15 202 x h kk) := by
  intro x KK Ak An Ao
  have fin : ∀ (h' : Heap) (y : Nat → Value) (sv' tv' : Value) (num' : Nat) (es' : List E3) (ns' : List Nat) (T' : List (List UInt8)) (K' : List (Int × Nat)), PSt h0 h' n P p s pq sv' tv' num' es' ns' T' K' → K'.length ≤ K.length + 301 → num' ≤ num + 1 → T'.length ≤ T.length + 64 → KP b y → y 10 = tv' → Q (cK c3_17 202 y h' kk) := fun h' y sv' tv' num' es' ns' T' K' S' a1 a2 a3 Ky y10 => by
    have := S'.kb.len S'.inv.good
    refine pl_tail (b := y) S'.L S'.R (by omega) (Ky.e7.trans b7) (Ky.e9.trans b9) (fun h'' z sm Kz z10 => ?_) y ⟨rfl, rfl, rfl, rfl⟩ rfl
    exact hk h'' z sv' tv' num' es' ns' T' K' (S'.same sm) a1 a2 a3 ⟨Kz.e2.trans Ky.e2,Kz.e7.trans Ky.e7,Kz.e9.trans Ky.e9,Kz.e11.trans Ky.e11⟩ (z10.trans y10)
  simp -implicitDefEqProofs only [↓c3_15_eq, ↓zAf, ↓zAb, ↓Option.bind_some, ↓zAa, zBd, zBm, zBl, zBe, zBn, zBk, zBi, zBf, zBj, zBq, zBp, Option.bind_some, Option.bind_none, Option.map_some, zAf, zAb, zAl, zAk, zBh, zAw, zAy, zAp, zBc, zAs, zBa, zAr, zBt, zBu, zBv, zBs, zAz, zAa, zAc, zAd, zAe, zAh, zAm, zAg, zAj, zAn, zAi, zAu, zAx, zAv, zBb, zAt, Bool.not_true, Bool.not_false, zCk, zCj, zCl, zCi, zCm, zAq, zAo, zBg, zBo, zBr, cond_true, cond_false, Nat.reduceBEq]
  by_cases g0 : e.op = 0
  · refine pl_send (b := b) S hn hP hK hT hnm cm g0 hto b7 b9 (fun h' y tv' es' T' K' S' a1 a3 Ky y10 => ?_) x KK Ak An
    simp -implicitDefEqProofs only [↓zAf, ↓zAb, ↓Option.bind_some, ↓zAa, zBd, zBm, zBl, zBe, zBn, zBk, zBi, zBf, zBj, zBq, zBp, Option.bind_some, Option.bind_none, Option.map_some, zAf, zAb, zAl, zAk, zBh, zAw, zAy, zAp, zBc, zAs, zBa, zAr, zBt, zBu, zBv, zBs, zAz, zAa, zAc, zAd, zAe, zAh, zAm, zAg, zAj, zAn, zAi, zAu, zAx, zAv, zBb, zAt, Bool.not_true, Bool.not_false, zCk, zCj, zCl, zCi, zCm, zAq, zAo, zBg, zBo, zBr, cond_true, cond_false, Nat.reduceBEq]
    exact fin h' y sv tv' _ es' ns T' K' S' a1 (Nat.le_refl _) a3 Ky y10
  by_cases g1 : e.op = 1
  · refine pl_take (b := b) S hn hP hK cm g1 sb hl hnum hto sb2 hne hK1 b7 b9 (fun h' y sv' es' ns' K' S' a1 Ky y10 => ?_) x KK Ak An Ao
    simp -implicitDefEqProofs only [↓zAf, ↓zAb, ↓Option.bind_some, ↓zAa, zBd, zBm, zBl, zBe, zBn, zBk, zBi, zBf, zBj, zBq, zBp, Option.bind_some, Option.bind_none, Option.map_some, zAf, zAb, zAl, zAk, zBh, zAw, zAy, zAp, zBc, zAs, zBa, zAr, zBt, zBu, zBv, zBs, zAz, zAa, zAc, zAd, zAe, zAh, zAm, zAg, zAj, zAn, zAi, zAu, zAx, zAv, zBb, zAt, Bool.not_true, Bool.not_false, zCk, zCj, zCl, zCi, zCm, zAq, zAo, zBg, zBo, zBr, cond_true, cond_false, Nat.reduceBEq]
    exact fin h' y sv' tv num es' ns' T K' S' a1 (by omega) (by omega) Ky y10
  · refine pl_can (b := b) S cm g0 g1 sb hl b7 b9 (fun h' y sm Ky y10 => ?_) x KK Ak An Ao
    simp -implicitDefEqProofs only [↓zAf, ↓zAb, ↓Option.bind_some, ↓zAa, zBd, zBm, zBl, zBe, zBn, zBk, zBi, zBf, zBj, zBq, zBp, Option.bind_some, Option.bind_none, Option.map_some, zAf, zAb, zAl, zAk, zBh, zAw, zAy, zAp, zBc, zAs, zBa, zAr, zBt, zBu, zBv, zBs, zAz, zAa, zAc, zAd, zAe, zAh, zAm, zAg, zAj, zAn, zAi, zAu, zAx, zAv, zBb, zAt, Bool.not_true, Bool.not_false, zCk, zCj, zCl, zCi, zCm, zAq, zAo, zBg, zBo, zBr, cond_true, cond_false, Nat.reduceBEq]
    exact fin h' y sv tv num es ns T K (S.same sm) (by omega) (by omega) (by omega) Ky y10
end
end Go.Am
namespace Go.Am
open Go.Proofs
set_option maxRecDepth 100000
set_option linter.all false
attribute [local congr] zCc zCn zCp zCo zCg zCd
theorem lnBp (a : Option Addr) (n c : Nat) (h : Heap) : lenV Tryz.prog 35 (.slice a n c) h = some (.int .i64 n) := by kernel_rfl
theorem ldBp (p o : Nat) (h : Heap) : loadV Tryz.prog 35 (.pointer (some ⟨p, o, none⟩)) h = h.load1 p o := by kernel_rfl
theorem pl_loop {hS h1 : Heap} {n P p s pq : Nat} {v : Value} {l : List AL} (hn : n ≤ 16) (hP : P < n) (hl : l.length ≤ 40) (hw : ∀ p ∈ l, p.num < 2 ^ 64 ∧ p.to < 2 ^ 64) (sl : SAl h1 v l) :
    ∀ (mm i : Nat) (h : Heap) (sv tv : Value) (num : Nat) (es : List E3) (ns : List Nat) (T : List (List UInt8)) (K : List (Int × Nat)), l.length = i + mm → PSt h1 h n P p s pq sv tv num es ns T K → K.length ≤ 301 * i → num ≤ i → T.length ≤ 64 * i →
    ∀ x : Nat → Value, x 2 = v → x 7 = .pointer (some ⟨p, 0, none⟩) → x 9 = .pointer (some ⟨pq, 0, none⟩) → x 10 = tv → x 11 = .int .i64 i →
    ∃ h', lK c3_1 202 x h (zCr 0 (sK c3_2 (zCw Tryz.f3 Tryz.prog hS))) = some (.bool true, h') := by
  intro mm
  induction mm with
  | zero =>
    intro i h sv tv num es ns T K hi S hK hnm hT x Ac Ah Aj Ak Al
    rw [lK_eq]
    obtain rfl : i = l.length := by omega
    have ln := (sl.same S.sm).len
    simp -implicitDefEqProofs (disch := omega) only [↓c3_1_eq, ↓c3_2_eq, ↓c3_3_eq, dcT, dcF,Ac,Al, ln, ↓ret3, ↓zAf, ↓zAb, ↓Option.bind_some, ↓zAa, zBd, zBm, zBl, zBe, zBn, zBk, zBi, zBf, zBj, zBq, zBp, Option.bind_some, Option.bind_none, Option.map_some, zAf, zAb, zAl, zAk, zBh, zAw, zAy, zAp, zBc, zAs, zBa, zAr, zBt, zBu, zBv, zBs, zAz, zAa, zAc, zAd, zAe, zAh, zAm, zAg, zAj, zAn, zAi, zAu, zAx, zAv, zBb, zAt, Bool.not_true, Bool.not_false, zCk, zCj, zCl, zCi, zCm, zAq, zAo, zBg, zBo, zBr, cond_true, cond_false, Nat.reduceBEq]
    exact ⟨_, rfl⟩
  | succ mm ih =>
    intro i h sv tv num es ns T K hi S hK hnm hT x Ac Ah Aj Ak Al
    rw [lK_eq]
    have hlt : i < l.length := by omega
    have ln := (sl.same S.sm).len
    obtain ⟨b, o, bv, hat⟩ := sl.atN hlt
    have hp := hw l[i] (List.getElem_mem hlt)
    generalize l[i] = e at hat hp
    obtain ⟨i1, i2, i3⟩ := hat h S.sm
    have hbb : ∀ q, zBz bv = some q → q < h1.blks.length := fun q hq => Sl.lt (hat h1 (Same.refl _)).2.2 hq
    obtain ⟨ba, bc, rfl⟩ := i3.shape
    obtain ⟨hA, hB, e1, sA, e2, cm, sB⟩ := var_ac h e ba e.b.length bc
    have S2 := S.same sB
    have a2 : hB.load1 h.blks.length 2 = some (.int .i64 e.at') := cm.load 2
    have a4 : hB.load1 h.blks.length 4 = some (.int .u64 e.to) := cm.load 4
    have a5 : hB.load1 h.blks.length 5 = some (.slice ba e.b.length bc) := cm.load 5
    have hwr : IntKind.wrap .i64 ((i : Int) + 1) = ((i + 1 : Nat) : Int) := by rw [wrap_i64] <;> omega
    by_cases g1 : e.b.length > 300
    · simp -implicitDefEqProofs (disch := omega) only [↓c3_1_eq, ↓c3_3_eq, ↓c3_4_eq, ↓c3_5_eq, ↓c3_7_eq, ↓c3_8_eq, ↓c3_9_eq, ↓c3_10_eq, dcT, dcF,Ac,Al, ln, i1, i2, e1, e2, faAc5, ldBp, a5, lnBp, ↓ret3, ↓zAf, ↓zAb, ↓Option.bind_some, ↓zAa, zBd, zBm, zBl, zBe, zBn, zBk, zBi, zBf, zBj, zBq, zBp, Option.bind_some, Option.bind_none, Option.map_some, zAf, zAb, zAl, zAk, zBh, zAw, zAy, zAp, zBc, zAs, zBa, zAr, zBt, zBu, zBv, zBs, zAz, zAa, zAc, zAd, zAe, zAh, zAm, zAg, zAj, zAn, zAi, zAu, zAx, zAv, zBb, zAt, Bool.not_true, Bool.not_false, zCk, zCj, zCl, zCi, zCm, zAq, zAo, zBg, zBo, zBr, cond_true, cond_false, Nat.reduceBEq]
      exact ⟨_, rfl⟩
    by_cases g2 : e.to > 65535
    · simp -implicitDefEqProofs (disch := omega) only [↓c3_1_eq, ↓c3_3_eq, ↓c3_4_eq, ↓c3_5_eq, ↓c3_7_eq, ↓c3_8_eq, ↓c3_9_eq, ↓c3_10_eq, dcT, dcF,Ac,Al, ln, i1, i2, e1, e2, faAc4, faAc5, ldBp, ldU, a4, a5, lnBp, ↓ret3, ↓zAf, ↓zAb, ↓Option.bind_some, ↓zAa, zBd, zBm, zBl, zBe, zBn, zBk, zBi, zBf, zBj, zBq, zBp, Option.bind_some, Option.bind_none, Option.map_some, zAf, zAb, zAl, zAk, zBh, zAw, zAy, zAp, zBc, zAs, zBa, zAr, zBt, zBu, zBv, zBs, zAz, zAa, zAc, zAd, zAe, zAh, zAm, zAg, zAj, zAn, zAi, zAu, zAx, zAv, zBb, zAt, Bool.not_true, Bool.not_false, zCk, zCj, zCl, zCi, zCm, zAq, zAo, zBg, zBo, zBr, cond_true, cond_false, Nat.reduceBEq]
      exact ⟨_, rfl⟩
    have lp := S.lp
    have nx : ∀ (z : Nat → Value) (xv : Value) (bs : List UInt8) (K1 : List (Int × Nat)), z 2 = v → z 7 = .pointer (some ⟨p, 0, none⟩) → z 9 = .pointer (some ⟨pq, 0, none⟩) → z 10 = tv → z 11 = .int .i64 i → z 12 = .pointer (some ⟨h.blks.length, 0, none⟩) → z 13 = xv → SB hB xv bs → bs.length < 2 ^ 26 →
        (∀ h' : Heap, (∀ (q : Nat) (all : List Value) (ty : TypeId), hB.blks[q]? = some ⟨.cells all, ty, true⟩ → ty ≠ 90 → ty ≠ 30 → h'.blks[q]? = hB.blks[q]?) → Same h1 h' → SB h' xv bs) → (zBz xv ≠ some p ∧ zBz xv ≠ some s) → Keys K bs K1 →
        ∃ h', cK c3_15 202 z hB (zCr 1 (sK c3_6 (againK Tryz.prog (evC Tryz.prog) c3_1 (zCr 0 (sK c3_2 (zCw Tryz.f3 Tryz.prog hS)))))) = some (.bool true, h') := by
      intro z xv bs K1 z2 z7 z9 z10 z11 z12 z13 sb hbl sb2 hne hK1
      refine pl_act (Q := fun r => ∃ h' : Heap, r = some (Value.bool true, h')) (b := z) (e := e) S2 hn hP (by omega) (by omega) (by omega) cm sb hbl hp.1 (by omega) sb2 hne hK1 z7 z9 (fun h' y sv' tv' num' es' ns' T' K' S' b1 b2 b3 Ky y10 => ?_) z ⟨rfl, rfl, rfl, rfl⟩ z10 z12 z13
      have y11 := Ky.e11.trans z11
      simp -implicitDefEqProofs (disch := omega) only [↓c3_6_eq, y11, hwr, ↓zAf, ↓zAb, ↓Option.bind_some, ↓zAa, zBd, zBm, zBl, zBe, zBn, zBk, zBi, zBf, zBj, zBq, zBp, Option.bind_some, Option.bind_none, Option.map_some, zAf, zAb, zAl, zAk, zBh, zAw, zAy, zAp, zBc, zAs, zBa, zAr, zBt, zBu, zBv, zBs, zAz, zAa, zAc, zAd, zAe, zAh, zAm, zAg, zAj, zAn, zAi, zAu, zAx, zAv, zBb, zAt, Bool.not_true, Bool.not_false, zCk, zCj, zCl, zCi, zCm, zAq, zAo, zBg, zBo, zBr, cond_true, cond_false, Nat.reduceBEq]
      exact ih (i + 1) h' sv' tv' num' es' ns' T' K' (by omega) S' (by omega) (by omega) (by omega) _ (Ky.e2.trans z2) (Ky.e7.trans z7) (Ky.e9.trans z9) y10 rfl
    have raw : ∃ K1, Keys K e.b K1 := by
      refine ⟨((getP e.b).getD []).map keyE ++ K, fun x hx => List.mem_append_right _ hx, ?_, fun g hg => ?_⟩
      · have := getP_len e.b
        rw [List.length_append, List.length_map]; omega
      · rw [hg, Option.getD_some]
        exact (KB.self g).more fun x hx => List.mem_append_left _ hx
    obtain ⟨K1, hK1⟩ := raw
    have hneR : zBz (.slice ba e.b.length bc) ≠ some p ∧ zBz (.slice ba e.b.length bc) ≠ some s := ⟨fun q => by have := hbb _ q; omega, fun q => by have := hbb _ q; omega⟩
    have lnT := S2.A.len
    by_cases g3 : e.at' ≥ 0
    · by_cases g4 : e.at' < (T.length : Int)
      · obtain ⟨k, hk⟩ : ∃ k : Nat, e.at' = k := ⟨e.at'.toNat, by omega⟩
        rw [hk] at a2 g3 g4
        have hkT : k < T.length := by omega
        obtain ⟨ad, sx, sc, t1, t2, t3⟩ := S2.A.atP hkT
        have gd : T.getD k [] = T[k] := by rw [List.getD_eq_getElem?_getD, List.getElem?_eq_getElem hkT]; rfl
        rw [gd] at t2 t3
        obtain ⟨g, hg, _, _, kb, bl⟩ := (S.told T[k] (List.getElem_mem hkT)).get (by omega)
        simp -implicitDefEqProofs (disch := omega) only [↓c3_1_eq, ↓c3_3_eq, ↓c3_4_eq, ↓c3_5_eq, ↓c3_7_eq, ↓c3_8_eq, ↓c3_9_eq, ↓c3_10_eq, ↓c3_11_eq, ↓c3_12_eq, ↓c3_13_eq, ↓c3_14_eq, dcT, dcF,Ac,Ak,Al, ln, i1, i2, e1, e2, faAc2, faAc4, faAc5, ldBp, ldI, ldU, a2, a4, a5, lnBp, lnT, t1, t2, ↓zAf, ↓zAb, ↓Option.bind_some, ↓zAa, zBd, zBm, zBl, zBe, zBn, zBk, zBi, zBf, zBj, zBq, zBp, Option.bind_some, Option.bind_none, Option.map_some, zAf, zAb, zAl, zAk, zBh, zAw, zAy, zAp, zBc, zAs, zBa, zAr, zBt, zBu, zBv, zBs, zAz, zAa, zAc, zAd, zAe, zAh, zAm, zAg, zAj, zAn, zAi, zAu, zAx, zAv, zBb, zAt, Bool.not_true, Bool.not_false, zCk, zCj, zCl, zCi, zCm, zAq, zAo, zBg, zBo, zBr, cond_true, cond_false, Nat.reduceBEq]
        refine nx _ (.slice sx T[k].length sc) T[k] K Ac Ah Aj Ak Al rfl rfl (Acc.sl t3 etB.size) bl (fun h' tk _ => Acc.sl (Acc.keep t3 fun q _ hq => by obtain ⟨all, hh⟩ := Acc.blk t3 hq; exact tk q all _ hh (by decide) (by decide)) etB.size) ⟨fun q => ?_, fun q => ?_⟩ ⟨fun _ hx => hx, by omega, fun g' hg' => by rw [hg] at hg'; cases hg'; exact kb⟩
        · obtain ⟨all, hh⟩ := Acc.blk t3 q
          rcases S2.L.tyP (.inl rfl) hh with k | k <;> exact absurd k (by decide)
        · obtain ⟨all, hh⟩ := Acc.blk t3 q
          rcases S2.L.tyP (.inr rfl) hh with k | k <;> exact absurd k (by decide)
      · simp -implicitDefEqProofs (disch := omega) only [↓c3_1_eq, ↓c3_3_eq, ↓c3_4_eq, ↓c3_5_eq, ↓c3_7_eq, ↓c3_8_eq, ↓c3_9_eq, ↓c3_10_eq, ↓c3_11_eq, ↓c3_12_eq, ↓c3_13_eq, ↓c3_14_eq, dcT, dcF,Ac,Ak,Al, ln, i1, i2, e1, e2, faAc2, faAc4, faAc5, ldBp, ldI, ldU, a2, a4, a5, lnBp, lnT, ↓zAf, ↓zAb, ↓Option.bind_some, ↓zAa, zBd, zBm, zBl, zBe, zBn, zBk, zBi, zBf, zBj, zBq, zBp, Option.bind_some, Option.bind_none, Option.map_some, zAf, zAb, zAl, zAk, zBh, zAw, zAy, zAp, zBc, zAs, zBa, zAr, zBt, zBu, zBv, zBs, zAz, zAa, zAc, zAd, zAe, zAh, zAm, zAg, zAj, zAn, zAi, zAu, zAx, zAv, zBb, zAt, Bool.not_true, Bool.not_false, zCk, zCj, zCl, zCi, zCm, zAq, zAo, zBg, zBo, zBr, cond_true, cond_false, Nat.reduceBEq]
        exact nx _ _ e.b K1 Ac Ah Aj Ak Al rfl rfl (hat hB S2.sm).2.2 (by omega) (fun h' _ sm => (hat h' sm).2.2) hneR hK1
    · simp -implicitDefEqProofs (disch := omega) only [↓c3_1_eq, ↓c3_3_eq, ↓c3_4_eq, ↓c3_5_eq, ↓c3_7_eq, ↓c3_8_eq, ↓c3_9_eq, ↓c3_10_eq, ↓c3_11_eq, ↓c3_12_eq, ↓c3_13_eq, ↓c3_14_eq, dcT, dcF,Ac,Ak,Al, ln, i1, i2, e1, e2, faAc2, faAc4, faAc5, ldBp, ldI, ldU, a2, a4, a5, lnBp, ↓zAf, ↓zAb, ↓Option.bind_some, ↓zAa, zBd, zBm, zBl, zBe, zBn, zBk, zBi, zBf, zBj, zBq, zBp, Option.bind_some, Option.bind_none, Option.map_some, zAf, zAb, zAl, zAk, zBh, zAw, zAy, zAp, zBc, zAs, zBa, zAr, zBt, zBu, zBv, zBs, zAz, zAa, zAc, zAd, zAe, zAh, zAm, zAg, zAj, zAn, zAi, zAu, zAx, zAv, zBb, zAt, Bool.not_true, Bool.not_false, zCk, zCj, zCl, zCi, zCm, zAq, zAo, zBg, zBo, zBr, cond_true, cond_false, Nat.reduceBEq]
      exact nx _ _ e.b K1 Ac Ah Aj Ak Al rfl rfl (hat hB S2.sm).2.2 (by omega) (fun h' _ sm => (hat h' sm).2.2) hneR hK1
theorem mkNsP (m : Nat) (hm : m ≤ 64) (h : Heap) : makeSliceV Tryz.prog 29 (.int .i64 m) (.int .i64 m) h = some (.slice (some ⟨h.blks.length, 0, none⟩) m m, h.new (.cells ((List.replicate m 0).map u64V)) 30) := by
  unfold makeSliceV
  simp only [etU.under, natOf_int, etU.size, etU.bytes, etU.zero]
  rw [if_pos ⟨Nat.le_refl _, by omega, by omega, by omega, etU.zs, etU.zg⟩]
  have := zeros_list (.int .u64 0) m
  rw [show ((Array.range (m * 1)).map fun x => (Value.int .u64 0).cells[x % (Value.int .u64 0).cells.size]!).toList = List.replicate m (.int .u64 0) from this, List.map_replicate]
  rfl
theorem bdGn (a c : Int) (x : Option Addr) (n k : Nat) : buildV Tryz.prog 33 #[(0, .int .i64 a), (1, .int .i64 c), (4, .slice x n k)] = some (.agg #[.int .i64 a, .int .i64 c, .int .u64 0, .slice none 0 0, .slice x n k]) := by kernel_rfl
theorem bxGn (a c : Int) (x : Option Addr) (n k : Nat) (h : Heap) : boxV Tryz.prog 33 (.agg #[.int .i64 a, .int .i64 c, .int .u64 0, .slice none 0 0, .slice x n k]) h = some (.pointer (some ⟨h.blks.length, 0, none⟩), h.new (.cells [.int .i64 a, .int .i64 c, .int .u64 0, .slice none 0 0, .slice x n k]) 33) := by kernel_rfl
theorem eqNN (xo yo : Operand) : binV Tryz.prog .eql 24 xo yo (.pointer none) (.pointer none) = some (.bool true) := by kernel_rfl
theorem eqPN (xo yo : Operand) (p : Nat) : binV Tryz.prog .eql 24 xo yo (.pointer (some ⟨p, 0, none⟩)) (.pointer none) = some (.bool false) := by kernel_rfl
theorem nePN (xo yo : Operand) (p : Nat) : binV Tryz.prog .neq 24 xo yo (.pointer (some ⟨p, 0, none⟩)) (.pointer none) = some (.bool true) := by kernel_rfl
theorem PSt.start {h1 h2 : Heap} {n P : Nat} (Ac : Same h1 h2) (hP : P < n) (hn : n ≤ 16) (L : LEn h2 (h1.blks.length + 1) h1.blks.length n (P : Nat) 0 [] (List.replicate n 0)) :
    PSt h1 ((h2.new (.cells ((List.replicate n 0).map u64V)) 30).new (.cells [.int .i64 n, .int .i64 (P : Nat), .int .u64 0, .slice none 0 0, .slice (some ⟨h2.blks.length, 0, none⟩) n n]) 33) n P (h1.blks.length + 1) h1.blks.length (h2.blks.length + 1) (.slice (some ⟨h2.blks.length, 0, none⟩) n n) (.slice none 0 0) 0 [] (List.replicate n 0) [] [] := by
  have s1 : Same h2 (h2.new (.cells ((List.replicate n 0).map u64V)) 30) := Same.new _ _ _
  have s2 : Same (h2.new (.cells ((List.replicate n 0).map u64V)) 30) ((h2.new (.cells ((List.replicate n 0).map u64V)) 30).new (.cells [.int .i64 n, .int .i64 (P : Nat), .int .u64 0, .slice none 0 0, .slice (some ⟨h2.blks.length, 0, none⟩) n n]) 33) := Same.new _ _ _
  have el : (h2.new (.cells ((List.replicate n 0).map u64V)) 30).blks.length = h2.blks.length + 1 := by simp [Heap.new]
  have au : AU 0 (h2.new (.cells ((List.replicate n 0).map u64V)) 30) (.slice (some ⟨h2.blks.length, 0, none⟩) (List.replicate n 0).length (List.replicate n 0).length) (List.replicate n 0) := AU.lit (Nat.zero_le _) _ (by rw [List.length_replicate]; omega)
  have ce := Cells.new (h2.new (.cells ((List.replicate n 0).map u64V)) 30) 33 [.int .i64 n, .int .i64 (P : Nat), .int .u64 0, .slice none 0 0, .slice (some ⟨h2.blks.length, 0, none⟩) n n]
  rw [el] at ce
  have hlt := L.seen.lt
  rw [show (Value.slice (some ⟨h2.blks.length, 0, none⟩) (List.replicate n 0).length (List.replicate n 0).length) = .slice (some ⟨h2.blks.length, 0, none⟩) n n by rw [List.length_replicate]] at au
  refine ⟨Ac.trans (s1.trans s2), L.same (s1.trans s2), ⟨⟨_, ce, AR.nil _ _⟩, au.same s2⟩, ⟨[], ⟨.nil, .nil⟩⟩, ⟨by omega, Nat.le_refl _, by have := Ac.1; omega, by omega⟩, fun e => ?_, ⟨by decide, (by simp), (by simp)⟩, (by intro e he; cases he), (by intro e he; cases he), List.length_replicate .., (by intro e he; cases he)⟩
  have e : h2.blks.length = h1.blks.length := Option.some.inj e
  omega
theorem mlaw_LeanPlays (n me : Int) (v : Value) (l : List AL) (hw : ∀ p ∈ l, p.num < 2 ^ 64 ∧ p.to < 2 ^ 64) (h : Heap) (sl : SAl h v l) : ∃ h', evC Tryz.prog 3 #[.int .i64 n, .int .i64 me, v] h = some (.bool true, h') := by
  rw [call3]
  obtain ⟨h1, e1,Ab⟩ := spec_awake19 (nm h)
  have sl1 : SAl h1 v l := (sl.same (sameNm h)).same Ab.same
  have bad : badNew n me → ∃ h', evC Tryz.prog 6 #[.int .i64 n, .int .i64 me] h1 = some (.tuple #[.pointer none, .int .i64 1], h') := fun hb => let ⟨h', a, _⟩ := spec_leanNewBad n me hb h1; ⟨h', a⟩
  by_cases g0 : n < 1
  · obtain ⟨h2, e2⟩ := bad (.inl g0)
    simp -implicitDefEqProofs (disch := omega) only [↓c3_0_eq, dcT, dcF, e1, e2, zAc, eq_self, decide_true, eqNN, ↓ret3, ↓zAf, ↓zAb, ↓Option.bind_some, ↓zAa, zBd, zBm, zBl, zBe, zBn, zBk, zBi, zBf, zBj, zBq, zBp, Option.bind_some, Option.bind_none, Option.map_some, zAf, zAb, zAl, zAk, zBh, zAw, zAy, zAp, zBc, zAs, zBa, zAr, zBt, zBu, zBv, zBs, zAz, zAa, zAc, zAd, zAe, zAh, zAm, zAg, zAj, zAn, zAi, zAu, zAx, zAv, zBb, zAt, Bool.not_true, Bool.not_false, zCk, zCj, zCl, zCi, zCm, zAq, zAo, zBg, zBo, zBr, cond_true, cond_false, Nat.reduceBEq]
    exact ⟨_, rfl⟩
  by_cases g1 : n > 16
  · obtain ⟨h2, e2⟩ := bad (.inr (.inl g1))
    simp -implicitDefEqProofs (disch := omega) only [↓c3_0_eq, dcT, dcF, e1, e2, zAc, eq_self, decide_true, eqNN, ↓ret3, ↓zAf, ↓zAb, ↓Option.bind_some, ↓zAa, zBd, zBm, zBl, zBe, zBn, zBk, zBi, zBf, zBj, zBq, zBp, Option.bind_some, Option.bind_none, Option.map_some, zAf, zAb, zAl, zAk, zBh, zAw, zAy, zAp, zBc, zAs, zBa, zAr, zBt, zBu, zBv, zBs, zAz, zAa, zAc, zAd, zAe, zAh, zAm, zAg, zAj, zAn, zAi, zAu, zAx, zAv, zBb, zAt, Bool.not_true, Bool.not_false, zCk, zCj, zCl, zCi, zCm, zAq, zAo, zBg, zBo, zBr, cond_true, cond_false, Nat.reduceBEq]
    exact ⟨_, rfl⟩
  by_cases g2 : me < 0
  · obtain ⟨h2, e2⟩ := bad (.inr (.inr (.inl g2)))
    simp -implicitDefEqProofs (disch := omega) only [↓c3_0_eq, dcT, dcF, e1, e2, zAc, eq_self, decide_true, eqNN, ↓ret3, ↓zAf, ↓zAb, ↓Option.bind_some, ↓zAa, zBd, zBm, zBl, zBe, zBn, zBk, zBi, zBf, zBj, zBq, zBp, Option.bind_some, Option.bind_none, Option.map_some, zAf, zAb, zAl, zAk, zBh, zAw, zAy, zAp, zBc, zAs, zBa, zAr, zBt, zBu, zBv, zBs, zAz, zAa, zAc, zAd, zAe, zAh, zAm, zAg, zAj, zAn, zAi, zAu, zAx, zAv, zBb, zAt, Bool.not_true, Bool.not_false, zCk, zCj, zCl, zCi, zCm, zAq, zAo, zBg, zBo, zBr, cond_true, cond_false, Nat.reduceBEq]
    exact ⟨_, rfl⟩
  by_cases g3 : me ≥ n
  · obtain ⟨h2, e2⟩ := bad (.inr (.inr (.inr g3)))
    simp -implicitDefEqProofs (disch := omega) only [↓c3_0_eq, dcT, dcF, e1, e2, zAc, eq_self, decide_true, eqNN, ↓ret3, ↓zAf, ↓zAb, ↓Option.bind_some, ↓zAa, zBd, zBm, zBl, zBe, zBn, zBk, zBi, zBf, zBj, zBq, zBp, Option.bind_some, Option.bind_none, Option.map_some, zAf, zAb, zAl, zAk, zBh, zAw, zAy, zAp, zBc, zAs, zBa, zAr, zBt, zBu, zBv, zBs, zAz, zAa, zAc, zAd, zAe, zAh, zAm, zAg, zAj, zAn, zAi, zAu, zAx, zAv, zBb, zAt, Bool.not_true, Bool.not_false, zCk, zCj, zCl, zCi, zCm, zAq, zAo, zBg, zBo, zBr, cond_true, cond_false, Nat.reduceBEq]
    exact ⟨_, rfl⟩
  obtain ⟨n, rfl⟩ : ∃ k : Nat, n = k := ⟨n.toNat, by omega⟩
  obtain ⟨P, rfl⟩ : ∃ k : Nat, me = k := ⟨me.toNat, by omega⟩
  obtain ⟨h2, e2,Ac, L⟩ := spec_leanNew n (P : Nat) (by omega) (by omega) (by omega) (by omega) h1
  have ln := (sl1.same Ac.same).len
  by_cases g4 : l.length > 40
  · simp -implicitDefEqProofs (disch := omega) only [↓c3_0_eq, dcT, dcF, e1, e2, ln, zAc, ne_eq, eq_self, not_true_eq_false, decide_false, decide_true, eqPN, nePN, ↓ret3, ↓zAf, ↓zAb, ↓Option.bind_some, ↓zAa, zBd, zBm, zBl, zBe, zBn, zBk, zBi, zBf, zBj, zBq, zBp, Option.bind_some, Option.bind_none, Option.map_some, zAf, zAb, zAl, zAk, zBh, zAw, zAy, zAp, zBc, zAs, zBa, zAr, zBt, zBu, zBv, zBs, zAz, zAa, zAc, zAd, zAe, zAh, zAm, zAg, zAj, zAn, zAi, zAu, zAx, zAv, zBb, zAt, Bool.not_true, Bool.not_false, zCk, zCj, zCl, zCi, zCm, zAq, zAo, zBg, zBo, zBr, cond_true, cond_false, Nat.reduceBEq]
    exact ⟨_, rfl⟩
  have mk := mkNsP n (by omega) h2
  have bd := bdGn (n : Nat) (P : Nat) (some ⟨h2.blks.length, 0, none⟩) n n
  have bx := bxGn (n : Nat) (P : Nat) (some ⟨h2.blks.length, 0, none⟩) n n (h2.new (.cells ((List.replicate n 0).map u64V)) 30)
  have el : (h2.new (.cells ((List.replicate n 0).map u64V)) 30).blks.length = h2.blks.length + 1 := by simp [Heap.new]
  rw [el] at bx
  have S := PSt.start (P := P) Ac.same (by omega) (by omega) L
  simp -implicitDefEqProofs (disch := omega) only [↓c3_0_eq, dcT, dcF, e1, e2, ln, zAc, ne_eq, eq_self, not_true_eq_false, decide_false, decide_true, eqPN, nePN, mk, bd, bx, ↓zAf, ↓zAb, ↓Option.bind_some, ↓zAa, zBd, zBm, zBl, zBe, zBn, zBk, zBi, zBf, zBj, zBq, zBp, Option.bind_some, Option.bind_none, Option.map_some, zAf, zAb, zAl, zAk, zBh, zAw, zAy, zAp, zBc, zAs, zBa, zAr, zBt, zBu, zBv, zBs, zAz, zAa, zAc, zAd, zAe, zAh, zAm, zAg, zAj, zAn, zAi, zAu, zAx, zAv, zBb, zAt, Bool.not_true, Bool.not_false, zCk, zCj, zCl, zCi, zCm, zAq, zAo, zBg, zBo, zBr, cond_true, cond_false, Nat.reduceBEq]
  exact pl_loop (by omega) (by omega) (by omega) hw sl1 l.length 0 _ _ _ _ _ _ _ _ (by omega) S (by simp) (by omega) (by simp) _ rfl rfl rfl rfl rfl
theorem law_LeanPlays (h : Heap) (vs : List Value) (dd : List DT) (r : RdAll Tryz.prog h [3, 3, 22] vs dd) : ∃ h', evC Tryz.prog 3 vs.toArray h = some (.bool true, h') := by
  obtain ⟨v0, d0, vs', ds', rfl, rfl, r0, r1⟩ := r.cons_inv
  obtain ⟨v1, d1, vs', ds', rfl, rfl, rb, r2⟩ := r1.cons_inv
  obtain ⟨v2, d2, vs', ds', rfl, rfl, ra, r3⟩ := r2.cons_inv
  obtain ⟨rfl, rfl⟩ := r3.nil_inv
  obtain ⟨a, rfl, _⟩ := r0.i64 (by kernel_rfl)
  obtain ⟨c, rfl, _⟩ := rb.i64 (by kernel_rfl)
  obtain ⟨l, sl, hw⟩ := ra.als
  exact mlaw_LeanPlays a c v2 l hw h sl
end Go.Am
namespace Go.Am.Z
open Go.Proofs
set_option maxRecDepth 100000
set_option linter.all false
@[reducible] def xt0 : Xt Tryz.prog := ⟨fun _ => none⟩
@[reducible] def gl0 : Gl Tryz.prog := ⟨none⟩
attribute [local instance] xt0 gl0
theorem xm0 : XtM Tryz.prog := ⟨fun _ _ h => by cases h⟩
theorem xo0 : XtOk Tryz.prog := ⟨fun _ _ h => (by cases h), fun _ _ _ h => (by cases h)⟩
attribute [local instance] xm0 xo0
section
variable {β : Type}
noncomputable abbrev ev : Ev := evC Tryz.prog
noncomputable abbrev cK (c : Code) (n : Nat) (x : Nat → Value) (h : Heap) (k : Ex → St → Option β) : Option β := zDd Tryz.prog (evC Tryz.prog) zDc c ⟨ar n x, h⟩ k
noncomputable abbrev lK (c : Code) (n : Nat) (x : Nat → Value) (h : Heap) (k : Ex → St → Option β) : Option β := loopK Tryz.prog (evC Tryz.prog) c ⟨ar n x, h⟩ k
noncomputable abbrev sK (c : Code) (k : Ex → St → Option β) : Ex → St → Option β := seqK Tryz.prog (evC Tryz.prog) c k
noncomputable abbrev rD (ops : Array Oper) (j n : Nat) (x : Nat → Value) (h : Heap) (r m : List Nat) (k : St → Option β) : Option β := regD Tryz.prog (evC Tryz.prog) ops j ⟨ar n x, h⟩ r m k
variable (x : Nat → Value) (h : Heap) (k : Ex → St → Option β) (r m : List Nat) (g : Heap)
noncomputable def c114_0 : Code := zCe Tryz.f114 []
theorem c114_0_eq : cK c114_0 6 x h k =
(bn .neq 3 (x 0) (x 0)).bind fun v0 =>
k .ret ⟨ar 6 (up x [(2,v0),(3,(x 0)),(4,(x 0)),(5,v0)]), h⟩ := by kernel_rfl
theorem call114 (a0 : Value) : evC Tryz.prog 114 #[a0] h = cK c114_0 6 (up un [(0,a0)]) (nm h) (zCw Tryz.f114 Tryz.prog h) :=
  (zCa 114 Tryz.f114 c114_0 Tryz.func114 (by kernel_rfl) #[a0] h).trans (by kernel_rfl)
theorem ret114 : zCw Tryz.f114 Tryz.prog g .ret ⟨ar 6 x, h⟩ = fin g (some (x 2)) h := by kernel_rfl
noncomputable def c115_0 : Code := zCe Tryz.f115 []
theorem c115_0_eq : cK c115_0 6 x h k =
(bn .neq 30 (x 0) (x 0)).bind fun v0 =>
k .ret ⟨ar 6 (up x [(2,v0),(3,(x 0)),(4,(x 0)),(5,v0)]), h⟩ := by kernel_rfl
theorem call115 (a0 : Value) : evC Tryz.prog 115 #[a0] h = cK c115_0 6 (up un [(0,a0)]) (nm h) (zCw Tryz.f115 Tryz.prog h) :=
  (zCa 115 Tryz.f115 c115_0 Tryz.func115 (by kernel_rfl) #[a0] h).trans (by kernel_rfl)
theorem ret115 : zCw Tryz.f115 Tryz.prog g .ret ⟨ar 6 x, h⟩ = fin g (some (x 2)) h := by kernel_rfl
noncomputable def c101_0 : Code := zCe Tryz.f101 []
theorem c101_0_eq : cK c101_0 20 x h k =
obH (ev 114 #[x 0] h) fun v0 h1 =>
obH (ev 114 #[x 1] h1) fun v2 h3 =>
cnd v0 (
cnd v2 (
k .ret ⟨ar 20 (up x [(4,(.int .i64 0)),(5,v0),(6,v2),(7,(x 0)),(8,v0),(9,(x 1)),(10,v2),(11,v0),(12,v2)]), h3⟩) (
k .ret ⟨ar 20 (up x [(4,(.int .i64 (-1))),(5,v0),(6,v2),(7,(x 0)),(8,v0),(9,(x 1)),(10,v2),(11,v0),(12,v2)]), h3⟩)) (
cnd v2 (
k .ret ⟨ar 20 (up x [(4,(.int .i64 1)),(5,v0),(6,v2),(7,(x 0)),(8,v0),(9,(x 1)),(10,v2),(11,v0),(13,v2)]), h3⟩) (
(bn .lss 3 (x 0) (x 1)).bind fun v4 =>
cnd v4 (
k .ret ⟨ar 20 (up x [(4,(.int .i64 (-1))),(5,v0),(6,v2),(7,(x 0)),(8,v0),(9,(x 1)),(10,v2),(11,v0),(13,v2),(14,(x 0)),(15,(x 1)),(16,v4)]), h3⟩) (
(bn .gtr 3 (x 0) (x 1)).bind fun v5 =>
cnd v5 (
k .ret ⟨ar 20 (up x [(4,(.int .i64 1)),(5,v0),(6,v2),(7,(x 0)),(8,v0),(9,(x 1)),(10,v2),(11,v0),(13,v2),(14,(x 0)),(15,(x 1)),(16,v4),(17,(x 0)),(18,(x 1)),(19,v5)]), h3⟩) (
k .ret ⟨ar 20 (up x [(4,(.int .i64 0)),(5,v0),(6,v2),(7,(x 0)),(8,v0),(9,(x 1)),(10,v2),(11,v0),(13,v2),(14,(x 0)),(15,(x 1)),(16,v4),(17,(x 0)),(18,(x 1)),(19,v5)]), h3⟩)))) := by kernel_rfl
theorem call101 (a0 a1 : Value) : evC Tryz.prog 101 #[a0,a1] h = cK c101_0 20 (up un [(0,a0),(1,a1)]) (nm h) (zCw Tryz.f101 Tryz.prog h) :=
  (zCa 101 Tryz.f101 c101_0 Tryz.func101 (by kernel_rfl) #[a0,a1] h).trans (by kernel_rfl)
theorem ret101 : zCw Tryz.f101 Tryz.prog g .ret ⟨ar 20 x, h⟩ = fin g (some (x 4)) h := by kernel_rfl
noncomputable def c102_0 : Code := zCe Tryz.f102 []
theorem c102_0_eq : cK c102_0 20 x h k =
obH (ev 115 #[x 0] h) fun v0 h1 =>
obH (ev 115 #[x 1] h1) fun v2 h3 =>
cnd v0 (
cnd v2 (
k .ret ⟨ar 20 (up x [(4,(.int .i64 0)),(5,v0),(6,v2),(7,(x 0)),(8,v0),(9,(x 1)),(10,v2),(11,v0),(12,v2)]), h3⟩) (
k .ret ⟨ar 20 (up x [(4,(.int .i64 (-1))),(5,v0),(6,v2),(7,(x 0)),(8,v0),(9,(x 1)),(10,v2),(11,v0),(12,v2)]), h3⟩)) (
cnd v2 (
k .ret ⟨ar 20 (up x [(4,(.int .i64 1)),(5,v0),(6,v2),(7,(x 0)),(8,v0),(9,(x 1)),(10,v2),(11,v0),(13,v2)]), h3⟩) (
(bn .lss 30 (x 0) (x 1)).bind fun v4 =>
cnd v4 (
k .ret ⟨ar 20 (up x [(4,(.int .i64 (-1))),(5,v0),(6,v2),(7,(x 0)),(8,v0),(9,(x 1)),(10,v2),(11,v0),(13,v2),(14,(x 0)),(15,(x 1)),(16,v4)]), h3⟩) (
(bn .gtr 30 (x 0) (x 1)).bind fun v5 =>
cnd v5 (
k .ret ⟨ar 20 (up x [(4,(.int .i64 1)),(5,v0),(6,v2),(7,(x 0)),(8,v0),(9,(x 1)),(10,v2),(11,v0),(13,v2),(14,(x 0)),(15,(x 1)),(16,v4),(17,(x 0)),(18,(x 1)),(19,v5)]), h3⟩) (
k .ret ⟨ar 20 (up x [(4,(.int .i64 0)),(5,v0),(6,v2),(7,(x 0)),(8,v0),(9,(x 1)),(10,v2),(11,v0),(13,v2),(14,(x 0)),(15,(x 1)),(16,v4),(17,(x 0)),(18,(x 1)),(19,v5)]), h3⟩)))) := by kernel_rfl
theorem call102 (a0 a1 : Value) : evC Tryz.prog 102 #[a0,a1] h = cK c102_0 20 (up un [(0,a0),(1,a1)]) (nm h) (zCw Tryz.f102 Tryz.prog h) :=
  (zCa 102 Tryz.f102 c102_0 Tryz.func102 (by kernel_rfl) #[a0,a1] h).trans (by kernel_rfl)
theorem ret102 : zCw Tryz.f102 Tryz.prog g .ret ⟨ar 20 x, h⟩ = fin g (some (x 4)) h := by kernel_rfl
noncomputable def c100_0 : Code := zCe Tryz.f100 []
noncomputable def c100_1 : Code := zCe Tryz.f100 [true, true, false, true, false, false]
noncomputable def c100_2 : Code := zCe Tryz.f100 [true, true, true]
theorem c100_0_eq : cK c100_0 18 x h k =
(ln 68 (x 0) h).bind fun v0 =>
lK c100_1 18 (up x [(2,(.int .i64 0)),(3,(.int .i64 0)),(6,(x 0)),(7,v0),(8,(.int .i64 0))]) h (zCr 0 (sK c100_2 k)) := by kernel_rfl
theorem c100_1_eq : cK c100_1 18 x h k =
(bn .lss 3 (x 8) (x 7)).bind fun v1 =>
cnd v1 (
(ia 68 (x 6) (x 8)).bind fun v2 =>
(ld 3 v2 h).bind fun v3 =>
(bn .neq 3 v3 (x 3)).bind fun v4 =>
cnd v4 (
k .ret ⟨ar 18 (up x [(2,v3),(5,v3),(9,v1),(10,v2),(11,v3),(12,v3),(13,(x 3)),(14,v4),(15,v3)]), h⟩) (
(bn .add 3 (x 8) (.int .i64 1)).bind fun v5 =>
k .normal ⟨ar 18 (up x [(5,v3),(8,v5),(9,v1),(10,v2),(11,v3),(12,v3),(13,(x 3)),(14,v4),(16,v5)]), h⟩)) (
k (.exit 0) ⟨ar 18 (up x [(9,v1)]), h⟩) := by kernel_rfl
theorem c100_2_eq : cK c100_2 18 x h k =
k .ret ⟨ar 18 (up x [(2,(x 3)),(17,(x 3))]), h⟩ := by kernel_rfl
theorem call100 (a0 : Value) : evC Tryz.prog 100 #[a0] h = cK c100_0 18 (up un [(0,a0)]) (nm h) (zCw Tryz.f100 Tryz.prog h) :=
  (zCa 100 Tryz.f100 c100_0 Tryz.func100 (by kernel_rfl) #[a0] h).trans (by kernel_rfl)
theorem ret100 : zCw Tryz.f100 Tryz.prog g .ret ⟨ar 18 x, h⟩ = fin g (some (x 2)) h := by kernel_rfl
noncomputable def c78_0 : Code := zCe Tryz.f78 []
theorem c78_0_eq : cK c78_0 17 x h k =
obH (boxV Tryz.prog 99 (x 0) h) fun v0 h1 =>
obH (boxV Tryz.prog 99 (x 1) h1) fun v2 h3 =>
(fa 99 v0 0).bind fun v4 =>
(ld 3 v4 h3).bind fun v5 =>
(fa 99 v2 0).bind fun v6 =>
(ld 3 v6 h3).bind fun v7 =>
obH (ev 101 #[v5,v7] (nm h3)) fun v8 h9 =>
(fa 99 v0 1).bind fun v10 =>
(ld 30 v10 (am h9 h3)).bind fun v11 =>
(fa 99 v2 1).bind fun v12 =>
(ld 30 v12 (am h9 h3)).bind fun v13 =>
obH (ev 102 #[v11,v13] (am h9 h3)) fun v14 h15 =>
obH (zBw Tryz.prog 68 2 #[(0, v8), (1, v14)] h15) fun v16 h17 =>
obH (ev 100 #[v16] h17) fun v18 h19 =>
chk ((rb v12) ++ ((rb v10) ++ [])) (h9.mods ++ []) (
k .ret ⟨ar 17 (up x [(2,v0),(3,v2),(4,v18),(5,v4),(6,v5),(7,v6),(8,v7),(9,v8),(10,v10),(11,v11),(12,v12),(13,v13),(14,v14),(15,v16),(16,v18)]), h19⟩) := by kernel_rfl
theorem call78 (a0 a1 : Value) : evC Tryz.prog 78 #[a0,a1] h = cK c78_0 17 (up un [(0,a0),(1,a1)]) (nm h) (zCw Tryz.f78 Tryz.prog h) :=
  (zCa 78 Tryz.f78 c78_0 Tryz.func78 (by kernel_rfl) #[a0,a1] h).trans (by kernel_rfl)
theorem ret78 : zCw Tryz.f78 Tryz.prog g .ret ⟨ar 17 x, h⟩ = fin g (some (x 4)) h := by kernel_rfl
end
attribute [local congr] zCc zCn zCp zCo zCg zCd
theorem spec_isNaNI (a : Int) (h : Heap) : evC Tryz.prog 114 #[.int .i64 a] h = some (.bool false, h) := by
  rw [call114]
  simp -implicitDefEqProofs only [↓c114_0_eq, eq_self, ne_eq, not_true_eq_false, decide_false, ↓ret114, ↓zAf, ↓zAb, ↓Option.bind_some, ↓zAa, zBd, zBm, zBl, zBe, zBn, zBk, zBi, zBf, zBj, zBq, zBp, Option.bind_some, Option.bind_none, Option.map_some, zAf, zAb, zAl, zAk, zBh, zAw, zAy, zAp, zBc, zAs, zBa, zAr, zBt, zBu, zBv, zBs, zAz, zAa, zAc, zAd, zAe, zAh, zAm, zAg, zAj, zAn, zAi, zAu, zAx, zAv, zBb, zAt, Bool.not_true, Bool.not_false, zCk, zCj, zCl, zCi, zCm, zAq, zAo, zBg, zBo, zBr, cond_true, cond_false, Nat.reduceBEq]
theorem spec_isNaNW (a : Int) (h : Heap) : evC Tryz.prog 115 #[.int .u64 a] h = some (.bool false, h) := by
  rw [call115]
  simp -implicitDefEqProofs only [↓c115_0_eq, eq_self, ne_eq, not_true_eq_false, decide_false, ↓ret115, ↓zAf, ↓zAb, ↓Option.bind_some, ↓zAa, zBd, zBm, zBl, zBe, zBn, zBk, zBi, zBf, zBj, zBq, zBp, Option.bind_some, Option.bind_none, Option.map_some, zAf, zAb, zAl, zAk, zBh, zAw, zAy, zAp, zBc, zAs, zBa, zAr, zBt, zBu, zBv, zBs, zAz, zAa, zAc, zAd, zAe, zAh, zAm, zAg, zAj, zAn, zAi, zAu, zAx, zAv, zBb, zAt, Bool.not_true, Bool.not_false, zCk, zCj, zCl, zCi, zCm, zAq, zAo, zBg, zBo, zBr, cond_true, cond_false, Nat.reduceBEq]
def cmpI (a b : Int) : Int := if a < b then -1 else if b < a then 1 else 0
theorem spec_CmpI (a b : Int) (h : Heap) : evC Tryz.prog 101 #[.int .i64 a, .int .i64 b] h = some (.int .i64 (cmpI a b), h) := by
  rw [call101]
  have e1 := fun h => spec_isNaNI a h
  have e2 := fun h => spec_isNaNI b h
  unfold cmpI
  by_cases h1 : a < b
  · rw [if_pos h1]
    simp -implicitDefEqProofs (disch := omega) only [↓c101_0_eq, dcT, dcF, e1, e2, ↓ret101, ↓zAf, ↓zAb, ↓Option.bind_some, ↓zAa, zBd, zBm, zBl, zBe, zBn, zBk, zBi, zBf, zBj, zBq, zBp, Option.bind_some, Option.bind_none, Option.map_some, zAf, zAb, zAl, zAk, zBh, zAw, zAy, zAp, zBc, zAs, zBa, zAr, zBt, zBu, zBv, zBs, zAz, zAa, zAc, zAd, zAe, zAh, zAm, zAg, zAj, zAn, zAi, zAu, zAx, zAv, zBb, zAt, Bool.not_true, Bool.not_false, zCk, zCj, zCl, zCi, zCm, zAq, zAo, zBg, zBo, zBr, cond_true, cond_false, Nat.reduceBEq]
  · rw [if_neg h1]
    by_cases h2 : b < a
    · rw [if_pos h2]
      simp -implicitDefEqProofs (disch := omega) only [↓c101_0_eq, dcT, dcF, e1, e2, ↓ret101, ↓zAf, ↓zAb, ↓Option.bind_some, ↓zAa, zBd, zBm, zBl, zBe, zBn, zBk, zBi, zBf, zBj, zBq, zBp, Option.bind_some, Option.bind_none, Option.map_some, zAf, zAb, zAl, zAk, zBh, zAw, zAy, zAp, zBc, zAs, zBa, zAr, zBt, zBu, zBv, zBs, zAz, zAa, zAc, zAd, zAe, zAh, zAm, zAg, zAj, zAn, zAi, zAu, zAx, zAv, zBb, zAt, Bool.not_true, Bool.not_false, zCk, zCj, zCl, zCi, zCm, zAq, zAo, zBg, zBo, zBr, cond_true, cond_false, Nat.reduceBEq]
    · rw [if_neg h2]
      simp -implicitDefEqProofs (disch := omega) only [↓c101_0_eq, dcT, dcF, e1, e2, ↓ret101, ↓zAf, ↓zAb, ↓Option.bind_some, ↓zAa, zBd, zBm, zBl, zBe, zBn, zBk, zBi, zBf, zBj, zBq, zBp, Option.bind_some, Option.bind_none, Option.map_some, zAf, zAb, zAl, zAk, zBh, zAw, zAy, zAp, zBc, zAs, zBa, zAr, zBt, zBu, zBv, zBs, zAz, zAa, zAc, zAd, zAe, zAh, zAm, zAg, zAj, zAn, zAi, zAu, zAx, zAv, zBb, zAt, Bool.not_true, Bool.not_false, zCk, zCj, zCl, zCi, zCm, zAq, zAo, zBg, zBo, zBr, cond_true, cond_false, Nat.reduceBEq]
theorem spec_CmpW (a b : Int) (h : Heap) : evC Tryz.prog 102 #[.int .u64 a, .int .u64 b] h = some (.int .i64 (cmpI a b), h) := by
  rw [call102]
  have e1 := fun h => spec_isNaNW a h
  have e2 := fun h => spec_isNaNW b h
  unfold cmpI
  by_cases h1 : a < b
  · rw [if_pos h1]
    simp -implicitDefEqProofs (disch := omega) only [↓c102_0_eq, dcT, dcF, e1, e2, ↓ret102, ↓zAf, ↓zAb, ↓Option.bind_some, ↓zAa, zBd, zBm, zBl, zBe, zBn, zBk, zBi, zBf, zBj, zBq, zBp, Option.bind_some, Option.bind_none, Option.map_some, zAf, zAb, zAl, zAk, zBh, zAw, zAy, zAp, zBc, zAs, zBa, zAr, zBt, zBu, zBv, zBs, zAz, zAa, zAc, zAd, zAe, zAh, zAm, zAg, zAj, zAn, zAi, zAu, zAx, zAv, zBb, zAt, Bool.not_true, Bool.not_false, zCk, zCj, zCl, zCi, zCm, zAq, zAo, zBg, zBo, zBr, cond_true, cond_false, Nat.reduceBEq]
  · rw [if_neg h1]
    by_cases h2 : b < a
    · rw [if_pos h2]
      simp -implicitDefEqProofs (disch := omega) only [↓c102_0_eq, dcT, dcF, e1, e2, ↓ret102, ↓zAf, ↓zAb, ↓Option.bind_some, ↓zAa, zBd, zBm, zBl, zBe, zBn, zBk, zBi, zBf, zBj, zBq, zBp, Option.bind_some, Option.bind_none, Option.map_some, zAf, zAb, zAl, zAk, zBh, zAw, zAy, zAp, zBc, zAs, zBa, zAr, zBt, zBu, zBv, zBs, zAz, zAa, zAc, zAd, zAe, zAh, zAm, zAg, zAj, zAn, zAi, zAu, zAx, zAv, zBb, zAt, Bool.not_true, Bool.not_false, zCk, zCj, zCl, zCi, zCm, zAq, zAo, zBg, zBo, zBr, cond_true, cond_false, Nat.reduceBEq]
    · rw [if_neg h2]
      simp -implicitDefEqProofs (disch := omega) only [↓c102_0_eq, dcT, dcF, e1, e2, ↓ret102, ↓zAf, ↓zAb, ↓Option.bind_some, ↓zAa, zBd, zBm, zBl, zBe, zBn, zBk, zBi, zBf, zBj, zBq, zBp, Option.bind_some, Option.bind_none, Option.map_some, zAf, zAb, zAl, zAk, zBh, zAw, zAy, zAp, zBc, zAs, zBa, zAr, zBt, zBu, zBv, zBs, zAz, zAa, zAc, zAd, zAe, zAh, zAm, zAg, zAj, zAn, zAi, zAu, zAx, zAv, zBb, zAt, Bool.not_true, Bool.not_false, zCk, zCj, zCl, zCi, zCm, zAq, zAo, zBg, zBo, zBr, cond_true, cond_false, Nat.reduceBEq]
theorem spec_Or {h : Heap} {p c : Nat} (a b : Int) (hc : Cells h p 3 [.int .i64 a, .int .i64 b]) : evC Tryz.prog 100 #[.slice (some ⟨p, 0, none⟩) 2 c] h = some (.int .i64 (if a = 0 then b else a), h) := by
  rw [call100]
  have l0 : (nm h).load1 p 0 = some (.int .i64 a) := hc.nm.load 0
  have l1 : (nm h).load1 p 1 = some (.int .i64 b) := hc.nm.load 1
  have w1 : IntKind.i64.wrap (0 + 1) = 1 := rfl
  have w2 : IntKind.i64.wrap (1 + 1) = 2 := rfl
  by_cases h1 : a = 0
  · rw [if_pos h1]
    by_cases h2 : b = 0
    · simp -implicitDefEqProofs (disch := omega) only [↓c100_0_eq, ↓c100_1_eq, ↓c100_2_eq, ↓loopK_eq evC_m, dcT, dcF, lnI, iaI0, iaI1, ldI, l0, l1, w1, w2, ↓ret100, ↓zAf, ↓zAb, ↓Option.bind_some, ↓zAa, zBd, zBm, zBl, zBe, zBn, zBk, zBi, zBf, zBj, zBq, zBp, Option.bind_some, Option.bind_none, Option.map_some, zAf, zAb, zAl, zAk, zBh, zAw, zAy, zAp, zBc, zAs, zBa, zAr, zBt, zBu, zBv, zBs, zAz, zAa, zAc, zAd, zAe, zAh, zAm, zAg, zAj, zAn, zAi, zAu, zAx, zAv, zBb, zAt, Bool.not_true, Bool.not_false, zCk, zCj, zCl, zCi, zCm, zAq, zAo, zBg, zBo, zBr, cond_true, cond_false, Nat.reduceBEq]
      rw [h2]
    · simp -implicitDefEqProofs (disch := omega) only [↓c100_0_eq, ↓c100_1_eq, ↓c100_2_eq, ↓loopK_eq evC_m, dcT, dcF, lnI, iaI0, iaI1, ldI, l0, l1, w1, w2, ↓ret100, ↓zAf, ↓zAb, ↓Option.bind_some, ↓zAa, zBd, zBm, zBl, zBe, zBn, zBk, zBi, zBf, zBj, zBq, zBp, Option.bind_some, Option.bind_none, Option.map_some, zAf, zAb, zAl, zAk, zBh, zAw, zAy, zAp, zBc, zAs, zBa, zAr, zBt, zBu, zBv, zBs, zAz, zAa, zAc, zAd, zAe, zAh, zAm, zAg, zAj, zAn, zAi, zAu, zAx, zAv, zBb, zAt, Bool.not_true, Bool.not_false, zCk, zCj, zCl, zCi, zCm, zAq, zAo, zBg, zBo, zBr, cond_true, cond_false, Nat.reduceBEq]
  · rw [if_neg h1]
    simp -implicitDefEqProofs (disch := omega) only [↓c100_0_eq, ↓c100_1_eq, ↓c100_2_eq, ↓loopK_eq evC_m, dcT, dcF, lnI, iaI0, iaI1, ldI, l0, l1, w1, w2, ↓ret100, ↓zAf, ↓zAb, ↓Option.bind_some, ↓zAa, zBd, zBm, zBl, zBe, zBn, zBk, zBi, zBf, zBj, zBq, zBp, Option.bind_some, Option.bind_none, Option.map_some, zAf, zAb, zAl, zAk, zBh, zAw, zAy, zAp, zBc, zAs, zBa, zAr, zBt, zBu, zBv, zBs, zAz, zAa, zAc, zAd, zAe, zAh, zAm, zAg, zAj, zAn, zAi, zAu, zAx, zAv, zBb, zAt, Bool.not_true, Bool.not_false, zCk, zCj, zCl, zCi, zCm, zAq, zAo, zBg, zBo, zBr, cond_true, cond_false, Nat.reduceBEq]
theorem cmpE_or (x y : E3) : (if cmpI x.f y.f = 0 then cmpI x.n y.n else cmpI x.f y.f) = cmpE x y := by
  unfold cmpE cmpI
  by_cases h1 : x.f < y.f
  · simp [h1]
  · by_cases h2 : y.f < x.f
    · simp [h1, h2]
    · have : (x.n : Int) < y.n ↔ x.n < y.n := Int.ofNat_lt
      have : (y.n : Int) < x.n ↔ y.n < x.n := Int.ofNat_lt
      simp [h1, h2]
theorem spec_order (x y : E3) (h : Heap) : ∃ h', evC Tryz.prog 78 #[entV x, entV y] h = some (.int .i64 (cmpE x y), h') ∧ HExt h h' := by
  rw [call78]
  have c1 : Cells (((nm h).new (.cells [.int .i64 x.f, .int .u64 x.n, .int .u64 x.t]) 99).new (.cells [.int .i64 y.f, .int .u64 y.n, .int .u64 y.t]) 99) (nm h).blks.length 99 [.int .i64 x.f, .int .u64 x.n, .int .u64 x.t] := (Cells.new _ _ _).keepNew _ _
  have c2 := Cells.new ((nm h).new (.cells [.int .i64 x.f, .int .u64 x.n, .int .u64 x.t]) 99) 99 [.int .i64 y.f, .int .u64 y.n, .int .u64 y.t]
  have k2 : In h.blks.length No (nm h) (((nm h).new (.cells [.int .i64 x.f, .int .u64 x.n, .int .u64 x.t]) 99).new (.cells [.int .i64 y.f, .int .u64 y.n, .int .u64 y.t]) 99) :=
    In.trans (In.new (h := nm h) (Nat.le_refl h.blks.length) _ _) (In.new (by simp [Heap.new]) _ _)
  generalize hp1 : ((nm h).new (.cells [.int .i64 x.f, .int .u64 x.n, .int .u64 x.t]) 99).blks.length = p1 at c2
  generalize hp0 : (nm h).blks.length = p0 at c1
  generalize hh2 : ((nm h).new (.cells [.int .i64 x.f, .int .u64 x.n, .int .u64 x.t]) 99).new (.cells [.int .i64 y.f, .int .u64 y.n, .int .u64 y.t]) 99 = h2 at c1 c2 k2
  have la : h2.load1 p0 0 = some (.int .i64 x.f) := c1.load 0
  have lb : h2.load1 p0 1 = some (.int .u64 x.n) := c1.load 1
  have lc : h2.load1 p1 0 = some (.int .i64 y.f) := c2.load 0
  have ld : h2.load1 p1 1 = some (.int .u64 y.n) := c2.load 1
  have k3 := k2.trans (In.new (Nat.le_trans k2.le k2.len) (.cells [.int .i64 (cmpI x.f y.f), .int .i64 (cmpI x.n y.n)]) 3)
  have e3 := spec_Or (c := 2) _ _ (Cells.new h2 3 [.int .i64 (cmpI x.f y.f), .int .i64 (cmpI x.n y.n)])
  rw [cmpE_or] at e3
  refine ⟨_, ?_, zCf k3⟩
  simp -implicitDefEqProofs (disch := omega) only [↓c78_0_eq, entV, bxE, hp0, hp1, hh2, faE0, faE1, ldI, ldU, la, lb, lc, ld, spec_CmpI, spec_CmpW, am_nm, nm_load1, nm_mods, List.nil_append, List.append_nil, lsI2', e3, ↓ret78, ↓zAf, ↓zAb, ↓Option.bind_some, ↓zAa, zBd, zBm, zBl, zBe, zBn, zBk, zBi, zBf, zBj, zBq, zBp, Option.bind_some, Option.bind_none, Option.map_some, zAf, zAb, zAl, zAk, zBh, zAw, zAy, zAp, zBc, zAs, zBa, zAr, zBt, zBu, zBv, zBs, zAz, zAa, zAc, zAd, zAe, zAh, zAm, zAg, zAj, zAn, zAi, zAu, zAx, zAv, zBb, zAt, Bool.not_true, Bool.not_false, zCk, zCj, zCl, zCi, zCm, zAq, zAo, zBg, zBo, zBr, cond_true, cond_false, Nat.reduceBEq]
end Go.Am.Z
set_option linter.unusedVariables false
set_option linter.unusedSimpArgs false
namespace Go.Proofs
open Go.RowKit Go.Lib
theorem run_copy_cellsK {P : Program} (w : World) (dT sT ty elem : TypeId) (K b o dLen dCap : Nat) (a : Addr) (sLen sCap n : Nat) (cs : List Value)
    (hu : P.underlying dT = some (.slice elem)) (hs : ∀ w, (Go.sizeOf elem).run P w = .ok K w) (hn : n = Nat.min sLen dLen) (hl : cs.length = n * K)
    (hsrc : ∀ j v, cs[j]? = some v → w.cell? (a.add j) = some v) (hc : ∀ j, j < cs.length → (w.cell? ⟨b, o + j, none⟩).isSome = true) (hf : ∀ j, j < cs.length → w.frozen? ⟨b, o + j, none⟩ = false) (h1 : ∀ v ∈ cs, v.oneCell' = true) :
    (Builtin.copy_ #[dT, sT] ty #[.slice (some ⟨b, o, none⟩) dLen dCap, .slice (some a) sLen sCap]).run P w = .ok (goInt n) (w.setCells b o cs) := by
  have hl2 := run_loadCells_list (P := P) w a cs hsrc
  have hst := run_storeCells_cells (P := P) b o cs 0 w (by simpa using hc) (by simpa using hf) h1
  rw [hl] at hl2
  simp [Builtin.copy_, run_underlying hu, Builtin.lenOf, Builtin.firstCells, hs, ← hn, hl2, hst]
theorem szE : ∀ w, (Go.sizeOf 99).run Tryz.prog w = .ok 3 w := fun w => @Go.Am.run_sizeT Tryz.prog ⟨none⟩ 99 3 (by kernel_rfl) w
theorem uEs : Tryz.prog.underlying 49 = some (.slice 99) := by kernel_rfl
set_option maxHeartbeats 4000000 in
set_option maxRecDepth 100000 in
theorem ins_shift (b off n c i vb voff vc : Nat) (cs vs : List Value) (w : World) (hi : i < n) (hn60 : n < 1152921504606846976) (hroom : n + 1 ≤ c) (hvb : vb ≠ b)
    (hcl : cs.length = n * 3) (hvl : vs.length = 3)
    (hcs : ∀ j v, cs[j]? = some v → w.cell? ⟨b, off + j, none⟩ = some v) (hsp : ∀ j, j < (n + 1) * 3 → (w.cell? ⟨b, off + j, none⟩).isSome = true) (hfz : ∀ j, j < (n + 1) * 3 → w.frozen? ⟨b, off + j, none⟩ = false)
    (hvs : ∀ j v, vs[j]? = some v → w.cell? ⟨vb, voff + j, none⟩ = some v) (h1c : ∀ v ∈ cs, v.oneCell' = true) (h1v : ∀ v ∈ vs, v.oneCell' = true)
    (tA tB : TypeId) (kA kB : Nat) (hsa : w.shape? vb = some (tA, kA)) (hsb : w.shape? b = some (tB, kB)) (hkB : kB ≠ 0) (hfa : w.frozen? ⟨vb, voff, none⟩ = false) (hfe : w.frozen? ⟨vb, kA, none⟩ = false) :
    Calls Tryz.prog 79 #[.slice (some ⟨b, off, none⟩) n c, .int .i64 i, .slice (some ⟨vb, voff, none⟩) (1 : Nat) vc] w fun e w' =>
      e = .returned (.slice (some ⟨b, off, none⟩) (n + 1) c) ∧ w' = (w.drew.setCells b (off + (i + 1) * 3) (cs.drop (i * 3))).setCells b (off + i * 3) vs := by
  have hz2 : ¬ ((i : Int) = (n : Int)) := by omega
  have hov : ∀ lb cb, (callFunc 103 #[.slice (some ⟨vb, voff, none⟩) 1 vc, .slice (some ⟨b, off + (i + 1) * 3, none⟩) lb cb]).run Tryz.prog w = .ok (.value (.bool false)) w := fun lb cb => by
    rw [run_callFunc_extern Tryz.func103 (by kernel_rfl) (by kernel_rfl) (by kernel_rfl) (e := Extern.SlicesOverlaps.overlaps #[49, 49] #[4]) (by kernel_rfl),
      Lib.run_overlaps_apart w 49 4 99 uEs 3 szE ⟨vb, voff, none⟩ ⟨b, off + (i + 1) * 3, none⟩ 1 vc lb cb hvb tA tB kA kB hsa hsb hkB hfa hfe]
    rfl
  have hw1 : IntKind.i64.wrap ((i : Int) + 1) = (i : Int) + 1 := by rw [IntKind.wrap_i64]; omega
  have hw2 : IntKind.i64.wrap ((n : Int) + 1) = (n : Int) + 1 := by rw [IntKind.wrap_i64]; omega
  have hb1 : (0 : Int) ≤ (i : Int) + 1 := by omega
  have hin : i ≤ n := by omega
  have htn : ((i : Int) + 1).toNat = i + 1 := by omega
  have hb2 : ¬ (c = i + 1) := by omega
  have hb3 : (i : Int) ≤ (n : Int) + 1 := by omega
  have hb4 : ¬ (c = i) := by omega
  have hdl : (cs.drop (i * 3)).length = (n - i) * 3 := by rw [List.length_drop, hcl, Nat.sub_mul]
  have hcp1 : ∀ ty dc sc, (Builtin.copy_ #[49, 49] ty #[.slice (some ⟨b, off + (i + 1) * 3, none⟩) (n - i) dc, .slice (some ⟨b, off + i * 3, none⟩) (n + 1 - i) sc]).run Tryz.prog w.drew = .ok (goInt (n - i : Nat)) (w.drew.setCells b (off + (i + 1) * 3) (cs.drop (i * 3))) := fun ty dc sc =>
    run_copy_cellsK w.drew _ _ ty 99 3 b (off + (i + 1) * 3) (n - i) dc ⟨b, off + i * 3, none⟩ (n + 1 - i) sc (n - i) (cs.drop (i * 3)) uEs szE (by simp only [Nat.min_def]; split <;> omega) hdl
      (fun j v hj => by rw [Addr.add_lit, Nat.add_assoc]; exact hcs (i * 3 + j) v (by rwa [List.getElem?_drop] at hj))
      (fun j hj => by rw [Nat.add_assoc]; exact hsp _ (by omega)) (fun j hj => by rw [Nat.add_assoc]; exact hfz _ (by omega)) (fun v hv => h1c v (List.mem_of_mem_drop hv))
  obtain ⟨W1, hW1⟩ : ∃ W1, W1 = w.drew.setCells b (off + (i + 1) * 3) (cs.drop (i * 3)) := ⟨_, rfl⟩
  have hsp1 : ∀ k, k < (n + 1) * 3 → (W1.cell? ⟨b, off + k, none⟩).isSome = true := fun k hk => by
    rw [hW1]
    exact isSome_setCells b _ _ _ (fun j hj => by rw [Nat.add_assoc]; exact hsp _ (by omega)) _ (hsp k hk)
  have hcp2 : ∀ (W : World), (∀ x, W.cell? x = W1.cell? x) → (∀ x, W.frozen? x = W1.frozen? x) → ∀ ty dc, (Builtin.copy_ #[49, 49] ty #[.slice (some ⟨b, off + i * 3, none⟩) (n + 1 - i) dc, .slice (some ⟨vb, voff, none⟩) 1 vc]).run Tryz.prog W = .ok (goInt (1 : Nat)) (W.setCells b (off + i * 3) vs) := fun W hWc hWf ty dc =>
    run_copy_cellsK W _ _ ty 99 3 b (off + i * 3) (n + 1 - i) dc ⟨vb, voff, none⟩ 1 vc 1 vs uEs szE (by simp only [Nat.min_def]; split <;> omega) (by omega)
      (fun j v hj => by
        rw [Addr.add_lit, hWc, hW1, World.cell?_setCells_out b _ _ _ _ (fun h _ => absurd h hvb)]
        exact hvs j v hj)
      (fun j hj => by rw [hWc, Nat.add_assoc]; exact hsp1 _ (by omega)) (fun j hj => by rw [hWf, hW1, World.frozen?_setCells, Nat.add_assoc]; exact hfz _ (by omega)) h1v
  rw [← hW1] at hcp1
  go_enter Tryz.func79, Tryz.ntmps79
  go_wp2_with (simp only [hov])
  go_region_law (refine step_copy_runI rfl _ _ 49 49 rfl _ _ (by simp [Act.eval, Act.put]) (by simp [Act.eval, Act.put]) (hcp1 _ _ _) ?_)
  go_wp2_with (at_builtin; refine wpList_copy_runI _ rfl _ _ 49 49 rfl _ _ rfl rfl (hcp2 _ (fun _ => rfl) (fun _ => rfl) _ _) ?_)
  go_ret
  first | exact ⟨rfl, rfl⟩ | exact ⟨rfl, by rw [hW1]⟩
def zEv : Value := .agg #[.int .i64 0, .int .u64 0, .int .u64 0]
theorem iE : (Tryz.prog.info? 99).map (fun i => (i.zero, i.size, i.bytes)) = some (some zEv, 3, 24) := by kernel_rfl
theorem uInt : Tryz.prog.underlying 3 = some (.int .i64) := by kernel_rfl
theorem zc_size (k : Nat) : (Builtin.zeroCells zEv.cells k).size = k * 3 := by
  simp [Builtin.zeroCells, zEv, Value.cells]
def insRow (w : World) (n c i : Nat) (cs : List Value) : Array Value := (cs.take (i * 3)).toArray ++ Builtin.zeroCells zEv.cells (n + 1 - i) ++ Builtin.zeroCells zEv.cells (grownCap w (n + 1) c 99 - (n + 1))
set_option maxHeartbeats 4000000 in
set_option maxRecDepth 100000 in
theorem ins_grow (b off n c i vb voff vc : Nat) (cs vs : List Value) (w : World) (hi : i < n) (hnc : n ≤ c) (hroom : c < n + 1) (hbig : (n + 1) * 24 ≤ 140737488355328)
    (hcl : cs.length = n * 3) (hvl : vs.length = 3)
    (hcs : ∀ j v, cs[j]? = some v → w.cell? ⟨b, off + j, none⟩ = some v)
    (hvs : ∀ j v, vs[j]? = some v → w.cell? ⟨vb, voff + j, none⟩ = some v) (h1c : ∀ v ∈ cs, v.oneCell' = true) (h1v : ∀ v ∈ vs, v.oneCell' = true) :
    Calls Tryz.prog 79 #[.slice (some ⟨b, off, none⟩) n c, .int .i64 i, .slice (some ⟨vb, voff, none⟩) (1 : Nat) vc] w fun e w' =>
      e = .returned (.slice (some ⟨w.heap.size, 0, none⟩) (n + 1) (grownCap w (n + 1) c 99)) ∧
      w' = (((w.alloc (.cells (insRow w n c i cs) 99)).drew.setCells w.heap.size (i * 3) vs).drew).setCells w.heap.size ((i + 1) * 3) (cs.drop (i * 3)) := by
  obtain ⟨i0, hi0, hz0, hzs, hzb⟩ := info_parts iE
  have hz2 : ¬ ((i : Int) = (n : Int)) := by omega
  have hz3 : (c : Int) < (n : Int) + 1 := by omega
  have hbw : b < w.heap.size := block_lt_of_cell (hcs 0 _ (List.getElem?_eq_getElem (by omega)))
  have hvw : vb < w.heap.size := block_lt_of_cell (hvs 0 _ (List.getElem?_eq_getElem (by omega)))
  have hkk : (n : Int) + 1 - (i : Int) = ((n + 1 - i : Nat) : Int) := by omega
  have hik : i + (n + 1 - i) = n + 1 := by omega
  have hold : (Builtin.firstCells i0.size i (.slice (some ⟨b, off, none⟩) i c)).run Tryz.prog w.drew = .ok (cs.take (i * 3)).toArray w.drew := by
    rw [hzs]
    exact run_firstCells_some w.drew 3 i ⟨b, off, none⟩ i c (cs.take (i * 3)) (by rw [List.length_take]; omega) (fun j v hj => by
      rw [Addr.add_lit]
      rw [List.getElem?_take] at hj
      split at hj
      · exact hcs j v hj
      · cases hj)
  have hrz : ∀ ty, (Builtin.append_ #[49, 3] ty #[.slice (some ⟨b, off, none⟩) i c, .int .i64 ((n : Int) + 1 - (i : Int))]).run Tryz.prog w =
      .ok (.slice (some ⟨w.heap.size, 0, none⟩) (n + 1) (grownCap w (n + 1) c 99)) (w.drew.alloc (.cells (insRow w n c i cs) 99)) := fun ty => by
    have h := Lib.run_append_grow_zeros w 49 3 ty 99 i0 _ .i64 .i64 uEs uInt hi0 hz0 (some ⟨b, off, none⟩) i c (cs.take (i * 3)) hold (n + 1 - i) (by omega) (by omega) (by omega) (by omega) (by rw [hzb]; omega) (by rw [hzb, hik]; exact growslice_fits hroom hbig)
    rw [hik] at h
    rw [hkk]
    exact h
  obtain ⟨G, hG⟩ : ∃ G, G = grownCap w (n + 1) c 99 := ⟨_, rfl⟩
  obtain ⟨ROW, hROW⟩ : ∃ ROW : Array Value, ROW = insRow w n c i cs := ⟨_, rfl⟩
  have hRl : (n + 1) * 3 ≤ ROW.size := by
    rw [hROW]
    unfold insRow
    rw [Array.size_append, Array.size_append, zc_size, zc_size, List.size_toArray, List.length_take]
    omega
  rw [← hG, ← hROW] at hrz ⊢
  obtain ⟨W1, hW1⟩ : ∃ W1, W1 = w.drew.alloc (.cells ROW 99) := ⟨_, rfl⟩
  rw [← hW1] at hrz
  have hN : ∀ j, j < (n + 1) * 3 → (W1.cell? ⟨w.heap.size, j, none⟩).isSome = true := fun j hj => by
    rw [hW1, World.cell?_alloc_at (w := w.drew) ROW _ w.heap.size j rfl, Array.getElem?_eq_getElem (by omega)]; rfl
  have hNf : ∀ j, W1.frozen? ⟨w.heap.size, j, none⟩ = false := fun j => by rw [hW1]; exact World.frozen?_alloc_at (w := w.drew) ROW _ w.heap.size j rfl
  have hOb : ∀ j v, w.cell? ⟨b, j, none⟩ = some v → W1.cell? ⟨b, j, none⟩ = some v := fun j v h => by rw [hW1, World.cell?_alloc_past (w := w.drew) _ b j hbw]; exact h
  have hOv : ∀ j v, w.cell? ⟨vb, j, none⟩ = some v → W1.cell? ⟨vb, j, none⟩ = some v := fun j v h => by rw [hW1, World.cell?_alloc_past (w := w.drew) _ vb j hvw]; exact h
  have hcpA : ∀ (W : World), (∀ x, W.cell? x = W1.cell? x) → (∀ x, W.frozen? x = W1.frozen? x) → ∀ ty dc, (Builtin.copy_ #[49, 49] ty #[.slice (some ⟨w.heap.size, i * 3, none⟩) (n + 1 - i) dc, .slice (some ⟨vb, voff, none⟩) 1 vc]).run Tryz.prog W = .ok (goInt (1 : Nat)) (W.setCells w.heap.size (i * 3) vs) := fun W hWc hWf ty dc =>
    run_copy_cellsK W _ _ ty 99 3 w.heap.size (i * 3) (n + 1 - i) dc ⟨vb, voff, none⟩ 1 vc 1 vs uEs szE (by simp only [Nat.min_def]; split <;> omega) (by omega)
      (fun j v hj => by rw [Addr.add_lit, hWc]; exact hOv _ v (hvs j v hj))
      (fun j hj => by rw [hWc]; exact hN _ (by omega)) (fun j hj => by rw [hWf]; exact hNf _) h1v
  have hGn : n + 1 ≤ G := by rw [hG]; exact grownCap_ge w _ _ _
  have hG63 : G ≤ 9223372036854775807 := by
    have := grownCap_le_maxLen w (n + 1) c 99 (by unfold maxLen; omega)
    rw [← hG] at this
    unfold maxLen at this
    omega
  have hGi : ¬ (G = i) := by omega
  have hGim : ¬ (G = i + 1) := by omega
  have hci : ¬ (c = i) := by omega
  have hbN : b ≠ w.heap.size := by omega
  have hdl : (cs.drop (i * 3)).length = (n - i) * 3 := by rw [List.length_drop, hcl, Nat.sub_mul]
  have hcpB : ∀ (W : World), (∀ x, W.cell? x = (W1.setCells w.heap.size (i * 3) vs).cell? x) → (∀ x, W.frozen? x = (W1.setCells w.heap.size (i * 3) vs).frozen? x) → ∀ ty dc sc, (Builtin.copy_ #[49, 49] ty #[.slice (some ⟨w.heap.size, (i + 1) * 3, none⟩) (n - i) dc, .slice (some ⟨b, off + i * 3, none⟩) (n - i) sc]).run Tryz.prog W = .ok (goInt (n - i : Nat)) (W.setCells w.heap.size ((i + 1) * 3) (cs.drop (i * 3))) := fun W hWc hWf ty dc sc =>
    run_copy_cellsK W _ _ ty 99 3 w.heap.size ((i + 1) * 3) (n - i) dc ⟨b, off + i * 3, none⟩ (n - i) sc (n - i) (cs.drop (i * 3)) uEs szE (by simp) hdl
      (fun j v hj => by
        rw [Addr.add_lit, hWc, World.cell?_setCells_out _ _ _ _ _ (fun h _ => absurd h hbN), Nat.add_assoc]
        exact hOb _ v (hcs (i * 3 + j) v (by rwa [List.getElem?_drop] at hj)))
      (fun j hj => by rw [hWc]; exact isSome_setCells _ _ _ _ (fun t ht => hN _ (by omega)) _ (hN _ (by omega)))
      (fun j hj => by rw [hWf, World.frozen?_setCells]; exact hNf _) (fun v hv => h1c v (List.mem_of_mem_drop hv))
  subst hW1
  have hE1 : ∀ x, ((w.alloc (.cells ROW 99)).drew).cell? x = (w.drew.alloc (.cells ROW 99)).cell? x := fun x => rfl
  have hE2 : ∀ x, ((w.alloc (.cells ROW 99)).drew).frozen? x = (w.drew.alloc (.cells ROW 99)).frozen? x := fun x => rfl
  have hF1 : ∀ x, (((w.alloc (.cells ROW 99)).drew.setCells w.heap.size (i * 3) vs).drew).cell? x = ((w.drew.alloc (.cells ROW 99)).setCells w.heap.size (i * 3) vs).cell? x := fun x => rfl
  have hF2 : ∀ x, (((w.alloc (.cells ROW 99)).drew.setCells w.heap.size (i * 3) vs).drew).frozen? x = ((w.drew.alloc (.cells ROW 99)).setCells w.heap.size (i * 3) vs).frozen? x := fun x => rfl
  have hw1 : IntKind.i64.wrap ((i : Int) + 1) = (i : Int) + 1 := by rw [IntKind.wrap_i64]; omega
  have hw2 : IntKind.i64.wrap ((n : Int) + 1) = (n : Int) + 1 := by rw [IntKind.wrap_i64]; omega
  have hw3 : IntKind.i64.wrap ((n : Int) + 1 - (i : Int)) = (n : Int) + 1 - (i : Int) := by rw [IntKind.wrap_i64]; omega
  have hb1 : (0 : Int) ≤ (i : Int) + 1 := by omega
  have hin : i ≤ n := by omega
  have htn : ((i : Int) + 1).toNat = i + 1 := by omega
  have hb3 : (i : Int) ≤ (n : Int) := by omega
  clear hkk hik hold hROW hG hRl
  go_enter Tryz.func79, Tryz.ntmps79
  go_wp2_with (first
    | (at_builtin; refine Lib.wpList_append_run _ rfl _ _ _ _ rfl _ _ rfl rfl _ _ (hrz _) ?_)
    | (at_builtin; refine wpList_copy_runI _ rfl _ _ 49 49 rfl _ _ rfl rfl (hcpA _ hE1 hE2 _ _) ?_)
    | (at_builtin; refine wpList_copy_runI _ rfl _ _ 49 49 rfl _ _ rfl rfl (hcpB _ (fun _ => rfl) (fun _ => rfl) _ _ _) ?_))
  go_region_law (refine step_copy_runI rfl _ _ 49 49 rfl (.slice (some ⟨w.heap.size, (i + 1) * 3, none⟩) (n - i) (G - (i + 1))) (.slice (some ⟨b, off + i * 3, none⟩) (n - i) (c - i)) (by simp [Act.eval, Act.put]) (by simp [Act.eval, Act.put]) (hcpB _ hF1 hF2 3 (G - (i + 1)) (c - i)) ?_)
  go_wp2
  go_ret
  exact ⟨rfl, rfl⟩
set_option maxHeartbeats 4000000 in
set_option maxRecDepth 100000 in
theorem ins_end (ad : Addr) (n c : Nat) (x : Value) (vb voff vc : Nat) (w w' : World) (v' : Value) (hnc : n ≤ c) (hn : n < 1152921504606846976) (hx : x = .slice (some ⟨vb, voff, none⟩) (1 : Nat) vc)
    (hrun : (Builtin.append_ #[49, 49] 49 #[.slice (some ad) n c, x]).run Tryz.prog w = .ok v' w') :
    Calls Tryz.prog 79 #[.slice (some ad) n c, .int .i64 n, x] w fun e w2 => e = .returned v' ∧ w2 = w' := by
  subst hx
  have hin : n ≤ n := Nat.le_refl n
  go_enter Tryz.func79, Tryz.ntmps79
  go_wp2_with (at_builtin; refine Lib.wpList_append_run _ rfl _ _ _ _ rfl _ _ rfl rfl _ _ hrun ?_)
  all_goals (go_ret; exact ⟨rfl, rfl⟩)
set_option maxHeartbeats 4000000 in
set_option maxRecDepth 100000 in
theorem ins_endN (x : Value) (vb voff vc : Nat) (w w' : World) (v' : Value) (hx : x = .slice (some ⟨vb, voff, none⟩) (1 : Nat) vc)
    (hrun : (Builtin.append_ #[49, 49] 49 #[.slice none 0 0, x]).run Tryz.prog w = .ok v' w') :
    Calls Tryz.prog 79 #[.slice none 0 0, .int .i64 0, x] w fun e w2 => e = .returned v' ∧ w2 = w' := by
  subst hx
  go_enter Tryz.func79, Tryz.ntmps79
  go_wp2_with (at_builtin; refine Lib.wpList_append_run _ rfl _ _ _ _ rfl _ _ rfl rfl _ _ hrun ?_)
  go_ret
  exact ⟨rfl, rfl⟩
end Go.Proofs
namespace Go.Am
open Go.Proofs
set_option maxRecDepth 100000
set_option linter.all false
theorem own_frz {P : Program} {k : Blk} {l : Loc} {w : World} (h : Own P k l w) (he : l.es = 3) (j : Nat) : w.frozen? ⟨l.cb, j, none⟩ = false := by
  obtain ⟨cs, e, lo, hi, hh, hs, _, hf⟩ := h
  have : lo = hi := by omega
  subst this
  simp only [World.frozen?, hh]
  simp
theorem own_shape {P : Program} {k : Blk} {l : Loc} {w : World} (h : Own P k l w) : ∃ e, w.shape? l.cb = some (e, l.sz) := by
  obtain ⟨cs, e, lo, hi, hh, hs, _, hf⟩ := h
  exact ⟨e, by simp only [World.shape?, hh, hs]⟩
theorem own_cell {P : Program} {k : Blk} {l : Loc} {w : World} (h : Own P k l w) {j : Nat} (hj : j < l.sz) : (w.cell? ⟨l.cb, j, none⟩).isSome = true := by
  obtain ⟨cs, e, lo, hi, hh, hs, _, hf⟩ := h
  simp only [World.cell?, hh]
  simp
  omega
theorem Wrote.tr {c : Nat} {a b d : World} (h : Wrote c a b) (k : Wrote c b d) : Wrote c a d :=
  ⟨k.os.trans h.os, k.tape.trans h.tape, k.output.trans h.output, k.size.trans h.size, fun x hx => (k.blk x hx).trans (h.blk x hx), Nat.le_trans h.drawn k.drawn⟩
theorem drew_wrote (c : Nat) (w : World) : Wrote c w w.drew := ⟨rfl, rfl, rfl, rfl, fun _ _ => rfl, Nat.le_succ _⟩
theorem ins_blk {E : Env} {row xs row' xs' : List Value} (hr : LRel E row row') (hx : LRel E xs xs') {w2 : World} {cb s i : Nat} (hi : i * 3 ≤ row.length) (hxl : xs.length = 3)
    (c1 : ∀ j v, j < i * 3 → row'[j]? = some v → w2.cell? ⟨cb, s + j, none⟩ = some v) (c2 : ∀ j v, xs'[j]? = some v → w2.cell? ⟨cb, s + i * 3 + j, none⟩ = some v)
    (c3 : ∀ j v, (row'.drop (i * 3))[j]? = some v → w2.cell? ⟨cb, s + (i + 1) * 3 + j, none⟩ = some v) :
    ∀ (k : Nat) v, (row.take (i * 3) ++ (xs ++ row.drop (i * 3)))[k]? = some v → ∃ v', w2.cell? ⟨cb, s + k, none⟩ = some v' ∧ VR E v v' := by
  intro k v hk
  have hlt : (row.take (i * 3)).length = i * 3 := by rw [List.length_take]; omega
  rcases Nat.lt_or_ge k (i * 3) with h1 | h1
  · rw [List.getElem?_append_left (by omega), List.getElem?_take, if_pos h1] at hk
    obtain ⟨v', h2, h3⟩ := hr.2 k v hk
    exact ⟨v', c1 k v' h1 h2, h3⟩
  · rw [List.getElem?_append_right (by omega), hlt] at hk
    rcases Nat.lt_or_ge (k - i * 3) 3 with h2 | h2
    · rw [List.getElem?_append_left (by omega)] at hk
      obtain ⟨v', h3, h4⟩ := hx.2 _ v hk
      refine ⟨v', ?_, h4⟩
      have := c2 _ v' h3
      rwa [show s + i * 3 + (k - i * 3) = s + k by omega] at this
    · rw [List.getElem?_append_right (by omega), hxl, List.getElem?_drop] at hk
      obtain ⟨v', h3, h4⟩ := hr.2 _ v hk
      refine ⟨v', ?_, h4⟩
      have := c3 (k - i * 3 - 3) v' (by rw [List.getElem?_drop]; exact h3)
      rwa [show s + (i + 1) * 3 + (k - i * 3 - 3) = s + k by omega] at this
theorem set_in {w : World} {b o : Nat} {vs : List Value} (h : ∀ j, j < vs.length → (w.cell? ⟨b, o + j, none⟩).isSome = true) {j : Nat} {v : Value} (hv : vs[j]? = some v) : (w.setCells b o vs).cell? ⟨b, o + j, none⟩ = some v := by
  obtain ⟨hj, e⟩ := List.getElem?_eq_some_iff.1 hv
  rw [World.cell?_setCells_in b vs o w h j hj, e]
theorem set_out {w : World} {b o k : Nat} {vs : List Value} (h : k < o ∨ o + vs.length ≤ k) : (w.setCells b o vs).cell? ⟨b, k, none⟩ = w.cell? ⟨b, k, none⟩ :=
  World.cell?_setCells_out b vs o w _ (fun _ _ => h)
theorem alloc_pushed (w : World) (o : Obj) : Pushed w (w.alloc o) :=
  ⟨rfl, rfl, rfl, by show (w.heap.push o).size = _; rw [Array.size_push], fun c hc => by show (w.heap.push o)[c]? = _; rw [Array.getElem?_push, if_neg (by omega)], Nat.le_refl _⟩
theorem Pushed.wr {w a d : World} (h : Pushed w a) (k : Wrote w.heap.size a d) : Pushed w d :=
  ⟨k.os.trans h.os, k.tape.trans h.tape, k.output.trans h.output, k.size.trans h.size, fun c hc => (k.blk c (by omega)).trans (h.blk c hc), Nat.le_trans h.drawn k.drawn⟩
theorem insRow_size (w : World) (n c i : Nat) (cs : List Value) (hi : i < n) (hl : cs.length = n * 3) : (insRow w n c i cs).size = grownCap w (n + 1) c 99 * 3 := by
  have hg : n + 1 ≤ grownCap w (n + 1) c 99 := grownCap_ge w _ _ _
  unfold insRow
  rw [Array.size_append, Array.size_append, zc_size, zc_size, List.size_toArray, List.length_take, hl]
  omega
theorem insRow_at (w : World) (n c i : Nat) (cs : List Value) {j : Nat} (hj : j < i * 3) (hl : i * 3 ≤ cs.length) : (insRow w n c i cs)[j]? = cs[j]? := by
  unfold insRow
  have h1 : j < ((cs.take (i * 3)).toArray).size := by rw [List.size_toArray, List.length_take]; omega
  rw [Array.append_assoc, Array.getElem?_append_left h1, List.getElem?_toArray, List.getElem?_take, if_pos hj]
theorem ins_sound (base : Nat) (args : Array Value) (h : Heap) (v : Value) (h' : Heap) (E : Env) (w : World) (args' : Array Value) (hv : insX args h = some (v, h')) (hR : Rel Tryz.prog base E h w) (ha : ARel E args args') (hfree : Free E h h') :
    Calls Tryz.prog 79 args' w fun e w' => ∃ v' E', e = .returned v' ∧ Post Tryz.prog base E h w E' h' w' ∧ VR E' v v' := by
  have three : ∀ x y z, args.toList = [x, y, z] → ∃ x' y' z', args' = #[x', y', z'] ∧ VR E x x' ∧ VR E y y' ∧ VR E z z' := fun x y z he => by
    have hl := ha.list
    rw [he] at hl
    obtain ⟨x', h1, r1⟩ := hl.2 0 x rfl
    obtain ⟨y', h2, r2⟩ := hl.2 1 y rfl
    obtain ⟨z', h3, r3⟩ := hl.2 2 z rfl
    have h4 := hl.1
    refine ⟨x', y', z', ?_, r1, r2, r3⟩
    obtain ⟨l⟩ := args'
    match l, h4, h1, h2, h3 with
    | [a, b, c], _, h1, h2, h3 => cases h1; cases h2; cases h3; rfl
  unfold insX at hv
  split at hv
  · rename_i a n c i vb he
    obtain ⟨x', y', z', rfl, r1, r2, r3⟩ := three _ _ _ he
    have hy : y' = .int .i64 i := by cases r2; rfl
    subst hy
    have r30 := r3
    rcases r3.slice_inv with ⟨lz, cz, ez, _, _, _, rfl⟩ | ⟨h0, _⟩
    rotate_left
    · omega
    split at hv
    · rename_i hin
      subst hin
      split at hv
      · rename_i hn
        obtain ⟨E', w', v', g1, g2, g3⟩ := appendV_run (t2 := 49) (ts := #[49, 49]) hR rfl hfree hv r1 r30
        have fin : ∀ e w2, e = Ending.returned v' ∧ w2 = w' → ∃ v' E', e = .returned v' ∧ Post Tryz.prog base E h w E' h' w2 ∧ VR E' v v' := fun e w2 ⟨q1, q2⟩ => ⟨v', E', q1, by rw [q2]; exact g2, g3⟩
        cases r1 with
        | sliceNil => exact (ins_endN _ lz.cb (lz.s + 0) cz w w' v' rfl g1).mono fin
        | slice q1 q2 q3 q4 => exact (ins_end _ n _ _ lz.cb (lz.s + 0) cz w w' v' q3 (by omega) rfl g1).mono fin
        | sliceEmpty q => exact (ins_end _ 0 0 _ lz.cb (lz.s + 0) cz w w' v' (Nat.le_refl _) (by omega) rfl g1).mono fin
      · cases hv
    · split at hv
      · rename_i hne hc
        obtain ⟨i0, i1, n40, hcap⟩ := hc
        obtain ⟨i, rfl⟩ : ∃ k : Nat, i = k := ⟨i.toNat, by omega⟩
        rw [Int.toNat_natCast] at hv
        split at hv
        · rename_i b o
          split at hv
          · rename_i cs ty xs ty2 hk hkv
            split at hv
            · rename_i hc2
              obtain ⟨rfl, rfl, hbv, hle, hxl, hx1, hc1⟩ := hc2
              simp only [Option.some.injEq, Prod.mk.injEq] at hv
              obtain ⟨rfl, rfl⟩ := hv
              rcases r1.slice_inv with ⟨l, c', e1, e2, e3, e4, rfl⟩ | ⟨h0, _⟩
              rotate_left
              · omega
              have hin : i < n := by omega
              have hfr : E h.blks.length = none := hfree _ (Nat.le_refl _) (by rw [Heap.new_len, Heap.put_len]; omega)
              have hsz3 : sizeT Tryz.prog 99 = some 3 := by kernel_rfl
              have hblk := hR.blk b _ l hk e1
              have hblz := hR.blk vb _ lz hkv ez
              have hes : l.es = 3 := by have := hblk.1; simp only at this; rw [hsz3] at this; simpa using this.symm
              have hez : lz.es = 3 := by have := hblz.1; simp only at this; rw [hsz3] at this; simpa using this.symm
              have own := hblk.2.2 rfl
              have ownz := hblz.2.2 rfl
              have hcb : lz.cb ≠ l.cb := fun e => hbv (hR.inj b vb _ _ l lz hk hkv e1 ez rfl rfl trivial trivial e.symm)
              have hload : h.loadN b o (n * 3) = some ((cs.drop o).take (n * 3)) := by
                unfold Heap.loadN Heap.cells?
                simp only [hk]
                rw [if_pos hle]
              have hloadv : h.loadN vb 0 3 = some xs := by
                unfold Heap.loadN Heap.cells?
                simp only [hkv]
                rw [if_pos (by omega), List.drop_zero, List.take_of_length_le (by omega)]
              obtain ⟨row', hr, hcell⟩ := loadN_read hR hload e1
              obtain ⟨xs', hx, hcellx⟩ := loadN_read hR hloadv ez
              have hrl : ((cs.drop o).take (n * 3)).length = n * 3 := by rw [List.length_take, List.length_drop]; omega
              have hr'l : row'.length = n * 3 := by rw [← hr.1]; exact hrl
              have hx'l : xs'.length = 3 := by rw [← hx.1]; exact hxl
              have h1c : ∀ v ∈ row', v.oneCell' = true := hr.all_one hc1
              have h1v : ∀ v ∈ xs', v.oneCell' = true := hx.all_one hx1
              have hcs : ∀ j v, row'[j]? = some v → w.cell? ⟨l.cb, l.s + o + j, none⟩ = some v := fun j v hj => by rw [Nat.add_assoc]; exact hcell j v hj
              have hvs : ∀ j v, xs'[j]? = some v → w.cell? ⟨lz.cb, lz.s + 0 + j, none⟩ = some v := fun j v hj => by rw [Nat.add_assoc]; exact hcellx j v hj
              have htk : (cs.drop o).take (i * 3) = ((cs.drop o).take (n * 3)).take (i * 3) := by rw [List.take_take, Nat.min_eq_left (by omega)]
              rw [htk] at hfree ⊢
              clear htk
              generalize hrow : (cs.drop o).take (n * 3) = row at *
              rcases Nat.lt_or_ge c' (n + 1) with hgrow | hshift
              · have hG := grownCap_ge w (n + 1) c' 99
                have hsz := insRow_size w n c' i row' hin hr'l
                have hat : ∀ j, j < i * 3 → (insRow w n c' i row')[j]? = row'[j]? := fun j hj => insRow_at w n c' i row' hj (by omega)
                refine (ins_grow l.cb (l.s + o) n c' i lz.cb (lz.s + 0) cz row' xs' w hin e3 hgrow (by omega) hr'l hx'l hcs hvs h1c h1v).mono ?_
                rintro e w' ⟨rfl, rfl⟩
                generalize hROW : insRow w n c' i row' = ROW at *
                generalize grownCap w (n + 1) c' 99 = G at *
                have pk := Post.kill hR hk e1 rfl trivial hblk.1
                have hpl : (h.put b .dead).blks.length = h.blks.length := Heap.put_len _ _ _
                have hA : ∀ j, (w.alloc (.cells ROW 99)).drew.cell? ⟨w.heap.size, j, none⟩ = ROW[j]? := fun j => World.cell?_alloc_at (w := w) ROW _ w.heap.size j rfl
                have hAs : ∀ j, j < G * 3 → ((w.alloc (.cells ROW 99)).drew.cell? ⟨w.heap.size, j, none⟩).isSome = true := fun j hj => by
                  rw [hA, Array.getElem?_eq_getElem (by omega)]; rfl
                have hd : (row'.drop (i * 3)).length = (n - i) * 3 := by rw [List.length_drop, hr'l, Nat.sub_mul]
                have hs2 : ∀ j, j < xs'.length → ((w.alloc (.cells ROW 99)).drew.cell? ⟨w.heap.size, i * 3 + j, none⟩).isSome = true := fun j hj => hAs _ (by omega)
                have hs1 : ∀ j, j < (row'.drop (i * 3)).length → (((w.alloc (.cells ROW 99)).drew.setCells w.heap.size (i * 3) xs').drew.cell? ⟨w.heap.size, (i + 1) * 3 + j, none⟩).isSome = true := fun j hj => by
                  show (((w.alloc (.cells ROW 99)).drew.setCells w.heap.size (i * 3) xs').cell? ⟨w.heap.size, (i + 1) * 3 + j, none⟩).isSome = true
                  rw [set_out (.inr (by omega))]
                  exact hAs _ (by omega)
                have pw : Pushed w ((((w.alloc (.cells ROW 99)).drew.setCells w.heap.size (i * 3) xs').drew).setCells w.heap.size ((i + 1) * 3) (row'.drop (i * 3))) :=
                  (alloc_pushed w _).wr ((((drew_wrote _ _).tr (setCells_far _ _ _ _)).tr (drew_wrote _ _)).tr (setCells_far _ _ _ _))
                have hh : (w.alloc (.cells ROW 99)).drew.heap[w.heap.size]? = some (.cells ROW 99 (0, 0)) := by
                  show (w.heap.push (.cells ROW 99))[w.heap.size]? = _
                  simp
                obtain ⟨c2, q2, s2⟩ := setCells_block w.heap.size xs' (i * 3) _ hh
                obtain ⟨c3, q3, s3⟩ := setCells_block w.heap.size (row'.drop (i * 3)) ((i + 1) * 3) (((w.alloc (.cells ROW 99)).drew.setCells w.heap.size (i * 3) xs').drew) q2
                have p2 := Post.new pk.rel (by rw [hpl]; exact hfr) (.cells (row.take (i * 3) ++ (xs ++ row.drop (i * 3)))) 99 ⟨w.heap.size, 0, G * 3, 3⟩ rfl pw ⟨hsz3, by
                  refine ins_blk hr hx (by omega) hxl (fun j v hj hv => ?_) (fun j v hv => ?_) (fun j v hv => ?_)
                  · rw [Nat.zero_add, set_out (.inl (by omega))]
                    show ((w.alloc (.cells ROW 99)).drew.setCells w.heap.size (i * 3) xs').cell? _ = _
                    rw [set_out (.inl hj), hA, hat j hj]
                    exact hv
                  · have hj := (List.getElem?_eq_some_iff.1 hv).1
                    rw [Nat.zero_add, set_out (.inl (by omega))]
                    exact set_in hs2 hv
                  · rw [Nat.zero_add]
                    exact set_in hs1 hv, fun _ => ⟨c3, _, 0, 0, q3, by rw [s3, s2, hsz], hsz3, .inl rfl⟩⟩
                have p3 := pk.trans p2 (Grow.put hk trivial _ rfl) (Grow.new _ _ _ (by simp [Body.kind])) (by intro x hx hx'; exact hfree x hx hx')
                refine ⟨_, _, rfl, p3, ?_⟩
                rw [hpl]
                have := VR.slice (E := E.upd h.blks.length ⟨w.heap.size, 0, G * 3, 3⟩) (b := h.blks.length) (o := 0) (n := n + 1) (c := UNK) (c' := G) (Env.upd_same _ _ _) (.inl rfl) hG (fun _ => by simp)
                simpa using this
              · -- in place
                have hU : c = UNK := by
                  rcases e2 with e | ⟨e, _⟩
                  · exact e
                  · rcases hcap with e' | e'
                    · exact e'
                    · omega
                have hb4 := e4 hU
                rw [hes] at hb4
                have hroom : l.s + o + (n + 1) * 3 ≤ l.sz := by
                  have : (n + 1) * 3 ≤ c' * 3 := Nat.mul_le_mul_right _ hshift
                  omega
                obtain ⟨tA, hsa⟩ := own_shape ownz
                obtain ⟨tB, hsb⟩ := own_shape own
                have hsp : ∀ j, j < (n + 1) * 3 → (w.cell? ⟨l.cb, l.s + o + j, none⟩).isSome = true := fun j hj => own_cell own (by omega)
                refine (ins_shift l.cb (l.s + o) n c' i lz.cb (lz.s + 0) cz row' xs' w hin (by omega) hshift hcb hr'l hx'l hcs hsp (fun j _ => own_frz own hes _) hvs h1c h1v tA tB lz.sz l.sz hsa hsb (by omega) (own_frz ownz hez _) (own_frz ownz hez _)).mono ?_
                rintro e w' ⟨rfl, rfl⟩
                have hd : (row'.drop (i * 3)).length = (n - i) * 3 := by rw [List.length_drop, hr'l, Nat.sub_mul]
                have hs1 : ∀ j, j < (row'.drop (i * 3)).length → (w.drew.cell? ⟨l.cb, l.s + o + (i + 1) * 3 + j, none⟩).isSome = true := fun j hj => by
                  rw [Nat.add_assoc (l.s + o)]; exact hsp _ (by omega)
                have hs2 : ∀ j, j < xs'.length → ((w.drew.setCells l.cb (l.s + o + (i + 1) * 3) (row'.drop (i * 3))).cell? ⟨l.cb, l.s + o + i * 3 + j, none⟩).isSome = true := fun j hj => by
                  rw [set_out (.inl (by omega)), Nat.add_assoc (l.s + o)]; exact hsp _ (by omega)
                refine ⟨_, _, rfl, Post.alias hR hfr hk e1 rfl trivial hblk.1 _ _ ⟨l.cb, l.s + o, l.sz, 3⟩ rfl (((drew_wrote _ _).tr (setCells_far _ _ _ _)).tr (setCells_far _ _ _ _)) ⟨hsz3, ?_, fun _ => ?_⟩, ?_⟩
                · refine ins_blk hr hx (by omega) hxl (fun j v hj hv => ?_) (fun j v hv => set_in hs2 hv) (fun j v hv => ?_)
                  · show ((w.drew.setCells l.cb (l.s + o + (i + 1) * 3) (row'.drop (i * 3))).setCells l.cb (l.s + o + i * 3) xs').cell? ⟨l.cb, l.s + o + j, none⟩ = some v
                    rw [set_out (.inl (by omega)), set_out (.inl (by omega))]
                    exact hcs j v hv
                  · show ((w.drew.setCells l.cb (l.s + o + (i + 1) * 3) (row'.drop (i * 3))).setCells l.cb (l.s + o + i * 3) xs').cell? ⟨l.cb, l.s + o + (i + 1) * 3 + j, none⟩ = some v
                    rw [set_out (.inr (by rw [hx'l]; omega))]
                    exact set_in hs1 hv
                · obtain ⟨c1, ee, lo, hi, hh, hsz, _, hfz⟩ := own
                  obtain ⟨c2, q2, s2⟩ := setCells_block l.cb (row'.drop (i * 3)) (l.s + o + (i + 1) * 3) w.drew hh
                  obtain ⟨c3, q3, s3⟩ := setCells_block l.cb xs' (l.s + o + i * 3) _ q2
                  exact ⟨c3, ee, lo, hi, q3, by rw [s3, s2, hsz], hsz3, by show lo = hi ∨ l.sz ≤ lo ∧ 3 = 1; rw [← hes]; exact hfz⟩
                · have := VR.slice (E := E.upd h.blks.length ⟨l.cb, l.s + o, l.sz, 3⟩) (b := h.blks.length) (o := 0) (n := n + 1) (c := UNK) (c' := c') (Env.upd_same _ _ _) (.inl rfl) hshift (fun _ => by simpa using hb4)
                  simpa using this
            · cases hv
          · cases hv
        · cases hv
      · cases hv
  · cases hv
end Go.Am
