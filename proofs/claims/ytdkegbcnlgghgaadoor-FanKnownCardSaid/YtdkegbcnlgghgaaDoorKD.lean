/- What the functions answer, in the machine. -/
import Derived.Test.YtdkegbcnlgghgaaDoorKC
import Derived.Shelf.Spec.TrailingZeros
set_option linter.all false
namespace Go.Am
open Go.Proofs Go.RowKit
set_option maxRecDepth 100000
set_option linter.all false
theorem Post.same {P : Program} [Gl P] {base : Nat} {E : Env} {h : Heap} {w w' : World} (hR : Rel P base E h w) (hw : Below w.heap.size w w') : Post P base E h w E h w' :=
  ⟨Ext.refl _, fun _ h0 h1 => absurd h0 h1, ⟨fun b k l hk hl => (hR.blk b k l hk hl).congr (Ext.refl _) (hw.block _ (hR.bnd b l hl)), hR.low, hR.ro, fun b l hl => Nat.lt_of_lt_of_le (hR.bnd b l hl) hw.size, hR.inj, hR.glob.keep fun c hc => hw.block c (Nat.lt_of_lt_of_le hc hR.base), Nat.le_trans hR.base hw.size⟩,
    ⟨hw.os, hw.tape, hw.output, hw.size, fun c hc _ => hw.block c hc, Nat.le_refl _⟩, fun b k l h0 h1 => by rw [h0] at h1; cases h1⟩
theorem Post.newB {P : Program} [Gl P] {base : Nat} {E : Env} {h : Heap} {w w' : World} (hR : Rel P base E h w) (hf : E h.blks.length = none) (body : Body) (ty : TypeId) (l : Loc) (hl : w.heap.size ≤ l.cb) (hl2 : l.cb < w'.heap.size) (hw : Below w.heap.size w w')
    (hb : BlkR P E ⟨body, ty, true⟩ l w') : Post P base E h w (E.upd h.blks.length l) (h.new body ty) w' := by
  have hext := Env.upd_ext (l := l) hf
  have hE : ∀ b l', E.upd h.blks.length l b = some l' → (b = h.blks.length ∧ l' = l) ∨ (b ≠ h.blks.length ∧ E b = some l') := fun b l' he => by
    by_cases e : b = h.blks.length
    · subst e; rw [Env.upd_same] at he; cases he; exact .inl ⟨rfl, rfl⟩
    · rw [Env.upd_other _ _ e] at he; exact .inr ⟨e, he⟩
  refine ⟨hext, fun b h0 hn => ?_, ⟨fun b k l' hk he => ?_, fun b k l' hk he ho => ?_, fun b k l' hk he ho => ?_, fun b l' he => ?_, fun b b2 k k2 l1 l2 hk hk2 he he2 ho ho2 hv hv2 hc => ?_, hR.glob.keep fun c hc => hw.block c (Nat.lt_of_lt_of_le hc hR.base), Nat.le_trans hR.base hw.size⟩,
    ⟨hw.os, hw.tape, hw.output, hw.size, fun c hc _ => hw.block c hc, Nat.le_refl _⟩, fun b k l' h0 he hk ho hv => ?_⟩
  · by_cases e : b = h.blks.length
    · subst e; exact ⟨Nat.le_refl _, by rw [Heap.new_len]; omega⟩
    · rw [Env.upd_other _ _ e] at hn; exact absurd h0 hn
  · rcases Heap.new_get hk with ⟨hlt, hk⟩ | ⟨rfl, rfl⟩
    · rcases hE b l' he with ⟨rfl, _⟩ | ⟨_, he⟩
      · omega
      · exact (hR.blk b k l' hk he).congr hext (hw.block _ (hR.bnd b l' he))
    · rw [Env.upd_same] at he; cases he
      exact hb.congr hext rfl
  · rcases Heap.new_get hk with ⟨hlt, hk⟩ | ⟨rfl, rfl⟩
    · rcases hE b l' he with ⟨rfl, _⟩ | ⟨_, he⟩
      · omega
      · exact hR.low b k l' hk he ho
    · rw [Env.upd_same] at he; cases he; exact Nat.le_trans hR.base hl
  · rcases Heap.new_get hk with ⟨hlt, hk⟩ | ⟨rfl, rfl⟩
    · rcases hE b l' he with ⟨rfl, _⟩ | ⟨_, he⟩
      · omega
      · exact hR.ro b k l' hk he ho
    · cases ho
  · rcases hE b l' he with ⟨rfl, rfl⟩ | ⟨_, he⟩
    · exact hl2
    · exact Nat.lt_of_lt_of_le (hR.bnd b l' he) hw.size
  · rcases Heap.new_get hk with ⟨hlt, hk⟩ | ⟨rfl, rfl⟩ <;> rcases Heap.new_get hk2 with ⟨hlt2, hk2⟩ | ⟨rfl, rfl⟩
    · rcases hE b l1 he with ⟨rfl, _⟩ | ⟨_, he⟩
      · omega
      · rcases hE b2 l2 he2 with ⟨rfl, _⟩ | ⟨_, he2⟩
        · omega
        · exact hR.inj b b2 k k2 l1 l2 hk hk2 he he2 ho ho2 hv hv2 hc
    · rw [Env.upd_same] at he2; cases he2
      rcases hE b l1 he with ⟨rfl, _⟩ | ⟨_, he⟩
      · rfl
      · have := hR.bnd b l1 he; omega
    · rw [Env.upd_same] at he; cases he
      rcases hE b2 l2 he2 with ⟨rfl, _⟩ | ⟨_, he2⟩
      · rfl
      · have := hR.bnd b2 l2 he2; omega
    · rfl
  · rcases hE b l' he with ⟨rfl, rfl⟩ | ⟨_, he⟩
    · exact .inl hl
    · rw [h0] at he; cases he
theorem keysN_at : ∀ {es : List (Value × Value)} {ks : List Nat}, keysN es = some ks → es.length = ks.length ∧ ∀ (i : Nat) e, es[i]? = some e → ∃ n, ks[i]? = some n ∧ e.1 = natV n ∧ n < 2 ^ 64
  | [], ks, h => by cases h; exact ⟨rfl, fun i e he => by simp at he⟩
  | (.int .u64 n, v) :: es, ks, h => by
    simp only [keysN] at h
    split at h
    · rename_i hc
      obtain ⟨ks', h1, rfl⟩ := Option.map_eq_some_iff.1 h
      obtain ⟨h2, h3⟩ := keysN_at h1
      refine ⟨by simp [h2], fun i e he => ?_⟩
      cases i with
      | zero => cases he; exact ⟨n.toNat, rfl, by unfold natV; rw [Int.toNat_of_nonneg hc.1], by omega⟩
      | succ i => exact h3 i e he
    · cases h
theorem keyU (n : Nat) (h : n < 2 ^ 64) : keyOf Tryd.prog 29 (natV n) = some (lU n) := by
  simp [keyOf, kU_under, mapKey, natV, Lit.wf]
  exact ⟨by show (0 : Int) ≤ n; omega, by show (n : Int) ≤ 18446744073709551615; omega⟩
theorem natV_inj {E : Env} {n : Nat} {v : Value} (h : VR E (natV n) v) : v = natV n := h.ground_eq rfl
abbrev RR : Value → Option (DataW Unit × List MemPlace) := fun _ => some (.nil, [])
theorem held_sound (base : Nat) (args : Array Value) (h : Heap) (v : Value) (h' : Heap) (E : Env) (w : World) (args' : Array Value) (hv : heldX args h = some (v, h')) (hR : Rel Tryd.prog base E h w) (ha : ARel E args args') (hfree : Free E h h') :
    Calls Tryd.prog 47 args' w fun e w' => ∃ v' E', e = .returned v' ∧ Post Tryd.prog base E h w E' h' w' ∧ VR E' v v' := by
  obtain ⟨p, r, es, rfl, hl1, hmp, hres⟩ := heldX_h hv
  obtain ⟨l, rfl, hEp⟩ : ∃ l : Loc, args' = #[.pointer (some ⟨l.cb, l.s, none⟩)] ∧ E p = some l := by
    obtain ⟨a'⟩ := args'
    have hs := ha.1
    match a', hs with
    | [x], _ =>
      have := ha.2 0 (by simp) (by simp)
      simp only [List.getElem_toArray, List.getElem_cons_zero] at this
      cases this with
      | ptr he => exact ⟨_, rfl, he⟩
  have hkp : ∃ cs ty ow, h.blks[p]? = some ⟨.cells cs, ty, ow⟩ ∧ cs[2]? = some (.map (some r)) := by
    unfold Heap.load1 Heap.cells? at hl1
    split at hl1
    · rename_i cs hc
      split at hc
      · rename_i cs' ty ow hk
        cases hc
        exact ⟨cs, ty, ow, hk, hl1⟩
      · cases hc
    · cases hl1
  obtain ⟨cs, ty, ow, hk, hc2⟩ := hkp
  obtain ⟨_, hcell, _⟩ := hR.blk p _ l hk hEp
  obtain ⟨v2, hcv, hv2⟩ := hcell 2 _ hc2
  obtain ⟨lr, rfl, hEr⟩ : ∃ lr : Loc, v2 = .map (some lr.cb) ∧ E r = some lr := by
    cases hv2 with
    | map he => exact ⟨_, rfl, he⟩
  obtain ⟨es', clock, hheap, ⟨hlen, her⟩, hst⟩ := map_readS hR hmp hEr
  obtain ⟨ks, hks, hkn, hk15⟩ : ∃ ks, keysN es = some ks ∧ ks.Nodup ∧ ks.length ≤ 15 := by
    rcases hres with ⟨h1, _⟩ | ⟨k, ks, h1, h2, h3, _⟩
    · exact ⟨[], h1, List.nodup_nil, by simp⟩
    · exact ⟨k :: ks, h1, h2, by simp; omega⟩
  obtain ⟨hkl, hka⟩ := keysN_at hks
  have hsz : es'.size = ks.length := by omega
  -- each entry's key is one of the numbers
  have hent : ∀ x ∈ es'.toList, ∃ n, n ∈ ks ∧ x.key = natV n ∧ n < 2 ^ 64 := fun x hx => by
    obtain ⟨i, hi, rfl⟩ := List.getElem_of_mem hx
    have hi' : i < es'.size := by simpa using hi
    obtain ⟨n, h1, h2, h3⟩ := hka i es[i] (List.getElem?_eq_getElem (by omega))
    have := (her i es[i] es'[i] (List.getElem?_eq_getElem (by omega)) (Array.getElem?_eq_getElem hi')).1
    rw [h2] at this
    exact ⟨n, List.mem_of_getElem? h1, by simpa using natV_inj this, h3⟩
  have hkey : ∀ n ∈ ks, ∃ x ∈ es'.toList, x.key = natV n ∧ n < 2 ^ 64 := fun n hn => by
    obtain ⟨i, hi, rfl⟩ := List.getElem_of_mem hn
    obtain ⟨n', h1, h2, h3⟩ := hka i es[i] (List.getElem?_eq_getElem (by omega))
    rw [List.getElem?_eq_getElem hi] at h1; cases h1
    have := (her i es[i] es'[i] (List.getElem?_eq_getElem (by omega)) (Array.getElem?_eq_getElem (by omega))).1
    rw [h2] at this
    exact ⟨es'[i], by simp, natV_inj this, h3⟩
  have hrd : ∀ x ∈ es'.toList, ∃ n, n ∈ ks ∧ x.key = natV n ∧ Go.WideElems.rd Tryd.prog 29 RR x = some (lU n, .nil) := fun x hx => by
    obtain ⟨n, h1, h2, h3⟩ := hent x hx
    exact ⟨n, h1, h2, by unfold Go.WideElems.rd; rw [h2, keyU n h3]; rfl⟩
  have hown : w.ownsMap Tryd.prog 29 RR lr.cb 15 (.map ((es'.toList.map (Go.WideElems.rg Tryd.prog 29 RR)).foldr DataW.insert [])) :=
    ⟨es', clock, hheap, ⟨by rw [hsz]; unfold maxLen; omega, hst, fun x hx => by obtain ⟨n, _, _, h⟩ := hrd x hx; exact ⟨_, h⟩⟩, by omega, rfl⟩
  have hhas : ∀ x : Int, Maps.has (.map ((es'.toList.map (Go.WideElems.rg Tryd.prog 29 RR)).foldr DataW.insert [])) (lU x) = true ↔ x ∈ ks.map Int.ofNat := fun x => by
    rw [Maps.has_eq, List.any_eq_true, List.mem_map]
    constructor
    · rintro ⟨q, hq, hs⟩
      obtain ⟨y, hy, rfl⟩ := List.mem_map.1 (mem_sorted.1 hq)
      obtain ⟨n, h1, _, h2⟩ := hrd y hy
      rw [Go.WideElems.rg_of h2] at hs
      exact ⟨n, h1, by simpa [Lit.sameKey] using hs⟩
    · rintro ⟨n, hn, rfl⟩
      obtain ⟨y, hy, h1, h2⟩ := hkey n hn
      obtain ⟨n', _, h3, h4⟩ := hrd y hy
      have : n' = n := by rw [h1] at h3; unfold natV at h3; injection h3 with _ h3; omega
      subst this
      exact ⟨_, mem_sorted.2 (List.mem_map.2 ⟨y, hy, rfl⟩), by rw [Go.WideElems.rg_of h4]; simp [Lit.sameKey]⟩
  have hN : Maps.size (.map ((es'.toList.map (Go.WideElems.rg Tryd.prog 29 RR)).foldr DataW.insert []) : DataW Unit) ≤ 15 := hown.size_le
  have perm_of : ∀ ns : List Nat, ns.Nodup → (∀ x : Int, x ∈ ns.map Int.ofNat ↔ x ∈ ks.map Int.ofNat) → ns.Perm ks := fun ns hnd hm =>
    (List.perm_ext_iff_of_nodup hnd hkn).2 fun n => by
      have key : ∀ l : List Nat, Int.ofNat n ∈ l.map Int.ofNat ↔ n ∈ l := fun l => ⟨fun h => by
        obtain ⟨a, ha, e⟩ := List.mem_map.1 h
        have : a = n := by injection e
        exact this ▸ ha, fun h => List.mem_map.2 ⟨n, h, rfl⟩⟩
      rw [← key ns, ← key ks]
      exact hm (Int.ofNat n)
  have hSN : ∀ ss : List Int, (ss.Nodup ∧ ∀ x, x ∈ ss ↔ Maps.has (.map ((es'.toList.map (Go.WideElems.rg Tryd.prog 29 RR)).foldr DataW.insert [])) (lU x) = true) → ∃ ns : List Nat, ss = ns.map Int.ofNat ∧ ns.Nodup ∧ ns.length ≤ 15 := by
    rintro ss ⟨hnd, hm⟩
    have h0 : ∀ x ∈ ss, 0 ≤ x := fun x hx => by
      obtain ⟨n, _, rfl⟩ := List.mem_map.1 ((hhas x).1 ((hm x).1 hx))
      exact Int.natCast_nonneg n
    have e1 : ss = (ss.map Int.toNat).map Int.ofNat := by
      rw [List.map_map]
      conv => lhs; rw [← List.map_id ss]
      exact List.map_congr_left fun x hx => by show x = Int.ofNat x.toNat; have := h0 x hx; simp; omega
    have nd2 : (ss.map Int.toNat).Nodup := by
      rw [e1] at hnd
      exact (List.pairwise_map.1 hnd).imp fun h e => h (by rw [e])
    refine ⟨ss.map Int.toNat, e1, nd2, ?_⟩
    rw [(perm_of _ nd2 fun x => by rw [← e1, hm x, hhas x]).length_eq]
    exact hk15
  refine (held_in Z.sort_does w l.cb l.s lr.cb 15 _ hcv hown hN hSN).mono ?_
  rintro e w' ⟨v', ns, rfl, hmem, hnd, hnl, hb, hfin⟩
  have hp := perm_of ns hnd fun x => by rw [hmem x, hhas x]
  have hmg : ns.mergeSort = ks.mergeSort := by
    have tr : ∀ a b c : Nat, decide (a ≤ b) = true → decide (b ≤ c) = true → decide (a ≤ c) = true := fun a b c h1 h2 => by simp at *; omega
    have to : ∀ a b : Nat, (decide (a ≤ b) || decide (b ≤ a)) = true := fun a b => by simp; omega
    refine List.Perm.eq_of_pairwise (le := fun a b => decide (a ≤ b) = true) (fun a b _ _ h1 h2 => by simp at h1 h2; omega) (List.pairwise_mergeSort tr to ns) (List.pairwise_mergeSort tr to ks) (((List.mergeSort_perm ns _).trans hp).trans (List.mergeSort_perm ks _).symm)
  rcases hres with ⟨h1, rfl, rfl⟩ | ⟨k, ks', h1, _, _, rfl, rfl⟩
  · rw [hks] at h1; cases h1
    obtain rfl : ns = [] := hp.eq_nil
    rcases hfin with ⟨_, rfl⟩ | ⟨h2, _⟩
    · exact ⟨_, E, rfl, Post.same hR hb, .sliceNil⟩
    · simp at h2
  · rw [hks] at h1; cases h1
    have hlen2 : ns.length = ks'.length + 1 := by rw [hp.length_eq]; rfl
    rcases hfin with ⟨rfl, _⟩ | ⟨_, g, cap, rfl, hg1, hg2, hcap, hso⟩
    · simp at hlen2
    obtain ⟨m, cur, ce, lo, hi, rfl, hgb, hgs, hfz, hgc⟩ := hso
    have hf : E h.blks.length = none := hfree _ (Nat.le_refl _) (by rw [Heap.new_len]; omega)
    refine ⟨_, E.upd h.blks.length ⟨g, 0, cap, 1⟩, rfl, Post.newB hR hf _ _ ⟨g, 0, cap, 1⟩ hg1 hg2 hb ?_, ?_⟩
    · have hs1 : sizeT Tryd.prog 29 = some 1 := by kernel_rfl
      refine ⟨hs1, fun i x hx => ?_, fun _ => ⟨cur, ce, lo, hi, hgb, hgs, hs1, ?_⟩⟩
      · rw [List.getElem?_map] at hx
        obtain ⟨y, hy, rfl⟩ := Option.map_eq_some_iff.1 hx
        exact ⟨natV y, by rw [Nat.zero_add]; exact hgc i y (by rw [hmg]; exact hy), .int _ _⟩
      · rcases hfz with q | q
        · exact .inl q
        · exact .inr ⟨q, rfl⟩
    · have := VR.slice (E := E.upd h.blks.length ⟨g, 0, cap, 1⟩) (b := h.blks.length) (o := 0) (n := ks'.length + 1) (c := UNK) (c' := cap) (Env.upd_same _ _ _) (.inl rfl) (by omega) (fun _ => by simp)
      rw [hlen2]
      simpa using this
end Go.Am
namespace Go.Am
open Go.Proofs Go.Shelf
set_option maxRecDepth 100000
set_option linter.all false
def tzRen : Go.Shelf.Ren := ⟨fun | 29 => 57 | n => n, fun | 0 => 0 | 3 => 3 | 4 => 4 | 5 => 5 | 22 => 29 | 25 => 79 | 54 => 144 | n => n, fun | 1 => 0 | n => n⟩
theorem tzLay : Go.Proofs.Lays7.n29 Tryd.prog tzRen := { mixed := by kernel_rfl, f29 := Tryd.func57.trans (congrArg some (by kernel_rfl)), t0 := Tryd.underlying0, a0 := Tryd.isAgg0, z0 := Tryd.sizeOf0, v0 := Tryd.zeroValue0, i0 := by kernel_rfl, t3 := Tryd.underlying3, a3 := Tryd.isAgg3, z3 := Tryd.sizeOf3, v3 := Tryd.zeroValue3, i3 := by kernel_rfl, t4 := Tryd.underlying4, a4 := Tryd.isAgg4, z4 := Tryd.sizeOf4, v4 := Tryd.zeroValue4, i4 := by kernel_rfl, t5 := Tryd.underlying5, a5 := Tryd.isAgg5, z5 := Tryd.sizeOf5, v5 := Tryd.zeroValue5, i5 := by kernel_rfl, t22 := Tryd.underlying29, a22 := Tryd.isAgg29, z22 := Tryd.sizeOf29, v22 := Tryd.zeroValue29, i22 := by kernel_rfl, t25 := Tryd.underlying79, a25 := Tryd.isAgg79, z25 := Tryd.sizeOf79, v25 := Tryd.zeroValue79, i25 := by kernel_rfl, t54 := Tryd.underlying144, a54 := Tryd.isAgg144, z54 := Tryd.sizeOf144, g1 := by kernel_rfl }
theorem tz_sound (base : Nat) (args : Array Value) (h : Heap) (v : Value) (h' : Heap) (E : Env) (w : World) (args' : Array Value) (hv : tzX args h = some (v, h')) (hR : Rel Tryd.prog base E h w) (ha : ARel E args args') :
    Calls Tryd.prog 57 args' w fun e w' => ∃ v' E', e = .returned v' ∧ Post Tryd.prog base E h w E' h' w' ∧ VR E' v v' := by
  obtain ⟨n, hn, h0, h1, rfl, rfl⟩ := tzX_h hv
  have hl := ha.list
  rw [hn] at hl
  obtain ⟨x', g1, r1⟩ := hl.2 0 _ rfl
  have h3 := hl.1
  have hargs : args' = #[.int .u64 n] := by
    obtain ⟨l⟩ := args'
    match l, h3, g1 with
    | [a], _, g1 => cases g1; cases r1; rfl
  subst hargs
  obtain ⟨k, rfl⟩ : ∃ k : Nat, n = k := ⟨n.toNat, by omega⟩
  have hT : TabAt (tzRen.g 1) Lib.deBruijn64tab w := fun j hj => by
    obtain ⟨_, gl⟩ := hR.glob 0 _ rfl
    have := gl j (.int .u8 (Lib.deBruijn64tab.getD j 0 : Nat)) (by rw [List.getElem?_map, List.getElem?_eq_getElem hj, List.getD_eq_getElem?_getD, List.getElem?_eq_getElem hj]; rfl)
    exact this
  refine (Any7.bits_TrailingZeros64 tzLay k (by omega) w fun _ => hT).mono ?_
  rintro e w' ⟨rfl, rfl⟩
  exact ⟨_, E, rfl, Post.refl hR, .int _ _⟩
instance : XtOk Tryd.prog := ⟨fun f g hX args h v h' hv => by
    rcases xt_inv hX with ⟨_, rfl⟩ | ⟨_, rfl⟩
    · exact heldX_grow _ _ _ _ hv
    · obtain ⟨_, _, _, _, _, rfl⟩ := tzX_h hv; exact Grow.refl _,
  fun base f g hX args h v h' E w args' hv hR ha hf => by
    rcases xt_inv hX with ⟨rfl, rfl⟩ | ⟨rfl, rfl⟩
    · exact held_sound base args h v h' E w args' hv hR ha hf
    · exact tz_sound base args h v h' E w args' hv hR ha⟩
end Go.Am
