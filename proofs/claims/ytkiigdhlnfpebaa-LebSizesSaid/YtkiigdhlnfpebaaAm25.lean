/- The abstract machine: a row over any plain arguments is closed. -/
import Derived.Test.YtkiigdhlnfpebaaAm24
import Derived.WideShapes
import Derived.Laws.Cover2
import Derived.ChangeReads
import Derived.ChangeOld
namespace Go.Am
open Go.RowKit Go.ChangeShapes Go.WideShapes
variable {P : Program} {H : Type} {enc : TypeId × Value → H} {W W' : World}
def isStruct (P : Program) (t : TypeId) : Bool := match P.underlying t with | some (.struct _) => true | _ => false
/-- an argument, as the machine reads it -/
def Rd (P : Program) (h : Heap) (t : TypeId) (v : Value) (d : DT) : Prop := (∃ f, Reads P h f t v.cells.toList d) ∧ ((isStruct P t = true ∧ ∃ cs, v = .agg cs) ∨ v.cells = #[v])
theorem Rd.ext {h h' : Heap} (e : HExt h h') {t : TypeId} {v : Value} {d : DT} (r : Rd P h t v d) : Rd P h' t v d := let ⟨⟨f, a⟩, b⟩ := r; ⟨⟨f, a.ext e⟩, b⟩
inductive RdAll (P : Program) (h : Heap) : List TypeId → List Value → List DT → Prop
  | nil : RdAll P h [] [] []
  | cons {t : TypeId} {v : Value} {d : DT} {ts : List TypeId} {vs : List Value} {ds : List DT} : Rd P h t v d → RdAll P h ts vs ds → RdAll P h (t :: ts) (v :: vs) (d :: ds)
theorem simple_cells {f : Nat} {t : TypeId} {v : Value} {base : Nat} (hs : simpleT P f t = true) (hval : Value.okWide P W .any base t v) :
    (isStruct P t = true ∧ ∃ cs, v = .agg cs) ∨ (v.cells = #[v] ∧ ∀ E x, VR E x v → x.cells = #[x]) := by
  cases f with
  | zero => simp [simpleT] at hs
  | succ f =>
    unfold simpleT at hs
    split at hs
    · rename_i k hu; obtain ⟨n, rfl⟩ := okWide_int hu hval; exact .inr ⟨rfl, fun E x h => by cases h <;> rfl⟩
    · rename_i hu; obtain ⟨n, rfl⟩ := okWide_bool hu hval; exact .inr ⟨rfl, fun E x h => by cases h <;> rfl⟩
    · rename_i k hu; obtain ⟨n, rfl⟩ := okWide_float hu hval; exact .inr ⟨rfl, fun E x h => by cases h <;> rfl⟩
    · rename_i hu; obtain ⟨n, rfl⟩ := okWide_string hu hval; exact .inr ⟨rfl, fun E x h => by cases h <;> rfl⟩
    · rename_i e hu; obtain ⟨a, l, c, rfl⟩ := okWide_slice hu hval; exact .inr ⟨rfl, fun E x h => by cases h <;> rfl⟩
    · rename_i fs hu; obtain ⟨cs, rfl, _⟩ := okWide_struct hu hval; exact .inl ⟨by unfold isStruct; rw [hu], cs, rfl⟩
    · cases hs
theorem All2.toARel {E : Env} {l m : List Value} (h : All2 (VR E) l m) : ∀ (i : Nat) (h1 : i < l.toArray.size) (h2 : i < m.toArray.size), VR E l.toArray[i] m.toArray[i] := by
  intro i h1 h2
  obtain ⟨b, hb, hv⟩ := h.get (i := i) (a := l[i]'(by simpa using h1)) (List.getElem?_eq_getElem (by simpa using h1))
  have : b = m[i]'(by simpa using h2) := by
    rw [List.getElem?_eq_getElem (by simpa using h2)] at hb
    exact (Option.some.inj hb).symm
  subst this
  simpa using hv
theorem simpleT_mono : ∀ {f : Nat} {t : TypeId}, simpleT P f t = true → ∀ {g : Nat}, f ≤ g → simpleT P g t = true := by
  intro f
  induction f with
  | zero => intro t h; simp [simpleT] at h
  | succ f ih =>
    intro t h g hg
    obtain ⟨g, rfl⟩ : ∃ j, g = j + 1 := ⟨g - 1, by omega⟩
    unfold simpleT at h ⊢
    split <;> simp_all only
    · simp only [Bool.and_eq_true] at h ⊢
      exact ⟨h.1, ih h.2 (by omega)⟩
    · simp only [Bool.and_eq_true, List.all_eq_true] at h ⊢
      exact ⟨h.1, fun x hx => ih (h.2 x hx) (by omega)⟩
theorem abs_args {base : Nat} : ∀ (ts : List TypeId) (vs : List Value) (ds : List (DataW H)) (ps : List MemPlace), ts.all (simpleT P 8) = true → (∀ (j : Nat) t v, ts[j]? = some t → vs[j]? = some v → Value.okWide P W .any base t v) →
    DataW.TrodAll enc P W 0 (fun _ => true) true ts vs ds ps → ∀ E h, Ctx P E h W →
    ∃ (vs' : List Value) (h1 : Heap) (E1 : Env) (dd : List DT), Ctx P E1 h1 W ∧ Ext E E1 ∧ HExt h h1 ∧ All2 (VR E1) vs' vs ∧ RdAll P h1 ts vs' dd
  | [], [], [], ps, _, _, _, E, h, c => ⟨[], h, E, [], c, Ext.refl _, HExt.refl _, .nil, .nil⟩
  | t :: ts, v :: vs, d :: ds, ps, hs, hval, hA, E, h, c => by
    obtain ⟨p, q, ⟨fuel, hf⟩, hr, rfl⟩ := hA
    simp only [List.all_cons, Bool.and_eq_true] at hs
    have hf' := DataW.trod_le (Nat.le_max_left fuel 8) hf
    obtain ⟨cs', h1, E1, d1, k1, e1, g1, v1, r1⟩ := abs_trod _ _ _ _ (simpleT_mono hs.1 (Nat.le_max_right fuel 8)) hf' E h c
    obtain ⟨vs', h2, E2, dd, k2, e2, g2, v2, r2⟩ := abs_args ts vs ds q hs.2 (fun j t' v' ht hv => hval (j + 1) t' v' ht hv) hr E1 h1 k1
    have : ∃ v', VR E1 v' v ∧ v'.cells.toList = cs' ∧ ((isStruct P t = true ∧ ∃ cs, v' = .agg cs) ∨ v'.cells = #[v']) := by
      rcases simple_cells hs.1 (hval 0 t v rfl rfl) with ⟨hst, cs, rfl⟩ | ⟨hc, hx⟩
      · refine ⟨.agg cs'.toArray, .agg ?_ ?_, by simp [Value.cells], .inl ⟨hst, _, rfl⟩⟩
        · have := v1.len; simpa [Value.cells] using this
        · have := v1.toARel
          simpa [Value.cells] using this
      · rw [hc] at v1
        cases v1 with
        | cons a b =>
          cases b
          exact ⟨_, a, by rw [hx _ _ a], .inr (hx _ _ a)⟩
    obtain ⟨v', hv', hcs, hsh⟩ := this
    exact ⟨v' :: vs', h2, E2, d1 :: dd, k2, e1.trans e2, g1.trans g2, .cons (hv'.mono e2) v2, .cons ⟨⟨_, by rw [hcs]; exact r1.ext g2⟩, hsh⟩ r2⟩
theorem args_stay (hl : laidOutB P = true) (hb : Below W.heap.size W W') : ∀ {ts : List TypeId} {vs : List Value} {ds : List (DataW H)} {ps : List MemPlace}, ts.all (fun t => P.readableRec t && decide (t < P.types.size)) = true →
    DataW.TrodAll enc P W 0 (fun _ => true) true ts vs ds ps → (∀ x ∈ ps, x.block < W.heap.size) → DataW.TrodAll enc P W' 0 (fun b => decide (b < W.heap.size)) true ts vs ds ps
  | [], [], [], ps, _, h, _ => h
  | t :: ts, v :: vs, d :: ds, ps, ha, hA, hlt => by
    obtain ⟨p, q, h0, hr, rfl⟩ := hA
    simp only [List.all_cons, Bool.and_eq_true, decide_eq_true_eq] at ha
    exact ⟨p, q, Below.trod hl ha.1.1 ha.1.2 h0 hb (fun x hx => hlt x (by simp [hx])), args_stay hl hb ha.2 hr (fun x hx => hlt x (by simp [hx])), rfl⟩
theorem law_calls (hm : P.follows .mixedOrders = true) {f : FuncId} {base : Nat} {ts : List TypeId} {args : Array Value} {ds : List (DataW H)} {ps : List MemPlace} (hs : ts.all (simpleT P 8) = true)
    (hval : ∀ (j : Nat) t v, ts[j]? = some t → args.toList[j]? = some v → Value.okWide P W .any base t v) (hA : DataW.TrodAll enc P W 0 (fun _ => true) true ts args.toList ds ps)
    (law : ∀ (h : Heap) (vs : List Value) (dd : List DT), RdAll P h ts vs dd → ∃ h', evC P f vs.toArray h = some (.bool true, h')) :
    Calls P f args W fun e W' => e = .returned (.bool true) ∧ Below W.heap.size W W' := by
  obtain ⟨vs', h1, E1, dd, k1, _, _, v1, r1⟩ := abs_args ts args.toList ds ps hs hval hA noE ⟨[], []⟩ (Ctx.none W)
  obtain ⟨h', he⟩ := law h1 vs' dd r1
  refine calls_true hm he k1.rel ⟨by have := v1.len; simpa using this, ?_⟩ k1.out
  have := v1.toARel
  simpa using this
theorem RdAll.nil_inv {h : Heap} {vs : List Value} {ds : List DT} (r : RdAll P h [] vs ds) : vs = [] ∧ ds = [] := by cases r; exact ⟨rfl, rfl⟩
theorem RdAll.cons_inv {h : Heap} {t : TypeId} {ts : List TypeId} {vs : List Value} {ds : List DT} (r : RdAll P h (t :: ts) vs ds) : ∃ v d vs' ds', vs = v :: vs' ∧ ds = d :: ds' ∧ Rd P h t v d ∧ RdAll P h ts vs' ds' := by
  cases r with | cons a b => exact ⟨_, _, _, _, rfl, rfl, a, b⟩
theorem Rd.one {h : Heap} {t : TypeId} {v : Value} {d : DT} (r : Rd P h t v d) (hs : isStruct P t = false) : ∃ f, Reads P h f t [v] d := by
  obtain ⟨⟨f, a⟩, b⟩ := r
  rcases b with ⟨b, _⟩ | b
  · rw [hs] at b; cases b
  · rw [b] at a; exact ⟨f, a⟩
theorem wf_nat {k : IntKind} {n : Int} (hk : k.signed = false) (hw : (Lit.int k n).wf = true) : 0 ≤ n ∧ n < 2 ^ k.bits := by
  have : k.min ≤ n ∧ n ≤ k.max := by simpa [Lit.wf] using hw
  cases k <;> simp_all [IntKind.min, IntKind.max, IntKind.signed, IntKind.bits] <;> omega
theorem wf_i64 {n : Int} (hw : (Lit.int .i64 n).wf = true) : -2 ^ 63 ≤ n ∧ n < 2 ^ 63 := by
  have : IntKind.i64.min ≤ n ∧ n ≤ IntKind.i64.max := by simpa [Lit.wf] using hw
  simp [IntKind.min, IntKind.max, IntKind.signed, IntKind.bits] at this; omega
/-- a number -/
theorem Rd.int {h : Heap} {t : TypeId} {v : Value} {d : DT} (r : Rd P h t v d) {k : IntKind} (hu : P.underlying t = some (.int k)) : ∃ n, v = .int k n ∧ (Lit.int k n).wf = true := by
  obtain ⟨f, a⟩ := r.one (by unfold isStruct; rw [hu])
  cases f with
  | zero => exact a.elim
  | succ f =>
    unfold Reads at a
    rw [hu] at a
    cases d <;> simp at a
    exact ⟨_, a.1, a.2⟩
theorem Rd.u64 {h : Heap} {t : TypeId} {v : Value} {d : DT} (r : Rd P h t v d) (hu : P.underlying t = some (.int .u64)) : ∃ n : Nat, v = .int .u64 (n : Int) ∧ n < 2 ^ 64 := by
  obtain ⟨n, rfl, hw⟩ := r.int hu
  have := wf_nat rfl hw
  simp only [IntKind.bits] at this
  exact ⟨n.toNat, by rw [Int.toNat_of_nonneg this.1], by omega⟩
theorem Rd.u8 {h : Heap} {t : TypeId} {v : Value} {d : DT} (r : Rd P h t v d) (hu : P.underlying t = some (.int .u8)) : ∃ n : UInt8, v = byteV n := by
  obtain ⟨n, rfl, hw⟩ := r.int hu
  have := wf_nat rfl hw
  simp only [IntKind.bits] at this
  refine ⟨UInt8.ofNat n.toNat, ?_⟩
  unfold byteV
  congr 1
  simp
  omega
theorem Rd.i64 {h : Heap} {t : TypeId} {v : Value} {d : DT} (r : Rd P h t v d) (hu : P.underlying t = some (.int .i64)) : ∃ n : Int, v = .int .i64 n ∧ -2 ^ 63 ≤ n ∧ n < 2 ^ 63 := by
  obtain ⟨n, rfl, hw⟩ := r.int hu
  exact ⟨n, rfl, wf_i64 hw⟩
/-- a slice -/
theorem Rd.slice {h : Heap} {t e : TypeId} {v : Value} {d : DT} (r : Rd P h t v d) (hu : P.underlying t = some (.slice e)) :
    ∃ f l css, d = .slice l ∧ Row h (P.cellsOf e) v l.length css.flatten ∧ All2 (fun c d => c.length = P.cellsOf e ∧ Reads P h f e c d) css l ∧ l.length ≤ maxLen := by
  obtain ⟨f, a⟩ := r.one (by unfold isStruct; rw [hu])
  cases f with
  | zero => exact a.elim
  | succ f =>
    unfold Reads at a
    rw [hu] at a
    cases d <;> simp at a
    obtain ⟨css, a1, a2, a3⟩ := a
    exact ⟨f, _, css, rfl, a1, a2, a3⟩
theorem reads_int {h : Heap} {e : TypeId} {k : IntKind} (hu : P.underlying e = some (.int k)) {f : Nat} {cs : List Value} {d : DT} (x : Reads P h f e cs d) : ∃ n, d = .int n ∧ cs = [.int k n] ∧ (Lit.int k n).wf = true := by
  cases f with
  | zero => exact x.elim
  | succ f =>
    unfold Reads at x
    rw [hu] at x
    cases d <;> simp at x
    exact ⟨_, rfl, x.1, x.2⟩
theorem reads_bool {h : Heap} {e : TypeId} (hu : P.underlying e = some .bool) {f : Nat} {cs : List Value} {d : DT} (x : Reads P h f e cs d) : ∃ n, d = .bool n ∧ cs = [.bool n] := by
  cases f with
  | zero => exact x.elim
  | succ f =>
    unfold Reads at x
    rw [hu] at x
    cases d <;> simp at x
    exact ⟨_, rfl, x⟩
theorem reads_float {h : Heap} {e : TypeId} {k : FloatKind} (hu : P.underlying e = some (.float k)) {f : Nat} {cs : List Value} {d : DT} (x : Reads P h f e cs d) : ∃ n, d = .float n ∧ cs = [.float k n] ∧ (Lit.float k n).wf = true := by
  cases f with
  | zero => exact x.elim
  | succ f =>
    unfold Reads at x
    rw [hu] at x
    cases d <;> simp at x
    exact ⟨_, rfl, x.1, x.2⟩
theorem reads_slice {h : Heap} {t e : TypeId} (hu : P.underlying t = some (.slice e)) {f : Nat} {cs : List Value} {d : DT} (x : Reads P h f t cs d) :
    ∃ g l v css, d = .slice l ∧ cs = [v] ∧ Row h (P.cellsOf e) v l.length css.flatten ∧ All2 (fun c d => c.length = P.cellsOf e ∧ Reads P h g e c d) css l ∧ l.length ≤ maxLen := by
  cases f with
  | zero => exact x.elim
  | succ f =>
    unfold Reads at x
    rw [hu] at x
    cases d <;> simp at x
    obtain ⟨v, a1, css, a2, a3, a4⟩ := x
    exact ⟨f, _, v, css, rfl, a1, a2, a3, a4⟩
theorem reads_struct {h : Heap} {t : TypeId} {fs : Array Field} (hu : P.underlying t = some (.struct fs)) {f : Nat} {cs : List Value} {d : DT} (x : Reads P h f t cs d) :
    ∃ g l, d = .agg l ∧ cs.length = P.cellsOf t ∧ All2 (fun (x : Field) d => Reads P h g x.type ((cs.drop x.offset).take (P.cellsOf x.type)) d) fs.toList l := by
  cases f with
  | zero => exact x.elim
  | succ f =>
    unfold Reads at x
    rw [hu] at x
    cases d <;> simp at x
    exact ⟨f, _, rfl, x.1, x.2⟩
theorem reads_ints {h : Heap} {e : TypeId} {k : IntKind} (hu : P.underlying e = some (.int k)) {f : Nat} {css : List (List Value)} {l : List DT} (a : All2 (fun c d => c.length = P.cellsOf e ∧ Reads P h f e c d) css l) :
    ∃ zs : List Int, zs.length = l.length ∧ css.flatten = zs.map (Value.int k) ∧ ∀ z ∈ zs, (Lit.int k z).wf = true := by
  induction a with
  | nil => exact ⟨[], rfl, rfl, by simp⟩
  | cons x _ ih =>
    obtain ⟨zs, h1, h2, h3⟩ := ih
    obtain ⟨n, rfl, rfl, hw⟩ := reads_int hu x.2
    refine ⟨n :: zs, by simp [h1], by simp [h2], fun z hz => ?_⟩
    rcases List.mem_cons.1 hz with rfl | hz
    · exact hw
    · exact h3 z hz
theorem Rd.ints {h : Heap} {t e : TypeId} {v : Value} {d : DT} (r : Rd P h t v d) (hu : P.underlying t = some (.slice e)) {k : IntKind} (he : P.underlying e = some (.int k)) (hc : P.cellsOf e = 1) :
    ∃ zs : List Int, Row h 1 v zs.length (zs.map (Value.int k)) ∧ (∀ z ∈ zs, (Lit.int k z).wf = true) ∧ zs.length ≤ maxLen := by
  obtain ⟨f, l, css, rfl, h1, h2, h3⟩ := r.slice hu
  obtain ⟨zs, a, b, c⟩ := reads_ints he h2
  rw [hc, b, ← a] at h1
  exact ⟨zs, h1, c, by omega⟩
theorem ints_bytes (zs : List Int) (hz : ∀ z ∈ zs, (Lit.int .u8 z).wf = true) : ∃ bs : List UInt8, bs.length = zs.length ∧ zs.map (Value.int .u8) = bs.map byteV := by
  induction zs with
  | nil => exact ⟨[], rfl, rfl⟩
  | cons z zs ih =>
    obtain ⟨bs, h1, h2⟩ := ih fun y hy => hz y (by simp [hy])
    have := wf_nat rfl (hz z (by simp))
    simp only [IntKind.bits] at this
    refine ⟨UInt8.ofNat z.toNat :: bs, by simp [h1], ?_⟩
    simp only [List.map_cons, h2]
    congr 1
    unfold byteV
    congr 1
    simp
    omega
theorem Rd.bytes {h : Heap} {t e : TypeId} {v : Value} {d : DT} (r : Rd P h t v d) (hu : P.underlying t = some (.slice e)) (he : P.underlying e = some (.int .u8)) (hc : P.cellsOf e = 1) :
    ∃ bs : List UInt8, Row h 1 v bs.length (bs.map byteV) ∧ bs.length ≤ maxLen := by
  obtain ⟨zs, h1, h2, h3⟩ := r.ints hu he hc
  obtain ⟨bs, a, b⟩ := ints_bytes zs h2
  rw [b, ← a] at h1
  exact ⟨bs, h1, by omega⟩
def u64V (n : Nat) : Value := .int .u64 n
theorem ints_u64 (zs : List Int) (hz : ∀ z ∈ zs, (Lit.int .u64 z).wf = true) : ∃ bs : List Nat, bs.length = zs.length ∧ zs.map (Value.int .u64) = bs.map u64V ∧ ∀ b ∈ bs, b < 2 ^ 64 := by
  induction zs with
  | nil => exact ⟨[], rfl, rfl, by simp⟩
  | cons z zs ih =>
    obtain ⟨bs, h1, h2, h3⟩ := ih fun y hy => hz y (by simp [hy])
    have := wf_nat rfl (hz z (by simp))
    simp only [IntKind.bits] at this
    refine ⟨z.toNat :: bs, by simp [h1], ?_, fun b hb => ?_⟩
    · simp only [List.map_cons, h2]
      congr 1
      unfold u64V
      congr 1
      omega
    · rcases List.mem_cons.1 hb with rfl | hb
      · omega
      · exact h3 b hb
theorem Rd.u64s {h : Heap} {t e : TypeId} {v : Value} {d : DT} (r : Rd P h t v d) (hu : P.underlying t = some (.slice e)) (he : P.underlying e = some (.int .u64)) (hc : P.cellsOf e = 1) :
    ∃ bs : List Nat, Row h 1 v bs.length (bs.map u64V) ∧ (∀ b ∈ bs, b < 2 ^ 64) ∧ bs.length ≤ maxLen := by
  obtain ⟨zs, h1, h2, h3⟩ := r.ints hu he hc
  obtain ⟨bs, a, b, c⟩ := ints_u64 zs h2
  rw [b, ← a] at h1
  exact ⟨bs, h1, c, by omega⟩
theorem trodAll_len {sp : Nat → Bool} {held : Bool} {base : Nat} : ∀ {ts : List TypeId} {vs : List Value} {ds : List (DataW H)} {ps : List MemPlace}, DataW.TrodAll enc P W base sp held ts vs ds ps → ds.length = ts.length
  | [], [], [], _, _ => rfl
  | t :: ts, v :: vs, d :: ds, ps, ⟨_, _, _, h, _⟩ => by simp [trodAll_len h]
end Go.Am
