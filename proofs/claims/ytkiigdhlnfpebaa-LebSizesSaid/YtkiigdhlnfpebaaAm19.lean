/- The abstract machine: the marks of what is modified ride along. -/
import Derived.Test.YtkiigdhlnfpebaaAm18
namespace Go.Am
variable {P : Program}

/-- no marks -/
def nm (h : Heap) : Heap := { h with mods := [] }
/-- the marks put ahead of the old ones -/
def am (h' h : Heap) : Heap := { h' with mods := h'.mods ++ h.mods }
@[simp] theorem nm_blks (h : Heap) : (nm h).blks = h.blks := rfl
@[simp] theorem nm_mods (h : Heap) : (nm h).mods = [] := rfl
@[simp] theorem am_blks (h' h : Heap) : (am h' h).blks = h'.blks := rfl
@[simp] theorem am_mods (h' h : Heap) : (am h' h).mods = h'.mods ++ h.mods := rfl
@[simp] theorem am_nm (h : Heap) : am (nm h) h = h := rfl
@[simp] theorem nm_cells? (h : Heap) (b : Nat) : (nm h).cells? b = h.cells? b := rfl
@[simp] theorem nm_loadN (h : Heap) (b o n : Nat) : (nm h).loadN b o n = h.loadN b o n := rfl
@[simp] theorem nm_load1 (h : Heap) (b o : Nat) : (nm h).load1 b o = h.load1 b o := rfl
theorem nm_new (h : Heap) (body : Body) (ty : TypeId) : am ((nm h).new body ty) h = h.new body ty := rfl
theorem nm_put (h : Heap) (b : Nat) (body : Body) : am ((nm h).put b body) h = h.put b body := by
  unfold Heap.put
  simp only [nm_blks]
  split <;> rfl
theorem nm_storeN (h : Heap) (b o : Nat) (vs : List Value) : h.storeN b o vs = ((nm h).storeN b o vs).map (am · h) := by
  unfold Heap.storeN
  simp only [nm_blks]
  split
  · split
    · rw [Option.map_some, nm_put]
    · rfl
  · rfl
def MapM (f : Heap → Option (Value × Heap)) : Prop := ∀ h, f h = (f (nm h)).map fun r => (r.1, am r.2 h)
def MapS (f : Heap → Option Heap) : Prop := ∀ h, f h = (f (nm h)).map (am · h)
theorem MapM.same {f : Heap → Option Value} (hf : ∀ h, f h = f (nm h)) : MapM fun h => (f h).map fun v => (v, h) := fun h => by
  simp only []
  rw [hf h]
  cases f (nm h) <;> simp
theorem MapM.ofS {f : Heap → Option Heap} (hf : MapS f) : MapM fun h => (f h).map fun h' => (undef, h') := fun h => by
  simp only []
  rw [hf h]
  cases f (nm h) <;> simp
theorem allocV_m (t : TypeId) : MapM (allocV P t) := fun h => by
  unfold allocV
  split
  · split
    · rfl
    · rfl
  · rfl
theorem boxV_m (t : TypeId) (v : Value) : MapM (boxV P t v) := fun h => by
  unfold boxV
  split <;> rfl
theorem buildSliceV_m (t : TypeId) (n : Nat) (p : Array (Nat × Value)) : MapM (buildSliceV P t n p) := fun h => by
  unfold buildSliceV
  split
  · split
    · split
      · simp only [Option.map_map]; rfl
      · rfl
    · rfl
  · rfl
theorem makeSliceV_m (t : TypeId) (l c : Value) : MapM (makeSliceV P t l c) := fun h => by
  unfold makeSliceV
  split
  · split
    · split <;> rfl
    · rfl
  · rfl
theorem makeMapV_m : MapM (fun h => some (makeMapV h)) := fun _ => rfl
theorem sameV (v : Option Value) (h : Heap) : v.map (fun v => (v, h)) = (v.map fun v => (v, nm h)).map fun r => (r.1, am r.2 h) := by cases v <;> rfl
theorem loadV_m (t : TypeId) (a : Value) (h : Heap) : loadV P t a h = loadV P t a (nm h) := rfl
theorem mapOf_m (h : Heap) (b : Nat) : mapOf? (nm h) b = mapOf? h b := rfl
theorem storeV_m (t : TypeId) (a v : Value) : MapS (storeV P t a v) := fun h => by
  unfold storeV
  split
  · split
    · split
      · exact nm_storeN h _ _ _
      · rfl
    · rfl
  · rfl
theorem convV_m (s d : TypeId) (x : Value) : MapM (convV P s d x) := fun h => by
  unfold convV
  simp only [nm_blks, nm_loadN]
  split
  · split <;> rfl
  · split
    · simp only [Option.map_map]; rfl
    · rfl
  · split
    · rfl
    · rfl
  · split
    · split
      · rw [Option.map_some, nm_put]
      · rfl
    · rfl
  · rfl
  · rfl
  · split
    · simp only [Option.map_map]; rfl
    · rfl
theorem sliceV_m (t : TypeId) (x : Value) (lo hi mx : Option Value) (h : Heap) : sliceV P t x lo hi mx h = sliceV P t x lo hi mx (nm h) := rfl
theorem lookupV_m (t : TypeId) (m k : Value) (ok : Bool) (h : Heap) : lookupV P t m k ok h = lookupV P t m k ok (nm h) := rfl
theorem mapUpdateV_m (t : TypeId) (m k v : Value) : MapS (mapUpdateV P t m k v) := fun h => by
  unfold mapUpdateV
  simp only [mapOf_m]
  split
  · split
    · split
      · simp only [Option.map_map]
        congr 1
        funext f
        simp only [Function.comp]
        split <;> rw [nm_put]
      · rfl
    · rfl
  · rfl
theorem deleteV_m (t : TypeId) (m k : Value) : MapS (deleteV P t m k) := fun h => by
  unfold deleteV
  simp only [mapOf_m]
  split
  · split
    · split
      · simp only [Option.map_map]
        congr 1
        funext f
        simp only [Function.comp]
        split <;> rw [nm_put]
      · rfl
    · rfl
  · rfl
theorem newsV_m (a b : Nat) (z : Value) (t : Option TypeId) (x : Value) (h : Heap) : newsV P a b z t x (nm h) = newsV P a b z t x h := rfl
theorem appendV_m (t : TypeId) (t1 : Option TypeId) (s x : Value) : MapM (appendV P t t1 s x) := fun h => by
  unfold appendV
  simp only [newsV_m, nm_blks, nm_loadN]
  split
  · split
    · split
      · split
        · split
          · rfl
          · split
            · split
              · split
                · split
                  · simp only [Option.map_some, Option.some.injEq, Prod.mk.injEq, true_and]
                    rw [← nm_put]
                    rfl
                  · rfl
                · rfl
              · rfl
            · split
              · split
                · rw [nm_storeN]; simp only [Option.map_map]; rfl
                · rfl
              · split
                · simp only [Option.map_map]; rfl
                · split <;> rfl
                · rfl
        · rfl
      · rfl
    · rfl
  · rfl
theorem lenV_m (t : TypeId) (x : Value) (h : Heap) : lenV P t x h = lenV P t x (nm h) := rfl
theorem builtinV_m (b : Builtin) (ts : Array TypeId) (args : Array Value) : MapM (builtinV P b ts args) := fun h => by
  unfold builtinV
  split
  · exact MapM.same (fun h => lenV_m _ _ h) h
  · exact appendV_m _ _ _ _ h
  · rw [deleteV_m _ _ _ h]; simp only [Option.map_map]; rfl
  · split
    · simp only [Option.map_map]; rfl
    · rfl
  · split
    · simp only [Option.map_map]; rfl
    · rfl
  · rfl
def EvMods (ev : Ev) : Prop := ∀ f args, MapM (ev f args)
theorem callV_m {ev : Ev} (hev : EvMods ev) (f : Value) (args : Array Value) : MapM (callV P ev f args) := fun h => by
  unfold callV
  split
  · split
    · split
      · rfl
      · split
        · simp only [Option.map_map]; rfl
        · exact hev _ _ h
    · rfl
  · rfl
theorem doOp_m {ev : Ev} (hev : EvMods ev) (o : Oper) (T : Array Value) : MapM (doOp P ev o T) := fun h => by
  unfold doOp
  simp only []
  split
  all_goals first
    | rfl
    | exact allocV_m _ h
    | exact boxV_m _ _ h
    | exact buildSliceV_m _ _ _ h
    | exact makeSliceV_m _ _ _ h
    | exact convV_m _ _ _ h
    | exact MapM.ofS (storeV_m _ _ _) h
    | exact MapM.ofS (mapUpdateV_m _ _ _ _) h
    | exact sameV _ h
    | (split <;> first | rfl | exact builtinV_m _ _ _ h | exact callV_m hev _ _ h)
theorem callBody_m (ev : Ev) (lp : Run → Run) : EvMods (callBody P ev lp) := fun f args h => by
  unfold callBody
  split
  · split
    · simp only [nm]
      split
      · simp only [Option.map_map]; congr 1; funext v; simp [am]; rfl
      · simp only [Option.map_map]; congr 1; funext v; simp [am]; rfl
      · rfl
    · rfl
  · rfl
theorem evC_m : EvMods (evC P) := fun f args h => by
  have := callBody_m (P := P) (evC P) loopL f args h
  rw [← evC_eq, ← evC_eq] at this
  exact this
end Go.Am
