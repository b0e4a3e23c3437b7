/- The abstract machine: rows made and cut, places, tests, conversions. -/
import Derived.Test.YtkiigdhlnfpebaaAm4
set_option linter.unusedSimpArgs false
set_option linter.unusedVariables false
namespace Go.Am
variable {P : Program} {base : Nat} {E : Env} {h : Heap} {w : World}

theorem makeSliceV_run (hR : Rel P base E h w) (hf : E h.blks.length = none) {t : TypeId} {len len' cap cap' v : Value} {h' : Heap} (hv : makeSliceV P t len cap h = some (v, h')) (hl : VR E len len') (hc : VR E cap cap') :
    ∃ E' w' v', (Instr.makeSlice t len' cap').run P w = .ok v' w' ∧ Post P base E h w E' h' w' ∧ VR E' v v' := by
  unfold makeSliceV at hv
  split at hv
  · rename_i elem l c h1 h2 h3
    obtain ⟨k1, rfl⟩ := natOf?_inv h2 hl
    obtain ⟨k2, rfl⟩ := natOf?_inv h3 hc
    split at hv
    · rename_i size bytes z h4 h5 h6
      split at hv
      · rename_i hcond
        obtain ⟨c1, c2, c3, c4, c5, c6⟩ := hcond
        simp only [Option.some.injEq, Prod.mk.injEq] at hv
        obtain ⟨rfl, rfl⟩ := hv
        obtain ⟨i, h7, h8⟩ := run_bytesT h5 w
        have wl : IntKind.i64.wrap (l : Int) = l := by unfold IntKind.wrap; simp [IntKind.signed, IntKind.bits]; omega
        have wc : IntKind.i64.wrap (c : Int) = c := by unfold IntKind.wrap; simp [IntKind.signed, IntKind.bits]; omega
        have hle : ¬ ((i.bytes : Int) * (c : Int) > 2 ^ 48) := by rw [h8]; exact_mod_cast Nat.not_lt.2 c2
        refine ⟨_, { w with heap := w.heap.push (.cells ((Array.range (c * size)).map (z.cells[· % z.cells.size]!)) elem) }, .slice (some ⟨w.heap.size, 0, none⟩) l c, ?_,
          row_new (rest := []) hR hf h4 (range_zero_rel c6 (by omega) _).list _ (pushed w (.cells ((Array.range (c * size)).map (z.cells[· % z.cells.size]!)) elem) w.drawn) 0 0 (by rw [List.append_nil, Array.toArray_toList]; exact pushed_get _ _) (by simp), ?_⟩
        · simp only [Instr.makeSlice, Sem.run_bind, run_under h1, Result.andThen_ok, asInt, asIntOf, Sem.run_pure, h7, wl, wc]
          have hle' : ¬ (281474976710656 < (i.bytes : Int) * (c : Int)) := fun h => hle (by simpa using h)
          by_cases h0 : c * size = 0
          · have e2 : ∀ g : Nat → Value, (Array.range 0).map g = #[] := fun g => by simp
            simp [run_sizeT h4, h0, newRow]
            rw [if_neg (by rintro ((h | h) | h) <;> first | (exact hle' h) | omega), e2, e2]
          · simp [run_sizeT h4, h0, run_zeroT h6, newRow]
            intro hbad
            exact absurd hbad (by rintro (((h | h) | h) | h) <;> first | exact hle' h | omega)
        · refine VR.new_slice (l := ⟨w.heap.size, 0, _, size⟩) (Env.upd_same _ _ _) rfl (.inr ⟨rfl, lt_UNK c3⟩) c1 (fun _ => by simp)
      · cases hv
    · cases hv
  · cases hv
theorem VR.slice_inv {b o n c : Nat} {x' : Value} (h : VR E (.slice (some ⟨b, o, none⟩) n c) x') :
    (∃ l c', E b = some l ∧ (c = UNK ∨ c = c' ∧ c ≠ UNK) ∧ n ≤ c' ∧ (c = UNK → l.s + o + c' * l.es ≤ l.sz) ∧ x' = .slice (some ⟨l.cb, l.s + o, none⟩) n c') ∨ (n = 0 ∧ (c = UNK ∨ c = 0) ∧ ∃ a', x' = .slice (some a') 0 0) := by
  cases h with
  | slice h1 h2 h3 h4 => exact .inl ⟨_, _, h1, h2, h3, h4, rfl⟩
  | sliceEmpty h => exact .inr ⟨rfl, h, _, rfl⟩
theorem esOf_eq (hR : Rel P base E h w) {b n : Nat} {l : Loc} (he : esOf P h b = some n) (hl : E b = some l) : l.es = n := by
  unfold esOf at he
  split at he
  · rename_i cs ty own hk
    have := (hR.blk b _ l hk hl).1
    rw [he] at this; simpa using this.symm
  · rename_i ty own hk
    have : sizeT P ty = some l.es := hR.blk b _ l hk hl
    rw [he] at this; simpa using this.symm
  · cases he

theorem run_sliceBound {x : Value} {i y : Nat} {k : IntKind} {code : BoundsCode} (hx : x = .int k i) (hy : i ≤ y) (w : World) : (Instr.sliceBound x y code).run P w = .ok i w := by
  subst hx
  simp only [Instr.sliceBound, asIntOf, Sem.run_bind, Sem.run_pure, Result.andThen_ok]
  rw [if_pos ⟨by omega, by omega⟩]
  simp
/-- an optional operand, both sides -/
def ORel (E : Env) : Option Value → Option Value → Prop
  | none, none => True
  | some x, some y => VR E x y
  | _, _ => False
theorem elim_inv {x x' : Option Value} {d i : Nat} (h : x.elim (some d) natOf? = some i) (hr : ORel E x x') : (x = none ∧ x' = none ∧ i = d) ∨ (∃ v k, x = some v ∧ x' = some (.int k i)) := by
  cases x with
  | none => cases x' with
    | none => simp at h; exact .inl ⟨rfl, rfl, h.symm⟩
    | some y => exact hr.elim
  | some v => cases x' with
    | none => exact hr.elim
    | some y => obtain ⟨k, rfl⟩ := natOf?_inv h hr; exact .inr ⟨v, k, rfl, rfl⟩
theorem run_sliceBounds {lo hi mx : Option Value} {l h m len cap : Nat} (b : Bool) (hl : lo = none ∧ l = 0 ∨ ∃ k, lo = some (.int k l)) (hh : hi = none ∧ h = len ∨ ∃ k, hi = some (.int k h)) (hm : mx = none ∧ m = cap ∨ ∃ k, mx = some (.int k m))
    (c1 : l ≤ h) (c2 : h ≤ m) (c3 : m ≤ cap) (c4 : mx.isSome → hi.isSome) (w : World) : (Instr.sliceBounds b len cap lo hi mx).run P w = .ok (l, h, m) w := by
  rcases hm with ⟨rfl, rfl⟩ | ⟨km, rfl⟩
  · rcases hh with ⟨rfl, rfl⟩ | ⟨kh, rfl⟩ <;> rcases hl with ⟨rfl, rfl⟩ | ⟨kl, rfl⟩ <;>
      simp [Instr.sliceBounds, run_sliceBound (P := P) rfl c1, run_sliceBound (P := P) rfl c2]
  · rcases hh with ⟨rfl, rfl⟩ | ⟨kh, rfl⟩
    · simp at c4
    · rcases hl with ⟨rfl, rfl⟩ | ⟨kl, rfl⟩ <;>
      simp [Instr.sliceBounds, run_sliceBound (P := P) rfl c1, run_sliceBound (P := P) rfl c2, run_sliceBound (P := P) rfl c3]

theorem sliceV_run (hR : Rel P base E h w) {t : TypeId} {x x' v : Value} {lo hi mx lo' hi' mx' : Option Value} (hv : sliceV P t x lo hi mx h = some v) (hx : VR E x x') (hlo : ORel E lo lo') (hhi : ORel E hi hi') (hmx : ORel E mx mx') :
    ∃ v', (Instr.sliceAt t x' lo' hi' mx').run P w = .ok v' w ∧ VR E v v' := by
  unfold sliceV at hv
  split at hv
  · rename_i elem a len cap h1
    split at hv
    · rename_i size l hh m h2 h3 h4 h5
      have hl := elim_inv h3 hlo
      have hh' := elim_inv h4 hhi
      have hm := elim_inv h5 hmx
      have gl : lo' = none ∧ l = 0 ∨ ∃ k, lo' = some (.int k l) := hl.elim (fun h => .inl ⟨h.2.1, h.2.2⟩) (fun ⟨v, k, h⟩ => .inr ⟨k, h.2⟩)
      have gh : hi' = none ∧ hh = len ∨ ∃ k, hi' = some (.int k hh) := hh'.elim (fun h => .inl ⟨h.2.1, h.2.2⟩) (fun ⟨v, k, h⟩ => .inr ⟨k, h.2⟩)
      have go : ∀ (a' : Option Addr) (c' m' : Nat), (mx' = none ∧ m' = c' ∨ ∃ k, mx' = some (.int k m')) → l ≤ hh → hh ≤ m' → m' ≤ c' → (mx'.isSome → hi'.isSome) → x' = .slice a' len c' →
          (Instr.sliceAt t x' lo' hi' mx').run P w = .ok (.slice (if m' = l then a' else a'.map (·.add (l * size))) (hh - l) (m' - l)) w := by
        intro a' c' m' gm c1 c2 c3 c4 hx'
        subst hx'
        simp only [Instr.sliceAt, Sem.run_bind, run_under h1, Result.andThen_ok, Instr.slice, run_sliceBounds (P := P) true gl gh gm c1 c2 c3 c4, run_sizeT h2, Sem.run_pure]
      -- the address, where the capacity is known
      have kn : ∀ (b o m' : Nat) (lc : Loc) , E b = some lc → hh ≤ m' → m' < UNK → VR E (.slice (some (if m' = l then ⟨b, o, none⟩ else ⟨b, o + l * size, none⟩)) (hh - l) (m' - l)) (.slice (if m' = l then some ⟨lc.cb, lc.s + o, none⟩ else (some ⟨lc.cb, lc.s + o, none⟩ : Option Addr).map (·.add (l * size))) (hh - l) (m' - l)) := by
        intro b o m' lc e1 c2 c3
        have hU : m' - l ≠ UNK := by omega
        by_cases hc : m' = l
        · rw [if_pos hc, if_pos hc]
          exact .slice e1 (.inr ⟨rfl, hU⟩) (by omega) (fun h => absurd h hU)
        · rw [if_neg hc, if_neg hc]
          simp only [Option.map_some, add_none]
          rw [Nat.add_assoc]
          exact .slice e1 (.inr ⟨rfl, hU⟩) (by omega) (fun h => absurd h hU)
      split at hv
      · rename_i hsome
        rcases hm with ⟨rfl, _, _⟩ | ⟨u, k, rfl, rfl⟩
        · simp at hsome
        · split at hv
          · rename_i hcond
            obtain ⟨c1, c2, c3, c4, c5⟩ := hcond
            have c4' : hi'.isSome := by
              rcases hh' with ⟨rfl, _, _⟩ | ⟨_, _, _, rfl⟩
              · simp at c4
              · rfl
            split at hv
            · rename_i b o
              simp only [Option.some.injEq] at hv
              subst hv
              rcases hx.slice_inv with ⟨lc, c', e1, e2, e3, e4, rfl⟩ | ⟨rfl, e2, a', rfl⟩
              · have hmc : m ≤ c' := by
                  rcases c5 with ⟨e, c5⟩ | ⟨e, c5⟩ <;> rcases e2 with e' | ⟨e', _⟩ <;> first | omega | exact absurd e' e
                exact ⟨_, go (some ⟨lc.cb, lc.s + o, none⟩) c' m (.inr ⟨k, rfl⟩) c1 c2 hmc (fun _ => c4') rfl, kn b o m lc e1 c2 c3⟩
              · have e : m = 0 := by rcases c5 with ⟨e, c5⟩ | ⟨e, c5⟩ <;> rcases e2 with e' | e' <;> first | omega | exact absurd e' e
                subst e
                have e4 : hh = 0 := by omega
                have e5 : l = 0 := by omega
                subst e4 e5
                refine ⟨_, go (some a') 0 0 (.inr ⟨k, rfl⟩) c1 c2 (Nat.le_refl _) (fun _ => c4') rfl, ?_⟩
                simp only [if_true, Nat.sub_self]
                exact .sliceEmpty (.inr rfl)
            · simp only [Option.some.injEq] at hv
              subst hv
              cases hx
              have : m = 0 := by rcases c5 with ⟨e, c5⟩ | ⟨e, c5⟩ <;> omega
              subst this
              refine ⟨_, go none 0 0 (.inr ⟨k, rfl⟩) c1 c2 (Nat.le_refl _) (fun _ => c4') rfl, ?_⟩
              have e1 : hh = 0 := by omega
              have e2 : l = 0 := by omega
              subst e1 e2
              exact .sliceNil
            · cases hv
          · cases hv
      · rename_i hnone
        rcases hm with ⟨rfl, rfl, rfl⟩ | ⟨u, k, rfl, rfl⟩
        case inr => simp at hnone
        split at hv
        · rename_i hU
          subst hU
          split at hv
          · rename_i b o
            split at hv
            · rename_i hcond
              obtain ⟨c1, c2, c3⟩ := hcond
              simp only [Option.some.injEq] at hv
              subst hv
              rcases hx.slice_inv with ⟨lc, c', e1, e2, e3, e4, rfl⟩ | ⟨rfl, _, a', rfl⟩
              · refine ⟨_, go (some ⟨lc.cb, lc.s + o, none⟩) c' c' (.inl ⟨rfl, rfl⟩) c1 (by omega) (Nat.le_refl _) (by simp) rfl, ?_⟩
                by_cases hc : c' = l
                · subst hc
                  have : hh - c' = 0 := by omega
                  simp only [this, if_true, Nat.sub_self]
                  exact .sliceEmpty (.inl rfl)
                · rw [if_neg hc]
                  simp only [Option.map_some, add_none]
                  rw [Nat.add_assoc]
                  refine .slice e1 (.inl rfl) (by omega) (fun _ => ?_)
                  have hes := esOf_eq hR c3 e1
                  have := e4 rfl
                  rw [hes] at this ⊢
                  have e5 : l * size + (c' - l) * size = c' * size := by rw [← Nat.add_mul]; congr 1; omega
                  omega
              · have : hh = 0 := by omega
                subst this
                have : l = 0 := by omega
                subst this
                refine ⟨_, go (some a') 0 0 (.inl ⟨rfl, rfl⟩) (Nat.le_refl _) (Nat.le_refl _) (Nat.le_refl _) (by simp) rfl, ?_⟩
                simp only [if_true, Nat.sub_self]
                exact .sliceEmpty (.inl rfl)
            · cases hv
          · cases hv
        · rename_i hU
          split at hv
          · rename_i hcond
            obtain ⟨c1, c2, c3⟩ := hcond
            split at hv
            · rename_i b o
              simp only [Option.some.injEq] at hv
              subst hv
              rcases hx.slice_inv with ⟨lc, c', e1, e2, e3, e4, rfl⟩ | ⟨rfl, e, e0⟩
              · obtain rfl : m = c' := by
                  rcases e2 with e | ⟨e, _⟩
                  · exact absurd e hU
                  · exact e
                exact ⟨_, go (some ⟨lc.cb, lc.s + o, none⟩) m m (.inl ⟨rfl, rfl⟩) c1 c2 (Nat.le_refl _) (by simp) rfl, kn b o m lc e1 c2 c3⟩
              · obtain ⟨a', rfl⟩ := e0
                obtain rfl := e.resolve_left hU
                have e4 : hh = 0 := by omega
                have e5 : l = 0 := by omega
                subst e4 e5
                refine ⟨_, go (some a') 0 0 (.inl ⟨rfl, rfl⟩) c1 c2 (Nat.le_refl _) (by simp) rfl, ?_⟩
                simp only [if_true, Nat.sub_self]
                exact .sliceEmpty (.inr rfl)
            · simp only [Option.some.injEq] at hv
              subst hv
              cases hx
              refine ⟨_, go none 0 0 (.inl ⟨rfl, rfl⟩) c1 c2 (Nat.le_refl _) (by simp) rfl, ?_⟩
              have e1 : hh = 0 := by omega
              have e2 : l = 0 := by omega
              subst e1 e2
              exact .sliceNil
            · cases hv
          · cases hv
    · cases hv
  · rename_i s h1
    split at hv
    · rename_i l hh h3 h4
      split at hv
      · rename_i hcond
        obtain ⟨c0, c1, c2⟩ := hcond
        simp only [Option.some.injEq] at hv
        subst hv
        cases hx
        have hl := elim_inv h3 hlo
        have hh' := elim_inv h4 hhi
        have gl : lo' = none ∧ l = 0 ∨ ∃ k, lo' = some (.int k l) := hl.elim (fun h => .inl ⟨h.2.1, h.2.2⟩) (fun ⟨v, k, h⟩ => .inr ⟨k, h.2⟩)
        have gh : hi' = none ∧ hh = s.size ∨ ∃ k, hi' = some (.int k hh) := hh'.elim (fun h => .inl ⟨h.2.1, h.2.2⟩) (fun ⟨v, k, h⟩ => .inr ⟨k, h.2⟩)
        have gm : mx' = none := by
          cases mx with
          | none => cases mx' with
            | none => rfl
            | some y => exact hmx.elim
          | some y => simp at c0
        subst gm
        refine ⟨.string (s.extract l hh), ?_, .string _⟩
        simp only [Instr.sliceAt, Sem.run_bind, run_under h1, Result.andThen_ok, Instr.slice, Option.isSome_none]
        simp [run_sliceBounds (P := P) (mx := none) (cap := s.size) false gl gh (.inl ⟨rfl, rfl⟩) c1 c2 (Nat.le_refl _) (by simp)]
      · cases hv
    · cases hv
  · cases hv

end Go.Am
