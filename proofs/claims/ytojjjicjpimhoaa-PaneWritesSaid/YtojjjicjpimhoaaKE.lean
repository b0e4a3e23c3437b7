/- What the functions answer, in the machine. -/
import Derived.Test.YtojjjicjpimhoaaKD
set_option linter.all false
namespace Go.Am
open Go.Proofs
set_option maxRecDepth 100000
set_option linter.all false
attribute [local congr] obind_congr obH_congr cnd_congr chk_congr retK_congr codeK_congr
theorem HExt.amy {h h' : Heap} (e : HExt (nm h) h') : HExt h (am h' h) ∧ h'.mods = [] := ⟨⟨e.len, e.old, by rw [am_mods, e.mods]; rfl⟩, e.mods⟩
/-! plain -/
def enc (p : PT) : List UInt8 := if p.kind = 0 ∨ p.kind = 1 then putL p.n else if p.kind = 2 then beT (keyF p.x) 8 else putL p.b.length ++ p.b
def encAll (l : List PT) : List UInt8 := l.flatMap enc
theorem encAll_snoc (l : List PT) (p : PT) : encAll (l ++ [p]) = encAll l ++ enc p := by simp [encAll]
theorem enc_len (p : PT) (hn : p.n < 2 ^ 64) (hb : p.b.length ≤ 100) : (enc p).length ≤ 110 := by
  have h1 := sizeN_le p.n 10 (by omega) (by omega)
  have h2 := sizeN_le p.b.length 10 (by omega) (by omega)
  unfold enc
  split
  · rw [putL_len]; omega
  · split
    · rw [beT_len]; omega
    · rw [List.length_append, putL_len]; omega
theorem encAll_len (l : List PT) (h : ∀ p ∈ l, p.n < 2 ^ 64 ∧ p.b.length ≤ 100) : (encAll l).length ≤ 110 * l.length := by
  induction l with
  | nil => simp [encAll]
  | cons p l ih =>
    have h1 := enc_len p (h p (by simp)).1 (h p (by simp)).2
    have h2 := ih fun q hq => h q (by simp [hq])
    simp only [encAll, List.flatMap_cons, List.length_append, List.length_cons] at h2 ⊢
    omega
theorem setP_putL (n : Nat) (hn : n < 2 ^ 64) (rest : List UInt8) : setP (some (putL n ++ rest)) 18446744073709551615 = (n, some rest) := by
  have hp := putL_len n
  have hs := sizeN_pos n
  simp only [setP, getL_putL n hn rest]
  rw [if_neg]
  · rw [List.drop_left]
  · rintro (h | h)
    · omega
    · exact h (by unfold outB; simp)
theorem keyF_nan (n : Nat) : keyF (if nanB n = true then nanBits else n) = keyF n := by
  by_cases c : nanB n = true
  · rw [if_pos c]; unfold keyF; rw [if_pos c, if_pos (by decide)]
  · rw [if_neg c]
theorem take_snocP (l : List PT) {i : Nat} (hi : i < l.length) : l.take i ++ [l[i]] = l.take (i + 1) := by
  rw [List.take_add_one, List.getElem?_eq_getElem hi]; rfl
theorem floatP_be' (n : Nat) (hn : n < 2 ^ 64) (rest : List UInt8) : floatP (some (beT (keyF n) 8 ++ rest)) = (if nanB n = true then nanBits else n, some rest) := by
  have ht : (beT (keyF n) 8 ++ rest).take 8 = beT (keyF n) 8 := by rw [List.take_append_of_le_length (by rw [beT_len]; omega), List.take_of_length_le (by rw [beT_len]; omega)]
  have hd : (beT (keyF n) 8 ++ rest).drop 8 = rest := by
    have := List.drop_left (l₁ := beT (keyF n) 8) (l₂ := rest)
    rwa [beT_len] at this
  simp only [floatP]
  rw [if_neg (by rw [List.length_append, beT_len]; omega)]
  simp only [ht, hd, beN_be _ (keyF_lt hn), ofK_keyF n hn, if_true]
/-- two writers -/
structure TW (N : Nat) (h : Heap) (p q : Nat) (v1 v2 : Value) (a b : List UInt8) : Prop where
  w1 : Wrv 146 h p v1 a
  w2 : Wrv 97 h q v2 b
  pq : p ≠ q
  a1 : blockOf v1 ≠ some q
  a2 : blockOf v2 ≠ some p
  a3 : ∀ c, blockOf v1 = some c → blockOf v2 ≠ some c
  np : N ≤ p
  nq : N ≤ q
  n1 : ∀ c, blockOf v1 = some c → N ≤ c
  n2 : ∀ c, blockOf v2 = some c → N ≤ c
theorem TW.step1 {N : Nat} {S : Nat → Prop} {h h' : Heap} {p q : Nat} {v1 v2 v1' : Value} {a b a' : List UInt8} (t : TW N h p q v1 v2 a b) (m : HMod S h h') (hS : ∀ c, S c → c = p ∨ blockOf v1 = some c) (w : Wrv 146 h' p v1' a') (f : ∀ c, blockOf v1' = some c → h.blks.length ≤ c) : TW N h' p q v1' v2 a' b :=
  ⟨w, t.w2.mod m (fun e => (hS q e).elim (fun x => t.pq x.symm) t.a1) (fun c hc e => (hS c e).elim (fun x => t.a2 (by rw [hc, x])) fun x => t.a3 c x hc), t.pq, fun e => by have := f q e; have := t.w2.1.lt; omega, t.a2, fun c hc e => by have := f c hc; have := t.w2.lt e; omega, t.np, t.nq,
    fun c hc => by have := f c hc; have := t.w1.1.lt; have := t.np; omega, t.n2⟩
theorem TW.step2 {N : Nat} {S : Nat → Prop} {h h' : Heap} {p q : Nat} {v1 v2 v2' : Value} {a b b' : List UInt8} (t : TW N h p q v1 v2 a b) (m : HMod S h h') (hS : ∀ c, S c → c = q ∨ blockOf v2 = some c) (w : Wrv 97 h' q v2' b') (f : ∀ c, blockOf v2' = some c → h.blks.length ≤ c) : TW N h' p q v1 v2' a b' :=
  ⟨t.w1.mod m (fun e => (hS p e).elim t.pq t.a2) (fun c hc e => (hS c e).elim (fun x => t.a1 (by rw [hc, x])) fun x => t.a3 c hc x), w, t.pq, t.a1, fun e => by have := f p e; have := t.w1.1.lt; omega, fun c hc e => by have := f c e; have := t.w1.lt hc; omega, t.np, t.nq,
    t.n1, fun c hc => by have := f c hc; have := t.w1.1.lt; have := t.np; omega⟩
theorem TW.same {N : Nat} {h h' : Heap} {p q : Nat} {v1 v2 : Value} {a b : List UInt8} (t : TW N h p q v1 v2 a b) (e : Same h h') : TW N h' p q v1 v2 a b := { t with w1 := t.w1.same e, w2 := t.w2.same e }
theorem TW.noN {N : Nat} {h : Heap} {p q : Nat} {v1 v2 : Value} {a b : List UInt8} (t : TW N h p q v1 v2 a b) : (∀ c, c < N → ¬ Turn p v1 c) ∧ ∀ c, c < N → ¬ Turn q v2 c := by
  refine ⟨fun c hc e => ?_, fun c hc e => ?_⟩
  · rcases e with rfl | e
    · have := t.np; omega
    · have := t.n1 c e; omega
  · rcases e with rfl | e
    · have := t.nq; omega
    · have := t.n2 c e; omega
theorem writes_end {h0 : Heap} {N rp : Nat} {lv : Value} {l : List PT} (hN : N ≤ rp) (hl : l.length ≤ 30) (hok : ∀ x ∈ l, PTok x) (hbl : ∀ x ∈ l, x.b.length ≤ 100) : ∀ (m i : Nat) (h : Heap), l.length = i + m → SP N h lv l → Rdr h rp (some (encAll (l.drop i))) → ∀ (x1 x3 x4 x5 x8 x9 x10 x11 x12 x13 x14 x15 x16 x17 x18 x19 x20 x21 x22 x23 x24 x25 x26 x27 x28 x29 x30 x31 x32 x33 x34 x35 x36 x37 x38 x39 x40 x41 x42 x43 x44 x45 x46 x47 x48 x49 x50 x51 x52 x53 x54 x55 x56 x57 x58 x59 x60 x61 x62 x63 x64 x65 x66 x67 x68 x69 x70 x71 x72 x73 x74 x75 x76 x77 x78 x79 x80 x81 x82 x83 x84 x85 x86 x87 x88 x89 x90 x91 x92 x93 x94 x95 x96 x97 x98 x99 x100 x101 x102 x103 x104 x105 x106 x107 x108 x109 x110 x111 x112 x113 x114 x115 x116 x117 x118 x119 x120 x121 x122 x123 x124 x125 x126 x127 x128 x129 x130 x131 x132 x133 x134 x135 x136 x137 x138 x139 x140 x141 x142 x143 x144 x145 x146 x147 x148 x149 x150 x151 x152 x153 x154 x155 x156 x157 x158 x159 x160 x161 x162 x163 : Value),
    ∃ h', loopK Try.prog (evC Try.prog) c11_5 ⟨#[lv, x1, .bool false, x3, x4, x5, .pointer (some ⟨rp, 0, none⟩), .int .i64 i, x8, x9, x10, x11, x12, x13, x14, x15, x16, x17, x18, x19, x20, x21, x22, x23, x24, x25, x26, x27, x28, x29, x30, x31, x32, x33, x34, x35, x36, x37, x38, x39, x40, x41, x42, x43, x44, x45, x46, x47, x48, x49, x50, x51, x52, x53, x54, x55, x56, x57, x58, x59, x60, x61, x62, x63, x64, x65, x66, x67, x68, x69, x70, x71, x72, x73, x74, x75, x76, x77, x78, x79, x80, x81, x82, x83, x84, x85, x86, x87, x88, x89, x90, x91, x92, x93, x94, x95, x96, x97, x98, x99, x100, x101, x102, x103, x104, x105, x106, x107, x108, x109, x110, x111, x112, x113, x114, x115, x116, x117, x118, x119, x120, x121, x122, x123, x124, x125, x126, x127, x128, x129, x130, x131, x132, x133, x134, x135, x136, x137, x138, x139, x140, x141, x142, x143, x144, x145, x146, x147, x148, x149, x150, x151, x152, x153, x154, x155, x156, x157, x158, x159, x160, x161, x162, x163], h⟩ (blockK 3 (seqK Try.prog (evC Try.prog) c11_6 (retK Try.f11 Try.prog h0))) = some (.bool true, h') := by
  intro m
  induction m with
  | zero =>
    intro i h hi sp w x1 x3 x4 x5 x8 x9 x10 x11 x12 x13 x14 x15 x16 x17 x18 x19 x20 x21 x22 x23 x24 x25 x26 x27 x28 x29 x30 x31 x32 x33 x34 x35 x36 x37 x38 x39 x40 x41 x42 x43 x44 x45 x46 x47 x48 x49 x50 x51 x52 x53 x54 x55 x56 x57 x58 x59 x60 x61 x62 x63 x64 x65 x66 x67 x68 x69 x70 x71 x72 x73 x74 x75 x76 x77 x78 x79 x80 x81 x82 x83 x84 x85 x86 x87 x88 x89 x90 x91 x92 x93 x94 x95 x96 x97 x98 x99 x100 x101 x102 x103 x104 x105 x106 x107 x108 x109 x110 x111 x112 x113 x114 x115 x116 x117 x118 x119 x120 x121 x122 x123 x124 x125 x126 x127 x128 x129 x130 x131 x132 x133 x134 x135 x136 x137 x138 x139 x140 x141 x142 x143 x144 x145 x146 x147 x148 x149 x150 x151 x152 x153 x154 x155 x156 x157 x158 x159 x160 x161 x162 x163
    rw [loopK_eq evC_m]
    rw [List.drop_of_length_le (by omega)] at w
    have e1 := spec_REnd w
    rw [show endP (some (encAll [])) = true from rfl] at e1
    simp -implicitDefEqProofs (disch := omega) only [↓c11_5_eq, ↓c11_6_eq, dcT, dcF, sp.len, e1, ↓ret11, ↓cnd_true, ↓cnd_false, ↓Option.bind_some, ↓obH_some', bin_add, bin_sub, bin_mul, bin_lss, bin_leq, bin_gtr, bin_geq, bin_eql, bin_neq, un_not, un_neg, Option.bind_some, Option.bind_none, Option.map_some, cnd_true, cnd_false, pickV_true, pickV_false, gd_true, gd_false, gdV_true, gdV_false, gdH_true, gdH_false, gdS_true, gdS_false, wt_ff, wt_tt, wt_ft, wt_tf, wt_undef, obH_some', extractV_tuple, nilCheckV_ptr, againK_normal, againK_exit, againK_ret, blockK_normal, blockK_same, blockK_ret, seqK_normal, seqK_exit, seqK_ret, fin_done, if_true', if_false', Bool.not_true, Bool.not_false, idx0, idx1, idx2, idx3, idx4, chk_nil_l, chk_nil_r, done_nm]
    exact ⟨_, rfl⟩
  | succ m ih =>
    intro i h hi sp w x1 x3 x4 x5 x8 x9 x10 x11 x12 x13 x14 x15 x16 x17 x18 x19 x20 x21 x22 x23 x24 x25 x26 x27 x28 x29 x30 x31 x32 x33 x34 x35 x36 x37 x38 x39 x40 x41 x42 x43 x44 x45 x46 x47 x48 x49 x50 x51 x52 x53 x54 x55 x56 x57 x58 x59 x60 x61 x62 x63 x64 x65 x66 x67 x68 x69 x70 x71 x72 x73 x74 x75 x76 x77 x78 x79 x80 x81 x82 x83 x84 x85 x86 x87 x88 x89 x90 x91 x92 x93 x94 x95 x96 x97 x98 x99 x100 x101 x102 x103 x104 x105 x106 x107 x108 x109 x110 x111 x112 x113 x114 x115 x116 x117 x118 x119 x120 x121 x122 x123 x124 x125 x126 x127 x128 x129 x130 x131 x132 x133 x134 x135 x136 x137 x138 x139 x140 x141 x142 x143 x144 x145 x146 x147 x148 x149 x150 x151 x152 x153 x154 x155 x156 x157 x158 x159 x160 x161 x162 x163
    rw [loopK_eq evC_m]
    have hil : i < l.length := by omega
    have ok := hok l[i] (List.getElem_mem _)
    have hb1 := hbl l[i] (List.getElem_mem _)
    have hd : encAll (l.drop i) = enc l[i] ++ encAll (l.drop (i + 1)) := by unfold encAll; rw [List.drop_eq_getElem_cons hil, List.flatMap_cons]
    rw [hd] at w
    have hlen : (rbs (some (enc l[i] ++ encAll (l.drop (i + 1))))).length < 2 ^ 40 := by
      have h1 := enc_len l[i] ok.n hb1
      have h2 := encAll_len (l.drop (i + 1)) fun p hp => ⟨(hok p (List.mem_of_mem_drop hp)).n, hbl p (List.mem_of_mem_drop hp)⟩
      simp only [rbs, Option.getD_some, List.length_append]
      simp only [List.length_drop] at h2
      omega
    obtain ⟨pb, po, bv, pat⟩ := sp.at hil
    have P0 := pat h ⟨No, (HExt.refl h).mod No, fun _ _ x => x⟩
    have noN : ∀ b, b < N → ¬ Just rp b := fun b hb e => by have : b = rp := e; omega
    have hw : IntKind.wrap .i64 ((i : Int) + 1) = ((i + 1 : Nat) : Int) := by rw [wrap_i64] <;> omega
    have ck1 : ∀ (h2 : Heap) (o : Nat), HMod (Just rp) (nm h) h2 → ∀ (X : Option (Value × Heap)), chk (rb (.pointer (some ⟨pb, o, none⟩)) ++ []) (h2.mods ++ []) X = X := fun h2 o e X => chk_ne (fun c hc x hx => by
      rw [List.append_nil, rb_ptr, List.mem_singleton] at hc
      rw [List.append_nil] at hx
      have hx2 : x = rp := e.mods_nm x hx
      have := P0.lo
      omega) X
    have go := fun (h2 : Heap) (y2 : HMod (Just rp) h (Am.am h2 h)) (d2 : Rdr (Am.am h2 h) rp (some (encAll (l.drop (i + 1))))) => ih (i + 1) (Am.am h2 h) (by omega) (sp.mod y2 noN) d2
    by_cases k0 : l[i].kind = 0
    · have he : enc l[i] = putL l[i].n := by unfold enc; rw [if_pos (.inl k0)]
      rw [he] at w hlen
      obtain ⟨h2, e2, x2, d2⟩ := spec_RNum w.nm 18446744073709551615 (by omega) hlen
      rw [numP_putL _ ok.n _ _ (by have := ok.n; omega)] at e2 d2
      rw [show ((18446744073709551615 : Nat) : Int) = 18446744073709551615 from rfl] at e2
      have y2 := x2.amx
      have d2' := d2.same (h' := Am.am h2 h) ⟨Nat.le_refl _, fun _ _ => rfl⟩
      have P2 := pat (Am.am h2 h) ⟨Just rp, y2, noN⟩
      have cke := ck1 h2 (po + 1) x2
      simp -implicitDefEqProofs (maxSteps := 1000000) (disch := omega) only [↓c11_5_eq, ↓c11_7_eq, ↓c11_8_eq, dcT, dcF, sp.len, P0.at_, faP0, faP1, ldInt, ld64, P0.l0, e2, P2.l1, eq_self, decide_true, cke, hw, ↓cnd_true, ↓cnd_false, ↓Option.bind_some, ↓obH_some', bin_add, bin_sub, bin_mul, bin_lss, bin_leq, bin_gtr, bin_geq, bin_eql, bin_neq, un_not, un_neg, Option.bind_some, Option.bind_none, Option.map_some, cnd_true, cnd_false, pickV_true, pickV_false, gd_true, gd_false, gdV_true, gdV_false, gdH_true, gdH_false, gdS_true, gdS_false, wt_ff, wt_tt, wt_ft, wt_tf, wt_undef, obH_some', extractV_tuple, nilCheckV_ptr, againK_normal, againK_exit, againK_ret, blockK_normal, blockK_same, blockK_ret, seqK_normal, seqK_exit, seqK_ret, fin_done, if_true', if_false', Bool.not_true, Bool.not_false, idx0, idx1, idx2, idx3, idx4, chk_nil_l, chk_nil_r, done_nm]
      exact go h2 y2 d2' _ _ _ _ _ _ _ _ _ _ _ _ _ _ _ _ _ _ _ _ _ _ _ _ _ _ _ _ _ _ _ _ _ _ _ _ _ _ _ _ _ _ _ _ _ _ _ _ _ _ _ _ _ _ _ _ _ _ _ _ _ _ _ _ _ _ _ _ _ _ _ _ _ _ _ _ _ _ _ _ _ _ _ _ _ _ _ _ _ _ _ _ _ _ _ _ _ _ _ _ _ _ _ _ _ _ _ _ _ _ _ _ _ _ _ _ _ _ _ _ _ _ _ _ _ _ _ _ _ _ _ _ _ _ _ _ _ _ _ _ _ _ _ _ _ _ _ _ _ _ _ _ _ _ _ _ _ _ _ _
    by_cases k1 : l[i].kind = 1
    · have he : enc l[i] = putL l[i].n := by unfold enc; rw [if_pos (.inr k1)]
      rw [he] at w hlen
      obtain ⟨h2, e2, x2, d2⟩ := spec_RSet w.nm 18446744073709551615 (by omega) hlen
      rw [setP_putL _ ok.n] at e2 d2
      rw [show ((18446744073709551615 : Nat) : Int) = 18446744073709551615 from rfl] at e2
      have y2 := x2.amx
      have d2' := d2.same (h' := Am.am h2 h) ⟨Nat.le_refl _, fun _ _ => rfl⟩
      have P2 := pat (Am.am h2 h) ⟨Just rp, y2, noN⟩
      have cke := ck1 h2 (po + 1) x2
      simp -implicitDefEqProofs (maxSteps := 1000000) (disch := omega) only [↓c11_5_eq, ↓c11_7_eq, ↓c11_8_eq, dcT, dcF, sp.len, P0.at_, faP0, faP1, ldInt, ld64, P0.l0, e2, P2.l1, eq_self, decide_true, cke, hw, ↓cnd_true, ↓cnd_false, ↓Option.bind_some, ↓obH_some', bin_add, bin_sub, bin_mul, bin_lss, bin_leq, bin_gtr, bin_geq, bin_eql, bin_neq, un_not, un_neg, Option.bind_some, Option.bind_none, Option.map_some, cnd_true, cnd_false, pickV_true, pickV_false, gd_true, gd_false, gdV_true, gdV_false, gdH_true, gdH_false, gdS_true, gdS_false, wt_ff, wt_tt, wt_ft, wt_tf, wt_undef, obH_some', extractV_tuple, nilCheckV_ptr, againK_normal, againK_exit, againK_ret, blockK_normal, blockK_same, blockK_ret, seqK_normal, seqK_exit, seqK_ret, fin_done, if_true', if_false', Bool.not_true, Bool.not_false, idx0, idx1, idx2, idx3, idx4, chk_nil_l, chk_nil_r, done_nm]
      exact go h2 y2 d2' _ _ _ _ _ _ _ _ _ _ _ _ _ _ _ _ _ _ _ _ _ _ _ _ _ _ _ _ _ _ _ _ _ _ _ _ _ _ _ _ _ _ _ _ _ _ _ _ _ _ _ _ _ _ _ _ _ _ _ _ _ _ _ _ _ _ _ _ _ _ _ _ _ _ _ _ _ _ _ _ _ _ _ _ _ _ _ _ _ _ _ _ _ _ _ _ _ _ _ _ _ _ _ _ _ _ _ _ _ _ _ _ _ _ _ _ _ _ _ _ _ _ _ _ _ _ _ _ _ _ _ _ _ _ _ _ _ _ _ _ _ _ _ _ _ _ _ _ _ _ _ _ _ _ _ _ _ _ _ _
    by_cases k2 : l[i].kind = 2
    · have he : enc l[i] = beT (keyF l[i].x) 8 := by unfold enc; rw [if_neg (by omega), if_pos k2]
      rw [he] at w hlen
      obtain ⟨h2, e2, x2, d2⟩ := spec_RFloat w.nm hlen
      rw [floatP_be' _ ok.x] at e2 d2
      have y2 := x2.amx
      have d2' := d2.same (h' := Am.am h2 h) ⟨Nat.le_refl _, fun _ _ => rfl⟩
      have P2 := pat (Am.am h2 h) ⟨Just rp, y2, noN⟩
      have cke := ck1 h2 (po + 2) x2
      have es := fun h => spec_refSame (if nanB l[i].x = true then nanBits else l[i].x) l[i].x (by split; decide; exact ok.x) ok.x h
      simp only [keyF_nan] at es
      simp -implicitDefEqProofs (maxSteps := 1000000) (disch := omega) only [↓c11_5_eq, ↓c11_7_eq, ↓c11_8_eq, dcT, dcF, sp.len, P0.at_, faP0, faP2, ldInt, ldFl, P0.l0, e2, P2.l2, es, eq_self, decide_true, cke, hw, ↓cnd_true, ↓cnd_false, ↓Option.bind_some, ↓obH_some', bin_add, bin_sub, bin_mul, bin_lss, bin_leq, bin_gtr, bin_geq, bin_eql, bin_neq, un_not, un_neg, Option.bind_some, Option.bind_none, Option.map_some, cnd_true, cnd_false, pickV_true, pickV_false, gd_true, gd_false, gdV_true, gdV_false, gdH_true, gdH_false, gdS_true, gdS_false, wt_ff, wt_tt, wt_ft, wt_tf, wt_undef, obH_some', extractV_tuple, nilCheckV_ptr, againK_normal, againK_exit, againK_ret, blockK_normal, blockK_same, blockK_ret, seqK_normal, seqK_exit, seqK_ret, fin_done, if_true', if_false', Bool.not_true, Bool.not_false, idx0, idx1, idx2, idx3, idx4, chk_nil_l, chk_nil_r, done_nm]
      exact go h2 y2 d2' _ _ _ _ _ _ _ _ _ _ _ _ _ _ _ _ _ _ _ _ _ _ _ _ _ _ _ _ _ _ _ _ _ _ _ _ _ _ _ _ _ _ _ _ _ _ _ _ _ _ _ _ _ _ _ _ _ _ _ _ _ _ _ _ _ _ _ _ _ _ _ _ _ _ _ _ _ _ _ _ _ _ _ _ _ _ _ _ _ _ _ _ _ _ _ _ _ _ _ _ _ _ _ _ _ _ _ _ _ _ _ _ _ _ _ _ _ _ _ _ _ _ _ _ _ _ _ _ _ _ _ _ _ _ _ _ _ _ _ _ _ _ _ _ _ _ _ _ _ _ _ _ _ _ _ _ _ _ _ _
    · have he : enc l[i] = putL l[i].b.length ++ l[i].b := by unfold enc; rw [if_neg (by omega), if_neg k2]
      rw [he, List.append_assoc] at w hlen
      obtain ⟨a2, c2, h2, e2, x2, d2, s2⟩ := spec_RBytes w.nm 100 (by omega) hlen
      rw [bytesP_put _ _ (by omega) _ (show l[i].b.length ≤ (100 : Int).toNat from hb1)] at e2 d2 s2
      have y2 := x2.amx
      have d2' := d2.same (h' := Am.am h2 h) ⟨Nat.le_refl _, fun _ _ => rfl⟩
      have s2' : SB (Am.am h2 h) (.slice a2 l[i].b.length c2) l[i].b := s2.sb.same ⟨Nat.le_refl _, fun _ _ => rfl⟩
      have P2 := pat (Am.am h2 h) ⟨Just rp, y2, noN⟩
      have st2 := strB s2'
      have st4 := strB P2.sb
      have cke : ∀ (X : Option (Value × Heap)), chk (rb bv ++ (rb (.pointer (some ⟨pb, po + 3, none⟩)) ++ [])) (h2.mods ++ []) X = X := fun X => chk_ne (fun c hc x hx => by
        rw [List.append_nil] at hc hx
        have hx2 : x = rp := x2.mods_nm x hx
        have hlo := P0.lo
        rcases List.mem_append.1 hc with hc | hc
        · have hcb : blockOf bv = some c := by
            obtain ⟨ad, cc, rfl⟩ := P2.sb.shape
            cases ad with
            | none => cases hc
            | some ad =>
              have : c = ad.block := by simpa [rb] using hc
              rw [this]; rfl
          have := P0.lb c hcb
          omega
        · rw [rb_ptr, List.mem_singleton] at hc
          omega) X
      simp -implicitDefEqProofs (maxSteps := 1000000) (disch := omega) only [↓c11_5_eq, ↓c11_7_eq, ↓c11_8_eq, dcT, dcF, sp.len, P0.at_, faP0, faP3, ldInt, ldB, P0.l0, e2, st2, P2.l3, st4, bin_streq, eq_self, decide_true, cke, hw, ↓cnd_true, ↓cnd_false, ↓Option.bind_some, ↓obH_some', bin_add, bin_sub, bin_mul, bin_lss, bin_leq, bin_gtr, bin_geq, bin_eql, bin_neq, un_not, un_neg, Option.bind_some, Option.bind_none, Option.map_some, cnd_true, cnd_false, pickV_true, pickV_false, gd_true, gd_false, gdV_true, gdV_false, gdH_true, gdH_false, gdS_true, gdS_false, wt_ff, wt_tt, wt_ft, wt_tf, wt_undef, obH_some', extractV_tuple, nilCheckV_ptr, againK_normal, againK_exit, againK_ret, blockK_normal, blockK_same, blockK_ret, seqK_normal, seqK_exit, seqK_ret, fin_done, if_true', if_false', Bool.not_true, Bool.not_false, idx0, idx1, idx2, idx3, idx4, chk_nil_l, chk_nil_r, done_nm]
      exact go h2 y2 d2' _ _ _ _ _ _ _ _ _ _ _ _ _ _ _ _ _ _ _ _ _ _ _ _ _ _ _ _ _ _ _ _ _ _ _ _ _ _ _ _ _ _ _ _ _ _ _ _ _ _ _ _ _ _ _ _ _ _ _ _ _ _ _ _ _ _ _ _ _ _ _ _ _ _ _ _ _ _ _ _ _ _ _ _ _ _ _ _ _ _ _ _ _ _ _ _ _ _ _ _ _ _ _ _ _ _ _ _ _ _ _ _ _ _ _ _ _ _ _ _ _ _ _ _ _ _ _ _ _ _ _ _ _ _ _ _ _ _ _ _ _ _ _ _ _ _ _ _ _ _ _ _ _ _ _ _ _ _ _ _
theorem strneq_self (xo yo : Operand) (bs : List UInt8) : binV Try.prog .neq 9 xo yo (strV bs) (strV bs) = some (.bool false) := by
  rw [bin_strneq, decide_eq_false (fun h => h rfl)]
theorem writes_loop {h0 : Heap} {N p q : Nat} {lv : Value} {l : List PT} (hl : l.length ≤ 30) (hok : ∀ x ∈ l, PTok x) : ∀ (m i : Nat) (h : Heap) (v1 v2 : Value), l.length = i + m → N ≤ h.blks.length → SP N h lv l → TW N h p q v1 v2 (encAll (l.take i)) (encAll (l.take i)) → (∀ x ∈ l.take i, x.b.length ≤ 100) → ∀ (x1 x6 x7 x8 x9 x10 x11 x12 x13 x14 x15 x16 x17 x18 x19 x20 x21 x22 x23 x24 x25 x26 x27 x28 x29 x30 x31 x32 x33 x34 x35 x36 x37 x38 x39 x40 x41 x42 x43 x44 x45 x46 x47 x48 x49 x50 x51 x52 x53 x54 x55 x56 x57 x58 x59 x60 x61 x62 x63 x64 x65 x66 x67 x68 x69 x70 x71 x72 x73 x74 x75 x76 x77 x78 x79 x80 x81 x82 x83 x84 x85 x86 x87 x88 x89 x90 x91 x92 x93 x94 x95 x96 x97 x98 x99 x100 x101 x102 x103 x104 x105 x106 x107 x108 x109 x110 x111 x112 x113 x114 x115 x116 x117 x118 x119 x120 x121 x122 x123 x124 x125 x126 x127 x128 x129 x130 x131 x132 x133 x134 x135 x136 x137 x138 x139 x140 x141 x142 x143 x144 x145 x146 x147 x148 x149 x150 x151 x152 x153 x154 x155 x156 x157 x158 x159 x160 x161 x162 x163 : Value),
    ∃ h', loopK Try.prog (evC Try.prog) c11_1 ⟨#[lv, x1, .bool false, .pointer (some ⟨p, 0, none⟩), .pointer (some ⟨q, 0, none⟩), .int .i64 i, x6, x7, x8, x9, x10, x11, x12, x13, x14, x15, x16, x17, x18, x19, x20, x21, x22, x23, x24, x25, x26, x27, x28, x29, x30, x31, x32, x33, x34, x35, x36, x37, x38, x39, x40, x41, x42, x43, x44, x45, x46, x47, x48, x49, x50, x51, x52, x53, x54, x55, x56, x57, x58, x59, x60, x61, x62, x63, x64, x65, x66, x67, x68, x69, x70, x71, x72, x73, x74, x75, x76, x77, x78, x79, x80, x81, x82, x83, x84, x85, x86, x87, x88, x89, x90, x91, x92, x93, x94, x95, x96, x97, x98, x99, x100, x101, x102, x103, x104, x105, x106, x107, x108, x109, x110, x111, x112, x113, x114, x115, x116, x117, x118, x119, x120, x121, x122, x123, x124, x125, x126, x127, x128, x129, x130, x131, x132, x133, x134, x135, x136, x137, x138, x139, x140, x141, x142, x143, x144, x145, x146, x147, x148, x149, x150, x151, x152, x153, x154, x155, x156, x157, x158, x159, x160, x161, x162, x163], h⟩ (blockK 0 (seqK Try.prog (evC Try.prog) c11_2 (retK Try.f11 Try.prog h0))) = some (.bool true, h') := by
  intro m
  induction m with
  | zero =>
    intro i h v1 v2 hi hN sp t hbl x1 x6 x7 x8 x9 x10 x11 x12 x13 x14 x15 x16 x17 x18 x19 x20 x21 x22 x23 x24 x25 x26 x27 x28 x29 x30 x31 x32 x33 x34 x35 x36 x37 x38 x39 x40 x41 x42 x43 x44 x45 x46 x47 x48 x49 x50 x51 x52 x53 x54 x55 x56 x57 x58 x59 x60 x61 x62 x63 x64 x65 x66 x67 x68 x69 x70 x71 x72 x73 x74 x75 x76 x77 x78 x79 x80 x81 x82 x83 x84 x85 x86 x87 x88 x89 x90 x91 x92 x93 x94 x95 x96 x97 x98 x99 x100 x101 x102 x103 x104 x105 x106 x107 x108 x109 x110 x111 x112 x113 x114 x115 x116 x117 x118 x119 x120 x121 x122 x123 x124 x125 x126 x127 x128 x129 x130 x131 x132 x133 x134 x135 x136 x137 x138 x139 x140 x141 x142 x143 x144 x145 x146 x147 x148 x149 x150 x151 x152 x153 x154 x155 x156 x157 x158 x159 x160 x161 x162 x163
    rw [loopK_eq evC_m]
    rw [List.take_of_length_le (by omega)] at t hbl
    have hal := encAll_len l fun x hx => ⟨(hok x hx).n, hbl x hx⟩
    obtain ⟨a, c, h2, e2, y2, s2⟩ := spec_WDone (t.w1.w (n0 := 0) fun _ _ => Nat.zero_le _) (by omega)
    obtain ⟨h3, rp, e3, y3, r3, lq⟩ := spec_NewReader s2.sb (by omega)
    have l2 := y2.len
    have sp3 := (sp.ext y2).ext y3
    have fin := fun x1 x3 x4 x5 x8 x9 x10 x11 x12 x13 x14 x15 x16 x17 x18 x19 x20 x21 x22 x23 x24 x25 x26 x27 x28 x29 x30 x31 x32 x33 x34 x35 x36 x37 x38 x39 x40 x41 x42 x43 x44 x45 x46 x47 x48 x49 x50 x51 x52 x53 x54 x55 x56 x57 x58 x59 x60 x61 x62 x63 x64 x65 x66 x67 x68 x69 x70 x71 x72 x73 x74 x75 x76 x77 x78 x79 x80 x81 x82 x83 x84 x85 x86 x87 x88 x89 x90 x91 x92 x93 x94 x95 x96 x97 x98 x99 x100 x101 x102 x103 x104 x105 x106 x107 x108 x109 x110 x111 x112 x113 x114 x115 x116 x117 x118 x119 x120 x121 x122 x123 x124 x125 x126 x127 x128 x129 x130 x131 x132 x133 x134 x135 x136 x137 x138 x139 x140 x141 x142 x143 x144 x145 x146 x147 x148 x149 x150 x151 x152 x153 x154 x155 x156 x157 x158 x159 x160 x161 x162 x163 => writes_end (h0 := h0) (N := N) (rp := rp) (lv := lv) (by omega) hl hok hbl l.length 0 h3 (by omega) sp3 r3 x1 x3 x4 x5 x8 x9 x10 x11 x12 x13 x14 x15 x16 x17 x18 x19 x20 x21 x22 x23 x24 x25 x26 x27 x28 x29 x30 x31 x32 x33 x34 x35 x36 x37 x38 x39 x40 x41 x42 x43 x44 x45 x46 x47 x48 x49 x50 x51 x52 x53 x54 x55 x56 x57 x58 x59 x60 x61 x62 x63 x64 x65 x66 x67 x68 x69 x70 x71 x72 x73 x74 x75 x76 x77 x78 x79 x80 x81 x82 x83 x84 x85 x86 x87 x88 x89 x90 x91 x92 x93 x94 x95 x96 x97 x98 x99 x100 x101 x102 x103 x104 x105 x106 x107 x108 x109 x110 x111 x112 x113 x114 x115 x116 x117 x118 x119 x120 x121 x122 x123 x124 x125 x126 x127 x128 x129 x130 x131 x132 x133 x134 x135 x136 x137 x138 x139 x140 x141 x142 x143 x144 x145 x146 x147 x148 x149 x150 x151 x152 x153 x154 x155 x156 x157 x158 x159 x160 x161 x162 x163
    simp -implicitDefEqProofs (maxSteps := 1000000) (disch := omega) only [↓c11_1_eq, ↓c11_2_eq, dcT, dcF, sp.len, e2, e3, ↓cnd_true, ↓cnd_false, ↓Option.bind_some, ↓obH_some', bin_add, bin_sub, bin_mul, bin_lss, bin_leq, bin_gtr, bin_geq, bin_eql, bin_neq, un_not, un_neg, Option.bind_some, Option.bind_none, Option.map_some, cnd_true, cnd_false, pickV_true, pickV_false, gd_true, gd_false, gdV_true, gdV_false, gdH_true, gdH_false, gdS_true, gdS_false, wt_ff, wt_tt, wt_ft, wt_tf, wt_undef, obH_some', extractV_tuple, nilCheckV_ptr, againK_normal, againK_exit, againK_ret, blockK_normal, blockK_same, blockK_ret, seqK_normal, seqK_exit, seqK_ret, fin_done, if_true', if_false', Bool.not_true, Bool.not_false, idx0, idx1, idx2, idx3, idx4, chk_nil_l, chk_nil_r, done_nm]
    exact fin _ _ _ _ _ _ _ _ _ _ _ _ _ _ _ _ _ _ _ _ _ _ _ _ _ _ _ _ _ _ _ _ _ _ _ _ _ _ _ _ _ _ _ _ _ _ _ _ _ _ _ _ _ _ _ _ _ _ _ _ _ _ _ _ _ _ _ _ _ _ _ _ _ _ _ _ _ _ _ _ _ _ _ _ _ _ _ _ _ _ _ _ _ _ _ _ _ _ _ _ _ _ _ _ _ _ _ _ _ _ _ _ _ _ _ _ _ _ _ _ _ _ _ _ _ _ _ _ _ _ _ _ _ _ _ _ _ _ _ _ _ _ _ _ _ _ _ _ _ _ _ _ _ _ _ _ _ _ _ _
  | succ m ih =>
    intro i h v1 v2 hi hN sp t hbl x1 x6 x7 x8 x9 x10 x11 x12 x13 x14 x15 x16 x17 x18 x19 x20 x21 x22 x23 x24 x25 x26 x27 x28 x29 x30 x31 x32 x33 x34 x35 x36 x37 x38 x39 x40 x41 x42 x43 x44 x45 x46 x47 x48 x49 x50 x51 x52 x53 x54 x55 x56 x57 x58 x59 x60 x61 x62 x63 x64 x65 x66 x67 x68 x69 x70 x71 x72 x73 x74 x75 x76 x77 x78 x79 x80 x81 x82 x83 x84 x85 x86 x87 x88 x89 x90 x91 x92 x93 x94 x95 x96 x97 x98 x99 x100 x101 x102 x103 x104 x105 x106 x107 x108 x109 x110 x111 x112 x113 x114 x115 x116 x117 x118 x119 x120 x121 x122 x123 x124 x125 x126 x127 x128 x129 x130 x131 x132 x133 x134 x135 x136 x137 x138 x139 x140 x141 x142 x143 x144 x145 x146 x147 x148 x149 x150 x151 x152 x153 x154 x155 x156 x157 x158 x159 x160 x161 x162 x163
    rw [loopK_eq evC_m]
    have hil : i < l.length := by omega
    have ok := hok l[i] (List.getElem_mem _)
    obtain ⟨pb, po, bv, pat⟩ := sp.at hil
    have P0 := pat h ⟨No, (HExt.refl h).mod No, fun _ _ x => x⟩
    have hw : IntKind.wrap .i64 ((i : Int) + 1) = ((i + 1 : Nat) : Int) := by rw [wrap_i64] <;> omega
    by_cases hb : l[i].b.length > 100
    · simp -implicitDefEqProofs (maxSteps := 1000000) (disch := omega) only [↓c11_1_eq, dcT, dcF, sp.len, P0.at_, faP3, ldB, P0.l3, P0.sb.row.len_eq etB.under, ↓ret11, ↓cnd_true, ↓cnd_false, ↓Option.bind_some, ↓obH_some', bin_add, bin_sub, bin_mul, bin_lss, bin_leq, bin_gtr, bin_geq, bin_eql, bin_neq, un_not, un_neg, Option.bind_some, Option.bind_none, Option.map_some, cnd_true, cnd_false, pickV_true, pickV_false, gd_true, gd_false, gdV_true, gdV_false, gdH_true, gdH_false, gdS_true, gdS_false, wt_ff, wt_tt, wt_ft, wt_tf, wt_undef, obH_some', extractV_tuple, nilCheckV_ptr, againK_normal, againK_exit, againK_ret, blockK_normal, blockK_same, blockK_ret, seqK_normal, seqK_exit, seqK_ret, fin_done, if_true', if_false', Bool.not_true, Bool.not_false, idx0, idx1, idx2, idx3, idx4, chk_nil_l, chk_nil_r, done_nm]
      exact ⟨_, rfl⟩
    have hal := encAll_len (l.take i) fun x hx => ⟨(hok x (List.mem_of_mem_take hx)).n, hbl x hx⟩
    have htl : (l.take i).length ≤ 30 := by simp; omega
    have hbl' : ∀ x ∈ l.take (i + 1), x.b.length ≤ 100 := fun x hx => by
      rw [← take_snocP l hil] at hx
      rcases List.mem_append.1 hx with hx | hx
      · exact hbl x hx
      · rw [List.mem_singleton] at hx; subst hx; omega
    have hsn : encAll (l.take i) ++ enc l[i] = encAll (l.take (i + 1)) := by rw [← encAll_snoc, take_snocP l hil]
    -- what is behind each of the ways
    have go : ∀ (h4 : Heap) (v1' v2' : Value), N ≤ h4.blks.length → SP N h4 lv l → TW N h4 p q v1' v2' (encAll (l.take (i + 1))) (encAll (l.take (i + 1))) → ∃ a98 c98 h5, evC Try.prog 44 #[.pointer (some ⟨p, 0, none⟩)] (nm h4) = some (.slice a98 (encAll (l.take (i + 1))).length c98, h5) ∧ h5.mods = [] ∧
        convV Try.prog 23 9 (.slice a98 (encAll (l.take (i + 1))).length c98) (Am.am h5 h4) = some (strV (encAll (l.take (i + 1))), Am.am h5 h4) ∧ (Am.am h5 h4).load1 q 0 = some v2' ∧ convV Try.prog 23 9 v2' (Am.am h5 h4) = some (strV (encAll (l.take (i + 1))), Am.am h5 h4) ∧
        ∀ (x1 x6 x7 x8 x9 x10 x11 x12 x13 x14 x15 x16 x17 x18 x19 x20 x21 x22 x23 x24 x25 x26 x27 x28 x29 x30 x31 x32 x33 x34 x35 x36 x37 x38 x39 x40 x41 x42 x43 x44 x45 x46 x47 x48 x49 x50 x51 x52 x53 x54 x55 x56 x57 x58 x59 x60 x61 x62 x63 x64 x65 x66 x67 x68 x69 x70 x71 x72 x73 x74 x75 x76 x77 x78 x79 x80 x81 x82 x83 x84 x85 x86 x87 x88 x89 x90 x91 x92 x93 x94 x95 x96 x97 x98 x99 x100 x101 x102 x103 x104 x105 x106 x107 x108 x109 x110 x111 x112 x113 x114 x115 x116 x117 x118 x119 x120 x121 x122 x123 x124 x125 x126 x127 x128 x129 x130 x131 x132 x133 x134 x135 x136 x137 x138 x139 x140 x141 x142 x143 x144 x145 x146 x147 x148 x149 x150 x151 x152 x153 x154 x155 x156 x157 x158 x159 x160 x161 x162 x163 : Value), ∃ h', loopK Try.prog (evC Try.prog) c11_1 ⟨#[lv, x1, .bool false, .pointer (some ⟨p, 0, none⟩), .pointer (some ⟨q, 0, none⟩), .int .i64 (i + 1 : Nat), x6, x7, x8, x9, x10, x11, x12, x13, x14, x15, x16, x17, x18, x19, x20, x21, x22, x23, x24, x25, x26, x27, x28, x29, x30, x31, x32, x33, x34, x35, x36, x37, x38, x39, x40, x41, x42, x43, x44, x45, x46, x47, x48, x49, x50, x51, x52, x53, x54, x55, x56, x57, x58, x59, x60, x61, x62, x63, x64, x65, x66, x67, x68, x69, x70, x71, x72, x73, x74, x75, x76, x77, x78, x79, x80, x81, x82, x83, x84, x85, x86, x87, x88, x89, x90, x91, x92, x93, x94, x95, x96, x97, x98, x99, x100, x101, x102, x103, x104, x105, x106, x107, x108, x109, x110, x111, x112, x113, x114, x115, x116, x117, x118, x119, x120, x121, x122, x123, x124, x125, x126, x127, x128, x129, x130, x131, x132, x133, x134, x135, x136, x137, x138, x139, x140, x141, x142, x143, x144, x145, x146, x147, x148, x149, x150, x151, x152, x153, x154, x155, x156, x157, x158, x159, x160, x161, x162, x163], Am.am h5 h4⟩ (blockK 0 (seqK Try.prog (evC Try.prog) c11_2 (retK Try.f11 Try.prog h0))) = some (.bool true, h') := by
      intro h4 v1' v2' hN4 sp4 t4
      have hal4 := encAll_len (l.take (i + 1)) fun x hx => ⟨(hok x (List.mem_of_mem_take hx)).n, hbl' x hx⟩
      have htl4 : (l.take (i + 1)).length ≤ 30 := by simp; omega
      obtain ⟨a5, c5, h5, e5, y5, s5⟩ := spec_WDone (t4.w1.nm.w (n0 := 0) fun _ _ => Nat.zero_le _) (by omega)
      obtain ⟨y5', m5⟩ := HExt.amy y5
      have s5' : SB (Am.am h5 h4) (.slice a5 (encAll (l.take (i + 1))).length c5) (encAll (l.take (i + 1))) := s5.sb.same ⟨Nat.le_refl _, fun _ _ => rfl⟩
      have t5 := t4.same y5'.same
      refine ⟨a5, c5, h5, e5, m5, strB s5', t5.w2.1.load 0, strB t5.w2.2.1.sb, ?_⟩
      intro x1 x6 x7 x8 x9 x10 x11 x12 x13 x14 x15 x16 x17 x18 x19 x20 x21 x22 x23 x24 x25 x26 x27 x28 x29 x30 x31 x32 x33 x34 x35 x36 x37 x38 x39 x40 x41 x42 x43 x44 x45 x46 x47 x48 x49 x50 x51 x52 x53 x54 x55 x56 x57 x58 x59 x60 x61 x62 x63 x64 x65 x66 x67 x68 x69 x70 x71 x72 x73 x74 x75 x76 x77 x78 x79 x80 x81 x82 x83 x84 x85 x86 x87 x88 x89 x90 x91 x92 x93 x94 x95 x96 x97 x98 x99 x100 x101 x102 x103 x104 x105 x106 x107 x108 x109 x110 x111 x112 x113 x114 x115 x116 x117 x118 x119 x120 x121 x122 x123 x124 x125 x126 x127 x128 x129 x130 x131 x132 x133 x134 x135 x136 x137 x138 x139 x140 x141 x142 x143 x144 x145 x146 x147 x148 x149 x150 x151 x152 x153 x154 x155 x156 x157 x158 x159 x160 x161 x162 x163
      exact ih (i + 1) (Am.am h5 h4) v1' v2' (by omega) (by have := y5'.len; omega) (sp4.ext y5') t5 hbl' x1 x6 x7 x8 x9 x10 x11 x12 x13 x14 x15 x16 x17 x18 x19 x20 x21 x22 x23 x24 x25 x26 x27 x28 x29 x30 x31 x32 x33 x34 x35 x36 x37 x38 x39 x40 x41 x42 x43 x44 x45 x46 x47 x48 x49 x50 x51 x52 x53 x54 x55 x56 x57 x58 x59 x60 x61 x62 x63 x64 x65 x66 x67 x68 x69 x70 x71 x72 x73 x74 x75 x76 x77 x78 x79 x80 x81 x82 x83 x84 x85 x86 x87 x88 x89 x90 x91 x92 x93 x94 x95 x96 x97 x98 x99 x100 x101 x102 x103 x104 x105 x106 x107 x108 x109 x110 x111 x112 x113 x114 x115 x116 x117 x118 x119 x120 x121 x122 x123 x124 x125 x126 x127 x128 x129 x130 x131 x132 x133 x134 x135 x136 x137 x138 x139 x140 x141 x142 x143 x144 x145 x146 x147 x148 x149 x150 x151 x152 x153 x154 x155 x156 x157 x158 x159 x160 x161 x162 x163
    by_cases k0 : l[i].kind = 0
    · have he : enc l[i] = putL l[i].n := by unfold enc; rw [if_pos (.inl k0)]
      rw [he] at hsn
      obtain ⟨h2, e2, y2, d2⟩ := spec_WNum (t.w1.w (n0 := 0) fun _ _ => Nat.zero_le _) (Nat.zero_le _) l[i].n ok.n (by omega)
      obtain ⟨w1', d2, f2⟩ := d2.v
      have t2 := t.step1 y2 (fun c hc => .inl hc) d2 f2
      have sp2 := sp.mod y2 fun c hc e => t.noN.1 c hc (.inl e)
      have P2 := pat h2 ⟨Just p, y2, fun c hc e => t.noN.1 c hc (.inl e)⟩
      obtain ⟨h4, e4, y4, d4⟩ := spec_RWNum (t2.w2.wR (n0 := 0) fun _ _ => Nat.zero_le _) (Nat.zero_le _) l[i].n ok.n (by omega)
      obtain ⟨w2', d4, f4⟩ := d4.v
      have t4 := t2.step2 y4 (fun c hc => .inl hc) d4 f4
      have sp4 := sp2.mod y4 fun c hc e => t2.noN.2 c hc (.inl e)
      rw [hsn] at t4
      obtain ⟨a5, c5, h5, e5, m5, g1, g2, g3, fin⟩ := go h4 w1' w2' (by have := y2.len; have := y4.len; omega) sp4 t4
      simp -implicitDefEqProofs (maxSteps := 1000000) (disch := omega) only [↓c11_1_eq, ↓c11_3_eq, ↓c11_4_eq, dcT, dcF, sp.len, P0.at_, faP0, faP1, faP3, ldInt, ld64, ldB, P0.l0, P0.l1, P0.l3, P0.sb.row.len_eq etB.under, e2, P2.at_, P2.l1, e4, e5, m5, g1, faRW, g2, g3, strneq_self, List.append_nil, hw, ↓cnd_true, ↓cnd_false, ↓Option.bind_some, ↓obH_some', bin_add, bin_sub, bin_mul, bin_lss, bin_leq, bin_gtr, bin_geq, bin_eql, bin_neq, un_not, un_neg, Option.bind_some, Option.bind_none, Option.map_some, cnd_true, cnd_false, pickV_true, pickV_false, gd_true, gd_false, gdV_true, gdV_false, gdH_true, gdH_false, gdS_true, gdS_false, wt_ff, wt_tt, wt_ft, wt_tf, wt_undef, obH_some', extractV_tuple, nilCheckV_ptr, againK_normal, againK_exit, againK_ret, blockK_normal, blockK_same, blockK_ret, seqK_normal, seqK_exit, seqK_ret, fin_done, if_true', if_false', Bool.not_true, Bool.not_false, idx0, idx1, idx2, idx3, idx4, chk_nil_l, chk_nil_r, done_nm]
      exact fin _ _ _ _ _ _ _ _ _ _ _ _ _ _ _ _ _ _ _ _ _ _ _ _ _ _ _ _ _ _ _ _ _ _ _ _ _ _ _ _ _ _ _ _ _ _ _ _ _ _ _ _ _ _ _ _ _ _ _ _ _ _ _ _ _ _ _ _ _ _ _ _ _ _ _ _ _ _ _ _ _ _ _ _ _ _ _ _ _ _ _ _ _ _ _ _ _ _ _ _ _ _ _ _ _ _ _ _ _ _ _ _ _ _ _ _ _ _ _ _ _ _ _ _ _ _ _ _ _ _ _ _ _ _ _ _ _ _ _ _ _ _ _ _ _ _ _ _ _ _ _ _ _ _ _ _ _ _ _
    by_cases k1 : l[i].kind = 1
    · have he : enc l[i] = putL l[i].n := by unfold enc; rw [if_pos (.inr k1)]
      rw [he] at hsn
      obtain ⟨h2, e2, y2, d2⟩ := spec_WSet (t.w1.w (n0 := 0) fun _ _ => Nat.zero_le _) (Nat.zero_le _) l[i].n ok.n (by omega)
      obtain ⟨w1', d2, f2⟩ := d2.v
      have t2 := t.step1 y2 (fun c hc => .inl hc) d2 f2
      have sp2 := sp.mod y2 fun c hc e => t.noN.1 c hc (.inl e)
      have P2 := pat h2 ⟨Just p, y2, fun c hc e => t.noN.1 c hc (.inl e)⟩
      obtain ⟨h4, e4, y4, d4⟩ := spec_RWNum (t2.w2.wR (n0 := 0) fun _ _ => Nat.zero_le _) (Nat.zero_le _) l[i].n ok.n (by omega)
      obtain ⟨w2', d4, f4⟩ := d4.v
      have t4 := t2.step2 y4 (fun c hc => .inl hc) d4 f4
      have sp4 := sp2.mod y4 fun c hc e => t2.noN.2 c hc (.inl e)
      rw [hsn] at t4
      obtain ⟨a5, c5, h5, e5, m5, g1, g2, g3, fin⟩ := go h4 w1' w2' (by have := y2.len; have := y4.len; omega) sp4 t4
      simp -implicitDefEqProofs (maxSteps := 1000000) (disch := omega) only [↓c11_1_eq, ↓c11_3_eq, ↓c11_4_eq, dcT, dcF, sp.len, P0.at_, faP0, faP1, faP3, ldInt, ld64, ldB, P0.l0, P0.l1, P0.l3, P0.sb.row.len_eq etB.under, e2, P2.at_, P2.l1, e4, e5, m5, g1, faRW, g2, g3, strneq_self, List.append_nil, hw, ↓cnd_true, ↓cnd_false, ↓Option.bind_some, ↓obH_some', bin_add, bin_sub, bin_mul, bin_lss, bin_leq, bin_gtr, bin_geq, bin_eql, bin_neq, un_not, un_neg, Option.bind_some, Option.bind_none, Option.map_some, cnd_true, cnd_false, pickV_true, pickV_false, gd_true, gd_false, gdV_true, gdV_false, gdH_true, gdH_false, gdS_true, gdS_false, wt_ff, wt_tt, wt_ft, wt_tf, wt_undef, obH_some', extractV_tuple, nilCheckV_ptr, againK_normal, againK_exit, againK_ret, blockK_normal, blockK_same, blockK_ret, seqK_normal, seqK_exit, seqK_ret, fin_done, if_true', if_false', Bool.not_true, Bool.not_false, idx0, idx1, idx2, idx3, idx4, chk_nil_l, chk_nil_r, done_nm]
      exact fin _ _ _ _ _ _ _ _ _ _ _ _ _ _ _ _ _ _ _ _ _ _ _ _ _ _ _ _ _ _ _ _ _ _ _ _ _ _ _ _ _ _ _ _ _ _ _ _ _ _ _ _ _ _ _ _ _ _ _ _ _ _ _ _ _ _ _ _ _ _ _ _ _ _ _ _ _ _ _ _ _ _ _ _ _ _ _ _ _ _ _ _ _ _ _ _ _ _ _ _ _ _ _ _ _ _ _ _ _ _ _ _ _ _ _ _ _ _ _ _ _ _ _ _ _ _ _ _ _ _ _ _ _ _ _ _ _ _ _ _ _ _ _ _ _ _ _ _ _ _ _ _ _ _ _ _ _ _ _
    by_cases k2 : l[i].kind = 2
    · have he : enc l[i] = beT (keyF l[i].x) 8 := by unfold enc; rw [if_neg (by omega), if_pos k2]
      rw [he] at hsn
      obtain ⟨w1', h2, e2, y2, d2, f2⟩ := spec_WFloat t.w1 l[i].x ok.x (by omega)
      have t2 := t.step1 y2 (fun c hc => hc) d2 f2
      have sp2 := sp.mod y2 t.noN.1
      have P2 := pat h2 ⟨_, y2, t.noN.1⟩
      obtain ⟨w2', h4, e4, y4, d4, f4⟩ := spec_RWFloat t2.w2 l[i].x ok.x (by omega)
      have t4 := t2.step2 y4 (fun c hc => hc) d4 f4
      have sp4 := sp2.mod y4 t2.noN.2
      rw [hsn] at t4
      obtain ⟨a5, c5, h5, e5, m5, g1, g2, g3, fin⟩ := go h4 w1' w2' (by have := y2.len; have := y4.len; omega) sp4 t4
      simp -implicitDefEqProofs (maxSteps := 1000000) (disch := omega) only [↓c11_1_eq, ↓c11_3_eq, ↓c11_4_eq, dcT, dcF, sp.len, P0.at_, faP0, faP2, faP3, ldInt, ldFl, ldB, P0.l0, P0.l2, P0.l3, P0.sb.row.len_eq etB.under, e2, P2.at_, P2.l2, e4, e5, m5, g1, faRW, g2, g3, strneq_self, List.append_nil, hw, ↓cnd_true, ↓cnd_false, ↓Option.bind_some, ↓obH_some', bin_add, bin_sub, bin_mul, bin_lss, bin_leq, bin_gtr, bin_geq, bin_eql, bin_neq, un_not, un_neg, Option.bind_some, Option.bind_none, Option.map_some, cnd_true, cnd_false, pickV_true, pickV_false, gd_true, gd_false, gdV_true, gdV_false, gdH_true, gdH_false, gdS_true, gdS_false, wt_ff, wt_tt, wt_ft, wt_tf, wt_undef, obH_some', extractV_tuple, nilCheckV_ptr, againK_normal, againK_exit, againK_ret, blockK_normal, blockK_same, blockK_ret, seqK_normal, seqK_exit, seqK_ret, fin_done, if_true', if_false', Bool.not_true, Bool.not_false, idx0, idx1, idx2, idx3, idx4, chk_nil_l, chk_nil_r, done_nm]
      exact fin _ _ _ _ _ _ _ _ _ _ _ _ _ _ _ _ _ _ _ _ _ _ _ _ _ _ _ _ _ _ _ _ _ _ _ _ _ _ _ _ _ _ _ _ _ _ _ _ _ _ _ _ _ _ _ _ _ _ _ _ _ _ _ _ _ _ _ _ _ _ _ _ _ _ _ _ _ _ _ _ _ _ _ _ _ _ _ _ _ _ _ _ _ _ _ _ _ _ _ _ _ _ _ _ _ _ _ _ _ _ _ _ _ _ _ _ _ _ _ _ _ _ _ _ _ _ _ _ _ _ _ _ _ _ _ _ _ _ _ _ _ _ _ _ _ _ _ _ _ _ _ _ _ _ _ _ _ _ _
    · have he : enc l[i] = putL l[i].b.length ++ l[i].b := by unfold enc; rw [if_neg (by omega), if_neg k2]
      rw [he, ← List.append_assoc] at hsn
      have hbp : blockOf bv ≠ some p := fun e => by have := P0.lb p e; have := t.np; omega
      have hbq : blockOf bv ≠ some q := fun e => by have := P0.lb q e; have := t.nq; omega
      obtain ⟨h2, e2, y2, d2⟩ := spec_WBytes (t.w1.w (n0 := 0) fun _ _ => Nat.zero_le _) (Nat.zero_le _) P0.sb hbp (by omega) (by omega)
      obtain ⟨w1', d2, f2⟩ := d2.v
      have t2 := t.step1 y2 (fun c hc => .inl hc) d2 f2
      have sp2 := sp.mod y2 fun c hc e => t.noN.1 c hc (.inl e)
      have P2 := pat h2 ⟨Just p, y2, fun c hc e => t.noN.1 c hc (.inl e)⟩
      obtain ⟨h4, e4, y4, d4⟩ := spec_RWBytes (t2.w2.wR (n0 := 0) fun _ _ => Nat.zero_le _) (Nat.zero_le _) P2.sb hbq (by omega) (by omega)
      obtain ⟨w2', d4, f4⟩ := d4.v
      have t4 := t2.step2 y4 (fun c hc => .inl hc) d4 f4
      have sp4 := sp2.mod y4 fun c hc e => t2.noN.2 c hc (.inl e)
      rw [hsn] at t4
      obtain ⟨a5, c5, h5, e5, m5, g1, g2, g3, fin⟩ := go h4 w1' w2' (by have := y2.len; have := y4.len; omega) sp4 t4
      simp -implicitDefEqProofs (maxSteps := 1000000) (disch := omega) only [↓c11_1_eq, ↓c11_3_eq, ↓c11_4_eq, dcT, dcF, sp.len, P0.at_, faP0, faP3, ldInt, ldB, P0.l0, P0.l3, P0.sb.row.len_eq etB.under, e2, P2.at_, P2.l3, e4, e5, m5, g1, faRW, g2, g3, strneq_self, List.append_nil, hw, ↓cnd_true, ↓cnd_false, ↓Option.bind_some, ↓obH_some', bin_add, bin_sub, bin_mul, bin_lss, bin_leq, bin_gtr, bin_geq, bin_eql, bin_neq, un_not, un_neg, Option.bind_some, Option.bind_none, Option.map_some, cnd_true, cnd_false, pickV_true, pickV_false, gd_true, gd_false, gdV_true, gdV_false, gdH_true, gdH_false, gdS_true, gdS_false, wt_ff, wt_tt, wt_ft, wt_tf, wt_undef, obH_some', extractV_tuple, nilCheckV_ptr, againK_normal, againK_exit, againK_ret, blockK_normal, blockK_same, blockK_ret, seqK_normal, seqK_exit, seqK_ret, fin_done, if_true', if_false', Bool.not_true, Bool.not_false, idx0, idx1, idx2, idx3, idx4, chk_nil_l, chk_nil_r, done_nm]
      exact fin _ _ _ _ _ _ _ _ _ _ _ _ _ _ _ _ _ _ _ _ _ _ _ _ _ _ _ _ _ _ _ _ _ _ _ _ _ _ _ _ _ _ _ _ _ _ _ _ _ _ _ _ _ _ _ _ _ _ _ _ _ _ _ _ _ _ _ _ _ _ _ _ _ _ _ _ _ _ _ _ _ _ _ _ _ _ _ _ _ _ _ _ _ _ _ _ _ _ _ _ _ _ _ _ _ _ _ _ _ _ _ _ _ _ _ _ _ _ _ _ _ _ _ _ _ _ _ _ _ _ _ _ _ _ _ _ _ _ _ _ _ _ _ _ _ _ _ _ _ _ _ _ _ _ _ _ _ _ _
theorem mlaw_PaneWrites (lv : Value) (l : List PT) (h : Heap) (sp : SP h.blks.length h lv l) (hok : ∀ x ∈ l, PTok x) : ∃ h', evC Try.prog 11 #[lv] h = some (.bool true, h') := by
  rw [call11]
  obtain ⟨h1, e1, x1⟩ := spec_awake5 (nm h)
  have sp1 := sp.nm.ext x1
  by_cases c2 : l.length > 30
  · simp -implicitDefEqProofs (maxSteps := 1000000) (disch := omega) only [↓c11_0_eq, dcT, dcF, e1, sp1.len, ↓ret11, ↓cnd_true, ↓cnd_false, ↓Option.bind_some, ↓obH_some', bin_add, bin_sub, bin_mul, bin_lss, bin_leq, bin_gtr, bin_geq, bin_eql, bin_neq, un_not, un_neg, Option.bind_some, Option.bind_none, Option.map_some, cnd_true, cnd_false, pickV_true, pickV_false, gd_true, gd_false, gdV_true, gdV_false, gdH_true, gdH_false, gdS_true, gdS_false, wt_ff, wt_tt, wt_ft, wt_tf, wt_undef, obH_some', extractV_tuple, nilCheckV_ptr, againK_normal, againK_exit, againK_ret, blockK_normal, blockK_same, blockK_ret, seqK_normal, seqK_exit, seqK_ret, fin_done, if_true', if_false', Bool.not_true, Bool.not_false, idx0, idx1, idx2, idx3, idx4, chk_nil_l, chk_nil_r, done_nm]
    exact ⟨_, rfl⟩
  obtain ⟨h2, e2, x2, w2, l2⟩ := spec_NewWriter h1
  have l1 := x1.len
  simp only [nm_blks] at l1
  obtain ⟨v1, w1, f1⟩ := w2.v
  have sn := Same.new h2 (.cells [.slice none 0 0]) 97
  have t : TW h.blks.length (h2.new (.cells [.slice none 0 0]) 97) h1.blks.length h2.blks.length v1 (.slice none 0 0) [] [] :=
    ⟨w1.same sn, ⟨Cells.new _ _ _, .nil, by simp [blockOf]⟩, by omega, fun e => by have := w1.lt e; omega, by simp [blockOf], by simp [blockOf], by omega, by omega, fun c hc => by have := f1 c hc; omega, by simp [blockOf]⟩
  have spn : SP h.blks.length (h2.new (.cells [.slice none 0 0]) 97) lv l := (sp1.ext x2).ext ⟨sn.1, fun b hb => Heap.new_old hb, rfl⟩
  have hNl : h.blks.length ≤ (h2.new (.cells [.slice none 0 0]) 97).blks.length := by have := sn.1; omega
  have fin := fun x1 x6 x7 x8 x9 x10 x11 x12 x13 x14 x15 x16 x17 x18 x19 x20 x21 x22 x23 x24 x25 x26 x27 x28 x29 x30 x31 x32 x33 x34 x35 x36 x37 x38 x39 x40 x41 x42 x43 x44 x45 x46 x47 x48 x49 x50 x51 x52 x53 x54 x55 x56 x57 x58 x59 x60 x61 x62 x63 x64 x65 x66 x67 x68 x69 x70 x71 x72 x73 x74 x75 x76 x77 x78 x79 x80 x81 x82 x83 x84 x85 x86 x87 x88 x89 x90 x91 x92 x93 x94 x95 x96 x97 x98 x99 x100 x101 x102 x103 x104 x105 x106 x107 x108 x109 x110 x111 x112 x113 x114 x115 x116 x117 x118 x119 x120 x121 x122 x123 x124 x125 x126 x127 x128 x129 x130 x131 x132 x133 x134 x135 x136 x137 x138 x139 x140 x141 x142 x143 x144 x145 x146 x147 x148 x149 x150 x151 x152 x153 x154 x155 x156 x157 x158 x159 x160 x161 x162 x163 => writes_loop (h0 := h) (N := h.blks.length) (p := h1.blks.length) (q := h2.blks.length) (lv := lv) (by omega) hok l.length 0 _ v1 (.slice none 0 0) (by omega) hNl spn t (by simp) x1 x6 x7 x8 x9 x10 x11 x12 x13 x14 x15 x16 x17 x18 x19 x20 x21 x22 x23 x24 x25 x26 x27 x28 x29 x30 x31 x32 x33 x34 x35 x36 x37 x38 x39 x40 x41 x42 x43 x44 x45 x46 x47 x48 x49 x50 x51 x52 x53 x54 x55 x56 x57 x58 x59 x60 x61 x62 x63 x64 x65 x66 x67 x68 x69 x70 x71 x72 x73 x74 x75 x76 x77 x78 x79 x80 x81 x82 x83 x84 x85 x86 x87 x88 x89 x90 x91 x92 x93 x94 x95 x96 x97 x98 x99 x100 x101 x102 x103 x104 x105 x106 x107 x108 x109 x110 x111 x112 x113 x114 x115 x116 x117 x118 x119 x120 x121 x122 x123 x124 x125 x126 x127 x128 x129 x130 x131 x132 x133 x134 x135 x136 x137 x138 x139 x140 x141 x142 x143 x144 x145 x146 x147 x148 x149 x150 x151 x152 x153 x154 x155 x156 x157 x158 x159 x160 x161 x162 x163
  simp -implicitDefEqProofs (maxSteps := 1000000) (disch := omega) only [↓c11_0_eq, dcT, dcF, e1, sp1.len, e2, bdRW, bxRW, ↓cnd_true, ↓cnd_false, ↓Option.bind_some, ↓obH_some', bin_add, bin_sub, bin_mul, bin_lss, bin_leq, bin_gtr, bin_geq, bin_eql, bin_neq, un_not, un_neg, Option.bind_some, Option.bind_none, Option.map_some, cnd_true, cnd_false, pickV_true, pickV_false, gd_true, gd_false, gdV_true, gdV_false, gdH_true, gdH_false, gdS_true, gdS_false, wt_ff, wt_tt, wt_ft, wt_tf, wt_undef, obH_some', extractV_tuple, nilCheckV_ptr, againK_normal, againK_exit, againK_ret, blockK_normal, blockK_same, blockK_ret, seqK_normal, seqK_exit, seqK_ret, fin_done, if_true', if_false', Bool.not_true, Bool.not_false, idx0, idx1, idx2, idx3, idx4, chk_nil_l, chk_nil_r, done_nm]
  exact fin _ _ _ _ _ _ _ _ _ _ _ _ _ _ _ _ _ _ _ _ _ _ _ _ _ _ _ _ _ _ _ _ _ _ _ _ _ _ _ _ _ _ _ _ _ _ _ _ _ _ _ _ _ _ _ _ _ _ _ _ _ _ _ _ _ _ _ _ _ _ _ _ _ _ _ _ _ _ _ _ _ _ _ _ _ _ _ _ _ _ _ _ _ _ _ _ _ _ _ _ _ _ _ _ _ _ _ _ _ _ _ _ _ _ _ _ _ _ _ _ _ _ _ _ _ _ _ _ _ _ _ _ _ _ _ _ _ _ _ _ _ _ _ _ _ _ _ _ _ _ _ _ _ _ _ _ _ _ _
theorem law_PaneWrites (h : Heap) (vs : List Value) (dd : List DT) (r : RdAll Try.prog h [80] vs dd) : ∃ h', evC Try.prog 11 vs.toArray h = some (.bool true, h') := by
  obtain ⟨v, d, vs', ds', rfl, rfl, r0, r1⟩ := r.cons_inv
  obtain ⟨rfl, rfl⟩ := r1.nil_inv
  obtain ⟨ps, sp, hok⟩ := r0.parts
  exact mlaw_PaneWrites _ ps h sp hok
end Go.Am
