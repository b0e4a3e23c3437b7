/- What the texts of functions come to in the machine (printed by a program of this seat; Lean checks it). -/
import Derived.Test.YtclpkcampbhbdaaKB
import Derived.Test.YtclpkcampbhbdaaChecked
import Derived.KernelRfl
set_option linter.all false
namespace Go.Am
open Go.Proofs
set_option maxRecDepth 100000
variable {β : Type} (x : Nat → Value) (h : Heap) (k : Ex → St → Option β) (r m : List Nat) (g : Heap)
noncomputable def c85_0 : Code := bodyC Try.f85 []
theorem c85_0_eq : cK c85_0 6 x h k =
(bn .neq 3 (x 0) (x 0)).bind fun v0 =>
k .ret ⟨ar 6 (up x [(2,v0),(3,(x 0)),(4,(x 0)),(5,v0)]), h⟩ := by kernel_rfl
theorem call85 (a0 : Value) : evC Try.prog 85 #[a0] h = cK c85_0 6 (up un [(0,a0)]) (nm h) (retK Try.f85 Try.prog h) :=
  (evC_call 85 Try.f85 c85_0 Try.func85 (by kernel_rfl) #[a0] h).trans (by kernel_rfl)
theorem ret85 : retK Try.f85 Try.prog g .ret ⟨ar 6 x, h⟩ = fin g (some (x 2)) h := by kernel_rfl
theorem retn85 : retK Try.f85 Try.prog g .normal ⟨ar 6 x, h⟩ = fin g (some (x 2)) h := by kernel_rfl
end Go.Am
namespace Go.Am
open Go.Proofs
set_option maxRecDepth 100000
variable {β : Type} (x : Nat → Value) (h : Heap) (k : Ex → St → Option β) (r m : List Nat) (g : Heap)
noncomputable def c86_0 : Code := bodyC Try.f86 []
theorem c86_0_eq : cK c86_0 6 x h k =
(bn .neq 35 (x 0) (x 0)).bind fun v0 =>
k .ret ⟨ar 6 (up x [(2,v0),(3,(x 0)),(4,(x 0)),(5,v0)]), h⟩ := by kernel_rfl
theorem call86 (a0 : Value) : evC Try.prog 86 #[a0] h = cK c86_0 6 (up un [(0,a0)]) (nm h) (retK Try.f86 Try.prog h) :=
  (evC_call 86 Try.f86 c86_0 Try.func86 (by kernel_rfl) #[a0] h).trans (by kernel_rfl)
theorem ret86 : retK Try.f86 Try.prog g .ret ⟨ar 6 x, h⟩ = fin g (some (x 2)) h := by kernel_rfl
theorem retn86 : retK Try.f86 Try.prog g .normal ⟨ar 6 x, h⟩ = fin g (some (x 2)) h := by kernel_rfl
end Go.Am
namespace Go.Am
open Go.Proofs
set_option maxRecDepth 100000
variable {β : Type} (x : Nat → Value) (h : Heap) (k : Ex → St → Option β) (r m : List Nat) (g : Heap)
noncomputable def c71_0 : Code := bodyC Try.f71 []
theorem c71_0_eq : cK c71_0 20 x h k =
obH (ev 85 #[x 0] h) fun v0 h1 =>
obH (ev 85 #[x 1] h1) fun v2 h3 =>
cnd v0 (
cnd v2 (
k .ret ⟨ar 20 (up x [(4,(.int .i64 0)),(5,v0),(6,v2),(7,(x 0)),(8,v0),(9,(x 1)),(10,v2),(11,v0),(12,v2)]), h3⟩) (
k .ret ⟨ar 20 (up x [(4,(.int .i64 (-1))),(5,v0),(6,v2),(7,(x 0)),(8,v0),(9,(x 1)),(10,v2),(11,v0),(12,v2)]), h3⟩)) (
cnd v2 (
k .ret ⟨ar 20 (up x [(4,(.int .i64 1)),(5,v0),(6,v2),(7,(x 0)),(8,v0),(9,(x 1)),(10,v2),(11,v0),(13,v2)]), h3⟩) (
(bn .lss 3 (x 0) (x 1)).bind fun v4 =>
cnd v4 (
k .ret ⟨ar 20 (up x [(4,(.int .i64 (-1))),(5,v0),(6,v2),(7,(x 0)),(8,v0),(9,(x 1)),(10,v2),(11,v0),(13,v2),(14,(x 0)),(15,(x 1)),(16,v4)]), h3⟩) (
(bn .gtr 3 (x 0) (x 1)).bind fun v5 =>
cnd v5 (
k .ret ⟨ar 20 (up x [(4,(.int .i64 1)),(5,v0),(6,v2),(7,(x 0)),(8,v0),(9,(x 1)),(10,v2),(11,v0),(13,v2),(14,(x 0)),(15,(x 1)),(16,v4),(17,(x 0)),(18,(x 1)),(19,v5)]), h3⟩) (
k .ret ⟨ar 20 (up x [(4,(.int .i64 0)),(5,v0),(6,v2),(7,(x 0)),(8,v0),(9,(x 1)),(10,v2),(11,v0),(13,v2),(14,(x 0)),(15,(x 1)),(16,v4),(17,(x 0)),(18,(x 1)),(19,v5)]), h3⟩)))) := by kernel_rfl
theorem call71 (a0 a1 : Value) : evC Try.prog 71 #[a0,a1] h = cK c71_0 20 (up un [(0,a0),(1,a1)]) (nm h) (retK Try.f71 Try.prog h) :=
  (evC_call 71 Try.f71 c71_0 Try.func71 (by kernel_rfl) #[a0,a1] h).trans (by kernel_rfl)
theorem ret71 : retK Try.f71 Try.prog g .ret ⟨ar 20 x, h⟩ = fin g (some (x 4)) h := by kernel_rfl
theorem retn71 : retK Try.f71 Try.prog g .normal ⟨ar 20 x, h⟩ = fin g (some (x 4)) h := by kernel_rfl
end Go.Am
namespace Go.Am
open Go.Proofs
set_option maxRecDepth 100000
variable {β : Type} (x : Nat → Value) (h : Heap) (k : Ex → St → Option β) (r m : List Nat) (g : Heap)
noncomputable def c72_0 : Code := bodyC Try.f72 []
theorem c72_0_eq : cK c72_0 20 x h k =
obH (ev 86 #[x 0] h) fun v0 h1 =>
obH (ev 86 #[x 1] h1) fun v2 h3 =>
cnd v0 (
cnd v2 (
k .ret ⟨ar 20 (up x [(4,(.int .i64 0)),(5,v0),(6,v2),(7,(x 0)),(8,v0),(9,(x 1)),(10,v2),(11,v0),(12,v2)]), h3⟩) (
k .ret ⟨ar 20 (up x [(4,(.int .i64 (-1))),(5,v0),(6,v2),(7,(x 0)),(8,v0),(9,(x 1)),(10,v2),(11,v0),(12,v2)]), h3⟩)) (
cnd v2 (
k .ret ⟨ar 20 (up x [(4,(.int .i64 1)),(5,v0),(6,v2),(7,(x 0)),(8,v0),(9,(x 1)),(10,v2),(11,v0),(13,v2)]), h3⟩) (
(bn .lss 35 (x 0) (x 1)).bind fun v4 =>
cnd v4 (
k .ret ⟨ar 20 (up x [(4,(.int .i64 (-1))),(5,v0),(6,v2),(7,(x 0)),(8,v0),(9,(x 1)),(10,v2),(11,v0),(13,v2),(14,(x 0)),(15,(x 1)),(16,v4)]), h3⟩) (
(bn .gtr 35 (x 0) (x 1)).bind fun v5 =>
cnd v5 (
k .ret ⟨ar 20 (up x [(4,(.int .i64 1)),(5,v0),(6,v2),(7,(x 0)),(8,v0),(9,(x 1)),(10,v2),(11,v0),(13,v2),(14,(x 0)),(15,(x 1)),(16,v4),(17,(x 0)),(18,(x 1)),(19,v5)]), h3⟩) (
k .ret ⟨ar 20 (up x [(4,(.int .i64 0)),(5,v0),(6,v2),(7,(x 0)),(8,v0),(9,(x 1)),(10,v2),(11,v0),(13,v2),(14,(x 0)),(15,(x 1)),(16,v4),(17,(x 0)),(18,(x 1)),(19,v5)]), h3⟩)))) := by kernel_rfl
theorem call72 (a0 a1 : Value) : evC Try.prog 72 #[a0,a1] h = cK c72_0 20 (up un [(0,a0),(1,a1)]) (nm h) (retK Try.f72 Try.prog h) :=
  (evC_call 72 Try.f72 c72_0 Try.func72 (by kernel_rfl) #[a0,a1] h).trans (by kernel_rfl)
theorem ret72 : retK Try.f72 Try.prog g .ret ⟨ar 20 x, h⟩ = fin g (some (x 4)) h := by kernel_rfl
theorem retn72 : retK Try.f72 Try.prog g .normal ⟨ar 20 x, h⟩ = fin g (some (x 4)) h := by kernel_rfl
end Go.Am
namespace Go.Am
open Go.Proofs
set_option maxRecDepth 100000
variable {β : Type} (x : Nat → Value) (h : Heap) (k : Ex → St → Option β) (r m : List Nat) (g : Heap)
noncomputable def c70_0 : Code := bodyC Try.f70 []
noncomputable def c70_1 : Code := bodyC Try.f70 [true, true, false, true, false, false]
noncomputable def c70_2 : Code := bodyC Try.f70 [true, true, true]
theorem c70_0_eq : cK c70_0 18 x h k =
(ln 43 (x 0) h).bind fun v0 =>
lK c70_1 18 (up x [(2,(.int .i64 0)),(3,(.int .i64 0)),(6,(x 0)),(7,v0),(8,(.int .i64 0))]) h (blockK 0 (sK c70_2 k)) := by kernel_rfl
theorem c70_1_eq : cK c70_1 18 x h k =
(bn .lss 3 (x 8) (x 7)).bind fun v1 =>
cnd v1 (
(ia 43 (x 6) (x 8)).bind fun v2 =>
(ld 3 v2 h).bind fun v3 =>
(bn .neq 3 v3 (x 3)).bind fun v4 =>
cnd v4 (
k .ret ⟨ar 18 (up x [(2,v3),(5,v3),(9,v1),(10,v2),(11,v3),(12,v3),(13,(x 3)),(14,v4),(15,v3)]), h⟩) (
(bn .add 3 (x 8) (.int .i64 1)).bind fun v5 =>
k .normal ⟨ar 18 (up x [(5,v3),(8,v5),(9,v1),(10,v2),(11,v3),(12,v3),(13,(x 3)),(14,v4),(16,v5)]), h⟩)) (
k (.exit 0) ⟨ar 18 (up x [(9,v1)]), h⟩) := by kernel_rfl
theorem c70_2_eq : cK c70_2 18 x h k =
k .ret ⟨ar 18 (up x [(2,(x 3)),(17,(x 3))]), h⟩ := by kernel_rfl
theorem call70 (a0 : Value) : evC Try.prog 70 #[a0] h = cK c70_0 18 (up un [(0,a0)]) (nm h) (retK Try.f70 Try.prog h) :=
  (evC_call 70 Try.f70 c70_0 Try.func70 (by kernel_rfl) #[a0] h).trans (by kernel_rfl)
theorem ret70 : retK Try.f70 Try.prog g .ret ⟨ar 18 x, h⟩ = fin g (some (x 2)) h := by kernel_rfl
theorem retn70 : retK Try.f70 Try.prog g .normal ⟨ar 18 x, h⟩ = fin g (some (x 2)) h := by kernel_rfl
end Go.Am
namespace Go.Am
open Go.Proofs
set_option maxRecDepth 100000
variable {β : Type} (x : Nat → Value) (h : Heap) (k : Ex → St → Option β) (r m : List Nat) (g : Heap)
noncomputable def c48_0 : Code := bodyC Try.f48 []
theorem c48_0_eq : cK c48_0 17 x h k =
obH (boxV Try.prog 57 (x 0) h) fun v0 h1 =>
obH (boxV Try.prog 57 (x 1) h1) fun v2 h3 =>
(fa 57 v0 0).bind fun v4 =>
(ld 3 v4 h3).bind fun v5 =>
(fa 57 v2 0).bind fun v6 =>
(ld 3 v6 h3).bind fun v7 =>
obH (ev 71 #[v5,v7] (nm h3)) fun v8 h9 =>
(fa 57 v0 1).bind fun v10 =>
(ld 35 v10 (am h9 h3)).bind fun v11 =>
(fa 57 v2 1).bind fun v12 =>
(ld 35 v12 (am h9 h3)).bind fun v13 =>
obH (ev 72 #[v11,v13] (am h9 h3)) fun v14 h15 =>
obH (buildSliceV Try.prog 43 2 #[(0, v8), (1, v14)] h15) fun v16 h17 =>
obH (ev 70 #[v16] h17) fun v18 h19 =>
chk ((rb v12) ++ ((rb v10) ++ [])) (h9.mods ++ []) (
k .ret ⟨ar 17 (up x [(2,v0),(3,v2),(4,v18),(5,v4),(6,v5),(7,v6),(8,v7),(9,v8),(10,v10),(11,v11),(12,v12),(13,v13),(14,v14),(15,v16),(16,v18)]), h19⟩) := by kernel_rfl
theorem call48 (a0 a1 : Value) : evC Try.prog 48 #[a0,a1] h = cK c48_0 17 (up un [(0,a0),(1,a1)]) (nm h) (retK Try.f48 Try.prog h) :=
  (evC_call 48 Try.f48 c48_0 Try.func48 (by kernel_rfl) #[a0,a1] h).trans (by kernel_rfl)
theorem ret48 : retK Try.f48 Try.prog g .ret ⟨ar 17 x, h⟩ = fin g (some (x 4)) h := by kernel_rfl
theorem retn48 : retK Try.f48 Try.prog g .normal ⟨ar 17 x, h⟩ = fin g (some (x 4)) h := by kernel_rfl
end Go.Am
namespace Go.Am
open Go.Proofs
set_option maxRecDepth 100000
variable (Aa Ab Ac Ad Ae Af Ag Ah Ai Aj Ak : Value)
noncomputable def c97_0 : Code := bodyC Try.f97 []
noncomputable def c97_1 : Code := bodyC Try.f97 [true, true, false, false, false]
noncomputable def c97_2 : Code := bodyC Try.f97 [true, true, true]
theorem c97_0_eq {β : Type} (h : Heap) (k : Ex → St → Option β) : codeK Try.prog (evC Try.prog) loopL c97_0 ⟨#[Aa,Ab,Ac,Ad,Ae,Af,Ag,Ah,Ai,Aj,Ak], h⟩ k =
loopK Try.prog (evC Try.prog) c97_1 ⟨#[Aa,Ab, (Go.Value.int Go.IntKind.i64 0), (Go.Value.int Go.IntKind.i64 1),Ae,Af,Ag,Ah,Ai,Aj,Ak], h⟩ (blockK 0 (seqK Try.prog (evC Try.prog) c97_2 k)) := by kernel_rfl
theorem c97_1_eq {β : Type} (h : Heap) (k : Ex → St → Option β) : codeK Try.prog (evC Try.prog) loopL c97_1 ⟨#[Aa,Ab,Ac,Ad,Ae,Af,Ag,Ah,Ai,Aj,Ak], h⟩ k =
(binV Try.prog .geq 35 (.tmp 4) (.const (Go.Value.int Go.IntKind.u64 128)) Aa (Go.Value.int Go.IntKind.u64 128)).bind fun t5_0 =>
cnd t5_0 (
(binV Try.prog .shr 35 (.tmp 6) (.const (Go.Value.int Go.IntKind.u64 7)) Aa (Go.Value.int Go.IntKind.u64 7)).bind fun t7_1 =>
(binV Try.prog .add 3 (.tmp 8) (.const (Go.Value.int Go.IntKind.i64 1)) Ad (Go.Value.int Go.IntKind.i64 1)).bind fun t9_2 =>
k .normal ⟨#[t7_1,Ab,Ac, t9_2,Aa, t5_0,Aa, t7_1,Ad, t9_2,Ak], h⟩) (
k (.exit 0) ⟨#[Aa,Ab,Ac,Ad,Aa, t5_0,Ag,Ah,Ai,Aj,Ak], h⟩) := by kernel_rfl
theorem c97_2_eq {β : Type} (h : Heap) (k : Ex → St → Option β) : codeK Try.prog (evC Try.prog) loopL c97_2 ⟨#[Aa,Ab,Ac,Ad,Ae,Af,Ag,Ah,Ai,Aj,Ak], h⟩ k =
k .ret ⟨#[Aa,Ab,Ad,Ad,Ae,Af,Ag,Ah,Ai,Aj,Ad], h⟩ := by kernel_rfl
theorem call97 (h : Heap) : evC Try.prog 97 #[Aa] h = codeK Try.prog (evC Try.prog) loopL c97_0 ⟨#[Aa, undef, undef, undef, undef, undef, undef, undef, undef, undef, undef], nm h⟩ (retK Try.f97 Try.prog h) :=
  (evC_call 97 Try.f97 c97_0 Try.func97 (by kernel_rfl) #[Aa] h).trans (by kernel_rfl)
theorem ret97 (h0 h : Heap) : retK Try.f97 Try.prog h0 .ret ⟨#[Aa,Ab,Ac,Ad,Ae,Af,Ag,Ah,Ai,Aj,Ak], h⟩ = fin h0 (some Ac) h := by kernel_rfl
theorem retn97 (h0 h : Heap) : retK Try.f97 Try.prog h0 .normal ⟨#[Aa,Ab,Ac,Ad,Ae,Af,Ag,Ah,Ai,Aj,Ak], h⟩ = fin h0 (some Ac) h := by kernel_rfl
end Go.Am
namespace Go.Am
open Go.Proofs
set_option maxRecDepth 100000
variable (Aa Ab Ac Ad Ae Af Ag Ah Ai Aj Ak Al An Ao Ap Aq Ar As At Au Av Aw Ax : Value)
noncomputable def c68_0 : Code := bodyC Try.f68 []
noncomputable def c68_1 : Code := bodyC Try.f68 [true, true, false, false, false]
noncomputable def c68_2 : Code := bodyC Try.f68 [true, true, true]
theorem c68_0_eq {β : Type} (h : Heap) (k : Ex → St → Option β) : codeK Try.prog (evC Try.prog) loopL c68_0 ⟨#[Aa,Ab,Ac,Ad,Ae,Af,Ag,Ah,Ai,Aj,Ak,Al,An,Ao,Ap,Aq,Ar,As,At,Au,Av,Aw,Ax], h⟩ k =
obH (appendV Try.prog 33 (some 33) (Go.Value.slice Option.none 0 0) Aa h) fun t7_0 h1 =>
loopK Try.prog (evC Try.prog) c68_1 ⟨#[Aa,Ab,Ac,Ad, (Go.Value.slice Option.none 0 0), t7_0,Aa, t7_0,Ai,Aj,Ak,Al,An,Ao,Ap,Aq,Ar,As,At,Au,Av,Aw,Ax], h1⟩ (blockK 0 (seqK Try.prog (evC Try.prog) c68_2 k)) := by kernel_rfl
theorem c68_1_eq {β : Type} (h : Heap) (k : Ex → St → Option β) : codeK Try.prog (evC Try.prog) loopL c68_1 ⟨#[Aa,Ab,Ac,Ad,Ae,Af,Ag,Ah,Ai,Aj,Ak,Al,An,Ao,Ap,Aq,Ar,As,At,Au,Av,Aw,Ax], h⟩ k =
(binV Try.prog .geq 35 (.tmp 8) (.const (Go.Value.int Go.IntKind.u64 128)) Ab (Go.Value.int Go.IntKind.u64 128)).bind fun t9_2 =>
cnd t9_2 (
obH (convV Try.prog 35 5 Ab h) fun t12_3 h4 =>
(binV Try.prog .or 5 (.tmp 12) (.const (Go.Value.int Go.IntKind.u8 128)) t12_3 (Go.Value.int Go.IntKind.u8 128)).bind fun t13_5 =>
obH (buildSliceV Try.prog 33 1 #[(0, t13_5)] h4) fun t14_6 h7 =>
obH (appendV Try.prog 33 (some 33) Af t14_6 h7) fun t15_8 h9 =>
(binV Try.prog .shr 35 (.tmp 16) (.const (Go.Value.int Go.IntKind.u64 7)) Ab (Go.Value.int Go.IntKind.u64 7)).bind fun t17_10 =>
k .normal ⟨#[Aa, t17_10,Ac,Ad,Ae, t15_8,Ag,Ah,Ab, t9_2,Af,Ab, t12_3, t13_5, t14_6, t15_8,Ab, t17_10,At,Au,Av,Aw,Ax], h9⟩) (
k (.exit 0) ⟨#[Aa,Ab,Ac,Ad,Ae,Af,Ag,Ah,Ab, t9_2,Ak,Al,An,Ao,Ap,Aq,Ar,As,At,Au,Av,Aw,Ax], h⟩) := by kernel_rfl
theorem c68_2_eq {β : Type} (h : Heap) (k : Ex → St → Option β) : codeK Try.prog (evC Try.prog) loopL c68_2 ⟨#[Aa,Ab,Ac,Ad,Ae,Af,Ag,Ah,Ai,Aj,Ak,Al,An,Ao,Ap,Aq,Ar,As,At,Au,Av,Aw,Ax], h⟩ k =
obH (convV Try.prog 35 5 Ab h) fun t20_11 h12 =>
obH (buildSliceV Try.prog 33 1 #[(0, t20_11)] h12) fun t21_13 h14 =>
obH (appendV Try.prog 33 (some 33) Af t21_13 h14) fun t22_15 h16 =>
k .ret ⟨#[Aa,Ab,Ac,Ad, t22_15,Af,Ag,Ah,Ai,Aj,Ak,Al,An,Ao,Ap,Aq,Ar,As,Af,Ab, t20_11, t21_13, t22_15], h16⟩ := by kernel_rfl
theorem call68 (h : Heap) : evC Try.prog 68 #[Aa,Ab] h = codeK Try.prog (evC Try.prog) loopL c68_0 ⟨#[Aa,Ab, undef, undef, undef, undef, undef, undef, undef, undef, undef, undef, undef, undef, undef, undef, undef, undef, undef, undef, undef, undef, undef], nm h⟩ (retK Try.f68 Try.prog h) :=
  (evC_call 68 Try.f68 c68_0 Try.func68 (by kernel_rfl) #[Aa,Ab] h).trans (by kernel_rfl)
theorem ret68 (h0 h : Heap) : retK Try.f68 Try.prog h0 .ret ⟨#[Aa,Ab,Ac,Ad,Ae,Af,Ag,Ah,Ai,Aj,Ak,Al,An,Ao,Ap,Aq,Ar,As,At,Au,Av,Aw,Ax], h⟩ = fin h0 (some Ae) h := by kernel_rfl
theorem retn68 (h0 h : Heap) : retK Try.f68 Try.prog h0 .normal ⟨#[Aa,Ab,Ac,Ad,Ae,Af,Ag,Ah,Ai,Aj,Ak,Al,An,Ao,Ap,Aq,Ar,As,At,Au,Av,Aw,Ax], h⟩ = fin h0 (some Ae) h := by kernel_rfl
end Go.Am
namespace Go.Am
open Go.Proofs
set_option maxRecDepth 100000
variable (Aa Ab Ac Ad Ae Af Ag Ah Ai Aj Ak Al An Ao Ap Aq Ar As At Au Av Aw Ax Ay Az Ba Bb Bc Bd Be Bf Bg Bh Bi Bj Bk Bl Bm Bn Bo Bp Bq : Value)
noncomputable def c77_0 : Code := bodyC Try.f77 []
noncomputable def c77_1 : Code := bodyC Try.f77 [true, false, true, false, false]
noncomputable def c77_2 : Code := bodyC Try.f77 [true, true]
theorem c77_0_eq {β : Type} (h : Heap) (k : Ex → St → Option β) : codeK Try.prog (evC Try.prog) loopL c77_0 ⟨#[Aa,Ab,Ac,Ad,Ae,Af,Ag,Ah,Ai,Aj,Ak,Al,An,Ao,Ap,Aq,Ar,As,At,Au,Av,Aw,Ax,Ay,Az,Ba,Bb,Bc,Bd,Be,Bf,Bg,Bh,Bi,Bj,Bk,Bl,Bm,Bn,Bo,Bp,Bq], h⟩ k =
(lenV Try.prog 33 Aa h).bind fun t7_0 =>
loopK Try.prog (evC Try.prog) c77_1 ⟨#[Aa,Ab, (Go.Value.int Go.IntKind.u64 0), (Go.Value.int Go.IntKind.i64 0),Ae,Af,Aa, t7_0, (Go.Value.int Go.IntKind.i64 0),Aj,Ak,Al,An,Ao,Ap,Aq,Ar,As,At,Au,Av,Aw,Ax,Ay,Az,Ba,Bb,Bc,Bd,Be,Bf,Bg,Bh,Bi,Bj,Bk,Bl,Bm,Bn,Bo,Bp,Bq], h⟩ (blockK 0 (seqK Try.prog (evC Try.prog) c77_2 k)) := by kernel_rfl
theorem c77_1_eq {β : Type} (h : Heap) (k : Ex → St → Option β) : codeK Try.prog (evC Try.prog) loopL c77_1 ⟨#[Aa,Ab,Ac,Ad,Ae,Af,Ag,Ah,Ai,Aj,Ak,Al,An,Ao,Ap,Aq,Ar,As,At,Au,Av,Aw,Ax,Ay,Az,Ba,Bb,Bc,Bd,Be,Bf,Bg,Bh,Bi,Bj,Bk,Bl,Bm,Bn,Bo,Bp,Bq], h⟩ k =
(binV Try.prog .lss 3 (.tmp 8) (.tmp 7) Ai Ah).bind fun t9_1 =>
cnd t9_1 (
(indexAddrV Try.prog 33 Ag Ai).bind fun t11_2 =>
(loadV Try.prog 5 t11_2 h).bind fun t12_3 =>
(binV Try.prog .eql 3 (.tmp 13) (.const (Go.Value.int Go.IntKind.i64 10)) Ai (Go.Value.int Go.IntKind.i64 10)).bind fun t14_4 =>
cnd t14_4 (
k (.exit 0) ⟨#[Aa,Ab,Ac,Ad,Ai, t12_3,Ag,Ah,Ai, t9_1,Ai, t11_2, t12_3,Ai, t14_4,Aq,Ar,As,At,Au,Av,Aw,Ax,Ay,Az,Ba,Bb,Bc,Bd,Be,Bf,Bg,Bh,Bi,Bj,Bk,Bl,Bm,Bn,Bo,Bp,Bq], h⟩) (
(binV Try.prog .and 5 (.tmp 16) (.const (Go.Value.int Go.IntKind.u8 127)) t12_3 (Go.Value.int Go.IntKind.u8 127)).bind fun t17_5 =>
obH (convV Try.prog 5 35 t17_5 h) fun t18_6 h7 =>
(binV Try.prog .mul 3 (.const (Go.Value.int Go.IntKind.i64 7)) (.tmp 19) (Go.Value.int Go.IntKind.i64 7) Ai).bind fun t20_8 =>
(binV Try.prog .shl 35 (.tmp 18) (.tmp 20) t18_6 t20_8).bind fun t21_9 =>
(binV Try.prog .or 35 (.tmp 15) (.tmp 21) Ac t21_9).bind fun t22_10 =>
(binV Try.prog .lss 5 (.tmp 23) (.const (Go.Value.int Go.IntKind.u8 128)) t12_3 (Go.Value.int Go.IntKind.u8 128)).bind fun t24_11 =>
cnd t24_11 (
obH (evC Try.prog 97 #[t22_10] h7) fun t26_12 h13 =>
(binV Try.prog .add 3 (.tmp 27) (.const (Go.Value.int Go.IntKind.i64 1)) Ai (Go.Value.int Go.IntKind.i64 1)).bind fun t28_14 =>
(binV Try.prog .neq 3 (.tmp 26) (.tmp 28) t26_12 t28_14).bind fun t29_15 =>
(gd (wt t29_15 false) (binV Try.prog .eql 3 (.tmp 31) (.const (Go.Value.int Go.IntKind.i64 9)) (gdV (wt t29_15 false) Ai) (Go.Value.int Go.IntKind.i64 9))).bind fun t32_16 =>
(gd (wt (gdV (wt t29_15 false) t32_16) true) (binV Try.prog .gtr 5 (.tmp 34) (.const (Go.Value.int Go.IntKind.u8 1)) (gdV (wt (gdV (wt t29_15 false) t32_16) true) t12_3) (Go.Value.int Go.IntKind.u8 1))).bind fun t35_17 =>
(gd (wt t29_15 false) (pickV (gdV (wt t29_15 false) t32_16) t35_17 (Go.Value.bool Bool.false))).bind fun t36_18 =>
(pickV t29_15 (Go.Value.bool Bool.true) t36_18).bind fun t37_19 =>
cnd t37_19 (
k (.exit 0) ⟨#[Aa,Ab, t22_10,Ad,Ai, t12_3,Ag,Ah,Ai, t9_1,Ai, t11_2, t12_3,Ai, t14_4,Ac, t12_3, t17_5, t18_6,Ai, t20_8, t21_9, t22_10, t12_3, t24_11, t22_10, t26_12,Ai, t28_14, t29_15, t29_15, (gdV (wt t29_15 false) Ai), t32_16, (gdV (wt t29_15 false) t32_16), (gdV (wt (gdV (wt t29_15 false) t32_16) true) t12_3), t35_17, t36_18, t37_19,Bn,Bo,Bp,Bq], h13⟩) (
(binV Try.prog .add 3 (.tmp 39) (.const (Go.Value.int Go.IntKind.i64 1)) Ai (Go.Value.int Go.IntKind.i64 1)).bind fun t40_20 =>
k .ret ⟨#[Aa,Ab, t22_10, t40_20,Ai, t12_3,Ag,Ah,Ai, t9_1,Ai, t11_2, t12_3,Ai, t14_4,Ac, t12_3, t17_5, t18_6,Ai, t20_8, t21_9, t22_10, t12_3, t24_11, t22_10, t26_12,Ai, t28_14, t29_15, t29_15, (gdV (wt t29_15 false) Ai), t32_16, (gdV (wt t29_15 false) t32_16), (gdV (wt (gdV (wt t29_15 false) t32_16) true) t12_3), t35_17, t36_18, t37_19, t22_10,Ai, t40_20,Bq], h13⟩)) (
(binV Try.prog .add 3 (.tmp 8) (.const (Go.Value.int Go.IntKind.i64 1)) Ai (Go.Value.int Go.IntKind.i64 1)).bind fun t41_21 =>
k .normal ⟨#[Aa,Ab, t22_10,Ad,Ai, t12_3,Ag,Ah, t41_21, t9_1,Ai, t11_2, t12_3,Ai, t14_4,Ac, t12_3, t17_5, t18_6,Ai, t20_8, t21_9, t22_10, t12_3, t24_11,Ba,Bb,Bc,Bd,Be,Bf,Bg,Bh,Bi,Bj,Bk,Bl,Bm,Bn,Bo,Bp, t41_21], h7⟩))) (
k (.exit 0) ⟨#[Aa,Ab,Ac,Ad,Ae,Af,Ag,Ah,Ai, t9_1,Ak,Al,An,Ao,Ap,Aq,Ar,As,At,Au,Av,Aw,Ax,Ay,Az,Ba,Bb,Bc,Bd,Be,Bf,Bg,Bh,Bi,Bj,Bk,Bl,Bm,Bn,Bo,Bp,Bq], h⟩) := by kernel_rfl
theorem c77_2_eq {β : Type} (h : Heap) (k : Ex → St → Option β) : codeK Try.prog (evC Try.prog) loopL c77_2 ⟨#[Aa,Ab,Ac,Ad,Ae,Af,Ag,Ah,Ai,Aj,Ak,Al,An,Ao,Ap,Aq,Ar,As,At,Au,Av,Aw,Ax,Ay,Az,Ba,Bb,Bc,Bd,Be,Bf,Bg,Bh,Bi,Bj,Bk,Bl,Bm,Bn,Bo,Bp,Bq], h⟩ k =
k .ret ⟨#[Aa,Ab, (Go.Value.int Go.IntKind.u64 0), (Go.Value.int Go.IntKind.i64 0),Ae,Af,Ag,Ah,Ai,Aj,Ak,Al,An,Ao,Ap,Aq,Ar,As,At,Au,Av,Aw,Ax,Ay,Az,Ba,Bb,Bc,Bd,Be,Bf,Bg,Bh,Bi,Bj,Bk,Bl,Bm,Bn,Bo,Bp,Bq], h⟩ := by kernel_rfl
theorem call77 (h : Heap) : evC Try.prog 77 #[Aa] h = codeK Try.prog (evC Try.prog) loopL c77_0 ⟨#[Aa, undef, undef, undef, undef, undef, undef, undef, undef, undef, undef, undef, undef, undef, undef, undef, undef, undef, undef, undef, undef, undef, undef, undef, undef, undef, undef, undef, undef, undef, undef, undef, undef, undef, undef, undef, undef, undef, undef, undef, undef, undef], nm h⟩ (retK Try.f77 Try.prog h) :=
  (evC_call 77 Try.f77 c77_0 Try.func77 (by kernel_rfl) #[Aa] h).trans (by kernel_rfl)
theorem ret77 (h0 h : Heap) : retK Try.f77 Try.prog h0 .ret ⟨#[Aa,Ab,Ac,Ad,Ae,Af,Ag,Ah,Ai,Aj,Ak,Al,An,Ao,Ap,Aq,Ar,As,At,Au,Av,Aw,Ax,Ay,Az,Ba,Bb,Bc,Bd,Be,Bf,Bg,Bh,Bi,Bj,Bk,Bl,Bm,Bn,Bo,Bp,Bq], h⟩ = fin h0 (some (.tuple #[Ac,Ad])) h := by kernel_rfl
theorem retn77 (h0 h : Heap) : retK Try.f77 Try.prog h0 .normal ⟨#[Aa,Ab,Ac,Ad,Ae,Af,Ag,Ah,Ai,Aj,Ak,Al,An,Ao,Ap,Aq,Ar,As,At,Au,Av,Aw,Ax,Ay,Az,Ba,Bb,Bc,Bd,Be,Bf,Bg,Bh,Bi,Bj,Bk,Bl,Bm,Bn,Bo,Bp,Bq], h⟩ = fin h0 (some (.tuple #[Ac,Ad])) h := by kernel_rfl
end Go.Am
namespace Go.Am
open Go.Proofs
set_option maxRecDepth 100000
variable (Aa Ab Ac Ad Ae Af Ag Ah : Value)
noncomputable def c69_0 : Code := bodyC Try.f69 []
theorem c69_0_eq {β : Type} (h : Heap) (k : Ex → St → Option β) : codeK Try.prog (evC Try.prog) loopL c69_0 ⟨#[Aa,Ab,Ac,Ad,Ae,Af,Ag,Ah], h⟩ k =
(binV Try.prog .eql 33 (.tmp 3) (.const (Go.Value.slice Option.none 0 0)) Aa (Go.Value.slice Option.none 0 0)).bind fun t4_0 =>
cnd t4_0 (
k .ret ⟨#[Aa,Ab, (Go.Value.slice Option.none 0 0),Aa, t4_0,Af,Ag,Ah], h⟩) (
obH (buildSliceV Try.prog 33 0 #[] h) fun t5_1 h2 =>
obH (appendV Try.prog 33 (some 33) t5_1 Aa h2) fun t7_3 h4 =>
k .ret ⟨#[Aa,Ab, t7_3,Aa, t4_0, t5_1,Aa, t7_3], h4⟩) := by kernel_rfl
theorem call69 (h : Heap) : evC Try.prog 69 #[Aa] h = codeK Try.prog (evC Try.prog) loopL c69_0 ⟨#[Aa, undef, undef, undef, undef, undef, undef, undef], nm h⟩ (retK Try.f69 Try.prog h) :=
  (evC_call 69 Try.f69 c69_0 Try.func69 (by kernel_rfl) #[Aa] h).trans (by kernel_rfl)
theorem ret69 (h0 h : Heap) : retK Try.f69 Try.prog h0 .ret ⟨#[Aa,Ab,Ac,Ad,Ae,Af,Ag,Ah], h⟩ = fin h0 (some Ac) h := by kernel_rfl
theorem retn69 (h0 h : Heap) : retK Try.f69 Try.prog h0 .normal ⟨#[Aa,Ab,Ac,Ad,Ae,Af,Ag,Ah], h⟩ = fin h0 (some Ac) h := by kernel_rfl
end Go.Am
namespace Go.Am
open Go.Proofs
set_option maxRecDepth 100000
variable (Aa Ab Ac : Value)
noncomputable def c44_0 : Code := bodyC Try.f44 []
theorem c44_0_eq {β : Type} (h : Heap) (k : Ex → St → Option β) : codeK Try.prog (evC Try.prog) loopL c44_0 ⟨#[Aa,Ab,Ac], h⟩ k =
(buildV Try.prog 126 #[]).bind fun t1_0 =>
obH (boxV Try.prog 126 t1_0 h) fun t2_1 h2 =>
k .ret ⟨#[t2_1, t1_0, t2_1], h2⟩ := by kernel_rfl
theorem call44 (h : Heap) : evC Try.prog 44 #[] h = codeK Try.prog (evC Try.prog) loopL c44_0 ⟨#[undef, undef, undef], nm h⟩ (retK Try.f44 Try.prog h) :=
  (evC_call 44 Try.f44 c44_0 Try.func44 (by kernel_rfl) #[] h).trans (by kernel_rfl)
theorem ret44 (h0 h : Heap) : retK Try.f44 Try.prog h0 .ret ⟨#[Aa,Ab,Ac], h⟩ = fin h0 (some Aa) h := by kernel_rfl
theorem retn44 (h0 h : Heap) : retK Try.f44 Try.prog h0 .normal ⟨#[Aa,Ab,Ac], h⟩ = fin h0 (some Aa) h := by kernel_rfl
end Go.Am
namespace Go.Am
open Go.Proofs
set_option maxRecDepth 100000
variable (Aa Ab Ac Ad Ae Af Ag Ah Ai Aj Ak Al An : Value)
noncomputable def c45_0 : Code := bodyC Try.f45 []
theorem c45_0_eq {β : Type} (h : Heap) (k : Ex → St → Option β) : codeK Try.prog (evC Try.prog) loopL c45_0 ⟨#[Aa,Ab,Ac,Ad,Ae,Af,Ag,Ah,Ai,Aj,Ak,Al,An], h⟩ k =
(nilCheckV Aa).bind fun t6_0 =>
(fieldAddrV Try.prog 126 t6_0 0).bind fun t7_1 =>
(loadV Try.prog 33 t7_1 h).bind fun t8_2 =>
obH (evC Try.prog 68 #[t8_2,Ab] h) fun t10_3 h4 =>
(nilCheckV Aa).bind fun t11_5 =>
(fieldAddrV Try.prog 126 t11_5 0).bind fun t12_6 =>
(storeV Try.prog 33 t12_6 t10_3 h4).bind fun h7 =>
k .normal ⟨#[Aa,Ab,Ac,Ad,Aa,Aa, t6_0, t7_1, t8_2,Ab, t10_3, t11_5, t12_6], h7⟩ := by kernel_rfl
theorem call45 (h : Heap) : evC Try.prog 45 #[Aa,Ab] h = codeK Try.prog (evC Try.prog) loopL c45_0 ⟨#[Aa,Ab, undef, undef, undef, undef, undef, undef, undef, undef, undef, undef, undef], nm h⟩ (retK Try.f45 Try.prog h) :=
  (evC_call 45 Try.f45 c45_0 Try.func45 (by kernel_rfl) #[Aa,Ab] h).trans (by kernel_rfl)
theorem ret45 (h0 h : Heap) : retK Try.f45 Try.prog h0 .ret ⟨#[Aa,Ab,Ac,Ad,Ae,Af,Ag,Ah,Ai,Aj,Ak,Al,An], h⟩ = fin h0 (some (.tuple #[])) h := by kernel_rfl
theorem retn45 (h0 h : Heap) : retK Try.f45 Try.prog h0 .normal ⟨#[Aa,Ab,Ac,Ad,Ae,Af,Ag,Ah,Ai,Aj,Ak,Al,An], h⟩ = fin h0 (some (.tuple #[])) h := by kernel_rfl
end Go.Am
namespace Go.Am
open Go.Proofs
set_option maxRecDepth 100000
variable (Aa Ab Ac Ad Ae Af Ag Ah : Value)
noncomputable def c46_0 : Code := bodyC Try.f46 []
theorem c46_0_eq {β : Type} (h : Heap) (k : Ex → St → Option β) : codeK Try.prog (evC Try.prog) loopL c46_0 ⟨#[Aa,Ab,Ac,Ad,Ae,Af,Ag,Ah], h⟩ k =
(nilCheckV Aa).bind fun t4_0 =>
(fieldAddrV Try.prog 126 t4_0 0).bind fun t5_1 =>
(loadV Try.prog 33 t5_1 h).bind fun t6_2 =>
obH (evC Try.prog 69 #[t6_2] h) fun t7_3 h4 =>
k .ret ⟨#[Aa,Ab, t7_3,Aa, t4_0, t5_1, t6_2, t7_3], h4⟩ := by kernel_rfl
theorem call46 (h : Heap) : evC Try.prog 46 #[Aa] h = codeK Try.prog (evC Try.prog) loopL c46_0 ⟨#[Aa, undef, undef, undef, undef, undef, undef, undef], nm h⟩ (retK Try.f46 Try.prog h) :=
  (evC_call 46 Try.f46 c46_0 Try.func46 (by kernel_rfl) #[Aa] h).trans (by kernel_rfl)
theorem ret46 (h0 h : Heap) : retK Try.f46 Try.prog h0 .ret ⟨#[Aa,Ab,Ac,Ad,Ae,Af,Ag,Ah], h⟩ = fin h0 (some Ac) h := by kernel_rfl
theorem retn46 (h0 h : Heap) : retK Try.f46 Try.prog h0 .normal ⟨#[Aa,Ab,Ac,Ad,Ae,Af,Ag,Ah], h⟩ = fin h0 (some Ac) h := by kernel_rfl
end Go.Am
namespace Go.Am
open Go.Proofs
set_option maxRecDepth 100000
variable (Aa Ab Ac Ad Ae Af Ag : Value)
noncomputable def c53_0 : Code := bodyC Try.f53 []
theorem c53_0_eq {β : Type} (h : Heap) (k : Ex → St → Option β) : codeK Try.prog (evC Try.prog) loopL c53_0 ⟨#[Aa,Ab,Ac,Ad,Ae,Af,Ag], h⟩ k =
obH (evC Try.prog 69 #[Aa] h) fun t4_0 h1 =>
(buildV Try.prog 138 #[(0, t4_0)]).bind fun t5_2 =>
obH (boxV Try.prog 138 t5_2 h1) fun t6_3 h4 =>
k .ret ⟨#[Aa,Ab, t6_3,Aa, t4_0, t5_2, t6_3], h4⟩ := by kernel_rfl
theorem call53 (h : Heap) : evC Try.prog 53 #[Aa] h = codeK Try.prog (evC Try.prog) loopL c53_0 ⟨#[Aa, undef, undef, undef, undef, undef, undef], nm h⟩ (retK Try.f53 Try.prog h) :=
  (evC_call 53 Try.f53 c53_0 Try.func53 (by kernel_rfl) #[Aa] h).trans (by kernel_rfl)
theorem ret53 (h0 h : Heap) : retK Try.f53 Try.prog h0 .ret ⟨#[Aa,Ab,Ac,Ad,Ae,Af,Ag], h⟩ = fin h0 (some Ac) h := by kernel_rfl
theorem retn53 (h0 h : Heap) : retK Try.f53 Try.prog h0 .normal ⟨#[Aa,Ab,Ac,Ad,Ae,Af,Ag], h⟩ = fin h0 (some Ac) h := by kernel_rfl
end Go.Am
namespace Go.Am
open Go.Proofs
set_option maxRecDepth 100000
variable (Aa Ab Ac Ad Ae Af Ag Ah Ai Aj Ak Al An Ao Ap Aq Ar As At Au Av Aw Ax Ay Az Ba Bb Bc Bd Be Bf Bg Bh Bi : Value)
noncomputable def c54_0 : Code := bodyC Try.f54 []
theorem c54_0_eq {β : Type} (h : Heap) (k : Ex → St → Option β) : codeK Try.prog (evC Try.prog) loopL c54_0 ⟨#[Aa,Ab,Ac,Ad,Ae,Af,Ag,Ah,Ai,Aj,Ak,Al,An,Ao,Ap,Aq,Ar,As,At,Au,Av,Aw,Ax,Ay,Az,Ba,Bb,Bc,Bd,Be,Bf,Bg,Bh,Bi], h⟩ k =
(nilCheckV Aa).bind fun t9_0 =>
(fieldAddrV Try.prog 138 t9_0 0).bind fun t10_1 =>
(loadV Try.prog 33 t10_1 h).bind fun t11_2 =>
obH (evC Try.prog 77 #[t11_2] h) fun t12_3 h4 =>
(extractV t12_3 0).bind fun t13_5 =>
(extractV t12_3 1).bind fun t14_6 =>
(binV Try.prog .eql 3 (.tmp 16) (.const (Go.Value.int Go.IntKind.i64 0)) t14_6 (Go.Value.int Go.IntKind.i64 0)).bind fun t17_7 =>
(gd (wt t17_7 false) (binV Try.prog .gtr 35 (.tmp 19) (.tmp 20) (gdV (wt t17_7 false) t13_5) (gdV (wt t17_7 false) Ab))).bind fun t21_8 =>
(pickV t17_7 (Go.Value.bool Bool.true) t21_8).bind fun t22_9 =>
obH (evC Try.prog 78 #[Aa, t22_9] h4) fun t23_10 h11 =>
cnd t23_10 (
k .ret ⟨#[Aa,Ab,Ac,Ad, (Go.Value.int Go.IntKind.u64 0), t13_5, t14_6, t12_3,Aa, t9_0, t10_1, t11_2, t12_3, t13_5, t14_6,Aa, t14_6, t17_7, t17_7, (gdV (wt t17_7 false) t13_5), (gdV (wt t17_7 false) Ab), t21_8, t22_9, t23_10,Az,Ba,Bb,Bc,Bd,Be,Bf,Bg,Bh,Bi], h11⟩) (
(nilCheckV Aa).bind fun t26_12 =>
(fieldAddrV Try.prog 138 t26_12 0).bind fun t27_13 =>
(loadV Try.prog 33 t27_13 h11).bind fun t28_14 =>
(sliceV Try.prog 33 t28_14 (some t14_6) none none h11).bind fun t30_15 =>
(nilCheckV Aa).bind fun t31_16 =>
(fieldAddrV Try.prog 138 t31_16 0).bind fun t32_17 =>
(storeV Try.prog 33 t32_17 t30_15 h11).bind fun h18 =>
k .ret ⟨#[Aa,Ab,Ac,Ad, t13_5, t13_5, t14_6, t12_3,Aa, t9_0, t10_1, t11_2, t12_3, t13_5, t14_6,Aa, t14_6, t17_7, t17_7, (gdV (wt t17_7 false) t13_5), (gdV (wt t17_7 false) Ab), t21_8, t22_9, t23_10,Aa,Aa, t26_12, t27_13, t28_14, t14_6, t30_15, t31_16, t32_17, t13_5], h18⟩) := by kernel_rfl
theorem call54 (h : Heap) : evC Try.prog 54 #[Aa,Ab] h = codeK Try.prog (evC Try.prog) loopL c54_0 ⟨#[Aa,Ab, undef, undef, undef, undef, undef, undef, undef, undef, undef, undef, undef, undef, undef, undef, undef, undef, undef, undef, undef, undef, undef, undef, undef, undef, undef, undef, undef, undef, undef, undef, undef, undef], nm h⟩ (retK Try.f54 Try.prog h) :=
  (evC_call 54 Try.f54 c54_0 Try.func54 (by kernel_rfl) #[Aa,Ab] h).trans (by kernel_rfl)
theorem ret54 (h0 h : Heap) : retK Try.f54 Try.prog h0 .ret ⟨#[Aa,Ab,Ac,Ad,Ae,Af,Ag,Ah,Ai,Aj,Ak,Al,An,Ao,Ap,Aq,Ar,As,At,Au,Av,Aw,Ax,Ay,Az,Ba,Bb,Bc,Bd,Be,Bf,Bg,Bh,Bi], h⟩ = fin h0 (some Ae) h := by kernel_rfl
theorem retn54 (h0 h : Heap) : retK Try.f54 Try.prog h0 .normal ⟨#[Aa,Ab,Ac,Ad,Ae,Af,Ag,Ah,Ai,Aj,Ak,Al,An,Ao,Ap,Aq,Ar,As,At,Au,Av,Aw,Ax,Ay,Az,Ba,Bb,Bc,Bd,Be,Bf,Bg,Bh,Bi], h⟩ = fin h0 (some Ae) h := by kernel_rfl
end Go.Am
namespace Go.Am
open Go.Proofs
set_option maxRecDepth 100000
variable (Aa Ab Ac Ad Ae Af Ag Ah Ai Aj Ak Al An Ao Ap Aq : Value)
noncomputable def c57_0 : Code := bodyC Try.f57 []
theorem c57_0_eq {β : Type} (h : Heap) (k : Ex → St → Option β) : codeK Try.prog (evC Try.prog) loopL c57_0 ⟨#[Aa,Ab,Ac,Ad,Ae,Af,Ag,Ah,Ai,Aj,Ak,Al,An,Ao,Ap,Aq], h⟩ k =
(nilCheckV Aa).bind fun t4_0 =>
(fieldAddrV Try.prog 138 t4_0 1).bind fun t5_1 =>
(loadV Try.prog 4 t5_1 h).bind fun t6_2 =>
(unV Try.prog .not t6_2).bind fun t7_3 =>
(gd (wt t7_3 true) (nilCheckV (gdV (wt t7_3 true) Aa))).bind fun t10_4 =>
(gd (wt t7_3 true) (fieldAddrV Try.prog 138 t10_4 0)).bind fun t11_5 =>
(gd (wt t7_3 true) (loadV Try.prog 33 t11_5 h)).bind fun t12_6 =>
(gd (wt t7_3 true) (lenV Try.prog 33 t12_6 h)).bind fun t13_7 =>
(gd (wt t7_3 true) (binV Try.prog .eql 3 (.tmp 13) (.const (Go.Value.int Go.IntKind.i64 0)) t13_7 (Go.Value.int Go.IntKind.i64 0))).bind fun t14_8 =>
(pickV t7_3 t14_8 (Go.Value.bool Bool.false)).bind fun t15_9 =>
k .ret ⟨#[Aa,Ab, t15_9,Aa, t4_0, t5_1, t6_2, t7_3, t7_3, (gdV (wt t7_3 true) Aa), t10_4, t11_5, t12_6, t13_7, t14_8, t15_9], h⟩ := by kernel_rfl
theorem call57 (h : Heap) : evC Try.prog 57 #[Aa] h = codeK Try.prog (evC Try.prog) loopL c57_0 ⟨#[Aa, undef, undef, undef, undef, undef, undef, undef, undef, undef, undef, undef, undef, undef, undef, undef], nm h⟩ (retK Try.f57 Try.prog h) :=
  (evC_call 57 Try.f57 c57_0 Try.func57 (by kernel_rfl) #[Aa] h).trans (by kernel_rfl)
theorem ret57 (h0 h : Heap) : retK Try.f57 Try.prog h0 .ret ⟨#[Aa,Ab,Ac,Ad,Ae,Af,Ag,Ah,Ai,Aj,Ak,Al,An,Ao,Ap,Aq], h⟩ = fin h0 (some Ac) h := by kernel_rfl
theorem retn57 (h0 h : Heap) : retK Try.f57 Try.prog h0 .normal ⟨#[Aa,Ab,Ac,Ad,Ae,Af,Ag,Ah,Ai,Aj,Ak,Al,An,Ao,Ap,Aq], h⟩ = fin h0 (some Ac) h := by kernel_rfl
end Go.Am
namespace Go.Am
open Go.Proofs
set_option maxRecDepth 100000
variable (Aa Ab Ac Ad Ae Af Ag Ah Ai Aj Ak Al An Ao Ap Aq : Value)
noncomputable def c78_0 : Code := bodyC Try.f78 []
noncomputable def c78_1 : Code := bodyC Try.f78 [true, true]
theorem c78_0_eq {β : Type} (h : Heap) (k : Ex → St → Option β) : codeK Try.prog (evC Try.prog) loopL c78_0 ⟨#[Aa,Ab,Ac,Ad,Ae,Af,Ag,Ah,Ai,Aj,Ak,Al,An,Ao,Ap,Aq], h⟩ k =
cnd Ab (
(nilCheckV Aa).bind fun t8_0 =>
(fieldAddrV Try.prog 138 t8_0 0).bind fun t9_1 =>
(storeV Try.prog 33 t9_1 (Go.Value.slice Option.none 0 0) h).bind fun h2 =>
(nilCheckV Aa).bind fun t10_3 =>
(fieldAddrV Try.prog 138 t10_3 1).bind fun t11_4 =>
(storeV Try.prog 4 t11_4 (Go.Value.bool Bool.true) h2).bind fun h5 =>
codeK Try.prog (evC Try.prog) loopL c78_1 ⟨#[Aa,Ab,Ac,Ad, (Go.Value.bool Bool.false),Ab,Aa,Aa, t8_0, t9_1, t10_3, t11_4,An,Ao,Ap,Aq], h5⟩ k) (
codeK Try.prog (evC Try.prog) loopL c78_1 ⟨#[Aa,Ab,Ac,Ad, (Go.Value.bool Bool.false),Ab,Ag,Ah,Ai,Aj,Ak,Al,An,Ao,Ap,Aq], h⟩ k) := by kernel_rfl
theorem c78_1_eq {β : Type} (h : Heap) (k : Ex → St → Option β) : codeK Try.prog (evC Try.prog) loopL c78_1 ⟨#[Aa,Ab,Ac,Ad,Ae,Af,Ag,Ah,Ai,Aj,Ak,Al,An,Ao,Ap,Aq], h⟩ k =
(nilCheckV Aa).bind fun t13_6 =>
(fieldAddrV Try.prog 138 t13_6 1).bind fun t14_7 =>
(loadV Try.prog 4 t14_7 h).bind fun t15_8 =>
k .ret ⟨#[Aa,Ab,Ac,Ad, t15_8,Af,Ag,Ah,Ai,Aj,Ak,Al,Aa, t13_6, t14_7, t15_8], h⟩ := by kernel_rfl
theorem call78 (h : Heap) : evC Try.prog 78 #[Aa,Ab] h = codeK Try.prog (evC Try.prog) loopL c78_0 ⟨#[Aa,Ab, undef, undef, undef, undef, undef, undef, undef, undef, undef, undef, undef, undef, undef, undef], nm h⟩ (retK Try.f78 Try.prog h) :=
  (evC_call 78 Try.f78 c78_0 Try.func78 (by kernel_rfl) #[Aa,Ab] h).trans (by kernel_rfl)
theorem ret78 (h0 h : Heap) : retK Try.f78 Try.prog h0 .ret ⟨#[Aa,Ab,Ac,Ad,Ae,Af,Ag,Ah,Ai,Aj,Ak,Al,An,Ao,Ap,Aq], h⟩ = fin h0 (some Ae) h := by kernel_rfl
theorem retn78 (h0 h : Heap) : retK Try.f78 Try.prog h0 .normal ⟨#[Aa,Ab,Ac,Ad,Ae,Af,Ag,Ah,Ai,Aj,Ak,Al,An,Ao,Ap,Aq], h⟩ = fin h0 (some Ae) h := by kernel_rfl
end Go.Am
namespace Go.Am
open Go.Proofs
set_option maxRecDepth 100000
variable (Aa Ab Ac Ad Ae Af Ag Ah Ai Aj Ak Al An Ao Ap Aq Ar As At Au Av Aw Ax Ay : Value)
noncomputable def c83_0 : Code := bodyC Try.f83 []
noncomputable def c83_1 : Code := bodyC Try.f83 [true, true, false, false, false]
noncomputable def c83_2 : Code := bodyC Try.f83 [true, true, true]
theorem c83_0_eq {β : Type} (h : Heap) (k : Ex → St → Option β) : codeK Try.prog (evC Try.prog) loopL c83_0 ⟨#[Aa,Ab,Ac,Ad,Ae,Af,Ag,Ah,Ai,Aj,Ak,Al,An,Ao,Ap,Aq,Ar,As,At,Au,Av,Aw,Ax,Ay], h⟩ k =
obH (buildSliceV Try.prog 33 0 #[] h) fun t5_0 h1 =>
obH (appendV Try.prog 33 (some 33) t5_0 Aa h1) fun t7_2 h3 =>
loopK Try.prog (evC Try.prog) c83_1 ⟨#[t7_2,Ab,Ac,Ad, (Go.Value.slice Option.none 0 0), t5_0,Aa, t7_2,Ai,Aj,Ak,Al,An,Ao,Ap,Aq,Ar,As,At,Au,Av,Aw,Ax,Ay], h3⟩ (blockK 0 (seqK Try.prog (evC Try.prog) c83_2 k)) := by kernel_rfl
theorem c83_1_eq {β : Type} (h : Heap) (k : Ex → St → Option β) : codeK Try.prog (evC Try.prog) loopL c83_1 ⟨#[Aa,Ab,Ac,Ad,Ae,Af,Ag,Ah,Ai,Aj,Ak,Al,An,Ao,Ap,Aq,Ar,As,At,Au,Av,Aw,Ax,Ay], h⟩ k =
(binV Try.prog .geq 35 (.tmp 8) (.const (Go.Value.int Go.IntKind.u64 128)) Ab (Go.Value.int Go.IntKind.u64 128)).bind fun t9_4 =>
cnd t9_4 (
(binV Try.prog .rem 35 (.tmp 11) (.const (Go.Value.int Go.IntKind.u64 128)) Ab (Go.Value.int Go.IntKind.u64 128)).bind fun t12_5 =>
obH (convV Try.prog 35 5 t12_5 h) fun t13_6 h7 =>
(binV Try.prog .add 5 (.tmp 13) (.const (Go.Value.int Go.IntKind.u8 128)) t13_6 (Go.Value.int Go.IntKind.u8 128)).bind fun t14_8 =>
obH (buildSliceV Try.prog 33 1 #[(0, t14_8)] h7) fun t15_9 h10 =>
obH (appendV Try.prog 33 (some 33) Aa t15_9 h10) fun t16_11 h12 =>
(binV Try.prog .quo 35 (.tmp 17) (.const (Go.Value.int Go.IntKind.u64 128)) Ab (Go.Value.int Go.IntKind.u64 128)).bind fun t18_13 =>
k .normal ⟨#[t16_11, t18_13,Ac,Ad,Ae,Af,Ag,Ah,Ab, t9_4,Aa,Ab, t12_5, t13_6, t14_8, t15_9, t16_11,Ab, t18_13,Au,Av,Aw,Ax,Ay], h12⟩) (
k (.exit 0) ⟨#[Aa,Ab,Ac,Ad,Ae,Af,Ag,Ah,Ab, t9_4,Ak,Al,An,Ao,Ap,Aq,Ar,As,At,Au,Av,Aw,Ax,Ay], h⟩) := by kernel_rfl
theorem c83_2_eq {β : Type} (h : Heap) (k : Ex → St → Option β) : codeK Try.prog (evC Try.prog) loopL c83_2 ⟨#[Aa,Ab,Ac,Ad,Ae,Af,Ag,Ah,Ai,Aj,Ak,Al,An,Ao,Ap,Aq,Ar,As,At,Au,Av,Aw,Ax,Ay], h⟩ k =
obH (convV Try.prog 35 5 Ab h) fun t21_14 h15 =>
obH (buildSliceV Try.prog 33 1 #[(0, t21_14)] h15) fun t22_16 h17 =>
obH (appendV Try.prog 33 (some 33) Aa t22_16 h17) fun t23_18 h19 =>
k .ret ⟨#[Aa,Ab,Ac,Ad, t23_18,Af,Ag,Ah,Ai,Aj,Ak,Al,An,Ao,Ap,Aq,Ar,As,At,Aa,Ab, t21_14, t22_16, t23_18], h19⟩ := by kernel_rfl
theorem call83 (h : Heap) : evC Try.prog 83 #[Aa,Ab] h = codeK Try.prog (evC Try.prog) loopL c83_0 ⟨#[Aa,Ab, undef, undef, undef, undef, undef, undef, undef, undef, undef, undef, undef, undef, undef, undef, undef, undef, undef, undef, undef, undef, undef, undef], nm h⟩ (retK Try.f83 Try.prog h) :=
  (evC_call 83 Try.f83 c83_0 Try.func83 (by kernel_rfl) #[Aa,Ab] h).trans (by kernel_rfl)
theorem ret83 (h0 h : Heap) : retK Try.f83 Try.prog h0 .ret ⟨#[Aa,Ab,Ac,Ad,Ae,Af,Ag,Ah,Ai,Aj,Ak,Al,An,Ao,Ap,Aq,Ar,As,At,Au,Av,Aw,Ax,Ay], h⟩ = fin h0 (some Ae) h := by kernel_rfl
theorem retn83 (h0 h : Heap) : retK Try.f83 Try.prog h0 .normal ⟨#[Aa,Ab,Ac,Ad,Ae,Af,Ag,Ah,Ai,Aj,Ak,Al,An,Ao,Ap,Aq,Ar,As,At,Au,Av,Aw,Ax,Ay], h⟩ = fin h0 (some Ae) h := by kernel_rfl
end Go.Am
namespace Go.Am
open Go.Proofs
set_option maxRecDepth 100000
variable (Aa Ab Ac Ad Ae Af Ag Ah Ai Aj Ak Al An Ao Ap Aq Ar As At Au Av Aw Ax Ay Az Ba Bb Bc Bd Be Bf Bg Bh Bi Bj Bk Bl Bm Bn Bo Bp Bq Br Bs Bt Bu Bv : Value)
noncomputable def c79_0 : Code := bodyC Try.f79 []
noncomputable def c79_1 : Code := bodyC Try.f79 [true, true, false, true, false, false]
noncomputable def c79_2 : Code := bodyC Try.f79 [true, true, true]
theorem c79_0_eq {β : Type} (h : Heap) (k : Ex → St → Option β) : codeK Try.prog (evC Try.prog) loopL c79_0 ⟨#[Aa,Ab,Ac,Ad,Ae,Af,Ag,Ah,Ai,Aj,Ak,Al,An,Ao,Ap,Aq,Ar,As,At,Au,Av,Aw,Ax,Ay,Az,Ba,Bb,Bc,Bd,Be,Bf,Bg,Bh,Bi,Bj,Bk,Bl,Bm,Bn,Bo,Bp,Bq,Br,Bs,Bt,Bu,Bv], h⟩ k =
loopK Try.prog (evC Try.prog) c79_1 ⟨#[Aa,Ab, (Go.Value.int Go.IntKind.u64 0), (Go.Value.int Go.IntKind.i64 0), (Go.Value.int Go.IntKind.u64 0), (Go.Value.int Go.IntKind.i64 0),Ag,Ah,Ai,Aj,Ak,Al,An,Ao,Ap,Aq,Ar,As,At,Au,Av,Aw,Ax,Ay,Az,Ba,Bb,Bc,Bd,Be,Bf,Bg,Bh,Bi,Bj,Bk,Bl,Bm,Bn,Bo,Bp,Bq,Br,Bs,Bt,Bu,Bv], h⟩ (blockK 0 (seqK Try.prog (evC Try.prog) c79_2 k)) := by kernel_rfl
theorem c79_1_eq {β : Type} (h : Heap) (k : Ex → St → Option β) : codeK Try.prog (evC Try.prog) loopL c79_1 ⟨#[Aa,Ab,Ac,Ad,Ae,Af,Ag,Ah,Ai,Aj,Ak,Al,An,Ao,Ap,Aq,Ar,As,At,Au,Av,Aw,Ax,Ay,Az,Ba,Bb,Bc,Bd,Be,Bf,Bg,Bh,Bi,Bj,Bk,Bl,Bm,Bn,Bo,Bp,Bq,Br,Bs,Bt,Bu,Bv], h⟩ k =
(lenV Try.prog 33 Aa h).bind fun t9_0 =>
(binV Try.prog .lss 3 (.tmp 7) (.tmp 9) Af t9_0).bind fun t10_1 =>
(gd (wt t10_1 true) (binV Try.prog .lss 3 (.tmp 12) (.const (Go.Value.int Go.IntKind.i64 10)) (gdV (wt t10_1 true) Af) (Go.Value.int Go.IntKind.i64 10))).bind fun t13_2 =>
(pickV t10_1 t13_2 (Go.Value.bool Bool.false)).bind fun t14_3 =>
cnd t14_3 (
(indexAddrV Try.prog 33 Aa Af).bind fun t19_4 =>
(loadV Try.prog 5 t19_4 h).bind fun t20_5 =>
(binV Try.prog .eql 3 (.tmp 21) (.const (Go.Value.int Go.IntKind.i64 9)) Af (Go.Value.int Go.IntKind.i64 9)).bind fun t22_6 =>
(gd (wt t22_6 true) (binV Try.prog .gtr 5 (.tmp 24) (.const (Go.Value.int Go.IntKind.u8 1)) (gdV (wt t22_6 true) t20_5) (Go.Value.int Go.IntKind.u8 1))).bind fun t25_7 =>
(pickV t22_6 t25_7 (Go.Value.bool Bool.false)).bind fun t26_8 =>
cnd t26_8 (
k .ret ⟨#[Aa,Ab, (Go.Value.int Go.IntKind.u64 0), (Go.Value.int Go.IntKind.i64 0),Ae,Af, t20_5,Af,Aa, t9_0, t10_1, t10_1, (gdV (wt t10_1 true) Af), t13_2, t14_3,Aq,Ar,Aa,Af, t19_4, t20_5,Af, t22_6, t22_6, (gdV (wt t22_6 true) t20_5), t25_7, t26_8,Bc,Bd,Be,Bf,Bg,Bh,Bi,Bj,Bk,Bl,Bm,Bn,Bo,Bp,Bq,Br,Bs,Bt,Bu,Bv], h⟩) (
(binV Try.prog .and 5 (.tmp 28) (.const (Go.Value.int Go.IntKind.u8 127)) t20_5 (Go.Value.int Go.IntKind.u8 127)).bind fun t29_9 =>
obH (convV Try.prog 5 35 t29_9 h) fun t30_10 h11 =>
(binV Try.prog .mul 3 (.const (Go.Value.int Go.IntKind.i64 7)) (.tmp 31) (Go.Value.int Go.IntKind.i64 7) Af).bind fun t32_12 =>
obH (convV Try.prog 3 114 t32_12 h11) fun t33_13 h14 =>
(binV Try.prog .shl 35 (.tmp 30) (.tmp 33) t30_10 t33_13).bind fun t34_15 =>
(binV Try.prog .or 35 (.tmp 27) (.tmp 34) Ae t34_15).bind fun t35_16 =>
(binV Try.prog .lss 5 (.tmp 36) (.const (Go.Value.int Go.IntKind.u8 128)) t20_5 (Go.Value.int Go.IntKind.u8 128)).bind fun t37_17 =>
cnd t37_17 (
(binV Try.prog .eql 5 (.tmp 38) (.const (Go.Value.int Go.IntKind.u8 0)) t20_5 (Go.Value.int Go.IntKind.u8 0)).bind fun t39_18 =>
(gd (wt t39_18 true) (binV Try.prog .gtr 3 (.tmp 41) (.const (Go.Value.int Go.IntKind.i64 0)) (gdV (wt t39_18 true) Af) (Go.Value.int Go.IntKind.i64 0))).bind fun t42_19 =>
(pickV t39_18 t42_19 (Go.Value.bool Bool.false)).bind fun t43_20 =>
cnd t43_20 (
k .ret ⟨#[Aa,Ab, (Go.Value.int Go.IntKind.u64 0), (Go.Value.int Go.IntKind.i64 0), t35_16,Af, t20_5,Af,Aa, t9_0, t10_1, t10_1, (gdV (wt t10_1 true) Af), t13_2, t14_3,Aq,Ar,Aa,Af, t19_4, t20_5,Af, t22_6, t22_6, (gdV (wt t22_6 true) t20_5), t25_7, t26_8,Ae, t20_5, t29_9, t30_10,Af, t32_12, t33_13, t34_15, t35_16, t20_5, t37_17, t20_5, t39_18, t39_18, (gdV (wt t39_18 true) Af), t42_19, t43_20,Bt,Bu,Bv], h14⟩) (
(binV Try.prog .add 3 (.tmp 45) (.const (Go.Value.int Go.IntKind.i64 1)) Af (Go.Value.int Go.IntKind.i64 1)).bind fun t46_21 =>
k .ret ⟨#[Aa,Ab, t35_16, t46_21, t35_16,Af, t20_5,Af,Aa, t9_0, t10_1, t10_1, (gdV (wt t10_1 true) Af), t13_2, t14_3,Aq,Ar,Aa,Af, t19_4, t20_5,Af, t22_6, t22_6, (gdV (wt t22_6 true) t20_5), t25_7, t26_8,Ae, t20_5, t29_9, t30_10,Af, t32_12, t33_13, t34_15, t35_16, t20_5, t37_17, t20_5, t39_18, t39_18, (gdV (wt t39_18 true) Af), t42_19, t43_20, t35_16,Af, t46_21], h14⟩)) (
(binV Try.prog .add 3 (.tmp 15) (.const (Go.Value.int Go.IntKind.i64 1)) Af (Go.Value.int Go.IntKind.i64 1)).bind fun t16_22 =>
k .normal ⟨#[Aa,Ab,Ac,Ad, t35_16, t16_22, t20_5,Af,Aa, t9_0, t10_1, t10_1, (gdV (wt t10_1 true) Af), t13_2, t14_3,Af, t16_22,Aa,Af, t19_4, t20_5,Af, t22_6, t22_6, (gdV (wt t22_6 true) t20_5), t25_7, t26_8,Ae, t20_5, t29_9, t30_10,Af, t32_12, t33_13, t34_15, t35_16, t20_5, t37_17,Bn,Bo,Bp,Bq,Br,Bs,Bt,Bu,Bv], h14⟩))) (
k (.exit 0) ⟨#[Aa,Ab,Ac,Ad,Ae,Af,Ag,Af,Aa, t9_0, t10_1, t10_1, (gdV (wt t10_1 true) Af), t13_2, t14_3,Aq,Ar,As,At,Au,Av,Aw,Ax,Ay,Az,Ba,Bb,Bc,Bd,Be,Bf,Bg,Bh,Bi,Bj,Bk,Bl,Bm,Bn,Bo,Bp,Bq,Br,Bs,Bt,Bu,Bv], h⟩) := by kernel_rfl
theorem c79_2_eq {β : Type} (h : Heap) (k : Ex → St → Option β) : codeK Try.prog (evC Try.prog) loopL c79_2 ⟨#[Aa,Ab,Ac,Ad,Ae,Af,Ag,Ah,Ai,Aj,Ak,Al,An,Ao,Ap,Aq,Ar,As,At,Au,Av,Aw,Ax,Ay,Az,Ba,Bb,Bc,Bd,Be,Bf,Bg,Bh,Bi,Bj,Bk,Bl,Bm,Bn,Bo,Bp,Bq,Br,Bs,Bt,Bu,Bv], h⟩ k =
k .ret ⟨#[Aa,Ab, (Go.Value.int Go.IntKind.u64 0), (Go.Value.int Go.IntKind.i64 0),Ae,Af,Ag,Ah,Ai,Aj,Ak,Al,An,Ao,Ap,Aq,Ar,As,At,Au,Av,Aw,Ax,Ay,Az,Ba,Bb,Bc,Bd,Be,Bf,Bg,Bh,Bi,Bj,Bk,Bl,Bm,Bn,Bo,Bp,Bq,Br,Bs,Bt,Bu,Bv], h⟩ := by kernel_rfl
theorem call79 (h : Heap) : evC Try.prog 79 #[Aa] h = codeK Try.prog (evC Try.prog) loopL c79_0 ⟨#[Aa, undef, undef, undef, undef, undef, undef, undef, undef, undef, undef, undef, undef, undef, undef, undef, undef, undef, undef, undef, undef, undef, undef, undef, undef, undef, undef, undef, undef, undef, undef, undef, undef, undef, undef, undef, undef, undef, undef, undef, undef, undef, undef, undef, undef, undef, undef], nm h⟩ (retK Try.f79 Try.prog h) :=
  (evC_call 79 Try.f79 c79_0 Try.func79 (by kernel_rfl) #[Aa] h).trans (by kernel_rfl)
theorem ret79 (h0 h : Heap) : retK Try.f79 Try.prog h0 .ret ⟨#[Aa,Ab,Ac,Ad,Ae,Af,Ag,Ah,Ai,Aj,Ak,Al,An,Ao,Ap,Aq,Ar,As,At,Au,Av,Aw,Ax,Ay,Az,Ba,Bb,Bc,Bd,Be,Bf,Bg,Bh,Bi,Bj,Bk,Bl,Bm,Bn,Bo,Bp,Bq,Br,Bs,Bt,Bu,Bv], h⟩ = fin h0 (some (.tuple #[Ac,Ad])) h := by kernel_rfl
theorem retn79 (h0 h : Heap) : retK Try.f79 Try.prog h0 .normal ⟨#[Aa,Ab,Ac,Ad,Ae,Af,Ag,Ah,Ai,Aj,Ak,Al,An,Ao,Ap,Aq,Ar,As,At,Au,Av,Aw,Ax,Ay,Az,Ba,Bb,Bc,Bd,Be,Bf,Bg,Bh,Bi,Bj,Bk,Bl,Bm,Bn,Bo,Bp,Bq,Br,Bs,Bt,Bu,Bv], h⟩ = fin h0 (some (.tuple #[Ac,Ad])) h := by kernel_rfl
end Go.Am
namespace Go.Am
open Go.Proofs
set_option maxRecDepth 100000
variable (Aa Ab Ac Ad Ae Af Ag Ah Ai Aj Ak Al An : Value)
noncomputable def c65_0 : Code := bodyC Try.f65 []
theorem c65_0_eq {β : Type} (h : Heap) (k : Ex → St → Option β) : codeK Try.prog (evC Try.prog) loopL c65_0 ⟨#[Aa,Ab,Ac,Ad,Ae,Af,Ag,Ah,Ai,Aj,Ak,Al,An], h⟩ k =
(nilCheckV Aa).bind fun t6_0 =>
(fieldAddrV Try.prog 118 t6_0 0).bind fun t7_1 =>
(loadV Try.prog 33 t7_1 h).bind fun t8_2 =>
obH (evC Try.prog 83 #[t8_2,Ab] h) fun t10_3 h4 =>
(nilCheckV Aa).bind fun t11_5 =>
(fieldAddrV Try.prog 118 t11_5 0).bind fun t12_6 =>
(storeV Try.prog 33 t12_6 t10_3 h4).bind fun h7 =>
k .normal ⟨#[Aa,Ab,Ac,Ad,Aa,Aa, t6_0, t7_1, t8_2,Ab, t10_3, t11_5, t12_6], h7⟩ := by kernel_rfl
theorem call65 (h : Heap) : evC Try.prog 65 #[Aa,Ab] h = codeK Try.prog (evC Try.prog) loopL c65_0 ⟨#[Aa,Ab, undef, undef, undef, undef, undef, undef, undef, undef, undef, undef, undef], nm h⟩ (retK Try.f65 Try.prog h) :=
  (evC_call 65 Try.f65 c65_0 Try.func65 (by kernel_rfl) #[Aa,Ab] h).trans (by kernel_rfl)
theorem ret65 (h0 h : Heap) : retK Try.f65 Try.prog h0 .ret ⟨#[Aa,Ab,Ac,Ad,Ae,Af,Ag,Ah,Ai,Aj,Ak,Al,An], h⟩ = fin h0 (some (.tuple #[])) h := by kernel_rfl
theorem retn65 (h0 h : Heap) : retK Try.f65 Try.prog h0 .normal ⟨#[Aa,Ab,Ac,Ad,Ae,Af,Ag,Ah,Ai,Aj,Ak,Al,An], h⟩ = fin h0 (some (.tuple #[])) h := by kernel_rfl
end Go.Am
namespace Go.Am
open Go.Proofs
set_option maxRecDepth 100000
variable (Aa Ab Ac Ad Ae Af Ag Ah Ai Aj Ak Al An Ao Ap Aq Ar As At Au Av Aw Ax Ay Az Ba Bb Bc Bd Be Bf Bg Bh Bi Bj Bk Bl Bm Bn Bo : Value)
noncomputable def c58_0 : Code := bodyC Try.f58 []
theorem c58_0_eq {β : Type} (h : Heap) (k : Ex → St → Option β) : codeK Try.prog (evC Try.prog) loopL c58_0 ⟨#[Aa,Ab,Ac,Ad,Ae,Af,Ag,Ah,Ai,Aj,Ak,Al,An,Ao,Ap,Aq,Ar,As,At,Au,Av,Aw,Ax,Ay,Az,Ba,Bb,Bc,Bd,Be,Bf,Bg,Bh,Bi,Bj,Bk,Bl,Bm,Bn,Bo], h⟩ k =
(nilCheckV Aa).bind fun t9_0 =>
(fieldAddrV Try.prog 109 t9_0 0).bind fun t10_1 =>
(loadV Try.prog 33 t10_1 h).bind fun t11_2 =>
obH (evC Try.prog 79 #[t11_2] h) fun t12_3 h4 =>
(extractV t12_3 0).bind fun t13_5 =>
(extractV t12_3 1).bind fun t14_6 =>
(nilCheckV Aa).bind fun t16_7 =>
(fieldAddrV Try.prog 109 t16_7 1).bind fun t17_8 =>
(loadV Try.prog 4 t17_8 h4).bind fun t18_9 =>
(gd (wt t18_9 false) (binV Try.prog .eql 3 (.tmp 20) (.const (Go.Value.int Go.IntKind.i64 0)) (gdV (wt t18_9 false) t14_6) (Go.Value.int Go.IntKind.i64 0))).bind fun t21_10 =>
(pickV t18_9 (Go.Value.bool Bool.true) t21_10).bind fun t22_11 =>
(gd (wt t22_11 false) (binV Try.prog .gtr 35 (.tmp 24) (.tmp 25) (gdV (wt t22_11 false) t13_5) (gdV (wt t22_11 false) Ab))).bind fun t26_12 =>
(pickV t22_11 (Go.Value.bool Bool.true) t26_12).bind fun t27_13 =>
cnd t27_13 (
obH (evC Try.prog 80 #[Aa] h4) fun t29_14 h15 =>
k .ret ⟨#[Aa,Ab,Ac,Ad, (Go.Value.int Go.IntKind.u64 0), t13_5, t14_6, t12_3,Aa, t9_0, t10_1, t11_2, t12_3, t13_5, t14_6,Aa, t16_7, t17_8, t18_9, t18_9, (gdV (wt t18_9 false) t14_6), t21_10, t22_11, t22_11, (gdV (wt t22_11 false) t13_5), (gdV (wt t22_11 false) Ab), t26_12, t27_13,Aa, t29_14,Bf,Bg,Bh,Bi,Bj,Bk,Bl,Bm,Bn,Bo], h15⟩) (
(nilCheckV Aa).bind fun t32_16 =>
(fieldAddrV Try.prog 109 t32_16 0).bind fun t33_17 =>
(loadV Try.prog 33 t33_17 h4).bind fun t34_18 =>
(sliceV Try.prog 33 t34_18 (some t14_6) none none h4).bind fun t36_19 =>
(nilCheckV Aa).bind fun t37_20 =>
(fieldAddrV Try.prog 109 t37_20 0).bind fun t38_21 =>
(storeV Try.prog 33 t38_21 t36_19 h4).bind fun h22 =>
k .ret ⟨#[Aa,Ab,Ac,Ad, t13_5, t13_5, t14_6, t12_3,Aa, t9_0, t10_1, t11_2, t12_3, t13_5, t14_6,Aa, t16_7, t17_8, t18_9, t18_9, (gdV (wt t18_9 false) t14_6), t21_10, t22_11, t22_11, (gdV (wt t22_11 false) t13_5), (gdV (wt t22_11 false) Ab), t26_12, t27_13,Bd,Be,Aa,Aa, t32_16, t33_17, t34_18, t14_6, t36_19, t37_20, t38_21, t13_5], h22⟩) := by kernel_rfl
theorem call58 (h : Heap) : evC Try.prog 58 #[Aa,Ab] h = codeK Try.prog (evC Try.prog) loopL c58_0 ⟨#[Aa,Ab, undef, undef, undef, undef, undef, undef, undef, undef, undef, undef, undef, undef, undef, undef, undef, undef, undef, undef, undef, undef, undef, undef, undef, undef, undef, undef, undef, undef, undef, undef, undef, undef, undef, undef, undef, undef, undef, undef], nm h⟩ (retK Try.f58 Try.prog h) :=
  (evC_call 58 Try.f58 c58_0 Try.func58 (by kernel_rfl) #[Aa,Ab] h).trans (by kernel_rfl)
theorem ret58 (h0 h : Heap) : retK Try.f58 Try.prog h0 .ret ⟨#[Aa,Ab,Ac,Ad,Ae,Af,Ag,Ah,Ai,Aj,Ak,Al,An,Ao,Ap,Aq,Ar,As,At,Au,Av,Aw,Ax,Ay,Az,Ba,Bb,Bc,Bd,Be,Bf,Bg,Bh,Bi,Bj,Bk,Bl,Bm,Bn,Bo], h⟩ = fin h0 (some Ae) h := by kernel_rfl
theorem retn58 (h0 h : Heap) : retK Try.f58 Try.prog h0 .normal ⟨#[Aa,Ab,Ac,Ad,Ae,Af,Ag,Ah,Ai,Aj,Ak,Al,An,Ao,Ap,Aq,Ar,As,At,Au,Av,Aw,Ax,Ay,Az,Ba,Bb,Bc,Bd,Be,Bf,Bg,Bh,Bi,Bj,Bk,Bl,Bm,Bn,Bo], h⟩ = fin h0 (some Ae) h := by kernel_rfl
end Go.Am
namespace Go.Am
open Go.Proofs
set_option maxRecDepth 100000
variable (Aa Ab Ac Ad Ae Af Ag Ah Ai Aj Ak Al An Ao Ap Aq : Value)
noncomputable def c59_0 : Code := bodyC Try.f59 []
theorem c59_0_eq {β : Type} (h : Heap) (k : Ex → St → Option β) : codeK Try.prog (evC Try.prog) loopL c59_0 ⟨#[Aa,Ab,Ac,Ad,Ae,Af,Ag,Ah,Ai,Aj,Ak,Al,An,Ao,Ap,Aq], h⟩ k =
(nilCheckV Aa).bind fun t4_0 =>
(fieldAddrV Try.prog 109 t4_0 1).bind fun t5_1 =>
(loadV Try.prog 4 t5_1 h).bind fun t6_2 =>
(unV Try.prog .not t6_2).bind fun t7_3 =>
(gd (wt t7_3 true) (nilCheckV (gdV (wt t7_3 true) Aa))).bind fun t10_4 =>
(gd (wt t7_3 true) (fieldAddrV Try.prog 109 t10_4 0)).bind fun t11_5 =>
(gd (wt t7_3 true) (loadV Try.prog 33 t11_5 h)).bind fun t12_6 =>
(gd (wt t7_3 true) (lenV Try.prog 33 t12_6 h)).bind fun t13_7 =>
(gd (wt t7_3 true) (binV Try.prog .eql 3 (.tmp 13) (.const (Go.Value.int Go.IntKind.i64 0)) t13_7 (Go.Value.int Go.IntKind.i64 0))).bind fun t14_8 =>
(pickV t7_3 t14_8 (Go.Value.bool Bool.false)).bind fun t15_9 =>
k .ret ⟨#[Aa,Ab, t15_9,Aa, t4_0, t5_1, t6_2, t7_3, t7_3, (gdV (wt t7_3 true) Aa), t10_4, t11_5, t12_6, t13_7, t14_8, t15_9], h⟩ := by kernel_rfl
theorem call59 (h : Heap) : evC Try.prog 59 #[Aa] h = codeK Try.prog (evC Try.prog) loopL c59_0 ⟨#[Aa, undef, undef, undef, undef, undef, undef, undef, undef, undef, undef, undef, undef, undef, undef, undef], nm h⟩ (retK Try.f59 Try.prog h) :=
  (evC_call 59 Try.f59 c59_0 Try.func59 (by kernel_rfl) #[Aa] h).trans (by kernel_rfl)
theorem ret59 (h0 h : Heap) : retK Try.f59 Try.prog h0 .ret ⟨#[Aa,Ab,Ac,Ad,Ae,Af,Ag,Ah,Ai,Aj,Ak,Al,An,Ao,Ap,Aq], h⟩ = fin h0 (some Ac) h := by kernel_rfl
theorem retn59 (h0 h : Heap) : retK Try.f59 Try.prog h0 .normal ⟨#[Aa,Ab,Ac,Ad,Ae,Af,Ag,Ah,Ai,Aj,Ak,Al,An,Ao,Ap,Aq], h⟩ = fin h0 (some Ac) h := by kernel_rfl
end Go.Am
namespace Go.Am
open Go.Proofs
set_option maxRecDepth 100000
variable (Aa Ab Ac Ad Ae Af Ag Ah : Value)
noncomputable def c80_0 : Code := bodyC Try.f80 []
theorem c80_0_eq {β : Type} (h : Heap) (k : Ex → St → Option β) : codeK Try.prog (evC Try.prog) loopL c80_0 ⟨#[Aa,Ab,Ac,Ad,Ae,Af,Ag,Ah], h⟩ k =
(nilCheckV Aa).bind fun t4_0 =>
(fieldAddrV Try.prog 109 t4_0 1).bind fun t5_1 =>
(storeV Try.prog 4 t5_1 (Go.Value.bool Bool.true) h).bind fun h2 =>
(nilCheckV Aa).bind fun t6_3 =>
(fieldAddrV Try.prog 109 t6_3 0).bind fun t7_4 =>
(storeV Try.prog 33 t7_4 (Go.Value.slice Option.none 0 0) h2).bind fun h5 =>
k .normal ⟨#[Aa,Ab,Aa,Aa, t4_0, t5_1, t6_3, t7_4], h5⟩ := by kernel_rfl
theorem call80 (h : Heap) : evC Try.prog 80 #[Aa] h = codeK Try.prog (evC Try.prog) loopL c80_0 ⟨#[Aa, undef, undef, undef, undef, undef, undef, undef], nm h⟩ (retK Try.f80 Try.prog h) :=
  (evC_call 80 Try.f80 c80_0 Try.func80 (by kernel_rfl) #[Aa] h).trans (by kernel_rfl)
theorem ret80 (h0 h : Heap) : retK Try.f80 Try.prog h0 .ret ⟨#[Aa,Ab,Ac,Ad,Ae,Af,Ag,Ah], h⟩ = fin h0 (some (.tuple #[])) h := by kernel_rfl
theorem retn80 (h0 h : Heap) : retK Try.f80 Try.prog h0 .normal ⟨#[Aa,Ab,Ac,Ad,Ae,Af,Ag,Ah], h⟩ = fin h0 (some (.tuple #[])) h := by kernel_rfl
end Go.Am
namespace Go.Am
open Go.Proofs
set_option maxRecDepth 100000
variable (Aa Ab Ac Ad Ae Af Ag Ah Ai Aj Ak Al An Ao Ap Aq Ar As At Au Av Aw Ax Ay Az Ba Bb Bc Bd Be Bf Bg Bh Bi Bj : Value)
noncomputable def c55_0 : Code := bodyC Try.f55 []
theorem c55_0_eq {β : Type} (h : Heap) (k : Ex → St → Option β) : codeK Try.prog (evC Try.prog) loopL c55_0 ⟨#[Aa,Ab,Ac,Ad,Ae,Af,Ag,Ah,Ai,Aj,Ak,Al,An,Ao,Ap,Aq,Ar,As,At,Au,Av,Aw,Ax,Ay,Az,Ba,Bb,Bc,Bd,Be,Bf,Bg,Bh,Bi,Bj], h⟩ k =
(nilCheckV Aa).bind fun t9_0 =>
(fieldAddrV Try.prog 138 t9_0 0).bind fun t10_1 =>
(loadV Try.prog 33 t10_1 h).bind fun t11_2 =>
obH (evC Try.prog 77 #[t11_2] h) fun t12_3 h4 =>
(extractV t12_3 0).bind fun t13_5 =>
(extractV t12_3 1).bind fun t14_6 =>
(binV Try.prog .eql 3 (.tmp 16) (.const (Go.Value.int Go.IntKind.i64 0)) t14_6 (Go.Value.int Go.IntKind.i64 0)).bind fun t17_7 =>
obH (gdH (wt t17_7 false) h4 (evC Try.prog 28 #[(gdV (wt t17_7 false) t13_5), (gdV (wt t17_7 false) Ab)] h4)) fun t21_8 h9 =>
(gd (wt t17_7 false) (unV Try.prog .not t21_8)).bind fun t22_10 =>
(pickV t17_7 (Go.Value.bool Bool.true) t22_10).bind fun t23_11 =>
obH (evC Try.prog 78 #[Aa, t23_11] h9) fun t24_12 h13 =>
cnd t24_12 (
k .ret ⟨#[Aa,Ab,Ac,Ad, (Go.Value.int Go.IntKind.u64 0), t13_5, t14_6, t12_3,Aa, t9_0, t10_1, t11_2, t12_3, t13_5, t14_6,Aa, t14_6, t17_7, t17_7, (gdV (wt t17_7 false) t13_5), (gdV (wt t17_7 false) Ab), t21_8, t22_10, t23_11, t24_12,Ba,Bb,Bc,Bd,Be,Bf,Bg,Bh,Bi,Bj], h13⟩) (
(nilCheckV Aa).bind fun t27_14 =>
(fieldAddrV Try.prog 138 t27_14 0).bind fun t28_15 =>
(loadV Try.prog 33 t28_15 h13).bind fun t29_16 =>
(sliceV Try.prog 33 t29_16 (some t14_6) none none h13).bind fun t31_17 =>
(nilCheckV Aa).bind fun t32_18 =>
(fieldAddrV Try.prog 138 t32_18 0).bind fun t33_19 =>
(storeV Try.prog 33 t33_19 t31_17 h13).bind fun h20 =>
k .ret ⟨#[Aa,Ab,Ac,Ad, t13_5, t13_5, t14_6, t12_3,Aa, t9_0, t10_1, t11_2, t12_3, t13_5, t14_6,Aa, t14_6, t17_7, t17_7, (gdV (wt t17_7 false) t13_5), (gdV (wt t17_7 false) Ab), t21_8, t22_10, t23_11, t24_12,Aa,Aa, t27_14, t28_15, t29_16, t14_6, t31_17, t32_18, t33_19, t13_5], h20⟩) := by kernel_rfl
theorem call55 (h : Heap) : evC Try.prog 55 #[Aa,Ab] h = codeK Try.prog (evC Try.prog) loopL c55_0 ⟨#[Aa,Ab, undef, undef, undef, undef, undef, undef, undef, undef, undef, undef, undef, undef, undef, undef, undef, undef, undef, undef, undef, undef, undef, undef, undef, undef, undef, undef, undef, undef, undef, undef, undef, undef, undef], nm h⟩ (retK Try.f55 Try.prog h) :=
  (evC_call 55 Try.f55 c55_0 Try.func55 (by kernel_rfl) #[Aa,Ab] h).trans (by kernel_rfl)
theorem ret55 (h0 h : Heap) : retK Try.f55 Try.prog h0 .ret ⟨#[Aa,Ab,Ac,Ad,Ae,Af,Ag,Ah,Ai,Aj,Ak,Al,An,Ao,Ap,Aq,Ar,As,At,Au,Av,Aw,Ax,Ay,Az,Ba,Bb,Bc,Bd,Be,Bf,Bg,Bh,Bi,Bj], h⟩ = fin h0 (some Ae) h := by kernel_rfl
theorem retn55 (h0 h : Heap) : retK Try.f55 Try.prog h0 .normal ⟨#[Aa,Ab,Ac,Ad,Ae,Af,Ag,Ah,Ai,Aj,Ak,Al,An,Ao,Ap,Aq,Ar,As,At,Au,Av,Aw,Ax,Ay,Az,Ba,Bb,Bc,Bd,Be,Bf,Bg,Bh,Bi,Bj], h⟩ = fin h0 (some Ae) h := by kernel_rfl
end Go.Am
namespace Go.Am
open Go.Proofs
set_option maxRecDepth 100000
variable (Aa Ab Ac Ad Ae Af Ag : Value)
noncomputable def c60_0 : Code := bodyC Try.f60 []
theorem c60_0_eq {β : Type} (h : Heap) (k : Ex → St → Option β) : codeK Try.prog (evC Try.prog) loopL c60_0 ⟨#[Aa,Ab,Ac,Ad,Ae,Af,Ag], h⟩ k =
obH (evC Try.prog 45 #[Aa,Ab] h) fun t6_0 h1 =>
k .normal ⟨#[Aa,Ab,Ac,Ad,Aa,Ab, t6_0], h1⟩ := by kernel_rfl
theorem call60 (h : Heap) : evC Try.prog 60 #[Aa,Ab] h = codeK Try.prog (evC Try.prog) loopL c60_0 ⟨#[Aa,Ab, undef, undef, undef, undef, undef], nm h⟩ (retK Try.f60 Try.prog h) :=
  (evC_call 60 Try.f60 c60_0 Try.func60 (by kernel_rfl) #[Aa,Ab] h).trans (by kernel_rfl)
theorem ret60 (h0 h : Heap) : retK Try.f60 Try.prog h0 .ret ⟨#[Aa,Ab,Ac,Ad,Ae,Af,Ag], h⟩ = fin h0 (some (.tuple #[])) h := by kernel_rfl
theorem retn60 (h0 h : Heap) : retK Try.f60 Try.prog h0 .normal ⟨#[Aa,Ab,Ac,Ad,Ae,Af,Ag], h⟩ = fin h0 (some (.tuple #[])) h := by kernel_rfl
end Go.Am
namespace Go.Am
open Go.Proofs
set_option maxRecDepth 100000
variable (Aa Ab Ac Ad Ae Af Ag Ah Ai : Value)
noncomputable def c28_0 : Code := bodyC Try.f28 []
theorem c28_0_eq {β : Type} (h : Heap) (k : Ex → St → Option β) : codeK Try.prog (evC Try.prog) loopL c28_0 ⟨#[Aa,Ab,Ac,Ad,Ae,Af,Ag,Ah,Ai], h⟩ k =
(binV Try.prog .andNot 55 (.tmp 5) (.tmp 6) Aa Ab).bind fun t7_0 =>
(binV Try.prog .eql 55 (.tmp 7) (.const (Go.Value.int Go.IntKind.u64 0)) t7_0 (Go.Value.int Go.IntKind.u64 0)).bind fun t8_1 =>
k .ret ⟨#[Aa,Ab,Ac,Ad, t8_1,Aa,Ab, t7_0, t8_1], h⟩ := by kernel_rfl
theorem call28 (h : Heap) : evC Try.prog 28 #[Aa,Ab] h = codeK Try.prog (evC Try.prog) loopL c28_0 ⟨#[Aa,Ab, undef, undef, undef, undef, undef, undef, undef], nm h⟩ (retK Try.f28 Try.prog h) :=
  (evC_call 28 Try.f28 c28_0 Try.func28 (by kernel_rfl) #[Aa,Ab] h).trans (by kernel_rfl)
theorem ret28 (h0 h : Heap) : retK Try.f28 Try.prog h0 .ret ⟨#[Aa,Ab,Ac,Ad,Ae,Af,Ag,Ah,Ai], h⟩ = fin h0 (some Ae) h := by kernel_rfl
theorem retn28 (h0 h : Heap) : retK Try.f28 Try.prog h0 .normal ⟨#[Aa,Ab,Ac,Ad,Ae,Af,Ag,Ah,Ai], h⟩ = fin h0 (some Ae) h := by kernel_rfl
end Go.Am
namespace Go.Am
open Go.Proofs
set_option maxRecDepth 100000
variable (Aa Ab Ac Ad Ae Af Ag Ah Ai : Value)
noncomputable def c56_0 : Code := bodyC Try.f56 []
theorem c56_0_eq {β : Type} (h : Heap) (k : Ex → St → Option β) : codeK Try.prog (evC Try.prog) loopL c56_0 ⟨#[Aa,Ab,Ac,Ad,Ae,Af,Ag,Ah,Ai], h⟩ k =
obH (builtinV Try.prog .max #[3, 3] #[Aa, (Go.Value.int Go.IntKind.i64 0)] h) fun t4_0 h1 =>
obH (builtinV Try.prog .min #[3, 3] #[t4_0, (Go.Value.int Go.IntKind.i64 64)] h1) fun t5_2 h3 =>
(binV Try.prog .shl 55 (.const (Go.Value.int Go.IntKind.u64 1)) (.tmp 6) (Go.Value.int Go.IntKind.u64 1) t5_2).bind fun t7_4 =>
(binV Try.prog .sub 55 (.tmp 7) (.const (Go.Value.int Go.IntKind.u64 1)) t7_4 (Go.Value.int Go.IntKind.u64 1)).bind fun t8_5 =>
k .ret ⟨#[t5_2,Ab, t8_5,Aa, t4_0, t5_2, t5_2, t7_4, t8_5], h3⟩ := by kernel_rfl
theorem call56 (h : Heap) : evC Try.prog 56 #[Aa] h = codeK Try.prog (evC Try.prog) loopL c56_0 ⟨#[Aa, undef, undef, undef, undef, undef, undef, undef, undef], nm h⟩ (retK Try.f56 Try.prog h) :=
  (evC_call 56 Try.f56 c56_0 Try.func56 (by kernel_rfl) #[Aa] h).trans (by kernel_rfl)
theorem ret56 (h0 h : Heap) : retK Try.f56 Try.prog h0 .ret ⟨#[Aa,Ab,Ac,Ad,Ae,Af,Ag,Ah,Ai], h⟩ = fin h0 (some Ac) h := by kernel_rfl
theorem retn56 (h0 h : Heap) : retK Try.f56 Try.prog h0 .normal ⟨#[Aa,Ab,Ac,Ad,Ae,Af,Ag,Ah,Ai], h⟩ = fin h0 (some Ac) h := by kernel_rfl
end Go.Am
namespace Go.Am
open Go.Proofs
set_option maxRecDepth 100000
variable (Aa Ab Ac Ad Ae Af Ag Ah Ai Aj Ak Al An Ao Ap Aq Ar As : Value)
noncomputable def c27_0 : Code := bodyC Try.f27 []
theorem c27_0_eq {β : Type} (h : Heap) (k : Ex → St → Option β) : codeK Try.prog (evC Try.prog) loopL c27_0 ⟨#[Aa,Ab,Ac,Ad,Ae,Af,Ag,Ah,Ai,Aj,Ak,Al,An,Ao,Ap,Aq,Ar,As], h⟩ k =
(binV Try.prog .geq 3 (.tmp 5) (.const (Go.Value.int Go.IntKind.i64 0)) Ab (Go.Value.int Go.IntKind.i64 0)).bind fun t6_0 =>
(gd (wt t6_0 true) (binV Try.prog .lss 3 (.tmp 8) (.const (Go.Value.int Go.IntKind.i64 64)) (gdV (wt t6_0 true) Ab) (Go.Value.int Go.IntKind.i64 64))).bind fun t9_1 =>
(pickV t6_0 t9_1 (Go.Value.bool Bool.false)).bind fun t10_2 =>
(gd (wt t10_2 true) (binV Try.prog .shr 55 (.tmp 12) (.tmp 13) (gdV (wt t10_2 true) Aa) (gdV (wt t10_2 true) Ab))).bind fun t14_3 =>
(gd (wt t10_2 true) (binV Try.prog .and 55 (.tmp 14) (.const (Go.Value.int Go.IntKind.u64 1)) t14_3 (Go.Value.int Go.IntKind.u64 1))).bind fun t15_4 =>
(gd (wt t10_2 true) (binV Try.prog .eql 55 (.tmp 15) (.const (Go.Value.int Go.IntKind.u64 1)) t15_4 (Go.Value.int Go.IntKind.u64 1))).bind fun t16_5 =>
(pickV t10_2 t16_5 (Go.Value.bool Bool.false)).bind fun t17_6 =>
k .ret ⟨#[Aa,Ab,Ac,Ad, t17_6,Ab, t6_0, t6_0, (gdV (wt t6_0 true) Ab), t9_1, t10_2, t10_2, (gdV (wt t10_2 true) Aa), (gdV (wt t10_2 true) Ab), t14_3, t15_4, t16_5, t17_6], h⟩ := by kernel_rfl
theorem call27 (h : Heap) : evC Try.prog 27 #[Aa,Ab] h = codeK Try.prog (evC Try.prog) loopL c27_0 ⟨#[Aa,Ab, undef, undef, undef, undef, undef, undef, undef, undef, undef, undef, undef, undef, undef, undef, undef, undef], nm h⟩ (retK Try.f27 Try.prog h) :=
  (evC_call 27 Try.f27 c27_0 Try.func27 (by kernel_rfl) #[Aa,Ab] h).trans (by kernel_rfl)
theorem ret27 (h0 h : Heap) : retK Try.f27 Try.prog h0 .ret ⟨#[Aa,Ab,Ac,Ad,Ae,Af,Ag,Ah,Ai,Aj,Ak,Al,An,Ao,Ap,Aq,Ar,As], h⟩ = fin h0 (some Ae) h := by kernel_rfl
theorem retn27 (h0 h : Heap) : retK Try.f27 Try.prog h0 .normal ⟨#[Aa,Ab,Ac,Ad,Ae,Af,Ag,Ah,Ai,Aj,Ak,Al,An,Ao,Ap,Aq,Ar,As], h⟩ = fin h0 (some Ae) h := by kernel_rfl
end Go.Am
namespace Go.Am
open Go.Proofs
set_option maxRecDepth 100000
variable {β : Type} (x : Nat → Value) (h : Heap) (k : Ex → St → Option β) (r m : List Nat) (g : Heap)
noncomputable def c47_0 : Code := bodyC Try.f47 []
noncomputable def c47_1 : Code := bodyC Try.f47 [false]
noncomputable def c47_2 : Code := bodyC Try.f47 [true]
noncomputable def d47_0 : Array Oper := opsC (bodyC Try.f47 [true, false])
noncomputable def c47_3 : Code := bodyC Try.f47 [true, false]
noncomputable def c47_4 : Code := bodyC Try.f47 [true, true]
theorem c47_0_eq : cK c47_0 22 x h k =
cK c47_1 22 x h (sK c47_2 k) := codeK_seq _ _ _ _ _ (by kernel_rfl) _ _
theorem c47_1_eq : cK c47_1 22 x h k =
obH (boxV Try.prog 57 (x 0) h) fun v0 h1 =>
k .normal ⟨ar 22 (up x [(1,v0),(2,(.bool false))]), h1⟩ := by kernel_rfl
theorem c47_2_eq : cK c47_2 22 x h k =
cK c47_3 22 x h (sK c47_4 k) := codeK_seq _ _ _ _ _ (by kernel_rfl) _ _
theorem d47_0_0 (k : St → Option β) : rD d47_0 0 22 x h r m k =
(fa 57 (x 1) 0).bind fun v2 =>
rD d47_0 1 22 (up x [(3,v2)]) h r m k := (regD_step _ _ d47_0 0 (by kernel_rfl) _ _ _ _).trans (by kernel_rfl)
theorem d47_0_1 (k : St → Option β) : rD d47_0 1 22 x h r m k =
(ld 3 (x 3) h).bind fun v3 =>
rD d47_0 2 22 (up x [(4,v3)]) h r m k := (regD_step _ _ d47_0 1 (by kernel_rfl) _ _ _ _).trans (by kernel_rfl)
theorem d47_0_2 (k : St → Option β) : rD d47_0 2 22 x h r m k =
(bn .geq 3 (x 4) (.int .i64 0)).bind fun v4 =>
rD d47_0 3 22 (up x [(5,v4)]) h r m k := (regD_step _ _ d47_0 2 (by kernel_rfl) _ _ _ _).trans (by kernel_rfl)
theorem d47_0_3 (k : St → Option β) : rD d47_0 3 22 x h r m k =
rD d47_0 4 22 (up x [(6,(x 5))]) h r m k := regD_move _ _ d47_0 3 (by kernel_rfl) (by kernel_rfl) (by kernel_rfl) _ _ _ _ _ _ (by kernel_rfl) (by kernel_rfl)
theorem d47_0_4 (k : St → Option β) : rD d47_0 4 22 x h r m k =
(gd (wt (x 6) true) (fa 57 (x 1) 0)).bind fun v5 =>
rD d47_0 5 22 (up x [(7,v5)]) h r m k := (regD_step _ _ d47_0 4 (by kernel_rfl) _ _ _ _).trans (by kernel_rfl)
theorem d47_0_5 (k : St → Option β) : rD d47_0 5 22 x h r m k =
(gd (wt (x 6) true) (ld 3 (x 7) h)).bind fun v6 =>
rD d47_0 6 22 (up x [(8,v6)]) h r m k := (regD_step _ _ d47_0 5 (by kernel_rfl) _ _ _ _).trans (by kernel_rfl)
theorem d47_0_6 (k : St → Option β) : rD d47_0 6 22 x h r m k =
(gd (wt (x 6) true) (bn .lss 3 (x 8) (.int .i64 16))).bind fun v7 =>
rD d47_0 7 22 (up x [(9,v7)]) h r m k := (regD_step _ _ d47_0 6 (by kernel_rfl) _ _ _ _).trans (by kernel_rfl)
theorem d47_0_7 (k : St → Option β) : rD d47_0 7 22 x h r m k =
(pickV (x 6) (x 9) (.bool false)).bind fun v8 =>
rD d47_0 8 22 (up x [(10,v8)]) h r m k := (regD_step _ _ d47_0 7 (by kernel_rfl) _ _ _ _).trans (by kernel_rfl)
theorem d47_0_8 (k : St → Option β) : rD d47_0 8 22 x h r m k =
rD d47_0 9 22 (up x [(11,(x 10))]) h r m k := regD_move _ _ d47_0 8 (by kernel_rfl) (by kernel_rfl) (by kernel_rfl) _ _ _ _ _ _ (by kernel_rfl) (by kernel_rfl)
theorem d47_0_9 (k : St → Option β) : rD d47_0 9 22 x h r m k =
(gd (wt (x 11) true) (fa 57 (x 1) 1)).bind fun v9 =>
rD d47_0 10 22 (up x [(12,v9)]) h r m k := (regD_step _ _ d47_0 9 (by kernel_rfl) _ _ _ _).trans (by kernel_rfl)
theorem d47_0_10 (k : St → Option β) : rD d47_0 10 22 x h r m k =
(gd (wt (x 11) true) (ld 35 (x 12) h)).bind fun v10 =>
rD d47_0 11 22 (up x [(13,v10)]) h r m k := (regD_step _ _ d47_0 10 (by kernel_rfl) _ _ _ _).trans (by kernel_rfl)
theorem d47_0_11 (k : St → Option β) : rD d47_0 11 22 x h r m k =
(gd (wt (x 11) true) (bn .gtr 35 (x 13) (.int .u64 0))).bind fun v11 =>
rD d47_0 12 22 (up x [(14,v11)]) h r m k := (regD_step _ _ d47_0 11 (by kernel_rfl) _ _ _ _).trans (by kernel_rfl)
theorem d47_0_12 (k : St → Option β) : rD d47_0 12 22 x h r m k =
(pickV (x 11) (x 14) (.bool false)).bind fun v12 =>
rD d47_0 13 22 (up x [(15,v12)]) h r m k := (regD_step _ _ d47_0 12 (by kernel_rfl) _ _ _ _).trans (by kernel_rfl)
theorem d47_0_13 (k : St → Option β) : rD d47_0 13 22 x h r m k =
rD d47_0 14 22 (up x [(16,(x 15))]) h r m k := regD_move _ _ d47_0 13 (by kernel_rfl) (by kernel_rfl) (by kernel_rfl) _ _ _ _ _ _ (by kernel_rfl) (by kernel_rfl)
theorem d47_0_14 (k : St → Option β) : rD d47_0 14 22 x h r m k =
(gd (wt (x 16) true) (fa 57 (x 1) 2)).bind fun v13 =>
rD d47_0 15 22 (up x [(17,v13)]) h r m k := (regD_step _ _ d47_0 14 (by kernel_rfl) _ _ _ _).trans (by kernel_rfl)
theorem d47_0_15 (k : St → Option β) : rD d47_0 15 22 x h r m k =
(gd (wt (x 16) true) (ld 55 (x 17) h)).bind fun v14 =>
rD d47_0 16 22 (up x [(18,v14)]) h (rdL (wt (x 16) true) (rb (x 17)) ++ r) m k := (regD_step _ _ d47_0 15 (by kernel_rfl) _ _ _ _).trans (by kernel_rfl)
theorem d47_0_16 (k : St → Option β) : rD d47_0 16 22 x h r m k =
obH (gdH (wt (x 16) true) (nm h) (ev 56 #[(.int .i64 16)] (nm h))) fun v15 h16 =>
rD d47_0 17 22 (up x [(19,v15)]) (am h16 h) r (h16.mods ++ m) k := (regD_step _ _ d47_0 16 (by kernel_rfl) _ _ _ _).trans (by kernel_rfl)
theorem d47_0_17 (k : St → Option β) : rD d47_0 17 22 x h r m k =
obH (gdH (wt (x 16) true) h (ev 28 #[x 18,x 19] h)) fun v17 h18 =>
rD d47_0 18 22 (up x [(20,v17)]) h18 r m k := (regD_step _ _ d47_0 17 (by kernel_rfl) _ _ _ _).trans (by kernel_rfl)
theorem d47_0_18 (k : St → Option β) : rD d47_0 18 22 x h r m k =
(pickV (x 16) (x 20) (.bool false)).bind fun v19 =>
rD d47_0 19 22 (up x [(21,v19)]) h r m k := (regD_step _ _ d47_0 18 (by kernel_rfl) _ _ _ _).trans (by kernel_rfl)
theorem d47_0_19 (k : St → Option β) : rD d47_0 19 22 x h r m k =
rD d47_0 20 22 (up x [(2,(x 21))]) h r m k := regD_move _ _ d47_0 19 (by kernel_rfl) (by kernel_rfl) (by kernel_rfl) _ _ _ _ _ _ (by kernel_rfl) (by kernel_rfl)
theorem d47_0_20 (k : St → Option β) : rD d47_0 20 22 x h r m k =
chk r m (k ⟨ar 22 x, h⟩) := by kernel_rfl
theorem c47_3_eq : cK c47_3 22 x h k =
rD d47_0 0 22 x h [] [] (fun s => k .normal s) := by kernel_rfl
theorem c47_4_eq : cK c47_4 22 x h k =
k .ret ⟨ar 22 x, h⟩ := by kernel_rfl
theorem call47 (a0 : Value) : evC Try.prog 47 #[a0] h = cK c47_0 22 (up un [(0,a0)]) (nm h) (retK Try.f47 Try.prog h) :=
  (evC_call 47 Try.f47 c47_0 Try.func47 (by kernel_rfl) #[a0] h).trans (by kernel_rfl)
theorem ret47 : retK Try.f47 Try.prog g .ret ⟨ar 22 x, h⟩ = fin g (some (x 2)) h := by kernel_rfl
theorem retn47 : retK Try.f47 Try.prog g .normal ⟨ar 22 x, h⟩ = fin g (some (x 2)) h := by kernel_rfl
end Go.Am
namespace Go.Am
open Go.Proofs
set_option maxRecDepth 100000
variable {β : Type} (x : Nat → Value) (h : Heap) (k : Ex → St → Option β) (r m : List Nat) (g : Heap)
noncomputable def c19_0 : Code := bodyC Try.f19 []
noncomputable def c19_1 : Code := bodyC Try.f19 [true, false, true, false, false]
noncomputable def c19_2 : Code := bodyC Try.f19 [true, true]
theorem c19_0_eq : cK c19_0 32 x h k =
obH (boxV Try.prog 47 (x 0) h) fun v0 h1 =>
(fa 47 v0 0).bind fun v2 =>
(ld 45 v2 h1).bind fun v3 =>
(ln 45 v3 h1).bind fun v4 =>
lK c19_1 32 (up x [(1,v0),(2,(.bool false)),(5,v2),(6,v3),(7,v4),(8,(.int .i64 0))]) h1 (blockK 0 (sK c19_2 k)) := by kernel_rfl
theorem c19_1_eq : cK c19_1 32 x h k =
(bn .lss 3 (x 8) (x 7)).bind fun v5 =>
cnd v5 (
(ia 45 (x 6) (x 8)).bind fun v6 =>
(ld 57 v6 h).bind fun v7 =>
obH (allocV Try.prog 57 h) fun v8 h9 =>
(sto 57 v8 v7 h9).bind fun h10 =>
(ld 57 v8 h10).bind fun v11 =>
obH (ev 47 #[v11] h10) fun v12 h13 =>
(unV Try.prog .not v12).bind fun v14 =>
(gd (wt v14 false) (bn .gtr 3 (gdV (wt v14 false) (x 8)) (.int .i64 0))).bind fun v15 =>
(gd (wt (gdV (wt v14 false) v15) true) (fa 47 (x 1) 0)).bind fun v16 =>
(gd (wt (gdV (wt v14 false) v15) true) (ld 45 v16 h13)).bind fun v17 =>
(gd (wt (gdV (wt v14 false) v15) true) (bn .sub 3 (gdV (wt (gdV (wt v14 false) v15) true) (x 8)) (.int .i64 1))).bind fun v18 =>
(gd (wt (gdV (wt v14 false) v15) true) (ia 45 v17 v18)).bind fun v19 =>
(gd (wt (gdV (wt v14 false) v15) true) (ld 57 v19 h13)).bind fun v20 =>
(gd (wt (gdV (wt v14 false) v15) true) (ld 57 v8 h13)).bind fun v21 =>
obH (gdH (wt (gdV (wt v14 false) v15) true) h13 (ev 48 #[v20,v21] h13)) fun v22 h23 =>
(gd (wt (gdV (wt v14 false) v15) true) (bn .geq 3 v22 (.int .i64 0))).bind fun v24 =>
(gd (wt v14 false) (pickV (gdV (wt v14 false) v15) v24 (.bool false))).bind fun v25 =>
(pickV v14 (.bool true) v25).bind fun v26 =>
cnd v26 (
k .ret ⟨ar 32 (up x [(2,(.bool false)),(3,(x 8)),(4,v8),(9,v5),(10,(x 8)),(11,v6),(12,v7),(13,v11),(14,v12),(15,v14),(16,v14),(17,(gdV (wt v14 false) (x 8))),(18,v15),(19,(gdV (wt v14 false) v15)),(20,v16),(21,v17),(22,(gdV (wt (gdV (wt v14 false) v15) true) (x 8))),(23,v18),(24,v19),(25,v20),(26,v21),(27,v22),(28,v24),(29,v25),(30,v26)]), h23⟩) (
(bn .add 3 (x 8) (.int .i64 1)).bind fun v27 =>
k .normal ⟨ar 32 (up x [(3,(x 8)),(4,v8),(8,v27),(9,v5),(10,(x 8)),(11,v6),(12,v7),(13,v11),(14,v12),(15,v14),(16,v14),(17,(gdV (wt v14 false) (x 8))),(18,v15),(19,(gdV (wt v14 false) v15)),(20,v16),(21,v17),(22,(gdV (wt (gdV (wt v14 false) v15) true) (x 8))),(23,v18),(24,v19),(25,v20),(26,v21),(27,v22),(28,v24),(29,v25),(30,v26),(31,v27)]), h23⟩)) (
k (.exit 0) ⟨ar 32 (up x [(9,v5)]), h⟩) := by kernel_rfl
theorem c19_2_eq : cK c19_2 32 x h k =
k .ret ⟨ar 32 (up x [(2,(.bool true))]), h⟩ := by kernel_rfl
theorem call19 (a0 : Value) : evC Try.prog 19 #[a0] h = cK c19_0 32 (up un [(0,a0)]) (nm h) (retK Try.f19 Try.prog h) :=
  (evC_call 19 Try.f19 c19_0 Try.func19 (by kernel_rfl) #[a0] h).trans (by kernel_rfl)
theorem ret19 : retK Try.f19 Try.prog g .ret ⟨ar 32 x, h⟩ = fin g (some (x 2)) h := by kernel_rfl
theorem retn19 : retK Try.f19 Try.prog g .normal ⟨ar 32 x, h⟩ = fin g (some (x 2)) h := by kernel_rfl
end Go.Am
namespace Go.Am
open Go.Proofs
set_option maxRecDepth 100000
variable {β : Type} (x : Nat → Value) (h : Heap) (k : Ex → St → Option β) (r m : List Nat) (g : Heap)
noncomputable def c49_0 : Code := bodyC Try.f49 []
theorem c49_0_eq : cK c49_0 7 x h k =
obH (boxV Try.prog 47 (x 0) h) fun v0 h1 =>
obH (allocV Try.prog 47 h1) fun v2 h3 =>
(fa 47 v0 0).bind fun v4 =>
(ld 45 v4 h3).bind fun v5 =>
obH (ev 73 #[v5] h3) fun v6 h7 =>
(buildV Try.prog 47 #[(0, v6)]).bind fun v8 =>
(sto 47 v2 v8 h7).bind fun h9 =>
k .ret ⟨ar 7 (up x [(1,v0),(2,v2),(3,v4),(4,v5),(5,v6),(6,v8)]), h9⟩ := by kernel_rfl
theorem call49 (a0 : Value) : evC Try.prog 49 #[a0] h = cK c49_0 7 (up un [(0,a0)]) (nm h) (retK Try.f49 Try.prog h) :=
  (evC_call 49 Try.f49 c49_0 Try.func49 (by kernel_rfl) #[a0] h).trans (by kernel_rfl)
theorem ret49 : retK Try.f49 Try.prog g .ret ⟨ar 7 x, h⟩ = fin g (rvals ((ld 47 (x 2) h).bind fun r0 => some [r0])) h := by kernel_rfl
theorem retn49 : retK Try.f49 Try.prog g .normal ⟨ar 7 x, h⟩ = fin g (rvals ((ld 47 (x 2) h).bind fun r0 => some [r0])) h := by kernel_rfl
end Go.Am
namespace Go.Am
open Go.Proofs
set_option maxRecDepth 100000
variable {β : Type} (x : Nat → Value) (h : Heap) (k : Ex → St → Option β) (r m : List Nat) (g : Heap)
noncomputable def c73_0 : Code := bodyC Try.f73 []
theorem c73_0_eq : cK c73_0 8 x h k =
(bn .eql 45 (x 0) (.slice Option.none 0 0)).bind fun v0 =>
cnd v0 (
k .ret ⟨ar 8 (up x [(2,(.slice Option.none 0 0)),(3,(x 0)),(4,v0)]), h⟩) (
obH (buildSliceV Try.prog 45 0 #[] h) fun v1 h2 =>
obH (ap 45 (some 45) v1 (x 0) h2) fun v3 h4 =>
k .ret ⟨ar 8 (up x [(2,v3),(3,(x 0)),(4,v0),(5,v1),(6,(x 0)),(7,v3)]), h4⟩) := by kernel_rfl
theorem call73 (a0 : Value) : evC Try.prog 73 #[a0] h = cK c73_0 8 (up un [(0,a0)]) (nm h) (retK Try.f73 Try.prog h) :=
  (evC_call 73 Try.f73 c73_0 Try.func73 (by kernel_rfl) #[a0] h).trans (by kernel_rfl)
theorem ret73 : retK Try.f73 Try.prog g .ret ⟨ar 8 x, h⟩ = fin g (some (x 2)) h := by kernel_rfl
theorem retn73 : retK Try.f73 Try.prog g .normal ⟨ar 8 x, h⟩ = fin g (some (x 2)) h := by kernel_rfl
end Go.Am
namespace Go.Am
open Go.Proofs
set_option maxRecDepth 100000
variable {β : Type} (x : Nat → Value) (h : Heap) (k : Ex → St → Option β) (r m : List Nat) (g : Heap)
noncomputable def c22_0 : Code := bodyC Try.f22 []
noncomputable def c22_1 : Code := bodyC Try.f22 [true, true, false, true, false, false]
noncomputable def c22_2 : Code := bodyC Try.f22 [true, true, true]
theorem c22_0_eq : cK c22_0 31 x h k =
lK c22_1 31 (up x [(2,(.slice Option.none 0 0)),(3,(.slice Option.none 0 0)),(4,(.int .i64 0))]) h (blockK 0 (sK c22_2 k)) := by kernel_rfl
theorem c22_1_eq : cK c22_1 31 x h k =
(ln 45 (x 0) h).bind fun v0 =>
(bn .lss 3 (x 4) v0).bind fun v1 =>
cnd v1 (
(ia 45 (x 0) (x 4)).bind fun v2 =>
(fa 57 v2 0).bind fun v3 =>
(ld 3 v3 h).bind fun v4 =>
(ia 45 (x 0) (x 4)).bind fun v5 =>
(fa 57 v5 1).bind fun v6 =>
(ld 35 v6 h).bind fun v7 =>
(ia 45 (x 0) (x 4)).bind fun v8 =>
(fa 57 v8 2).bind fun v9 =>
(ld 55 v9 h).bind fun v10 =>
(buildV Try.prog 72 #[(0, v4), (1, v7), (2, v10)]).bind fun v11 =>
obH (buildSliceV Try.prog 51 1 #[(0, v11)] h) fun v12 h13 =>
obH (ap 51 (some 51) (x 3) v12 h13) fun v14 h15 =>
(bn .add 3 (x 4) (.int .i64 1)).bind fun v16 =>
k .normal ⟨ar 31 (up x [(3,v14),(4,v16),(5,(x 4)),(6,(x 0)),(7,v0),(8,v1),(9,(x 4)),(10,v16),(11,(x 3)),(12,(x 0)),(13,(x 4)),(14,v2),(15,v3),(16,v4),(17,(x 0)),(18,(x 4)),(19,v5),(20,v6),(21,v7),(22,(x 0)),(23,(x 4)),(24,v8),(25,v9),(26,v10),(27,v11),(28,v12),(29,v14)]), h15⟩) (
k (.exit 0) ⟨ar 31 (up x [(5,(x 4)),(6,(x 0)),(7,v0),(8,v1)]), h⟩) := by kernel_rfl
theorem c22_2_eq : cK c22_2 31 x h k =
k .ret ⟨ar 31 (up x [(2,(x 3)),(30,(x 3))]), h⟩ := by kernel_rfl
theorem call22 (a0 : Value) : evC Try.prog 22 #[a0] h = cK c22_0 31 (up un [(0,a0)]) (nm h) (retK Try.f22 Try.prog h) :=
  (evC_call 22 Try.f22 c22_0 Try.func22 (by kernel_rfl) #[a0] h).trans (by kernel_rfl)
theorem ret22 : retK Try.f22 Try.prog g .ret ⟨ar 31 x, h⟩ = fin g (some (x 2)) h := by kernel_rfl
theorem retn22 : retK Try.f22 Try.prog g .normal ⟨ar 31 x, h⟩ = fin g (some (x 2)) h := by kernel_rfl
end Go.Am
namespace Go.Am
open Go.Proofs
set_option maxRecDepth 100000
variable {β : Type} (x : Nat → Value) (h : Heap) (k : Ex → St → Option β) (r m : List Nat) (g : Heap)
noncomputable def c21_0 : Code := bodyC Try.f21 []
noncomputable def c21_1 : Code := bodyC Try.f21 [true, true, false, true, false, false]
noncomputable def c21_2 : Code := bodyC Try.f21 [true, true, true]
theorem c21_0_eq : cK c21_0 26 x h k =
(ln 51 (x 0) h).bind fun v0 =>
(ln 51 (x 1) h).bind fun v1 =>
(bn .neq 3 v0 v1).bind fun v2 =>
cnd v2 (
k .ret ⟨ar 26 (up x [(4,(.bool false)),(6,(x 0)),(7,v0),(8,(x 1)),(9,v1),(10,v2)]), h⟩) (
lK c21_1 26 (up x [(4,(.bool false)),(5,(.int .i64 0)),(6,(x 0)),(7,v0),(8,(x 1)),(9,v1),(10,v2)]) h (blockK 0 (sK c21_2 k))) := by kernel_rfl
theorem c21_1_eq : cK c21_1 26 x h k =
(ln 51 (x 0) h).bind fun v3 =>
(bn .lss 3 (x 5) v3).bind fun v4 =>
cnd v4 (
(ia 51 (x 0) (x 5)).bind fun v5 =>
(ld 72 v5 h).bind fun v6 =>
(ia 51 (x 1) (x 5)).bind fun v7 =>
(ld 72 v7 h).bind fun v8 =>
(bn .neq 72 v6 v8).bind fun v9 =>
cnd v9 (
k .ret ⟨ar 26 (up x [(4,(.bool false)),(11,(x 5)),(12,(x 0)),(13,v3),(14,v4),(17,(x 0)),(18,(x 5)),(19,v5),(20,v6),(21,(x 1)),(22,(x 5)),(23,v7),(24,v8),(25,v9)]), h⟩) (
(bn .add 3 (x 5) (.int .i64 1)).bind fun v10 =>
k .normal ⟨ar 26 (up x [(5,v10),(11,(x 5)),(12,(x 0)),(13,v3),(14,v4),(15,(x 5)),(16,v10),(17,(x 0)),(18,(x 5)),(19,v5),(20,v6),(21,(x 1)),(22,(x 5)),(23,v7),(24,v8),(25,v9)]), h⟩)) (
k (.exit 0) ⟨ar 26 (up x [(11,(x 5)),(12,(x 0)),(13,v3),(14,v4)]), h⟩) := by kernel_rfl
theorem c21_2_eq : cK c21_2 26 x h k =
k .ret ⟨ar 26 (up x [(4,(.bool true))]), h⟩ := by kernel_rfl
theorem call21 (a0 a1 : Value) : evC Try.prog 21 #[a0,a1] h = cK c21_0 26 (up un [(0,a0),(1,a1)]) (nm h) (retK Try.f21 Try.prog h) :=
  (evC_call 21 Try.f21 c21_0 Try.func21 (by kernel_rfl) #[a0,a1] h).trans (by kernel_rfl)
theorem ret21 : retK Try.f21 Try.prog g .ret ⟨ar 26 x, h⟩ = fin g (some (x 4)) h := by kernel_rfl
theorem retn21 : retK Try.f21 Try.prog g .normal ⟨ar 26 x, h⟩ = fin g (some (x 4)) h := by kernel_rfl
end Go.Am
namespace Go.Am
open Go.Proofs
set_option maxRecDepth 100000
variable {β : Type} (x : Nat → Value) (h : Heap) (k : Ex → St → Option β) (r m : List Nat) (g : Heap)
noncomputable def c51_0 : Code := bodyC Try.f51 []
noncomputable def c51_1 : Code := bodyC Try.f51 [true, true, true, false, false, false]
noncomputable def c51_2 : Code := bodyC Try.f51 [true, true, true, true]
theorem c51_0_eq : cK c51_0 49 x h k =
obH (boxV Try.prog 57 (x 1) h) fun v0 h1 =>
(ln 45 (x 0) h1).bind fun v2 =>
lK c51_1 49 (up x [(4,v0),(6,(.int .i64 0)),(7,(.bool false)),(8,v2),(9,(.int .i64 0)),(10,v2),(12,(x 0)),(13,v2),(14,v2)]) h1 (blockK 0 (sK c51_2 k)) := by kernel_rfl
theorem c51_1_eq : cK c51_1 49 x h k =
(bn .lss 3 (x 9) (x 10)).bind fun v3 =>
cnd v3 (
(bn .add 3 (x 9) (x 10)).bind fun v4 =>
obH (cv 3 114 v4 h) fun v5 h6 =>
(bn .shr 114 v5 (.int .u64 1)).bind fun v7 =>
obH (cv 114 3 v7 h6) fun v8 h9 =>
(ia 45 (x 0) v8).bind fun v10 =>
(ld 57 v10 h9).bind fun v11 =>
(ld 57 (x 4) h9).bind fun v12 =>
obH (callV Try.prog (evC Try.prog) (x 2) #[v11,v12] h9) fun v13 h14 =>
(bn .lss 3 v13 (.int .i64 0)).bind fun v15 =>
cnd v15 (
(bn .add 3 v8 (.int .i64 1)).bind fun v16 =>
k .normal ⟨ar 49 (up x [(9,v16),(11,v8),(15,(x 9)),(16,(x 10)),(17,v3),(18,(x 9)),(19,(x 10)),(20,v4),(21,v5),(22,v7),(23,v8),(24,(x 2)),(25,(x 0)),(26,v8),(27,v10),(28,v11),(29,v12),(30,v13),(31,v15),(32,v8),(33,v16)]), h14⟩) (
k .normal ⟨ar 49 (up x [(10,v8),(11,v8),(15,(x 9)),(16,(x 10)),(17,v3),(18,(x 9)),(19,(x 10)),(20,v4),(21,v5),(22,v7),(23,v8),(24,(x 2)),(25,(x 0)),(26,v8),(27,v10),(28,v11),(29,v12),(30,v13),(31,v15),(34,v8)]), h14⟩)) (
k (.exit 0) ⟨ar 49 (up x [(15,(x 9)),(16,(x 10)),(17,v3)]), h⟩) := by kernel_rfl
theorem c51_2_eq : cK c51_2 49 x h k =
(bn .lss 3 (x 9) (x 8)).bind fun v17 =>
(gd (wt v17 true) (ia 45 (gdV (wt v17 true) (x 0)) (gdV (wt v17 true) (x 9)))).bind fun v18 =>
(gd (wt v17 true) (ld 57 v18 h)).bind fun v19 =>
(gd (wt v17 true) (ld 57 (x 4) h)).bind fun v20 =>
obH (gdH (wt v17 true) h (callV Try.prog (evC Try.prog) (gdV (wt v17 true) (x 2)) #[v19,v20] h)) fun v21 h22 =>
(gd (wt v17 true) (bn .eql 3 v21 (.int .i64 0))).bind fun v23 =>
(pickV v17 v23 (.bool false)).bind fun v24 =>
k .ret ⟨ar 49 (up x [(6,(x 9)),(7,v24),(35,(x 9)),(36,(x 9)),(37,(x 8)),(38,v17),(39,v17),(40,(gdV (wt v17 true) (x 2))),(41,(gdV (wt v17 true) (x 0))),(42,(gdV (wt v17 true) (x 9))),(43,v18),(44,v19),(45,v20),(46,v21),(47,v23),(48,v24)]), h22⟩ := by kernel_rfl
theorem call51 (a0 a1 a2 : Value) : evC Try.prog 51 #[a0,a1,a2] h = cK c51_0 49 (up un [(0,a0),(1,a1),(2,a2)]) (nm h) (retK Try.f51 Try.prog h) :=
  (evC_call 51 Try.f51 c51_0 Try.func51 (by kernel_rfl) #[a0,a1,a2] h).trans (by kernel_rfl)
theorem ret51 : retK Try.f51 Try.prog g .ret ⟨ar 49 x, h⟩ = fin g (some (.tuple #[x 6, (x 7)])) h := by kernel_rfl
theorem retn51 : retK Try.f51 Try.prog g .normal ⟨ar 49 x, h⟩ = fin g (some (.tuple #[x 6, (x 7)])) h := by kernel_rfl
end Go.Am
namespace Go.Am
open Go.Proofs
set_option maxRecDepth 100000
variable {β : Type} (x : Nat → Value) (h : Heap) (k : Ex → St → Option β) (r m : List Nat) (g : Heap)
noncomputable def c74_0 : Code := bodyC Try.f74 []
noncomputable def c74_1 : Code := bodyC Try.f74 [true, true, false, true, false, false]
noncomputable def c74_2 : Code := bodyC Try.f74 [true, true, true]
theorem c74_0_eq : cK c74_0 21 x h k =
obH (boxV Try.prog 47 (x 0) h) fun v0 h1 =>
obH (some (makeMapV h1)) fun v2 h3 =>
(fa 47 v0 0).bind fun v4 =>
(ld 45 v4 h3).bind fun v5 =>
(ln 45 v5 h3).bind fun v6 =>
lK c74_1 21 (up x [(1,v0),(2,(.map Option.none)),(3,v2),(6,v2),(7,v4),(8,v5),(9,v6),(10,(.int .i64 0))]) h3 (blockK 0 (sK c74_2 k)) := by kernel_rfl
theorem c74_1_eq : cK c74_1 21 x h k =
(bn .lss 3 (x 10) (x 9)).bind fun v7 =>
cnd v7 (
(ia 45 (x 8) (x 10)).bind fun v8 =>
(ld 57 v8 h).bind fun v9 =>
obH (allocV Try.prog 57 h) fun v10 h11 =>
(sto 57 v10 v9 h11).bind fun h12 =>
(fa 57 v10 0).bind fun v13 =>
(ld 3 v13 h12).bind fun v14 =>
(fa 57 v10 1).bind fun v15 =>
(ld 35 v15 h12).bind fun v16 =>
(mapUpdateV Try.prog 133 (x 3) v14 v16 h12).bind fun h17 =>
(bn .add 3 (x 10) (.int .i64 1)).bind fun v18 =>
k .normal ⟨ar 21 (up x [(5,v10),(10,v18),(11,v7),(12,v8),(13,v9),(14,(x 3)),(15,v13),(16,v14),(17,v15),(18,v16),(19,v18)]), h17⟩) (
k (.exit 0) ⟨ar 21 (up x [(11,v7)]), h⟩) := by kernel_rfl
theorem c74_2_eq : cK c74_2 21 x h k =
k .ret ⟨ar 21 (up x [(2,(x 3)),(20,(x 3))]), h⟩ := by kernel_rfl
theorem call74 (a0 : Value) : evC Try.prog 74 #[a0] h = cK c74_0 21 (up un [(0,a0)]) (nm h) (retK Try.f74 Try.prog h) :=
  (evC_call 74 Try.f74 c74_0 Try.func74 (by kernel_rfl) #[a0] h).trans (by kernel_rfl)
theorem ret74 : retK Try.f74 Try.prog g .ret ⟨ar 21 x, h⟩ = fin g (some (x 2)) h := by kernel_rfl
theorem retn74 : retK Try.f74 Try.prog g .normal ⟨ar 21 x, h⟩ = fin g (some (x 2)) h := by kernel_rfl
end Go.Am
namespace Go.Am
open Go.Proofs
set_option maxRecDepth 100000
variable {β : Type} (x : Nat → Value) (h : Heap) (k : Ex → St → Option β) (r m : List Nat) (g : Heap)
noncomputable def c50_0 : Code := bodyC Try.f50 []
noncomputable def c50_1 : Code := bodyC Try.f50 [true, true, true, false, true, false, false]
noncomputable def c50_2 : Code := bodyC Try.f50 [true, true, true, true]
theorem c50_0_eq : cK c50_0 44 x h k =
obH (boxV Try.prog 47 (x 0) h) fun v0 h1 =>
obH (boxV Try.prog 47 (x 1) h1) fun v2 h3 =>
(ld 47 v2 h3).bind fun v4 =>
obH (ev 74 #[v4] h3) fun v5 h6 =>
(fa 47 v0 0).bind fun v7 =>
(ld 45 v7 h6).bind fun v8 =>
(ln 45 v8 h6).bind fun v9 =>
lK c50_1 44 (up x [(2,v0),(3,v2),(4,(.slice Option.none 0 0)),(5,v5),(6,(.slice Option.none 0 0)),(11,v4),(12,v5),(13,v7),(14,v8),(15,v9),(16,(.int .i64 0))]) h6 (blockK 0 (sK c50_2 k)) := by kernel_rfl
theorem c50_1_eq : cK c50_1 44 x h k =
(bn .lss 3 (x 16) (x 15)).bind fun v10 =>
cnd v10 (
(ia 45 (x 14) (x 16)).bind fun v11 =>
(ld 57 v11 h).bind fun v12 =>
obH (allocV Try.prog 57 h) fun v13 h14 =>
(sto 57 v13 v12 h14).bind fun h15 =>
(fa 47 (x 3) 0).bind fun v16 =>
(ld 45 v16 h15).bind fun v17 =>
(ld 57 v13 h15).bind fun v18 =>
obH (ev 51 #[v17,v18,(.func (.func 48) #[] #[])] h15) fun v19 h20 =>
(extractV v19 0).bind fun v21 =>
(extractV v19 1).bind fun v22 =>
(unV Try.prog .not v22).bind fun v23 =>
(gd (wt v23 true) (fa 57 v13 0)).bind fun v24 =>
(gd (wt v23 true) (ld 3 v24 h20)).bind fun v25 =>
(gd (wt v23 true) (lookupV Try.prog 133 (gdV (wt v23 true) (x 5)) v25 false h20)).bind fun v26 =>
(gd (wt v23 true) (fa 57 v13 1)).bind fun v27 =>
(gd (wt v23 true) (ld 35 v27 h20)).bind fun v28 =>
(gd (wt v23 true) (bn .lss 35 v26 v28)).bind fun v29 =>
(pickV v23 v29 (.bool false)).bind fun v30 =>
cnd v30 (
(ld 57 v13 h20).bind fun v31 =>
obH (buildSliceV Try.prog 45 1 #[(0, v31)] h20) fun v32 h33 =>
obH (ap 45 (some 45) (x 6) v32 h33) fun v34 h35 =>
(bn .add 3 (x 16) (.int .i64 1)).bind fun v36 =>
k .normal ⟨ar 44 (up x [(6,v34),(8,v13),(9,v21),(10,v22),(16,v36),(17,v10),(18,v11),(19,v12),(20,v19),(21,v16),(22,v17),(23,v18),(24,v19),(25,v21),(26,v22),(27,v22),(28,v23),(29,v23),(30,(gdV (wt v23 true) (x 5))),(31,v24),(32,v25),(33,v26),(34,v27),(35,v28),(36,v29),(37,v30),(38,(x 6)),(39,v31),(40,v32),(41,v34),(42,v36)]), h35⟩) (
(bn .add 3 (x 16) (.int .i64 1)).bind fun v37 =>
k .normal ⟨ar 44 (up x [(8,v13),(9,v21),(10,v22),(16,v37),(17,v10),(18,v11),(19,v12),(20,v19),(21,v16),(22,v17),(23,v18),(24,v19),(25,v21),(26,v22),(27,v22),(28,v23),(29,v23),(30,(gdV (wt v23 true) (x 5))),(31,v24),(32,v25),(33,v26),(34,v27),(35,v28),(36,v29),(37,v30),(42,v37)]), h20⟩)) (
k (.exit 0) ⟨ar 44 (up x [(17,v10)]), h⟩) := by kernel_rfl
theorem c50_2_eq : cK c50_2 44 x h k =
k .ret ⟨ar 44 (up x [(4,(x 6)),(43,(x 6))]), h⟩ := by kernel_rfl
theorem call50 (a0 a1 : Value) : evC Try.prog 50 #[a0,a1] h = cK c50_0 44 (up un [(0,a0),(1,a1)]) (nm h) (retK Try.f50 Try.prog h) :=
  (evC_call 50 Try.f50 c50_0 Try.func50 (by kernel_rfl) #[a0,a1] h).trans (by kernel_rfl)
theorem ret50 : retK Try.f50 Try.prog g .ret ⟨ar 44 x, h⟩ = fin g (some (x 4)) h := by kernel_rfl
theorem retn50 : retK Try.f50 Try.prog g .normal ⟨ar 44 x, h⟩ = fin g (some (x 4)) h := by kernel_rfl
end Go.Am
namespace Go.Am
open Go.Proofs
set_option maxRecDepth 100000
variable {β : Type} (x : Nat → Value) (h : Heap) (k : Ex → St → Option β) (r m : List Nat) (g : Heap)
noncomputable def c23_0 : Code := bodyC Try.f23 []
noncomputable def c23_1 : Code := bodyC Try.f23 [true, true, true, false, true, false, false]
noncomputable def c23_2 : Code := bodyC Try.f23 [true, true, true, true]
theorem c23_0_eq : cK c23_0 61 x h k =
obH (boxV Try.prog 47 (x 0) h) fun v0 h1 =>
obH (boxV Try.prog 47 (x 1) h1) fun v2 h3 =>
obH (allocV Try.prog 47 h3) fun v4 h5 =>
(ld 47 v0 h5).bind fun v6 =>
obH (ev 19 #[v6] h5) fun v7 h8 =>
(unV Try.prog .not v7).bind fun v9 =>
(gd (wt v9 false) (ld 47 v2 h8)).bind fun v10 =>
obH (gdH (wt v9 false) h8 (ev 19 #[v10] h8)) fun v11 h12 =>
(gd (wt v9 false) (unV Try.prog .not v11)).bind fun v13 =>
(pickV v9 (.bool true) v13).bind fun v14 =>
cnd v14 (
(ld 47 v0 h12).bind fun v15 =>
obH (ev 49 #[v15] h12) fun v16 h17 =>
(sto 47 v4 v16 h17).bind fun h18 =>
k .ret ⟨ar 61 (up x [(2,v0),(3,v2),(4,v4),(10,v6),(11,v7),(12,v9),(13,v9),(14,v10),(15,v11),(16,v13),(17,v14),(18,v15),(19,v16)]), h18⟩) (
(ld 47 v0 h12).bind fun v19 =>
(ld 47 v2 h12).bind fun v20 =>
obH (ev 50 #[v19,v20] (nm h12)) fun v21 h22 =>
(ld 47 v2 (am h22 h12)).bind fun v23 =>
(ld 47 v0 (am h22 h12)).bind fun v24 =>
obH (ev 50 #[v23,v24] (am h22 h12)) fun v25 h26 =>
obH (ap 45 (some 45) v21 v25 h26) fun v27 h28 =>
chk ((rb v0) ++ ((rb v2) ++ [])) (h22.mods ++ []) (
(fa 47 v0 0).bind fun v29 =>
(ld 45 v29 h28).bind fun v30 =>
(ln 45 v30 h28).bind fun v31 =>
lK c23_1 61 (up x [(2,v0),(3,v2),(4,v4),(5,v27),(10,v6),(11,v7),(12,v9),(13,v9),(14,v10),(15,v11),(16,v13),(17,v14),(20,v19),(21,v20),(22,v21),(23,v23),(24,v24),(25,v25),(26,v27),(27,v29),(28,v30),(29,v31),(30,(.int .i64 0))]) h28 (blockK 0 (sK c23_2 k)))) := by kernel_rfl
theorem c23_1_eq : cK c23_1 61 x h k =
(bn .lss 3 (x 30) (x 29)).bind fun v32 =>
cnd v32 (
(ia 45 (x 28) (x 30)).bind fun v33 =>
(ld 57 v33 h).bind fun v34 =>
obH (allocV Try.prog 57 h) fun v35 h36 =>
(sto 57 v35 v34 h36).bind fun h37 =>
(fa 47 (x 3) 0).bind fun v38 =>
(ld 45 v38 h37).bind fun v39 =>
(ld 57 v35 h37).bind fun v40 =>
obH (ev 51 #[v39,v40,(.func (.func 48) #[] #[])] h37) fun v41 h42 =>
(extractV v41 0).bind fun v43 =>
(extractV v41 1).bind fun v44 =>
cnd v44 (
(fa 57 v35 2).bind fun v45 =>
(ld 55 v45 h42).bind fun v46 =>
(fa 47 (x 3) 0).bind fun v47 =>
(ld 45 v47 h42).bind fun v48 =>
(ia 45 v48 v43).bind fun v49 =>
(fa 57 v49 2).bind fun v50 =>
(ld 55 v50 h42).bind fun v51 =>
(bn .and 55 v46 v51).bind fun v52 =>
(fa 57 v35 2).bind fun v53 =>
(sto 55 v53 v52 h42).bind fun h54 =>
(ld 57 v35 h54).bind fun v55 =>
obH (buildSliceV Try.prog 45 1 #[(0, v55)] h54) fun v56 h57 =>
obH (ap 45 (some 45) (x 5) v56 h57) fun v58 h59 =>
(bn .add 3 (x 30) (.int .i64 1)).bind fun v60 =>
k .normal ⟨ar 61 (up x [(5,v58),(7,v35),(8,v43),(9,v44),(30,v60),(31,v32),(32,v33),(33,v34),(34,v41),(35,v38),(36,v39),(37,v40),(38,v41),(39,v43),(40,v44),(41,v44),(42,v45),(43,v46),(44,v47),(45,v48),(46,v43),(47,v49),(48,v50),(49,v51),(50,v52),(51,v53),(52,(x 5)),(53,v55),(54,v56),(55,v58),(56,v60)]), h59⟩) (
(bn .add 3 (x 30) (.int .i64 1)).bind fun v61 =>
k .normal ⟨ar 61 (up x [(7,v35),(8,v43),(9,v44),(30,v61),(31,v32),(32,v33),(33,v34),(34,v41),(35,v38),(36,v39),(37,v40),(38,v41),(39,v43),(40,v44),(41,v44),(56,v61)]), h42⟩)) (
k (.exit 0) ⟨ar 61 (up x [(31,v32)]), h⟩) := by kernel_rfl
theorem c23_2_eq : cK c23_2 61 x h k =
obH (ev 52 #[x 5,(.func (.func 48) #[] #[])] h) fun v62 h63 =>
(buildV Try.prog 47 #[(0, (x 5))]).bind fun v64 =>
(sto 47 (x 4) v64 h63).bind fun h65 =>
k .ret ⟨ar 61 (up x [(57,(x 5)),(58,v62),(59,(x 5)),(60,v64)]), h65⟩ := by kernel_rfl
theorem call23 (a0 a1 : Value) : evC Try.prog 23 #[a0,a1] h = cK c23_0 61 (up un [(0,a0),(1,a1)]) (nm h) (retK Try.f23 Try.prog h) :=
  (evC_call 23 Try.f23 c23_0 Try.func23 (by kernel_rfl) #[a0,a1] h).trans (by kernel_rfl)
theorem ret23 : retK Try.f23 Try.prog g .ret ⟨ar 61 x, h⟩ = fin g (rvals ((ld 47 (x 4) h).bind fun r0 => some [r0])) h := by kernel_rfl
theorem retn23 : retK Try.f23 Try.prog g .normal ⟨ar 61 x, h⟩ = fin g (rvals ((ld 47 (x 4) h).bind fun r0 => some [r0])) h := by kernel_rfl
end Go.Am
namespace Go.Am
open Go.Proofs
set_option maxRecDepth 100000
variable {β : Type} (x : Nat → Value) (h : Heap) (k : Ex → St → Option β) (r m : List Nat) (g : Heap)
noncomputable def c24_0 : Code := bodyC Try.f24 []
noncomputable def c24_1 : Code := bodyC Try.f24 [true, true, true, false, true, false, false]
noncomputable def c24_2 : Code := bodyC Try.f24 [true, true, true, true]
theorem c24_0_eq : cK c24_0 30 x h k =
obH (boxV Try.prog 47 (x 0) h) fun v0 h1 =>
obH (allocV Try.prog 47 h1) fun v2 h3 =>
(ld 47 v0 h3).bind fun v4 =>
obH (ev 49 #[v4] h3) fun v5 h6 =>
(sto 47 v0 v5 h6).bind fun h7 =>
(ld 47 v0 h7).bind fun v8 =>
obH (ev 19 #[v8] h7) fun v9 h10 =>
(unV Try.prog .not v9).bind fun v11 =>
cnd v11 (
(ld 47 v0 h10).bind fun v12 =>
(sto 47 v2 v12 h10).bind fun h13 =>
k .ret ⟨ar 30 (up x [(2,v0),(4,v2),(6,v4),(7,v5),(8,v8),(9,v9),(10,v11),(11,v12)]), h13⟩) (
(fa 47 v0 0).bind fun v14 =>
(ld 45 v14 h10).bind fun v15 =>
(ln 45 v15 h10).bind fun v16 =>
lK c24_1 30 (up x [(2,v0),(4,v2),(6,v4),(7,v5),(8,v8),(9,v9),(10,v11),(12,v14),(13,v15),(14,v16),(15,(.int .i64 0))]) h10 (blockK 0 (sK c24_2 k))) := by kernel_rfl
theorem c24_1_eq : cK c24_1 30 x h k =
(bn .lss 3 (x 15) (x 14)).bind fun v17 =>
cnd v17 (
(fa 47 (x 2) 0).bind fun v18 =>
(ld 45 v18 h).bind fun v19 =>
(ia 45 v19 (x 15)).bind fun v20 =>
(fa 57 v20 2).bind fun v21 =>
(ld 55 v21 h).bind fun v22 =>
(bn .andNot 55 v22 (x 1)).bind fun v23 =>
(ia 45 v19 (x 15)).bind fun v24 =>
(fa 57 v24 2).bind fun v25 =>
(sto 55 v25 v23 h).bind fun h26 =>
(bn .add 3 (x 15) (.int .i64 1)).bind fun v27 =>
k .normal ⟨ar 30 (up x [(5,(x 15)),(15,v27),(16,v17),(17,(x 15)),(18,v18),(19,v19),(20,(x 15)),(21,v20),(22,v21),(23,v22),(24,(x 1)),(25,v23),(26,v24),(27,v25),(28,v27)]), h26⟩) (
k (.exit 0) ⟨ar 30 (up x [(16,v17)]), h⟩) := by kernel_rfl
theorem c24_2_eq : cK c24_2 30 x h k =
(ld 47 (x 2) h).bind fun v28 =>
(sto 47 (x 4) v28 h).bind fun h29 =>
k .ret ⟨ar 30 (up x [(29,v28)]), h29⟩ := by kernel_rfl
theorem call24 (a0 a1 : Value) : evC Try.prog 24 #[a0,a1] h = cK c24_0 30 (up un [(0,a0),(1,a1)]) (nm h) (retK Try.f24 Try.prog h) :=
  (evC_call 24 Try.f24 c24_0 Try.func24 (by kernel_rfl) #[a0,a1] h).trans (by kernel_rfl)
theorem ret24 : retK Try.f24 Try.prog g .ret ⟨ar 30 x, h⟩ = fin g (rvals ((ld 47 (x 4) h).bind fun r0 => some [r0])) h := by kernel_rfl
theorem retn24 : retK Try.f24 Try.prog g .normal ⟨ar 30 x, h⟩ = fin g (rvals ((ld 47 (x 4) h).bind fun r0 => some [r0])) h := by kernel_rfl
end Go.Am
namespace Go.Am
open Go.Proofs
set_option maxRecDepth 100000
variable {β : Type} (x : Nat → Value) (h : Heap) (k : Ex → St → Option β) (r m : List Nat) (g : Heap)
noncomputable def c25_0 : Code := bodyC Try.f25 []
theorem c25_0_eq : cK c25_0 14 x h k =
obH (boxV Try.prog 47 (x 0) h) fun v0 h1 =>
obH (allocV Try.prog 47 h1) fun v2 h3 =>
(ld 47 v0 h3).bind fun v4 =>
obH (buildSliceV Try.prog 43 1 #[(0, (x 2))] h3) fun v5 h6 =>
obH (ev 26 #[v5] (nm h6)) fun v7 h8 =>
(bn .andNot 55 (x 1) v7).bind fun v9 =>
obH (ev 24 #[v4,v9] (am h8 h6)) fun v10 h11 =>
(sto 47 v2 v10 h11).bind fun h12 =>
chk ((rb v0) ++ []) (h8.mods ++ []) (
k .ret ⟨ar 14 (up x [(3,v0),(6,v2),(7,v4),(8,(x 1)),(9,(x 2)),(10,v5),(11,v7),(12,v9),(13,v10)]), h12⟩) := by kernel_rfl
theorem call25 (a0 a1 a2 : Value) : evC Try.prog 25 #[a0,a1,a2] h = cK c25_0 14 (up un [(0,a0),(1,a1),(2,a2)]) (nm h) (retK Try.f25 Try.prog h) :=
  (evC_call 25 Try.f25 c25_0 Try.func25 (by kernel_rfl) #[a0,a1,a2] h).trans (by kernel_rfl)
theorem ret25 : retK Try.f25 Try.prog g .ret ⟨ar 14 x, h⟩ = fin g (rvals ((ld 47 (x 6) h).bind fun r0 => some [r0])) h := by kernel_rfl
theorem retn25 : retK Try.f25 Try.prog g .normal ⟨ar 14 x, h⟩ = fin g (rvals ((ld 47 (x 6) h).bind fun r0 => some [r0])) h := by kernel_rfl
end Go.Am
namespace Go.Am
open Go.Proofs
set_option maxRecDepth 100000
variable {β : Type} (x : Nat → Value) (h : Heap) (k : Ex → St → Option β) (r m : List Nat) (g : Heap)
noncomputable def c26_0 : Code := bodyC Try.f26 []
noncomputable def c26_1 : Code := bodyC Try.f26 [true, true, false, true, false, false]
noncomputable def c26_2 : Code := bodyC Try.f26 [true, true, true]
theorem c26_0_eq : cK c26_0 24 x h k =
(ln 43 (x 0) h).bind fun v0 =>
lK c26_1 24 (up x [(2,(.int .u64 0)),(3,(.int .u64 0)),(6,(x 0)),(7,v0),(8,(.int .i64 0))]) h (blockK 0 (sK c26_2 k)) := by kernel_rfl
theorem c26_1_eq : cK c26_1 24 x h k =
(bn .lss 3 (x 8) (x 7)).bind fun v1 =>
cnd v1 (
(ia 43 (x 6) (x 8)).bind fun v2 =>
(ld 3 v2 h).bind fun v3 =>
(bn .geq 3 v3 (.int .i64 0)).bind fun v4 =>
(gd (wt v4 true) (bn .lss 3 (gdV (wt v4 true) v3) (.int .i64 64))).bind fun v5 =>
(pickV v4 v5 (.bool false)).bind fun v6 =>
cnd v6 (
(bn .shl 55 (.int .u64 1) v3).bind fun v7 =>
(bn .or 55 (x 3) v7).bind fun v8 =>
(bn .add 3 (x 8) (.int .i64 1)).bind fun v9 =>
k .normal ⟨ar 24 (up x [(3,v8),(5,v3),(8,v9),(9,v1),(10,v2),(11,v3),(12,v3),(13,v4),(14,v4),(15,(gdV (wt v4 true) v3)),(16,v5),(17,v6),(18,(x 3)),(19,v3),(20,v7),(21,v8),(22,v9)]), h⟩) (
(bn .add 3 (x 8) (.int .i64 1)).bind fun v10 =>
k .normal ⟨ar 24 (up x [(5,v3),(8,v10),(9,v1),(10,v2),(11,v3),(12,v3),(13,v4),(14,v4),(15,(gdV (wt v4 true) v3)),(16,v5),(17,v6),(22,v10)]), h⟩)) (
k (.exit 0) ⟨ar 24 (up x [(9,v1)]), h⟩) := by kernel_rfl
theorem c26_2_eq : cK c26_2 24 x h k =
k .ret ⟨ar 24 (up x [(2,(x 3)),(23,(x 3))]), h⟩ := by kernel_rfl
theorem call26 (a0 : Value) : evC Try.prog 26 #[a0] h = cK c26_0 24 (up un [(0,a0)]) (nm h) (retK Try.f26 Try.prog h) :=
  (evC_call 26 Try.f26 c26_0 Try.func26 (by kernel_rfl) #[a0] h).trans (by kernel_rfl)
theorem ret26 : retK Try.f26 Try.prog g .ret ⟨ar 24 x, h⟩ = fin g (some (x 2)) h := by kernel_rfl
theorem retn26 : retK Try.f26 Try.prog g .normal ⟨ar 24 x, h⟩ = fin g (some (x 2)) h := by kernel_rfl
end Go.Am
namespace Go.Am
open Go.Proofs
set_option maxRecDepth 100000
variable {β : Type} (x : Nat → Value) (h : Heap) (k : Ex → St → Option β) (r m : List Nat) (g : Heap)
noncomputable def c20_0 : Code := bodyC Try.f20 []
noncomputable def c20_1 : Code := bodyC Try.f20 [true, true, true, true, false, true, false, false]
noncomputable def c20_2 : Code := bodyC Try.f20 [true, true, true, true, true]
theorem c20_0_eq : cK c20_0 50 x h k =
obH (boxV Try.prog 47 (x 0) h) fun v0 h1 =>
obH (allocV Try.prog 47 h1) fun v2 h3 =>
(ld 47 v0 h3).bind fun v4 =>
obH (ev 49 #[v4] h3) fun v5 h6 =>
(sto 47 v0 v5 h6).bind fun h7 =>
(ld 47 v0 h7).bind fun v8 =>
obH (ev 19 #[v8] h7) fun v9 h10 =>
(unV Try.prog .not v9).bind fun v11 =>
cnd v11 (
(ld 47 v0 h10).bind fun v12 =>
(sto 47 v2 v12 h10).bind fun h13 =>
k .ret ⟨ar 50 (up x [(1,v0),(2,v2),(6,v4),(7,v5),(8,v8),(9,v9),(10,v11),(11,v12)]), h13⟩) (
(fa 47 v0 0).bind fun v14 =>
(ld 45 v14 h10).bind fun v15 =>
(ln 45 v15 h10).bind fun v16 =>
lK c20_1 50 (up x [(1,v0),(2,v2),(3,(.slice Option.none 0 0)),(6,v4),(7,v5),(8,v8),(9,v9),(10,v11),(12,v14),(13,v15),(14,v16),(15,(.int .i64 0))]) h10 (blockK 0 (sK c20_2 k))) := by kernel_rfl
theorem c20_1_eq : cK c20_1 50 x h k =
(bn .lss 3 (x 15) (x 14)).bind fun v17 =>
cnd v17 (
(ia 45 (x 13) (x 15)).bind fun v18 =>
(ld 57 v18 h).bind fun v19 =>
obH (allocV Try.prog 57 h) fun v20 h21 =>
(sto 57 v20 v19 h21).bind fun h22 =>
(fa 57 v20 2).bind fun v23 =>
(ld 55 v23 h22).bind fun v24 =>
(bn .neq 55 v24 (.int .u64 0)).bind fun v25 =>
(gd (wt v25 false) (fa 47 (x 1) 0)).bind fun v26 =>
(gd (wt v25 false) (ld 45 v26 h22)).bind fun v27 =>
(gd (wt v25 false) (ln 45 v27 h22)).bind fun v28 =>
(gd (wt v25 false) (bn .sub 3 v28 (.int .i64 1))).bind fun v29 =>
(gd (wt v25 false) (bn .eql 3 (gdV (wt v25 false) (x 15)) v29)).bind fun v30 =>
(pickV v25 (.bool true) v30).bind fun v31 =>
(gd (wt v31 false) (fa 47 (x 1) 0)).bind fun v32 =>
(gd (wt v31 false) (ld 45 v32 h22)).bind fun v33 =>
(gd (wt v31 false) (bn .add 3 (gdV (wt v31 false) (x 15)) (.int .i64 1))).bind fun v34 =>
(gd (wt v31 false) (ia 45 v33 v34)).bind fun v35 =>
(gd (wt v31 false) (fa 57 v35 0)).bind fun v36 =>
(gd (wt v31 false) (ld 3 v36 h22)).bind fun v37 =>
(gd (wt v31 false) (fa 57 v20 0)).bind fun v38 =>
(gd (wt v31 false) (ld 3 v38 h22)).bind fun v39 =>
(gd (wt v31 false) (bn .neq 3 v37 v39)).bind fun v40 =>
(pickV v31 (.bool true) v40).bind fun v41 =>
cnd v41 (
(ld 57 v20 h22).bind fun v42 =>
obH (buildSliceV Try.prog 45 1 #[(0, v42)] h22) fun v43 h44 =>
obH (ap 45 (some 45) (x 3) v43 h44) fun v45 h46 =>
(bn .add 3 (x 15) (.int .i64 1)).bind fun v47 =>
k .normal ⟨ar 50 (up x [(3,v45),(4,(x 15)),(5,v20),(15,v47),(16,v17),(17,(x 15)),(18,v18),(19,v19),(20,v23),(21,v24),(22,v25),(23,v25),(24,(gdV (wt v25 false) (x 15))),(25,v26),(26,v27),(27,v28),(28,v29),(29,v30),(30,v31),(31,v31),(32,v32),(33,v33),(34,(gdV (wt v31 false) (x 15))),(35,v34),(36,v35),(37,v36),(38,v37),(39,v38),(40,v39),(41,v40),(42,v41),(43,(x 3)),(44,v42),(45,v43),(46,v45),(47,v47)]), h46⟩) (
(bn .add 3 (x 15) (.int .i64 1)).bind fun v48 =>
k .normal ⟨ar 50 (up x [(4,(x 15)),(5,v20),(15,v48),(16,v17),(17,(x 15)),(18,v18),(19,v19),(20,v23),(21,v24),(22,v25),(23,v25),(24,(gdV (wt v25 false) (x 15))),(25,v26),(26,v27),(27,v28),(28,v29),(29,v30),(30,v31),(31,v31),(32,v32),(33,v33),(34,(gdV (wt v31 false) (x 15))),(35,v34),(36,v35),(37,v36),(38,v37),(39,v38),(40,v39),(41,v40),(42,v41),(47,v48)]), h22⟩)) (
k (.exit 0) ⟨ar 50 (up x [(16,v17)]), h⟩) := by kernel_rfl
theorem c20_2_eq : cK c20_2 50 x h k =
(buildV Try.prog 47 #[(0, (x 3))]).bind fun v49 =>
(sto 47 (x 2) v49 h).bind fun h50 =>
k .ret ⟨ar 50 (up x [(48,(x 3)),(49,v49)]), h50⟩ := by kernel_rfl
theorem call20 (a0 : Value) : evC Try.prog 20 #[a0] h = cK c20_0 50 (up un [(0,a0)]) (nm h) (retK Try.f20 Try.prog h) :=
  (evC_call 20 Try.f20 c20_0 Try.func20 (by kernel_rfl) #[a0] h).trans (by kernel_rfl)
theorem ret20 : retK Try.f20 Try.prog g .ret ⟨ar 50 x, h⟩ = fin g (rvals ((ld 47 (x 2) h).bind fun r0 => some [r0])) h := by kernel_rfl
theorem retn20 : retK Try.f20 Try.prog g .normal ⟨ar 50 x, h⟩ = fin g (rvals ((ld 47 (x 2) h).bind fun r0 => some [r0])) h := by kernel_rfl
end Go.Am
namespace Go.Am
open Go.Proofs
set_option maxRecDepth 100000
variable {β : Type} (x : Nat → Value) (h : Heap) (k : Ex → St → Option β) (r m : List Nat) (g : Heap)
noncomputable def c18_0 : Code := bodyC Try.f18 []
noncomputable def c18_1 : Code := bodyC Try.f18 [false]
noncomputable def c18_2 : Code := bodyC Try.f18 [true]
noncomputable def c18_3 : Code := bodyC Try.f18 [true, false]
noncomputable def c18_4 : Code := bodyC Try.f18 [true, true]
noncomputable def d18_0 : Array Oper := opsC (bodyC Try.f18 [true, true, false])
noncomputable def c18_5 : Code := bodyC Try.f18 [true, true, false]
noncomputable def c18_6 : Code := bodyC Try.f18 [true, true, true]
theorem c18_0_eq : cK c18_0 22 x h k =
cK c18_1 22 x h (sK c18_2 k) := codeK_seq _ _ _ _ _ (by kernel_rfl) _ _
theorem c18_1_eq : cK c18_1 22 x h k =
k .normal ⟨ar 22 (up x [(0,(.bool false))]), h⟩ := by kernel_rfl
theorem c18_2_eq : cK c18_2 22 x h k =
cK c18_3 22 x h (sK c18_4 k) := codeK_seq _ _ _ _ _ (by kernel_rfl) _ _
theorem c18_3_eq : cK c18_3 22 x h k =
(buildV Try.prog 57 #[(0, (.int .i64 0)), (1, (.int .u64 2)), (2, (.int .u64 2))]).bind fun v0 =>
obH (buildSliceV Try.prog 45 1 #[(0, v0)] h) fun v1 h2 =>
(buildV Try.prog 47 #[(0, v1)]).bind fun v3 =>
(buildV Try.prog 57 #[(0, (.int .i64 0)), (1, (.int .u64 1)), (2, (.int .u64 8))]).bind fun v4 =>
obH (buildSliceV Try.prog 45 1 #[(0, v4)] h2) fun v5 h6 =>
(buildV Try.prog 47 #[(0, v5)]).bind fun v7 =>
obH (allocV Try.prog 47 h6) fun v8 h9 =>
obH (allocV Try.prog 47 h9) fun v10 h11 =>
(sto 47 v8 v3 h11).bind fun h12 =>
(sto 47 v10 v7 h12).bind fun h13 =>
k .normal ⟨ar 22 (up x [(1,v8),(2,v10),(3,v0),(4,v1),(5,v3),(6,v4),(7,v5),(8,v7)]), h13⟩ := by kernel_rfl
theorem c18_4_eq : cK c18_4 22 x h k =
cK c18_5 22 x h (sK c18_6 k) := codeK_seq _ _ _ _ _ (by kernel_rfl) _ _
theorem d18_0_0 (k : St → Option β) : rD d18_0 0 22 x h r m k =
(ld 47 (x 1) h).bind fun v14 =>
rD d18_0 1 22 (up x [(9,v14)]) h r m k := (regD_step _ _ d18_0 0 (by kernel_rfl) _ _ _ _).trans (by kernel_rfl)
theorem d18_0_1 (k : St → Option β) : rD d18_0 1 22 x h r m k =
obH (ev 19 #[x 9] h) fun v15 h16 =>
rD d18_0 2 22 (up x [(10,v15)]) h16 r m k := (regD_step _ _ d18_0 1 (by kernel_rfl) _ _ _ _).trans (by kernel_rfl)
theorem d18_0_2 (k : St → Option β) : rD d18_0 2 22 x h r m k =
rD d18_0 3 22 (up x [(11,(x 10))]) h r m k := regD_move _ _ d18_0 2 (by kernel_rfl) (by kernel_rfl) (by kernel_rfl) _ _ _ _ _ _ (by kernel_rfl) (by kernel_rfl)
theorem d18_0_3 (k : St → Option β) : rD d18_0 3 22 x h r m k =
(gd (wt (x 11) true) (ld 47 (x 1) h)).bind fun v17 =>
rD d18_0 4 22 (up x [(12,v17)]) h r m k := (regD_step _ _ d18_0 3 (by kernel_rfl) _ _ _ _).trans (by kernel_rfl)
theorem d18_0_4 (k : St → Option β) : rD d18_0 4 22 x h r m k =
(gd (wt (x 11) true) (ld 47 (x 2) h)).bind fun v18 =>
rD d18_0 5 22 (up x [(13,v18)]) h r m k := (regD_step _ _ d18_0 4 (by kernel_rfl) _ _ _ _).trans (by kernel_rfl)
theorem d18_0_5 (k : St → Option β) : rD d18_0 5 22 x h r m k =
obH (gdH (wt (x 11) true) (nm h) (ev 23 #[x 12,x 13] (nm h))) fun v19 h20 =>
rD d18_0 6 22 (up x [(14,v19)]) (am h20 h) r (h20.mods ++ m) k := (regD_step _ _ d18_0 5 (by kernel_rfl) _ _ _ _).trans (by kernel_rfl)
theorem d18_0_6 (k : St → Option β) : rD d18_0 6 22 x h r m k =
(gd (wt (x 11) true) (fv 47 (x 14) 0)).bind fun v21 =>
rD d18_0 7 22 (up x [(15,v21)]) h r m k := (regD_step _ _ d18_0 6 (by kernel_rfl) _ _ _ _).trans (by kernel_rfl)
theorem d18_0_7 (k : St → Option β) : rD d18_0 7 22 x h r m k =
obH (gdH (wt (x 11) true) (nm h) (ev 22 #[x 15] (nm h))) fun v22 h23 =>
rD d18_0 8 22 (up x [(16,v22)]) (am h23 h) r (h23.mods ++ m) k := (regD_step _ _ d18_0 7 (by kernel_rfl) _ _ _ _).trans (by kernel_rfl)
theorem d18_0_8 (k : St → Option β) : rD d18_0 8 22 x h r m k =
(gd (wt (x 11) true) (fa 47 (x 1) 0)).bind fun v24 =>
rD d18_0 9 22 (up x [(17,v24)]) h r m k := (regD_step _ _ d18_0 8 (by kernel_rfl) _ _ _ _).trans (by kernel_rfl)
theorem d18_0_9 (k : St → Option β) : rD d18_0 9 22 x h r m k =
(gd (wt (x 11) true) (ld 45 (x 17) h)).bind fun v25 =>
rD d18_0 10 22 (up x [(18,v25)]) h (rdL (wt (x 11) true) (rb (x 17)) ++ r) m k := (regD_step _ _ d18_0 9 (by kernel_rfl) _ _ _ _).trans (by kernel_rfl)
theorem d18_0_10 (k : St → Option β) : rD d18_0 10 22 x h r m k =
obH (gdH (wt (x 11) true) h (ev 22 #[x 18] h)) fun v26 h27 =>
rD d18_0 11 22 (up x [(19,v26)]) h27 r m k := (regD_step _ _ d18_0 10 (by kernel_rfl) _ _ _ _).trans (by kernel_rfl)
theorem d18_0_11 (k : St → Option β) : rD d18_0 11 22 x h r m k =
obH (gdH (wt (x 11) true) h (ev 21 #[x 16,x 19] h)) fun v28 h29 =>
rD d18_0 12 22 (up x [(20,v28)]) h29 r m k := (regD_step _ _ d18_0 11 (by kernel_rfl) _ _ _ _).trans (by kernel_rfl)
theorem d18_0_12 (k : St → Option β) : rD d18_0 12 22 x h r m k =
(pickV (x 11) (x 20) (.bool false)).bind fun v30 =>
rD d18_0 13 22 (up x [(21,v30)]) h r m k := (regD_step _ _ d18_0 12 (by kernel_rfl) _ _ _ _).trans (by kernel_rfl)
theorem d18_0_13 (k : St → Option β) : rD d18_0 13 22 x h r m k =
rD d18_0 14 22 (up x [(0,(x 21))]) h r m k := regD_move _ _ d18_0 13 (by kernel_rfl) (by kernel_rfl) (by kernel_rfl) _ _ _ _ _ _ (by kernel_rfl) (by kernel_rfl)
theorem d18_0_14 (k : St → Option β) : rD d18_0 14 22 x h r m k =
chk r m (k ⟨ar 22 x, h⟩) := by kernel_rfl
theorem c18_5_eq : cK c18_5 22 x h k =
rD d18_0 0 22 x h [] [] (fun s => k .normal s) := by kernel_rfl
theorem c18_6_eq : cK c18_6 22 x h k =
k .ret ⟨ar 22 x, h⟩ := by kernel_rfl
theorem call18  : evC Try.prog 18 #[] h = cK c18_0 22 un (nm h) (retK Try.f18 Try.prog h) :=
  (evC_call 18 Try.f18 c18_0 Try.func18 (by kernel_rfl) #[] h).trans (by kernel_rfl)
theorem ret18 : retK Try.f18 Try.prog g .ret ⟨ar 22 x, h⟩ = fin g (some (x 0)) h := by kernel_rfl
theorem retn18 : retK Try.f18 Try.prog g .normal ⟨ar 22 x, h⟩ = fin g (some (x 0)) h := by kernel_rfl
end Go.Am
namespace Go.Am
open Go.Proofs
set_option maxRecDepth 100000
variable {β : Type} (x : Nat → Value) (h : Heap) (k : Ex → St → Option β) (r m : List Nat) (g : Heap)
noncomputable def c31_0 : Code := bodyC Try.f31 []
noncomputable def c31_1 : Code := bodyC Try.f31 [true, true, true, true, false, true, false, false]
noncomputable def c31_2 : Code := bodyC Try.f31 [true, true, true, true, true]
theorem c31_0_eq : cK c31_0 39 x h k =
obH (boxV Try.prog 47 (x 0) h) fun v0 h1 =>
(ld 47 v0 h1).bind fun v2 =>
obH (ev 19 #[v2] h1) fun v3 h4 =>
(unV Try.prog .not v3).bind fun v5 =>
cnd v5 (
k .ret ⟨ar 39 (up x [(1,v0),(2,(.slice Option.none 0 0)),(6,v2),(7,v3),(8,v5)]), h4⟩) (
obH (ev 44 #[] h4) fun v6 h7 =>
(fa 47 v0 0).bind fun v8 =>
(ld 45 v8 h7).bind fun v9 =>
(ln 45 v9 h7).bind fun v10 =>
obH (cv 3 35 v10 h7) fun v11 h12 =>
obH (ev 45 #[v6,v11] h12) fun v13 h14 =>
(fa 47 v0 0).bind fun v15 =>
(ld 45 v15 h14).bind fun v16 =>
(ln 45 v16 h14).bind fun v17 =>
lK c31_1 39 (up x [(1,v0),(2,(.slice Option.none 0 0)),(3,v6),(6,v2),(7,v3),(8,v5),(9,v6),(10,v6),(11,v8),(12,v9),(13,v10),(14,v11),(15,v13),(16,v15),(17,v16),(18,v17),(19,(.int .i64 0))]) h14 (blockK 0 (sK c31_2 k))) := by kernel_rfl
theorem c31_1_eq : cK c31_1 39 x h k =
(bn .lss 3 (x 19) (x 18)).bind fun v18 =>
cnd v18 (
(ia 45 (x 17) (x 19)).bind fun v19 =>
(ld 57 v19 h).bind fun v20 =>
obH (allocV Try.prog 57 h) fun v21 h22 =>
(sto 57 v21 v20 h22).bind fun h23 =>
(fa 57 v21 0).bind fun v24 =>
(ld 3 v24 h23).bind fun v25 =>
obH (cv 3 35 v25 h23) fun v26 h27 =>
obH (ev 45 #[x 3,v26] h27) fun v28 h29 =>
(fa 57 v21 1).bind fun v30 =>
(ld 35 v30 h29).bind fun v31 =>
obH (ev 45 #[x 3,v31] h29) fun v32 h33 =>
(fa 57 v21 2).bind fun v34 =>
(ld 55 v34 h33).bind fun v35 =>
obH (ev 60 #[x 3,v35] h33) fun v36 h37 =>
(bn .add 3 (x 19) (.int .i64 1)).bind fun v38 =>
k .normal ⟨ar 39 (up x [(5,v21),(19,v38),(20,v18),(21,v19),(22,v20),(23,(x 3)),(24,v24),(25,v25),(26,v26),(27,v28),(28,(x 3)),(29,v30),(30,v31),(31,v32),(32,(x 3)),(33,v34),(34,v35),(35,v36),(36,v38)]), h37⟩) (
k (.exit 0) ⟨ar 39 (up x [(20,v18)]), h⟩) := by kernel_rfl
theorem c31_2_eq : cK c31_2 39 x h k =
obH (ev 46 #[x 3] h) fun v39 h40 =>
k .ret ⟨ar 39 (up x [(2,v39),(37,(x 3)),(38,v39)]), h40⟩ := by kernel_rfl
theorem call31 (a0 : Value) : evC Try.prog 31 #[a0] h = cK c31_0 39 (up un [(0,a0)]) (nm h) (retK Try.f31 Try.prog h) :=
  (evC_call 31 Try.f31 c31_0 Try.func31 (by kernel_rfl) #[a0] h).trans (by kernel_rfl)
theorem ret31 : retK Try.f31 Try.prog g .ret ⟨ar 39 x, h⟩ = fin g (some (x 2)) h := by kernel_rfl
theorem retn31 : retK Try.f31 Try.prog g .normal ⟨ar 39 x, h⟩ = fin g (some (x 2)) h := by kernel_rfl
end Go.Am
namespace Go.Am
open Go.Proofs
set_option maxRecDepth 100000
variable {β : Type} (x : Nat → Value) (h : Heap) (k : Ex → St → Option β) (r m : List Nat) (g : Heap)
noncomputable def c29_0 : Code := bodyC Try.f29 []
noncomputable def c29_1 : Code := bodyC Try.f29 [true, true, true, false, true, false, false]
noncomputable def c29_2 : Code := bodyC Try.f29 [true, true, true, true]
theorem c29_0_eq : cK c29_0 42 x h k =
obH (allocV Try.prog 47 h) fun v0 h1 =>
obH (ev 53 #[x 0] h1) fun v2 h3 =>
obH (allocV Try.prog 47 h3) fun v4 h5 =>
(ln 33 (x 0) h5).bind fun v6 =>
obH (cv 3 35 v6 h5) fun v7 h8 =>
obH (ev 54 #[v2,v7] h8) fun v9 h10 =>
lK c29_1 42 (up x [(2,v0),(3,(.bool false)),(4,v2),(5,v4),(6,v9),(7,(x 0)),(8,v2),(9,v2),(10,(x 0)),(11,v6),(12,v7),(13,v9)]) h10 (blockK 0 (sK c29_2 k)) := by kernel_rfl
theorem c29_1_eq : cK c29_1 42 x h k =
(bn .gtr 35 (x 6) (.int .u64 0)).bind fun v11 =>
cnd v11 (
(fa 47 (x 5) 0).bind fun v12 =>
(ld 45 v12 h).bind fun v13 =>
obH (ev 54 #[x 4,(.int .u64 16)] (nm h)) fun v14 h15 =>
obH (cv 35 3 v14 (am h15 h)) fun v16 h17 =>
obH (ev 54 #[x 4,(.int .u64 18446744073709551615)] (nm h17)) fun v18 h19 =>
obH (ev 56 #[(.int .i64 16)] (nm (am h19 h17))) fun v20 h21 =>
obH (ev 55 #[x 4,v20] (nm (am h21 (am h19 h17)))) fun v22 h23 =>
(buildV Try.prog 57 #[(0, v16), (1, v18), (2, v22)]).bind fun v24 =>
obH (buildSliceV Try.prog 45 1 #[(0, v24)] (am h23 (am h21 (am h19 h17)))) fun v25 h26 =>
obH (ap 45 (some 45) v13 v25 h26) fun v27 h28 =>
(fa 47 (x 5) 0).bind fun v29 =>
(sto 45 v29 v27 h28).bind fun h30 =>
chk ((rb v12) ++ []) (h23.mods ++ (h21.mods ++ (h19.mods ++ (h15.mods ++ [])))) (
(bn .sub 35 (x 6) (.int .u64 1)).bind fun v31 =>
k .normal ⟨ar 42 (up x [(6,v31),(14,(x 6)),(15,v11),(16,(x 6)),(17,v31),(18,v12),(19,v13),(20,(x 4)),(21,v14),(22,v16),(23,(x 4)),(24,v18),(25,(x 4)),(26,v20),(27,v22),(28,v24),(29,v25),(30,v27),(31,v29)]), h30⟩)) (
k (.exit 0) ⟨ar 42 (up x [(14,(x 6)),(15,v11)]), h⟩) := by kernel_rfl
theorem c29_2_eq : cK c29_2 42 x h k =
obH (ev 57 #[x 4] h) fun v32 h33 =>
(unV Try.prog .not v32).bind fun v34 =>
(gd (wt v34 false) (ld 47 (x 5) h33)).bind fun v35 =>
obH (gdH (wt v34 false) h33 (ev 19 #[v35] h33)) fun v36 h37 =>
(gd (wt v34 false) (unV Try.prog .not v36)).bind fun v38 =>
(pickV v34 (.bool true) v38).bind fun v39 =>
cnd v39 (
(buildV Try.prog 47 #[]).bind fun v40 =>
(sto 47 (x 2) v40 h37).bind fun h41 =>
k .ret ⟨ar 42 (up x [(3,(.bool false)),(32,(x 4)),(33,v32),(34,v34),(35,v34),(36,v35),(37,v36),(38,v38),(39,v39),(40,v40)]), h41⟩) (
(ld 47 (x 5) h37).bind fun v42 =>
(sto 47 (x 2) v42 h37).bind fun h43 =>
k .ret ⟨ar 42 (up x [(3,(.bool true)),(32,(x 4)),(33,v32),(34,v34),(35,v34),(36,v35),(37,v36),(38,v38),(39,v39),(41,v42)]), h43⟩) := by kernel_rfl
theorem call29 (a0 : Value) : evC Try.prog 29 #[a0] h = cK c29_0 42 (up un [(0,a0)]) (nm h) (retK Try.f29 Try.prog h) :=
  (evC_call 29 Try.f29 c29_0 Try.func29 (by kernel_rfl) #[a0] h).trans (by kernel_rfl)
theorem ret29 : retK Try.f29 Try.prog g .ret ⟨ar 42 x, h⟩ = fin g (rvals ((ld 47 (x 2) h).bind fun r0 => some [r0, (x 3)])) h := by kernel_rfl
theorem retn29 : retK Try.f29 Try.prog g .normal ⟨ar 42 x, h⟩ = fin g (rvals ((ld 47 (x 2) h).bind fun r0 => some [r0, (x 3)])) h := by kernel_rfl
end Go.Am
namespace Go.Am
open Go.Proofs
set_option maxRecDepth 100000
variable {β : Type} (x : Nat → Value) (h : Heap) (k : Ex → St → Option β) (r m : List Nat) (g : Heap)
noncomputable def c33_0 : Code := bodyC Try.f33 []
theorem c33_0_eq : cK c33_0 39 x h k =
obH (boxV Try.prog 47 (x 0) h) fun v0 h1 =>
obH (boxV Try.prog 57 (x 1) h1) fun v2 h3 =>
obH (allocV Try.prog 47 h3) fun v4 h5 =>
(ld 47 v0 h5).bind fun v6 =>
obH (ev 49 #[v6] h5) fun v7 h8 =>
(sto 47 v0 v7 h8).bind fun h9 =>
(ld 47 v0 h9).bind fun v10 =>
obH (ev 19 #[v10] h9) fun v11 h12 =>
(unV Try.prog .not v11).bind fun v13 =>
(gd (wt v13 false) (ld 57 v2 h12)).bind fun v14 =>
obH (gdH (wt v13 false) h12 (ev 47 #[v14] h12)) fun v15 h16 =>
(gd (wt v13 false) (unV Try.prog .not v15)).bind fun v17 =>
(pickV v13 (.bool true) v17).bind fun v18 =>
cnd v18 (
(ld 47 v0 h16).bind fun v19 =>
(sto 47 v4 v19 h16).bind fun h20 =>
k .ret ⟨ar 39 (up x [(2,v0),(3,v2),(4,v4),(7,v6),(8,v7),(9,v10),(10,v11),(11,v13),(12,v13),(13,v14),(14,v15),(15,v17),(16,v18),(17,v19)]), h20⟩) (
(fa 47 v0 0).bind fun v21 =>
(ld 45 v21 h16).bind fun v22 =>
(ld 57 v2 h16).bind fun v23 =>
obH (ev 51 #[v22,v23,(.func (.func 48) #[] #[])] h16) fun v24 h25 =>
(extractV v24 0).bind fun v26 =>
(extractV v24 1).bind fun v27 =>
cnd v27 (
(fa 47 v0 0).bind fun v28 =>
(ld 45 v28 h25).bind fun v29 =>
(ld 57 v2 h25).bind fun v30 =>
(ia 45 v29 v26).bind fun v31 =>
(sto 57 v31 v30 h25).bind fun h32 =>
(ld 47 v0 h32).bind fun v33 =>
(sto 47 v4 v33 h32).bind fun h34 =>
k .ret ⟨ar 39 (up x [(2,v0),(3,v2),(4,v4),(5,v26),(6,v27),(7,v6),(8,v7),(9,v10),(10,v11),(11,v13),(12,v13),(13,v14),(14,v15),(15,v17),(16,v18),(18,v24),(19,v21),(20,v22),(21,v23),(22,v24),(23,v26),(24,v27),(25,v27),(26,v28),(27,v29),(28,v26),(29,v30),(30,v31),(38,v33)]), h34⟩) (
(fa 47 v0 0).bind fun v35 =>
(ld 45 v35 h25).bind fun v36 =>
(ld 57 v2 h25).bind fun v37 =>
obH (buildSliceV Try.prog 45 1 #[(0, v37)] h25) fun v38 h39 =>
obH (ev 63 #[v36,v26,v38] h39) fun v40 h41 =>
(fa 47 v0 0).bind fun v42 =>
(sto 45 v42 v40 h41).bind fun h43 =>
(ld 47 v0 h43).bind fun v44 =>
(sto 47 v4 v44 h43).bind fun h45 =>
k .ret ⟨ar 39 (up x [(2,v0),(3,v2),(4,v4),(5,v26),(6,v27),(7,v6),(8,v7),(9,v10),(10,v11),(11,v13),(12,v13),(13,v14),(14,v15),(15,v17),(16,v18),(18,v24),(19,v21),(20,v22),(21,v23),(22,v24),(23,v26),(24,v27),(25,v27),(31,v35),(32,v36),(33,v26),(34,v37),(35,v38),(36,v40),(37,v42),(38,v44)]), h45⟩)) := by kernel_rfl
theorem call33 (a0 a1 : Value) : evC Try.prog 33 #[a0,a1] h = cK c33_0 39 (up un [(0,a0),(1,a1)]) (nm h) (retK Try.f33 Try.prog h) :=
  (evC_call 33 Try.f33 c33_0 Try.func33 (by kernel_rfl) #[a0,a1] h).trans (by kernel_rfl)
theorem ret33 : retK Try.f33 Try.prog g .ret ⟨ar 39 x, h⟩ = fin g (rvals ((ld 47 (x 4) h).bind fun r0 => some [r0])) h := by kernel_rfl
theorem retn33 : retK Try.f33 Try.prog g .normal ⟨ar 39 x, h⟩ = fin g (rvals ((ld 47 (x 4) h).bind fun r0 => some [r0])) h := by kernel_rfl
end Go.Am
namespace Go.Am
open Go.Proofs
set_option maxRecDepth 100000
variable {β : Type} (x : Nat → Value) (h : Heap) (k : Ex → St → Option β) (r m : List Nat) (g : Heap)
noncomputable def c9_0 : Code := bodyC Try.f9 []
noncomputable def c9_1 : Code := bodyC Try.f9 [false]
noncomputable def c9_2 : Code := bodyC Try.f9 [true]
noncomputable def c9_3 : Code := bodyC Try.f9 [true, false]
noncomputable def c9_4 : Code := bodyC Try.f9 [true, true]
noncomputable def c9_5 : Code := bodyC Try.f9 [true, true, false]
noncomputable def c9_6 : Code := bodyC Try.f9 [true, true, true]
noncomputable def c9_7 : Code := bodyC Try.f9 [true, true, true, false]
noncomputable def c9_8 : Code := bodyC Try.f9 [true, true, true, true]
noncomputable def c9_9 : Code := bodyC Try.f9 [true, true, true, true, false]
noncomputable def c9_10 : Code := bodyC Try.f9 [true, true, true, true, true]
noncomputable def c9_11 : Code := bodyC Try.f9 [true, true, true, true, true, false]
noncomputable def c9_12 : Code := bodyC Try.f9 [true, true, true, true, true, true]
noncomputable def c9_13 : Code := bodyC Try.f9 [true, true, true, true, true, true, false]
noncomputable def c9_14 : Code := bodyC Try.f9 [true, true, true, true, true, true, true]
noncomputable def c9_15 : Code := bodyC Try.f9 [true, true, true, true, true, true, true, false]
noncomputable def c9_16 : Code := bodyC Try.f9 [true, true, true, true, true, true, true, true]
noncomputable def c9_17 : Code := bodyC Try.f9 [true, true, true, true, true, true, true, true, false]
noncomputable def c9_18 : Code := bodyC Try.f9 [true, true, true, true, true, true, true, true, true]
noncomputable def c9_19 : Code := bodyC Try.f9 [true, true, true, true, true, true, true, true, true, false]
noncomputable def c9_20 : Code := bodyC Try.f9 [true, true, true, true, true, true, true, true, true, true]
noncomputable def c9_21 : Code := bodyC Try.f9 [true, true, true, true, true, true, true, true, true, true, false]
noncomputable def c9_22 : Code := bodyC Try.f9 [true, true, true, true, true, true, true, true, true, true, true]
noncomputable def c9_23 : Code := bodyC Try.f9 [true, true, true, true, true, true, true, true, true, true, true, false]
noncomputable def c9_24 : Code := bodyC Try.f9 [true, true, true, true, true, true, true, true, true, true, true, true]
noncomputable def d9_0 : Array Oper := opsC (bodyC Try.f9 [true, true, true, true, true, true, true, true, true, true, true, true, false])
noncomputable def c9_25 : Code := bodyC Try.f9 [true, true, true, true, true, true, true, true, true, true, true, true, false]
noncomputable def c9_26 : Code := bodyC Try.f9 [true, true, true, true, true, true, true, true, true, true, true, true, true]
theorem c9_0_eq : cK c9_0 159 x h k =
cK c9_1 159 x h (sK c9_2 k) := codeK_seq _ _ _ _ _ (by kernel_rfl) _ _
theorem c9_1_eq : cK c9_1 159 x h k =
k .normal ⟨ar 159 (up x [(0,(.bool false))]), h⟩ := by kernel_rfl
theorem c9_2_eq : cK c9_2 159 x h k =
cK c9_3 159 x h (sK c9_4 k) := codeK_seq _ _ _ _ _ (by kernel_rfl) _ _
theorem c9_3_eq : cK c9_3 159 x h k =
obH (ev 18 #[] h) fun v0 h1 =>
(unV Try.prog .not v0).bind fun v2 =>
cnd v2 (
k .ret ⟨ar 159 (up x [(0,(.bool false)),(13,v0),(14,v2)]), h1⟩) (
k .normal ⟨ar 159 (up x [(13,v0),(14,v2)]), h1⟩) := by kernel_rfl
theorem c9_4_eq : cK c9_4 159 x h k =
cK c9_5 159 x h (sK c9_6 k) := codeK_seq _ _ _ _ _ (by kernel_rfl) _ _
theorem c9_5_eq : cK c9_5 159 x h k =
(buildV Try.prog 57 #[(0, (.int .i64 0)), (1, (.int .u64 1)), (2, (.int .u64 6))]).bind fun v3 =>
(buildV Try.prog 57 #[(0, (.int .i64 0)), (1, (.int .u64 2)), (2, (.int .u64 2))]).bind fun v4 =>
(buildV Try.prog 57 #[(0, (.int .i64 1)), (1, (.int .u64 5))]).bind fun v5 =>
obH (buildSliceV Try.prog 45 3 #[(0, v3), (1, v4), (2, v5)] h) fun v6 h7 =>
(buildV Try.prog 47 #[(0, v6)]).bind fun v8 =>
obH (allocV Try.prog 47 h7) fun v9 h10 =>
(sto 47 v9 v8 h10).bind fun h11 =>
k .normal ⟨ar 159 (up x [(1,v9),(15,v3),(16,v4),(17,v5),(18,v6),(19,v8)]), h11⟩ := by kernel_rfl
theorem c9_6_eq : cK c9_6 159 x h k =
cK c9_7 159 x h (sK c9_8 k) := codeK_seq _ _ _ _ _ (by kernel_rfl) _ _
theorem c9_7_eq : cK c9_7 159 x h k =
(ld 47 (x 1) h).bind fun v12 =>
obH (ev 24 #[v12,(.int .u64 2)] h) fun v13 h14 =>
obH (allocV Try.prog 47 h14) fun v15 h16 =>
(sto 47 v15 v13 h16).bind fun h17 =>
k .normal ⟨ar 159 (up x [(2,v15),(20,v12),(21,v13)]), h17⟩ := by kernel_rfl
theorem c9_8_eq : cK c9_8 159 x h k =
cK c9_9 159 x h (sK c9_10 k) := codeK_seq _ _ _ _ _ (by kernel_rfl) _ _
theorem c9_9_eq : cK c9_9 159 x h k =
(ld 47 (x 1) h).bind fun v18 =>
obH (ev 24 #[v18,(.int .u64 6)] h) fun v19 h20 =>
obH (ev 20 #[v19] h20) fun v21 h22 =>
obH (allocV Try.prog 47 h22) fun v23 h24 =>
(sto 47 v23 v21 h24).bind fun h25 =>
k .normal ⟨ar 159 (up x [(3,v23),(22,v18),(23,v19),(24,v21)]), h25⟩ := by kernel_rfl
theorem c9_10_eq : cK c9_10 159 x h k =
cK c9_11 159 x h (sK c9_12 k) := codeK_seq _ _ _ _ _ (by kernel_rfl) _ _
theorem c9_11_eq : cK c9_11 159 x h k =
(ld 47 (x 1) h).bind fun v26 =>
obH (ev 25 #[v26,(.int .u64 6),(.int .i64 2)] h) fun v27 h28 =>
obH (allocV Try.prog 47 h28) fun v29 h30 =>
(sto 47 v29 v27 h30).bind fun h31 =>
k .normal ⟨ar 159 (up x [(4,v29),(25,v26),(26,v27)]), h31⟩ := by kernel_rfl
theorem c9_12_eq : cK c9_12 159 x h k =
cK c9_13 159 x h (sK c9_14 k) := codeK_seq _ _ _ _ _ (by kernel_rfl) _ _
theorem c9_13_eq : cK c9_13 159 x h k =
(ld 47 (x 1) h).bind fun v32 =>
(buildV Try.prog 57 #[(0, (.int .i64 0)), (1, (.int .u64 2)), (2, (.int .u64 4))]).bind fun v33 =>
obH (ev 33 #[v32,v33] h) fun v34 h35 =>
obH (allocV Try.prog 47 h35) fun v36 h37 =>
(sto 47 v36 v34 h37).bind fun h38 =>
k .normal ⟨ar 159 (up x [(5,v36),(27,v32),(28,v33),(29,v34)]), h38⟩ := by kernel_rfl
theorem c9_14_eq : cK c9_14 159 x h k =
cK c9_15 159 x h (sK c9_16 k) := codeK_seq _ _ _ _ _ (by kernel_rfl) _ _
theorem c9_15_eq : cK c9_15 159 x h k =
(ld 47 (x 1) h).bind fun v39 =>
(buildV Try.prog 57 #[(0, (.int .i64 16)), (1, (.int .u64 1))]).bind fun v40 =>
obH (ev 33 #[v39,v40] h) fun v41 h42 =>
obH (allocV Try.prog 47 h42) fun v43 h44 =>
(sto 47 v43 v41 h44).bind fun h45 =>
k .normal ⟨ar 159 (up x [(6,v43),(30,v39),(31,v40),(32,v41)]), h45⟩ := by kernel_rfl
theorem c9_16_eq : cK c9_16 159 x h k =
cK c9_17 159 x h (sK c9_18 k) := codeK_seq _ _ _ _ _ (by kernel_rfl) _ _
theorem c9_17_eq : cK c9_17 159 x h k =
(ld 47 (x 1) h).bind fun v46 =>
(buildV Try.prog 57 #[(0, (.int .i64 0)), (1, (.int .u64 1)), (2, (.int .u64 4))]).bind fun v47 =>
(buildV Try.prog 57 #[(0, (.int .i64 0)), (1, (.int .u64 3)), (2, (.int .u64 1))]).bind fun v48 =>
(buildV Try.prog 57 #[(0, (.int .i64 1)), (1, (.int .u64 4)), (2, (.int .u64 1))]).bind fun v49 =>
(buildV Try.prog 57 #[(0, (.int .i64 2)), (1, (.int .u64 1)), (2, (.int .u64 1))]).bind fun v50 =>
obH (buildSliceV Try.prog 45 4 #[(0, v47), (1, v48), (2, v49), (3, v50)] h) fun v51 h52 =>
(buildV Try.prog 47 #[(0, v51)]).bind fun v53 =>
obH (ev 23 #[v46,v53] h52) fun v54 h55 =>
obH (allocV Try.prog 47 h55) fun v56 h57 =>
(sto 47 v56 v54 h57).bind fun h58 =>
k .normal ⟨ar 159 (up x [(7,v56),(33,v46),(34,v47),(35,v48),(36,v49),(37,v50),(38,v51),(39,v53),(40,v54)]), h58⟩ := by kernel_rfl
theorem c9_18_eq : cK c9_18 159 x h k =
cK c9_19 159 x h (sK c9_20 k) := codeK_seq _ _ _ _ _ (by kernel_rfl) _ _
theorem c9_19_eq : cK c9_19 159 x h k =
(buildV Try.prog 57 #[(0, (.int .i64 1)), (1, (.int .u64 1))]).bind fun v59 =>
(buildV Try.prog 57 #[(0, (.int .i64 0)), (1, (.int .u64 1))]).bind fun v60 =>
obH (buildSliceV Try.prog 45 2 #[(0, v59), (1, v60)] h) fun v61 h62 =>
(buildV Try.prog 47 #[(0, v61)]).bind fun v63 =>
obH (allocV Try.prog 47 h62) fun v64 h65 =>
(sto 47 v64 v63 h65).bind fun h66 =>
k .normal ⟨ar 159 (up x [(8,v64),(41,v59),(42,v60),(43,v61),(44,v63)]), h66⟩ := by kernel_rfl
theorem c9_20_eq : cK c9_20 159 x h k =
cK c9_21 159 x h (sK c9_22 k) := codeK_seq _ _ _ _ _ (by kernel_rfl) _ _
theorem c9_21_eq : cK c9_21 159 x h k =
(ld 47 (x 1) h).bind fun v67 =>
obH (ev 31 #[v67] h) fun v68 h69 =>
obH (ev 29 #[v68] h69) fun v70 h71 =>
(extractV v70 0).bind fun v72 =>
(extractV v70 1).bind fun v73 =>
obH (allocV Try.prog 47 h71) fun v74 h75 =>
(sto 47 v74 v72 h75).bind fun h76 =>
k .normal ⟨ar 159 (up x [(9,v74),(10,v73),(45,v70),(46,v67),(47,v68),(48,v70),(49,v72),(50,v73)]), h76⟩ := by kernel_rfl
theorem c9_22_eq : cK c9_22 159 x h k =
cK c9_23 159 x h (sK c9_24 k) := codeK_seq _ _ _ _ _ (by kernel_rfl) _ _
theorem c9_23_eq : cK c9_23 159 x h k =
(ld 47 (x 1) h).bind fun v77 =>
obH (ev 31 #[v77] h) fun v78 h79 =>
obH (buildSliceV Try.prog 33 1 #[(0, (.int .u8 0))] h79) fun v80 h81 =>
obH (ap 33 (some 33) v78 v80 h81) fun v82 h83 =>
obH (ev 29 #[v82] h83) fun v84 h85 =>
(extractV v84 0).bind fun v86 =>
(extractV v84 1).bind fun v87 =>
obH (allocV Try.prog 47 h85) fun v88 h89 =>
(sto 47 v88 v86 h89).bind fun h90 =>
k .normal ⟨ar 159 (up x [(11,v88),(12,v87),(51,v84),(52,v77),(53,v78),(54,v80),(55,v82),(56,v84),(57,v86),(58,v87)]), h90⟩ := by kernel_rfl
theorem c9_24_eq : cK c9_24 159 x h k =
cK c9_25 159 x h (sK c9_26 k) := codeK_seq _ _ _ _ _ (by kernel_rfl) _ _
theorem d9_0_0 (k : St → Option β) : rD d9_0 0 159 x h r m k =
(fa 47 (x 2) 0).bind fun v91 =>
rD d9_0 1 159 (up x [(59,v91)]) h r m k := (regD_step _ _ d9_0 0 (by kernel_rfl) _ _ _ _).trans (by kernel_rfl)
theorem d9_0_1 (k : St → Option β) : rD d9_0 1 159 x h r m k =
(ld 45 (x 59) h).bind fun v92 =>
rD d9_0 2 159 (up x [(60,v92)]) h r m k := (regD_step _ _ d9_0 1 (by kernel_rfl) _ _ _ _).trans (by kernel_rfl)
theorem d9_0_2 (k : St → Option β) : rD d9_0 2 159 x h r m k =
obH (ev 22 #[x 60] (nm h)) fun v93 h94 =>
rD d9_0 3 159 (up x [(61,v93)]) (am h94 h) r (h94.mods ++ m) k := (regD_step _ _ d9_0 2 (by kernel_rfl) _ _ _ _).trans (by kernel_rfl)
theorem d9_0_3 (k : St → Option β) : rD d9_0 3 159 x h r m k =
(buildV Try.prog 72 #[(0, (.int .i64 0)), (1, (.int .u64 1)), (2, (.int .u64 4))]).bind fun v95 =>
rD d9_0 4 159 (up x [(62,v95)]) h r m k := (regD_step _ _ d9_0 3 (by kernel_rfl) _ _ _ _).trans (by kernel_rfl)
theorem d9_0_4 (k : St → Option β) : rD d9_0 4 159 x h r m k =
(buildV Try.prog 72 #[(0, (.int .i64 0)), (1, (.int .u64 2))]).bind fun v96 =>
rD d9_0 5 159 (up x [(63,v96)]) h r m k := (regD_step _ _ d9_0 4 (by kernel_rfl) _ _ _ _).trans (by kernel_rfl)
theorem d9_0_5 (k : St → Option β) : rD d9_0 5 159 x h r m k =
(buildV Try.prog 72 #[(0, (.int .i64 1)), (1, (.int .u64 5))]).bind fun v97 =>
rD d9_0 6 159 (up x [(64,v97)]) h r m k := (regD_step _ _ d9_0 5 (by kernel_rfl) _ _ _ _).trans (by kernel_rfl)
theorem d9_0_6 (k : St → Option β) : rD d9_0 6 159 x h r m k =
obH (buildSliceV Try.prog 51 3 #[(0, (x 62)), (1, (x 63)), (2, (x 64))] h) fun v98 h99 =>
rD d9_0 7 159 (up x [(65,v98)]) h99 ([h.blks.length] ++ r) m k := (regD_step _ _ d9_0 6 (by kernel_rfl) _ _ _ _).trans (by kernel_rfl)
theorem d9_0_7 (k : St → Option β) : rD d9_0 7 159 x h r m k =
obH (ev 21 #[x 61,x 65] h) fun v100 h101 =>
rD d9_0 8 159 (up x [(66,v100)]) h101 r m k := (regD_step _ _ d9_0 7 (by kernel_rfl) _ _ _ _).trans (by kernel_rfl)
theorem d9_0_8 (k : St → Option β) : rD d9_0 8 159 x h r m k =
rD d9_0 9 159 (up x [(67,(x 66))]) h r m k := regD_move _ _ d9_0 8 (by kernel_rfl) (by kernel_rfl) (by kernel_rfl) _ _ _ _ _ _ (by kernel_rfl) (by kernel_rfl)
theorem d9_0_9 (k : St → Option β) : rD d9_0 9 159 x h r m k =
(gd (wt (x 67) true) (fa 47 (x 3) 0)).bind fun v102 =>
rD d9_0 10 159 (up x [(68,v102)]) h r m k := (regD_step _ _ d9_0 9 (by kernel_rfl) _ _ _ _).trans (by kernel_rfl)
theorem d9_0_10 (k : St → Option β) : rD d9_0 10 159 x h r m k =
(gd (wt (x 67) true) (ld 45 (x 68) h)).bind fun v103 =>
rD d9_0 11 159 (up x [(69,v103)]) h r m k := (regD_step _ _ d9_0 10 (by kernel_rfl) _ _ _ _).trans (by kernel_rfl)
theorem d9_0_11 (k : St → Option β) : rD d9_0 11 159 x h r m k =
obH (gdH (wt (x 67) true) (nm h) (ev 22 #[x 69] (nm h))) fun v104 h105 =>
rD d9_0 12 159 (up x [(70,v104)]) (am h105 h) r (h105.mods ++ m) k := (regD_step _ _ d9_0 11 (by kernel_rfl) _ _ _ _).trans (by kernel_rfl)
theorem d9_0_12 (k : St → Option β) : rD d9_0 12 159 x h r m k =
(gd (wt (x 67) true) (buildV Try.prog 72 #[(0, (.int .i64 0)), (1, (.int .u64 2))])).bind fun v106 =>
rD d9_0 13 159 (up x [(71,v106)]) h r m k := (regD_step _ _ d9_0 12 (by kernel_rfl) _ _ _ _).trans (by kernel_rfl)
theorem d9_0_13 (k : St → Option β) : rD d9_0 13 159 x h r m k =
(gd (wt (x 67) true) (buildV Try.prog 72 #[(0, (.int .i64 1)), (1, (.int .u64 5))])).bind fun v107 =>
rD d9_0 14 159 (up x [(72,v107)]) h r m k := (regD_step _ _ d9_0 13 (by kernel_rfl) _ _ _ _).trans (by kernel_rfl)
theorem d9_0_14 (k : St → Option β) : rD d9_0 14 159 x h r m k =
obH (gdH (wt (x 67) true) h (buildSliceV Try.prog 51 2 #[(0, (x 71)), (1, (x 72))] h)) fun v108 h109 =>
rD d9_0 15 159 (up x [(73,v108)]) h109 (rdL (wt (x 67) true) [h.blks.length] ++ r) m k := (regD_step _ _ d9_0 14 (by kernel_rfl) _ _ _ _).trans (by kernel_rfl)
theorem d9_0_15 (k : St → Option β) : rD d9_0 15 159 x h r m k =
obH (gdH (wt (x 67) true) h (ev 21 #[x 70,x 73] h)) fun v110 h111 =>
rD d9_0 16 159 (up x [(74,v110)]) h111 r m k := (regD_step _ _ d9_0 15 (by kernel_rfl) _ _ _ _).trans (by kernel_rfl)
theorem d9_0_16 (k : St → Option β) : rD d9_0 16 159 x h r m k =
(pickV (x 67) (x 74) (.bool false)).bind fun v112 =>
rD d9_0 17 159 (up x [(75,v112)]) h r m k := (regD_step _ _ d9_0 16 (by kernel_rfl) _ _ _ _).trans (by kernel_rfl)
theorem d9_0_17 (k : St → Option β) : rD d9_0 17 159 x h r m k =
rD d9_0 18 159 (up x [(76,(x 75))]) h r m k := regD_move _ _ d9_0 17 (by kernel_rfl) (by kernel_rfl) (by kernel_rfl) _ _ _ _ _ _ (by kernel_rfl) (by kernel_rfl)
theorem d9_0_18 (k : St → Option β) : rD d9_0 18 159 x h r m k =
(gd (wt (x 76) true) (fa 47 (x 4) 0)).bind fun v113 =>
rD d9_0 19 159 (up x [(77,v113)]) h r m k := (regD_step _ _ d9_0 18 (by kernel_rfl) _ _ _ _).trans (by kernel_rfl)
theorem d9_0_19 (k : St → Option β) : rD d9_0 19 159 x h r m k =
(gd (wt (x 76) true) (ld 45 (x 77) h)).bind fun v114 =>
rD d9_0 20 159 (up x [(78,v114)]) h r m k := (regD_step _ _ d9_0 19 (by kernel_rfl) _ _ _ _).trans (by kernel_rfl)
theorem d9_0_20 (k : St → Option β) : rD d9_0 20 159 x h r m k =
obH (gdH (wt (x 76) true) (nm h) (ev 22 #[x 78] (nm h))) fun v115 h116 =>
rD d9_0 21 159 (up x [(79,v115)]) (am h116 h) r (h116.mods ++ m) k := (regD_step _ _ d9_0 20 (by kernel_rfl) _ _ _ _).trans (by kernel_rfl)
theorem d9_0_21 (k : St → Option β) : rD d9_0 21 159 x h r m k =
(gd (wt (x 76) true) (buildV Try.prog 72 #[(0, (.int .i64 0)), (1, (.int .u64 1)), (2, (.int .u64 4))])).bind fun v117 =>
rD d9_0 22 159 (up x [(80,v117)]) h r m k := (regD_step _ _ d9_0 21 (by kernel_rfl) _ _ _ _).trans (by kernel_rfl)
theorem d9_0_22 (k : St → Option β) : rD d9_0 22 159 x h r m k =
(gd (wt (x 76) true) (buildV Try.prog 72 #[(0, (.int .i64 0)), (1, (.int .u64 2))])).bind fun v118 =>
rD d9_0 23 159 (up x [(81,v118)]) h r m k := (regD_step _ _ d9_0 22 (by kernel_rfl) _ _ _ _).trans (by kernel_rfl)
theorem d9_0_23 (k : St → Option β) : rD d9_0 23 159 x h r m k =
(gd (wt (x 76) true) (buildV Try.prog 72 #[(0, (.int .i64 1)), (1, (.int .u64 5))])).bind fun v119 =>
rD d9_0 24 159 (up x [(82,v119)]) h r m k := (regD_step _ _ d9_0 23 (by kernel_rfl) _ _ _ _).trans (by kernel_rfl)
theorem d9_0_24 (k : St → Option β) : rD d9_0 24 159 x h r m k =
obH (gdH (wt (x 76) true) h (buildSliceV Try.prog 51 3 #[(0, (x 80)), (1, (x 81)), (2, (x 82))] h)) fun v120 h121 =>
rD d9_0 25 159 (up x [(83,v120)]) h121 (rdL (wt (x 76) true) [h.blks.length] ++ r) m k := (regD_step _ _ d9_0 24 (by kernel_rfl) _ _ _ _).trans (by kernel_rfl)
theorem d9_0_25 (k : St → Option β) : rD d9_0 25 159 x h r m k =
obH (gdH (wt (x 76) true) h (ev 21 #[x 79,x 83] h)) fun v122 h123 =>
rD d9_0 26 159 (up x [(84,v122)]) h123 r m k := (regD_step _ _ d9_0 25 (by kernel_rfl) _ _ _ _).trans (by kernel_rfl)
theorem d9_0_26 (k : St → Option β) : rD d9_0 26 159 x h r m k =
(pickV (x 76) (x 84) (.bool false)).bind fun v124 =>
rD d9_0 27 159 (up x [(85,v124)]) h r m k := (regD_step _ _ d9_0 26 (by kernel_rfl) _ _ _ _).trans (by kernel_rfl)
theorem d9_0_27 (k : St → Option β) : rD d9_0 27 159 x h r m k =
rD d9_0 28 159 (up x [(86,(x 85))]) h r m k := regD_move _ _ d9_0 27 (by kernel_rfl) (by kernel_rfl) (by kernel_rfl) _ _ _ _ _ _ (by kernel_rfl) (by kernel_rfl)
theorem d9_0_28 (k : St → Option β) : rD d9_0 28 159 x h r m k =
(gd (wt (x 86) true) (fa 47 (x 5) 0)).bind fun v125 =>
rD d9_0 29 159 (up x [(87,v125)]) h r m k := (regD_step _ _ d9_0 28 (by kernel_rfl) _ _ _ _).trans (by kernel_rfl)
theorem d9_0_29 (k : St → Option β) : rD d9_0 29 159 x h r m k =
(gd (wt (x 86) true) (ld 45 (x 87) h)).bind fun v126 =>
rD d9_0 30 159 (up x [(88,v126)]) h r m k := (regD_step _ _ d9_0 29 (by kernel_rfl) _ _ _ _).trans (by kernel_rfl)
theorem d9_0_30 (k : St → Option β) : rD d9_0 30 159 x h r m k =
(gd (wt (x 86) true) (ln 45 (x 88) h)).bind fun v127 =>
rD d9_0 31 159 (up x [(89,v127)]) h r m k := (regD_step _ _ d9_0 30 (by kernel_rfl) _ _ _ _).trans (by kernel_rfl)
theorem d9_0_31 (k : St → Option β) : rD d9_0 31 159 x h r m k =
(gd (wt (x 86) true) (bn .eql 3 (x 89) (.int .i64 3))).bind fun v128 =>
rD d9_0 32 159 (up x [(90,v128)]) h r m k := (regD_step _ _ d9_0 31 (by kernel_rfl) _ _ _ _).trans (by kernel_rfl)
theorem d9_0_32 (k : St → Option β) : rD d9_0 32 159 x h r m k =
(pickV (x 86) (x 90) (.bool false)).bind fun v129 =>
rD d9_0 33 159 (up x [(91,v129)]) h r m k := (regD_step _ _ d9_0 32 (by kernel_rfl) _ _ _ _).trans (by kernel_rfl)
theorem d9_0_33 (k : St → Option β) : rD d9_0 33 159 x h r m k =
rD d9_0 34 159 (up x [(92,(x 91))]) h r m k := regD_move _ _ d9_0 33 (by kernel_rfl) (by kernel_rfl) (by kernel_rfl) _ _ _ _ _ _ (by kernel_rfl) (by kernel_rfl)
theorem d9_0_34 (k : St → Option β) : rD d9_0 34 159 x h r m k =
(gd (wt (x 92) true) (fa 47 (x 5) 0)).bind fun v130 =>
rD d9_0 35 159 (up x [(93,v130)]) h r m k := (regD_step _ _ d9_0 34 (by kernel_rfl) _ _ _ _).trans (by kernel_rfl)
theorem d9_0_35 (k : St → Option β) : rD d9_0 35 159 x h r m k =
(gd (wt (x 92) true) (ld 45 (x 93) h)).bind fun v131 =>
rD d9_0 36 159 (up x [(94,v131)]) h r m k := (regD_step _ _ d9_0 35 (by kernel_rfl) _ _ _ _).trans (by kernel_rfl)
theorem d9_0_36 (k : St → Option β) : rD d9_0 36 159 x h r m k =
(gd (wt (x 92) true) (ia 45 (x 94) (.int .i64 1))).bind fun v132 =>
rD d9_0 37 159 (up x [(95,v132)]) h r m k := (regD_step _ _ d9_0 36 (by kernel_rfl) _ _ _ _).trans (by kernel_rfl)
theorem d9_0_37 (k : St → Option β) : rD d9_0 37 159 x h r m k =
(gd (wt (x 92) true) (fa 57 (x 95) 2)).bind fun v133 =>
rD d9_0 38 159 (up x [(96,v133)]) h r m k := (regD_step _ _ d9_0 37 (by kernel_rfl) _ _ _ _).trans (by kernel_rfl)
theorem d9_0_38 (k : St → Option β) : rD d9_0 38 159 x h r m k =
(gd (wt (x 92) true) (ld 55 (x 96) h)).bind fun v134 =>
rD d9_0 39 159 (up x [(97,v134)]) h r m k := (regD_step _ _ d9_0 38 (by kernel_rfl) _ _ _ _).trans (by kernel_rfl)
theorem d9_0_39 (k : St → Option β) : rD d9_0 39 159 x h r m k =
(gd (wt (x 92) true) (bn .eql 55 (x 97) (.int .u64 4))).bind fun v135 =>
rD d9_0 40 159 (up x [(98,v135)]) h r m k := (regD_step _ _ d9_0 39 (by kernel_rfl) _ _ _ _).trans (by kernel_rfl)
theorem d9_0_40 (k : St → Option β) : rD d9_0 40 159 x h r m k =
(pickV (x 92) (x 98) (.bool false)).bind fun v136 =>
rD d9_0 41 159 (up x [(99,v136)]) h r m k := (regD_step _ _ d9_0 40 (by kernel_rfl) _ _ _ _).trans (by kernel_rfl)
theorem d9_0_41 (k : St → Option β) : rD d9_0 41 159 x h r m k =
rD d9_0 42 159 (up x [(100,(x 99))]) h r m k := regD_move _ _ d9_0 41 (by kernel_rfl) (by kernel_rfl) (by kernel_rfl) _ _ _ _ _ _ (by kernel_rfl) (by kernel_rfl)
theorem d9_0_42 (k : St → Option β) : rD d9_0 42 159 x h r m k =
(gd (wt (x 100) true) (fa 47 (x 6) 0)).bind fun v137 =>
rD d9_0 43 159 (up x [(101,v137)]) h r m k := (regD_step _ _ d9_0 42 (by kernel_rfl) _ _ _ _).trans (by kernel_rfl)
theorem d9_0_43 (k : St → Option β) : rD d9_0 43 159 x h r m k =
(gd (wt (x 100) true) (ld 45 (x 101) h)).bind fun v138 =>
rD d9_0 44 159 (up x [(102,v138)]) h r m k := (regD_step _ _ d9_0 43 (by kernel_rfl) _ _ _ _).trans (by kernel_rfl)
theorem d9_0_44 (k : St → Option β) : rD d9_0 44 159 x h r m k =
(gd (wt (x 100) true) (ln 45 (x 102) h)).bind fun v139 =>
rD d9_0 45 159 (up x [(103,v139)]) h r m k := (regD_step _ _ d9_0 44 (by kernel_rfl) _ _ _ _).trans (by kernel_rfl)
theorem d9_0_45 (k : St → Option β) : rD d9_0 45 159 x h r m k =
(gd (wt (x 100) true) (bn .eql 3 (x 103) (.int .i64 3))).bind fun v140 =>
rD d9_0 46 159 (up x [(104,v140)]) h r m k := (regD_step _ _ d9_0 45 (by kernel_rfl) _ _ _ _).trans (by kernel_rfl)
theorem d9_0_46 (k : St → Option β) : rD d9_0 46 159 x h r m k =
(pickV (x 100) (x 104) (.bool false)).bind fun v141 =>
rD d9_0 47 159 (up x [(105,v141)]) h r m k := (regD_step _ _ d9_0 46 (by kernel_rfl) _ _ _ _).trans (by kernel_rfl)
theorem d9_0_47 (k : St → Option β) : rD d9_0 47 159 x h r m k =
rD d9_0 48 159 (up x [(106,(x 105))]) h r m k := regD_move _ _ d9_0 47 (by kernel_rfl) (by kernel_rfl) (by kernel_rfl) _ _ _ _ _ _ (by kernel_rfl) (by kernel_rfl)
theorem d9_0_48 (k : St → Option β) : rD d9_0 48 159 x h r m k =
(gd (wt (x 106) true) (fa 47 (x 7) 0)).bind fun v142 =>
rD d9_0 49 159 (up x [(107,v142)]) h r m k := (regD_step _ _ d9_0 48 (by kernel_rfl) _ _ _ _).trans (by kernel_rfl)
theorem d9_0_49 (k : St → Option β) : rD d9_0 49 159 x h r m k =
(gd (wt (x 106) true) (ld 45 (x 107) h)).bind fun v143 =>
rD d9_0 50 159 (up x [(108,v143)]) h r m k := (regD_step _ _ d9_0 49 (by kernel_rfl) _ _ _ _).trans (by kernel_rfl)
theorem d9_0_50 (k : St → Option β) : rD d9_0 50 159 x h r m k =
obH (gdH (wt (x 106) true) (nm h) (ev 22 #[x 108] (nm h))) fun v144 h145 =>
rD d9_0 51 159 (up x [(109,v144)]) (am h145 h) r (h145.mods ++ m) k := (regD_step _ _ d9_0 50 (by kernel_rfl) _ _ _ _).trans (by kernel_rfl)
theorem d9_0_51 (k : St → Option β) : rD d9_0 51 159 x h r m k =
(gd (wt (x 106) true) (buildV Try.prog 72 #[(0, (.int .i64 0)), (1, (.int .u64 1)), (2, (.int .u64 4))])).bind fun v146 =>
rD d9_0 52 159 (up x [(110,v146)]) h r m k := (regD_step _ _ d9_0 51 (by kernel_rfl) _ _ _ _).trans (by kernel_rfl)
theorem d9_0_52 (k : St → Option β) : rD d9_0 52 159 x h r m k =
(gd (wt (x 106) true) (buildV Try.prog 72 #[(0, (.int .i64 0)), (1, (.int .u64 3)), (2, (.int .u64 1))])).bind fun v147 =>
rD d9_0 53 159 (up x [(111,v147)]) h r m k := (regD_step _ _ d9_0 52 (by kernel_rfl) _ _ _ _).trans (by kernel_rfl)
theorem d9_0_53 (k : St → Option β) : rD d9_0 53 159 x h r m k =
(gd (wt (x 106) true) (buildV Try.prog 72 #[(0, (.int .i64 1)), (1, (.int .u64 5))])).bind fun v148 =>
rD d9_0 54 159 (up x [(112,v148)]) h r m k := (regD_step _ _ d9_0 53 (by kernel_rfl) _ _ _ _).trans (by kernel_rfl)
theorem d9_0_54 (k : St → Option β) : rD d9_0 54 159 x h r m k =
(gd (wt (x 106) true) (buildV Try.prog 72 #[(0, (.int .i64 2)), (1, (.int .u64 1)), (2, (.int .u64 1))])).bind fun v149 =>
rD d9_0 55 159 (up x [(113,v149)]) h r m k := (regD_step _ _ d9_0 54 (by kernel_rfl) _ _ _ _).trans (by kernel_rfl)
theorem d9_0_55 (k : St → Option β) : rD d9_0 55 159 x h r m k =
obH (gdH (wt (x 106) true) h (buildSliceV Try.prog 51 4 #[(0, (x 110)), (1, (x 111)), (2, (x 112)), (3, (x 113))] h)) fun v150 h151 =>
rD d9_0 56 159 (up x [(114,v150)]) h151 (rdL (wt (x 106) true) [h.blks.length] ++ r) m k := (regD_step _ _ d9_0 55 (by kernel_rfl) _ _ _ _).trans (by kernel_rfl)
theorem d9_0_56 (k : St → Option β) : rD d9_0 56 159 x h r m k =
obH (gdH (wt (x 106) true) h (ev 21 #[x 109,x 114] h)) fun v152 h153 =>
rD d9_0 57 159 (up x [(115,v152)]) h153 r m k := (regD_step _ _ d9_0 56 (by kernel_rfl) _ _ _ _).trans (by kernel_rfl)
theorem d9_0_57 (k : St → Option β) : rD d9_0 57 159 x h r m k =
(pickV (x 106) (x 115) (.bool false)).bind fun v154 =>
rD d9_0 58 159 (up x [(116,v154)]) h r m k := (regD_step _ _ d9_0 57 (by kernel_rfl) _ _ _ _).trans (by kernel_rfl)
theorem d9_0_58 (k : St → Option β) : rD d9_0 58 159 x h r m k =
rD d9_0 59 159 (up x [(117,(x 116))]) h r m k := regD_move _ _ d9_0 58 (by kernel_rfl) (by kernel_rfl) (by kernel_rfl) _ _ _ _ _ _ (by kernel_rfl) (by kernel_rfl)
theorem d9_0_59 (k : St → Option β) : rD d9_0 59 159 x h r m k =
(gd (wt (x 117) true) (ld 47 (x 8) h)).bind fun v155 =>
rD d9_0 60 159 (up x [(118,v155)]) h r m k := (regD_step _ _ d9_0 59 (by kernel_rfl) _ _ _ _).trans (by kernel_rfl)
theorem d9_0_60 (k : St → Option β) : rD d9_0 60 159 x h r m k =
obH (gdH (wt (x 117) true) h (ev 19 #[x 118] h)) fun v156 h157 =>
rD d9_0 61 159 (up x [(119,v156)]) h157 r m k := (regD_step _ _ d9_0 60 (by kernel_rfl) _ _ _ _).trans (by kernel_rfl)
theorem d9_0_61 (k : St → Option β) : rD d9_0 61 159 x h r m k =
(gd (wt (x 117) true) (unV Try.prog .not (x 119))).bind fun v158 =>
rD d9_0 62 159 (up x [(120,v158)]) h r m k := (regD_step _ _ d9_0 61 (by kernel_rfl) _ _ _ _).trans (by kernel_rfl)
theorem d9_0_62 (k : St → Option β) : rD d9_0 62 159 x h r m k =
(pickV (x 117) (x 120) (.bool false)).bind fun v159 =>
rD d9_0 63 159 (up x [(121,v159)]) h r m k := (regD_step _ _ d9_0 62 (by kernel_rfl) _ _ _ _).trans (by kernel_rfl)
theorem d9_0_63 (k : St → Option β) : rD d9_0 63 159 x h r m k =
rD d9_0 64 159 (up x [(122,(x 121))]) h r m k := regD_move _ _ d9_0 63 (by kernel_rfl) (by kernel_rfl) (by kernel_rfl) _ _ _ _ _ _ (by kernel_rfl) (by kernel_rfl)
theorem d9_0_64 (k : St → Option β) : rD d9_0 64 159 x h r m k =
(gd (wt (x 122) true) (ld 47 (x 8) h)).bind fun v160 =>
rD d9_0 65 159 (up x [(123,v160)]) h r m k := (regD_step _ _ d9_0 64 (by kernel_rfl) _ _ _ _).trans (by kernel_rfl)
theorem d9_0_65 (k : St → Option β) : rD d9_0 65 159 x h r m k =
obH (gdH (wt (x 122) true) h (ev 31 #[x 123] h)) fun v161 h162 =>
rD d9_0 66 159 (up x [(124,v161)]) h162 r m k := (regD_step _ _ d9_0 65 (by kernel_rfl) _ _ _ _).trans (by kernel_rfl)
theorem d9_0_66 (k : St → Option β) : rD d9_0 66 159 x h r m k =
(gd (wt (x 122) true) (ln 33 (x 124) h)).bind fun v163 =>
rD d9_0 67 159 (up x [(125,v163)]) h r m k := (regD_step _ _ d9_0 66 (by kernel_rfl) _ _ _ _).trans (by kernel_rfl)
theorem d9_0_67 (k : St → Option β) : rD d9_0 67 159 x h r m k =
(gd (wt (x 122) true) (bn .eql 3 (x 125) (.int .i64 0))).bind fun v164 =>
rD d9_0 68 159 (up x [(126,v164)]) h r m k := (regD_step _ _ d9_0 67 (by kernel_rfl) _ _ _ _).trans (by kernel_rfl)
theorem d9_0_68 (k : St → Option β) : rD d9_0 68 159 x h r m k =
(pickV (x 122) (x 126) (.bool false)).bind fun v165 =>
rD d9_0 69 159 (up x [(127,v165)]) h r m k := (regD_step _ _ d9_0 68 (by kernel_rfl) _ _ _ _).trans (by kernel_rfl)
theorem d9_0_69 (k : St → Option β) : rD d9_0 69 159 x h r m k =
rD d9_0 70 159 (up x [(128,(x 127))]) h r m k := regD_move _ _ d9_0 69 (by kernel_rfl) (by kernel_rfl) (by kernel_rfl) _ _ _ _ _ _ (by kernel_rfl) (by kernel_rfl)
theorem d9_0_70 (k : St → Option β) : rD d9_0 70 159 x h r m k =
(gd (wt (x 128) true) (ld 47 (x 8) h)).bind fun v166 =>
rD d9_0 71 159 (up x [(129,v166)]) h r m k := (regD_step _ _ d9_0 70 (by kernel_rfl) _ _ _ _).trans (by kernel_rfl)
theorem d9_0_71 (k : St → Option β) : rD d9_0 71 159 x h r m k =
obH (gdH (wt (x 128) true) h (ev 20 #[x 129] h)) fun v167 h168 =>
rD d9_0 72 159 (up x [(130,v167)]) h168 r m k := (regD_step _ _ d9_0 71 (by kernel_rfl) _ _ _ _).trans (by kernel_rfl)
theorem d9_0_72 (k : St → Option β) : rD d9_0 72 159 x h r m k =
(gd (wt (x 128) true) (fv 47 (x 130) 0)).bind fun v169 =>
rD d9_0 73 159 (up x [(131,v169)]) h r m k := (regD_step _ _ d9_0 72 (by kernel_rfl) _ _ _ _).trans (by kernel_rfl)
theorem d9_0_73 (k : St → Option β) : rD d9_0 73 159 x h r m k =
(gd (wt (x 128) true) (ln 45 (x 131) h)).bind fun v170 =>
rD d9_0 74 159 (up x [(132,v170)]) h r m k := (regD_step _ _ d9_0 73 (by kernel_rfl) _ _ _ _).trans (by kernel_rfl)
theorem d9_0_74 (k : St → Option β) : rD d9_0 74 159 x h r m k =
(gd (wt (x 128) true) (bn .eql 3 (x 132) (.int .i64 2))).bind fun v171 =>
rD d9_0 75 159 (up x [(133,v171)]) h r m k := (regD_step _ _ d9_0 74 (by kernel_rfl) _ _ _ _).trans (by kernel_rfl)
theorem d9_0_75 (k : St → Option β) : rD d9_0 75 159 x h r m k =
(pickV (x 128) (x 133) (.bool false)).bind fun v172 =>
rD d9_0 76 159 (up x [(134,v172)]) h r m k := (regD_step _ _ d9_0 75 (by kernel_rfl) _ _ _ _).trans (by kernel_rfl)
theorem d9_0_76 (k : St → Option β) : rD d9_0 76 159 x h r m k =
rD d9_0 77 159 (up x [(135,(x 134))]) h r m k := regD_move _ _ d9_0 76 (by kernel_rfl) (by kernel_rfl) (by kernel_rfl) _ _ _ _ _ _ (by kernel_rfl) (by kernel_rfl)
theorem d9_0_77 (k : St → Option β) : rD d9_0 77 159 x h r m k =
(gd (wt (x 135) true) (ld 47 (x 1) h)).bind fun v173 =>
rD d9_0 78 159 (up x [(136,v173)]) h r m k := (regD_step _ _ d9_0 77 (by kernel_rfl) _ _ _ _).trans (by kernel_rfl)
theorem d9_0_78 (k : St → Option β) : rD d9_0 78 159 x h r m k =
(gd (wt (x 135) true) (ld 47 (x 8) h)).bind fun v174 =>
rD d9_0 79 159 (up x [(137,v174)]) h r m k := (regD_step _ _ d9_0 78 (by kernel_rfl) _ _ _ _).trans (by kernel_rfl)
theorem d9_0_79 (k : St → Option β) : rD d9_0 79 159 x h r m k =
obH (gdH (wt (x 135) true) h (ev 23 #[x 136,x 137] h)) fun v175 h176 =>
rD d9_0 80 159 (up x [(138,v175)]) h176 r m k := (regD_step _ _ d9_0 79 (by kernel_rfl) _ _ _ _).trans (by kernel_rfl)
theorem d9_0_80 (k : St → Option β) : rD d9_0 80 159 x h r m k =
(gd (wt (x 135) true) (fv 47 (x 138) 0)).bind fun v177 =>
rD d9_0 81 159 (up x [(139,v177)]) h r m k := (regD_step _ _ d9_0 80 (by kernel_rfl) _ _ _ _).trans (by kernel_rfl)
theorem d9_0_81 (k : St → Option β) : rD d9_0 81 159 x h r m k =
(gd (wt (x 135) true) (ln 45 (x 139) h)).bind fun v178 =>
rD d9_0 82 159 (up x [(140,v178)]) h r m k := (regD_step _ _ d9_0 81 (by kernel_rfl) _ _ _ _).trans (by kernel_rfl)
theorem d9_0_82 (k : St → Option β) : rD d9_0 82 159 x h r m k =
(gd (wt (x 135) true) (bn .eql 3 (x 140) (.int .i64 3))).bind fun v179 =>
rD d9_0 83 159 (up x [(141,v179)]) h r m k := (regD_step _ _ d9_0 82 (by kernel_rfl) _ _ _ _).trans (by kernel_rfl)
theorem d9_0_83 (k : St → Option β) : rD d9_0 83 159 x h r m k =
(pickV (x 135) (x 141) (.bool false)).bind fun v180 =>
rD d9_0 84 159 (up x [(142,v180)]) h r m k := (regD_step _ _ d9_0 83 (by kernel_rfl) _ _ _ _).trans (by kernel_rfl)
theorem d9_0_84 (k : St → Option β) : rD d9_0 84 159 x h r m k =
rD d9_0 85 159 (up x [(143,(x 142))]) h r m k := regD_move _ _ d9_0 84 (by kernel_rfl) (by kernel_rfl) (by kernel_rfl) _ _ _ _ _ _ (by kernel_rfl) (by kernel_rfl)
theorem d9_0_85 (k : St → Option β) : rD d9_0 85 159 x h r m k =
rD d9_0 86 159 (up x [(144,(gdV (wt (x 143) true) (x 10)))]) h r m k := regD_move _ _ d9_0 85 (by kernel_rfl) (by kernel_rfl) (by kernel_rfl) _ _ _ _ _ _ (by kernel_rfl) (by kernel_rfl)
theorem d9_0_86 (k : St → Option β) : rD d9_0 86 159 x h r m k =
(pickV (x 143) (x 144) (.bool false)).bind fun v181 =>
rD d9_0 87 159 (up x [(145,v181)]) h r m k := (regD_step _ _ d9_0 86 (by kernel_rfl) _ _ _ _).trans (by kernel_rfl)
theorem d9_0_87 (k : St → Option β) : rD d9_0 87 159 x h r m k =
rD d9_0 88 159 (up x [(146,(x 145))]) h r m k := regD_move _ _ d9_0 87 (by kernel_rfl) (by kernel_rfl) (by kernel_rfl) _ _ _ _ _ _ (by kernel_rfl) (by kernel_rfl)
theorem d9_0_88 (k : St → Option β) : rD d9_0 88 159 x h r m k =
(gd (wt (x 146) true) (fa 47 (x 9) 0)).bind fun v182 =>
rD d9_0 89 159 (up x [(147,v182)]) h r m k := (regD_step _ _ d9_0 88 (by kernel_rfl) _ _ _ _).trans (by kernel_rfl)
theorem d9_0_89 (k : St → Option β) : rD d9_0 89 159 x h r m k =
(gd (wt (x 146) true) (ld 45 (x 147) h)).bind fun v183 =>
rD d9_0 90 159 (up x [(148,v183)]) h r m k := (regD_step _ _ d9_0 89 (by kernel_rfl) _ _ _ _).trans (by kernel_rfl)
theorem d9_0_90 (k : St → Option β) : rD d9_0 90 159 x h r m k =
obH (gdH (wt (x 146) true) (nm h) (ev 22 #[x 148] (nm h))) fun v184 h185 =>
rD d9_0 91 159 (up x [(149,v184)]) (am h185 h) r (h185.mods ++ m) k := (regD_step _ _ d9_0 90 (by kernel_rfl) _ _ _ _).trans (by kernel_rfl)
theorem d9_0_91 (k : St → Option β) : rD d9_0 91 159 x h r m k =
(gd (wt (x 146) true) (fa 47 (x 1) 0)).bind fun v186 =>
rD d9_0 92 159 (up x [(150,v186)]) h r m k := (regD_step _ _ d9_0 91 (by kernel_rfl) _ _ _ _).trans (by kernel_rfl)
theorem d9_0_92 (k : St → Option β) : rD d9_0 92 159 x h r m k =
(gd (wt (x 146) true) (ld 45 (x 150) h)).bind fun v187 =>
rD d9_0 93 159 (up x [(151,v187)]) h (rdL (wt (x 146) true) (rb (x 150)) ++ r) m k := (regD_step _ _ d9_0 92 (by kernel_rfl) _ _ _ _).trans (by kernel_rfl)
theorem d9_0_93 (k : St → Option β) : rD d9_0 93 159 x h r m k =
obH (gdH (wt (x 146) true) h (ev 22 #[x 151] h)) fun v188 h189 =>
rD d9_0 94 159 (up x [(152,v188)]) h189 r m k := (regD_step _ _ d9_0 93 (by kernel_rfl) _ _ _ _).trans (by kernel_rfl)
theorem d9_0_94 (k : St → Option β) : rD d9_0 94 159 x h r m k =
obH (gdH (wt (x 146) true) h (ev 21 #[x 149,x 152] h)) fun v190 h191 =>
rD d9_0 95 159 (up x [(153,v190)]) h191 r m k := (regD_step _ _ d9_0 94 (by kernel_rfl) _ _ _ _).trans (by kernel_rfl)
theorem d9_0_95 (k : St → Option β) : rD d9_0 95 159 x h r m k =
(pickV (x 146) (x 153) (.bool false)).bind fun v192 =>
rD d9_0 96 159 (up x [(154,v192)]) h r m k := (regD_step _ _ d9_0 95 (by kernel_rfl) _ _ _ _).trans (by kernel_rfl)
theorem d9_0_96 (k : St → Option β) : rD d9_0 96 159 x h r m k =
rD d9_0 97 159 (up x [(155,(x 154))]) h r m k := regD_move _ _ d9_0 96 (by kernel_rfl) (by kernel_rfl) (by kernel_rfl) _ _ _ _ _ _ (by kernel_rfl) (by kernel_rfl)
theorem d9_0_97 (k : St → Option β) : rD d9_0 97 159 x h r m k =
rD d9_0 98 159 (up x [(156,(gdV (wt (x 155) true) (x 12)))]) h r m k := regD_move _ _ d9_0 97 (by kernel_rfl) (by kernel_rfl) (by kernel_rfl) _ _ _ _ _ _ (by kernel_rfl) (by kernel_rfl)
theorem d9_0_98 (k : St → Option β) : rD d9_0 98 159 x h r m k =
(gd (wt (x 155) true) (unV Try.prog .not (x 156))).bind fun v193 =>
rD d9_0 99 159 (up x [(157,v193)]) h r m k := (regD_step _ _ d9_0 98 (by kernel_rfl) _ _ _ _).trans (by kernel_rfl)
theorem d9_0_99 (k : St → Option β) : rD d9_0 99 159 x h r m k =
(pickV (x 155) (x 157) (.bool false)).bind fun v194 =>
rD d9_0 100 159 (up x [(158,v194)]) h r m k := (regD_step _ _ d9_0 99 (by kernel_rfl) _ _ _ _).trans (by kernel_rfl)
theorem d9_0_100 (k : St → Option β) : rD d9_0 100 159 x h r m k =
rD d9_0 101 159 (up x [(0,(x 158))]) h r m k := regD_move _ _ d9_0 100 (by kernel_rfl) (by kernel_rfl) (by kernel_rfl) _ _ _ _ _ _ (by kernel_rfl) (by kernel_rfl)
theorem d9_0_101 (k : St → Option β) : rD d9_0 101 159 x h r m k =
chk r m (k ⟨ar 159 x, h⟩) := by kernel_rfl
theorem c9_25_eq : cK c9_25 159 x h k =
rD d9_0 0 159 x h [] [] (fun s => k .normal s) := by kernel_rfl
theorem c9_26_eq : cK c9_26 159 x h k =
k .ret ⟨ar 159 x, h⟩ := by kernel_rfl
theorem call9  : ev 9 #[] h = cK c9_0 159 un (nm h) (retK Try.f9 Try.prog h) :=
  (evC_call 9 Try.f9 c9_0 Try.func9 (by kernel_rfl) #[] h).trans (by kernel_rfl)
theorem ret9 : retK Try.f9 Try.prog g .ret ⟨ar 159 x, h⟩ = fin g (some (x 0)) h := by kernel_rfl
theorem retn9 : retK Try.f9 Try.prog g .normal ⟨ar 159 x, h⟩ = fin g (some (x 0)) h := by kernel_rfl
end Go.Am
