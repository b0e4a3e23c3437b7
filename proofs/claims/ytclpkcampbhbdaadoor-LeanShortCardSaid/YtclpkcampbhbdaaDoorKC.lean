/- What the texts of functions come to in the machine (printed by a program of this seat; Lean checks it). -/
import Derived.Test.YtclpkcampbhbdaaDoorKB
import Derived.Test.YtclpkcampbhbdaaDoorChecked
import Derived.KernelRfl
set_option linter.all false
namespace Go.Am
open Go.Proofs
set_option maxRecDepth 100000
variable {β : Type} (x : Nat → Value) (h : Heap) (k : Ex → St → Option β) (r m : List Nat) (g : Heap)
noncomputable def c89_0 : Code := bodyC Tryd.f89 []
theorem c89_0_eq : cK c89_0 6 x h k =
(bn .neq 3 (x 0) (x 0)).bind fun v0 =>
k .ret ⟨ar 6 (up x [(2,v0),(3,(x 0)),(4,(x 0)),(5,v0)]), h⟩ := by kernel_rfl
theorem call89 (a0 : Value) : evC Tryd.prog 89 #[a0] h = cK c89_0 6 (up un [(0,a0)]) (nm h) (retK Tryd.f89 Tryd.prog h) :=
  (evC_call 89 Tryd.f89 c89_0 Tryd.func89 (by kernel_rfl) #[a0] h).trans (by kernel_rfl)
theorem ret89 : retK Tryd.f89 Tryd.prog g .ret ⟨ar 6 x, h⟩ = fin g (some (x 2)) h := by kernel_rfl
end Go.Am
namespace Go.Am
open Go.Proofs
set_option maxRecDepth 100000
variable {β : Type} (x : Nat → Value) (h : Heap) (k : Ex → St → Option β) (r m : List Nat) (g : Heap)
noncomputable def c90_0 : Code := bodyC Tryd.f90 []
theorem c90_0_eq : cK c90_0 6 x h k =
(bn .neq 23 (x 0) (x 0)).bind fun v0 =>
k .ret ⟨ar 6 (up x [(2,v0),(3,(x 0)),(4,(x 0)),(5,v0)]), h⟩ := by kernel_rfl
theorem call90 (a0 : Value) : evC Tryd.prog 90 #[a0] h = cK c90_0 6 (up un [(0,a0)]) (nm h) (retK Tryd.f90 Tryd.prog h) :=
  (evC_call 90 Tryd.f90 c90_0 Tryd.func90 (by kernel_rfl) #[a0] h).trans (by kernel_rfl)
theorem ret90 : retK Tryd.f90 Tryd.prog g .ret ⟨ar 6 x, h⟩ = fin g (some (x 2)) h := by kernel_rfl
end Go.Am
namespace Go.Am
open Go.Proofs
set_option maxRecDepth 100000
variable {β : Type} (x : Nat → Value) (h : Heap) (k : Ex → St → Option β) (r m : List Nat) (g : Heap)
noncomputable def c76_0 : Code := bodyC Tryd.f76 []
theorem c76_0_eq : cK c76_0 20 x h k =
obH (ev 89 #[x 0] h) fun v0 h1 =>
obH (ev 89 #[x 1] h1) fun v2 h3 =>
cnd v0 (
cnd v2 (
k .ret ⟨ar 20 (up x [(4,(.int .i64 0)),(5,v0),(6,v2),(7,(x 0)),(8,v0),(9,(x 1)),(10,v2),(11,v0),(12,v2)]), h3⟩) (
k .ret ⟨ar 20 (up x [(4,(.int .i64 (-1))),(5,v0),(6,v2),(7,(x 0)),(8,v0),(9,(x 1)),(10,v2),(11,v0),(12,v2)]), h3⟩)) (
cnd v2 (
k .ret ⟨ar 20 (up x [(4,(.int .i64 1)),(5,v0),(6,v2),(7,(x 0)),(8,v0),(9,(x 1)),(10,v2),(11,v0),(13,v2)]), h3⟩) (
(bn .lss 3 (x 0) (x 1)).bind fun v4 =>
cnd v4 (
k .ret ⟨ar 20 (up x [(4,(.int .i64 (-1))),(5,v0),(6,v2),(7,(x 0)),(8,v0),(9,(x 1)),(10,v2),(11,v0),(13,v2),(14,(x 0)),(15,(x 1)),(16,v4)]), h3⟩) (
(bn .gtr 3 (x 0) (x 1)).bind fun v5 =>
cnd v5 (
k .ret ⟨ar 20 (up x [(4,(.int .i64 1)),(5,v0),(6,v2),(7,(x 0)),(8,v0),(9,(x 1)),(10,v2),(11,v0),(13,v2),(14,(x 0)),(15,(x 1)),(16,v4),(17,(x 0)),(18,(x 1)),(19,v5)]), h3⟩) (
k .ret ⟨ar 20 (up x [(4,(.int .i64 0)),(5,v0),(6,v2),(7,(x 0)),(8,v0),(9,(x 1)),(10,v2),(11,v0),(13,v2),(14,(x 0)),(15,(x 1)),(16,v4),(17,(x 0)),(18,(x 1)),(19,v5)]), h3⟩)))) := by kernel_rfl
theorem call76 (a0 a1 : Value) : evC Tryd.prog 76 #[a0,a1] h = cK c76_0 20 (up un [(0,a0),(1,a1)]) (nm h) (retK Tryd.f76 Tryd.prog h) :=
  (evC_call 76 Tryd.f76 c76_0 Tryd.func76 (by kernel_rfl) #[a0,a1] h).trans (by kernel_rfl)
theorem ret76 : retK Tryd.f76 Tryd.prog g .ret ⟨ar 20 x, h⟩ = fin g (some (x 4)) h := by kernel_rfl
end Go.Am
namespace Go.Am
open Go.Proofs
set_option maxRecDepth 100000
variable {β : Type} (x : Nat → Value) (h : Heap) (k : Ex → St → Option β) (r m : List Nat) (g : Heap)
noncomputable def c77_0 : Code := bodyC Tryd.f77 []
theorem c77_0_eq : cK c77_0 20 x h k =
obH (ev 90 #[x 0] h) fun v0 h1 =>
obH (ev 90 #[x 1] h1) fun v2 h3 =>
cnd v0 (
cnd v2 (
k .ret ⟨ar 20 (up x [(4,(.int .i64 0)),(5,v0),(6,v2),(7,(x 0)),(8,v0),(9,(x 1)),(10,v2),(11,v0),(12,v2)]), h3⟩) (
k .ret ⟨ar 20 (up x [(4,(.int .i64 (-1))),(5,v0),(6,v2),(7,(x 0)),(8,v0),(9,(x 1)),(10,v2),(11,v0),(12,v2)]), h3⟩)) (
cnd v2 (
k .ret ⟨ar 20 (up x [(4,(.int .i64 1)),(5,v0),(6,v2),(7,(x 0)),(8,v0),(9,(x 1)),(10,v2),(11,v0),(13,v2)]), h3⟩) (
(bn .lss 23 (x 0) (x 1)).bind fun v4 =>
cnd v4 (
k .ret ⟨ar 20 (up x [(4,(.int .i64 (-1))),(5,v0),(6,v2),(7,(x 0)),(8,v0),(9,(x 1)),(10,v2),(11,v0),(13,v2),(14,(x 0)),(15,(x 1)),(16,v4)]), h3⟩) (
(bn .gtr 23 (x 0) (x 1)).bind fun v5 =>
cnd v5 (
k .ret ⟨ar 20 (up x [(4,(.int .i64 1)),(5,v0),(6,v2),(7,(x 0)),(8,v0),(9,(x 1)),(10,v2),(11,v0),(13,v2),(14,(x 0)),(15,(x 1)),(16,v4),(17,(x 0)),(18,(x 1)),(19,v5)]), h3⟩) (
k .ret ⟨ar 20 (up x [(4,(.int .i64 0)),(5,v0),(6,v2),(7,(x 0)),(8,v0),(9,(x 1)),(10,v2),(11,v0),(13,v2),(14,(x 0)),(15,(x 1)),(16,v4),(17,(x 0)),(18,(x 1)),(19,v5)]), h3⟩)))) := by kernel_rfl
theorem call77 (a0 a1 : Value) : evC Tryd.prog 77 #[a0,a1] h = cK c77_0 20 (up un [(0,a0),(1,a1)]) (nm h) (retK Tryd.f77 Tryd.prog h) :=
  (evC_call 77 Tryd.f77 c77_0 Tryd.func77 (by kernel_rfl) #[a0,a1] h).trans (by kernel_rfl)
theorem ret77 : retK Tryd.f77 Tryd.prog g .ret ⟨ar 20 x, h⟩ = fin g (some (x 4)) h := by kernel_rfl
end Go.Am
namespace Go.Am
open Go.Proofs
set_option maxRecDepth 100000
variable {β : Type} (x : Nat → Value) (h : Heap) (k : Ex → St → Option β) (r m : List Nat) (g : Heap)
noncomputable def c75_0 : Code := bodyC Tryd.f75 []
noncomputable def c75_1 : Code := bodyC Tryd.f75 [true, true, false, true, false, false]
noncomputable def c75_2 : Code := bodyC Tryd.f75 [true, true, true]
theorem c75_0_eq : cK c75_0 18 x h k =
(ln 41 (x 0) h).bind fun v0 =>
lK c75_1 18 (up x [(2,(.int .i64 0)),(3,(.int .i64 0)),(6,(x 0)),(7,v0),(8,(.int .i64 0))]) h (blockK 0 (sK c75_2 k)) := by kernel_rfl
theorem c75_1_eq : cK c75_1 18 x h k =
(bn .lss 3 (x 8) (x 7)).bind fun v1 =>
cnd v1 (
(ia 41 (x 6) (x 8)).bind fun v2 =>
(ld 3 v2 h).bind fun v3 =>
(bn .neq 3 v3 (x 3)).bind fun v4 =>
cnd v4 (
k .ret ⟨ar 18 (up x [(2,v3),(5,v3),(9,v1),(10,v2),(11,v3),(12,v3),(13,(x 3)),(14,v4),(15,v3)]), h⟩) (
(bn .add 3 (x 8) (.int .i64 1)).bind fun v5 =>
k .normal ⟨ar 18 (up x [(5,v3),(8,v5),(9,v1),(10,v2),(11,v3),(12,v3),(13,(x 3)),(14,v4),(16,v5)]), h⟩)) (
k (.exit 0) ⟨ar 18 (up x [(9,v1)]), h⟩) := by kernel_rfl
theorem c75_2_eq : cK c75_2 18 x h k =
k .ret ⟨ar 18 (up x [(2,(x 3)),(17,(x 3))]), h⟩ := by kernel_rfl
theorem call75 (a0 : Value) : evC Tryd.prog 75 #[a0] h = cK c75_0 18 (up un [(0,a0)]) (nm h) (retK Tryd.f75 Tryd.prog h) :=
  (evC_call 75 Tryd.f75 c75_0 Tryd.func75 (by kernel_rfl) #[a0] h).trans (by kernel_rfl)
theorem ret75 : retK Tryd.f75 Tryd.prog g .ret ⟨ar 18 x, h⟩ = fin g (some (x 2)) h := by kernel_rfl
end Go.Am
namespace Go.Am
open Go.Proofs
set_option maxRecDepth 100000
variable {β : Type} (x : Nat → Value) (h : Heap) (k : Ex → St → Option β) (r m : List Nat) (g : Heap)
noncomputable def c55_0 : Code := bodyC Tryd.f55 []
theorem c55_0_eq : cK c55_0 17 x h k =
obH (boxV Tryd.prog 68 (x 0) h) fun v0 h1 =>
obH (boxV Tryd.prog 68 (x 1) h1) fun v2 h3 =>
(fa 68 v0 0).bind fun v4 =>
(ld 3 v4 h3).bind fun v5 =>
(fa 68 v2 0).bind fun v6 =>
(ld 3 v6 h3).bind fun v7 =>
obH (ev 76 #[v5,v7] (nm h3)) fun v8 h9 =>
(fa 68 v0 1).bind fun v10 =>
(ld 23 v10 (am h9 h3)).bind fun v11 =>
(fa 68 v2 1).bind fun v12 =>
(ld 23 v12 (am h9 h3)).bind fun v13 =>
obH (ev 77 #[v11,v13] (am h9 h3)) fun v14 h15 =>
obH (buildSliceV Tryd.prog 41 2 #[(0, v8), (1, v14)] h15) fun v16 h17 =>
obH (ev 75 #[v16] h17) fun v18 h19 =>
chk ((rb v12) ++ ((rb v10) ++ [])) (h9.mods ++ []) (
k .ret ⟨ar 17 (up x [(2,v0),(3,v2),(4,v18),(5,v4),(6,v5),(7,v6),(8,v7),(9,v8),(10,v10),(11,v11),(12,v12),(13,v13),(14,v14),(15,v16),(16,v18)]), h19⟩) := by kernel_rfl
theorem call55 (a0 a1 : Value) : evC Tryd.prog 55 #[a0,a1] h = cK c55_0 17 (up un [(0,a0),(1,a1)]) (nm h) (retK Tryd.f55 Tryd.prog h) :=
  (evC_call 55 Tryd.f55 c55_0 Tryd.func55 (by kernel_rfl) #[a0,a1] h).trans (by kernel_rfl)
theorem ret55 : retK Tryd.f55 Tryd.prog g .ret ⟨ar 17 x, h⟩ = fin g (some (x 4)) h := by kernel_rfl
end Go.Am
namespace Go.Am
open Go.Proofs
set_option maxRecDepth 100000
variable (Aa Ab Ac Ad Ae Af Ag Ah Ai Aj Ak : Value)
noncomputable def c93_0 : Code := bodyC Tryd.f93 []
noncomputable def c93_1 : Code := bodyC Tryd.f93 [true, true, false, false, false]
noncomputable def c93_2 : Code := bodyC Tryd.f93 [true, true, true]
theorem c93_0_eq {β : Type} (h : Heap) (k : Ex → St → Option β) : codeK Tryd.prog (evC Tryd.prog) loopL c93_0 ⟨#[Aa,Ab,Ac,Ad,Ae,Af,Ag,Ah,Ai,Aj,Ak], h⟩ k =
loopK Tryd.prog (evC Tryd.prog) c93_1 ⟨#[Aa,Ab, (Go.Value.int Go.IntKind.i64 0), (Go.Value.int Go.IntKind.i64 1),Ae,Af,Ag,Ah,Ai,Aj,Ak], h⟩ (blockK 0 (seqK Tryd.prog (evC Tryd.prog) c93_2 k)) := by kernel_rfl
theorem c93_1_eq {β : Type} (h : Heap) (k : Ex → St → Option β) : codeK Tryd.prog (evC Tryd.prog) loopL c93_1 ⟨#[Aa,Ab,Ac,Ad,Ae,Af,Ag,Ah,Ai,Aj,Ak], h⟩ k =
(binV Tryd.prog .geq 23 (.tmp 4) (.const (Go.Value.int Go.IntKind.u64 128)) Aa (Go.Value.int Go.IntKind.u64 128)).bind fun t5_0 =>
cnd t5_0 (
(binV Tryd.prog .shr 23 (.tmp 6) (.const (Go.Value.int Go.IntKind.u64 7)) Aa (Go.Value.int Go.IntKind.u64 7)).bind fun t7_1 =>
(binV Tryd.prog .add 3 (.tmp 8) (.const (Go.Value.int Go.IntKind.i64 1)) Ad (Go.Value.int Go.IntKind.i64 1)).bind fun t9_2 =>
k .normal ⟨#[t7_1,Ab,Ac, t9_2,Aa, t5_0,Aa, t7_1,Ad, t9_2,Ak], h⟩) (
k (.exit 0) ⟨#[Aa,Ab,Ac,Ad,Aa, t5_0,Ag,Ah,Ai,Aj,Ak], h⟩) := by kernel_rfl
theorem c93_2_eq {β : Type} (h : Heap) (k : Ex → St → Option β) : codeK Tryd.prog (evC Tryd.prog) loopL c93_2 ⟨#[Aa,Ab,Ac,Ad,Ae,Af,Ag,Ah,Ai,Aj,Ak], h⟩ k =
k .ret ⟨#[Aa,Ab,Ad,Ad,Ae,Af,Ag,Ah,Ai,Aj,Ad], h⟩ := by kernel_rfl
theorem call93 (h : Heap) : evC Tryd.prog 93 #[Aa] h = codeK Tryd.prog (evC Tryd.prog) loopL c93_0 ⟨#[Aa, undef, undef, undef, undef, undef, undef, undef, undef, undef, undef], nm h⟩ (retK Tryd.f93 Tryd.prog h) :=
  (evC_call 93 Tryd.f93 c93_0 Tryd.func93 (by kernel_rfl) #[Aa] h).trans (by kernel_rfl)
theorem ret93 (h0 h : Heap) : retK Tryd.f93 Tryd.prog h0 .ret ⟨#[Aa,Ab,Ac,Ad,Ae,Af,Ag,Ah,Ai,Aj,Ak], h⟩ = fin h0 (some Ac) h := by kernel_rfl
end Go.Am
namespace Go.Am
open Go.Proofs
set_option maxRecDepth 100000
variable (Aa Ab Ac Ad Ae Af Ag Ah Ai Aj Ak Al An Ao Ap Aq Ar As Au Av Aw Ax Ay : Value)
noncomputable def c78_0 : Code := bodyC Tryd.f78 []
noncomputable def c78_1 : Code := bodyC Tryd.f78 [true, true, false, false, false]
noncomputable def c78_2 : Code := bodyC Tryd.f78 [true, true, true]
theorem c78_0_eq {β : Type} (h : Heap) (k : Ex → St → Option β) : codeK Tryd.prog (evC Tryd.prog) loopL c78_0 ⟨#[Aa,Ab,Ac,Ad,Ae,Af,Ag,Ah,Ai,Aj,Ak,Al,An,Ao,Ap,Aq,Ar,As,Au,Av,Aw,Ax,Ay], h⟩ k =
obH (appendV Tryd.prog 40 (some 40) (Go.Value.slice Option.none 0 0) Aa h) fun t7_0 h1 =>
loopK Tryd.prog (evC Tryd.prog) c78_1 ⟨#[Aa,Ab,Ac,Ad, (Go.Value.slice Option.none 0 0), t7_0,Aa, t7_0,Ai,Aj,Ak,Al,An,Ao,Ap,Aq,Ar,As,Au,Av,Aw,Ax,Ay], h1⟩ (blockK 0 (seqK Tryd.prog (evC Tryd.prog) c78_2 k)) := by kernel_rfl
theorem c78_1_eq {β : Type} (h : Heap) (k : Ex → St → Option β) : codeK Tryd.prog (evC Tryd.prog) loopL c78_1 ⟨#[Aa,Ab,Ac,Ad,Ae,Af,Ag,Ah,Ai,Aj,Ak,Al,An,Ao,Ap,Aq,Ar,As,Au,Av,Aw,Ax,Ay], h⟩ k =
(binV Tryd.prog .geq 23 (.tmp 8) (.const (Go.Value.int Go.IntKind.u64 128)) Ab (Go.Value.int Go.IntKind.u64 128)).bind fun t9_2 =>
cnd t9_2 (
obH (convV Tryd.prog 23 5 Ab h) fun t12_3 h4 =>
(binV Tryd.prog .or 5 (.tmp 12) (.const (Go.Value.int Go.IntKind.u8 128)) t12_3 (Go.Value.int Go.IntKind.u8 128)).bind fun t13_5 =>
obH (buildSliceV Tryd.prog 40 1 #[(0, t13_5)] h4) fun t14_6 h7 =>
obH (appendV Tryd.prog 40 (some 40) Af t14_6 h7) fun t15_8 h9 =>
(binV Tryd.prog .shr 23 (.tmp 16) (.const (Go.Value.int Go.IntKind.u64 7)) Ab (Go.Value.int Go.IntKind.u64 7)).bind fun t17_10 =>
k .normal ⟨#[Aa, t17_10,Ac,Ad,Ae, t15_8,Ag,Ah,Ab, t9_2,Af,Ab, t12_3, t13_5, t14_6, t15_8,Ab, t17_10,Au,Av,Aw,Ax,Ay], h9⟩) (
k (.exit 0) ⟨#[Aa,Ab,Ac,Ad,Ae,Af,Ag,Ah,Ab, t9_2,Ak,Al,An,Ao,Ap,Aq,Ar,As,Au,Av,Aw,Ax,Ay], h⟩) := by kernel_rfl
theorem c78_2_eq {β : Type} (h : Heap) (k : Ex → St → Option β) : codeK Tryd.prog (evC Tryd.prog) loopL c78_2 ⟨#[Aa,Ab,Ac,Ad,Ae,Af,Ag,Ah,Ai,Aj,Ak,Al,An,Ao,Ap,Aq,Ar,As,Au,Av,Aw,Ax,Ay], h⟩ k =
obH (convV Tryd.prog 23 5 Ab h) fun t20_11 h12 =>
obH (buildSliceV Tryd.prog 40 1 #[(0, t20_11)] h12) fun t21_13 h14 =>
obH (appendV Tryd.prog 40 (some 40) Af t21_13 h14) fun t22_15 h16 =>
k .ret ⟨#[Aa,Ab,Ac,Ad, t22_15,Af,Ag,Ah,Ai,Aj,Ak,Al,An,Ao,Ap,Aq,Ar,As,Af,Ab, t20_11, t21_13, t22_15], h16⟩ := by kernel_rfl
theorem call78 (h : Heap) : evC Tryd.prog 78 #[Aa,Ab] h = codeK Tryd.prog (evC Tryd.prog) loopL c78_0 ⟨#[Aa,Ab, undef, undef, undef, undef, undef, undef, undef, undef, undef, undef, undef, undef, undef, undef, undef, undef, undef, undef, undef, undef, undef], nm h⟩ (retK Tryd.f78 Tryd.prog h) :=
  (evC_call 78 Tryd.f78 c78_0 Tryd.func78 (by kernel_rfl) #[Aa,Ab] h).trans (by kernel_rfl)
theorem ret78 (h0 h : Heap) : retK Tryd.f78 Tryd.prog h0 .ret ⟨#[Aa,Ab,Ac,Ad,Ae,Af,Ag,Ah,Ai,Aj,Ak,Al,An,Ao,Ap,Aq,Ar,As,Au,Av,Aw,Ax,Ay], h⟩ = fin h0 (some Ae) h := by kernel_rfl
end Go.Am
namespace Go.Am
open Go.Proofs
set_option maxRecDepth 100000
variable (Aa Ab Ac Ad Ae Af Ag Ah Ai Aj Ak Al An Ao Ap Aq Ar As Au Av Aw Ax Ay Az Ba Bb Bc Bd Be Bf Bg Bh Bi Bj Bk Bl Bm Bn Bo Bp Bq Br : Value)
noncomputable def c84_0 : Code := bodyC Tryd.f84 []
noncomputable def c84_1 : Code := bodyC Tryd.f84 [true, false, true, false, false]
noncomputable def c84_2 : Code := bodyC Tryd.f84 [true, true]
theorem c84_0_eq {β : Type} (h : Heap) (k : Ex → St → Option β) : codeK Tryd.prog (evC Tryd.prog) loopL c84_0 ⟨#[Aa,Ab,Ac,Ad,Ae,Af,Ag,Ah,Ai,Aj,Ak,Al,An,Ao,Ap,Aq,Ar,As,Au,Av,Aw,Ax,Ay,Az,Ba,Bb,Bc,Bd,Be,Bf,Bg,Bh,Bi,Bj,Bk,Bl,Bm,Bn,Bo,Bp,Bq,Br], h⟩ k =
(lenV Tryd.prog 40 Aa h).bind fun t7_0 =>
loopK Tryd.prog (evC Tryd.prog) c84_1 ⟨#[Aa,Ab, (Go.Value.int Go.IntKind.u64 0), (Go.Value.int Go.IntKind.i64 0),Ae,Af,Aa, t7_0, (Go.Value.int Go.IntKind.i64 0),Aj,Ak,Al,An,Ao,Ap,Aq,Ar,As,Au,Av,Aw,Ax,Ay,Az,Ba,Bb,Bc,Bd,Be,Bf,Bg,Bh,Bi,Bj,Bk,Bl,Bm,Bn,Bo,Bp,Bq,Br], h⟩ (blockK 0 (seqK Tryd.prog (evC Tryd.prog) c84_2 k)) := by kernel_rfl
theorem c84_1_eq {β : Type} (h : Heap) (k : Ex → St → Option β) : codeK Tryd.prog (evC Tryd.prog) loopL c84_1 ⟨#[Aa,Ab,Ac,Ad,Ae,Af,Ag,Ah,Ai,Aj,Ak,Al,An,Ao,Ap,Aq,Ar,As,Au,Av,Aw,Ax,Ay,Az,Ba,Bb,Bc,Bd,Be,Bf,Bg,Bh,Bi,Bj,Bk,Bl,Bm,Bn,Bo,Bp,Bq,Br], h⟩ k =
(binV Tryd.prog .lss 3 (.tmp 8) (.tmp 7) Ai Ah).bind fun t9_1 =>
cnd t9_1 (
(indexAddrV Tryd.prog 40 Ag Ai).bind fun t11_2 =>
(loadV Tryd.prog 5 t11_2 h).bind fun t12_3 =>
(binV Tryd.prog .eql 3 (.tmp 13) (.const (Go.Value.int Go.IntKind.i64 10)) Ai (Go.Value.int Go.IntKind.i64 10)).bind fun t14_4 =>
cnd t14_4 (
k (.exit 0) ⟨#[Aa,Ab,Ac,Ad,Ai, t12_3,Ag,Ah,Ai, t9_1,Ai, t11_2, t12_3,Ai, t14_4,Aq,Ar,As,Au,Av,Aw,Ax,Ay,Az,Ba,Bb,Bc,Bd,Be,Bf,Bg,Bh,Bi,Bj,Bk,Bl,Bm,Bn,Bo,Bp,Bq,Br], h⟩) (
(binV Tryd.prog .and 5 (.tmp 16) (.const (Go.Value.int Go.IntKind.u8 127)) t12_3 (Go.Value.int Go.IntKind.u8 127)).bind fun t17_5 =>
obH (convV Tryd.prog 5 23 t17_5 h) fun t18_6 h7 =>
(binV Tryd.prog .mul 3 (.const (Go.Value.int Go.IntKind.i64 7)) (.tmp 19) (Go.Value.int Go.IntKind.i64 7) Ai).bind fun t20_8 =>
(binV Tryd.prog .shl 23 (.tmp 18) (.tmp 20) t18_6 t20_8).bind fun t21_9 =>
(binV Tryd.prog .or 23 (.tmp 15) (.tmp 21) Ac t21_9).bind fun t22_10 =>
(binV Tryd.prog .lss 5 (.tmp 23) (.const (Go.Value.int Go.IntKind.u8 128)) t12_3 (Go.Value.int Go.IntKind.u8 128)).bind fun t24_11 =>
cnd t24_11 (
obH (evC Tryd.prog 93 #[t22_10] h7) fun t26_12 h13 =>
(binV Tryd.prog .add 3 (.tmp 27) (.const (Go.Value.int Go.IntKind.i64 1)) Ai (Go.Value.int Go.IntKind.i64 1)).bind fun t28_14 =>
(binV Tryd.prog .neq 3 (.tmp 26) (.tmp 28) t26_12 t28_14).bind fun t29_15 =>
(gd (wt t29_15 false) (binV Tryd.prog .eql 3 (.tmp 31) (.const (Go.Value.int Go.IntKind.i64 9)) (gdV (wt t29_15 false) Ai) (Go.Value.int Go.IntKind.i64 9))).bind fun t32_16 =>
(gd (wt (gdV (wt t29_15 false) t32_16) true) (binV Tryd.prog .gtr 5 (.tmp 34) (.const (Go.Value.int Go.IntKind.u8 1)) (gdV (wt (gdV (wt t29_15 false) t32_16) true) t12_3) (Go.Value.int Go.IntKind.u8 1))).bind fun t35_17 =>
(gd (wt t29_15 false) (pickV (gdV (wt t29_15 false) t32_16) t35_17 (Go.Value.bool Bool.false))).bind fun t36_18 =>
(pickV t29_15 (Go.Value.bool Bool.true) t36_18).bind fun t37_19 =>
cnd t37_19 (
k (.exit 0) ⟨#[Aa,Ab, t22_10,Ad,Ai, t12_3,Ag,Ah,Ai, t9_1,Ai, t11_2, t12_3,Ai, t14_4,Ac, t12_3, t17_5, t18_6,Ai, t20_8, t21_9, t22_10, t12_3, t24_11, t22_10, t26_12,Ai, t28_14, t29_15, t29_15, (gdV (wt t29_15 false) Ai), t32_16, (gdV (wt t29_15 false) t32_16), (gdV (wt (gdV (wt t29_15 false) t32_16) true) t12_3), t35_17, t36_18, t37_19,Bo,Bp,Bq,Br], h13⟩) (
(binV Tryd.prog .add 3 (.tmp 39) (.const (Go.Value.int Go.IntKind.i64 1)) Ai (Go.Value.int Go.IntKind.i64 1)).bind fun t40_20 =>
k .ret ⟨#[Aa,Ab, t22_10, t40_20,Ai, t12_3,Ag,Ah,Ai, t9_1,Ai, t11_2, t12_3,Ai, t14_4,Ac, t12_3, t17_5, t18_6,Ai, t20_8, t21_9, t22_10, t12_3, t24_11, t22_10, t26_12,Ai, t28_14, t29_15, t29_15, (gdV (wt t29_15 false) Ai), t32_16, (gdV (wt t29_15 false) t32_16), (gdV (wt (gdV (wt t29_15 false) t32_16) true) t12_3), t35_17, t36_18, t37_19, t22_10,Ai, t40_20,Br], h13⟩)) (
(binV Tryd.prog .add 3 (.tmp 8) (.const (Go.Value.int Go.IntKind.i64 1)) Ai (Go.Value.int Go.IntKind.i64 1)).bind fun t41_21 =>
k .normal ⟨#[Aa,Ab, t22_10,Ad,Ai, t12_3,Ag,Ah, t41_21, t9_1,Ai, t11_2, t12_3,Ai, t14_4,Ac, t12_3, t17_5, t18_6,Ai, t20_8, t21_9, t22_10, t12_3, t24_11,Bb,Bc,Bd,Be,Bf,Bg,Bh,Bi,Bj,Bk,Bl,Bm,Bn,Bo,Bp,Bq, t41_21], h7⟩))) (
k (.exit 0) ⟨#[Aa,Ab,Ac,Ad,Ae,Af,Ag,Ah,Ai, t9_1,Ak,Al,An,Ao,Ap,Aq,Ar,As,Au,Av,Aw,Ax,Ay,Az,Ba,Bb,Bc,Bd,Be,Bf,Bg,Bh,Bi,Bj,Bk,Bl,Bm,Bn,Bo,Bp,Bq,Br], h⟩) := by kernel_rfl
theorem c84_2_eq {β : Type} (h : Heap) (k : Ex → St → Option β) : codeK Tryd.prog (evC Tryd.prog) loopL c84_2 ⟨#[Aa,Ab,Ac,Ad,Ae,Af,Ag,Ah,Ai,Aj,Ak,Al,An,Ao,Ap,Aq,Ar,As,Au,Av,Aw,Ax,Ay,Az,Ba,Bb,Bc,Bd,Be,Bf,Bg,Bh,Bi,Bj,Bk,Bl,Bm,Bn,Bo,Bp,Bq,Br], h⟩ k =
k .ret ⟨#[Aa,Ab, (Go.Value.int Go.IntKind.u64 0), (Go.Value.int Go.IntKind.i64 0),Ae,Af,Ag,Ah,Ai,Aj,Ak,Al,An,Ao,Ap,Aq,Ar,As,Au,Av,Aw,Ax,Ay,Az,Ba,Bb,Bc,Bd,Be,Bf,Bg,Bh,Bi,Bj,Bk,Bl,Bm,Bn,Bo,Bp,Bq,Br], h⟩ := by kernel_rfl
theorem call84 (h : Heap) : evC Tryd.prog 84 #[Aa] h = codeK Tryd.prog (evC Tryd.prog) loopL c84_0 ⟨#[Aa, undef, undef, undef, undef, undef, undef, undef, undef, undef, undef, undef, undef, undef, undef, undef, undef, undef, undef, undef, undef, undef, undef, undef, undef, undef, undef, undef, undef, undef, undef, undef, undef, undef, undef, undef, undef, undef, undef, undef, undef, undef], nm h⟩ (retK Tryd.f84 Tryd.prog h) :=
  (evC_call 84 Tryd.f84 c84_0 Tryd.func84 (by kernel_rfl) #[Aa] h).trans (by kernel_rfl)
theorem ret84 (h0 h : Heap) : retK Tryd.f84 Tryd.prog h0 .ret ⟨#[Aa,Ab,Ac,Ad,Ae,Af,Ag,Ah,Ai,Aj,Ak,Al,An,Ao,Ap,Aq,Ar,As,Au,Av,Aw,Ax,Ay,Az,Ba,Bb,Bc,Bd,Be,Bf,Bg,Bh,Bi,Bj,Bk,Bl,Bm,Bn,Bo,Bp,Bq,Br], h⟩ = fin h0 (some (.tuple #[Ac,Ad])) h := by kernel_rfl
end Go.Am
namespace Go.Am
open Go.Proofs
set_option maxRecDepth 100000
variable (Aa Ab Ac Ad Ae Af Ag Ah : Value)
noncomputable def c79_0 : Code := bodyC Tryd.f79 []
theorem c79_0_eq {β : Type} (h : Heap) (k : Ex → St → Option β) : codeK Tryd.prog (evC Tryd.prog) loopL c79_0 ⟨#[Aa,Ab,Ac,Ad,Ae,Af,Ag,Ah], h⟩ k =
(binV Tryd.prog .eql 40 (.tmp 3) (.const (Go.Value.slice Option.none 0 0)) Aa (Go.Value.slice Option.none 0 0)).bind fun t4_0 =>
cnd t4_0 (
k .ret ⟨#[Aa,Ab, (Go.Value.slice Option.none 0 0),Aa, t4_0,Af,Ag,Ah], h⟩) (
obH (buildSliceV Tryd.prog 40 0 #[] h) fun t5_1 h2 =>
obH (appendV Tryd.prog 40 (some 40) t5_1 Aa h2) fun t7_3 h4 =>
k .ret ⟨#[Aa,Ab, t7_3,Aa, t4_0, t5_1,Aa, t7_3], h4⟩) := by kernel_rfl
theorem call79 (h : Heap) : evC Tryd.prog 79 #[Aa] h = codeK Tryd.prog (evC Tryd.prog) loopL c79_0 ⟨#[Aa, undef, undef, undef, undef, undef, undef, undef], nm h⟩ (retK Tryd.f79 Tryd.prog h) :=
  (evC_call 79 Tryd.f79 c79_0 Tryd.func79 (by kernel_rfl) #[Aa] h).trans (by kernel_rfl)
theorem ret79 (h0 h : Heap) : retK Tryd.f79 Tryd.prog h0 .ret ⟨#[Aa,Ab,Ac,Ad,Ae,Af,Ag,Ah], h⟩ = fin h0 (some Ac) h := by kernel_rfl
end Go.Am
namespace Go.Am
open Go.Proofs
set_option maxRecDepth 100000
variable (Aa Ab Ac : Value)
noncomputable def c56_0 : Code := bodyC Tryd.f56 []
theorem c56_0_eq {β : Type} (h : Heap) (k : Ex → St → Option β) : codeK Tryd.prog (evC Tryd.prog) loopL c56_0 ⟨#[Aa,Ab,Ac], h⟩ k =
(buildV Tryd.prog 141 #[]).bind fun t1_0 =>
obH (boxV Tryd.prog 141 t1_0 h) fun t2_1 h2 =>
k .ret ⟨#[t2_1, t1_0, t2_1], h2⟩ := by kernel_rfl
theorem call56 (h : Heap) : evC Tryd.prog 56 #[] h = codeK Tryd.prog (evC Tryd.prog) loopL c56_0 ⟨#[undef, undef, undef], nm h⟩ (retK Tryd.f56 Tryd.prog h) :=
  (evC_call 56 Tryd.f56 c56_0 Tryd.func56 (by kernel_rfl) #[] h).trans (by kernel_rfl)
theorem ret56 (h0 h : Heap) : retK Tryd.f56 Tryd.prog h0 .ret ⟨#[Aa,Ab,Ac], h⟩ = fin h0 (some Aa) h := by kernel_rfl
end Go.Am
namespace Go.Am
open Go.Proofs
set_option maxRecDepth 100000
variable (Aa Ab Ac Ad Ae Af Ag Ah Ai Aj Ak Al An : Value)
noncomputable def c57_0 : Code := bodyC Tryd.f57 []
theorem c57_0_eq {β : Type} (h : Heap) (k : Ex → St → Option β) : codeK Tryd.prog (evC Tryd.prog) loopL c57_0 ⟨#[Aa,Ab,Ac,Ad,Ae,Af,Ag,Ah,Ai,Aj,Ak,Al,An], h⟩ k =
(nilCheckV Tryd.prog Aa).bind fun t6_0 =>
(fieldAddrV Tryd.prog 141 t6_0 0).bind fun t7_1 =>
(loadV Tryd.prog 40 t7_1 h).bind fun t8_2 =>
obH (evC Tryd.prog 78 #[t8_2,Ab] h) fun t10_3 h4 =>
(nilCheckV Tryd.prog Aa).bind fun t11_5 =>
(fieldAddrV Tryd.prog 141 t11_5 0).bind fun t12_6 =>
(storeV Tryd.prog 40 t12_6 t10_3 h4).bind fun h7 =>
k .normal ⟨#[Aa,Ab,Ac,Ad,Aa,Aa, t6_0, t7_1, t8_2,Ab, t10_3, t11_5, t12_6], h7⟩ := by kernel_rfl
theorem call57 (h : Heap) : evC Tryd.prog 57 #[Aa,Ab] h = codeK Tryd.prog (evC Tryd.prog) loopL c57_0 ⟨#[Aa,Ab, undef, undef, undef, undef, undef, undef, undef, undef, undef, undef, undef], nm h⟩ (retK Tryd.f57 Tryd.prog h) :=
  (evC_call 57 Tryd.f57 c57_0 Tryd.func57 (by kernel_rfl) #[Aa,Ab] h).trans (by kernel_rfl)
theorem retn57 (h0 h : Heap) : retK Tryd.f57 Tryd.prog h0 .normal ⟨#[Aa,Ab,Ac,Ad,Ae,Af,Ag,Ah,Ai,Aj,Ak,Al,An], h⟩ = fin h0 (some (.tuple #[])) h := by kernel_rfl
end Go.Am
namespace Go.Am
open Go.Proofs
set_option maxRecDepth 100000
variable (Aa Ab Ac Ad Ae Af Ag Ah : Value)
noncomputable def c59_0 : Code := bodyC Tryd.f59 []
theorem c59_0_eq {β : Type} (h : Heap) (k : Ex → St → Option β) : codeK Tryd.prog (evC Tryd.prog) loopL c59_0 ⟨#[Aa,Ab,Ac,Ad,Ae,Af,Ag,Ah], h⟩ k =
(nilCheckV Tryd.prog Aa).bind fun t4_0 =>
(fieldAddrV Tryd.prog 141 t4_0 0).bind fun t5_1 =>
(loadV Tryd.prog 40 t5_1 h).bind fun t6_2 =>
obH (evC Tryd.prog 79 #[t6_2] h) fun t7_3 h4 =>
k .ret ⟨#[Aa,Ab, t7_3,Aa, t4_0, t5_1, t6_2, t7_3], h4⟩ := by kernel_rfl
theorem call59 (h : Heap) : evC Tryd.prog 59 #[Aa] h = codeK Tryd.prog (evC Tryd.prog) loopL c59_0 ⟨#[Aa, undef, undef, undef, undef, undef, undef, undef], nm h⟩ (retK Tryd.f59 Tryd.prog h) :=
  (evC_call 59 Tryd.f59 c59_0 Tryd.func59 (by kernel_rfl) #[Aa] h).trans (by kernel_rfl)
theorem ret59 (h0 h : Heap) : retK Tryd.f59 Tryd.prog h0 .ret ⟨#[Aa,Ab,Ac,Ad,Ae,Af,Ag,Ah], h⟩ = fin h0 (some Ac) h := by kernel_rfl
end Go.Am
namespace Go.Am
open Go.Proofs
set_option maxRecDepth 100000
variable (Aa Ab Ac Ad Ae Af Ag : Value)
noncomputable def c67_0 : Code := bodyC Tryd.f67 []
theorem c67_0_eq {β : Type} (h : Heap) (k : Ex → St → Option β) : codeK Tryd.prog (evC Tryd.prog) loopL c67_0 ⟨#[Aa,Ab,Ac,Ad,Ae,Af,Ag], h⟩ k =
obH (evC Tryd.prog 79 #[Aa] h) fun t4_0 h1 =>
(buildV Tryd.prog 150 #[(0, t4_0)]).bind fun t5_2 =>
obH (boxV Tryd.prog 150 t5_2 h1) fun t6_3 h4 =>
k .ret ⟨#[Aa,Ab, t6_3,Aa, t4_0, t5_2, t6_3], h4⟩ := by kernel_rfl
theorem call67 (h : Heap) : evC Tryd.prog 67 #[Aa] h = codeK Tryd.prog (evC Tryd.prog) loopL c67_0 ⟨#[Aa, undef, undef, undef, undef, undef, undef], nm h⟩ (retK Tryd.f67 Tryd.prog h) :=
  (evC_call 67 Tryd.f67 c67_0 Tryd.func67 (by kernel_rfl) #[Aa] h).trans (by kernel_rfl)
theorem ret67 (h0 h : Heap) : retK Tryd.f67 Tryd.prog h0 .ret ⟨#[Aa,Ab,Ac,Ad,Ae,Af,Ag], h⟩ = fin h0 (some Ac) h := by kernel_rfl
end Go.Am
namespace Go.Am
open Go.Proofs
set_option maxRecDepth 100000
variable (Aa Ab Ac Ad Ae Af Ag Ah Ai Aj Ak Al An Ao Ap Aq Ar As Au Av Aw Ax Ay Az Ba Bb Bc Bd Be Bf Bg Bh Bi Bj : Value)
noncomputable def c68_0 : Code := bodyC Tryd.f68 []
theorem c68_0_eq {β : Type} (h : Heap) (k : Ex → St → Option β) : codeK Tryd.prog (evC Tryd.prog) loopL c68_0 ⟨#[Aa,Ab,Ac,Ad,Ae,Af,Ag,Ah,Ai,Aj,Ak,Al,An,Ao,Ap,Aq,Ar,As,Au,Av,Aw,Ax,Ay,Az,Ba,Bb,Bc,Bd,Be,Bf,Bg,Bh,Bi,Bj], h⟩ k =
(nilCheckV Tryd.prog Aa).bind fun t9_0 =>
(fieldAddrV Tryd.prog 150 t9_0 0).bind fun t10_1 =>
(loadV Tryd.prog 40 t10_1 h).bind fun t11_2 =>
obH (evC Tryd.prog 84 #[t11_2] h) fun t12_3 h4 =>
(extractV t12_3 0).bind fun t13_5 =>
(extractV t12_3 1).bind fun t14_6 =>
(binV Tryd.prog .eql 3 (.tmp 16) (.const (Go.Value.int Go.IntKind.i64 0)) t14_6 (Go.Value.int Go.IntKind.i64 0)).bind fun t17_7 =>
(gd (wt t17_7 false) (binV Tryd.prog .gtr 23 (.tmp 19) (.tmp 20) (gdV (wt t17_7 false) t13_5) (gdV (wt t17_7 false) Ab))).bind fun t21_8 =>
(pickV t17_7 (Go.Value.bool Bool.true) t21_8).bind fun t22_9 =>
obH (evC Tryd.prog 85 #[Aa, t22_9] h4) fun t23_10 h11 =>
cnd t23_10 (
k .ret ⟨#[Aa,Ab,Ac,Ad, (Go.Value.int Go.IntKind.u64 0), t13_5, t14_6, t12_3,Aa, t9_0, t10_1, t11_2, t12_3, t13_5, t14_6,Aa, t14_6, t17_7, t17_7, (gdV (wt t17_7 false) t13_5), (gdV (wt t17_7 false) Ab), t21_8, t22_9, t23_10,Ba,Bb,Bc,Bd,Be,Bf,Bg,Bh,Bi,Bj], h11⟩) (
(nilCheckV Tryd.prog Aa).bind fun t26_12 =>
(fieldAddrV Tryd.prog 150 t26_12 0).bind fun t27_13 =>
(loadV Tryd.prog 40 t27_13 h11).bind fun t28_14 =>
(sliceV Tryd.prog 40 t28_14 (some t14_6) none none h11).bind fun t30_15 =>
(nilCheckV Tryd.prog Aa).bind fun t31_16 =>
(fieldAddrV Tryd.prog 150 t31_16 0).bind fun t32_17 =>
(storeV Tryd.prog 40 t32_17 t30_15 h11).bind fun h18 =>
k .ret ⟨#[Aa,Ab,Ac,Ad, t13_5, t13_5, t14_6, t12_3,Aa, t9_0, t10_1, t11_2, t12_3, t13_5, t14_6,Aa, t14_6, t17_7, t17_7, (gdV (wt t17_7 false) t13_5), (gdV (wt t17_7 false) Ab), t21_8, t22_9, t23_10,Aa,Aa, t26_12, t27_13, t28_14, t14_6, t30_15, t31_16, t32_17, t13_5], h18⟩) := by kernel_rfl
theorem call68 (h : Heap) : evC Tryd.prog 68 #[Aa,Ab] h = codeK Tryd.prog (evC Tryd.prog) loopL c68_0 ⟨#[Aa,Ab, undef, undef, undef, undef, undef, undef, undef, undef, undef, undef, undef, undef, undef, undef, undef, undef, undef, undef, undef, undef, undef, undef, undef, undef, undef, undef, undef, undef, undef, undef, undef, undef], nm h⟩ (retK Tryd.f68 Tryd.prog h) :=
  (evC_call 68 Tryd.f68 c68_0 Tryd.func68 (by kernel_rfl) #[Aa,Ab] h).trans (by kernel_rfl)
theorem ret68 (h0 h : Heap) : retK Tryd.f68 Tryd.prog h0 .ret ⟨#[Aa,Ab,Ac,Ad,Ae,Af,Ag,Ah,Ai,Aj,Ak,Al,An,Ao,Ap,Aq,Ar,As,Au,Av,Aw,Ax,Ay,Az,Ba,Bb,Bc,Bd,Be,Bf,Bg,Bh,Bi,Bj], h⟩ = fin h0 (some Ae) h := by kernel_rfl
end Go.Am
namespace Go.Am
open Go.Proofs
set_option maxRecDepth 100000
variable (Aa Ab Ac Ad Ae Af Ag Ah Ai Aj Ak Al An Ao Ap Aq : Value)
noncomputable def c69_0 : Code := bodyC Tryd.f69 []
theorem c69_0_eq {β : Type} (h : Heap) (k : Ex → St → Option β) : codeK Tryd.prog (evC Tryd.prog) loopL c69_0 ⟨#[Aa,Ab,Ac,Ad,Ae,Af,Ag,Ah,Ai,Aj,Ak,Al,An,Ao,Ap,Aq], h⟩ k =
(nilCheckV Tryd.prog Aa).bind fun t4_0 =>
(fieldAddrV Tryd.prog 150 t4_0 1).bind fun t5_1 =>
(loadV Tryd.prog 4 t5_1 h).bind fun t6_2 =>
(unV Tryd.prog .not t6_2).bind fun t7_3 =>
(gd (wt t7_3 true) (nilCheckV Tryd.prog (gdV (wt t7_3 true) Aa))).bind fun t10_4 =>
(gd (wt t7_3 true) (fieldAddrV Tryd.prog 150 t10_4 0)).bind fun t11_5 =>
(gd (wt t7_3 true) (loadV Tryd.prog 40 t11_5 h)).bind fun t12_6 =>
(gd (wt t7_3 true) (lenV Tryd.prog 40 t12_6 h)).bind fun t13_7 =>
(gd (wt t7_3 true) (binV Tryd.prog .eql 3 (.tmp 13) (.const (Go.Value.int Go.IntKind.i64 0)) t13_7 (Go.Value.int Go.IntKind.i64 0))).bind fun t14_8 =>
(pickV t7_3 t14_8 (Go.Value.bool Bool.false)).bind fun t15_9 =>
k .ret ⟨#[Aa,Ab, t15_9,Aa, t4_0, t5_1, t6_2, t7_3, t7_3, (gdV (wt t7_3 true) Aa), t10_4, t11_5, t12_6, t13_7, t14_8, t15_9], h⟩ := by kernel_rfl
theorem call69 (h : Heap) : evC Tryd.prog 69 #[Aa] h = codeK Tryd.prog (evC Tryd.prog) loopL c69_0 ⟨#[Aa, undef, undef, undef, undef, undef, undef, undef, undef, undef, undef, undef, undef, undef, undef, undef], nm h⟩ (retK Tryd.f69 Tryd.prog h) :=
  (evC_call 69 Tryd.f69 c69_0 Tryd.func69 (by kernel_rfl) #[Aa] h).trans (by kernel_rfl)
theorem ret69 (h0 h : Heap) : retK Tryd.f69 Tryd.prog h0 .ret ⟨#[Aa,Ab,Ac,Ad,Ae,Af,Ag,Ah,Ai,Aj,Ak,Al,An,Ao,Ap,Aq], h⟩ = fin h0 (some Ac) h := by kernel_rfl
end Go.Am
namespace Go.Am
open Go.Proofs
set_option maxRecDepth 100000
variable (Aa Ab Ac Ad Ae Af Ag Ah Ai Aj Ak Al An Ao Ap Aq : Value)
noncomputable def c85_0 : Code := bodyC Tryd.f85 []
noncomputable def c85_1 : Code := bodyC Tryd.f85 [true, true]
theorem c85_0_eq {β : Type} (h : Heap) (k : Ex → St → Option β) : codeK Tryd.prog (evC Tryd.prog) loopL c85_0 ⟨#[Aa,Ab,Ac,Ad,Ae,Af,Ag,Ah,Ai,Aj,Ak,Al,An,Ao,Ap,Aq], h⟩ k =
cnd Ab (
(nilCheckV Tryd.prog Aa).bind fun t8_0 =>
(fieldAddrV Tryd.prog 150 t8_0 0).bind fun t9_1 =>
(storeV Tryd.prog 40 t9_1 (Go.Value.slice Option.none 0 0) h).bind fun h2 =>
(nilCheckV Tryd.prog Aa).bind fun t10_3 =>
(fieldAddrV Tryd.prog 150 t10_3 1).bind fun t11_4 =>
(storeV Tryd.prog 4 t11_4 (Go.Value.bool Bool.true) h2).bind fun h5 =>
codeK Tryd.prog (evC Tryd.prog) loopL c85_1 ⟨#[Aa,Ab,Ac,Ad, (Go.Value.bool Bool.false),Ab,Aa,Aa, t8_0, t9_1, t10_3, t11_4,An,Ao,Ap,Aq], h5⟩ k) (
codeK Tryd.prog (evC Tryd.prog) loopL c85_1 ⟨#[Aa,Ab,Ac,Ad, (Go.Value.bool Bool.false),Ab,Ag,Ah,Ai,Aj,Ak,Al,An,Ao,Ap,Aq], h⟩ k) := by kernel_rfl
theorem c85_1_eq {β : Type} (h : Heap) (k : Ex → St → Option β) : codeK Tryd.prog (evC Tryd.prog) loopL c85_1 ⟨#[Aa,Ab,Ac,Ad,Ae,Af,Ag,Ah,Ai,Aj,Ak,Al,An,Ao,Ap,Aq], h⟩ k =
(nilCheckV Tryd.prog Aa).bind fun t13_6 =>
(fieldAddrV Tryd.prog 150 t13_6 1).bind fun t14_7 =>
(loadV Tryd.prog 4 t14_7 h).bind fun t15_8 =>
k .ret ⟨#[Aa,Ab,Ac,Ad, t15_8,Af,Ag,Ah,Ai,Aj,Ak,Al,Aa, t13_6, t14_7, t15_8], h⟩ := by kernel_rfl
theorem call85 (h : Heap) : evC Tryd.prog 85 #[Aa,Ab] h = codeK Tryd.prog (evC Tryd.prog) loopL c85_0 ⟨#[Aa,Ab, undef, undef, undef, undef, undef, undef, undef, undef, undef, undef, undef, undef, undef, undef], nm h⟩ (retK Tryd.f85 Tryd.prog h) :=
  (evC_call 85 Tryd.f85 c85_0 Tryd.func85 (by kernel_rfl) #[Aa,Ab] h).trans (by kernel_rfl)
theorem ret85 (h0 h : Heap) : retK Tryd.f85 Tryd.prog h0 .ret ⟨#[Aa,Ab,Ac,Ad,Ae,Af,Ag,Ah,Ai,Aj,Ak,Al,An,Ao,Ap,Aq], h⟩ = fin h0 (some Ae) h := by kernel_rfl
end Go.Am
namespace Go.Am
open Go.Proofs
set_option maxRecDepth 100000
variable (Aa Ab Ac Ad Ae Af Ag Ah Ai Aj Ak Al An Ao Ap Aq Ar As Au Av Aw Ax Ay Az Ba Bb Bc Bd Be Bf Bg Bh Bi Bj Bk : Value)
noncomputable def c70_0 : Code := bodyC Tryd.f70 []
theorem c70_0_eq {β : Type} (h : Heap) (k : Ex → St → Option β) : codeK Tryd.prog (evC Tryd.prog) loopL c70_0 ⟨#[Aa,Ab,Ac,Ad,Ae,Af,Ag,Ah,Ai,Aj,Ak,Al,An,Ao,Ap,Aq,Ar,As,Au,Av,Aw,Ax,Ay,Az,Ba,Bb,Bc,Bd,Be,Bf,Bg,Bh,Bi,Bj,Bk], h⟩ k =
(nilCheckV Tryd.prog Aa).bind fun t9_0 =>
(fieldAddrV Tryd.prog 150 t9_0 0).bind fun t10_1 =>
(loadV Tryd.prog 40 t10_1 h).bind fun t11_2 =>
obH (evC Tryd.prog 84 #[t11_2] h) fun t12_3 h4 =>
(extractV t12_3 0).bind fun t13_5 =>
(extractV t12_3 1).bind fun t14_6 =>
(binV Tryd.prog .eql 3 (.tmp 16) (.const (Go.Value.int Go.IntKind.i64 0)) t14_6 (Go.Value.int Go.IntKind.i64 0)).bind fun t17_7 =>
obH (gdH (wt t17_7 false) h4 (evC Tryd.prog 74 #[(gdV (wt t17_7 false) t13_5), (gdV (wt t17_7 false) Ab)] h4)) fun t21_8 h9 =>
(gd (wt t17_7 false) (unV Tryd.prog .not t21_8)).bind fun t22_10 =>
(pickV t17_7 (Go.Value.bool Bool.true) t22_10).bind fun t23_11 =>
obH (evC Tryd.prog 85 #[Aa, t23_11] h9) fun t24_12 h13 =>
cnd t24_12 (
k .ret ⟨#[Aa,Ab,Ac,Ad, (Go.Value.int Go.IntKind.u64 0), t13_5, t14_6, t12_3,Aa, t9_0, t10_1, t11_2, t12_3, t13_5, t14_6,Aa, t14_6, t17_7, t17_7, (gdV (wt t17_7 false) t13_5), (gdV (wt t17_7 false) Ab), t21_8, t22_10, t23_11, t24_12,Bb,Bc,Bd,Be,Bf,Bg,Bh,Bi,Bj,Bk], h13⟩) (
(nilCheckV Tryd.prog Aa).bind fun t27_14 =>
(fieldAddrV Tryd.prog 150 t27_14 0).bind fun t28_15 =>
(loadV Tryd.prog 40 t28_15 h13).bind fun t29_16 =>
(sliceV Tryd.prog 40 t29_16 (some t14_6) none none h13).bind fun t31_17 =>
(nilCheckV Tryd.prog Aa).bind fun t32_18 =>
(fieldAddrV Tryd.prog 150 t32_18 0).bind fun t33_19 =>
(storeV Tryd.prog 40 t33_19 t31_17 h13).bind fun h20 =>
k .ret ⟨#[Aa,Ab,Ac,Ad, t13_5, t13_5, t14_6, t12_3,Aa, t9_0, t10_1, t11_2, t12_3, t13_5, t14_6,Aa, t14_6, t17_7, t17_7, (gdV (wt t17_7 false) t13_5), (gdV (wt t17_7 false) Ab), t21_8, t22_10, t23_11, t24_12,Aa,Aa, t27_14, t28_15, t29_16, t14_6, t31_17, t32_18, t33_19, t13_5], h20⟩) := by kernel_rfl
theorem call70 (h : Heap) : evC Tryd.prog 70 #[Aa,Ab] h = codeK Tryd.prog (evC Tryd.prog) loopL c70_0 ⟨#[Aa,Ab, undef, undef, undef, undef, undef, undef, undef, undef, undef, undef, undef, undef, undef, undef, undef, undef, undef, undef, undef, undef, undef, undef, undef, undef, undef, undef, undef, undef, undef, undef, undef, undef, undef], nm h⟩ (retK Tryd.f70 Tryd.prog h) :=
  (evC_call 70 Tryd.f70 c70_0 Tryd.func70 (by kernel_rfl) #[Aa,Ab] h).trans (by kernel_rfl)
theorem ret70 (h0 h : Heap) : retK Tryd.f70 Tryd.prog h0 .ret ⟨#[Aa,Ab,Ac,Ad,Ae,Af,Ag,Ah,Ai,Aj,Ak,Al,An,Ao,Ap,Aq,Ar,As,Au,Av,Aw,Ax,Ay,Az,Ba,Bb,Bc,Bd,Be,Bf,Bg,Bh,Bi,Bj,Bk], h⟩ = fin h0 (some Ae) h := by kernel_rfl
end Go.Am
namespace Go.Am
open Go.Proofs
set_option maxRecDepth 100000
variable (Aa Ab Ac Ad Ae Af Ag : Value)
noncomputable def c58_0 : Code := bodyC Tryd.f58 []
theorem c58_0_eq {β : Type} (h : Heap) (k : Ex → St → Option β) : codeK Tryd.prog (evC Tryd.prog) loopL c58_0 ⟨#[Aa,Ab,Ac,Ad,Ae,Af,Ag], h⟩ k =
obH (evC Tryd.prog 57 #[Aa,Ab] h) fun t6_0 h1 =>
k .normal ⟨#[Aa,Ab,Ac,Ad,Aa,Ab, t6_0], h1⟩ := by kernel_rfl
theorem call58 (h : Heap) : evC Tryd.prog 58 #[Aa,Ab] h = codeK Tryd.prog (evC Tryd.prog) loopL c58_0 ⟨#[Aa,Ab, undef, undef, undef, undef, undef], nm h⟩ (retK Tryd.f58 Tryd.prog h) :=
  (evC_call 58 Tryd.f58 c58_0 Tryd.func58 (by kernel_rfl) #[Aa,Ab] h).trans (by kernel_rfl)
theorem retn58 (h0 h : Heap) : retK Tryd.f58 Tryd.prog h0 .normal ⟨#[Aa,Ab,Ac,Ad,Ae,Af,Ag], h⟩ = fin h0 (some (.tuple #[])) h := by kernel_rfl
end Go.Am
namespace Go.Am
open Go.Proofs
set_option maxRecDepth 100000
variable (Aa Ab Ac Ad Ae Af Ag Ah Ai : Value)
noncomputable def c74_0 : Code := bodyC Tryd.f74 []
theorem c74_0_eq {β : Type} (h : Heap) (k : Ex → St → Option β) : codeK Tryd.prog (evC Tryd.prog) loopL c74_0 ⟨#[Aa,Ab,Ac,Ad,Ae,Af,Ag,Ah,Ai], h⟩ k =
(binV Tryd.prog .andNot 38 (.tmp 5) (.tmp 6) Aa Ab).bind fun t7_0 =>
(binV Tryd.prog .eql 38 (.tmp 7) (.const (Go.Value.int Go.IntKind.u64 0)) t7_0 (Go.Value.int Go.IntKind.u64 0)).bind fun t8_1 =>
k .ret ⟨#[Aa,Ab,Ac,Ad, t8_1,Aa,Ab, t7_0, t8_1], h⟩ := by kernel_rfl
theorem call74 (h : Heap) : evC Tryd.prog 74 #[Aa,Ab] h = codeK Tryd.prog (evC Tryd.prog) loopL c74_0 ⟨#[Aa,Ab, undef, undef, undef, undef, undef, undef, undef], nm h⟩ (retK Tryd.f74 Tryd.prog h) :=
  (evC_call 74 Tryd.f74 c74_0 Tryd.func74 (by kernel_rfl) #[Aa,Ab] h).trans (by kernel_rfl)
theorem ret74 (h0 h : Heap) : retK Tryd.f74 Tryd.prog h0 .ret ⟨#[Aa,Ab,Ac,Ad,Ae,Af,Ag,Ah,Ai], h⟩ = fin h0 (some Ae) h := by kernel_rfl
end Go.Am
namespace Go.Am
open Go.Proofs
set_option maxRecDepth 100000
variable (Aa Ab Ac Ad Ae Af Ag Ah Ai : Value)
noncomputable def c35_0 : Code := bodyC Tryd.f35 []
theorem c35_0_eq {β : Type} (h : Heap) (k : Ex → St → Option β) : codeK Tryd.prog (evC Tryd.prog) loopL c35_0 ⟨#[Aa,Ab,Ac,Ad,Ae,Af,Ag,Ah,Ai], h⟩ k =
obH (builtinV Tryd.prog .max #[3, 3] #[Aa, (Go.Value.int Go.IntKind.i64 0)] h) fun t4_0 h1 =>
obH (builtinV Tryd.prog .min #[3, 3] #[t4_0, (Go.Value.int Go.IntKind.i64 64)] h1) fun t5_2 h3 =>
(binV Tryd.prog .shl 38 (.const (Go.Value.int Go.IntKind.u64 1)) (.tmp 6) (Go.Value.int Go.IntKind.u64 1) t5_2).bind fun t7_4 =>
(binV Tryd.prog .sub 38 (.tmp 7) (.const (Go.Value.int Go.IntKind.u64 1)) t7_4 (Go.Value.int Go.IntKind.u64 1)).bind fun t8_5 =>
k .ret ⟨#[t5_2,Ab, t8_5,Aa, t4_0, t5_2, t5_2, t7_4, t8_5], h3⟩ := by kernel_rfl
theorem call35 (h : Heap) : evC Tryd.prog 35 #[Aa] h = codeK Tryd.prog (evC Tryd.prog) loopL c35_0 ⟨#[Aa, undef, undef, undef, undef, undef, undef, undef, undef], nm h⟩ (retK Tryd.f35 Tryd.prog h) :=
  (evC_call 35 Tryd.f35 c35_0 Tryd.func35 (by kernel_rfl) #[Aa] h).trans (by kernel_rfl)
theorem ret35 (h0 h : Heap) : retK Tryd.f35 Tryd.prog h0 .ret ⟨#[Aa,Ab,Ac,Ad,Ae,Af,Ag,Ah,Ai], h⟩ = fin h0 (some Ac) h := by kernel_rfl
end Go.Am
namespace Go.Am
open Go.Proofs
set_option maxRecDepth 100000
variable (Aa Ab Ac Ad Ae Af Ag Ah Ai Aj Ak Al An Ao Ap Aq Ar As : Value)
noncomputable def c25_0 : Code := bodyC Tryd.f25 []
theorem c25_0_eq {β : Type} (h : Heap) (k : Ex → St → Option β) : codeK Tryd.prog (evC Tryd.prog) loopL c25_0 ⟨#[Aa,Ab,Ac,Ad,Ae,Af,Ag,Ah,Ai,Aj,Ak,Al,An,Ao,Ap,Aq,Ar,As], h⟩ k =
(binV Tryd.prog .geq 3 (.tmp 5) (.const (Go.Value.int Go.IntKind.i64 0)) Ab (Go.Value.int Go.IntKind.i64 0)).bind fun t6_0 =>
(gd (wt t6_0 true) (binV Tryd.prog .lss 3 (.tmp 8) (.const (Go.Value.int Go.IntKind.i64 64)) (gdV (wt t6_0 true) Ab) (Go.Value.int Go.IntKind.i64 64))).bind fun t9_1 =>
(pickV t6_0 t9_1 (Go.Value.bool Bool.false)).bind fun t10_2 =>
(gd (wt t10_2 true) (binV Tryd.prog .shr 38 (.tmp 12) (.tmp 13) (gdV (wt t10_2 true) Aa) (gdV (wt t10_2 true) Ab))).bind fun t14_3 =>
(gd (wt t10_2 true) (binV Tryd.prog .and 38 (.tmp 14) (.const (Go.Value.int Go.IntKind.u64 1)) t14_3 (Go.Value.int Go.IntKind.u64 1))).bind fun t15_4 =>
(gd (wt t10_2 true) (binV Tryd.prog .eql 38 (.tmp 15) (.const (Go.Value.int Go.IntKind.u64 1)) t15_4 (Go.Value.int Go.IntKind.u64 1))).bind fun t16_5 =>
(pickV t10_2 t16_5 (Go.Value.bool Bool.false)).bind fun t17_6 =>
k .ret ⟨#[Aa,Ab,Ac,Ad, t17_6,Ab, t6_0, t6_0, (gdV (wt t6_0 true) Ab), t9_1, t10_2, t10_2, (gdV (wt t10_2 true) Aa), (gdV (wt t10_2 true) Ab), t14_3, t15_4, t16_5, t17_6], h⟩ := by kernel_rfl
theorem call25 (h : Heap) : evC Tryd.prog 25 #[Aa,Ab] h = codeK Tryd.prog (evC Tryd.prog) loopL c25_0 ⟨#[Aa,Ab, undef, undef, undef, undef, undef, undef, undef, undef, undef, undef, undef, undef, undef, undef, undef, undef], nm h⟩ (retK Tryd.f25 Tryd.prog h) :=
  (evC_call 25 Tryd.f25 c25_0 Tryd.func25 (by kernel_rfl) #[Aa,Ab] h).trans (by kernel_rfl)
theorem ret25 (h0 h : Heap) : retK Tryd.f25 Tryd.prog h0 .ret ⟨#[Aa,Ab,Ac,Ad,Ae,Af,Ag,Ah,Ai,Aj,Ak,Al,An,Ao,Ap,Aq,Ar,As], h⟩ = fin h0 (some Ae) h := by kernel_rfl
end Go.Am
namespace Go.Am
open Go.Proofs
set_option maxRecDepth 100000
variable (Aa Ab Ac Ad Ae Af Ag Ah Ai Aj Ak Al An Ao Ap Aq Ar As Au : Value)
noncomputable def c50_0 : Code := bodyC Tryd.f50 []
theorem c50_0_eq {β : Type} (h : Heap) (k : Ex → St → Option β) : codeK Tryd.prog (evC Tryd.prog) loopL c50_0 ⟨#[Aa,Ab,Ac,Ad,Ae,Af,Ag,Ah,Ai,Aj,Ak,Al,An,Ao,Ap,Aq,Ar,As,Au], h⟩ k =
(binV Tryd.prog .geq 3 (.tmp 5) (.const (Go.Value.int Go.IntKind.i64 0)) Ab (Go.Value.int Go.IntKind.i64 0)).bind fun t6_0 =>
(gd (wt t6_0 true) (binV Tryd.prog .leq 3 (.tmp 8) (.const (Go.Value.int Go.IntKind.i64 63)) (gdV (wt t6_0 true) Ab) (Go.Value.int Go.IntKind.i64 63))).bind fun t9_1 =>
(pickV t6_0 t9_1 (Go.Value.bool Bool.false)).bind fun t10_2 =>
obH (gdH (wt t10_2 true) h (convV Tryd.prog 3 57 (gdV (wt t10_2 true) Ab) h)) fun t14_3 h4 =>
(gd (wt t10_2 true) (binV Tryd.prog .shr 23 (.tmp 12) (.tmp 14) (gdV (wt t10_2 true) Aa) t14_3)).bind fun t15_5 =>
(gd (wt t10_2 true) (binV Tryd.prog .and 23 (.tmp 15) (.const (Go.Value.int Go.IntKind.u64 1)) t15_5 (Go.Value.int Go.IntKind.u64 1))).bind fun t16_6 =>
(gd (wt t10_2 true) (binV Tryd.prog .eql 23 (.tmp 16) (.const (Go.Value.int Go.IntKind.u64 1)) t16_6 (Go.Value.int Go.IntKind.u64 1))).bind fun t17_7 =>
(pickV t10_2 t17_7 (Go.Value.bool Bool.false)).bind fun t18_8 =>
k .ret ⟨#[Aa,Ab,Ac,Ad, t18_8,Ab, t6_0, t6_0, (gdV (wt t6_0 true) Ab), t9_1, t10_2, t10_2, (gdV (wt t10_2 true) Aa), (gdV (wt t10_2 true) Ab), t14_3, t15_5, t16_6, t17_7, t18_8], h4⟩ := by kernel_rfl
theorem call50 (h : Heap) : evC Tryd.prog 50 #[Aa,Ab] h = codeK Tryd.prog (evC Tryd.prog) loopL c50_0 ⟨#[Aa,Ab, undef, undef, undef, undef, undef, undef, undef, undef, undef, undef, undef, undef, undef, undef, undef, undef, undef], nm h⟩ (retK Tryd.f50 Tryd.prog h) :=
  (evC_call 50 Tryd.f50 c50_0 Tryd.func50 (by kernel_rfl) #[Aa,Ab] h).trans (by kernel_rfl)
theorem ret50 (h0 h : Heap) : retK Tryd.f50 Tryd.prog h0 .ret ⟨#[Aa,Ab,Ac,Ad,Ae,Af,Ag,Ah,Ai,Aj,Ak,Al,An,Ao,Ap,Aq,Ar,As,Au], h⟩ = fin h0 (some Ae) h := by kernel_rfl
end Go.Am
namespace Go.Am
open Go.Proofs
set_option maxRecDepth 100000
variable {β : Type} (x : Nat → Value) (h : Heap) (k : Ex → St → Option β) (r m : List Nat) (g : Heap)
noncomputable def c54_0 : Code := bodyC Tryd.f54 []
noncomputable def c54_1 : Code := bodyC Tryd.f54 [false]
noncomputable def c54_2 : Code := bodyC Tryd.f54 [true]
noncomputable def d54_0 : Array Oper := opsC (bodyC Tryd.f54 [true, false])
noncomputable def c54_3 : Code := bodyC Tryd.f54 [true, false]
noncomputable def c54_4 : Code := bodyC Tryd.f54 [true, true]
theorem c54_0_eq : cK c54_0 22 x h k =
cK c54_1 22 x h (sK c54_2 k) := codeK_seq _ _ _ _ _ (by kernel_rfl) _ _
theorem c54_1_eq : cK c54_1 22 x h k =
obH (boxV Tryd.prog 68 (x 0) h) fun v0 h1 =>
k .normal ⟨ar 22 (up x [(1,v0),(2,(.bool false))]), h1⟩ := by kernel_rfl
theorem c54_2_eq : cK c54_2 22 x h k =
cK c54_3 22 x h (sK c54_4 k) := codeK_seq _ _ _ _ _ (by kernel_rfl) _ _
theorem d54_0_0 (k : St → Option β) : rD d54_0 0 22 x h r m k =
(fa 68 (x 1) 0).bind fun v2 =>
rD d54_0 1 22 (up x [(3,v2)]) h r m k := (regD_step _ _ d54_0 0 (by kernel_rfl) _ _ _ _).trans (by kernel_rfl)
theorem d54_0_1 (k : St → Option β) : rD d54_0 1 22 x h r m k =
(ld 3 (x 3) h).bind fun v3 =>
rD d54_0 2 22 (up x [(4,v3)]) h r m k := (regD_step _ _ d54_0 1 (by kernel_rfl) _ _ _ _).trans (by kernel_rfl)
theorem d54_0_2 (k : St → Option β) : rD d54_0 2 22 x h r m k =
(bn .geq 3 (x 4) (.int .i64 0)).bind fun v4 =>
rD d54_0 3 22 (up x [(5,v4)]) h r m k := (regD_step _ _ d54_0 2 (by kernel_rfl) _ _ _ _).trans (by kernel_rfl)
theorem d54_0_3 (k : St → Option β) : rD d54_0 3 22 x h r m k =
rD d54_0 4 22 (up x [(6,(x 5))]) h r m k := regD_move _ _ d54_0 3 (by kernel_rfl) (by kernel_rfl) (by kernel_rfl) _ _ _ _ _ _ (by kernel_rfl) (by kernel_rfl)
theorem d54_0_4 (k : St → Option β) : rD d54_0 4 22 x h r m k =
(gd (wt (x 6) true) (fa 68 (x 1) 0)).bind fun v5 =>
rD d54_0 5 22 (up x [(7,v5)]) h r m k := (regD_step _ _ d54_0 4 (by kernel_rfl) _ _ _ _).trans (by kernel_rfl)
theorem d54_0_5 (k : St → Option β) : rD d54_0 5 22 x h r m k =
(gd (wt (x 6) true) (ld 3 (x 7) h)).bind fun v6 =>
rD d54_0 6 22 (up x [(8,v6)]) h r m k := (regD_step _ _ d54_0 5 (by kernel_rfl) _ _ _ _).trans (by kernel_rfl)
theorem d54_0_6 (k : St → Option β) : rD d54_0 6 22 x h r m k =
(gd (wt (x 6) true) (bn .lss 3 (x 8) (.int .i64 16))).bind fun v7 =>
rD d54_0 7 22 (up x [(9,v7)]) h r m k := (regD_step _ _ d54_0 6 (by kernel_rfl) _ _ _ _).trans (by kernel_rfl)
theorem d54_0_7 (k : St → Option β) : rD d54_0 7 22 x h r m k =
(pickV (x 6) (x 9) (.bool false)).bind fun v8 =>
rD d54_0 8 22 (up x [(10,v8)]) h r m k := (regD_step _ _ d54_0 7 (by kernel_rfl) _ _ _ _).trans (by kernel_rfl)
theorem d54_0_8 (k : St → Option β) : rD d54_0 8 22 x h r m k =
rD d54_0 9 22 (up x [(11,(x 10))]) h r m k := regD_move _ _ d54_0 8 (by kernel_rfl) (by kernel_rfl) (by kernel_rfl) _ _ _ _ _ _ (by kernel_rfl) (by kernel_rfl)
theorem d54_0_9 (k : St → Option β) : rD d54_0 9 22 x h r m k =
(gd (wt (x 11) true) (fa 68 (x 1) 1)).bind fun v9 =>
rD d54_0 10 22 (up x [(12,v9)]) h r m k := (regD_step _ _ d54_0 9 (by kernel_rfl) _ _ _ _).trans (by kernel_rfl)
theorem d54_0_10 (k : St → Option β) : rD d54_0 10 22 x h r m k =
(gd (wt (x 11) true) (ld 23 (x 12) h)).bind fun v10 =>
rD d54_0 11 22 (up x [(13,v10)]) h r m k := (regD_step _ _ d54_0 10 (by kernel_rfl) _ _ _ _).trans (by kernel_rfl)
theorem d54_0_11 (k : St → Option β) : rD d54_0 11 22 x h r m k =
(gd (wt (x 11) true) (bn .gtr 23 (x 13) (.int .u64 0))).bind fun v11 =>
rD d54_0 12 22 (up x [(14,v11)]) h r m k := (regD_step _ _ d54_0 11 (by kernel_rfl) _ _ _ _).trans (by kernel_rfl)
theorem d54_0_12 (k : St → Option β) : rD d54_0 12 22 x h r m k =
(pickV (x 11) (x 14) (.bool false)).bind fun v12 =>
rD d54_0 13 22 (up x [(15,v12)]) h r m k := (regD_step _ _ d54_0 12 (by kernel_rfl) _ _ _ _).trans (by kernel_rfl)
theorem d54_0_13 (k : St → Option β) : rD d54_0 13 22 x h r m k =
rD d54_0 14 22 (up x [(16,(x 15))]) h r m k := regD_move _ _ d54_0 13 (by kernel_rfl) (by kernel_rfl) (by kernel_rfl) _ _ _ _ _ _ (by kernel_rfl) (by kernel_rfl)
theorem d54_0_14 (k : St → Option β) : rD d54_0 14 22 x h r m k =
(gd (wt (x 16) true) (fa 68 (x 1) 2)).bind fun v13 =>
rD d54_0 15 22 (up x [(17,v13)]) h r m k := (regD_step _ _ d54_0 14 (by kernel_rfl) _ _ _ _).trans (by kernel_rfl)
theorem d54_0_15 (k : St → Option β) : rD d54_0 15 22 x h r m k =
(gd (wt (x 16) true) (ld 38 (x 17) h)).bind fun v14 =>
rD d54_0 16 22 (up x [(18,v14)]) h (rdL (wt (x 16) true) (rb (x 17)) ++ r) m k := (regD_step _ _ d54_0 15 (by kernel_rfl) _ _ _ _).trans (by kernel_rfl)
theorem d54_0_16 (k : St → Option β) : rD d54_0 16 22 x h r m k =
obH (gdH (wt (x 16) true) (nm h) (ev 35 #[(.int .i64 16)] (nm h))) fun v15 h16 =>
rD d54_0 17 22 (up x [(19,v15)]) (am h16 h) r (h16.mods ++ m) k := (regD_step _ _ d54_0 16 (by kernel_rfl) _ _ _ _).trans (by kernel_rfl)
theorem d54_0_17 (k : St → Option β) : rD d54_0 17 22 x h r m k =
obH (gdH (wt (x 16) true) h (ev 74 #[x 18,x 19] h)) fun v17 h18 =>
rD d54_0 18 22 (up x [(20,v17)]) h18 r m k := (regD_step _ _ d54_0 17 (by kernel_rfl) _ _ _ _).trans (by kernel_rfl)
theorem d54_0_18 (k : St → Option β) : rD d54_0 18 22 x h r m k =
(pickV (x 16) (x 20) (.bool false)).bind fun v19 =>
rD d54_0 19 22 (up x [(21,v19)]) h r m k := (regD_step _ _ d54_0 18 (by kernel_rfl) _ _ _ _).trans (by kernel_rfl)
theorem d54_0_19 (k : St → Option β) : rD d54_0 19 22 x h r m k =
rD d54_0 20 22 (up x [(2,(x 21))]) h r m k := regD_move _ _ d54_0 19 (by kernel_rfl) (by kernel_rfl) (by kernel_rfl) _ _ _ _ _ _ (by kernel_rfl) (by kernel_rfl)
theorem d54_0_20 (k : St → Option β) : rD d54_0 20 22 x h r m k =
chk r m (k ⟨ar 22 x, h⟩) := by kernel_rfl
theorem c54_3_eq : cK c54_3 22 x h k =
rD d54_0 0 22 x h [] [] (fun s => k .normal s) := by kernel_rfl
theorem c54_4_eq : cK c54_4 22 x h k =
k .ret ⟨ar 22 x, h⟩ := by kernel_rfl
theorem call54 (a0 : Value) : evC Tryd.prog 54 #[a0] h = cK c54_0 22 (up un [(0,a0)]) (nm h) (retK Tryd.f54 Tryd.prog h) :=
  (evC_call 54 Tryd.f54 c54_0 Tryd.func54 (by kernel_rfl) #[a0] h).trans (by kernel_rfl)
theorem ret54 : retK Tryd.f54 Tryd.prog g .ret ⟨ar 22 x, h⟩ = fin g (some (x 2)) h := by kernel_rfl
end Go.Am
namespace Go.Am
open Go.Proofs
set_option maxRecDepth 100000
variable {β : Type} (x : Nat → Value) (h : Heap) (k : Ex → St → Option β) (r m : List Nat) (g : Heap)
noncomputable def c31_0 : Code := bodyC Tryd.f31 []
noncomputable def c31_1 : Code := bodyC Tryd.f31 [true, false, true, false, false]
noncomputable def c31_2 : Code := bodyC Tryd.f31 [true, true]
theorem c31_0_eq : cK c31_0 32 x h k =
obH (boxV Tryd.prog 65 (x 0) h) fun v0 h1 =>
(fa 65 v0 0).bind fun v2 =>
(ld 63 v2 h1).bind fun v3 =>
(ln 63 v3 h1).bind fun v4 =>
lK c31_1 32 (up x [(1,v0),(2,(.bool false)),(5,v2),(6,v3),(7,v4),(8,(.int .i64 0))]) h1 (blockK 0 (sK c31_2 k)) := by kernel_rfl
theorem c31_1_eq : cK c31_1 32 x h k =
(bn .lss 3 (x 8) (x 7)).bind fun v5 =>
cnd v5 (
(ia 63 (x 6) (x 8)).bind fun v6 =>
(ld 68 v6 h).bind fun v7 =>
obH (allocV Tryd.prog 68 h) fun v8 h9 =>
(sto 68 v8 v7 h9).bind fun h10 =>
(ld 68 v8 h10).bind fun v11 =>
obH (ev 54 #[v11] h10) fun v12 h13 =>
(unV Tryd.prog .not v12).bind fun v14 =>
(gd (wt v14 false) (bn .gtr 3 (gdV (wt v14 false) (x 8)) (.int .i64 0))).bind fun v15 =>
(gd (wt (gdV (wt v14 false) v15) true) (fa 65 (x 1) 0)).bind fun v16 =>
(gd (wt (gdV (wt v14 false) v15) true) (ld 63 v16 h13)).bind fun v17 =>
(gd (wt (gdV (wt v14 false) v15) true) (bn .sub 3 (gdV (wt (gdV (wt v14 false) v15) true) (x 8)) (.int .i64 1))).bind fun v18 =>
(gd (wt (gdV (wt v14 false) v15) true) (ia 63 v17 v18)).bind fun v19 =>
(gd (wt (gdV (wt v14 false) v15) true) (ld 68 v19 h13)).bind fun v20 =>
(gd (wt (gdV (wt v14 false) v15) true) (ld 68 v8 h13)).bind fun v21 =>
obH (gdH (wt (gdV (wt v14 false) v15) true) h13 (ev 55 #[v20,v21] h13)) fun v22 h23 =>
(gd (wt (gdV (wt v14 false) v15) true) (bn .geq 3 v22 (.int .i64 0))).bind fun v24 =>
(gd (wt v14 false) (pickV (gdV (wt v14 false) v15) v24 (.bool false))).bind fun v25 =>
(pickV v14 (.bool true) v25).bind fun v26 =>
cnd v26 (
k .ret ⟨ar 32 (up x [(2,(.bool false)),(3,(x 8)),(4,v8),(9,v5),(10,(x 8)),(11,v6),(12,v7),(13,v11),(14,v12),(15,v14),(16,v14),(17,(gdV (wt v14 false) (x 8))),(18,v15),(19,(gdV (wt v14 false) v15)),(20,v16),(21,v17),(22,(gdV (wt (gdV (wt v14 false) v15) true) (x 8))),(23,v18),(24,v19),(25,v20),(26,v21),(27,v22),(28,v24),(29,v25),(30,v26)]), h23⟩) (
(bn .add 3 (x 8) (.int .i64 1)).bind fun v27 =>
k .normal ⟨ar 32 (up x [(3,(x 8)),(4,v8),(8,v27),(9,v5),(10,(x 8)),(11,v6),(12,v7),(13,v11),(14,v12),(15,v14),(16,v14),(17,(gdV (wt v14 false) (x 8))),(18,v15),(19,(gdV (wt v14 false) v15)),(20,v16),(21,v17),(22,(gdV (wt (gdV (wt v14 false) v15) true) (x 8))),(23,v18),(24,v19),(25,v20),(26,v21),(27,v22),(28,v24),(29,v25),(30,v26),(31,v27)]), h23⟩)) (
k (.exit 0) ⟨ar 32 (up x [(9,v5)]), h⟩) := by kernel_rfl
theorem c31_2_eq : cK c31_2 32 x h k =
k .ret ⟨ar 32 (up x [(2,(.bool true))]), h⟩ := by kernel_rfl
theorem call31 (a0 : Value) : evC Tryd.prog 31 #[a0] h = cK c31_0 32 (up un [(0,a0)]) (nm h) (retK Tryd.f31 Tryd.prog h) :=
  (evC_call 31 Tryd.f31 c31_0 Tryd.func31 (by kernel_rfl) #[a0] h).trans (by kernel_rfl)
theorem ret31 : retK Tryd.f31 Tryd.prog g .ret ⟨ar 32 x, h⟩ = fin g (some (x 2)) h := by kernel_rfl
end Go.Am
namespace Go.Am
open Go.Proofs
set_option maxRecDepth 100000
variable {β : Type} (x : Nat → Value) (h : Heap) (k : Ex → St → Option β) (r m : List Nat) (g : Heap)
noncomputable def c61_0 : Code := bodyC Tryd.f61 []
theorem c61_0_eq : cK c61_0 7 x h k =
obH (boxV Tryd.prog 65 (x 0) h) fun v0 h1 =>
obH (allocV Tryd.prog 65 h1) fun v2 h3 =>
(fa 65 v0 0).bind fun v4 =>
(ld 63 v4 h3).bind fun v5 =>
obH (ev 52 #[v5] h3) fun v6 h7 =>
(buildV Tryd.prog 65 #[(0, v6)]).bind fun v8 =>
(sto 65 v2 v8 h7).bind fun h9 =>
k .ret ⟨ar 7 (up x [(1,v0),(2,v2),(3,v4),(4,v5),(5,v6),(6,v8)]), h9⟩ := by kernel_rfl
theorem call61 (a0 : Value) : evC Tryd.prog 61 #[a0] h = cK c61_0 7 (up un [(0,a0)]) (nm h) (retK Tryd.f61 Tryd.prog h) :=
  (evC_call 61 Tryd.f61 c61_0 Tryd.func61 (by kernel_rfl) #[a0] h).trans (by kernel_rfl)
theorem ret61 : retK Tryd.f61 Tryd.prog g .ret ⟨ar 7 x, h⟩ = fin g (rvals ((ld 65 (x 2) h).bind fun r0 => some [r0])) h := by kernel_rfl
end Go.Am
namespace Go.Am
open Go.Proofs
set_option maxRecDepth 100000
variable {β : Type} (x : Nat → Value) (h : Heap) (k : Ex → St → Option β) (r m : List Nat) (g : Heap)
noncomputable def c52_0 : Code := bodyC Tryd.f52 []
theorem c52_0_eq : cK c52_0 8 x h k =
(bn .eql 63 (x 0) (.slice Option.none 0 0)).bind fun v0 =>
cnd v0 (
k .ret ⟨ar 8 (up x [(2,(.slice Option.none 0 0)),(3,(x 0)),(4,v0)]), h⟩) (
obH (buildSliceV Tryd.prog 63 0 #[] h) fun v1 h2 =>
obH (ap 63 (some 63) v1 (x 0) h2) fun v3 h4 =>
k .ret ⟨ar 8 (up x [(2,v3),(3,(x 0)),(4,v0),(5,v1),(6,(x 0)),(7,v3)]), h4⟩) := by kernel_rfl
theorem call52 (a0 : Value) : evC Tryd.prog 52 #[a0] h = cK c52_0 8 (up un [(0,a0)]) (nm h) (retK Tryd.f52 Tryd.prog h) :=
  (evC_call 52 Tryd.f52 c52_0 Tryd.func52 (by kernel_rfl) #[a0] h).trans (by kernel_rfl)
theorem ret52 : retK Tryd.f52 Tryd.prog g .ret ⟨ar 8 x, h⟩ = fin g (some (x 2)) h := by kernel_rfl
end Go.Am
namespace Go.Am
open Go.Proofs
set_option maxRecDepth 100000
variable {β : Type} (x : Nat → Value) (h : Heap) (k : Ex → St → Option β) (r m : List Nat) (g : Heap)
noncomputable def c30_0 : Code := bodyC Tryd.f30 []
noncomputable def c30_1 : Code := bodyC Tryd.f30 [true, true, false, true, false, false]
noncomputable def c30_2 : Code := bodyC Tryd.f30 [true, true, true]
theorem c30_0_eq : cK c30_0 31 x h k =
lK c30_1 31 (up x [(2,(.slice Option.none 0 0)),(3,(.slice Option.none 0 0)),(4,(.int .i64 0))]) h (blockK 0 (sK c30_2 k)) := by kernel_rfl
theorem c30_1_eq : cK c30_1 31 x h k =
(ln 63 (x 0) h).bind fun v0 =>
(bn .lss 3 (x 4) v0).bind fun v1 =>
cnd v1 (
(ia 63 (x 0) (x 4)).bind fun v2 =>
(fa 68 v2 0).bind fun v3 =>
(ld 3 v3 h).bind fun v4 =>
(ia 63 (x 0) (x 4)).bind fun v5 =>
(fa 68 v5 1).bind fun v6 =>
(ld 23 v6 h).bind fun v7 =>
(ia 63 (x 0) (x 4)).bind fun v8 =>
(fa 68 v8 2).bind fun v9 =>
(ld 38 v9 h).bind fun v10 =>
(buildV Tryd.prog 79 #[(0, v4), (1, v7), (2, v10)]).bind fun v11 =>
obH (buildSliceV Tryd.prog 76 1 #[(0, v11)] h) fun v12 h13 =>
obH (ap 76 (some 76) (x 3) v12 h13) fun v14 h15 =>
(bn .add 3 (x 4) (.int .i64 1)).bind fun v16 =>
k .normal ⟨ar 31 (up x [(3,v14),(4,v16),(5,(x 4)),(6,(x 0)),(7,v0),(8,v1),(9,(x 4)),(10,v16),(11,(x 3)),(12,(x 0)),(13,(x 4)),(14,v2),(15,v3),(16,v4),(17,(x 0)),(18,(x 4)),(19,v5),(20,v6),(21,v7),(22,(x 0)),(23,(x 4)),(24,v8),(25,v9),(26,v10),(27,v11),(28,v12),(29,v14)]), h15⟩) (
k (.exit 0) ⟨ar 31 (up x [(5,(x 4)),(6,(x 0)),(7,v0),(8,v1)]), h⟩) := by kernel_rfl
theorem c30_2_eq : cK c30_2 31 x h k =
k .ret ⟨ar 31 (up x [(2,(x 3)),(30,(x 3))]), h⟩ := by kernel_rfl
theorem call30 (a0 : Value) : evC Tryd.prog 30 #[a0] h = cK c30_0 31 (up un [(0,a0)]) (nm h) (retK Tryd.f30 Tryd.prog h) :=
  (evC_call 30 Tryd.f30 c30_0 Tryd.func30 (by kernel_rfl) #[a0] h).trans (by kernel_rfl)
theorem ret30 : retK Tryd.f30 Tryd.prog g .ret ⟨ar 31 x, h⟩ = fin g (some (x 2)) h := by kernel_rfl
end Go.Am
namespace Go.Am
open Go.Proofs
set_option maxRecDepth 100000
variable {β : Type} (x : Nat → Value) (h : Heap) (k : Ex → St → Option β) (r m : List Nat) (g : Heap)
noncomputable def c29_0 : Code := bodyC Tryd.f29 []
noncomputable def c29_1 : Code := bodyC Tryd.f29 [true, true, false, true, false, false]
noncomputable def c29_2 : Code := bodyC Tryd.f29 [true, true, true]
theorem c29_0_eq : cK c29_0 26 x h k =
(ln 76 (x 0) h).bind fun v0 =>
(ln 76 (x 1) h).bind fun v1 =>
(bn .neq 3 v0 v1).bind fun v2 =>
cnd v2 (
k .ret ⟨ar 26 (up x [(4,(.bool false)),(6,(x 0)),(7,v0),(8,(x 1)),(9,v1),(10,v2)]), h⟩) (
lK c29_1 26 (up x [(4,(.bool false)),(5,(.int .i64 0)),(6,(x 0)),(7,v0),(8,(x 1)),(9,v1),(10,v2)]) h (blockK 0 (sK c29_2 k))) := by kernel_rfl
theorem c29_1_eq : cK c29_1 26 x h k =
(ln 76 (x 0) h).bind fun v3 =>
(bn .lss 3 (x 5) v3).bind fun v4 =>
cnd v4 (
(ia 76 (x 0) (x 5)).bind fun v5 =>
(ld 79 v5 h).bind fun v6 =>
(ia 76 (x 1) (x 5)).bind fun v7 =>
(ld 79 v7 h).bind fun v8 =>
(bn .neq 79 v6 v8).bind fun v9 =>
cnd v9 (
k .ret ⟨ar 26 (up x [(4,(.bool false)),(11,(x 5)),(12,(x 0)),(13,v3),(14,v4),(17,(x 0)),(18,(x 5)),(19,v5),(20,v6),(21,(x 1)),(22,(x 5)),(23,v7),(24,v8),(25,v9)]), h⟩) (
(bn .add 3 (x 5) (.int .i64 1)).bind fun v10 =>
k .normal ⟨ar 26 (up x [(5,v10),(11,(x 5)),(12,(x 0)),(13,v3),(14,v4),(15,(x 5)),(16,v10),(17,(x 0)),(18,(x 5)),(19,v5),(20,v6),(21,(x 1)),(22,(x 5)),(23,v7),(24,v8),(25,v9)]), h⟩)) (
k (.exit 0) ⟨ar 26 (up x [(11,(x 5)),(12,(x 0)),(13,v3),(14,v4)]), h⟩) := by kernel_rfl
theorem c29_2_eq : cK c29_2 26 x h k =
k .ret ⟨ar 26 (up x [(4,(.bool true))]), h⟩ := by kernel_rfl
theorem call29 (a0 a1 : Value) : evC Tryd.prog 29 #[a0,a1] h = cK c29_0 26 (up un [(0,a0),(1,a1)]) (nm h) (retK Tryd.f29 Tryd.prog h) :=
  (evC_call 29 Tryd.f29 c29_0 Tryd.func29 (by kernel_rfl) #[a0,a1] h).trans (by kernel_rfl)
theorem ret29 : retK Tryd.f29 Tryd.prog g .ret ⟨ar 26 x, h⟩ = fin g (some (x 4)) h := by kernel_rfl
end Go.Am
namespace Go.Am
open Go.Proofs
set_option maxRecDepth 100000
variable {β : Type} (x : Nat → Value) (h : Heap) (k : Ex → St → Option β) (r m : List Nat) (g : Heap)
noncomputable def c62_0 : Code := bodyC Tryd.f62 []
noncomputable def c62_1 : Code := bodyC Tryd.f62 [true, true, true, false, false, false]
noncomputable def c62_2 : Code := bodyC Tryd.f62 [true, true, true, true]
theorem c62_0_eq : cK c62_0 49 x h k =
obH (boxV Tryd.prog 68 (x 1) h) fun v0 h1 =>
(ln 63 (x 0) h1).bind fun v2 =>
lK c62_1 49 (up x [(4,v0),(6,(.int .i64 0)),(7,(.bool false)),(8,v2),(9,(.int .i64 0)),(10,v2),(12,(x 0)),(13,v2),(14,v2)]) h1 (blockK 0 (sK c62_2 k)) := by kernel_rfl
theorem c62_1_eq : cK c62_1 49 x h k =
(bn .lss 3 (x 9) (x 10)).bind fun v3 =>
cnd v3 (
(bn .add 3 (x 9) (x 10)).bind fun v4 =>
obH (cv 3 57 v4 h) fun v5 h6 =>
(bn .shr 57 v5 (.int .u64 1)).bind fun v7 =>
obH (cv 57 3 v7 h6) fun v8 h9 =>
(ia 63 (x 0) v8).bind fun v10 =>
(ld 68 v10 h9).bind fun v11 =>
(ld 68 (x 4) h9).bind fun v12 =>
obH (callV Tryd.prog (evC Tryd.prog) (x 2) #[v11,v12] h9) fun v13 h14 =>
(bn .lss 3 v13 (.int .i64 0)).bind fun v15 =>
cnd v15 (
(bn .add 3 v8 (.int .i64 1)).bind fun v16 =>
k .normal ⟨ar 49 (up x [(9,v16),(11,v8),(15,(x 9)),(16,(x 10)),(17,v3),(18,(x 9)),(19,(x 10)),(20,v4),(21,v5),(22,v7),(23,v8),(24,(x 2)),(25,(x 0)),(26,v8),(27,v10),(28,v11),(29,v12),(30,v13),(31,v15),(32,v8),(33,v16)]), h14⟩) (
k .normal ⟨ar 49 (up x [(10,v8),(11,v8),(15,(x 9)),(16,(x 10)),(17,v3),(18,(x 9)),(19,(x 10)),(20,v4),(21,v5),(22,v7),(23,v8),(24,(x 2)),(25,(x 0)),(26,v8),(27,v10),(28,v11),(29,v12),(30,v13),(31,v15),(34,v8)]), h14⟩)) (
k (.exit 0) ⟨ar 49 (up x [(15,(x 9)),(16,(x 10)),(17,v3)]), h⟩) := by kernel_rfl
theorem c62_2_eq : cK c62_2 49 x h k =
(bn .lss 3 (x 9) (x 8)).bind fun v17 =>
(gd (wt v17 true) (ia 63 (gdV (wt v17 true) (x 0)) (gdV (wt v17 true) (x 9)))).bind fun v18 =>
(gd (wt v17 true) (ld 68 v18 h)).bind fun v19 =>
(gd (wt v17 true) (ld 68 (x 4) h)).bind fun v20 =>
obH (gdH (wt v17 true) h (callV Tryd.prog (evC Tryd.prog) (gdV (wt v17 true) (x 2)) #[v19,v20] h)) fun v21 h22 =>
(gd (wt v17 true) (bn .eql 3 v21 (.int .i64 0))).bind fun v23 =>
(pickV v17 v23 (.bool false)).bind fun v24 =>
k .ret ⟨ar 49 (up x [(6,(x 9)),(7,v24),(35,(x 9)),(36,(x 9)),(37,(x 8)),(38,v17),(39,v17),(40,(gdV (wt v17 true) (x 2))),(41,(gdV (wt v17 true) (x 0))),(42,(gdV (wt v17 true) (x 9))),(43,v18),(44,v19),(45,v20),(46,v21),(47,v23),(48,v24)]), h22⟩ := by kernel_rfl
theorem call62 (a0 a1 a2 : Value) : evC Tryd.prog 62 #[a0,a1,a2] h = cK c62_0 49 (up un [(0,a0),(1,a1),(2,a2)]) (nm h) (retK Tryd.f62 Tryd.prog h) :=
  (evC_call 62 Tryd.f62 c62_0 Tryd.func62 (by kernel_rfl) #[a0,a1,a2] h).trans (by kernel_rfl)
theorem ret62 : retK Tryd.f62 Tryd.prog g .ret ⟨ar 49 x, h⟩ = fin g (some (.tuple #[x 6, (x 7)])) h := by kernel_rfl
end Go.Am
namespace Go.Am
open Go.Proofs
set_option maxRecDepth 100000
variable {β : Type} (x : Nat → Value) (h : Heap) (k : Ex → St → Option β) (r m : List Nat) (g : Heap)
noncomputable def c86_0 : Code := bodyC Tryd.f86 []
noncomputable def c86_1 : Code := bodyC Tryd.f86 [true, true, false, true, false, false]
noncomputable def c86_2 : Code := bodyC Tryd.f86 [true, true, true]
theorem c86_0_eq : cK c86_0 21 x h k =
obH (boxV Tryd.prog 65 (x 0) h) fun v0 h1 =>
obH (some (makeMapV h1)) fun v2 h3 =>
(fa 65 v0 0).bind fun v4 =>
(ld 63 v4 h3).bind fun v5 =>
(ln 63 v5 h3).bind fun v6 =>
lK c86_1 21 (up x [(1,v0),(2,(.map Option.none)),(3,v2),(6,v2),(7,v4),(8,v5),(9,v6),(10,(.int .i64 0))]) h3 (blockK 0 (sK c86_2 k)) := by kernel_rfl
theorem c86_1_eq : cK c86_1 21 x h k =
(bn .lss 3 (x 10) (x 9)).bind fun v7 =>
cnd v7 (
(ia 63 (x 8) (x 10)).bind fun v8 =>
(ld 68 v8 h).bind fun v9 =>
obH (allocV Tryd.prog 68 h) fun v10 h11 =>
(sto 68 v10 v9 h11).bind fun h12 =>
(fa 68 v10 0).bind fun v13 =>
(ld 3 v13 h12).bind fun v14 =>
(fa 68 v10 1).bind fun v15 =>
(ld 23 v15 h12).bind fun v16 =>
(mapUpdateV Tryd.prog 154 (x 3) v14 v16 h12).bind fun h17 =>
(bn .add 3 (x 10) (.int .i64 1)).bind fun v18 =>
k .normal ⟨ar 21 (up x [(5,v10),(10,v18),(11,v7),(12,v8),(13,v9),(14,(x 3)),(15,v13),(16,v14),(17,v15),(18,v16),(19,v18)]), h17⟩) (
k (.exit 0) ⟨ar 21 (up x [(11,v7)]), h⟩) := by kernel_rfl
theorem c86_2_eq : cK c86_2 21 x h k =
k .ret ⟨ar 21 (up x [(2,(x 3)),(20,(x 3))]), h⟩ := by kernel_rfl
theorem call86 (a0 : Value) : evC Tryd.prog 86 #[a0] h = cK c86_0 21 (up un [(0,a0)]) (nm h) (retK Tryd.f86 Tryd.prog h) :=
  (evC_call 86 Tryd.f86 c86_0 Tryd.func86 (by kernel_rfl) #[a0] h).trans (by kernel_rfl)
theorem ret86 : retK Tryd.f86 Tryd.prog g .ret ⟨ar 21 x, h⟩ = fin g (some (x 2)) h := by kernel_rfl
end Go.Am
namespace Go.Am
open Go.Proofs
set_option maxRecDepth 100000
variable {β : Type} (x : Nat → Value) (h : Heap) (k : Ex → St → Option β) (r m : List Nat) (g : Heap)
noncomputable def c72_0 : Code := bodyC Tryd.f72 []
noncomputable def c72_1 : Code := bodyC Tryd.f72 [true, true, true, false, true, false, false]
noncomputable def c72_2 : Code := bodyC Tryd.f72 [true, true, true, true]
theorem c72_0_eq : cK c72_0 44 x h k =
obH (boxV Tryd.prog 65 (x 0) h) fun v0 h1 =>
obH (boxV Tryd.prog 65 (x 1) h1) fun v2 h3 =>
(ld 65 v2 h3).bind fun v4 =>
obH (ev 86 #[v4] h3) fun v5 h6 =>
(fa 65 v0 0).bind fun v7 =>
(ld 63 v7 h6).bind fun v8 =>
(ln 63 v8 h6).bind fun v9 =>
lK c72_1 44 (up x [(2,v0),(3,v2),(4,(.slice Option.none 0 0)),(5,v5),(6,(.slice Option.none 0 0)),(11,v4),(12,v5),(13,v7),(14,v8),(15,v9),(16,(.int .i64 0))]) h6 (blockK 0 (sK c72_2 k)) := by kernel_rfl
theorem c72_1_eq : cK c72_1 44 x h k =
(bn .lss 3 (x 16) (x 15)).bind fun v10 =>
cnd v10 (
(ia 63 (x 14) (x 16)).bind fun v11 =>
(ld 68 v11 h).bind fun v12 =>
obH (allocV Tryd.prog 68 h) fun v13 h14 =>
(sto 68 v13 v12 h14).bind fun h15 =>
(fa 65 (x 3) 0).bind fun v16 =>
(ld 63 v16 h15).bind fun v17 =>
(ld 68 v13 h15).bind fun v18 =>
obH (ev 62 #[v17,v18,(.func (.func 55) #[] #[])] h15) fun v19 h20 =>
(extractV v19 0).bind fun v21 =>
(extractV v19 1).bind fun v22 =>
(unV Tryd.prog .not v22).bind fun v23 =>
(gd (wt v23 true) (fa 68 v13 0)).bind fun v24 =>
(gd (wt v23 true) (ld 3 v24 h20)).bind fun v25 =>
(gd (wt v23 true) (lookupV Tryd.prog 154 (gdV (wt v23 true) (x 5)) v25 false h20)).bind fun v26 =>
(gd (wt v23 true) (fa 68 v13 1)).bind fun v27 =>
(gd (wt v23 true) (ld 23 v27 h20)).bind fun v28 =>
(gd (wt v23 true) (bn .lss 23 v26 v28)).bind fun v29 =>
(pickV v23 v29 (.bool false)).bind fun v30 =>
cnd v30 (
(ld 68 v13 h20).bind fun v31 =>
obH (buildSliceV Tryd.prog 63 1 #[(0, v31)] h20) fun v32 h33 =>
obH (ap 63 (some 63) (x 6) v32 h33) fun v34 h35 =>
(bn .add 3 (x 16) (.int .i64 1)).bind fun v36 =>
k .normal ⟨ar 44 (up x [(6,v34),(8,v13),(9,v21),(10,v22),(16,v36),(17,v10),(18,v11),(19,v12),(20,v19),(21,v16),(22,v17),(23,v18),(24,v19),(25,v21),(26,v22),(27,v22),(28,v23),(29,v23),(30,(gdV (wt v23 true) (x 5))),(31,v24),(32,v25),(33,v26),(34,v27),(35,v28),(36,v29),(37,v30),(38,(x 6)),(39,v31),(40,v32),(41,v34),(42,v36)]), h35⟩) (
(bn .add 3 (x 16) (.int .i64 1)).bind fun v37 =>
k .normal ⟨ar 44 (up x [(8,v13),(9,v21),(10,v22),(16,v37),(17,v10),(18,v11),(19,v12),(20,v19),(21,v16),(22,v17),(23,v18),(24,v19),(25,v21),(26,v22),(27,v22),(28,v23),(29,v23),(30,(gdV (wt v23 true) (x 5))),(31,v24),(32,v25),(33,v26),(34,v27),(35,v28),(36,v29),(37,v30),(42,v37)]), h20⟩)) (
k (.exit 0) ⟨ar 44 (up x [(17,v10)]), h⟩) := by kernel_rfl
theorem c72_2_eq : cK c72_2 44 x h k =
k .ret ⟨ar 44 (up x [(4,(x 6)),(43,(x 6))]), h⟩ := by kernel_rfl
theorem call72 (a0 a1 : Value) : evC Tryd.prog 72 #[a0,a1] h = cK c72_0 44 (up un [(0,a0),(1,a1)]) (nm h) (retK Tryd.f72 Tryd.prog h) :=
  (evC_call 72 Tryd.f72 c72_0 Tryd.func72 (by kernel_rfl) #[a0,a1] h).trans (by kernel_rfl)
theorem ret72 : retK Tryd.f72 Tryd.prog g .ret ⟨ar 44 x, h⟩ = fin g (some (x 4)) h := by kernel_rfl
end Go.Am
namespace Go.Am
open Go.Proofs
set_option maxRecDepth 100000
variable {β : Type} (x : Nat → Value) (h : Heap) (k : Ex → St → Option β) (r m : List Nat) (g : Heap)
noncomputable def c51_0 : Code := bodyC Tryd.f51 []
noncomputable def c51_1 : Code := bodyC Tryd.f51 [true, true, true, false, true, false, false]
noncomputable def c51_2 : Code := bodyC Tryd.f51 [true, true, true, true]
theorem c51_0_eq : cK c51_0 61 x h k =
obH (boxV Tryd.prog 65 (x 0) h) fun v0 h1 =>
obH (boxV Tryd.prog 65 (x 1) h1) fun v2 h3 =>
obH (allocV Tryd.prog 65 h3) fun v4 h5 =>
(ld 65 v0 h5).bind fun v6 =>
obH (ev 31 #[v6] h5) fun v7 h8 =>
(unV Tryd.prog .not v7).bind fun v9 =>
(gd (wt v9 false) (ld 65 v2 h8)).bind fun v10 =>
obH (gdH (wt v9 false) h8 (ev 31 #[v10] h8)) fun v11 h12 =>
(gd (wt v9 false) (unV Tryd.prog .not v11)).bind fun v13 =>
(pickV v9 (.bool true) v13).bind fun v14 =>
cnd v14 (
(ld 65 v0 h12).bind fun v15 =>
obH (ev 61 #[v15] h12) fun v16 h17 =>
(sto 65 v4 v16 h17).bind fun h18 =>
k .ret ⟨ar 61 (up x [(2,v0),(3,v2),(4,v4),(10,v6),(11,v7),(12,v9),(13,v9),(14,v10),(15,v11),(16,v13),(17,v14),(18,v15),(19,v16)]), h18⟩) (
(ld 65 v0 h12).bind fun v19 =>
(ld 65 v2 h12).bind fun v20 =>
obH (ev 72 #[v19,v20] (nm h12)) fun v21 h22 =>
(ld 65 v2 (am h22 h12)).bind fun v23 =>
(ld 65 v0 (am h22 h12)).bind fun v24 =>
obH (ev 72 #[v23,v24] (am h22 h12)) fun v25 h26 =>
obH (ap 63 (some 63) v21 v25 h26) fun v27 h28 =>
chk ((rb v0) ++ ((rb v2) ++ [])) (h22.mods ++ []) (
(fa 65 v0 0).bind fun v29 =>
(ld 63 v29 h28).bind fun v30 =>
(ln 63 v30 h28).bind fun v31 =>
lK c51_1 61 (up x [(2,v0),(3,v2),(4,v4),(5,v27),(10,v6),(11,v7),(12,v9),(13,v9),(14,v10),(15,v11),(16,v13),(17,v14),(20,v19),(21,v20),(22,v21),(23,v23),(24,v24),(25,v25),(26,v27),(27,v29),(28,v30),(29,v31),(30,(.int .i64 0))]) h28 (blockK 0 (sK c51_2 k)))) := by kernel_rfl
theorem c51_1_eq : cK c51_1 61 x h k =
(bn .lss 3 (x 30) (x 29)).bind fun v32 =>
cnd v32 (
(ia 63 (x 28) (x 30)).bind fun v33 =>
(ld 68 v33 h).bind fun v34 =>
obH (allocV Tryd.prog 68 h) fun v35 h36 =>
(sto 68 v35 v34 h36).bind fun h37 =>
(fa 65 (x 3) 0).bind fun v38 =>
(ld 63 v38 h37).bind fun v39 =>
(ld 68 v35 h37).bind fun v40 =>
obH (ev 62 #[v39,v40,(.func (.func 55) #[] #[])] h37) fun v41 h42 =>
(extractV v41 0).bind fun v43 =>
(extractV v41 1).bind fun v44 =>
cnd v44 (
(fa 68 v35 2).bind fun v45 =>
(ld 38 v45 h42).bind fun v46 =>
(fa 65 (x 3) 0).bind fun v47 =>
(ld 63 v47 h42).bind fun v48 =>
(ia 63 v48 v43).bind fun v49 =>
(fa 68 v49 2).bind fun v50 =>
(ld 38 v50 h42).bind fun v51 =>
(bn .and 38 v46 v51).bind fun v52 =>
(fa 68 v35 2).bind fun v53 =>
(sto 38 v53 v52 h42).bind fun h54 =>
(ld 68 v35 h54).bind fun v55 =>
obH (buildSliceV Tryd.prog 63 1 #[(0, v55)] h54) fun v56 h57 =>
obH (ap 63 (some 63) (x 5) v56 h57) fun v58 h59 =>
(bn .add 3 (x 30) (.int .i64 1)).bind fun v60 =>
k .normal ⟨ar 61 (up x [(5,v58),(7,v35),(8,v43),(9,v44),(30,v60),(31,v32),(32,v33),(33,v34),(34,v41),(35,v38),(36,v39),(37,v40),(38,v41),(39,v43),(40,v44),(41,v44),(42,v45),(43,v46),(44,v47),(45,v48),(46,v43),(47,v49),(48,v50),(49,v51),(50,v52),(51,v53),(52,(x 5)),(53,v55),(54,v56),(55,v58),(56,v60)]), h59⟩) (
(bn .add 3 (x 30) (.int .i64 1)).bind fun v61 =>
k .normal ⟨ar 61 (up x [(7,v35),(8,v43),(9,v44),(30,v61),(31,v32),(32,v33),(33,v34),(34,v41),(35,v38),(36,v39),(37,v40),(38,v41),(39,v43),(40,v44),(41,v44),(56,v61)]), h42⟩)) (
k (.exit 0) ⟨ar 61 (up x [(31,v32)]), h⟩) := by kernel_rfl
theorem c51_2_eq : cK c51_2 61 x h k =
obH (ev 73 #[x 5,(.func (.func 55) #[] #[])] h) fun v62 h63 =>
(buildV Tryd.prog 65 #[(0, (x 5))]).bind fun v64 =>
(sto 65 (x 4) v64 h63).bind fun h65 =>
k .ret ⟨ar 61 (up x [(57,(x 5)),(58,v62),(59,(x 5)),(60,v64)]), h65⟩ := by kernel_rfl
theorem call51 (a0 a1 : Value) : evC Tryd.prog 51 #[a0,a1] h = cK c51_0 61 (up un [(0,a0),(1,a1)]) (nm h) (retK Tryd.f51 Tryd.prog h) :=
  (evC_call 51 Tryd.f51 c51_0 Tryd.func51 (by kernel_rfl) #[a0,a1] h).trans (by kernel_rfl)
theorem ret51 : retK Tryd.f51 Tryd.prog g .ret ⟨ar 61 x, h⟩ = fin g (rvals ((ld 65 (x 4) h).bind fun r0 => some [r0])) h := by kernel_rfl
end Go.Am
namespace Go.Am
open Go.Proofs
set_option maxRecDepth 100000
variable {β : Type} (x : Nat → Value) (h : Heap) (k : Ex → St → Option β) (r m : List Nat) (g : Heap)
noncomputable def c40_0 : Code := bodyC Tryd.f40 []
noncomputable def c40_1 : Code := bodyC Tryd.f40 [true, true, true, false, true, false, false]
noncomputable def c40_2 : Code := bodyC Tryd.f40 [true, true, true, true]
theorem c40_0_eq : cK c40_0 30 x h k =
obH (boxV Tryd.prog 65 (x 0) h) fun v0 h1 =>
obH (allocV Tryd.prog 65 h1) fun v2 h3 =>
(ld 65 v0 h3).bind fun v4 =>
obH (ev 61 #[v4] h3) fun v5 h6 =>
(sto 65 v0 v5 h6).bind fun h7 =>
(ld 65 v0 h7).bind fun v8 =>
obH (ev 31 #[v8] h7) fun v9 h10 =>
(unV Tryd.prog .not v9).bind fun v11 =>
cnd v11 (
(ld 65 v0 h10).bind fun v12 =>
(sto 65 v2 v12 h10).bind fun h13 =>
k .ret ⟨ar 30 (up x [(2,v0),(4,v2),(6,v4),(7,v5),(8,v8),(9,v9),(10,v11),(11,v12)]), h13⟩) (
(fa 65 v0 0).bind fun v14 =>
(ld 63 v14 h10).bind fun v15 =>
(ln 63 v15 h10).bind fun v16 =>
lK c40_1 30 (up x [(2,v0),(4,v2),(6,v4),(7,v5),(8,v8),(9,v9),(10,v11),(12,v14),(13,v15),(14,v16),(15,(.int .i64 0))]) h10 (blockK 0 (sK c40_2 k))) := by kernel_rfl
theorem c40_1_eq : cK c40_1 30 x h k =
(bn .lss 3 (x 15) (x 14)).bind fun v17 =>
cnd v17 (
(fa 65 (x 2) 0).bind fun v18 =>
(ld 63 v18 h).bind fun v19 =>
(ia 63 v19 (x 15)).bind fun v20 =>
(fa 68 v20 2).bind fun v21 =>
(ld 38 v21 h).bind fun v22 =>
(bn .andNot 38 v22 (x 1)).bind fun v23 =>
(ia 63 v19 (x 15)).bind fun v24 =>
(fa 68 v24 2).bind fun v25 =>
(sto 38 v25 v23 h).bind fun h26 =>
(bn .add 3 (x 15) (.int .i64 1)).bind fun v27 =>
k .normal ⟨ar 30 (up x [(5,(x 15)),(15,v27),(16,v17),(17,(x 15)),(18,v18),(19,v19),(20,(x 15)),(21,v20),(22,v21),(23,v22),(24,(x 1)),(25,v23),(26,v24),(27,v25),(28,v27)]), h26⟩) (
k (.exit 0) ⟨ar 30 (up x [(16,v17)]), h⟩) := by kernel_rfl
theorem c40_2_eq : cK c40_2 30 x h k =
(ld 65 (x 2) h).bind fun v28 =>
(sto 65 (x 4) v28 h).bind fun h29 =>
k .ret ⟨ar 30 (up x [(29,v28)]), h29⟩ := by kernel_rfl
theorem call40 (a0 a1 : Value) : evC Tryd.prog 40 #[a0,a1] h = cK c40_0 30 (up un [(0,a0),(1,a1)]) (nm h) (retK Tryd.f40 Tryd.prog h) :=
  (evC_call 40 Tryd.f40 c40_0 Tryd.func40 (by kernel_rfl) #[a0,a1] h).trans (by kernel_rfl)
theorem ret40 : retK Tryd.f40 Tryd.prog g .ret ⟨ar 30 x, h⟩ = fin g (rvals ((ld 65 (x 4) h).bind fun r0 => some [r0])) h := by kernel_rfl
end Go.Am
namespace Go.Am
open Go.Proofs
set_option maxRecDepth 100000
variable {β : Type} (x : Nat → Value) (h : Heap) (k : Ex → St → Option β) (r m : List Nat) (g : Heap)
noncomputable def c38_0 : Code := bodyC Tryd.f38 []
theorem c38_0_eq : cK c38_0 14 x h k =
obH (boxV Tryd.prog 65 (x 0) h) fun v0 h1 =>
obH (allocV Tryd.prog 65 h1) fun v2 h3 =>
(ld 65 v0 h3).bind fun v4 =>
obH (buildSliceV Tryd.prog 41 1 #[(0, (x 2))] h3) fun v5 h6 =>
obH (ev 26 #[v5] (nm h6)) fun v7 h8 =>
(bn .andNot 38 (x 1) v7).bind fun v9 =>
obH (ev 40 #[v4,v9] (am h8 h6)) fun v10 h11 =>
(sto 65 v2 v10 h11).bind fun h12 =>
chk ((rb v0) ++ []) (h8.mods ++ []) (
k .ret ⟨ar 14 (up x [(3,v0),(6,v2),(7,v4),(8,(x 1)),(9,(x 2)),(10,v5),(11,v7),(12,v9),(13,v10)]), h12⟩) := by kernel_rfl
theorem call38 (a0 a1 a2 : Value) : evC Tryd.prog 38 #[a0,a1,a2] h = cK c38_0 14 (up un [(0,a0),(1,a1),(2,a2)]) (nm h) (retK Tryd.f38 Tryd.prog h) :=
  (evC_call 38 Tryd.f38 c38_0 Tryd.func38 (by kernel_rfl) #[a0,a1,a2] h).trans (by kernel_rfl)
theorem ret38 : retK Tryd.f38 Tryd.prog g .ret ⟨ar 14 x, h⟩ = fin g (rvals ((ld 65 (x 6) h).bind fun r0 => some [r0])) h := by kernel_rfl
end Go.Am
namespace Go.Am
open Go.Proofs
set_option maxRecDepth 100000
variable {β : Type} (x : Nat → Value) (h : Heap) (k : Ex → St → Option β) (r m : List Nat) (g : Heap)
noncomputable def c26_0 : Code := bodyC Tryd.f26 []
noncomputable def c26_1 : Code := bodyC Tryd.f26 [true, true, false, true, false, false]
noncomputable def c26_2 : Code := bodyC Tryd.f26 [true, true, true]
theorem c26_0_eq : cK c26_0 24 x h k =
(ln 41 (x 0) h).bind fun v0 =>
lK c26_1 24 (up x [(2,(.int .u64 0)),(3,(.int .u64 0)),(6,(x 0)),(7,v0),(8,(.int .i64 0))]) h (blockK 0 (sK c26_2 k)) := by kernel_rfl
theorem c26_1_eq : cK c26_1 24 x h k =
(bn .lss 3 (x 8) (x 7)).bind fun v1 =>
cnd v1 (
(ia 41 (x 6) (x 8)).bind fun v2 =>
(ld 3 v2 h).bind fun v3 =>
(bn .geq 3 v3 (.int .i64 0)).bind fun v4 =>
(gd (wt v4 true) (bn .lss 3 (gdV (wt v4 true) v3) (.int .i64 64))).bind fun v5 =>
(pickV v4 v5 (.bool false)).bind fun v6 =>
cnd v6 (
(bn .shl 38 (.int .u64 1) v3).bind fun v7 =>
(bn .or 38 (x 3) v7).bind fun v8 =>
(bn .add 3 (x 8) (.int .i64 1)).bind fun v9 =>
k .normal ⟨ar 24 (up x [(3,v8),(5,v3),(8,v9),(9,v1),(10,v2),(11,v3),(12,v3),(13,v4),(14,v4),(15,(gdV (wt v4 true) v3)),(16,v5),(17,v6),(18,(x 3)),(19,v3),(20,v7),(21,v8),(22,v9)]), h⟩) (
(bn .add 3 (x 8) (.int .i64 1)).bind fun v10 =>
k .normal ⟨ar 24 (up x [(5,v3),(8,v10),(9,v1),(10,v2),(11,v3),(12,v3),(13,v4),(14,v4),(15,(gdV (wt v4 true) v3)),(16,v5),(17,v6),(22,v10)]), h⟩)) (
k (.exit 0) ⟨ar 24 (up x [(9,v1)]), h⟩) := by kernel_rfl
theorem c26_2_eq : cK c26_2 24 x h k =
k .ret ⟨ar 24 (up x [(2,(x 3)),(23,(x 3))]), h⟩ := by kernel_rfl
theorem call26 (a0 : Value) : evC Tryd.prog 26 #[a0] h = cK c26_0 24 (up un [(0,a0)]) (nm h) (retK Tryd.f26 Tryd.prog h) :=
  (evC_call 26 Tryd.f26 c26_0 Tryd.func26 (by kernel_rfl) #[a0] h).trans (by kernel_rfl)
theorem ret26 : retK Tryd.f26 Tryd.prog g .ret ⟨ar 24 x, h⟩ = fin g (some (x 2)) h := by kernel_rfl
end Go.Am
namespace Go.Am
open Go.Proofs
set_option maxRecDepth 100000
variable {β : Type} (x : Nat → Value) (h : Heap) (k : Ex → St → Option β) (r m : List Nat) (g : Heap)
noncomputable def c37_0 : Code := bodyC Tryd.f37 []
noncomputable def c37_1 : Code := bodyC Tryd.f37 [true, true, true, true, false, true, false, false]
noncomputable def c37_2 : Code := bodyC Tryd.f37 [true, true, true, true, true]
theorem c37_0_eq : cK c37_0 50 x h k =
obH (boxV Tryd.prog 65 (x 0) h) fun v0 h1 =>
obH (allocV Tryd.prog 65 h1) fun v2 h3 =>
(ld 65 v0 h3).bind fun v4 =>
obH (ev 61 #[v4] h3) fun v5 h6 =>
(sto 65 v0 v5 h6).bind fun h7 =>
(ld 65 v0 h7).bind fun v8 =>
obH (ev 31 #[v8] h7) fun v9 h10 =>
(unV Tryd.prog .not v9).bind fun v11 =>
cnd v11 (
(ld 65 v0 h10).bind fun v12 =>
(sto 65 v2 v12 h10).bind fun h13 =>
k .ret ⟨ar 50 (up x [(1,v0),(2,v2),(6,v4),(7,v5),(8,v8),(9,v9),(10,v11),(11,v12)]), h13⟩) (
(fa 65 v0 0).bind fun v14 =>
(ld 63 v14 h10).bind fun v15 =>
(ln 63 v15 h10).bind fun v16 =>
lK c37_1 50 (up x [(1,v0),(2,v2),(3,(.slice Option.none 0 0)),(6,v4),(7,v5),(8,v8),(9,v9),(10,v11),(12,v14),(13,v15),(14,v16),(15,(.int .i64 0))]) h10 (blockK 0 (sK c37_2 k))) := by kernel_rfl
theorem c37_1_eq : cK c37_1 50 x h k =
(bn .lss 3 (x 15) (x 14)).bind fun v17 =>
cnd v17 (
(ia 63 (x 13) (x 15)).bind fun v18 =>
(ld 68 v18 h).bind fun v19 =>
obH (allocV Tryd.prog 68 h) fun v20 h21 =>
(sto 68 v20 v19 h21).bind fun h22 =>
(fa 68 v20 2).bind fun v23 =>
(ld 38 v23 h22).bind fun v24 =>
(bn .neq 38 v24 (.int .u64 0)).bind fun v25 =>
(gd (wt v25 false) (fa 65 (x 1) 0)).bind fun v26 =>
(gd (wt v25 false) (ld 63 v26 h22)).bind fun v27 =>
(gd (wt v25 false) (ln 63 v27 h22)).bind fun v28 =>
(gd (wt v25 false) (bn .sub 3 v28 (.int .i64 1))).bind fun v29 =>
(gd (wt v25 false) (bn .eql 3 (gdV (wt v25 false) (x 15)) v29)).bind fun v30 =>
(pickV v25 (.bool true) v30).bind fun v31 =>
(gd (wt v31 false) (fa 65 (x 1) 0)).bind fun v32 =>
(gd (wt v31 false) (ld 63 v32 h22)).bind fun v33 =>
(gd (wt v31 false) (bn .add 3 (gdV (wt v31 false) (x 15)) (.int .i64 1))).bind fun v34 =>
(gd (wt v31 false) (ia 63 v33 v34)).bind fun v35 =>
(gd (wt v31 false) (fa 68 v35 0)).bind fun v36 =>
(gd (wt v31 false) (ld 3 v36 h22)).bind fun v37 =>
(gd (wt v31 false) (fa 68 v20 0)).bind fun v38 =>
(gd (wt v31 false) (ld 3 v38 h22)).bind fun v39 =>
(gd (wt v31 false) (bn .neq 3 v37 v39)).bind fun v40 =>
(pickV v31 (.bool true) v40).bind fun v41 =>
cnd v41 (
(ld 68 v20 h22).bind fun v42 =>
obH (buildSliceV Tryd.prog 63 1 #[(0, v42)] h22) fun v43 h44 =>
obH (ap 63 (some 63) (x 3) v43 h44) fun v45 h46 =>
(bn .add 3 (x 15) (.int .i64 1)).bind fun v47 =>
k .normal ⟨ar 50 (up x [(3,v45),(4,(x 15)),(5,v20),(15,v47),(16,v17),(17,(x 15)),(18,v18),(19,v19),(20,v23),(21,v24),(22,v25),(23,v25),(24,(gdV (wt v25 false) (x 15))),(25,v26),(26,v27),(27,v28),(28,v29),(29,v30),(30,v31),(31,v31),(32,v32),(33,v33),(34,(gdV (wt v31 false) (x 15))),(35,v34),(36,v35),(37,v36),(38,v37),(39,v38),(40,v39),(41,v40),(42,v41),(43,(x 3)),(44,v42),(45,v43),(46,v45),(47,v47)]), h46⟩) (
(bn .add 3 (x 15) (.int .i64 1)).bind fun v48 =>
k .normal ⟨ar 50 (up x [(4,(x 15)),(5,v20),(15,v48),(16,v17),(17,(x 15)),(18,v18),(19,v19),(20,v23),(21,v24),(22,v25),(23,v25),(24,(gdV (wt v25 false) (x 15))),(25,v26),(26,v27),(27,v28),(28,v29),(29,v30),(30,v31),(31,v31),(32,v32),(33,v33),(34,(gdV (wt v31 false) (x 15))),(35,v34),(36,v35),(37,v36),(38,v37),(39,v38),(40,v39),(41,v40),(42,v41),(47,v48)]), h22⟩)) (
k (.exit 0) ⟨ar 50 (up x [(16,v17)]), h⟩) := by kernel_rfl
theorem c37_2_eq : cK c37_2 50 x h k =
(buildV Tryd.prog 65 #[(0, (x 3))]).bind fun v49 =>
(sto 65 (x 2) v49 h).bind fun h50 =>
k .ret ⟨ar 50 (up x [(48,(x 3)),(49,v49)]), h50⟩ := by kernel_rfl
theorem call37 (a0 : Value) : evC Tryd.prog 37 #[a0] h = cK c37_0 50 (up un [(0,a0)]) (nm h) (retK Tryd.f37 Tryd.prog h) :=
  (evC_call 37 Tryd.f37 c37_0 Tryd.func37 (by kernel_rfl) #[a0] h).trans (by kernel_rfl)
theorem ret37 : retK Tryd.f37 Tryd.prog g .ret ⟨ar 50 x, h⟩ = fin g (rvals ((ld 65 (x 2) h).bind fun r0 => some [r0])) h := by kernel_rfl
end Go.Am
namespace Go.Am
open Go.Proofs
set_option maxRecDepth 100000
variable {β : Type} (x : Nat → Value) (h : Heap) (k : Ex → St → Option β) (r m : List Nat) (g : Heap)
noncomputable def c39_0 : Code := bodyC Tryd.f39 []
theorem c39_0_eq : cK c39_0 39 x h k =
obH (boxV Tryd.prog 65 (x 0) h) fun v0 h1 =>
obH (boxV Tryd.prog 68 (x 1) h1) fun v2 h3 =>
obH (allocV Tryd.prog 65 h3) fun v4 h5 =>
(ld 65 v0 h5).bind fun v6 =>
obH (ev 61 #[v6] h5) fun v7 h8 =>
(sto 65 v0 v7 h8).bind fun h9 =>
(ld 65 v0 h9).bind fun v10 =>
obH (ev 31 #[v10] h9) fun v11 h12 =>
(unV Tryd.prog .not v11).bind fun v13 =>
(gd (wt v13 false) (ld 68 v2 h12)).bind fun v14 =>
obH (gdH (wt v13 false) h12 (ev 54 #[v14] h12)) fun v15 h16 =>
(gd (wt v13 false) (unV Tryd.prog .not v15)).bind fun v17 =>
(pickV v13 (.bool true) v17).bind fun v18 =>
cnd v18 (
(ld 65 v0 h16).bind fun v19 =>
(sto 65 v4 v19 h16).bind fun h20 =>
k .ret ⟨ar 39 (up x [(2,v0),(3,v2),(4,v4),(7,v6),(8,v7),(9,v10),(10,v11),(11,v13),(12,v13),(13,v14),(14,v15),(15,v17),(16,v18),(17,v19)]), h20⟩) (
(fa 65 v0 0).bind fun v21 =>
(ld 63 v21 h16).bind fun v22 =>
(ld 68 v2 h16).bind fun v23 =>
obH (ev 62 #[v22,v23,(.func (.func 55) #[] #[])] h16) fun v24 h25 =>
(extractV v24 0).bind fun v26 =>
(extractV v24 1).bind fun v27 =>
cnd v27 (
(fa 65 v0 0).bind fun v28 =>
(ld 63 v28 h25).bind fun v29 =>
(ld 68 v2 h25).bind fun v30 =>
(ia 63 v29 v26).bind fun v31 =>
(sto 68 v31 v30 h25).bind fun h32 =>
(ld 65 v0 h32).bind fun v33 =>
(sto 65 v4 v33 h32).bind fun h34 =>
k .ret ⟨ar 39 (up x [(2,v0),(3,v2),(4,v4),(5,v26),(6,v27),(7,v6),(8,v7),(9,v10),(10,v11),(11,v13),(12,v13),(13,v14),(14,v15),(15,v17),(16,v18),(18,v24),(19,v21),(20,v22),(21,v23),(22,v24),(23,v26),(24,v27),(25,v27),(26,v28),(27,v29),(28,v26),(29,v30),(30,v31),(38,v33)]), h34⟩) (
(fa 65 v0 0).bind fun v35 =>
(ld 63 v35 h25).bind fun v36 =>
(ld 68 v2 h25).bind fun v37 =>
obH (buildSliceV Tryd.prog 63 1 #[(0, v37)] h25) fun v38 h39 =>
obH (ev 63 #[v36,v26,v38] h39) fun v40 h41 =>
(fa 65 v0 0).bind fun v42 =>
(sto 63 v42 v40 h41).bind fun h43 =>
(ld 65 v0 h43).bind fun v44 =>
(sto 65 v4 v44 h43).bind fun h45 =>
k .ret ⟨ar 39 (up x [(2,v0),(3,v2),(4,v4),(5,v26),(6,v27),(7,v6),(8,v7),(9,v10),(10,v11),(11,v13),(12,v13),(13,v14),(14,v15),(15,v17),(16,v18),(18,v24),(19,v21),(20,v22),(21,v23),(22,v24),(23,v26),(24,v27),(25,v27),(31,v35),(32,v36),(33,v26),(34,v37),(35,v38),(36,v40),(37,v42),(38,v44)]), h45⟩)) := by kernel_rfl
theorem call39 (a0 a1 : Value) : evC Tryd.prog 39 #[a0,a1] h = cK c39_0 39 (up un [(0,a0),(1,a1)]) (nm h) (retK Tryd.f39 Tryd.prog h) :=
  (evC_call 39 Tryd.f39 c39_0 Tryd.func39 (by kernel_rfl) #[a0,a1] h).trans (by kernel_rfl)
theorem ret39 : retK Tryd.f39 Tryd.prog g .ret ⟨ar 39 x, h⟩ = fin g (rvals ((ld 65 (x 4) h).bind fun r0 => some [r0])) h := by kernel_rfl
end Go.Am
namespace Go.Am
open Go.Proofs
set_option maxRecDepth 100000
variable {β : Type} (x : Nat → Value) (h : Heap) (k : Ex → St → Option β) (r m : List Nat) (g : Heap)
noncomputable def c36_0 : Code := bodyC Tryd.f36 []
noncomputable def c36_1 : Code := bodyC Tryd.f36 [true, true, false, false, false]
noncomputable def c36_2 : Code := bodyC Tryd.f36 [true, true, true]
theorem c36_0_eq : cK c36_0 16 x h k =
lK c36_1 16 (up x [(2,(.slice Option.none 0 0)),(3,(.slice Option.none 0 0))]) h (blockK 0 (sK c36_2 k)) := by kernel_rfl
theorem c36_1_eq : cK c36_1 16 x h k =
(bn .neq 38 (x 0) (.int .u64 0)).bind fun v0 =>
cnd v0 (
obH (ev 60 #[x 0] h) fun v1 h2 =>
obH (buildSliceV Tryd.prog 41 1 #[(0, v1)] h2) fun v3 h4 =>
obH (ap 41 (some 41) (x 3) v3 h4) fun v5 h6 =>
(bn .sub 38 (x 0) (.int .u64 1)).bind fun v7 =>
(bn .and 38 (x 0) v7).bind fun v8 =>
k .normal ⟨ar 16 (up x [(0,v8),(3,v5),(4,(x 0)),(5,v0),(6,(x 3)),(7,(x 0)),(8,v1),(9,v3),(10,v5),(11,(x 0)),(12,(x 0)),(13,v7),(14,v8)]), h6⟩) (
k (.exit 0) ⟨ar 16 (up x [(4,(x 0)),(5,v0)]), h⟩) := by kernel_rfl
theorem c36_2_eq : cK c36_2 16 x h k =
k .ret ⟨ar 16 (up x [(2,(x 3)),(15,(x 3))]), h⟩ := by kernel_rfl
theorem call36 (a0 : Value) : evC Tryd.prog 36 #[a0] h = cK c36_0 16 (up un [(0,a0)]) (nm h) (retK Tryd.f36 Tryd.prog h) :=
  (evC_call 36 Tryd.f36 c36_0 Tryd.func36 (by kernel_rfl) #[a0] h).trans (by kernel_rfl)
theorem ret36 : retK Tryd.f36 Tryd.prog g .ret ⟨ar 16 x, h⟩ = fin g (some (x 2)) h := by kernel_rfl
end Go.Am
namespace Go.Am
open Go.Proofs
set_option maxRecDepth 100000
variable {β : Type} (x : Nat → Value) (h : Heap) (k : Ex → St → Option β) (r m : List Nat) (g : Heap)
noncomputable def c32_0 : Code := bodyC Tryd.f32 []
noncomputable def c32_1 : Code := bodyC Tryd.f32 [true, true, true, true, false, true, false, false]
noncomputable def c32_2 : Code := bodyC Tryd.f32 [true, true, true, true, true]
theorem c32_0_eq : cK c32_0 39 x h k =
obH (boxV Tryd.prog 65 (x 0) h) fun v0 h1 =>
(ld 65 v0 h1).bind fun v2 =>
obH (ev 31 #[v2] h1) fun v3 h4 =>
(unV Tryd.prog .not v3).bind fun v5 =>
cnd v5 (
k .ret ⟨ar 39 (up x [(1,v0),(2,(.slice Option.none 0 0)),(6,v2),(7,v3),(8,v5)]), h4⟩) (
obH (ev 56 #[] h4) fun v6 h7 =>
(fa 65 v0 0).bind fun v8 =>
(ld 63 v8 h7).bind fun v9 =>
(ln 63 v9 h7).bind fun v10 =>
obH (cv 3 23 v10 h7) fun v11 h12 =>
obH (ev 57 #[v6,v11] h12) fun v13 h14 =>
(fa 65 v0 0).bind fun v15 =>
(ld 63 v15 h14).bind fun v16 =>
(ln 63 v16 h14).bind fun v17 =>
lK c32_1 39 (up x [(1,v0),(2,(.slice Option.none 0 0)),(3,v6),(6,v2),(7,v3),(8,v5),(9,v6),(10,v6),(11,v8),(12,v9),(13,v10),(14,v11),(15,v13),(16,v15),(17,v16),(18,v17),(19,(.int .i64 0))]) h14 (blockK 0 (sK c32_2 k))) := by kernel_rfl
theorem c32_1_eq : cK c32_1 39 x h k =
(bn .lss 3 (x 19) (x 18)).bind fun v18 =>
cnd v18 (
(ia 63 (x 17) (x 19)).bind fun v19 =>
(ld 68 v19 h).bind fun v20 =>
obH (allocV Tryd.prog 68 h) fun v21 h22 =>
(sto 68 v21 v20 h22).bind fun h23 =>
(fa 68 v21 0).bind fun v24 =>
(ld 3 v24 h23).bind fun v25 =>
obH (cv 3 23 v25 h23) fun v26 h27 =>
obH (ev 57 #[x 3,v26] h27) fun v28 h29 =>
(fa 68 v21 1).bind fun v30 =>
(ld 23 v30 h29).bind fun v31 =>
obH (ev 57 #[x 3,v31] h29) fun v32 h33 =>
(fa 68 v21 2).bind fun v34 =>
(ld 38 v34 h33).bind fun v35 =>
obH (ev 58 #[x 3,v35] h33) fun v36 h37 =>
(bn .add 3 (x 19) (.int .i64 1)).bind fun v38 =>
k .normal ⟨ar 39 (up x [(5,v21),(19,v38),(20,v18),(21,v19),(22,v20),(23,(x 3)),(24,v24),(25,v25),(26,v26),(27,v28),(28,(x 3)),(29,v30),(30,v31),(31,v32),(32,(x 3)),(33,v34),(34,v35),(35,v36),(36,v38)]), h37⟩) (
k (.exit 0) ⟨ar 39 (up x [(20,v18)]), h⟩) := by kernel_rfl
theorem c32_2_eq : cK c32_2 39 x h k =
obH (ev 59 #[x 3] h) fun v39 h40 =>
k .ret ⟨ar 39 (up x [(2,v39),(37,(x 3)),(38,v39)]), h40⟩ := by kernel_rfl
theorem call32 (a0 : Value) : evC Tryd.prog 32 #[a0] h = cK c32_0 39 (up un [(0,a0)]) (nm h) (retK Tryd.f32 Tryd.prog h) :=
  (evC_call 32 Tryd.f32 c32_0 Tryd.func32 (by kernel_rfl) #[a0] h).trans (by kernel_rfl)
theorem ret32 : retK Tryd.f32 Tryd.prog g .ret ⟨ar 39 x, h⟩ = fin g (some (x 2)) h := by kernel_rfl
end Go.Am
namespace Go.Am
open Go.Proofs
set_option maxRecDepth 100000
variable {β : Type} (x : Nat → Value) (h : Heap) (k : Ex → St → Option β) (r m : List Nat) (g : Heap)
noncomputable def c46_0 : Code := bodyC Tryd.f46 []
noncomputable def c46_1 : Code := bodyC Tryd.f46 [true, true, true, false, true, false, false]
noncomputable def c46_2 : Code := bodyC Tryd.f46 [true, true, true, true]
theorem c46_0_eq : cK c46_0 42 x h k =
obH (allocV Tryd.prog 65 h) fun v0 h1 =>
obH (ev 67 #[x 0] h1) fun v2 h3 =>
obH (allocV Tryd.prog 65 h3) fun v4 h5 =>
(ln 40 (x 0) h5).bind fun v6 =>
obH (cv 3 23 v6 h5) fun v7 h8 =>
obH (ev 68 #[v2,v7] h8) fun v9 h10 =>
lK c46_1 42 (up x [(2,v0),(3,(.bool false)),(4,v2),(5,v4),(6,v9),(7,(x 0)),(8,v2),(9,v2),(10,(x 0)),(11,v6),(12,v7),(13,v9)]) h10 (blockK 0 (sK c46_2 k)) := by kernel_rfl
theorem c46_1_eq : cK c46_1 42 x h k =
(bn .gtr 23 (x 6) (.int .u64 0)).bind fun v11 =>
cnd v11 (
(fa 65 (x 5) 0).bind fun v12 =>
(ld 63 v12 h).bind fun v13 =>
obH (ev 68 #[x 4,(.int .u64 16)] (nm h)) fun v14 h15 =>
obH (cv 23 3 v14 (am h15 h)) fun v16 h17 =>
obH (ev 68 #[x 4,(.int .u64 18446744073709551615)] (nm h17)) fun v18 h19 =>
obH (ev 35 #[(.int .i64 16)] (nm (am h19 h17))) fun v20 h21 =>
obH (ev 70 #[x 4,v20] (nm (am h21 (am h19 h17)))) fun v22 h23 =>
(buildV Tryd.prog 68 #[(0, v16), (1, v18), (2, v22)]).bind fun v24 =>
obH (buildSliceV Tryd.prog 63 1 #[(0, v24)] (am h23 (am h21 (am h19 h17)))) fun v25 h26 =>
obH (ap 63 (some 63) v13 v25 h26) fun v27 h28 =>
(fa 65 (x 5) 0).bind fun v29 =>
(sto 63 v29 v27 h28).bind fun h30 =>
chk ((rb v12) ++ []) (h23.mods ++ (h21.mods ++ (h19.mods ++ (h15.mods ++ [])))) (
(bn .sub 23 (x 6) (.int .u64 1)).bind fun v31 =>
k .normal ⟨ar 42 (up x [(6,v31),(14,(x 6)),(15,v11),(16,(x 6)),(17,v31),(18,v12),(19,v13),(20,(x 4)),(21,v14),(22,v16),(23,(x 4)),(24,v18),(25,(x 4)),(26,v20),(27,v22),(28,v24),(29,v25),(30,v27),(31,v29)]), h30⟩)) (
k (.exit 0) ⟨ar 42 (up x [(14,(x 6)),(15,v11)]), h⟩) := by kernel_rfl
theorem c46_2_eq : cK c46_2 42 x h k =
obH (ev 69 #[x 4] h) fun v32 h33 =>
(unV Tryd.prog .not v32).bind fun v34 =>
(gd (wt v34 false) (ld 65 (x 5) h33)).bind fun v35 =>
obH (gdH (wt v34 false) h33 (ev 31 #[v35] h33)) fun v36 h37 =>
(gd (wt v34 false) (unV Tryd.prog .not v36)).bind fun v38 =>
(pickV v34 (.bool true) v38).bind fun v39 =>
cnd v39 (
(buildV Tryd.prog 65 #[]).bind fun v40 =>
(sto 65 (x 2) v40 h37).bind fun h41 =>
k .ret ⟨ar 42 (up x [(3,(.bool false)),(32,(x 4)),(33,v32),(34,v34),(35,v34),(36,v35),(37,v36),(38,v38),(39,v39),(40,v40)]), h41⟩) (
(ld 65 (x 5) h37).bind fun v42 =>
(sto 65 (x 2) v42 h37).bind fun h43 =>
k .ret ⟨ar 42 (up x [(3,(.bool true)),(32,(x 4)),(33,v32),(34,v34),(35,v34),(36,v35),(37,v36),(38,v38),(39,v39),(41,v42)]), h43⟩) := by kernel_rfl
theorem call46 (a0 : Value) : evC Tryd.prog 46 #[a0] h = cK c46_0 42 (up un [(0,a0)]) (nm h) (retK Tryd.f46 Tryd.prog h) :=
  (evC_call 46 Tryd.f46 c46_0 Tryd.func46 (by kernel_rfl) #[a0] h).trans (by kernel_rfl)
theorem ret46 : retK Tryd.f46 Tryd.prog g .ret ⟨ar 42 x, h⟩ = fin g (rvals ((ld 65 (x 2) h).bind fun r0 => some [r0, (x 3)])) h := by kernel_rfl
end Go.Am
namespace Go.Am
open Go.Proofs
set_option maxRecDepth 100000
variable {β : Type} (x : Nat → Value) (h : Heap) (k : Ex → St → Option β) (r m : List Nat) (g : Heap)
noncomputable def c34_0 : Code := bodyC Tryd.f34 []
theorem c34_0_eq : cK c34_0 7 x h k =
obH (builtinV Tryd.prog .max #[3, 3] #[x 0,(.int .i64 0)] h) fun v0 h1 =>
obH (builtinV Tryd.prog .min #[3, 3] #[v0,(.int .i64 64)] h1) fun v2 h3 =>
obH (makeSliceV Tryd.prog 73 v2 v2 h3) fun v4 h5 =>
k .ret ⟨ar 7 (up x [(2,v4),(3,(x 0)),(4,v0),(5,v2),(6,v4)]), h5⟩ := by kernel_rfl
theorem call34 (a0 : Value) : evC Tryd.prog 34 #[a0] h = cK c34_0 7 (up un [(0,a0)]) (nm h) (retK Tryd.f34 Tryd.prog h) :=
  (evC_call 34 Tryd.f34 c34_0 Tryd.func34 (by kernel_rfl) #[a0] h).trans (by kernel_rfl)
theorem ret34 : retK Tryd.f34 Tryd.prog g .ret ⟨ar 7 x, h⟩ = fin g (some (x 2)) h := by kernel_rfl
end Go.Am
namespace Go.Am
open Go.Proofs
set_option maxRecDepth 100000
variable {β : Type} (x : Nat → Value) (h : Heap) (k : Ex → St → Option β) (r m : List Nat) (g : Heap)
noncomputable def c49_0 : Code := bodyC Tryd.f49 []
theorem c49_0_eq : cK c49_0 17 x h k =
(bn .lss 3 (x 1) (.int .i64 0)).bind fun v0 =>
(gd (wt v0 false) (ln 73 (gdV (wt v0 false) (x 0)) h)).bind fun v1 =>
(gd (wt v0 false) (bn .geq 3 (gdV (wt v0 false) (x 1)) v1)).bind fun v2 =>
(pickV v0 (.bool true) v2).bind fun v3 =>
cnd v3 (
k .ret ⟨ar 17 (up x [(4,(.int .u64 0)),(5,(x 1)),(6,v0),(7,v0),(8,(gdV (wt v0 false) (x 1))),(9,(gdV (wt v0 false) (x 0))),(10,v1),(11,v2),(12,v3)]), h⟩) (
(ia 73 (x 0) (x 1)).bind fun v4 =>
(ld 23 v4 h).bind fun v5 =>
k .ret ⟨ar 17 (up x [(4,v5),(5,(x 1)),(6,v0),(7,v0),(8,(gdV (wt v0 false) (x 1))),(9,(gdV (wt v0 false) (x 0))),(10,v1),(11,v2),(12,v3),(13,(x 0)),(14,(x 1)),(15,v4),(16,v5)]), h⟩) := by kernel_rfl
theorem call49 (a0 a1 : Value) : evC Tryd.prog 49 #[a0,a1] h = cK c49_0 17 (up un [(0,a0),(1,a1)]) (nm h) (retK Tryd.f49 Tryd.prog h) :=
  (evC_call 49 Tryd.f49 c49_0 Tryd.func49 (by kernel_rfl) #[a0,a1] h).trans (by kernel_rfl)
theorem ret49 : retK Tryd.f49 Tryd.prog g .ret ⟨ar 17 x, h⟩ = fin g (some (x 4)) h := by kernel_rfl
end Go.Am
namespace Go.Am
open Go.Proofs
set_option maxRecDepth 100000
variable {β : Type} (x : Nat → Value) (h : Heap) (k : Ex → St → Option β) (r m : List Nat) (g : Heap)
noncomputable def c11_0 : Code := bodyC Tryd.f11 []
theorem c11_0_eq : cK c11_0 27 x h k =
(bn .lss 3 (x 0) (.int .i64 1)).bind fun v0 =>
(gd (wt v0 false) (bn .gtr 3 (gdV (wt v0 false) (x 0)) (.int .i64 16))).bind fun v1 =>
(pickV v0 (.bool true) v1).bind fun v2 =>
(gd (wt v2 false) (bn .lss 3 (gdV (wt v2 false) (x 1)) (.int .i64 0))).bind fun v3 =>
(pickV v2 (.bool true) v3).bind fun v4 =>
(gd (wt v4 false) (bn .geq 3 (gdV (wt v4 false) (x 1)) (gdV (wt v4 false) (x 0)))).bind fun v5 =>
(pickV v4 (.bool true) v5).bind fun v6 =>
cnd v6 (
k .ret ⟨ar 27 (up x [(4,(.pointer Option.none)),(5,(.int .i64 1)),(6,(x 0)),(7,v0),(8,v0),(9,(gdV (wt v0 false) (x 0))),(10,v1),(11,v2),(12,v2),(13,(gdV (wt v2 false) (x 1))),(14,v3),(15,v4),(16,v4),(17,(gdV (wt v4 false) (x 1))),(18,(gdV (wt v4 false) (x 0))),(19,v5),(20,v6)]), h⟩) (
obH (ev 34 #[x 0] h) fun v7 h8 =>
(buildV Tryd.prog 96 #[(0, (x 0)), (1, (x 1)), (4, v7)]).bind fun v9 =>
obH (boxV Tryd.prog 96 v9 h8) fun v10 h11 =>
k .ret ⟨ar 27 (up x [(4,v10),(5,(.int .i64 0)),(6,(x 0)),(7,v0),(8,v0),(9,(gdV (wt v0 false) (x 0))),(10,v1),(11,v2),(12,v2),(13,(gdV (wt v2 false) (x 1))),(14,v3),(15,v4),(16,v4),(17,(gdV (wt v4 false) (x 1))),(18,(gdV (wt v4 false) (x 0))),(19,v5),(20,v6),(21,(x 0)),(22,(x 1)),(23,(x 0)),(24,v7),(25,v9),(26,v10)]), h11⟩) := by kernel_rfl
theorem call11 (a0 a1 : Value) : evC Tryd.prog 11 #[a0,a1] h = cK c11_0 27 (up un [(0,a0),(1,a1)]) (nm h) (retK Tryd.f11 Tryd.prog h) :=
  (evC_call 11 Tryd.f11 c11_0 Tryd.func11 (by kernel_rfl) #[a0,a1] h).trans (by kernel_rfl)
theorem ret11 : retK Tryd.f11 Tryd.prog g .ret ⟨ar 27 x, h⟩ = fin g (some (.tuple #[x 4, (x 5)])) h := by kernel_rfl
end Go.Am
namespace Go.Am
open Go.Proofs
set_option maxRecDepth 100000
variable {β : Type} (x : Nat → Value) (h : Heap) (k : Ex → St → Option β) (r m : List Nat) (g : Heap)
noncomputable def c16_0 : Code := bodyC Tryd.f16 []
theorem c16_0_eq : cK c16_0 47 x h k =
obH (boxV Tryd.prog 33 (x 0) h) fun v0 h1 =>
obH (ev 46 #[x 3] h1) fun v2 h3 =>
(extractV v2 0).bind fun v4 =>
(extractV v2 1).bind fun v5 =>
obH (allocV Tryd.prog 65 h3) fun v6 h7 =>
(sto 65 v6 v4 h7).bind fun h8 =>
(unV Tryd.prog .not v5).bind fun v9 =>
(gd (wt v9 false) (bn .lss 3 (gdV (wt v9 false) (x 1)) (.int .i64 0))).bind fun v10 =>
(pickV v9 (.bool true) v10).bind fun v11 =>
(gd (wt v11 false) (ld 33 v0 h8)).bind fun v12 =>
(gd (wt v11 false) (nilCheckV Tryd.prog v12)).bind fun v13 =>
(gd (wt v11 false) (fa 96 v13 0)).bind fun v14 =>
(gd (wt v11 false) (ld 3 v14 h8)).bind fun v15 =>
(gd (wt v11 false) (bn .geq 3 (gdV (wt v11 false) (x 1)) v15)).bind fun v16 =>
(pickV v11 (.bool true) v16).bind fun v17 =>
(gd (wt v17 false) (ld 33 v0 h8)).bind fun v18 =>
(gd (wt v17 false) (nilCheckV Tryd.prog v18)).bind fun v19 =>
(gd (wt v17 false) (fa 96 v19 1)).bind fun v20 =>
(gd (wt v17 false) (ld 3 v20 h8)).bind fun v21 =>
(gd (wt v17 false) (bn .eql 3 (gdV (wt v17 false) (x 1)) v21)).bind fun v22 =>
(pickV v17 (.bool true) v22).bind fun v23 =>
(gd (wt v23 false) (bn .lss 23 (gdV (wt v23 false) (x 2)) (.int .u64 1))).bind fun v24 =>
(pickV v23 (.bool true) v24).bind fun v25 =>
cnd v25 (
k .ret ⟨ar 47 (up x [(4,v0),(8,(.bool false)),(9,v6),(10,v5),(11,v2),(12,(x 3)),(13,v2),(14,v4),(15,v5),(16,v5),(17,v9),(18,v9),(19,(gdV (wt v9 false) (x 1))),(20,v10),(21,v11),(22,v11),(23,(gdV (wt v11 false) (x 1))),(24,v12),(25,v13),(26,v14),(27,v15),(28,v16),(29,v17),(30,v17),(31,(gdV (wt v17 false) (x 1))),(32,v18),(33,v19),(34,v20),(35,v21),(36,v22),(37,v23),(38,v23),(39,(gdV (wt v23 false) (x 2))),(40,v24),(41,v25)]), h8⟩) (
(fa 65 v6 0).bind fun v26 =>
(ld 63 v26 h8).bind fun v27 =>
obH (ev 47 #[v27,(.func (Go.Fn.func 48) #[] #[v0])] h8) fun v28 h29 =>
(unV Tryd.prog .not v28).bind fun v30 =>
k .ret ⟨ar 47 (up x [(4,v0),(8,v30),(9,v6),(10,v5),(11,v2),(12,(x 3)),(13,v2),(14,v4),(15,v5),(16,v5),(17,v9),(18,v9),(19,(gdV (wt v9 false) (x 1))),(20,v10),(21,v11),(22,v11),(23,(gdV (wt v11 false) (x 1))),(24,v12),(25,v13),(26,v14),(27,v15),(28,v16),(29,v17),(30,v17),(31,(gdV (wt v17 false) (x 1))),(32,v18),(33,v19),(34,v20),(35,v21),(36,v22),(37,v23),(38,v23),(39,(gdV (wt v23 false) (x 2))),(40,v24),(41,v25),(42,v26),(43,v27),(44,(.func (Go.Fn.func 48) #[] #[v0])),(45,v28),(46,v30)]), h29⟩) := by kernel_rfl
theorem call16 (a0 a1 a2 a3 : Value) : evC Tryd.prog 16 #[a0,a1,a2,a3] h = cK c16_0 47 (up un [(0,a0),(1,a1),(2,a2),(3,a3)]) (nm h) (retK Tryd.f16 Tryd.prog h) :=
  (evC_call 16 Tryd.f16 c16_0 Tryd.func16 (by kernel_rfl) #[a0,a1,a2,a3] h).trans (by kernel_rfl)
theorem ret16 : retK Tryd.f16 Tryd.prog g .ret ⟨ar 47 x, h⟩ = fin g (some (x 8)) h := by kernel_rfl
end Go.Am
namespace Go.Am
open Go.Proofs
set_option maxRecDepth 100000
variable {β : Type} (x : Nat → Value) (h : Heap) (k : Ex → St → Option β) (r m : List Nat) (g : Heap)
noncomputable def c48_0 : Code := bodyC Tryd.f48 []
noncomputable def c48_1 : Code := bodyC Tryd.f48 [false]
noncomputable def c48_2 : Code := bodyC Tryd.f48 [true]
noncomputable def d48_0 : Array Oper := opsC (bodyC Tryd.f48 [true, false])
noncomputable def c48_3 : Code := bodyC Tryd.f48 [true, false]
noncomputable def c48_4 : Code := bodyC Tryd.f48 [true, true]
theorem c48_0_eq : cK c48_0 32 x h k =
cK c48_1 32 x h (sK c48_2 k) := codeK_seq _ _ _ _ _ (by kernel_rfl) _ _
theorem c48_1_eq : cK c48_1 32 x h k =
obH (boxV Tryd.prog 68 (x 0) h) fun v0 h1 =>
k .normal ⟨ar 32 (up x [(2,v0),(3,(.bool false))]), h1⟩ := by kernel_rfl
theorem c48_2_eq : cK c48_2 32 x h k =
cK c48_3 32 x h (sK c48_4 k) := codeK_seq _ _ _ _ _ (by kernel_rfl) _ _
theorem d48_0_0 (k : St → Option β) : rD d48_0 0 32 x h r m k =
(fa 68 (x 2) 2).bind fun v2 =>
rD d48_0 1 32 (up x [(4,v2)]) h r m k := (regD_step _ _ d48_0 0 (by kernel_rfl) _ _ _ _).trans (by kernel_rfl)
theorem d48_0_1 (k : St → Option β) : rD d48_0 1 32 x h r m k =
(ld 38 (x 4) h).bind fun v3 =>
rD d48_0 2 32 (up x [(5,v3)]) h r m k := (regD_step _ _ d48_0 1 (by kernel_rfl) _ _ _ _).trans (by kernel_rfl)
theorem d48_0_2 (k : St → Option β) : rD d48_0 2 32 x h r m k =
(ld 33 (x 1) h).bind fun v4 =>
rD d48_0 3 32 (up x [(6,v4)]) h r m k := (regD_step _ _ d48_0 2 (by kernel_rfl) _ _ _ _).trans (by kernel_rfl)
theorem d48_0_3 (k : St → Option β) : rD d48_0 3 32 x h r m k =
(nilCheckV Tryd.prog (x 6)).bind fun v5 =>
rD d48_0 4 32 (up x [(7,v5)]) h r m k := (regD_step _ _ d48_0 3 (by kernel_rfl) _ _ _ _).trans (by kernel_rfl)
theorem d48_0_4 (k : St → Option β) : rD d48_0 4 32 x h r m k =
(fa 96 (x 7) 1).bind fun v6 =>
rD d48_0 5 32 (up x [(8,v6)]) h r m k := (regD_step _ _ d48_0 4 (by kernel_rfl) _ _ _ _).trans (by kernel_rfl)
theorem d48_0_5 (k : St → Option β) : rD d48_0 5 32 x h r m k =
(ld 3 (x 8) h).bind fun v7 =>
rD d48_0 6 32 (up x [(9,v7)]) h r m k := (regD_step _ _ d48_0 5 (by kernel_rfl) _ _ _ _).trans (by kernel_rfl)
theorem d48_0_6 (k : St → Option β) : rD d48_0 6 32 x h r m k =
obH (ev 25 #[x 5,x 9] h) fun v8 h9 =>
rD d48_0 7 32 (up x [(10,v8)]) h9 r m k := (regD_step _ _ d48_0 6 (by kernel_rfl) _ _ _ _).trans (by kernel_rfl)
theorem d48_0_7 (k : St → Option β) : rD d48_0 7 32 x h r m k =
rD d48_0 8 32 (up x [(11,(x 10))]) h r m k := regD_move _ _ d48_0 7 (by kernel_rfl) (by kernel_rfl) (by kernel_rfl) _ _ _ _ _ _ (by kernel_rfl) (by kernel_rfl)
theorem d48_0_8 (k : St → Option β) : rD d48_0 8 32 x h r m k =
(gd (wt (x 11) true) (fa 68 (x 2) 0)).bind fun v10 =>
rD d48_0 9 32 (up x [(12,v10)]) h r m k := (regD_step _ _ d48_0 8 (by kernel_rfl) _ _ _ _).trans (by kernel_rfl)
theorem d48_0_9 (k : St → Option β) : rD d48_0 9 32 x h r m k =
(gd (wt (x 11) true) (ld 3 (x 12) h)).bind fun v11 =>
rD d48_0 10 32 (up x [(13,v11)]) h r m k := (regD_step _ _ d48_0 9 (by kernel_rfl) _ _ _ _).trans (by kernel_rfl)
theorem d48_0_10 (k : St → Option β) : rD d48_0 10 32 x h r m k =
(gd (wt (x 11) true) (ld 33 (x 1) h)).bind fun v12 =>
rD d48_0 11 32 (up x [(14,v12)]) h r m k := (regD_step _ _ d48_0 10 (by kernel_rfl) _ _ _ _).trans (by kernel_rfl)
theorem d48_0_11 (k : St → Option β) : rD d48_0 11 32 x h r m k =
(gd (wt (x 11) true) (nilCheckV Tryd.prog (x 14))).bind fun v13 =>
rD d48_0 12 32 (up x [(15,v13)]) h r m k := (regD_step _ _ d48_0 11 (by kernel_rfl) _ _ _ _).trans (by kernel_rfl)
theorem d48_0_12 (k : St → Option β) : rD d48_0 12 32 x h r m k =
(gd (wt (x 11) true) (fa 96 (x 15) 1)).bind fun v14 =>
rD d48_0 13 32 (up x [(16,v14)]) h r m k := (regD_step _ _ d48_0 12 (by kernel_rfl) _ _ _ _).trans (by kernel_rfl)
theorem d48_0_13 (k : St → Option β) : rD d48_0 13 32 x h r m k =
(gd (wt (x 11) true) (ld 3 (x 16) h)).bind fun v15 =>
rD d48_0 14 32 (up x [(17,v15)]) h r m k := (regD_step _ _ d48_0 13 (by kernel_rfl) _ _ _ _).trans (by kernel_rfl)
theorem d48_0_14 (k : St → Option β) : rD d48_0 14 32 x h r m k =
(gd (wt (x 11) true) (bn .neq 3 (x 13) (x 17))).bind fun v16 =>
rD d48_0 15 32 (up x [(18,v16)]) h r m k := (regD_step _ _ d48_0 14 (by kernel_rfl) _ _ _ _).trans (by kernel_rfl)
theorem d48_0_15 (k : St → Option β) : rD d48_0 15 32 x h r m k =
(pickV (x 11) (x 18) (.bool false)).bind fun v17 =>
rD d48_0 16 32 (up x [(19,v17)]) h r m k := (regD_step _ _ d48_0 15 (by kernel_rfl) _ _ _ _).trans (by kernel_rfl)
theorem d48_0_16 (k : St → Option β) : rD d48_0 16 32 x h r m k =
rD d48_0 17 32 (up x [(20,(x 19))]) h r m k := regD_move _ _ d48_0 16 (by kernel_rfl) (by kernel_rfl) (by kernel_rfl) _ _ _ _ _ _ (by kernel_rfl) (by kernel_rfl)
theorem d48_0_17 (k : St → Option β) : rD d48_0 17 32 x h r m k =
(gd (wt (x 20) true) (ld 33 (x 1) h)).bind fun v18 =>
rD d48_0 18 32 (up x [(21,v18)]) h r m k := (regD_step _ _ d48_0 17 (by kernel_rfl) _ _ _ _).trans (by kernel_rfl)
theorem d48_0_18 (k : St → Option β) : rD d48_0 18 32 x h r m k =
(gd (wt (x 20) true) (nilCheckV Tryd.prog (x 21))).bind fun v19 =>
rD d48_0 19 32 (up x [(22,v19)]) h r m k := (regD_step _ _ d48_0 18 (by kernel_rfl) _ _ _ _).trans (by kernel_rfl)
theorem d48_0_19 (k : St → Option β) : rD d48_0 19 32 x h r m k =
(gd (wt (x 20) true) (fa 96 (x 22) 4)).bind fun v20 =>
rD d48_0 20 32 (up x [(23,v20)]) h r m k := (regD_step _ _ d48_0 19 (by kernel_rfl) _ _ _ _).trans (by kernel_rfl)
theorem d48_0_20 (k : St → Option β) : rD d48_0 20 32 x h r m k =
(gd (wt (x 20) true) (ld 73 (x 23) h)).bind fun v21 =>
rD d48_0 21 32 (up x [(24,v21)]) h r m k := (regD_step _ _ d48_0 20 (by kernel_rfl) _ _ _ _).trans (by kernel_rfl)
theorem d48_0_21 (k : St → Option β) : rD d48_0 21 32 x h r m k =
(gd (wt (x 20) true) (fa 68 (x 2) 0)).bind fun v22 =>
rD d48_0 22 32 (up x [(25,v22)]) h r m k := (regD_step _ _ d48_0 21 (by kernel_rfl) _ _ _ _).trans (by kernel_rfl)
theorem d48_0_22 (k : St → Option β) : rD d48_0 22 32 x h r m k =
(gd (wt (x 20) true) (ld 3 (x 25) h)).bind fun v23 =>
rD d48_0 23 32 (up x [(26,v23)]) h r m k := (regD_step _ _ d48_0 22 (by kernel_rfl) _ _ _ _).trans (by kernel_rfl)
theorem d48_0_23 (k : St → Option β) : rD d48_0 23 32 x h r m k =
obH (gdH (wt (x 20) true) (nm h) (ev 49 #[x 24,x 26] (nm h))) fun v24 h25 =>
rD d48_0 24 32 (up x [(27,v24)]) (am h25 h) r (h25.mods ++ m) k := (regD_step _ _ d48_0 23 (by kernel_rfl) _ _ _ _).trans (by kernel_rfl)
theorem d48_0_24 (k : St → Option β) : rD d48_0 24 32 x h r m k =
(gd (wt (x 20) true) (fa 68 (x 2) 1)).bind fun v26 =>
rD d48_0 25 32 (up x [(28,v26)]) h r m k := (regD_step _ _ d48_0 24 (by kernel_rfl) _ _ _ _).trans (by kernel_rfl)
theorem d48_0_25 (k : St → Option β) : rD d48_0 25 32 x h r m k =
(gd (wt (x 20) true) (ld 23 (x 28) h)).bind fun v27 =>
rD d48_0 26 32 (up x [(29,v27)]) h (rdL (wt (x 20) true) (rb (x 28)) ++ r) m k := (regD_step _ _ d48_0 25 (by kernel_rfl) _ _ _ _).trans (by kernel_rfl)
theorem d48_0_26 (k : St → Option β) : rD d48_0 26 32 x h r m k =
(gd (wt (x 20) true) (bn .lss 23 (x 27) (x 29))).bind fun v28 =>
rD d48_0 27 32 (up x [(30,v28)]) h r m k := (regD_step _ _ d48_0 26 (by kernel_rfl) _ _ _ _).trans (by kernel_rfl)
theorem d48_0_27 (k : St → Option β) : rD d48_0 27 32 x h r m k =
(pickV (x 20) (x 30) (.bool false)).bind fun v29 =>
rD d48_0 28 32 (up x [(31,v29)]) h r m k := (regD_step _ _ d48_0 27 (by kernel_rfl) _ _ _ _).trans (by kernel_rfl)
theorem d48_0_28 (k : St → Option β) : rD d48_0 28 32 x h r m k =
rD d48_0 29 32 (up x [(3,(x 31))]) h r m k := regD_move _ _ d48_0 28 (by kernel_rfl) (by kernel_rfl) (by kernel_rfl) _ _ _ _ _ _ (by kernel_rfl) (by kernel_rfl)
theorem d48_0_29 (k : St → Option β) : rD d48_0 29 32 x h r m k =
chk r m (k ⟨ar 32 x, h⟩) := by kernel_rfl
theorem c48_3_eq : cK c48_3 32 x h k =
rD d48_0 0 32 x h [] [] (fun s => k .normal s) := by kernel_rfl
theorem c48_4_eq : cK c48_4 32 x h k =
k .ret ⟨ar 32 x, h⟩ := by kernel_rfl
theorem ret48 : retK Tryd.f48 Tryd.prog g .ret ⟨ar 32 x, h⟩ = fin g (some (x 3)) h := by kernel_rfl
end Go.Am
namespace Go.Am
open Go.Proofs
set_option maxRecDepth 100000
variable {β : Type} (x : Nat → Value) (h : Heap) (k : Ex → St → Option β) (r m : List Nat) (g : Heap)
noncomputable def c47_0 : Code := bodyC Tryd.f47 []
theorem c47_0_eq : cK c47_0 9 x h k =
obH (ev 71 #[x 0,x 1] h) fun v0 h1 =>
(bn .geq 3 v0 (.int .i64 0)).bind fun v2 =>
k .ret ⟨ar 9 (up x [(4,v2),(5,(x 0)),(6,(x 1)),(7,v0),(8,v2)]), h1⟩ := by kernel_rfl
theorem call47 (a0 a1 : Value) : evC Tryd.prog 47 #[a0,a1] h = cK c47_0 9 (up un [(0,a0),(1,a1)]) (nm h) (retK Tryd.f47 Tryd.prog h) :=
  (evC_call 47 Tryd.f47 c47_0 Tryd.func47 (by kernel_rfl) #[a0,a1] h).trans (by kernel_rfl)
theorem ret47 : retK Tryd.f47 Tryd.prog g .ret ⟨ar 9 x, h⟩ = fin g (some (x 4)) h := by kernel_rfl
end Go.Am
namespace Go.Am
open Go.Proofs
set_option maxRecDepth 100000
variable {β : Type} (x : Nat → Value) (h : Heap) (k : Ex → St → Option β) (r m : List Nat) (g : Heap)
noncomputable def c71_0 : Code := bodyC Tryd.f71 []
noncomputable def c71_1 : Code := bodyC Tryd.f71 [true, false, true, false, false]
noncomputable def c71_2 : Code := bodyC Tryd.f71 [true, true]
theorem c71_0_eq : cK c71_0 19 x h k =
(ln 63 (x 0) h).bind fun v0 =>
lK c71_1 19 (up x [(4,(.int .i64 0)),(6,(x 0)),(7,v0),(8,(.int .i64 0))]) h (blockK 0 (sK c71_2 k)) := by kernel_rfl
theorem c71_1_eq : cK c71_1 19 x h k =
(bn .lss 3 (x 8) (x 7)).bind fun v1 =>
cnd v1 (
(ia 63 (x 0) (x 8)).bind fun v2 =>
(ld 68 v2 h).bind fun v3 =>
obH (callV Tryd.prog (evC Tryd.prog) (x 1) #[v3] h) fun v4 h5 =>
cnd v4 (
k .ret ⟨ar 19 (up x [(4,(x 8)),(5,(x 8)),(9,v1),(10,(x 8)),(11,(x 1)),(12,(x 0)),(13,(x 8)),(14,v2),(15,v3),(16,v4),(17,(x 8))]), h5⟩) (
(bn .add 3 (x 8) (.int .i64 1)).bind fun v6 =>
k .normal ⟨ar 19 (up x [(5,(x 8)),(8,v6),(9,v1),(10,(x 8)),(11,(x 1)),(12,(x 0)),(13,(x 8)),(14,v2),(15,v3),(16,v4),(18,v6)]), h5⟩)) (
k (.exit 0) ⟨ar 19 (up x [(9,v1)]), h⟩) := by kernel_rfl
theorem c71_2_eq : cK c71_2 19 x h k =
k .ret ⟨ar 19 (up x [(4,(.int .i64 (-1)))]), h⟩ := by kernel_rfl
theorem call71 (a0 a1 : Value) : evC Tryd.prog 71 #[a0,a1] h = cK c71_0 19 (up un [(0,a0),(1,a1)]) (nm h) (retK Tryd.f71 Tryd.prog h) :=
  (evC_call 71 Tryd.f71 c71_0 Tryd.func71 (by kernel_rfl) #[a0,a1] h).trans (by kernel_rfl)
theorem ret71 : retK Tryd.f71 Tryd.prog g .ret ⟨ar 19 x, h⟩ = fin g (some (x 4)) h := by kernel_rfl
end Go.Am
namespace Go.Am
open Go.Proofs
set_option maxRecDepth 100000
variable {β : Type} (x : Nat → Value) (h : Heap) (k : Ex → St → Option β) (r m : List Nat) (g : Heap)
noncomputable def c24_0 : Code := bodyC Tryd.f24 []
theorem c24_0_eq : cK c24_0 10 x h k =
obH (allocV Tryd.prog 65 h) fun v0 h1 =>
(nilCheckV Tryd.prog (x 0)).bind fun v2 =>
(fa 96 v2 2).bind fun v3 =>
(fa 65 v3 0).bind fun v4 =>
(ld 63 v4 h1).bind fun v5 =>
obH (ev 52 #[v5] h1) fun v6 h7 =>
(buildV Tryd.prog 65 #[(0, v6)]).bind fun v8 =>
(sto 65 v0 v8 h7).bind fun h9 =>
k .ret ⟨ar 10 (up x [(2,v0),(3,(x 0)),(4,v2),(5,v3),(6,v4),(7,v5),(8,v6),(9,v8)]), h9⟩ := by kernel_rfl
theorem call24 (a0 : Value) : evC Tryd.prog 24 #[a0] h = cK c24_0 10 (up un [(0,a0)]) (nm h) (retK Tryd.f24 Tryd.prog h) :=
  (evC_call 24 Tryd.f24 c24_0 Tryd.func24 (by kernel_rfl) #[a0] h).trans (by kernel_rfl)
theorem ret24 : retK Tryd.f24 Tryd.prog g .ret ⟨ar 10 x, h⟩ = fin g (rvals ((ld 65 (x 2) h).bind fun r0 => some [r0])) h := by kernel_rfl
end Go.Am
namespace Go.Am
open Go.Proofs
set_option maxRecDepth 100000
variable {β : Type} (x : Nat → Value) (h : Heap) (k : Ex → St → Option β) (r m : List Nat) (g : Heap)
end Go.Am
namespace Go.Am
open Go.Proofs
set_option maxRecDepth 100000
variable {β : Type} (x : Nat → Value) (h : Heap) (k : Ex → St → Option β) (r m : List Nat) (g : Heap)
end Go.Am
namespace Go.Am
open Go.Proofs
set_option maxRecDepth 100000
variable {β : Type} (x : Nat → Value) (h : Heap) (k : Ex → St → Option β) (r m : List Nat) (g : Heap)
noncomputable def c12_0 : Code := bodyC Tryd.f12 []
noncomputable def c12_1 : Code := bodyC Tryd.f12 [true, true, true, true, false, true, false, false]
noncomputable def c12_2 : Code := bodyC Tryd.f12 [true, true, true, true, true]
theorem c12_0_eq : cK c12_0 71 x h k =
(nilCheckV Tryd.prog (x 0)).bind fun v0 =>
(fa 96 v0 0).bind fun v1 =>
(ld 3 v1 h).bind fun v2 =>
obH (ev 35 #[v2] (nm h)) fun v3 h4 =>
(nilCheckV Tryd.prog (x 0)).bind fun v5 =>
(fa 96 v5 1).bind fun v6 =>
(ld 3 v6 (am h4 h)).bind fun v7 =>
obH (buildSliceV Tryd.prog 41 1 #[(0, v7)] (am h4 h)) fun v8 h9 =>
obH (ev 26 #[v8] h9) fun v10 h11 =>
(bn .andNot 38 v3 v10).bind fun v12 =>
(bn .and 38 (x 1) v12).bind fun v13 =>
chk ([(am h4 h).blks.length] ++ ((rb v6) ++ [])) (h4.mods ++ []) (
(nilCheckV Tryd.prog (x 0)).bind fun v14 =>
(fa 96 v14 3).bind fun v15 =>
(ld 23 v15 h11).bind fun v16 =>
(bn .add 23 v16 (.int .u64 1)).bind fun v17 =>
(nilCheckV Tryd.prog (x 0)).bind fun v18 =>
(fa 96 v18 3).bind fun v19 =>
(sto 23 v19 v17 h11).bind fun h20 =>
obH (ev 36 #[v13] h20) fun v21 h22 =>
(ln 41 v21 h22).bind fun v23 =>
lK c12_1 71 (up x [(1,v13),(4,(.slice Option.none 0 0)),(5,(.slice Option.none 0 0)),(8,(x 1)),(9,(x 0)),(10,v0),(11,v1),(12,v2),(13,v3),(14,(x 0)),(15,v5),(16,v6),(17,v7),(18,v8),(19,v10),(20,v12),(21,v13),(22,(x 0)),(23,v14),(24,v15),(25,v16),(26,v17),(27,v18),(28,v19),(29,v13),(30,v21),(31,v23),(32,(.int .i64 0))]) h22 (blockK 0 (sK c12_2 k))) := by kernel_rfl
theorem c12_1_eq : cK c12_1 71 x h k =
(bn .lss 3 (x 32) (x 31)).bind fun v24 =>
cnd v24 (
(ia 41 (x 30) (x 32)).bind fun v25 =>
(ld 3 v25 h).bind fun v26 =>
(nilCheckV Tryd.prog (x 0)).bind fun v27 =>
(fa 96 v27 2).bind fun v28 =>
(ld 65 v28 h).bind fun v29 =>
obH (ev 38 #[v29,x 1,v26] h) fun v30 h31 =>
obH (ev 37 #[v30] h31) fun v32 h33 =>
obH (ev 32 #[v32] h33) fun v34 h35 =>
obH (buildSliceV Tryd.prog 36 1 #[(0, v34)] h35) fun v36 h37 =>
obH (ap 36 (some 36) (x 5) v36 h37) fun v38 h39 =>
(bn .add 3 (x 32) (.int .i64 1)).bind fun v40 =>
k .normal ⟨ar 71 (up x [(5,v38),(7,v26),(32,v40),(33,v24),(34,v25),(35,v26),(36,(x 5)),(37,(x 0)),(38,v27),(39,v28),(40,v29),(41,(x 1)),(42,v26),(43,v30),(44,v32),(45,v34),(46,v36),(47,v38),(48,v40)]), h39⟩) (
k (.exit 0) ⟨ar 71 (up x [(33,v24)]), h⟩) := by kernel_rfl
theorem c12_2_eq : cK c12_2 71 x h k =
(nilCheckV Tryd.prog (x 0)).bind fun v41 =>
(fa 96 v41 2).bind fun v42 =>
(ld 65 v42 h).bind fun v43 =>
obH (ev 40 #[v43,x 1] (nm h)) fun v44 h45 =>
(nilCheckV Tryd.prog (x 0)).bind fun v46 =>
(fa 96 v46 1).bind fun v47 =>
(ld 3 v47 (am h45 h)).bind fun v48 =>
(nilCheckV Tryd.prog (x 0)).bind fun v49 =>
(fa 96 v49 3).bind fun v50 =>
(ld 23 v50 (am h45 h)).bind fun v51 =>
(buildV Tryd.prog 68 #[(0, v48), (1, v51), (2, (x 1))]).bind fun v52 =>
obH (ev 39 #[v44,v52] (am h45 h)) fun v53 h54 =>
obH (ev 37 #[v53] h54) fun v55 h56 =>
(nilCheckV Tryd.prog (x 0)).bind fun v57 =>
(fa 96 v57 2).bind fun v58 =>
(sto 65 v58 v55 h56).bind fun h59 =>
chk ((rb v50) ++ ((rb v47) ++ [])) (h45.mods ++ []) (
k .ret ⟨ar 71 (up x [(4,(x 5)),(49,(x 0)),(50,(x 0)),(51,v41),(52,v42),(53,v43),(54,(x 1)),(55,v44),(56,(x 0)),(57,v46),(58,v47),(59,v48),(60,(x 0)),(61,v49),(62,v50),(63,v51),(64,(x 1)),(65,v52),(66,v53),(67,v55),(68,v57),(69,v58),(70,(x 5))]), h59⟩) := by kernel_rfl
theorem call12 (a0 a1 : Value) : evC Tryd.prog 12 #[a0,a1] h = cK c12_0 71 (up un [(0,a0),(1,a1)]) (nm h) (retK Tryd.f12 Tryd.prog h) :=
  (evC_call 12 Tryd.f12 c12_0 Tryd.func12 (by kernel_rfl) #[a0,a1] h).trans (by kernel_rfl)
theorem ret12 : retK Tryd.f12 Tryd.prog g .ret ⟨ar 71 x, h⟩ = fin g (some (x 4)) h := by kernel_rfl
end Go.Am
namespace Go.Am
open Go.Proofs
set_option maxRecDepth 100000
variable {β : Type} (x : Nat → Value) (h : Heap) (k : Ex → St → Option β) (r m : List Nat) (g : Heap)
noncomputable def c23_0 : Code := bodyC Tryd.f23 []
theorem c23_0_eq : cK c23_0 59 x h k =
obH (ev 16 #[x 0,x 1,x 2,x 4] h) fun v0 h1 =>
(unV Tryd.prog .not v0).bind fun v2 =>
cnd v2 (
k .ret ⟨ar 59 (up x [(10,(.bool false)),(15,(x 0)),(16,(x 1)),(17,(x 2)),(18,(x 4)),(19,v0),(20,v2)]), h1⟩) (
(nilCheckV Tryd.prog (x 0)).bind fun v3 =>
(fa 96 v3 4).bind fun v4 =>
(ld 73 v4 h1).bind fun v5 =>
(ia 73 v5 (x 1)).bind fun v6 =>
(sto 23 v6 (x 2) h1).bind fun h7 =>
(nilCheckV Tryd.prog (x 0)).bind fun v8 =>
(fa 96 v8 1).bind fun v9 =>
(ld 3 v9 h7).bind fun v10 =>
obH (buildSliceV Tryd.prog 41 1 #[(0, v10)] h7) fun v11 h12 =>
obH (ev 26 #[v11] h12) fun v13 h14 =>
obH (ev 46 #[x 4] h14) fun v15 h16 =>
(extractV v15 0).bind fun v17 =>
(extractV v15 1).bind fun v18 =>
obH (allocV Tryd.prog 65 h16) fun v19 h20 =>
(sto 65 v19 v17 h20).bind fun h21 =>
(ld 65 v19 h21).bind fun v22 =>
(buildV Tryd.prog 68 #[(0, (x 1)), (1, (x 2)), (2, (x 3))]).bind fun v23 =>
obH (ev 39 #[v22,v23] h21) fun v24 h25 =>
obH (ev 40 #[v24,v13] h25) fun v26 h27 =>
obH (allocV Tryd.prog 65 h27) fun v28 h29 =>
(sto 65 v28 v26 h29).bind fun h30 =>
(nilCheckV Tryd.prog (x 0)).bind fun v31 =>
(fa 96 v31 2).bind fun v32 =>
(ld 65 v32 h30).bind fun v33 =>
(ld 65 v28 h30).bind fun v34 =>
obH (ev 51 #[v33,v34] h30) fun v35 h36 =>
obH (ev 40 #[v35,v13] h36) fun v37 h38 =>
obH (ev 37 #[v37] h38) fun v39 h40 =>
(nilCheckV Tryd.prog (x 0)).bind fun v41 =>
(fa 96 v41 2).bind fun v42 =>
(sto 65 v42 v39 h40).bind fun h43 =>
k .ret ⟨ar 59 (up x [(10,(.bool true)),(11,v13),(12,v19),(13,v18),(14,v28),(15,(x 0)),(16,(x 1)),(17,(x 2)),(18,(x 4)),(19,v0),(20,v2),(21,(x 0)),(22,v3),(23,v4),(24,v5),(25,(x 1)),(26,(x 2)),(27,v6),(28,(x 0)),(29,v8),(30,v9),(31,v10),(32,v11),(33,v13),(34,v15),(35,(x 4)),(36,v15),(37,v17),(38,v18),(39,v22),(40,(x 1)),(41,(x 2)),(42,(x 3)),(43,v23),(44,v24),(45,v13),(46,v26),(47,(x 0)),(48,(x 0)),(49,v31),(50,v32),(51,v33),(52,v34),(53,v35),(54,v13),(55,v37),(56,v39),(57,v41),(58,v42)]), h43⟩) := by kernel_rfl
theorem call23 (a0 a1 a2 a3 a4 : Value) : evC Tryd.prog 23 #[a0,a1,a2,a3,a4] h = cK c23_0 59 (up un [(0,a0),(1,a1),(2,a2),(3,a3),(4,a4)]) (nm h) (retK Tryd.f23 Tryd.prog h) :=
  (evC_call 23 Tryd.f23 c23_0 Tryd.func23 (by kernel_rfl) #[a0,a1,a2,a3,a4] h).trans (by kernel_rfl)
theorem ret23 : retK Tryd.f23 Tryd.prog g .ret ⟨ar 59 x, h⟩ = fin g (some (x 10)) h := by kernel_rfl
end Go.Am
namespace Go.Am
open Go.Proofs
set_option maxRecDepth 100000
variable {β : Type} (x : Nat → Value) (h : Heap) (k : Ex → St → Option β) (r m : List Nat) (g : Heap)
noncomputable def c20_0 : Code := bodyC Tryd.f20 []
theorem c20_0_eq : cK c20_0 52 x h k =
obH (ev 11 #[(.int .i64 2),(.int .i64 0)] h) fun v0 h1 =>
(extractV v0 0).bind fun v2 =>
(extractV v0 1).bind fun v3 =>
(bn .neq 27 v3 (.int .i64 0)).bind fun v4 =>
(gd (wt v4 false) (bn .eql 33 (gdV (wt v4 false) v2) (.pointer Option.none))).bind fun v5 =>
(pickV v4 (.bool true) v5).bind fun v6 =>
cnd v6 (
k .ret ⟨ar 52 (up x [(0,(.bool false)),(1,v2),(2,v3),(6,v0),(7,v0),(8,v2),(9,v3),(10,v3),(11,v4),(12,v4),(13,(gdV (wt v4 false) v2)),(14,v5),(15,v6)]), h1⟩) (
obH (buildSliceV Tryd.prog 41 1 #[(0, (.int .i64 1))] h1) fun v7 h8 =>
obH (ev 26 #[v7] h8) fun v9 h10 =>
obH (ev 12 #[v2,v9] h10) fun v11 h12 =>
obH (buildSliceV Tryd.prog 41 1 #[(0, (.int .i64 1))] h12) fun v13 h14 =>
obH (ev 26 #[v13] h14) fun v15 h16 =>
obH (ev 12 #[v2,v15] h16) fun v17 h18 =>
(ln 36 v17 h18).bind fun v19 =>
(bn .neq 3 v19 (.int .i64 1)).bind fun v20 =>
cnd v20 (
k .ret ⟨ar 52 (up x [(0,(.bool false)),(1,v2),(2,v3),(3,v17),(6,v0),(7,v0),(8,v2),(9,v3),(10,v3),(11,v4),(12,v4),(13,(gdV (wt v4 false) v2)),(14,v5),(15,v6),(16,v2),(17,v7),(18,v9),(19,v11),(20,v2),(21,v13),(22,v15),(23,v17),(24,v17),(25,v19),(26,v20)]), h18⟩) (
(ia 36 v17 (.int .i64 0)).bind fun v21 =>
(ld 40 v21 h18).bind fun v22 =>
obH (ev 46 #[v22] h18) fun v23 h24 =>
(extractV v23 0).bind fun v25 =>
(extractV v23 1).bind fun v26 =>
obH (allocV Tryd.prog 65 h24) fun v27 h28 =>
(sto 65 v27 v25 h28).bind fun h29 =>
(gd (wt v26 true) (fa 65 v27 0)).bind fun v30 =>
(gd (wt v26 true) (ld 63 v30 h29)).bind fun v31 =>
obH (gdH (wt v26 true) h29 (ev 30 #[v31] h29)) fun v32 h33 =>
(gd (wt v26 true) (buildV Tryd.prog 79 #[(0, (.int .i64 0)), (1, (.int .u64 1)), (2, (.int .u64 2))])).bind fun v34 =>
obH (gdH (wt v26 true) h33 (buildSliceV Tryd.prog 76 1 #[(0, v34)] h33)) fun v35 h36 =>
obH (gdH (wt v26 true) h36 (ev 29 #[v32,v35] h36)) fun v37 h38 =>
(pickV v26 v37 (.bool false)).bind fun v39 =>
obH (gdH (wt v39 true) h38 (ev 24 #[(gdV (wt v39 true) v2)] h38)) fun v40 h41 =>
(gd (wt v39 true) (fv 65 v40 0)).bind fun v42 =>
obH (gdH (wt v39 true) h41 (ev 30 #[v42] h41)) fun v43 h44 =>
(gd (wt v39 true) (buildV Tryd.prog 79 #[(0, (.int .i64 0)), (1, (.int .u64 2)), (2, (.int .u64 2))])).bind fun v45 =>
obH (gdH (wt v39 true) h44 (buildSliceV Tryd.prog 76 1 #[(0, v45)] h44)) fun v46 h47 =>
obH (gdH (wt v39 true) h47 (ev 29 #[v43,v46] h47)) fun v48 h49 =>
(pickV v39 v48 (.bool false)).bind fun v50 =>
k .ret ⟨ar 52 (up x [(0,v50),(1,v2),(2,v3),(3,v17),(4,v27),(5,v26),(6,v0),(7,v0),(8,v2),(9,v3),(10,v3),(11,v4),(12,v4),(13,(gdV (wt v4 false) v2)),(14,v5),(15,v6),(16,v2),(17,v7),(18,v9),(19,v11),(20,v2),(21,v13),(22,v15),(23,v17),(24,v17),(25,v19),(26,v20),(27,v23),(28,v17),(29,v21),(30,v22),(31,v23),(32,v25),(33,v26),(34,v26),(35,v26),(36,v30),(37,v31),(38,v32),(39,v34),(40,v35),(41,v37),(42,v39),(43,v39),(44,(gdV (wt v39 true) v2)),(45,v40),(46,v42),(47,v43),(48,v45),(49,v46),(50,v48),(51,v50)]), h49⟩)) := by kernel_rfl
theorem call20  : evC Tryd.prog 20 #[] h = cK c20_0 52 un (nm h) (retK Tryd.f20 Tryd.prog h) :=
  (evC_call 20 Tryd.f20 c20_0 Tryd.func20 (by kernel_rfl) #[] h).trans (by kernel_rfl)
theorem ret20 : retK Tryd.f20 Tryd.prog g .ret ⟨ar 52 x, h⟩ = fin g (some (x 0)) h := by kernel_rfl
end Go.Am
namespace Go.Am
open Go.Proofs
set_option maxRecDepth 100000
variable {β : Type} (x : Nat → Value) (h : Heap) (k : Ex → St → Option β) (r m : List Nat) (g : Heap)
end Go.Am
namespace Go.Am
open Go.Proofs
set_option maxRecDepth 100000
variable {β : Type} (x : Nat → Value) (h : Heap) (k : Ex → St → Option β) (r m : List Nat) (g : Heap)
noncomputable def c4_0 : Code := bodyC Tryd.f4 []
noncomputable def c4_1 : Code := bodyC Tryd.f4 [true, true, true, true, false, true, false, false]
noncomputable def c4_2 : Code := bodyC Tryd.f4 [true, true, true, true, true]
noncomputable def c4_3 : Code := bodyC Tryd.f4 [true, true, true, true, true, true, true, false, true, false, false]
noncomputable def c4_4 : Code := bodyC Tryd.f4 [true, true, true, true, true, true, true, true]
noncomputable def c4_5 : Code := bodyC Tryd.f4 [true, true, true, true, true, true, true, false, true, false, false, false]
noncomputable def c4_6 : Code := bodyC Tryd.f4 [true, true, true, true, true, true, true, false, true, false, false, true]
noncomputable def c4_7 : Code := bodyC Tryd.f4 [true, true, true, true, true, true, true, false, true, false, false, true, false]
noncomputable def c4_8 : Code := bodyC Tryd.f4 [true, true, true, true, true, true, true, false, true, false, false, true, true]
noncomputable def c4_9 : Code := bodyC Tryd.f4 [true, true, true, true, true, true, true, false, true, false, false, true, false, false]
noncomputable def c4_10 : Code := bodyC Tryd.f4 [true, true, true, true, true, true, true, false, true, false, false, true, false, false, false]
noncomputable def c4_11 : Code := bodyC Tryd.f4 [true, true, true, true, true, true, true, false, true, false, false, true, false, false, true]
noncomputable def c4_12 : Code := bodyC Tryd.f4 [true, true, true, true, true, true, true, false, true, false, false, true, false, false, true, false]
noncomputable def c4_13 : Code := bodyC Tryd.f4 [true, true, true, true, true, true, true, false, true, false, false, true, false, false, true, true]
noncomputable def c4_14 : Code := bodyC Tryd.f4 [true, true, true, true, true, true, true, false, true, false, false, true, false, false, true, true, false]
noncomputable def c4_15 : Code := bodyC Tryd.f4 [true, true, true, true, true, true, true, false, true, false, false, true, false, false, true, true, true]
noncomputable def c4_16 : Code := bodyC Tryd.f4 [true, true, true, true, true, true, true, false, true, false, false, true, false, false, true, true, false, false]
noncomputable def c4_17 : Code := bodyC Tryd.f4 [true, true, true, true, true, true, true, false, true, false, false, true, false, false, true, true, false, true]
noncomputable def c4_18 : Code := bodyC Tryd.f4 [true, true, true, true, true, true, true, false, true, false, false, true, false, false, true, true, true, true, false, true, false, false]
noncomputable def c4_19 : Code := bodyC Tryd.f4 [true, true, true, true, true, true, true, false, true, false, false, true, false, false, true, true, true, true, true]
noncomputable def c4_20 : Code := bodyC Tryd.f4 [true, true, true, true, true, true, true, false, true, false, false, true, false, false, true, true, false, true, false]
noncomputable def c4_21 : Code := bodyC Tryd.f4 [true, true, true, true, true, true, true, false, true, false, false, true, false, false, true, true, false, true, true]
noncomputable def c4_22 : Code := bodyC Tryd.f4 [true, true, true, true, true, true, true, false, true, false, false, true, false, false, true, true, true, true, false, true, false, false, true, false, false, false, true, false, false]
noncomputable def c4_23 : Code := bodyC Tryd.f4 [true, true, true, true, true, true, true, false, true, false, false, true, false, false, true, true, true, true, false, true, false, false, true, false, false, true]
noncomputable def c4_24 : Code := bodyC Tryd.f4 [true, true, true, true, true, true, true, false, true, false, false, true, false, false, true, true, true, true, false, true, false, false, true, true]
noncomputable def c4_25 : Code := bodyC Tryd.f4 [true, true, true, true, true, true, true, false, true, false, false, true, false, false, true, true, false, true, false, true, true, true, true, true, false, false]
noncomputable def c4_26 : Code := bodyC Tryd.f4 [true, true, true, true, true, true, true, false, true, false, false, true, false, false, true, true, false, true, true, false]
noncomputable def c4_27 : Code := bodyC Tryd.f4 [true, true, true, true, true, true, true, false, true, false, false, true, false, false, true, true, false, true, true, true]
noncomputable def c4_28 : Code := bodyC Tryd.f4 [true, true, true, true, true, true, true, false, true, false, false, true, false, false, true, true, false, true, true, true, false]
noncomputable def c4_29 : Code := bodyC Tryd.f4 [true, true, true, true, true, true, true, false, true, false, false, true, false, false, true, true, false, true, true, true, true]
noncomputable def c4_30 : Code := bodyC Tryd.f4 [true, true, true, true, true, true, true, false, true, false, false, true, false, false, true, true, false, true, true, true, false, false]
noncomputable def c4_31 : Code := bodyC Tryd.f4 [true, true, true, true, true, true, true, false, true, false, false, true, false, false, true, true, false, true, true, true, false, true]
noncomputable def d4_0 : Array Oper := opsC (bodyC Tryd.f4 [true, true, true, true, true, true, true, false, true, false, false, true, false, false, true, true, false, true, true, true, false, true, false])
noncomputable def c4_32 : Code := bodyC Tryd.f4 [true, true, true, true, true, true, true, false, true, false, false, true, false, false, true, true, false, true, true, true, false, true, false]
noncomputable def c4_33 : Code := bodyC Tryd.f4 [true, true, true, true, true, true, true, false, true, false, false, true, false, false, true, true, false, true, true, true, false, true, true]
theorem c4_0_eq : cK c4_0 292 x h k =
obH (ev 20 #[] h) fun v0 h1 =>
(unV Tryd.prog .not v0).bind fun v2 =>
cnd v2 (
k .ret ⟨ar 292 (up x [(4,(.bool false)),(22,v0),(23,v2)]), h1⟩) (
(bn .lss 3 (x 0) (.int .i64 1)).bind fun v3 =>
(gd (wt v3 false) (bn .gtr 3 (gdV (wt v3 false) (x 0)) (.int .i64 6))).bind fun v4 =>
(pickV v3 (.bool true) v4).bind fun v5 =>
(gd (wt v5 false) (ln 50 (gdV (wt v5 false) (x 1)) h1)).bind fun v6 =>
(gd (wt v5 false) (bn .gtr 3 v6 (.int .i64 40))).bind fun v7 =>
(pickV v5 (.bool true) v7).bind fun v8 =>
cnd v8 (
k .ret ⟨ar 292 (up x [(4,(.bool true)),(22,v0),(23,v2),(24,(x 0)),(25,v3),(26,v3),(27,(gdV (wt v3 false) (x 0))),(28,v4),(29,v5),(30,v5),(31,(gdV (wt v5 false) (x 1))),(32,v6),(33,v7),(34,v8)]), h1⟩) (
lK c4_1 292 (up x [(4,(.bool false)),(5,(.slice Option.none 0 0)),(6,(.int .i64 0)),(22,v0),(23,v2),(24,(x 0)),(25,v3),(26,v3),(27,(gdV (wt v3 false) (x 0))),(28,v4),(29,v5),(30,v5),(31,(gdV (wt v5 false) (x 1))),(32,v6),(33,v7),(34,v8)]) h1 (blockK 0 (sK c4_2 k)))) := by kernel_rfl
theorem c4_1_eq : cK c4_1 292 x h k =
(bn .lss 3 (x 6) (x 0)).bind fun v9 =>
cnd v9 (
obH (ev 11 #[x 0,x 6] h) fun v10 h11 =>
(extractV v10 0).bind fun v12 =>
(extractV v10 1).bind fun v13 =>
obH (buildSliceV Tryd.prog 51 1 #[(0, v12)] h11) fun v14 h15 =>
obH (ap 51 (some 51) (x 5) v14 h15) fun v16 h17 =>
(bn .add 3 (x 6) (.int .i64 1)).bind fun v18 =>
k .normal ⟨ar 292 (up x [(5,v16),(6,v18),(7,v12),(8,v13),(35,(x 6)),(36,(x 0)),(37,v9),(38,(x 6)),(39,v18),(40,v10),(41,(x 0)),(42,(x 6)),(43,v10),(44,v12),(45,v13),(46,(x 5)),(47,v12),(48,v14),(49,v16)]), h17⟩) (
k (.exit 0) ⟨ar 292 (up x [(35,(x 6)),(36,(x 0)),(37,v9)]), h⟩) := by kernel_rfl
theorem c4_2_eq : cK c4_2 292 x h k =
(bn .mul 3 (x 0) (x 0)).bind fun v19 =>
obH (makeSliceV Tryd.prog 52 v19 v19 h) fun v20 h21 =>
obH (makeSliceV Tryd.prog 53 (x 0) (x 0) h21) fun v22 h23 =>
lK c4_3 292 (up x [(9,v20),(10,v22),(11,(.int .i64 0)),(50,(x 0)),(51,(x 0)),(52,v19),(53,v20),(54,(x 0)),(55,v22)]) h23 (blockK 2 (sK c4_4 k)) := by kernel_rfl
theorem c4_3_eq : cK c4_3 292 x h k =
cK c4_5 292 x h (sK c4_6 k) := codeK_seq _ _ _ _ _ (by kernel_rfl) _ _
theorem c4_4_eq : cK c4_4 292 x h k =
k .ret ⟨ar 292 (up x [(4,(.bool true))]), h⟩ := by kernel_rfl
theorem c4_5_eq : cK c4_5 292 x h k =
(ln 50 (x 1) h).bind fun v24 =>
(bn .lss 3 (x 11) v24).bind fun v25 =>
cnd v25 (
k .normal ⟨ar 292 (up x [(56,(x 11)),(57,(x 1)),(58,v24),(59,v25)]), h⟩) (
k (.exit 2) ⟨ar 292 (up x [(56,(x 11)),(57,(x 1)),(58,v24),(59,v25)]), h⟩) := by kernel_rfl
theorem c4_6_eq : cK c4_6 292 x h k =
cK c4_7 292 x h (sK c4_8 k) := codeK_seq _ _ _ _ _ (by kernel_rfl) _ _
theorem c4_7_eq : cK c4_7 292 x h k =
cK c4_9 292 x h (blockK 3 k) := codeK_block _ _ _ _ _ (by kernel_rfl) _ _
theorem c4_8_eq : cK c4_8 292 x h k =
(bn .add 3 (x 11) (.int .i64 1)).bind fun v26 =>
k .normal ⟨ar 292 (up x [(11,v26),(60,(x 11)),(61,v26)]), h⟩ := by kernel_rfl
theorem c4_9_eq : cK c4_9 292 x h k =
cK c4_10 292 x h (sK c4_11 k) := codeK_seq _ _ _ _ _ (by kernel_rfl) _ _
theorem c4_10_eq : cK c4_10 292 x h k =
(ia 50 (x 1) (x 11)).bind fun v27 =>
(ld 55 v27 h).bind fun v28 =>
obH (allocV Tryd.prog 55 h) fun v29 h30 =>
(sto 55 v29 v28 h30).bind fun h31 =>
k .normal ⟨ar 292 (up x [(12,v29),(62,(x 1)),(63,(x 11)),(64,v27),(65,v28)]), h31⟩ := by kernel_rfl
theorem c4_11_eq : cK c4_11 292 x h k =
cK c4_12 292 x h (sK c4_13 k) := codeK_seq _ _ _ _ _ (by kernel_rfl) _ _
theorem c4_12_eq : cK c4_12 292 x h k =
(fa 55 (x 12) 1).bind fun v32 =>
(ld 3 v32 h).bind fun v33 =>
(bn .lss 3 v33 (.int .i64 0)).bind fun v34 =>
(gd (wt v34 false) (fa 55 (x 12) 1)).bind fun v35 =>
(gd (wt v34 false) (ld 3 v35 h)).bind fun v36 =>
(gd (wt v34 false) (bn .geq 3 v36 (gdV (wt v34 false) (x 0)))).bind fun v37 =>
(pickV v34 (.bool true) v37).bind fun v38 =>
cnd v38 (
k .ret ⟨ar 292 (up x [(4,(.bool true)),(66,v32),(67,v33),(68,v34),(69,v34),(70,v35),(71,v36),(72,(gdV (wt v34 false) (x 0))),(73,v37),(74,v38)]), h⟩) (
k .normal ⟨ar 292 (up x [(66,v32),(67,v33),(68,v34),(69,v34),(70,v35),(71,v36),(72,(gdV (wt v34 false) (x 0))),(73,v37),(74,v38)]), h⟩) := by kernel_rfl
theorem c4_13_eq : cK c4_13 292 x h k =
cK c4_14 292 x h (sK c4_15 k) := codeK_seq _ _ _ _ _ (by kernel_rfl) _ _
theorem c4_14_eq : cK c4_14 292 x h k =
cK c4_16 292 x h (sK c4_17 k) := codeK_seq _ _ _ _ _ (by kernel_rfl) _ _
theorem c4_15_eq : cK c4_15 292 x h k =
(fa 55 (x 12) 1).bind fun v39 =>
(ld 3 v39 h).bind fun v40 =>
(ia 51 (x 5) v40).bind fun v41 =>
(ld 33 v41 h).bind fun v42 =>
obH (ev 24 #[v42] h) fun v43 h44 =>
obH (allocV Tryd.prog 65 h44) fun v45 h46 =>
(sto 65 v45 v43 h46).bind fun h47 =>
lK c4_18 292 (up x [(19,v45),(20,(.int .i64 0)),(209,(x 5)),(210,v39),(211,v40),(212,v41),(213,v42),(214,v43)]) h47 (blockK 6 (sK c4_19 k)) := by kernel_rfl
theorem c4_16_eq : cK c4_16 292 x h k =
(fa 55 (x 12) 0).bind fun v48 =>
(ld 3 v48 h).bind fun v49 =>
(bn .eql 3 v49 (.int .i64 0)).bind fun v50 =>
k .normal ⟨ar 292 (up x [(75,v48),(76,v49),(77,v50)]), h⟩ := by kernel_rfl
theorem c4_17_eq : cK c4_17 292 x h k =
cnd (x 77) (cK c4_20 292 x h k) (cK c4_21 292 x h k) := (codeK_cond _ _ _ (.tmp 77) c4_20 c4_21 (by kernel_rfl) (by kernel_rfl) _ _).trans (by kernel_rfl)
theorem c4_18_eq : cK c4_18 292 x h k =
(fa 65 (x 19) 0).bind fun v51 =>
(ld 63 v51 h).bind fun v52 =>
(ln 63 v52 h).bind fun v53 =>
(bn .lss 3 (x 20) v53).bind fun v54 =>
cnd v54 (
lK c4_22 292 (up x [(21,(.int .i64 0)),(215,(x 20)),(216,v51),(217,v52),(218,v53),(219,v54)]) h (blockK 8 (sK c4_23 (blockK 7 (sK c4_24 k))))) (
k (.exit 6) ⟨ar 292 (up x [(215,(x 20)),(216,v51),(217,v52),(218,v53),(219,v54)]), h⟩) := by kernel_rfl
theorem c4_19_eq : cK c4_19 292 x h k =
(fa 65 (x 19) 0).bind fun v55 =>
(ld 63 v55 h).bind fun v56 =>
(ln 63 v56 h).bind fun v57 =>
(bn .mul 3 (x 0) (x 0)).bind fun v58 =>
(bn .add 3 v58 (x 0)).bind fun v59 =>
(bn .gtr 3 v57 v59).bind fun v60 =>
cnd v60 (
k .ret ⟨ar 292 (up x [(4,(.bool false)),(283,v55),(284,v56),(285,v57),(286,(x 0)),(287,(x 0)),(288,v58),(289,(x 0)),(290,v59),(291,v60)]), h⟩) (
k .normal ⟨ar 292 (up x [(283,v55),(284,v56),(285,v57),(286,(x 0)),(287,(x 0)),(288,v58),(289,(x 0)),(290,v59),(291,v60)]), h⟩) := by kernel_rfl
theorem c4_20_eq : cK c4_20 292 x h k =
(fa 55 (x 12) 3).bind fun v61 =>
(ld 23 v61 h).bind fun v62 =>
obH (ev 21 #[x 0] (nm h)) fun v63 h64 =>
(bn .and 23 v62 v63).bind fun v65 =>
(fa 55 (x 12) 1).bind fun v66 =>
(ld 3 v66 (am h64 h)).bind fun v67 =>
obH (cv 3 57 v67 (am h64 h)) fun v68 h69 =>
(bn .shl 23 (.int .u64 1) v68).bind fun v70 =>
(bn .andNot 23 v65 v70).bind fun v71 =>
chk ((rb v66) ++ ((rb v61) ++ [])) (h64.mods ++ []) (
(fa 55 (x 12) 1).bind fun v72 =>
(ld 3 v72 h69).bind fun v73 =>
(ia 51 (x 5) v73).bind fun v74 =>
(ld 33 v74 h69).bind fun v75 =>
obH (ev 12 #[v75,v71] h69) fun v76 h77 =>
(fa 55 (x 12) 1).bind fun v78 =>
(ld 3 v78 h77).bind fun v79 =>
(ia 53 (x 10) v79).bind fun v80 =>
(ld 23 v80 h77).bind fun v81 =>
(bn .add 23 v81 (.int .u64 1)).bind fun v82 =>
(ia 53 (x 10) v79).bind fun v83 =>
(sto 23 v83 v82 h77).bind fun h84 =>
obH (ev 22 #[v71] h84) fun v85 h86 =>
lK c4_25 292 (up x [(13,v71),(14,v76),(15,v85),(16,(.int .i64 0)),(78,v61),(79,v62),(80,(x 0)),(81,v63),(82,v65),(83,v66),(84,v67),(85,v68),(86,v70),(87,v71),(88,(x 5)),(89,v72),(90,v73),(91,v74),(92,v75),(93,v71),(94,v76),(95,(x 10)),(96,v78),(97,v79),(98,v80),(99,v81),(100,v82),(101,v83),(102,v71),(103,v85)]) h86 (blockK 4 k)) := by kernel_rfl
theorem c4_21_eq : cK c4_21 292 x h k =
cK c4_26 292 x h (sK c4_27 k) := codeK_seq _ _ _ _ _ (by kernel_rfl) _ _
theorem c4_22_eq : cK c4_22 292 x h k =
(bn .lss 3 (x 21) (x 20)).bind fun v87 =>
cnd v87 (
(fa 65 (x 19) 0).bind fun v88 =>
(ld 63 v88 h).bind fun v89 =>
(ia 63 v89 (x 20)).bind fun v90 =>
(fa 68 v90 0).bind fun v91 =>
(ld 3 v91 h).bind fun v92 =>
(fa 65 (x 19) 0).bind fun v93 =>
(ld 63 v93 h).bind fun v94 =>
(ia 63 v94 (x 21)).bind fun v95 =>
(fa 68 v95 0).bind fun v96 =>
(ld 3 v96 h).bind fun v97 =>
(bn .eql 3 v92 v97).bind fun v98 =>
(gd (wt v98 true) (fa 65 (x 19) 0)).bind fun v99 =>
(gd (wt v98 true) (ld 63 v99 h)).bind fun v100 =>
(gd (wt v98 true) (ia 63 v100 (gdV (wt v98 true) (x 20)))).bind fun v101 =>
(gd (wt v98 true) (fa 68 v101 2)).bind fun v102 =>
(gd (wt v98 true) (ld 38 v102 h)).bind fun v103 =>
(gd (wt v98 true) (fa 65 (x 19) 0)).bind fun v104 =>
(gd (wt v98 true) (ld 63 v104 h)).bind fun v105 =>
(gd (wt v98 true) (ia 63 v105 (gdV (wt v98 true) (x 21)))).bind fun v106 =>
(gd (wt v98 true) (fa 68 v106 2)).bind fun v107 =>
(gd (wt v98 true) (ld 38 v107 h)).bind fun v108 =>
(gd (wt v98 true) (bn .and 38 v103 v108)).bind fun v109 =>
(gd (wt v98 true) (bn .neq 38 v109 (.int .u64 0))).bind fun v110 =>
(pickV v98 v110 (.bool false)).bind fun v111 =>
cnd v111 (
k .ret ⟨ar 292 (up x [(4,(.bool false)),(222,(x 21)),(223,(x 20)),(224,v87),(227,v88),(228,v89),(229,(x 20)),(230,v90),(231,v91),(232,v92),(233,v93),(234,v94),(235,(x 21)),(236,v95),(237,v96),(238,v97),(239,v98),(240,v98),(241,v99),(242,v100),(243,(gdV (wt v98 true) (x 20))),(244,v101),(245,v102),(246,v103),(247,v104),(248,v105),(249,(gdV (wt v98 true) (x 21))),(250,v106),(251,v107),(252,v108),(253,v109),(254,v110),(255,v111)]), h⟩) (
(bn .add 3 (x 21) (.int .i64 1)).bind fun v112 =>
k .normal ⟨ar 292 (up x [(21,v112),(222,(x 21)),(223,(x 20)),(224,v87),(225,(x 21)),(226,v112),(227,v88),(228,v89),(229,(x 20)),(230,v90),(231,v91),(232,v92),(233,v93),(234,v94),(235,(x 21)),(236,v95),(237,v96),(238,v97),(239,v98),(240,v98),(241,v99),(242,v100),(243,(gdV (wt v98 true) (x 20))),(244,v101),(245,v102),(246,v103),(247,v104),(248,v105),(249,(gdV (wt v98 true) (x 21))),(250,v106),(251,v107),(252,v108),(253,v109),(254,v110),(255,v111)]), h⟩)) (
k (.exit 8) ⟨ar 292 (up x [(222,(x 21)),(223,(x 20)),(224,v87)]), h⟩) := by kernel_rfl
theorem c4_23_eq : cK c4_23 292 x h k =
(fa 65 (x 19) 0).bind fun v113 =>
(ld 63 v113 h).bind fun v114 =>
(ia 63 v114 (x 20)).bind fun v115 =>
(fa 68 v115 1).bind fun v116 =>
(ld 23 v116 h).bind fun v117 =>
(fa 65 (x 19) 0).bind fun v118 =>
(ld 63 v118 h).bind fun v119 =>
(ia 63 v119 (x 20)).bind fun v120 =>
(fa 68 v120 0).bind fun v121 =>
(ld 3 v121 h).bind fun v122 =>
(ia 53 (x 10) v122).bind fun v123 =>
(ld 23 v123 h).bind fun v124 =>
(bn .gtr 23 v117 v124).bind fun v125 =>
(gd (wt v125 false) (fa 65 (x 19) 0)).bind fun v126 =>
(gd (wt v125 false) (ld 63 v126 h)).bind fun v127 =>
(gd (wt v125 false) (ia 63 v127 (gdV (wt v125 false) (x 20)))).bind fun v128 =>
(gd (wt v125 false) (fa 68 v128 2)).bind fun v129 =>
(gd (wt v125 false) (ld 38 v129 h)).bind fun v130 =>
(gd (wt v125 false) (fa 55 (x 12) 1)).bind fun v131 =>
(gd (wt v125 false) (ld 3 v131 h)).bind fun v132 =>
obH (gdH (wt v125 false) h (ev 25 #[v130,v132] h)) fun v133 h134 =>
(pickV v125 (.bool true) v133).bind fun v135 =>
cnd v135 (
k .ret ⟨ar 292 (up x [(4,(.bool false)),(256,v113),(257,v114),(258,(x 20)),(259,v115),(260,v116),(261,v117),(262,(x 10)),(263,v118),(264,v119),(265,(x 20)),(266,v120),(267,v121),(268,v122),(269,v123),(270,v124),(271,v125),(272,v125),(273,v126),(274,v127),(275,(gdV (wt v125 false) (x 20))),(276,v128),(277,v129),(278,v130),(279,v131),(280,v132),(281,v133),(282,v135)]), h134⟩) (
k .normal ⟨ar 292 (up x [(256,v113),(257,v114),(258,(x 20)),(259,v115),(260,v116),(261,v117),(262,(x 10)),(263,v118),(264,v119),(265,(x 20)),(266,v120),(267,v121),(268,v122),(269,v123),(270,v124),(271,v125),(272,v125),(273,v126),(274,v127),(275,(gdV (wt v125 false) (x 20))),(276,v128),(277,v129),(278,v130),(279,v131),(280,v132),(281,v133),(282,v135)]), h134⟩) := by kernel_rfl
theorem c4_24_eq : cK c4_24 292 x h k =
(bn .add 3 (x 20) (.int .i64 1)).bind fun v136 =>
k .normal ⟨ar 292 (up x [(20,v136),(220,(x 20)),(221,v136)]), h⟩ := by kernel_rfl
theorem c4_25_eq : cK c4_25 292 x h k =
(ln 41 (x 15) h).bind fun v137 =>
(bn .lss 3 (x 16) v137).bind fun v138 =>
(gd (wt v138 true) (ln 36 (gdV (wt v138 true) (x 14)) h)).bind fun v139 =>
(gd (wt v138 true) (bn .lss 3 (gdV (wt v138 true) (x 16)) v139)).bind fun v140 =>
(pickV v138 v140 (.bool false)).bind fun v141 =>
cnd v141 (
(fa 55 (x 12) 1).bind fun v142 =>
(ld 3 v142 h).bind fun v143 =>
(bn .mul 3 v143 (x 0)).bind fun v144 =>
(ia 41 (x 15) (x 16)).bind fun v145 =>
(ld 3 v145 h).bind fun v146 =>
(bn .add 3 v144 v146).bind fun v147 =>
(ia 52 (x 9) v147).bind fun v148 =>
(ld 59 v148 h).bind fun v149 =>
(fa 55 (x 12) 1).bind fun v150 =>
(ld 3 v150 h).bind fun v151 =>
(fa 55 (x 12) 1).bind fun v152 =>
(ld 3 v152 h).bind fun v153 =>
(ia 53 (x 10) v153).bind fun v154 =>
(ld 23 v154 h).bind fun v155 =>
(ia 36 (x 14) (x 16)).bind fun v156 =>
(ld 40 v156 h).bind fun v157 =>
(buildV Tryd.prog 61 #[(0, v151), (2, v155), (3, (x 13)), (4, v157)]).bind fun v158 =>
obH (buildSliceV Tryd.prog 59 1 #[(0, v158)] h) fun v159 h160 =>
obH (ap 59 (some 59) v149 v159 h160) fun v161 h162 =>
(ia 52 (x 9) v147).bind fun v163 =>
(sto 59 v163 v161 h162).bind fun h164 =>
(bn .add 3 (x 16) (.int .i64 1)).bind fun v165 =>
k .normal ⟨ar 292 (up x [(16,v165),(17,v147),(104,(x 16)),(105,(x 15)),(106,v137),(107,v138),(108,v138),(109,(gdV (wt v138 true) (x 16))),(110,(gdV (wt v138 true) (x 14))),(111,v139),(112,v140),(113,v141),(114,(x 16)),(115,v165),(116,v142),(117,v143),(118,(x 0)),(119,v144),(120,(x 15)),(121,(x 16)),(122,v145),(123,v146),(124,v147),(125,(x 9)),(126,v147),(127,(x 9)),(128,v147),(129,v148),(130,v149),(131,v150),(132,v151),(133,(x 10)),(134,v152),(135,v153),(136,v154),(137,v155),(138,(x 13)),(139,(x 14)),(140,(x 16)),(141,v156),(142,v157),(143,v158),(144,v159),(145,v161),(146,v163)]), h164⟩) (
k (.exit 4) ⟨ar 292 (up x [(104,(x 16)),(105,(x 15)),(106,v137),(107,v138),(108,v138),(109,(gdV (wt v138 true) (x 16))),(110,(gdV (wt v138 true) (x 14))),(111,v139),(112,v140),(113,v141)]), h⟩) := by kernel_rfl
theorem c4_26_eq : cK c4_26 292 x h k =
(fa 55 (x 12) 2).bind fun v166 =>
(ld 3 v166 h).bind fun v167 =>
(bn .geq 3 v167 (.int .i64 0)).bind fun v168 =>
k .normal ⟨ar 292 (up x [(147,v166),(148,v167),(149,v168)]), h⟩ := by kernel_rfl
theorem c4_27_eq : cK c4_27 292 x h k =
cnd (x 149) (cK c4_28 292 x h k) (cK c4_29 292 x h k) := (codeK_cond _ _ _ (.tmp 149) c4_28 c4_29 (by kernel_rfl) (by kernel_rfl) _ _).trans (by kernel_rfl)
theorem c4_28_eq : cK c4_28 292 x h k =
cK c4_30 292 x h (sK c4_31 k) := codeK_seq _ _ _ _ _ (by kernel_rfl) _ _
theorem c4_29_eq : cK c4_29 292 x h k =
k .normal ⟨ar 292 x, h⟩ := by kernel_rfl
theorem c4_30_eq : cK c4_30 292 x h k =
(fa 55 (x 12) 2).bind fun v169 =>
(ld 3 v169 h).bind fun v170 =>
(bn .rem 3 v170 (x 0)).bind fun v171 =>
(bn .mul 3 v171 (x 0)).bind fun v172 =>
(fa 55 (x 12) 1).bind fun v173 =>
(ld 3 v173 h).bind fun v174 =>
(bn .add 3 v172 v174).bind fun v175 =>
k .normal ⟨ar 292 (up x [(18,v175),(150,v169),(151,v170),(152,(x 0)),(153,v171),(154,(x 0)),(155,v172),(156,v173),(157,v174),(158,v175)]), h⟩ := by kernel_rfl
theorem c4_31_eq : cK c4_31 292 x h k =
cK c4_32 292 x h (sK c4_33 k) := codeK_seq _ _ _ _ _ (by kernel_rfl) _ _
theorem d4_0_0 (k : St → Option β) : rD d4_0 0 292 x h r m k =
rD d4_0 1 292 (up x [(159,(x 9))]) h r m k := regD_move _ _ d4_0 0 (by kernel_rfl) (by kernel_rfl) (by kernel_rfl) _ _ _ _ _ _ (by kernel_rfl) (by kernel_rfl)
theorem d4_0_1 (k : St → Option β) : rD d4_0 1 292 x h r m k =
rD d4_0 2 292 (up x [(160,(x 18))]) h r m k := regD_move _ _ d4_0 1 (by kernel_rfl) (by kernel_rfl) (by kernel_rfl) _ _ _ _ _ _ (by kernel_rfl) (by kernel_rfl)
theorem d4_0_2 (k : St → Option β) : rD d4_0 2 292 x h r m k =
(ia 52 (x 159) (x 160)).bind fun v176 =>
rD d4_0 3 292 (up x [(161,v176)]) h r m k := (regD_step _ _ d4_0 2 (by kernel_rfl) _ _ _ _).trans (by kernel_rfl)
theorem d4_0_3 (k : St → Option β) : rD d4_0 3 292 x h r m k =
(ld 59 (x 161) h).bind fun v177 =>
rD d4_0 4 292 (up x [(162,v177)]) h r m k := (regD_step _ _ d4_0 3 (by kernel_rfl) _ _ _ _).trans (by kernel_rfl)
theorem d4_0_4 (k : St → Option β) : rD d4_0 4 292 x h r m k =
(ln 59 (x 162) h).bind fun v178 =>
rD d4_0 5 292 (up x [(163,v178)]) h r m k := (regD_step _ _ d4_0 4 (by kernel_rfl) _ _ _ _).trans (by kernel_rfl)
theorem d4_0_5 (k : St → Option β) : rD d4_0 5 292 x h r m k =
(bn .gtr 3 (x 163) (.int .i64 0)).bind fun v179 =>
rD d4_0 6 292 (up x [(164,v179)]) h r m k := (regD_step _ _ d4_0 5 (by kernel_rfl) _ _ _ _).trans (by kernel_rfl)
theorem d4_0_6 (k : St → Option β) : rD d4_0 6 292 x h r m k =
rD d4_0 7 292 (up x [(165,(x 164))]) h r m k := regD_move _ _ d4_0 6 (by kernel_rfl) (by kernel_rfl) (by kernel_rfl) _ _ _ _ _ _ (by kernel_rfl) (by kernel_rfl)
theorem d4_0_7 (k : St → Option β) : rD d4_0 7 292 x h r m k =
rD d4_0 8 292 (up x [(166,(gdV (wt (x 165) true) (x 5)))]) h r m k := regD_move _ _ d4_0 7 (by kernel_rfl) (by kernel_rfl) (by kernel_rfl) _ _ _ _ _ _ (by kernel_rfl) (by kernel_rfl)
theorem d4_0_8 (k : St → Option β) : rD d4_0 8 292 x h r m k =
(gd (wt (x 165) true) (fa 55 (x 12) 1)).bind fun v180 =>
rD d4_0 9 292 (up x [(167,v180)]) h r m k := (regD_step _ _ d4_0 8 (by kernel_rfl) _ _ _ _).trans (by kernel_rfl)
theorem d4_0_9 (k : St → Option β) : rD d4_0 9 292 x h r m k =
(gd (wt (x 165) true) (ld 3 (x 167) h)).bind fun v181 =>
rD d4_0 10 292 (up x [(168,v181)]) h r m k := (regD_step _ _ d4_0 9 (by kernel_rfl) _ _ _ _).trans (by kernel_rfl)
theorem d4_0_10 (k : St → Option β) : rD d4_0 10 292 x h r m k =
(gd (wt (x 165) true) (ia 51 (x 166) (x 168))).bind fun v182 =>
rD d4_0 11 292 (up x [(169,v182)]) h r m k := (regD_step _ _ d4_0 10 (by kernel_rfl) _ _ _ _).trans (by kernel_rfl)
theorem d4_0_11 (k : St → Option β) : rD d4_0 11 292 x h r m k =
(gd (wt (x 165) true) (ld 33 (x 169) h)).bind fun v183 =>
rD d4_0 12 292 (up x [(170,v183)]) h r m k := (regD_step _ _ d4_0 11 (by kernel_rfl) _ _ _ _).trans (by kernel_rfl)
theorem d4_0_12 (k : St → Option β) : rD d4_0 12 292 x h r m k =
rD d4_0 13 292 (up x [(171,(gdV (wt (x 165) true) (x 9)))]) h r m k := regD_move _ _ d4_0 12 (by kernel_rfl) (by kernel_rfl) (by kernel_rfl) _ _ _ _ _ _ (by kernel_rfl) (by kernel_rfl)
theorem d4_0_13 (k : St → Option β) : rD d4_0 13 292 x h r m k =
rD d4_0 14 292 (up x [(172,(gdV (wt (x 165) true) (x 18)))]) h r m k := regD_move _ _ d4_0 13 (by kernel_rfl) (by kernel_rfl) (by kernel_rfl) _ _ _ _ _ _ (by kernel_rfl) (by kernel_rfl)
theorem d4_0_14 (k : St → Option β) : rD d4_0 14 292 x h r m k =
(gd (wt (x 165) true) (ia 52 (x 171) (x 172))).bind fun v184 =>
rD d4_0 15 292 (up x [(173,v184)]) h r m k := (regD_step _ _ d4_0 14 (by kernel_rfl) _ _ _ _).trans (by kernel_rfl)
theorem d4_0_15 (k : St → Option β) : rD d4_0 15 292 x h r m k =
(gd (wt (x 165) true) (ld 59 (x 173) h)).bind fun v185 =>
rD d4_0 16 292 (up x [(174,v185)]) h r m k := (regD_step _ _ d4_0 15 (by kernel_rfl) _ _ _ _).trans (by kernel_rfl)
theorem d4_0_16 (k : St → Option β) : rD d4_0 16 292 x h r m k =
(gd (wt (x 165) true) (ia 59 (x 174) (.int .i64 0))).bind fun v186 =>
rD d4_0 17 292 (up x [(175,v186)]) h r m k := (regD_step _ _ d4_0 16 (by kernel_rfl) _ _ _ _).trans (by kernel_rfl)
theorem d4_0_17 (k : St → Option β) : rD d4_0 17 292 x h r m k =
(gd (wt (x 165) true) (fa 61 (x 175) 0)).bind fun v187 =>
rD d4_0 18 292 (up x [(176,v187)]) h r m k := (regD_step _ _ d4_0 17 (by kernel_rfl) _ _ _ _).trans (by kernel_rfl)
theorem d4_0_18 (k : St → Option β) : rD d4_0 18 292 x h r m k =
(gd (wt (x 165) true) (ld 3 (x 176) h)).bind fun v188 =>
rD d4_0 19 292 (up x [(177,v188)]) h r m k := (regD_step _ _ d4_0 18 (by kernel_rfl) _ _ _ _).trans (by kernel_rfl)
theorem d4_0_19 (k : St → Option β) : rD d4_0 19 292 x h r m k =
rD d4_0 20 292 (up x [(178,(gdV (wt (x 165) true) (x 9)))]) h r m k := regD_move _ _ d4_0 19 (by kernel_rfl) (by kernel_rfl) (by kernel_rfl) _ _ _ _ _ _ (by kernel_rfl) (by kernel_rfl)
theorem d4_0_20 (k : St → Option β) : rD d4_0 20 292 x h r m k =
rD d4_0 21 292 (up x [(179,(gdV (wt (x 165) true) (x 18)))]) h r m k := regD_move _ _ d4_0 20 (by kernel_rfl) (by kernel_rfl) (by kernel_rfl) _ _ _ _ _ _ (by kernel_rfl) (by kernel_rfl)
theorem d4_0_21 (k : St → Option β) : rD d4_0 21 292 x h r m k =
(gd (wt (x 165) true) (ia 52 (x 178) (x 179))).bind fun v189 =>
rD d4_0 22 292 (up x [(180,v189)]) h r m k := (regD_step _ _ d4_0 21 (by kernel_rfl) _ _ _ _).trans (by kernel_rfl)
theorem d4_0_22 (k : St → Option β) : rD d4_0 22 292 x h r m k =
(gd (wt (x 165) true) (ld 59 (x 180) h)).bind fun v190 =>
rD d4_0 23 292 (up x [(181,v190)]) h r m k := (regD_step _ _ d4_0 22 (by kernel_rfl) _ _ _ _).trans (by kernel_rfl)
theorem d4_0_23 (k : St → Option β) : rD d4_0 23 292 x h r m k =
(gd (wt (x 165) true) (ia 59 (x 181) (.int .i64 0))).bind fun v191 =>
rD d4_0 24 292 (up x [(182,v191)]) h r m k := (regD_step _ _ d4_0 23 (by kernel_rfl) _ _ _ _).trans (by kernel_rfl)
theorem d4_0_24 (k : St → Option β) : rD d4_0 24 292 x h r m k =
(gd (wt (x 165) true) (fa 61 (x 182) 2)).bind fun v192 =>
rD d4_0 25 292 (up x [(183,v192)]) h r m k := (regD_step _ _ d4_0 24 (by kernel_rfl) _ _ _ _).trans (by kernel_rfl)
theorem d4_0_25 (k : St → Option β) : rD d4_0 25 292 x h r m k =
(gd (wt (x 165) true) (ld 23 (x 183) h)).bind fun v193 =>
rD d4_0 26 292 (up x [(184,v193)]) h r m k := (regD_step _ _ d4_0 25 (by kernel_rfl) _ _ _ _).trans (by kernel_rfl)
theorem d4_0_26 (k : St → Option β) : rD d4_0 26 292 x h r m k =
rD d4_0 27 292 (up x [(185,(gdV (wt (x 165) true) (x 9)))]) h r m k := regD_move _ _ d4_0 26 (by kernel_rfl) (by kernel_rfl) (by kernel_rfl) _ _ _ _ _ _ (by kernel_rfl) (by kernel_rfl)
theorem d4_0_27 (k : St → Option β) : rD d4_0 27 292 x h r m k =
rD d4_0 28 292 (up x [(186,(gdV (wt (x 165) true) (x 18)))]) h r m k := regD_move _ _ d4_0 27 (by kernel_rfl) (by kernel_rfl) (by kernel_rfl) _ _ _ _ _ _ (by kernel_rfl) (by kernel_rfl)
theorem d4_0_28 (k : St → Option β) : rD d4_0 28 292 x h r m k =
(gd (wt (x 165) true) (ia 52 (x 185) (x 186))).bind fun v194 =>
rD d4_0 29 292 (up x [(187,v194)]) h r m k := (regD_step _ _ d4_0 28 (by kernel_rfl) _ _ _ _).trans (by kernel_rfl)
theorem d4_0_29 (k : St → Option β) : rD d4_0 29 292 x h r m k =
(gd (wt (x 165) true) (ld 59 (x 187) h)).bind fun v195 =>
rD d4_0 30 292 (up x [(188,v195)]) h r m k := (regD_step _ _ d4_0 29 (by kernel_rfl) _ _ _ _).trans (by kernel_rfl)
theorem d4_0_30 (k : St → Option β) : rD d4_0 30 292 x h r m k =
(gd (wt (x 165) true) (ia 59 (x 188) (.int .i64 0))).bind fun v196 =>
rD d4_0 31 292 (up x [(189,v196)]) h r m k := (regD_step _ _ d4_0 30 (by kernel_rfl) _ _ _ _).trans (by kernel_rfl)
theorem d4_0_31 (k : St → Option β) : rD d4_0 31 292 x h r m k =
(gd (wt (x 165) true) (fa 61 (x 189) 3)).bind fun v197 =>
rD d4_0 32 292 (up x [(190,v197)]) h r m k := (regD_step _ _ d4_0 31 (by kernel_rfl) _ _ _ _).trans (by kernel_rfl)
theorem d4_0_32 (k : St → Option β) : rD d4_0 32 292 x h r m k =
(gd (wt (x 165) true) (ld 23 (x 190) h)).bind fun v198 =>
rD d4_0 33 292 (up x [(191,v198)]) h r m k := (regD_step _ _ d4_0 32 (by kernel_rfl) _ _ _ _).trans (by kernel_rfl)
theorem d4_0_33 (k : St → Option β) : rD d4_0 33 292 x h r m k =
rD d4_0 34 292 (up x [(192,(gdV (wt (x 165) true) (x 9)))]) h r m k := regD_move _ _ d4_0 33 (by kernel_rfl) (by kernel_rfl) (by kernel_rfl) _ _ _ _ _ _ (by kernel_rfl) (by kernel_rfl)
theorem d4_0_34 (k : St → Option β) : rD d4_0 34 292 x h r m k =
rD d4_0 35 292 (up x [(193,(gdV (wt (x 165) true) (x 18)))]) h r m k := regD_move _ _ d4_0 34 (by kernel_rfl) (by kernel_rfl) (by kernel_rfl) _ _ _ _ _ _ (by kernel_rfl) (by kernel_rfl)
theorem d4_0_35 (k : St → Option β) : rD d4_0 35 292 x h r m k =
(gd (wt (x 165) true) (ia 52 (x 192) (x 193))).bind fun v199 =>
rD d4_0 36 292 (up x [(194,v199)]) h r m k := (regD_step _ _ d4_0 35 (by kernel_rfl) _ _ _ _).trans (by kernel_rfl)
theorem d4_0_36 (k : St → Option β) : rD d4_0 36 292 x h r m k =
(gd (wt (x 165) true) (ld 59 (x 194) h)).bind fun v200 =>
rD d4_0 37 292 (up x [(195,v200)]) h r m k := (regD_step _ _ d4_0 36 (by kernel_rfl) _ _ _ _).trans (by kernel_rfl)
theorem d4_0_37 (k : St → Option β) : rD d4_0 37 292 x h r m k =
(gd (wt (x 165) true) (ia 59 (x 195) (.int .i64 0))).bind fun v201 =>
rD d4_0 38 292 (up x [(196,v201)]) h r m k := (regD_step _ _ d4_0 37 (by kernel_rfl) _ _ _ _).trans (by kernel_rfl)
theorem d4_0_38 (k : St → Option β) : rD d4_0 38 292 x h r m k =
(gd (wt (x 165) true) (fa 61 (x 196) 4)).bind fun v202 =>
rD d4_0 39 292 (up x [(197,v202)]) h r m k := (regD_step _ _ d4_0 38 (by kernel_rfl) _ _ _ _).trans (by kernel_rfl)
theorem d4_0_39 (k : St → Option β) : rD d4_0 39 292 x h r m k =
(gd (wt (x 165) true) (ld 40 (x 197) h)).bind fun v203 =>
rD d4_0 40 292 (up x [(198,v203)]) h r m k := (regD_step _ _ d4_0 39 (by kernel_rfl) _ _ _ _).trans (by kernel_rfl)
theorem d4_0_40 (k : St → Option β) : rD d4_0 40 292 x h r m k =
obH (gdH (wt (x 165) true) h (ev 23 #[x 170,x 177,x 184,x 191,x 198] h)) fun v204 h205 =>
rD d4_0 41 292 (up x [(199,v204)]) h205 r m k := (regD_step _ _ d4_0 40 (by kernel_rfl) _ _ _ _).trans (by kernel_rfl)
theorem d4_0_41 (k : St → Option β) : rD d4_0 41 292 x h r m k =
(pickV (x 165) (x 199) (.bool false)).bind fun v206 =>
rD d4_0 42 292 (up x [(200,v206)]) h r m k := (regD_step _ _ d4_0 41 (by kernel_rfl) _ _ _ _).trans (by kernel_rfl)
theorem d4_0_42 (k : St → Option β) : rD d4_0 42 292 x h r m k =
chk r m (k ⟨ar 292 x, h⟩) := by kernel_rfl
theorem c4_32_eq : cK c4_32 292 x h k =
rD d4_0 0 292 x h [] [] (fun s => k .normal s) := by kernel_rfl
theorem c4_33_eq : cK c4_33 292 x h k =
cnd (x 200) (
(ia 52 (x 9) (x 18)).bind fun v207 =>
(ld 59 v207 h).bind fun v208 =>
(sliceV Tryd.prog 59 v208 (some (.int .i64 1)) none none h).bind fun v209 =>
(ia 52 (x 9) (x 18)).bind fun v210 =>
(sto 59 v210 v209 h).bind fun h211 =>
k .normal ⟨ar 292 (up x [(201,(x 9)),(202,(x 18)),(203,(x 9)),(204,(x 18)),(205,v207),(206,v208),(207,v209),(208,v210)]), h211⟩) (
k .normal ⟨ar 292 x, h⟩) := by kernel_rfl
theorem call4 (a0 a1 : Value) : evC Tryd.prog 4 #[a0,a1] h = cK c4_0 292 (up un [(0,a0),(1,a1)]) (nm h) (retK Tryd.f4 Tryd.prog h) :=
  (evC_call 4 Tryd.f4 c4_0 Tryd.func4 (by kernel_rfl) #[a0,a1] h).trans (by kernel_rfl)
theorem ret4 : retK Tryd.f4 Tryd.prog g .ret ⟨ar 292 x, h⟩ = fin g (some (x 4)) h := by kernel_rfl
end Go.Am
namespace Go.Am
open Go.Proofs
set_option maxRecDepth 100000
variable {β : Type} (x : Nat → Value) (h : Heap) (k : Ex → St → Option β) (r m : List Nat) (g : Heap)
noncomputable def c21_0 : Code := bodyC Tryd.f21 []
noncomputable def c21_1 : Code := bodyC Tryd.f21 [true, true, false, true, false, false]
noncomputable def c21_2 : Code := bodyC Tryd.f21 [true, true, true]
theorem c21_0_eq : cK c21_0 20 x h k =
lK c21_1 20 (up x [(2,(.int .u64 0)),(3,(.int .u64 0)),(4,(.int .i64 0))]) h (blockK 0 (sK c21_2 k)) := by kernel_rfl
theorem c21_1_eq : cK c21_1 20 x h k =
(bn .lss 3 (x 4) (x 0)).bind fun v0 =>
(gd (wt v0 true) (bn .lss 3 (gdV (wt v0 true) (x 4)) (.int .i64 64))).bind fun v1 =>
(pickV v0 v1 (.bool false)).bind fun v2 =>
cnd v2 (
obH (cv 3 57 (x 4) h) fun v3 h4 =>
(bn .shl 23 (.int .u64 1) v3).bind fun v5 =>
(bn .or 23 (x 3) v5).bind fun v6 =>
(bn .add 3 (x 4) (.int .i64 1)).bind fun v7 =>
k .normal ⟨ar 20 (up x [(3,v6),(4,v7),(5,(x 4)),(6,(x 0)),(7,v0),(8,v0),(9,(gdV (wt v0 true) (x 4))),(10,v1),(11,v2),(12,(x 4)),(13,v7),(14,(x 3)),(15,(x 4)),(16,v3),(17,v5),(18,v6)]), h4⟩) (
k (.exit 0) ⟨ar 20 (up x [(5,(x 4)),(6,(x 0)),(7,v0),(8,v0),(9,(gdV (wt v0 true) (x 4))),(10,v1),(11,v2)]), h⟩) := by kernel_rfl
theorem c21_2_eq : cK c21_2 20 x h k =
k .ret ⟨ar 20 (up x [(2,(x 3)),(19,(x 3))]), h⟩ := by kernel_rfl
theorem call21 (a0 : Value) : evC Tryd.prog 21 #[a0] h = cK c21_0 20 (up un [(0,a0)]) (nm h) (retK Tryd.f21 Tryd.prog h) :=
  (evC_call 21 Tryd.f21 c21_0 Tryd.func21 (by kernel_rfl) #[a0] h).trans (by kernel_rfl)
theorem ret21 : retK Tryd.f21 Tryd.prog g .ret ⟨ar 20 x, h⟩ = fin g (some (x 2)) h := by kernel_rfl
end Go.Am
namespace Go.Am
open Go.Proofs
set_option maxRecDepth 100000
variable {β : Type} (x : Nat → Value) (h : Heap) (k : Ex → St → Option β) (r m : List Nat) (g : Heap)
noncomputable def c22_0 : Code := bodyC Tryd.f22 []
noncomputable def c22_1 : Code := bodyC Tryd.f22 [true, true, false, true, false, false]
noncomputable def c22_2 : Code := bodyC Tryd.f22 [true, true, true]
theorem c22_0_eq : cK c22_0 17 x h k =
lK c22_1 17 (up x [(2,(.slice Option.none 0 0)),(3,(.slice Option.none 0 0)),(4,(.int .i64 0))]) h (blockK 0 (sK c22_2 k)) := by kernel_rfl
theorem c22_1_eq : cK c22_1 17 x h k =
(bn .lss 3 (x 4) (.int .i64 64)).bind fun v0 =>
cnd v0 (
obH (ev 50 #[x 0,x 4] h) fun v1 h2 =>
cnd v1 (
obH (buildSliceV Tryd.prog 41 1 #[(0, (x 4))] h2) fun v3 h4 =>
obH (ap 41 (some 41) (x 3) v3 h4) fun v5 h6 =>
(bn .add 3 (x 4) (.int .i64 1)).bind fun v7 =>
k .normal ⟨ar 17 (up x [(3,v5),(4,v7),(5,(x 4)),(6,v0),(7,(x 4)),(8,v7),(9,(x 0)),(10,(x 4)),(11,v1),(12,(x 3)),(13,(x 4)),(14,v3),(15,v5)]), h6⟩) (
(bn .add 3 (x 4) (.int .i64 1)).bind fun v8 =>
k .normal ⟨ar 17 (up x [(4,v8),(5,(x 4)),(6,v0),(7,(x 4)),(8,v8),(9,(x 0)),(10,(x 4)),(11,v1)]), h2⟩)) (
k (.exit 0) ⟨ar 17 (up x [(5,(x 4)),(6,v0)]), h⟩) := by kernel_rfl
theorem c22_2_eq : cK c22_2 17 x h k =
k .ret ⟨ar 17 (up x [(2,(x 3)),(16,(x 3))]), h⟩ := by kernel_rfl
theorem call22 (a0 : Value) : evC Tryd.prog 22 #[a0] h = cK c22_0 17 (up un [(0,a0)]) (nm h) (retK Tryd.f22 Tryd.prog h) :=
  (evC_call 22 Tryd.f22 c22_0 Tryd.func22 (by kernel_rfl) #[a0] h).trans (by kernel_rfl)
theorem ret22 : retK Tryd.f22 Tryd.prog g .ret ⟨ar 17 x, h⟩ = fin g (some (x 2)) h := by kernel_rfl
end Go.Am
