/- What the texts of functions come to in the machine (printed by a program of this seat; Lean checks it). -/
import Derived.Test.YtclpkcampbhbdaaKB
import Derived.Test.YtclpkcampbhbdaaChecked
import Derived.KernelRfl
set_option linter.all false
namespace Go.Am
open Go.Proofs
set_option maxRecDepth 100000
variable (Aa Ab Ac Ad Ae Af Ag Ah Ai Aj Ak : Value)
noncomputable def c97_0 : Code := bodyC Try.f97 []
noncomputable def c97_1 : Code := bodyC Try.f97 [true, true, false, false, false]
noncomputable def c97_2 : Code := bodyC Try.f97 [true, true, true]
theorem c97_0_eq {β : Type} (h : Heap) (k : Ex → St → Option β) : codeK Try.prog (evC Try.prog) loopL c97_0 ⟨#[Aa,Ab,Ac,Ad,Ae,Af,Ag,Ah,Ai,Aj,Ak], h⟩ k =
loopK Try.prog (evC Try.prog) c97_1 ⟨#[Aa,Ab, (Go.Value.int Go.IntKind.i64 0), (Go.Value.int Go.IntKind.i64 1),Ae,Af,Ag,Ah,Ai,Aj,Ak], h⟩ (blockK 0 (seqK Try.prog (evC Try.prog) c97_2 k)) := by kernel_rfl
theorem c97_1_eq {β : Type} (h : Heap) (k : Ex → St → Option β) : codeK Try.prog (evC Try.prog) loopL c97_1 ⟨#[Aa,Ab,Ac,Ad,Ae,Af,Ag,Ah,Ai,Aj,Ak], h⟩ k =
(binV Try.prog .geq 35 (.tmp 4) (.const (Go.Value.int Go.IntKind.u64 128)) Aa (Go.Value.int Go.IntKind.u64 128)).bind fun t5_0 =>
cnd t5_0 (
(binV Try.prog .shr 35 (.tmp 6) (.const (Go.Value.int Go.IntKind.u64 7)) Aa (Go.Value.int Go.IntKind.u64 7)).bind fun t7_1 =>
(binV Try.prog .add 3 (.tmp 8) (.const (Go.Value.int Go.IntKind.i64 1)) Ad (Go.Value.int Go.IntKind.i64 1)).bind fun t9_2 =>
k .normal ⟨#[t7_1,Ab,Ac, t9_2,Aa, t5_0,Aa, t7_1,Ad, t9_2,Ak], h⟩) (
k (.exit 0) ⟨#[Aa,Ab,Ac,Ad,Aa, t5_0,Ag,Ah,Ai,Aj,Ak], h⟩) := by kernel_rfl
theorem c97_2_eq {β : Type} (h : Heap) (k : Ex → St → Option β) : codeK Try.prog (evC Try.prog) loopL c97_2 ⟨#[Aa,Ab,Ac,Ad,Ae,Af,Ag,Ah,Ai,Aj,Ak], h⟩ k =
k .ret ⟨#[Aa,Ab,Ad,Ad,Ae,Af,Ag,Ah,Ai,Aj,Ad], h⟩ := by kernel_rfl
theorem call97 (h : Heap) : evC Try.prog 97 #[Aa] h = codeK Try.prog (evC Try.prog) loopL c97_0 ⟨#[Aa, undef, undef, undef, undef, undef, undef, undef, undef, undef, undef], nm h⟩ (retK Try.f97 Try.prog h) :=
  (evC_call 97 Try.f97 c97_0 Try.func97 (by kernel_rfl) #[Aa] h).trans (by kernel_rfl)
theorem ret97 (h0 h : Heap) : retK Try.f97 Try.prog h0 .ret ⟨#[Aa,Ab,Ac,Ad,Ae,Af,Ag,Ah,Ai,Aj,Ak], h⟩ = fin h0 (some Ac) h := by kernel_rfl
theorem retn97 (h0 h : Heap) : retK Try.f97 Try.prog h0 .normal ⟨#[Aa,Ab,Ac,Ad,Ae,Af,Ag,Ah,Ai,Aj,Ak], h⟩ = fin h0 (some Ac) h := by kernel_rfl
end Go.Am
namespace Go.Am
open Go.Proofs
set_option maxRecDepth 100000
variable (Aa Ab Ac Ad Ae Af Ag Ah Ai Aj Ak Al An Ao Ap Aq Ar As Au Av Aw Ax Ay : Value)
noncomputable def c68_0 : Code := bodyC Try.f68 []
noncomputable def c68_1 : Code := bodyC Try.f68 [true, true, false, false, false]
noncomputable def c68_2 : Code := bodyC Try.f68 [true, true, true]
theorem c68_0_eq {β : Type} (h : Heap) (k : Ex → St → Option β) : codeK Try.prog (evC Try.prog) loopL c68_0 ⟨#[Aa,Ab,Ac,Ad,Ae,Af,Ag,Ah,Ai,Aj,Ak,Al,An,Ao,Ap,Aq,Ar,As,Au,Av,Aw,Ax,Ay], h⟩ k =
obH (appendV Try.prog 33 (some 33) (Go.Value.slice Option.none 0 0) Aa h) fun t7_0 h1 =>
loopK Try.prog (evC Try.prog) c68_1 ⟨#[Aa,Ab,Ac,Ad, (Go.Value.slice Option.none 0 0), t7_0,Aa, t7_0,Ai,Aj,Ak,Al,An,Ao,Ap,Aq,Ar,As,Au,Av,Aw,Ax,Ay], h1⟩ (blockK 0 (seqK Try.prog (evC Try.prog) c68_2 k)) := by kernel_rfl
theorem c68_1_eq {β : Type} (h : Heap) (k : Ex → St → Option β) : codeK Try.prog (evC Try.prog) loopL c68_1 ⟨#[Aa,Ab,Ac,Ad,Ae,Af,Ag,Ah,Ai,Aj,Ak,Al,An,Ao,Ap,Aq,Ar,As,Au,Av,Aw,Ax,Ay], h⟩ k =
(binV Try.prog .geq 35 (.tmp 8) (.const (Go.Value.int Go.IntKind.u64 128)) Ab (Go.Value.int Go.IntKind.u64 128)).bind fun t9_2 =>
cnd t9_2 (
obH (convV Try.prog 35 5 Ab h) fun t12_3 h4 =>
(binV Try.prog .or 5 (.tmp 12) (.const (Go.Value.int Go.IntKind.u8 128)) t12_3 (Go.Value.int Go.IntKind.u8 128)).bind fun t13_5 =>
obH (buildSliceV Try.prog 33 1 #[(0, t13_5)] h4) fun t14_6 h7 =>
obH (appendV Try.prog 33 (some 33) Af t14_6 h7) fun t15_8 h9 =>
(binV Try.prog .shr 35 (.tmp 16) (.const (Go.Value.int Go.IntKind.u64 7)) Ab (Go.Value.int Go.IntKind.u64 7)).bind fun t17_10 =>
k .normal ⟨#[Aa, t17_10,Ac,Ad,Ae, t15_8,Ag,Ah,Ab, t9_2,Af,Ab, t12_3, t13_5, t14_6, t15_8,Ab, t17_10,Au,Av,Aw,Ax,Ay], h9⟩) (
k (.exit 0) ⟨#[Aa,Ab,Ac,Ad,Ae,Af,Ag,Ah,Ab, t9_2,Ak,Al,An,Ao,Ap,Aq,Ar,As,Au,Av,Aw,Ax,Ay], h⟩) := by kernel_rfl
theorem c68_2_eq {β : Type} (h : Heap) (k : Ex → St → Option β) : codeK Try.prog (evC Try.prog) loopL c68_2 ⟨#[Aa,Ab,Ac,Ad,Ae,Af,Ag,Ah,Ai,Aj,Ak,Al,An,Ao,Ap,Aq,Ar,As,Au,Av,Aw,Ax,Ay], h⟩ k =
obH (convV Try.prog 35 5 Ab h) fun t20_11 h12 =>
obH (buildSliceV Try.prog 33 1 #[(0, t20_11)] h12) fun t21_13 h14 =>
obH (appendV Try.prog 33 (some 33) Af t21_13 h14) fun t22_15 h16 =>
k .ret ⟨#[Aa,Ab,Ac,Ad, t22_15,Af,Ag,Ah,Ai,Aj,Ak,Al,An,Ao,Ap,Aq,Ar,As,Af,Ab, t20_11, t21_13, t22_15], h16⟩ := by kernel_rfl
theorem call68 (h : Heap) : evC Try.prog 68 #[Aa,Ab] h = codeK Try.prog (evC Try.prog) loopL c68_0 ⟨#[Aa,Ab, undef, undef, undef, undef, undef, undef, undef, undef, undef, undef, undef, undef, undef, undef, undef, undef, undef, undef, undef, undef, undef], nm h⟩ (retK Try.f68 Try.prog h) :=
  (evC_call 68 Try.f68 c68_0 Try.func68 (by kernel_rfl) #[Aa,Ab] h).trans (by kernel_rfl)
theorem ret68 (h0 h : Heap) : retK Try.f68 Try.prog h0 .ret ⟨#[Aa,Ab,Ac,Ad,Ae,Af,Ag,Ah,Ai,Aj,Ak,Al,An,Ao,Ap,Aq,Ar,As,Au,Av,Aw,Ax,Ay], h⟩ = fin h0 (some Ae) h := by kernel_rfl
theorem retn68 (h0 h : Heap) : retK Try.f68 Try.prog h0 .normal ⟨#[Aa,Ab,Ac,Ad,Ae,Af,Ag,Ah,Ai,Aj,Ak,Al,An,Ao,Ap,Aq,Ar,As,Au,Av,Aw,Ax,Ay], h⟩ = fin h0 (some Ae) h := by kernel_rfl
end Go.Am
namespace Go.Am
open Go.Proofs
set_option maxRecDepth 100000
variable (Aa Ab Ac Ad Ae Af Ag Ah Ai Aj Ak Al An Ao Ap Aq Ar As Au Av Aw Ax Ay Az Ba Bb Bc Bd Be Bf Bg Bh Bi Bj Bk Bl Bm Bn Bo Bp Bq Br : Value)
noncomputable def c77_0 : Code := bodyC Try.f77 []
noncomputable def c77_1 : Code := bodyC Try.f77 [true, false, true, false, false]
noncomputable def c77_2 : Code := bodyC Try.f77 [true, true]
theorem c77_0_eq {β : Type} (h : Heap) (k : Ex → St → Option β) : codeK Try.prog (evC Try.prog) loopL c77_0 ⟨#[Aa,Ab,Ac,Ad,Ae,Af,Ag,Ah,Ai,Aj,Ak,Al,An,Ao,Ap,Aq,Ar,As,Au,Av,Aw,Ax,Ay,Az,Ba,Bb,Bc,Bd,Be,Bf,Bg,Bh,Bi,Bj,Bk,Bl,Bm,Bn,Bo,Bp,Bq,Br], h⟩ k =
(lenV Try.prog 33 Aa h).bind fun t7_0 =>
loopK Try.prog (evC Try.prog) c77_1 ⟨#[Aa,Ab, (Go.Value.int Go.IntKind.u64 0), (Go.Value.int Go.IntKind.i64 0),Ae,Af,Aa, t7_0, (Go.Value.int Go.IntKind.i64 0),Aj,Ak,Al,An,Ao,Ap,Aq,Ar,As,Au,Av,Aw,Ax,Ay,Az,Ba,Bb,Bc,Bd,Be,Bf,Bg,Bh,Bi,Bj,Bk,Bl,Bm,Bn,Bo,Bp,Bq,Br], h⟩ (blockK 0 (seqK Try.prog (evC Try.prog) c77_2 k)) := by kernel_rfl
theorem c77_1_eq {β : Type} (h : Heap) (k : Ex → St → Option β) : codeK Try.prog (evC Try.prog) loopL c77_1 ⟨#[Aa,Ab,Ac,Ad,Ae,Af,Ag,Ah,Ai,Aj,Ak,Al,An,Ao,Ap,Aq,Ar,As,Au,Av,Aw,Ax,Ay,Az,Ba,Bb,Bc,Bd,Be,Bf,Bg,Bh,Bi,Bj,Bk,Bl,Bm,Bn,Bo,Bp,Bq,Br], h⟩ k =
(binV Try.prog .lss 3 (.tmp 8) (.tmp 7) Ai Ah).bind fun t9_1 =>
cnd t9_1 (
(indexAddrV Try.prog 33 Ag Ai).bind fun t11_2 =>
(loadV Try.prog 5 t11_2 h).bind fun t12_3 =>
(binV Try.prog .eql 3 (.tmp 13) (.const (Go.Value.int Go.IntKind.i64 10)) Ai (Go.Value.int Go.IntKind.i64 10)).bind fun t14_4 =>
cnd t14_4 (
k (.exit 0) ⟨#[Aa,Ab,Ac,Ad,Ai, t12_3,Ag,Ah,Ai, t9_1,Ai, t11_2, t12_3,Ai, t14_4,Aq,Ar,As,Au,Av,Aw,Ax,Ay,Az,Ba,Bb,Bc,Bd,Be,Bf,Bg,Bh,Bi,Bj,Bk,Bl,Bm,Bn,Bo,Bp,Bq,Br], h⟩) (
(binV Try.prog .and 5 (.tmp 16) (.const (Go.Value.int Go.IntKind.u8 127)) t12_3 (Go.Value.int Go.IntKind.u8 127)).bind fun t17_5 =>
obH (convV Try.prog 5 35 t17_5 h) fun t18_6 h7 =>
(binV Try.prog .mul 3 (.const (Go.Value.int Go.IntKind.i64 7)) (.tmp 19) (Go.Value.int Go.IntKind.i64 7) Ai).bind fun t20_8 =>
(binV Try.prog .shl 35 (.tmp 18) (.tmp 20) t18_6 t20_8).bind fun t21_9 =>
(binV Try.prog .or 35 (.tmp 15) (.tmp 21) Ac t21_9).bind fun t22_10 =>
(binV Try.prog .lss 5 (.tmp 23) (.const (Go.Value.int Go.IntKind.u8 128)) t12_3 (Go.Value.int Go.IntKind.u8 128)).bind fun t24_11 =>
cnd t24_11 (
obH (evC Try.prog 97 #[t22_10] h7) fun t26_12 h13 =>
(binV Try.prog .add 3 (.tmp 27) (.const (Go.Value.int Go.IntKind.i64 1)) Ai (Go.Value.int Go.IntKind.i64 1)).bind fun t28_14 =>
(binV Try.prog .neq 3 (.tmp 26) (.tmp 28) t26_12 t28_14).bind fun t29_15 =>
(gd (wt t29_15 false) (binV Try.prog .eql 3 (.tmp 31) (.const (Go.Value.int Go.IntKind.i64 9)) (gdV (wt t29_15 false) Ai) (Go.Value.int Go.IntKind.i64 9))).bind fun t32_16 =>
(gd (wt (gdV (wt t29_15 false) t32_16) true) (binV Try.prog .gtr 5 (.tmp 34) (.const (Go.Value.int Go.IntKind.u8 1)) (gdV (wt (gdV (wt t29_15 false) t32_16) true) t12_3) (Go.Value.int Go.IntKind.u8 1))).bind fun t35_17 =>
(gd (wt t29_15 false) (pickV (gdV (wt t29_15 false) t32_16) t35_17 (Go.Value.bool Bool.false))).bind fun t36_18 =>
(pickV t29_15 (Go.Value.bool Bool.true) t36_18).bind fun t37_19 =>
cnd t37_19 (
k (.exit 0) ⟨#[Aa,Ab, t22_10,Ad,Ai, t12_3,Ag,Ah,Ai, t9_1,Ai, t11_2, t12_3,Ai, t14_4,Ac, t12_3, t17_5, t18_6,Ai, t20_8, t21_9, t22_10, t12_3, t24_11, t22_10, t26_12,Ai, t28_14, t29_15, t29_15, (gdV (wt t29_15 false) Ai), t32_16, (gdV (wt t29_15 false) t32_16), (gdV (wt (gdV (wt t29_15 false) t32_16) true) t12_3), t35_17, t36_18, t37_19,Bo,Bp,Bq,Br], h13⟩) (
(binV Try.prog .add 3 (.tmp 39) (.const (Go.Value.int Go.IntKind.i64 1)) Ai (Go.Value.int Go.IntKind.i64 1)).bind fun t40_20 =>
k .ret ⟨#[Aa,Ab, t22_10, t40_20,Ai, t12_3,Ag,Ah,Ai, t9_1,Ai, t11_2, t12_3,Ai, t14_4,Ac, t12_3, t17_5, t18_6,Ai, t20_8, t21_9, t22_10, t12_3, t24_11, t22_10, t26_12,Ai, t28_14, t29_15, t29_15, (gdV (wt t29_15 false) Ai), t32_16, (gdV (wt t29_15 false) t32_16), (gdV (wt (gdV (wt t29_15 false) t32_16) true) t12_3), t35_17, t36_18, t37_19, t22_10,Ai, t40_20,Br], h13⟩)) (
(binV Try.prog .add 3 (.tmp 8) (.const (Go.Value.int Go.IntKind.i64 1)) Ai (Go.Value.int Go.IntKind.i64 1)).bind fun t41_21 =>
k .normal ⟨#[Aa,Ab, t22_10,Ad,Ai, t12_3,Ag,Ah, t41_21, t9_1,Ai, t11_2, t12_3,Ai, t14_4,Ac, t12_3, t17_5, t18_6,Ai, t20_8, t21_9, t22_10, t12_3, t24_11,Bb,Bc,Bd,Be,Bf,Bg,Bh,Bi,Bj,Bk,Bl,Bm,Bn,Bo,Bp,Bq, t41_21], h7⟩))) (
k (.exit 0) ⟨#[Aa,Ab,Ac,Ad,Ae,Af,Ag,Ah,Ai, t9_1,Ak,Al,An,Ao,Ap,Aq,Ar,As,Au,Av,Aw,Ax,Ay,Az,Ba,Bb,Bc,Bd,Be,Bf,Bg,Bh,Bi,Bj,Bk,Bl,Bm,Bn,Bo,Bp,Bq,Br], h⟩) := by kernel_rfl
theorem c77_2_eq {β : Type} (h : Heap) (k : Ex → St → Option β) : codeK Try.prog (evC Try.prog) loopL c77_2 ⟨#[Aa,Ab,Ac,Ad,Ae,Af,Ag,Ah,Ai,Aj,Ak,Al,An,Ao,Ap,Aq,Ar,As,Au,Av,Aw,Ax,Ay,Az,Ba,Bb,Bc,Bd,Be,Bf,Bg,Bh,Bi,Bj,Bk,Bl,Bm,Bn,Bo,Bp,Bq,Br], h⟩ k =
k .ret ⟨#[Aa,Ab, (Go.Value.int Go.IntKind.u64 0), (Go.Value.int Go.IntKind.i64 0),Ae,Af,Ag,Ah,Ai,Aj,Ak,Al,An,Ao,Ap,Aq,Ar,As,Au,Av,Aw,Ax,Ay,Az,Ba,Bb,Bc,Bd,Be,Bf,Bg,Bh,Bi,Bj,Bk,Bl,Bm,Bn,Bo,Bp,Bq,Br], h⟩ := by kernel_rfl
theorem call77 (h : Heap) : evC Try.prog 77 #[Aa] h = codeK Try.prog (evC Try.prog) loopL c77_0 ⟨#[Aa, undef, undef, undef, undef, undef, undef, undef, undef, undef, undef, undef, undef, undef, undef, undef, undef, undef, undef, undef, undef, undef, undef, undef, undef, undef, undef, undef, undef, undef, undef, undef, undef, undef, undef, undef, undef, undef, undef, undef, undef, undef], nm h⟩ (retK Try.f77 Try.prog h) :=
  (evC_call 77 Try.f77 c77_0 Try.func77 (by kernel_rfl) #[Aa] h).trans (by kernel_rfl)
theorem ret77 (h0 h : Heap) : retK Try.f77 Try.prog h0 .ret ⟨#[Aa,Ab,Ac,Ad,Ae,Af,Ag,Ah,Ai,Aj,Ak,Al,An,Ao,Ap,Aq,Ar,As,Au,Av,Aw,Ax,Ay,Az,Ba,Bb,Bc,Bd,Be,Bf,Bg,Bh,Bi,Bj,Bk,Bl,Bm,Bn,Bo,Bp,Bq,Br], h⟩ = fin h0 (some (.tuple #[Ac,Ad])) h := by kernel_rfl
theorem retn77 (h0 h : Heap) : retK Try.f77 Try.prog h0 .normal ⟨#[Aa,Ab,Ac,Ad,Ae,Af,Ag,Ah,Ai,Aj,Ak,Al,An,Ao,Ap,Aq,Ar,As,Au,Av,Aw,Ax,Ay,Az,Ba,Bb,Bc,Bd,Be,Bf,Bg,Bh,Bi,Bj,Bk,Bl,Bm,Bn,Bo,Bp,Bq,Br], h⟩ = fin h0 (some (.tuple #[Ac,Ad])) h := by kernel_rfl
end Go.Am
namespace Go.Am
open Go.Proofs
set_option maxRecDepth 100000
variable (Aa Ab Ac Ad Ae Af Ag Ah : Value)
noncomputable def c69_0 : Code := bodyC Try.f69 []
theorem c69_0_eq {β : Type} (h : Heap) (k : Ex → St → Option β) : codeK Try.prog (evC Try.prog) loopL c69_0 ⟨#[Aa,Ab,Ac,Ad,Ae,Af,Ag,Ah], h⟩ k =
(binV Try.prog .eql 33 (.tmp 3) (.const (Go.Value.slice Option.none 0 0)) Aa (Go.Value.slice Option.none 0 0)).bind fun t4_0 =>
cnd t4_0 (
k .ret ⟨#[Aa,Ab, (Go.Value.slice Option.none 0 0),Aa, t4_0,Af,Ag,Ah], h⟩) (
obH (buildSliceV Try.prog 33 0 #[] h) fun t5_1 h2 =>
obH (appendV Try.prog 33 (some 33) t5_1 Aa h2) fun t7_3 h4 =>
k .ret ⟨#[Aa,Ab, t7_3,Aa, t4_0, t5_1,Aa, t7_3], h4⟩) := by kernel_rfl
theorem call69 (h : Heap) : evC Try.prog 69 #[Aa] h = codeK Try.prog (evC Try.prog) loopL c69_0 ⟨#[Aa, undef, undef, undef, undef, undef, undef, undef], nm h⟩ (retK Try.f69 Try.prog h) :=
  (evC_call 69 Try.f69 c69_0 Try.func69 (by kernel_rfl) #[Aa] h).trans (by kernel_rfl)
theorem ret69 (h0 h : Heap) : retK Try.f69 Try.prog h0 .ret ⟨#[Aa,Ab,Ac,Ad,Ae,Af,Ag,Ah], h⟩ = fin h0 (some Ac) h := by kernel_rfl
theorem retn69 (h0 h : Heap) : retK Try.f69 Try.prog h0 .normal ⟨#[Aa,Ab,Ac,Ad,Ae,Af,Ag,Ah], h⟩ = fin h0 (some Ac) h := by kernel_rfl
end Go.Am
namespace Go.Am
open Go.Proofs
set_option maxRecDepth 100000
variable {β : Type} (x : Nat → Value) (h : Heap) (k : Ex → St → Option β) (r m : List Nat) (g : Heap)
noncomputable def c15_0 : Code := bodyC Try.f15 []
theorem c15_0_eq : cK c15_0 10 x h k =
(typeAssertV Try.prog (x 0) 82 true).bind fun v0 =>
(extractV v0 1).bind fun v1 =>
(extractV v0 0).bind fun v2 =>
cnd v1 (
k .ret ⟨ar 10 (up x [(2,(.int .i64 1)),(3,(x 0)),(4,v0),(5,v1),(6,v2)]), h⟩) (
(typeAssertV Try.prog (x 0) 85 true).bind fun v3 =>
(extractV v3 1).bind fun v4 =>
(extractV v3 0).bind fun v5 =>
cnd v4 (
k .ret ⟨ar 10 (up x [(2,(.int .i64 2)),(3,(x 0)),(4,v0),(5,v1),(6,v2),(7,v3),(8,v4),(9,v5)]), h⟩) (
k .ret ⟨ar 10 (up x [(2,(.int .i64 0)),(3,(x 0)),(4,v0),(5,v1),(6,v2),(7,v3),(8,v4),(9,v5)]), h⟩)) := by kernel_rfl
theorem call15 (a0 : Value) : evC Try.prog 15 #[a0] h = cK c15_0 10 (up un [(0,a0)]) (nm h) (retK Try.f15 Try.prog h) :=
  (evC_call 15 Try.f15 c15_0 Try.func15 (by kernel_rfl) #[a0] h).trans (by kernel_rfl)
theorem ret15 : retK Try.f15 Try.prog g .ret ⟨ar 10 x, h⟩ = fin g (some (x 2)) h := by kernel_rfl
theorem retn15 : retK Try.f15 Try.prog g .normal ⟨ar 10 x, h⟩ = fin g (some (x 2)) h := by kernel_rfl
end Go.Am
namespace Go.Am
open Go.Proofs
set_option maxRecDepth 100000
variable {β : Type} (x : Nat → Value) (h : Heap) (k : Ex → St → Option β) (r m : List Nat) (g : Heap)
noncomputable def c17_0 : Code := bodyC Try.f17 []
noncomputable def c17_1 : Code := bodyC Try.f17 [true, true, true, false, true, false, false]
noncomputable def c17_2 : Code := bodyC Try.f17 [true, true, true, true]
theorem c17_0_eq : cK c17_0 35 x h k =
(binV Try.prog .eql 24 (.tmp 8) (.const (.nilIface)) (x 0) (.nilIface)).bind fun v0 =>
cnd v0 (
k .ret ⟨ar 35 (up x [(4,(.slice Option.none 0 0)),(8,(x 0)),(9,v0)]), h⟩) (
(ln 38 (x 1) h).bind fun v1 =>
lK c17_1 35 (up x [(4,(.slice Option.none 0 0)),(5,(.slice Option.none 0 0)),(8,(x 0)),(9,v0),(10,(x 1)),(11,v1),(12,(.int .i64 0))]) h (blockK 0 (sK c17_2 k))) := by kernel_rfl
theorem c17_1_eq : cK c17_1 35 x h k =
(bn .lss 3 (x 12) (x 11)).bind fun v2 =>
cnd v2 (
(ia 38 (x 10) (x 12)).bind fun v3 =>
(ld 37 v3 h).bind fun v4 =>
obH (allocV Try.prog 37 h) fun v5 h6 =>
(sto 37 v5 v4 h6).bind fun h7 =>
(fa 37 v5 0).bind fun v8 =>
(ld 4 v8 h7).bind fun v9 =>
(gd (wt v9 true) (fa 37 v5 1)).bind fun v10 =>
(gd (wt v9 true) (ld 3 v10 h7)).bind fun v11 =>
(gd (wt v9 true) (fa 37 v5 2)).bind fun v12 =>
(gd (wt v9 true) (ld 35 v12 h7)).bind fun v13 =>
(gd (wt v9 true) (fa 37 v5 3)).bind fun v14 =>
(gd (wt v9 true) (ld 33 v14 h7)).bind fun v15 =>
obH (gdH (wt v9 true) h7 (invokeV Try.prog (evC Try.prog) (gdV (wt v9 true) (x 0)) "Can" #[v11,v13,v15] h7)) fun v16 h17 =>
(pickV v9 v16 (.bool false)).bind fun v18 =>
cnd v18 (
obH (buildSliceV Try.prog 43 1 #[(0, (x 12))] h17) fun v19 h20 =>
obH (ap 43 (some 43) (x 5) v19 h20) fun v21 h22 =>
(bn .add 3 (x 12) (.int .i64 1)).bind fun v23 =>
k .normal ⟨ar 35 (up x [(5,v21),(6,(x 12)),(7,v5),(12,v23),(13,v2),(14,(x 12)),(15,v3),(16,v4),(17,v8),(18,v9),(19,v9),(20,(gdV (wt v9 true) (x 0))),(21,v10),(22,v11),(23,v12),(24,v13),(25,v14),(26,v15),(27,v16),(28,v18),(29,(x 5)),(30,(x 12)),(31,v19),(32,v21),(33,v23)]), h22⟩) (
(bn .add 3 (x 12) (.int .i64 1)).bind fun v24 =>
k .normal ⟨ar 35 (up x [(6,(x 12)),(7,v5),(12,v24),(13,v2),(14,(x 12)),(15,v3),(16,v4),(17,v8),(18,v9),(19,v9),(20,(gdV (wt v9 true) (x 0))),(21,v10),(22,v11),(23,v12),(24,v13),(25,v14),(26,v15),(27,v16),(28,v18),(33,v24)]), h17⟩)) (
k (.exit 0) ⟨ar 35 (up x [(13,v2)]), h⟩) := by kernel_rfl
theorem c17_2_eq : cK c17_2 35 x h k =
k .ret ⟨ar 35 (up x [(4,(x 5)),(34,(x 5))]), h⟩ := by kernel_rfl
theorem call17 (a0 a1 : Value) : evC Try.prog 17 #[a0,a1] h = cK c17_0 35 (up un [(0,a0),(1,a1)]) (nm h) (retK Try.f17 Try.prog h) :=
  (evC_call 17 Try.f17 c17_0 Try.func17 (by kernel_rfl) #[a0,a1] h).trans (by kernel_rfl)
theorem ret17 : retK Try.f17 Try.prog g .ret ⟨ar 35 x, h⟩ = fin g (some (x 4)) h := by kernel_rfl
theorem retn17 : retK Try.f17 Try.prog g .normal ⟨ar 35 x, h⟩ = fin g (some (x 4)) h := by kernel_rfl
end Go.Am
namespace Go.Am
open Go.Proofs
set_option maxRecDepth 100000
variable {β : Type} (x : Nat → Value) (h : Heap) (k : Ex → St → Option β) (r m : List Nat) (g : Heap)
noncomputable def c14_0 : Code := bodyC Try.f14 []
noncomputable def c14_1 : Code := bodyC Try.f14 [true, true, false, true, false, false]
noncomputable def c14_2 : Code := bodyC Try.f14 [true, true, true]
theorem c14_0_eq : cK c14_0 37 x h k =
obH (ev 17 #[x 0,x 1] h) fun v0 h1 =>
(ln 43 v0 h1).bind fun v2 =>
lK c14_1 37 (up x [(4,(.int .i64 0)),(5,(.bool false)),(6,(.int .i64 0)),(7,(.bool false)),(10,(x 0)),(11,(x 1)),(12,v0),(13,v2),(14,(.int .i64 0))]) h1 (blockK 0 (sK c14_2 k)) := by kernel_rfl
theorem c14_1_eq : cK c14_1 37 x h k =
(bn .lss 3 (x 14) (x 13)).bind fun v3 =>
cnd v3 (
(ia 43 (x 12) (x 14)).bind fun v4 =>
(ld 3 v4 h).bind fun v5 =>
(unV Try.prog .not (x 7)).bind fun v6 =>
(gd (wt v6 false) (ia 38 (gdV (wt v6 false) (x 1)) (gdV (wt v6 false) v5))).bind fun v7 =>
(gd (wt v6 false) (fa 37 v7 1)).bind fun v8 =>
(gd (wt v6 false) (ld 3 v8 h)).bind fun v9 =>
(gd (wt v6 false) (ia 38 (gdV (wt v6 false) (x 1)) (gdV (wt v6 false) (x 6)))).bind fun v10 =>
(gd (wt v6 false) (fa 37 v10 1)).bind fun v11 =>
(gd (wt v6 false) (ld 3 v11 h)).bind fun v12 =>
(gd (wt v6 false) (bn .lss 3 v9 v12)).bind fun v13 =>
(pickV v6 (.bool true) v13).bind fun v14 =>
cnd v14 (
(bn .add 3 (x 14) (.int .i64 1)).bind fun v15 =>
k .normal ⟨ar 37 (up x [(6,v5),(7,(.bool true)),(9,v5),(14,v15),(15,v3),(16,v4),(17,v5),(18,(x 7)),(19,v6),(20,v6),(21,(gdV (wt v6 false) (x 1))),(22,(gdV (wt v6 false) v5)),(23,v7),(24,v8),(25,v9),(26,(gdV (wt v6 false) (x 1))),(27,(gdV (wt v6 false) (x 6))),(28,v10),(29,v11),(30,v12),(31,v13),(32,v14),(33,v5),(34,v15)]), h⟩) (
(bn .add 3 (x 14) (.int .i64 1)).bind fun v16 =>
k .normal ⟨ar 37 (up x [(9,v5),(14,v16),(15,v3),(16,v4),(17,v5),(18,(x 7)),(19,v6),(20,v6),(21,(gdV (wt v6 false) (x 1))),(22,(gdV (wt v6 false) v5)),(23,v7),(24,v8),(25,v9),(26,(gdV (wt v6 false) (x 1))),(27,(gdV (wt v6 false) (x 6))),(28,v10),(29,v11),(30,v12),(31,v13),(32,v14),(34,v16)]), h⟩)) (
k (.exit 0) ⟨ar 37 (up x [(15,v3)]), h⟩) := by kernel_rfl
theorem c14_2_eq : cK c14_2 37 x h k =
k .ret ⟨ar 37 (up x [(4,(x 6)),(5,(x 7)),(35,(x 6)),(36,(x 7))]), h⟩ := by kernel_rfl
theorem call14 (a0 a1 : Value) : evC Try.prog 14 #[a0,a1] h = cK c14_0 37 (up un [(0,a0),(1,a1)]) (nm h) (retK Try.f14 Try.prog h) :=
  (evC_call 14 Try.f14 c14_0 Try.func14 (by kernel_rfl) #[a0,a1] h).trans (by kernel_rfl)
theorem ret14 : retK Try.f14 Try.prog g .ret ⟨ar 37 x, h⟩ = fin g (some (.tuple #[x 4, (x 5)])) h := by kernel_rfl
theorem retn14 : retK Try.f14 Try.prog g .normal ⟨ar 37 x, h⟩ = fin g (some (.tuple #[x 4, (x 5)])) h := by kernel_rfl
end Go.Am
namespace Go.Am
open Go.Proofs
set_option maxRecDepth 100000
variable {β : Type} (x : Nat → Value) (h : Heap) (k : Ex → St → Option β) (r m : List Nat) (g : Heap)
noncomputable def c16_0 : Code := bodyC Try.f16 []
noncomputable def c16_1 : Code := bodyC Try.f16 [true, true, false, true, false, false]
noncomputable def c16_2 : Code := bodyC Try.f16 [true, true, true]
theorem c16_0_eq : cK c16_0 26 x h k =
(ln 43 (x 0) h).bind fun v0 =>
(ln 43 (x 1) h).bind fun v1 =>
(bn .neq 3 v0 v1).bind fun v2 =>
cnd v2 (
k .ret ⟨ar 26 (up x [(4,(.bool false)),(6,(x 0)),(7,v0),(8,(x 1)),(9,v1),(10,v2)]), h⟩) (
lK c16_1 26 (up x [(4,(.bool false)),(5,(.int .i64 0)),(6,(x 0)),(7,v0),(8,(x 1)),(9,v1),(10,v2)]) h (blockK 0 (sK c16_2 k))) := by kernel_rfl
theorem c16_1_eq : cK c16_1 26 x h k =
(ln 43 (x 0) h).bind fun v3 =>
(bn .lss 3 (x 5) v3).bind fun v4 =>
cnd v4 (
(ia 43 (x 0) (x 5)).bind fun v5 =>
(ld 3 v5 h).bind fun v6 =>
(ia 43 (x 1) (x 5)).bind fun v7 =>
(ld 3 v7 h).bind fun v8 =>
(bn .neq 3 v6 v8).bind fun v9 =>
cnd v9 (
k .ret ⟨ar 26 (up x [(4,(.bool false)),(11,(x 5)),(12,(x 0)),(13,v3),(14,v4),(17,(x 0)),(18,(x 5)),(19,v5),(20,v6),(21,(x 1)),(22,(x 5)),(23,v7),(24,v8),(25,v9)]), h⟩) (
(bn .add 3 (x 5) (.int .i64 1)).bind fun v10 =>
k .normal ⟨ar 26 (up x [(5,v10),(11,(x 5)),(12,(x 0)),(13,v3),(14,v4),(15,(x 5)),(16,v10),(17,(x 0)),(18,(x 5)),(19,v5),(20,v6),(21,(x 1)),(22,(x 5)),(23,v7),(24,v8),(25,v9)]), h⟩)) (
k (.exit 0) ⟨ar 26 (up x [(11,(x 5)),(12,(x 0)),(13,v3),(14,v4)]), h⟩) := by kernel_rfl
theorem c16_2_eq : cK c16_2 26 x h k =
k .ret ⟨ar 26 (up x [(4,(.bool true))]), h⟩ := by kernel_rfl
theorem call16 (a0 a1 : Value) : evC Try.prog 16 #[a0,a1] h = cK c16_0 26 (up un [(0,a0),(1,a1)]) (nm h) (retK Try.f16 Try.prog h) :=
  (evC_call 16 Try.f16 c16_0 Try.func16 (by kernel_rfl) #[a0,a1] h).trans (by kernel_rfl)
theorem ret16 : retK Try.f16 Try.prog g .ret ⟨ar 26 x, h⟩ = fin g (some (x 4)) h := by kernel_rfl
theorem retn16 : retK Try.f16 Try.prog g .normal ⟨ar 26 x, h⟩ = fin g (some (x 4)) h := by kernel_rfl
end Go.Am
namespace Go.Am
open Go.Proofs
set_option maxRecDepth 100000
variable (Aa Ab Ac Ad Ae Af Ag Ah Ai Aj Ak Al An Ao Ap Aq Ar : Value)
noncomputable def c134_0 : Code := bodyC Try.f134 []
theorem c134_0_eq {β : Type} (h : Heap) (k : Ex → St → Option β) : codeK Try.prog (evC Try.prog) loopL c134_0 ⟨#[Aa,Ab,Ac,Ad,Ae,Af,Ag,Ah,Ai,Aj,Ak,Al,An,Ao,Ap,Aq,Ar], h⟩ k =
(binV Try.prog .lss 3 (.tmp 5) (.const (Go.Value.int Go.IntKind.i64 0)) Ab (Go.Value.int Go.IntKind.i64 0)).bind fun t6_0 =>
(gd (wt t6_0 false) (lenV Try.prog 89 (gdV (wt t6_0 false) Aa) h)).bind fun t10_1 =>
(gd (wt t6_0 false) (binV Try.prog .geq 3 (.tmp 8) (.tmp 10) (gdV (wt t6_0 false) Ab) t10_1)).bind fun t11_2 =>
(pickV t6_0 (Go.Value.bool Bool.true) t11_2).bind fun t12_3 =>
cnd t12_3 (
k .ret ⟨#[Aa,Ab,Ac,Ad, (Go.Value.int Go.IntKind.u64 0),Ab, t6_0, t6_0, (gdV (wt t6_0 false) Ab), (gdV (wt t6_0 false) Aa), t10_1, t11_2, t12_3,Ao,Ap,Aq,Ar], h⟩) (
(indexAddrV Try.prog 89 Aa Ab).bind fun t15_4 =>
(loadV Try.prog 35 t15_4 h).bind fun t16_5 =>
k .ret ⟨#[Aa,Ab,Ac,Ad, t16_5,Ab, t6_0, t6_0, (gdV (wt t6_0 false) Ab), (gdV (wt t6_0 false) Aa), t10_1, t11_2, t12_3,Aa,Ab, t15_4, t16_5], h⟩) := by kernel_rfl
theorem call134 (h : Heap) : evC Try.prog 134 #[Aa,Ab] h = codeK Try.prog (evC Try.prog) loopL c134_0 ⟨#[Aa,Ab, undef, undef, undef, undef, undef, undef, undef, undef, undef, undef, undef, undef, undef, undef, undef], nm h⟩ (retK Try.f134 Try.prog h) :=
  (evC_call 134 Try.f134 c134_0 Try.func134 (by kernel_rfl) #[Aa,Ab] h).trans (by kernel_rfl)
theorem ret134 (h0 h : Heap) : retK Try.f134 Try.prog h0 .ret ⟨#[Aa,Ab,Ac,Ad,Ae,Af,Ag,Ah,Ai,Aj,Ak,Al,An,Ao,Ap,Aq,Ar], h⟩ = fin h0 (some Ae) h := by kernel_rfl
theorem retn134 (h0 h : Heap) : retK Try.f134 Try.prog h0 .normal ⟨#[Aa,Ab,Ac,Ad,Ae,Af,Ag,Ah,Ai,Aj,Ak,Al,An,Ao,Ap,Aq,Ar], h⟩ = fin h0 (some Ae) h := by kernel_rfl
end Go.Am
namespace Go.Am
open Go.Proofs
set_option maxRecDepth 100000
variable (Aa Ab Ac Ad Ae Af Ag : Value)
noncomputable def c42_0 : Code := bodyC Try.f42 []
theorem c42_0_eq {β : Type} (h : Heap) (k : Ex → St → Option β) : codeK Try.prog (evC Try.prog) loopL c42_0 ⟨#[Aa,Ab,Ac,Ad,Ae,Af,Ag], h⟩ k =
obH (builtinV Try.prog .max #[3, 3] #[Aa, (Go.Value.int Go.IntKind.i64 0)] h) fun t4_0 h1 =>
obH (builtinV Try.prog .min #[3, 3] #[t4_0, (Go.Value.int Go.IntKind.i64 64)] h1) fun t5_2 h3 =>
obH (makeSliceV Try.prog 89 t5_2 t5_2 h3) fun t6_4 h5 =>
k .ret ⟨#[Aa,Ab, t6_4,Aa, t4_0, t5_2, t6_4], h5⟩ := by kernel_rfl
theorem call42 (h : Heap) : evC Try.prog 42 #[Aa] h = codeK Try.prog (evC Try.prog) loopL c42_0 ⟨#[Aa, undef, undef, undef, undef, undef, undef], nm h⟩ (retK Try.f42 Try.prog h) :=
  (evC_call 42 Try.f42 c42_0 Try.func42 (by kernel_rfl) #[Aa] h).trans (by kernel_rfl)
theorem ret42 (h0 h : Heap) : retK Try.f42 Try.prog h0 .ret ⟨#[Aa,Ab,Ac,Ad,Ae,Af,Ag], h⟩ = fin h0 (some Ac) h := by kernel_rfl
theorem retn42 (h0 h : Heap) : retK Try.f42 Try.prog h0 .normal ⟨#[Aa,Ab,Ac,Ad,Ae,Af,Ag], h⟩ = fin h0 (some Ac) h := by kernel_rfl
end Go.Am
namespace Go.Am
open Go.Proofs
set_option maxRecDepth 100000
variable (Aa Ab Ac Ad Ae Af Ag Ah Ai Aj Ak Al An Ao Ap Aq Ar As Au Av Aw Ax Ay Az Ba Bb : Value)
noncomputable def c12_0 : Code := bodyC Try.f12 []
noncomputable def c12_1 : Code := bodyC Try.f12 [true, true, true, false, true, false, false]
noncomputable def c12_2 : Code := bodyC Try.f12 [true, true, true, true]
theorem c12_0_eq {β : Type} (h : Heap) (k : Ex → St → Option β) : codeK Try.prog (evC Try.prog) loopL c12_0 ⟨#[Aa,Ab,Ac,Ad,Ae,Af,Ag,Ah,Ai,Aj,Ak,Al,An,Ao,Ap,Aq,Ar,As,Au,Av,Aw,Ax,Ay,Az,Ba,Bb], h⟩ k =
obH (allocV Try.prog 30 h) fun t2_0 h1 =>
(binV Try.prog .lss 3 (.tmp 5) (.const (Go.Value.int Go.IntKind.i64 1)) Aa (Go.Value.int Go.IntKind.i64 1)).bind fun t6_2 =>
(gd (wt t6_2 false) (binV Try.prog .gtr 3 (.tmp 8) (.const (Go.Value.int Go.IntKind.i64 16)) (gdV (wt t6_2 false) Aa) (Go.Value.int Go.IntKind.i64 16))).bind fun t9_3 =>
(pickV t6_2 (Go.Value.bool Bool.true) t9_3).bind fun t10_4 =>
cnd t10_4 (
(buildV Try.prog 30 #[]).bind fun t11_5 =>
(storeV Try.prog 30 t2_0 t11_5 h1).bind fun h6 =>
k .ret ⟨#[Aa,Ab, t2_0, (Go.Value.int Go.IntKind.i64 1),Ae,Aa, t6_2, t6_2, (gdV (wt t6_2 false) Aa), t9_3, t10_4, t11_5,An,Ao,Ap,Aq,Ar,As,Au,Av,Aw,Ax,Ay,Az,Ba,Bb], h6⟩) (
(buildV Try.prog 30 #[(0,Aa)]).bind fun t13_7 =>
obH (allocV Try.prog 30 h1) fun t4_8 h9 =>
(storeV Try.prog 30 t4_8 t13_7 h9).bind fun h10 =>
loopK Try.prog (evC Try.prog) c12_1 ⟨#[Aa,Ab, t2_0, (Go.Value.int Go.IntKind.i64 0), t4_8,Aa, t6_2, t6_2, (gdV (wt t6_2 false) Aa), t9_3, t10_4,Al,Aa, t13_7,Aa, (Go.Value.int Go.IntKind.i64 0),Ar,As,Au,Av,Aw,Ax,Ay,Az,Ba,Bb], h10⟩ (blockK 0 (seqK Try.prog (evC Try.prog) c12_2 k))) := by kernel_rfl
theorem c12_1_eq {β : Type} (h : Heap) (k : Ex → St → Option β) : codeK Try.prog (evC Try.prog) loopL c12_1 ⟨#[Aa,Ab,Ac,Ad,Ae,Af,Ag,Ah,Ai,Aj,Ak,Al,An,Ao,Ap,Aq,Ar,As,Au,Av,Aw,Ax,Ay,Az,Ba,Bb], h⟩ k =
(binV Try.prog .lss 3 (.tmp 15) (.tmp 14) Aq Ap).bind fun t16_11 =>
cnd t16_11 (
(fieldAddrV Try.prog 30 Ae 1).bind fun t17_12 =>
(loadV Try.prog 28 t17_12 h).bind fun t18_13 =>
obH (evC Try.prog 42 #[Aa] (nm h)) fun t20_14 h15 =>
obH (buildSliceV Try.prog 28 1 #[(0, t20_14)] (am h15 h)) fun t21_16 h17 =>
obH (appendV Try.prog 28 (some 28) t18_13 t21_16 h17) fun t22_18 h19 =>
(fieldAddrV Try.prog 30 Ae 1).bind fun t23_20 =>
(storeV Try.prog 28 t23_20 t22_18 h19).bind fun h21 =>
chk ((rb t17_12) ++ []) (h15.mods ++ []) (
(binV Try.prog .add 3 (.tmp 15) (.const (Go.Value.int Go.IntKind.i64 1)) Aq (Go.Value.int Go.IntKind.i64 1)).bind fun t24_22 =>
k .normal ⟨#[Aa,Ab,Ac,Ad,Ae,Af,Ag,Ah,Ai,Aj,Ak,Al,An,Ao,Ap, t24_22, t16_11, t17_12, t18_13,Aa, t20_14, t21_16, t22_18, t23_20, t24_22,Bb], h21⟩)) (
k (.exit 0) ⟨#[Aa,Ab,Ac,Ad,Ae,Af,Ag,Ah,Ai,Aj,Ak,Al,An,Ao,Ap,Aq, t16_11,As,Au,Av,Aw,Ax,Ay,Az,Ba,Bb], h⟩) := by kernel_rfl
theorem c12_2_eq {β : Type} (h : Heap) (k : Ex → St → Option β) : codeK Try.prog (evC Try.prog) loopL c12_2 ⟨#[Aa,Ab,Ac,Ad,Ae,Af,Ag,Ah,Ai,Aj,Ak,Al,An,Ao,Ap,Aq,Ar,As,Au,Av,Aw,Ax,Ay,Az,Ba,Bb], h⟩ k =
(loadV Try.prog 30 Ae h).bind fun t25_23 =>
(storeV Try.prog 30 Ac t25_23 h).bind fun h24 =>
k .ret ⟨#[Aa,Ab,Ac, (Go.Value.int Go.IntKind.i64 0),Ae,Af,Ag,Ah,Ai,Aj,Ak,Al,An,Ao,Ap,Aq,Ar,As,Au,Av,Aw,Ax,Ay,Az,Ba, t25_23], h24⟩ := by kernel_rfl
theorem call12 (h : Heap) : evC Try.prog 12 #[Aa] h = codeK Try.prog (evC Try.prog) loopL c12_0 ⟨#[Aa, undef, undef, undef, undef, undef, undef, undef, undef, undef, undef, undef, undef, undef, undef, undef, undef, undef, undef, undef, undef, undef, undef, undef, undef, undef], nm h⟩ (retK Try.f12 Try.prog h) :=
  (evC_call 12 Try.f12 c12_0 Try.func12 (by kernel_rfl) #[Aa] h).trans (by kernel_rfl)
theorem ret12 (h0 h : Heap) : retK Try.f12 Try.prog h0 .ret ⟨#[Aa,Ab,Ac,Ad,Ae,Af,Ag,Ah,Ai,Aj,Ak,Al,An,Ao,Ap,Aq,Ar,As,Au,Av,Aw,Ax,Ay,Az,Ba,Bb], h⟩ = fin h0 (rvals ((loadV Try.prog 30 Ac h).bind fun r0 => some [r0,Ad])) h := by kernel_rfl
theorem retn12 (h0 h : Heap) : retK Try.f12 Try.prog h0 .normal ⟨#[Aa,Ab,Ac,Ad,Ae,Af,Ag,Ah,Ai,Aj,Ak,Al,An,Ao,Ap,Aq,Ar,As,Au,Av,Aw,Ax,Ay,Az,Ba,Bb], h⟩ = fin h0 (rvals ((loadV Try.prog 30 Ac h).bind fun r0 => some [r0,Ad])) h := by kernel_rfl
end Go.Am
namespace Go.Am
open Go.Proofs
set_option maxRecDepth 100000
variable (Aa Ab Ac Ad Ae Af Ag Ah Ai Aj Ak Al An Ao Ap Aq Ar As Au Av Aw Ax Ay Az : Value)
noncomputable def c43_0 : Code := bodyC Try.f43 []
theorem c43_0_eq {β : Type} (h : Heap) (k : Ex → St → Option β) : codeK Try.prog (evC Try.prog) loopL c43_0 ⟨#[Aa,Ab,Ac,Ad,Ae,Af,Ag,Ah,Ai,Aj,Ak,Al,An,Ao,Ap,Aq,Ar,As,Au,Av,Aw,Ax,Ay,Az], h⟩ k =
obH (boxV Try.prog 30 Aa h) fun t1_0 h1 =>
(fieldAddrV Try.prog 30 t1_0 0).bind fun t3_2 =>
(loadV Try.prog 3 t3_2 h1).bind fun t4_3 =>
(binV Try.prog .lss 3 (.tmp 4) (.const (Go.Value.int Go.IntKind.i64 1)) t4_3 (Go.Value.int Go.IntKind.i64 1)).bind fun t5_4 =>
(gd (wt t5_4 false) (fieldAddrV Try.prog 30 t1_0 0)).bind fun t7_5 =>
(gd (wt t5_4 false) (loadV Try.prog 3 t7_5 h1)).bind fun t8_6 =>
(gd (wt t5_4 false) (binV Try.prog .gtr 3 (.tmp 8) (.const (Go.Value.int Go.IntKind.i64 16)) t8_6 (Go.Value.int Go.IntKind.i64 16))).bind fun t9_7 =>
(pickV t5_4 (Go.Value.bool Bool.true) t9_7).bind fun t10_8 =>
(gd (wt t10_8 false) (fieldAddrV Try.prog 30 t1_0 1)).bind fun t12_9 =>
(gd (wt t10_8 false) (loadV Try.prog 28 t12_9 h1)).bind fun t13_10 =>
(gd (wt t10_8 false) (lenV Try.prog 28 t13_10 h1)).bind fun t14_11 =>
(gd (wt t10_8 false) (fieldAddrV Try.prog 30 t1_0 0)).bind fun t15_12 =>
(gd (wt t10_8 false) (loadV Try.prog 3 t15_12 h1)).bind fun t16_13 =>
(gd (wt t10_8 false) (binV Try.prog .neq 3 (.tmp 14) (.tmp 16) t14_11 t16_13)).bind fun t17_14 =>
(pickV t10_8 (Go.Value.bool Bool.true) t17_14).bind fun t18_15 =>
cnd t18_15 (
k .ret ⟨#[Aa, t1_0, (Go.Value.bool Bool.false), t3_2, t4_3, t5_4, t5_4, t7_5, t8_6, t9_7, t10_8, t10_8, t12_9, t13_10, t14_11, t15_12, t16_13, t17_14, t18_15,Av,Aw,Ax,Ay,Az], h1⟩) (
(fieldAddrV Try.prog 30 t1_0 1).bind fun t19_16 =>
(loadV Try.prog 28 t19_16 h1).bind fun t20_17 =>
obH (evC Try.prog 66 #[t20_17, (.func (Go.Fn.func 67) #[] #[t1_0])] h1) fun t22_18 h19 =>
(unV Try.prog .not t22_18).bind fun t23_20 =>
k .ret ⟨#[Aa, t1_0, t23_20, t3_2, t4_3, t5_4, t5_4, t7_5, t8_6, t9_7, t10_8, t10_8, t12_9, t13_10, t14_11, t15_12, t16_13, t17_14, t18_15, t19_16, t20_17, (.func (Go.Fn.func 67) #[] #[t1_0]), t22_18, t23_20], h19⟩) := by kernel_rfl
theorem call43 (h : Heap) : evC Try.prog 43 #[Aa] h = codeK Try.prog (evC Try.prog) loopL c43_0 ⟨#[Aa, undef, undef, undef, undef, undef, undef, undef, undef, undef, undef, undef, undef, undef, undef, undef, undef, undef, undef, undef, undef, undef, undef, undef], nm h⟩ (retK Try.f43 Try.prog h) :=
  (evC_call 43 Try.f43 c43_0 Try.func43 (by kernel_rfl) #[Aa] h).trans (by kernel_rfl)
theorem ret43 (h0 h : Heap) : retK Try.f43 Try.prog h0 .ret ⟨#[Aa,Ab,Ac,Ad,Ae,Af,Ag,Ah,Ai,Aj,Ak,Al,An,Ao,Ap,Aq,Ar,As,Au,Av,Aw,Ax,Ay,Az], h⟩ = fin h0 (some Ac) h := by kernel_rfl
theorem retn43 (h0 h : Heap) : retK Try.f43 Try.prog h0 .normal ⟨#[Aa,Ab,Ac,Ad,Ae,Af,Ag,Ah,Ai,Aj,Ak,Al,An,Ao,Ap,Aq,Ar,As,Au,Av,Aw,Ax,Ay,Az], h⟩ = fin h0 (some Ac) h := by kernel_rfl
end Go.Am
namespace Go.Am
open Go.Proofs
set_option maxRecDepth 100000
variable (Aa Ab Ac Ad Ae Af Ag Ah Ai : Value)
noncomputable def c67_0 : Code := bodyC Try.f67 []
theorem c67_0_eq {β : Type} (h : Heap) (k : Ex → St → Option β) : codeK Try.prog (evC Try.prog) loopL c67_0 ⟨#[Aa,Ab,Ac,Ad,Ae,Af,Ag,Ah,Ai], h⟩ k =
(lenV Try.prog 89 Aa h).bind fun t5_0 =>
(fieldAddrV Try.prog 30 Ab 0).bind fun t6_1 =>
(loadV Try.prog 3 t6_1 h).bind fun t7_2 =>
(binV Try.prog .neq 3 (.tmp 5) (.tmp 7) t5_0 t7_2).bind fun t8_3 =>
k .ret ⟨#[Aa,Ab,Ac, t8_3,Aa, t5_0, t6_1, t7_2, t8_3], h⟩ := by kernel_rfl
theorem call67 (h : Heap) : evC Try.prog 67 #[Aa] h = codeK Try.prog (evC Try.prog) loopL c67_0 ⟨#[Aa, undef, undef, undef, undef, undef, undef, undef, undef], nm h⟩ (retK Try.f67 Try.prog h) :=
  (evC_call 67 Try.f67 c67_0 Try.func67 (by kernel_rfl) #[Aa] h).trans (by kernel_rfl)
theorem ret67 (h0 h : Heap) : retK Try.f67 Try.prog h0 .ret ⟨#[Aa,Ab,Ac,Ad,Ae,Af,Ag,Ah,Ai], h⟩ = fin h0 (some Ad) h := by kernel_rfl
theorem retn67 (h0 h : Heap) : retK Try.f67 Try.prog h0 .normal ⟨#[Aa,Ab,Ac,Ad,Ae,Af,Ag,Ah,Ai], h⟩ = fin h0 (some Ad) h := by kernel_rfl
end Go.Am
namespace Go.Am
open Go.Proofs
set_option maxRecDepth 100000
variable (Aa Ab Ac Ad Ae Af Ag Ah Ai : Value)
noncomputable def c66_0 : Code := bodyC Try.f66 []
theorem c66_0_eq {β : Type} (h : Heap) (k : Ex → St → Option β) : codeK Try.prog (evC Try.prog) loopL c66_0 ⟨#[Aa,Ab,Ac,Ad,Ae,Af,Ag,Ah,Ai], h⟩ k =
obH (evC Try.prog 84 #[Aa,Ab] h) fun t7_0 h1 =>
(binV Try.prog .geq 3 (.tmp 7) (.const (Go.Value.int Go.IntKind.i64 0)) t7_0 (Go.Value.int Go.IntKind.i64 0)).bind fun t8_2 =>
k .ret ⟨#[Aa,Ab,Ac,Ad, t8_2,Aa,Ab, t7_0, t8_2], h1⟩ := by kernel_rfl
theorem call66 (h : Heap) : evC Try.prog 66 #[Aa,Ab] h = codeK Try.prog (evC Try.prog) loopL c66_0 ⟨#[Aa,Ab, undef, undef, undef, undef, undef, undef, undef], nm h⟩ (retK Try.f66 Try.prog h) :=
  (evC_call 66 Try.f66 c66_0 Try.func66 (by kernel_rfl) #[Aa,Ab] h).trans (by kernel_rfl)
theorem ret66 (h0 h : Heap) : retK Try.f66 Try.prog h0 .ret ⟨#[Aa,Ab,Ac,Ad,Ae,Af,Ag,Ah,Ai], h⟩ = fin h0 (some Ae) h := by kernel_rfl
theorem retn66 (h0 h : Heap) : retK Try.f66 Try.prog h0 .normal ⟨#[Aa,Ab,Ac,Ad,Ae,Af,Ag,Ah,Ai], h⟩ = fin h0 (some Ae) h := by kernel_rfl
end Go.Am
namespace Go.Am
open Go.Proofs
set_option maxRecDepth 100000
variable (Aa Ab Ac Ad Ae Af Ag Ah Ai Aj Ak Al An Ao Ap Aq Ar As Au : Value)
noncomputable def c84_0 : Code := bodyC Try.f84 []
noncomputable def c84_1 : Code := bodyC Try.f84 [true, false, true, false, false]
noncomputable def c84_2 : Code := bodyC Try.f84 [true, true]
theorem c84_0_eq {β : Type} (h : Heap) (k : Ex → St → Option β) : codeK Try.prog (evC Try.prog) loopL c84_0 ⟨#[Aa,Ab,Ac,Ad,Ae,Af,Ag,Ah,Ai,Aj,Ak,Al,An,Ao,Ap,Aq,Ar,As,Au], h⟩ k =
(lenV Try.prog 28 Aa h).bind fun t7_0 =>
loopK Try.prog (evC Try.prog) c84_1 ⟨#[Aa,Ab,Ac,Ad, (Go.Value.int Go.IntKind.i64 0),Af,Aa, t7_0, (Go.Value.int Go.IntKind.i64 0),Aj,Ak,Al,An,Ao,Ap,Aq,Ar,As,Au], h⟩ (blockK 0 (seqK Try.prog (evC Try.prog) c84_2 k)) := by kernel_rfl
theorem c84_1_eq {β : Type} (h : Heap) (k : Ex → St → Option β) : codeK Try.prog (evC Try.prog) loopL c84_1 ⟨#[Aa,Ab,Ac,Ad,Ae,Af,Ag,Ah,Ai,Aj,Ak,Al,An,Ao,Ap,Aq,Ar,As,Au], h⟩ k =
(binV Try.prog .lss 3 (.tmp 8) (.tmp 7) Ai Ah).bind fun t9_1 =>
cnd t9_1 (
(indexAddrV Try.prog 28 Aa Ai).bind fun t14_2 =>
(loadV Try.prog 89 t14_2 h).bind fun t15_3 =>
obH (callV Try.prog (evC Try.prog) Ab #[t15_3] h) fun t16_4 h5 =>
cnd t16_4 (
k .ret ⟨#[Aa,Ab,Ac,Ad,Ai,Ai,Ag,Ah,Ai, t9_1,Ai,Ab,Aa,Ai, t14_2, t15_3, t16_4,Ai,Au], h5⟩) (
(binV Try.prog .add 3 (.tmp 8) (.const (Go.Value.int Go.IntKind.i64 1)) Ai (Go.Value.int Go.IntKind.i64 1)).bind fun t18_6 =>
k .normal ⟨#[Aa,Ab,Ac,Ad,Ae,Ai,Ag,Ah, t18_6, t9_1,Ai,Ab,Aa,Ai, t14_2, t15_3, t16_4,As, t18_6], h5⟩)) (
k (.exit 0) ⟨#[Aa,Ab,Ac,Ad,Ae,Af,Ag,Ah,Ai, t9_1,Ak,Al,An,Ao,Ap,Aq,Ar,As,Au], h⟩) := by kernel_rfl
theorem c84_2_eq {β : Type} (h : Heap) (k : Ex → St → Option β) : codeK Try.prog (evC Try.prog) loopL c84_2 ⟨#[Aa,Ab,Ac,Ad,Ae,Af,Ag,Ah,Ai,Aj,Ak,Al,An,Ao,Ap,Aq,Ar,As,Au], h⟩ k =
k .ret ⟨#[Aa,Ab,Ac,Ad, (Go.Value.int Go.IntKind.i64 (-1)),Af,Ag,Ah,Ai,Aj,Ak,Al,An,Ao,Ap,Aq,Ar,As,Au], h⟩ := by kernel_rfl
theorem call84 (h : Heap) : evC Try.prog 84 #[Aa,Ab] h = codeK Try.prog (evC Try.prog) loopL c84_0 ⟨#[Aa,Ab, undef, undef, undef, undef, undef, undef, undef, undef, undef, undef, undef, undef, undef, undef, undef, undef, undef], nm h⟩ (retK Try.f84 Try.prog h) :=
  (evC_call 84 Try.f84 c84_0 Try.func84 (by kernel_rfl) #[Aa,Ab] h).trans (by kernel_rfl)
theorem ret84 (h0 h : Heap) : retK Try.f84 Try.prog h0 .ret ⟨#[Aa,Ab,Ac,Ad,Ae,Af,Ag,Ah,Ai,Aj,Ak,Al,An,Ao,Ap,Aq,Ar,As,Au], h⟩ = fin h0 (some Ae) h := by kernel_rfl
theorem retn84 (h0 h : Heap) : retK Try.f84 Try.prog h0 .normal ⟨#[Aa,Ab,Ac,Ad,Ae,Af,Ag,Ah,Ai,Aj,Ak,Al,An,Ao,Ap,Aq,Ar,As,Au], h⟩ = fin h0 (some Ae) h := by kernel_rfl
end Go.Am
namespace Go.Am
open Go.Proofs
set_option maxRecDepth 100000
variable (Aa Ab Ac Ad Ae Af Ag Ah Ai Aj Ak Al An Ao Ap Aq Ar As Au Av Aw Ax Ay Az Ba Bb Bc Bd Be Bf Bg Bh Bi Bj Bk Bl Bm : Value)
noncomputable def c127_0 : Code := bodyC Try.f127 []
noncomputable def c127_1 : Code := bodyC Try.f127 [true, true, true, false, true, false, false]
noncomputable def c127_2 : Code := bodyC Try.f127 [true, true, true, true]
theorem c127_0_eq {β : Type} (h : Heap) (k : Ex → St → Option β) : codeK Try.prog (evC Try.prog) loopL c127_0 ⟨#[Aa,Ab,Ac,Ad,Ae,Af,Ag,Ah,Ai,Aj,Ak,Al,An,Ao,Ap,Aq,Ar,As,Au,Av,Aw,Ax,Ay,Az,Ba,Bb,Bc,Bd,Be,Bf,Bg,Bh,Bi,Bj,Bk,Bl,Bm], h⟩ k =
obH (boxV Try.prog 30 Aa h) fun t2_0 h1 =>
(loadV Try.prog 30 t2_0 h1).bind fun t8_2 =>
obH (evC Try.prog 43 #[t8_2] h1) fun t9_3 h4 =>
(unV Try.prog .not t9_3).bind fun t10_5 =>
(gd (wt t10_5 false) (binV Try.prog .lss 3 (.tmp 12) (.const (Go.Value.int Go.IntKind.i64 0)) (gdV (wt t10_5 false) Ab) (Go.Value.int Go.IntKind.i64 0))).bind fun t13_6 =>
(pickV t10_5 (Go.Value.bool Bool.true) t13_6).bind fun t14_7 =>
(gd (wt t14_7 false) (fieldAddrV Try.prog 30 t2_0 0)).bind fun t17_8 =>
(gd (wt t14_7 false) (loadV Try.prog 3 t17_8 h4)).bind fun t18_9 =>
(gd (wt t14_7 false) (binV Try.prog .geq 3 (.tmp 16) (.tmp 18) (gdV (wt t14_7 false) Ab) t18_9)).bind fun t19_10 =>
(pickV t14_7 (Go.Value.bool Bool.true) t19_10).bind fun t20_11 =>
cnd t20_11 (
k .ret ⟨#[Aa,Ab, t2_0,Ad, (Go.Value.slice Option.none 0 0),Af,Ag,Ah, t8_2, t9_3, t10_5, t10_5, (gdV (wt t10_5 false) Ab), t13_6, t14_7, t14_7, (gdV (wt t14_7 false) Ab), t17_8, t18_9, t19_10, t20_11,Ax,Ay,Az,Ba,Bb,Bc,Bd,Be,Bf,Bg,Bh,Bi,Bj,Bk,Bl,Bm], h4⟩) (
(fieldAddrV Try.prog 30 t2_0 1).bind fun t21_12 =>
(loadV Try.prog 28 t21_12 h4).bind fun t22_13 =>
(lenV Try.prog 28 t22_13 h4).bind fun t23_14 =>
loopK Try.prog (evC Try.prog) c127_1 ⟨#[Aa,Ab, t2_0,Ad, (Go.Value.slice Option.none 0 0), (Go.Value.slice Option.none 0 0),Ag,Ah, t8_2, t9_3, t10_5, t10_5, (gdV (wt t10_5 false) Ab), t13_6, t14_7, t14_7, (gdV (wt t14_7 false) Ab), t17_8, t18_9, t19_10, t20_11, t21_12, t22_13, t23_14, (Go.Value.int Go.IntKind.i64 0),Bb,Bc,Bd,Be,Bf,Bg,Bh,Bi,Bj,Bk,Bl,Bm], h4⟩ (blockK 0 (seqK Try.prog (evC Try.prog) c127_2 k))) := by kernel_rfl
theorem c127_1_eq {β : Type} (h : Heap) (k : Ex → St → Option β) : codeK Try.prog (evC Try.prog) loopL c127_1 ⟨#[Aa,Ab,Ac,Ad,Ae,Af,Ag,Ah,Ai,Aj,Ak,Al,An,Ao,Ap,Aq,Ar,As,Au,Av,Aw,Ax,Ay,Az,Ba,Bb,Bc,Bd,Be,Bf,Bg,Bh,Bi,Bj,Bk,Bl,Bm], h⟩ k =
(binV Try.prog .lss 3 (.tmp 24) (.tmp 23) Ba Az).bind fun t25_15 =>
cnd t25_15 (
(indexAddrV Try.prog 28 Ay Ba).bind fun t26_16 =>
(loadV Try.prog 89 t26_16 h).bind fun t27_17 =>
(indexAddrV Try.prog 89 t27_17 Ab).bind fun t31_18 =>
(loadV Try.prog 35 t31_18 h).bind fun t32_19 =>
obH (buildSliceV Try.prog 89 1 #[(0, t32_19)] h) fun t33_20 h21 =>
obH (appendV Try.prog 89 (some 89) Af t33_20 h21) fun t34_22 h23 =>
(binV Try.prog .add 3 (.tmp 24) (.const (Go.Value.int Go.IntKind.i64 1)) Ba (Go.Value.int Go.IntKind.i64 1)).bind fun t35_24 =>
k .normal ⟨#[Aa,Ab,Ac,Ad,Ae, t34_22,Ag, t27_17,Ai,Aj,Ak,Al,An,Ao,Ap,Aq,Ar,As,Au,Av,Aw,Ax,Ay,Az, t35_24, t25_15, t26_16, t27_17,Af, t27_17,Ab, t31_18, t32_19, t33_20, t34_22, t35_24,Bm], h23⟩) (
k (.exit 0) ⟨#[Aa,Ab,Ac,Ad,Ae,Af,Ag,Ah,Ai,Aj,Ak,Al,An,Ao,Ap,Aq,Ar,As,Au,Av,Aw,Ax,Ay,Az,Ba, t25_15,Bc,Bd,Be,Bf,Bg,Bh,Bi,Bj,Bk,Bl,Bm], h⟩) := by kernel_rfl
theorem c127_2_eq {β : Type} (h : Heap) (k : Ex → St → Option β) : codeK Try.prog (evC Try.prog) loopL c127_2 ⟨#[Aa,Ab,Ac,Ad,Ae,Af,Ag,Ah,Ai,Aj,Ak,Al,An,Ao,Ap,Aq,Ar,As,Au,Av,Aw,Ax,Ay,Az,Ba,Bb,Bc,Bd,Be,Bf,Bg,Bh,Bi,Bj,Bk,Bl,Bm], h⟩ k =
k .ret ⟨#[Aa,Ab,Ac,Ad,Af,Af,Ag,Ah,Ai,Aj,Ak,Al,An,Ao,Ap,Aq,Ar,As,Au,Av,Aw,Ax,Ay,Az,Ba,Bb,Bc,Bd,Be,Bf,Bg,Bh,Bi,Bj,Bk,Bl,Af], h⟩ := by kernel_rfl
theorem call127 (h : Heap) : evC Try.prog 127 #[Aa,Ab] h = codeK Try.prog (evC Try.prog) loopL c127_0 ⟨#[Aa,Ab, undef, undef, undef, undef, undef, undef, undef, undef, undef, undef, undef, undef, undef, undef, undef, undef, undef, undef, undef, undef, undef, undef, undef, undef, undef, undef, undef, undef, undef, undef, undef, undef, undef, undef, undef], nm h⟩ (retK Try.f127 Try.prog h) :=
  (evC_call 127 Try.f127 c127_0 Try.func127 (by kernel_rfl) #[Aa,Ab] h).trans (by kernel_rfl)
theorem ret127 (h0 h : Heap) : retK Try.f127 Try.prog h0 .ret ⟨#[Aa,Ab,Ac,Ad,Ae,Af,Ag,Ah,Ai,Aj,Ak,Al,An,Ao,Ap,Aq,Ar,As,Au,Av,Aw,Ax,Ay,Az,Ba,Bb,Bc,Bd,Be,Bf,Bg,Bh,Bi,Bj,Bk,Bl,Bm], h⟩ = fin h0 (some Ae) h := by kernel_rfl
theorem retn127 (h0 h : Heap) : retK Try.f127 Try.prog h0 .normal ⟨#[Aa,Ab,Ac,Ad,Ae,Af,Ag,Ah,Ai,Aj,Ak,Al,An,Ao,Ap,Aq,Ar,As,Au,Av,Aw,Ax,Ay,Az,Ba,Bb,Bc,Bd,Be,Bf,Bg,Bh,Bi,Bj,Bk,Bl,Bm], h⟩ = fin h0 (some Ae) h := by kernel_rfl
end Go.Am
namespace Go.Am
open Go.Proofs
set_option maxRecDepth 100000
variable (Aa Ab Ac Ad Ae Af Ag Ah Ai Aj Ak Al An Ao Ap Aq Ar As : Value)
noncomputable def c27_0 : Code := bodyC Try.f27 []
theorem c27_0_eq {β : Type} (h : Heap) (k : Ex → St → Option β) : codeK Try.prog (evC Try.prog) loopL c27_0 ⟨#[Aa,Ab,Ac,Ad,Ae,Af,Ag,Ah,Ai,Aj,Ak,Al,An,Ao,Ap,Aq,Ar,As], h⟩ k =
(binV Try.prog .geq 3 (.tmp 5) (.const (Go.Value.int Go.IntKind.i64 0)) Ab (Go.Value.int Go.IntKind.i64 0)).bind fun t6_0 =>
(gd (wt t6_0 true) (binV Try.prog .lss 3 (.tmp 8) (.const (Go.Value.int Go.IntKind.i64 64)) (gdV (wt t6_0 true) Ab) (Go.Value.int Go.IntKind.i64 64))).bind fun t9_1 =>
(pickV t6_0 t9_1 (Go.Value.bool Bool.false)).bind fun t10_2 =>
(gd (wt t10_2 true) (binV Try.prog .shr 55 (.tmp 12) (.tmp 13) (gdV (wt t10_2 true) Aa) (gdV (wt t10_2 true) Ab))).bind fun t14_3 =>
(gd (wt t10_2 true) (binV Try.prog .and 55 (.tmp 14) (.const (Go.Value.int Go.IntKind.u64 1)) t14_3 (Go.Value.int Go.IntKind.u64 1))).bind fun t15_4 =>
(gd (wt t10_2 true) (binV Try.prog .eql 55 (.tmp 15) (.const (Go.Value.int Go.IntKind.u64 1)) t15_4 (Go.Value.int Go.IntKind.u64 1))).bind fun t16_5 =>
(pickV t10_2 t16_5 (Go.Value.bool Bool.false)).bind fun t17_6 =>
k .ret ⟨#[Aa,Ab,Ac,Ad, t17_6,Ab, t6_0, t6_0, (gdV (wt t6_0 true) Ab), t9_1, t10_2, t10_2, (gdV (wt t10_2 true) Aa), (gdV (wt t10_2 true) Ab), t14_3, t15_4, t16_5, t17_6], h⟩ := by kernel_rfl
theorem call27 (h : Heap) : evC Try.prog 27 #[Aa,Ab] h = codeK Try.prog (evC Try.prog) loopL c27_0 ⟨#[Aa,Ab, undef, undef, undef, undef, undef, undef, undef, undef, undef, undef, undef, undef, undef, undef, undef, undef], nm h⟩ (retK Try.f27 Try.prog h) :=
  (evC_call 27 Try.f27 c27_0 Try.func27 (by kernel_rfl) #[Aa,Ab] h).trans (by kernel_rfl)
theorem ret27 (h0 h : Heap) : retK Try.f27 Try.prog h0 .ret ⟨#[Aa,Ab,Ac,Ad,Ae,Af,Ag,Ah,Ai,Aj,Ak,Al,An,Ao,Ap,Aq,Ar,As], h⟩ = fin h0 (some Ae) h := by kernel_rfl
theorem retn27 (h0 h : Heap) : retK Try.f27 Try.prog h0 .normal ⟨#[Aa,Ab,Ac,Ad,Ae,Af,Ag,Ah,Ai,Aj,Ak,Al,An,Ao,Ap,Aq,Ar,As], h⟩ = fin h0 (some Ae) h := by kernel_rfl
end Go.Am
namespace Go.Am
open Go.Proofs
set_option maxRecDepth 100000
variable (Aa Ab Ac Ad Ae Af Ag Ah Ai Aj Ak Al An Ao Ap Aq Ar As Au Av Aw Ax Ay Az : Value)
noncomputable def c26_0 : Code := bodyC Try.f26 []
noncomputable def c26_1 : Code := bodyC Try.f26 [true, true, false, true, false, false]
noncomputable def c26_2 : Code := bodyC Try.f26 [true, true, true]
theorem c26_0_eq {β : Type} (h : Heap) (k : Ex → St → Option β) : codeK Try.prog (evC Try.prog) loopL c26_0 ⟨#[Aa,Ab,Ac,Ad,Ae,Af,Ag,Ah,Ai,Aj,Ak,Al,An,Ao,Ap,Aq,Ar,As,Au,Av,Aw,Ax,Ay,Az], h⟩ k =
(lenV Try.prog 43 Aa h).bind fun t7_0 =>
loopK Try.prog (evC Try.prog) c26_1 ⟨#[Aa,Ab, (Go.Value.int Go.IntKind.u64 0), (Go.Value.int Go.IntKind.u64 0),Ae,Af,Aa, t7_0, (Go.Value.int Go.IntKind.i64 0),Aj,Ak,Al,An,Ao,Ap,Aq,Ar,As,Au,Av,Aw,Ax,Ay,Az], h⟩ (blockK 0 (seqK Try.prog (evC Try.prog) c26_2 k)) := by kernel_rfl
theorem c26_1_eq {β : Type} (h : Heap) (k : Ex → St → Option β) : codeK Try.prog (evC Try.prog) loopL c26_1 ⟨#[Aa,Ab,Ac,Ad,Ae,Af,Ag,Ah,Ai,Aj,Ak,Al,An,Ao,Ap,Aq,Ar,As,Au,Av,Aw,Ax,Ay,Az], h⟩ k =
(binV Try.prog .lss 3 (.tmp 8) (.tmp 7) Ai Ah).bind fun t9_1 =>
cnd t9_1 (
(indexAddrV Try.prog 43 Ag Ai).bind fun t10_2 =>
(loadV Try.prog 3 t10_2 h).bind fun t11_3 =>
(binV Try.prog .geq 3 (.tmp 12) (.const (Go.Value.int Go.IntKind.i64 0)) t11_3 (Go.Value.int Go.IntKind.i64 0)).bind fun t13_4 =>
(gd (wt t13_4 true) (binV Try.prog .lss 3 (.tmp 15) (.const (Go.Value.int Go.IntKind.i64 64)) (gdV (wt t13_4 true) t11_3) (Go.Value.int Go.IntKind.i64 64))).bind fun t16_5 =>
(pickV t13_4 t16_5 (Go.Value.bool Bool.false)).bind fun t17_6 =>
cnd t17_6 (
(binV Try.prog .shl 55 (.const (Go.Value.int Go.IntKind.u64 1)) (.tmp 19) (Go.Value.int Go.IntKind.u64 1) t11_3).bind fun t20_7 =>
(binV Try.prog .or 55 (.tmp 18) (.tmp 20) Ad t20_7).bind fun t21_8 =>
(binV Try.prog .add 3 (.tmp 8) (.const (Go.Value.int Go.IntKind.i64 1)) Ai (Go.Value.int Go.IntKind.i64 1)).bind fun t22_9 =>
k .normal ⟨#[Aa,Ab,Ac, t21_8,Ae, t11_3,Ag,Ah, t22_9, t9_1, t10_2, t11_3, t11_3, t13_4, t13_4, (gdV (wt t13_4 true) t11_3), t16_5, t17_6,Ad, t11_3, t20_7, t21_8, t22_9,Az], h⟩) (
(binV Try.prog .add 3 (.tmp 8) (.const (Go.Value.int Go.IntKind.i64 1)) Ai (Go.Value.int Go.IntKind.i64 1)).bind fun t22_10 =>
k .normal ⟨#[Aa,Ab,Ac,Ad,Ae, t11_3,Ag,Ah, t22_10, t9_1, t10_2, t11_3, t11_3, t13_4, t13_4, (gdV (wt t13_4 true) t11_3), t16_5, t17_6,Au,Av,Aw,Ax, t22_10,Az], h⟩)) (
k (.exit 0) ⟨#[Aa,Ab,Ac,Ad,Ae,Af,Ag,Ah,Ai, t9_1,Ak,Al,An,Ao,Ap,Aq,Ar,As,Au,Av,Aw,Ax,Ay,Az], h⟩) := by kernel_rfl
theorem c26_2_eq {β : Type} (h : Heap) (k : Ex → St → Option β) : codeK Try.prog (evC Try.prog) loopL c26_2 ⟨#[Aa,Ab,Ac,Ad,Ae,Af,Ag,Ah,Ai,Aj,Ak,Al,An,Ao,Ap,Aq,Ar,As,Au,Av,Aw,Ax,Ay,Az], h⟩ k =
k .ret ⟨#[Aa,Ab,Ad,Ad,Ae,Af,Ag,Ah,Ai,Aj,Ak,Al,An,Ao,Ap,Aq,Ar,As,Au,Av,Aw,Ax,Ay,Ad], h⟩ := by kernel_rfl
theorem call26 (h : Heap) : evC Try.prog 26 #[Aa] h = codeK Try.prog (evC Try.prog) loopL c26_0 ⟨#[Aa, undef, undef, undef, undef, undef, undef, undef, undef, undef, undef, undef, undef, undef, undef, undef, undef, undef, undef, undef, undef, undef, undef, undef], nm h⟩ (retK Try.f26 Try.prog h) :=
  (evC_call 26 Try.f26 c26_0 Try.func26 (by kernel_rfl) #[Aa] h).trans (by kernel_rfl)
theorem ret26 (h0 h : Heap) : retK Try.f26 Try.prog h0 .ret ⟨#[Aa,Ab,Ac,Ad,Ae,Af,Ag,Ah,Ai,Aj,Ak,Al,An,Ao,Ap,Aq,Ar,As,Au,Av,Aw,Ax,Ay,Az], h⟩ = fin h0 (some Ac) h := by kernel_rfl
theorem retn26 (h0 h : Heap) : retK Try.f26 Try.prog h0 .normal ⟨#[Aa,Ab,Ac,Ad,Ae,Af,Ag,Ah,Ai,Aj,Ak,Al,An,Ao,Ap,Aq,Ar,As,Au,Av,Aw,Ax,Ay,Az], h⟩ = fin h0 (some Ac) h := by kernel_rfl
end Go.Am
namespace Go.Am
open Go.Proofs
set_option maxRecDepth 100000
variable (Aa Ab Ac : Value)
noncomputable def c44_0 : Code := bodyC Try.f44 []
theorem c44_0_eq {β : Type} (h : Heap) (k : Ex → St → Option β) : codeK Try.prog (evC Try.prog) loopL c44_0 ⟨#[Aa,Ab,Ac], h⟩ k =
(buildV Try.prog 126 #[]).bind fun t1_0 =>
obH (boxV Try.prog 126 t1_0 h) fun t2_1 h2 =>
k .ret ⟨#[t2_1, t1_0, t2_1], h2⟩ := by kernel_rfl
theorem call44 (h : Heap) : evC Try.prog 44 #[] h = codeK Try.prog (evC Try.prog) loopL c44_0 ⟨#[undef, undef, undef], nm h⟩ (retK Try.f44 Try.prog h) :=
  (evC_call 44 Try.f44 c44_0 Try.func44 (by kernel_rfl) #[] h).trans (by kernel_rfl)
theorem ret44 (h0 h : Heap) : retK Try.f44 Try.prog h0 .ret ⟨#[Aa,Ab,Ac], h⟩ = fin h0 (some Aa) h := by kernel_rfl
theorem retn44 (h0 h : Heap) : retK Try.f44 Try.prog h0 .normal ⟨#[Aa,Ab,Ac], h⟩ = fin h0 (some Aa) h := by kernel_rfl
end Go.Am
namespace Go.Am
open Go.Proofs
set_option maxRecDepth 100000
variable (Aa Ab Ac Ad Ae Af Ag Ah Ai Aj Ak Al An : Value)
noncomputable def c45_0 : Code := bodyC Try.f45 []
theorem c45_0_eq {β : Type} (h : Heap) (k : Ex → St → Option β) : codeK Try.prog (evC Try.prog) loopL c45_0 ⟨#[Aa,Ab,Ac,Ad,Ae,Af,Ag,Ah,Ai,Aj,Ak,Al,An], h⟩ k =
(nilCheckV Aa).bind fun t6_0 =>
(fieldAddrV Try.prog 126 t6_0 0).bind fun t7_1 =>
(loadV Try.prog 33 t7_1 h).bind fun t8_2 =>
obH (evC Try.prog 68 #[t8_2,Ab] h) fun t10_3 h4 =>
(nilCheckV Aa).bind fun t11_5 =>
(fieldAddrV Try.prog 126 t11_5 0).bind fun t12_6 =>
(storeV Try.prog 33 t12_6 t10_3 h4).bind fun h7 =>
k .normal ⟨#[Aa,Ab,Ac,Ad,Aa,Aa, t6_0, t7_1, t8_2,Ab, t10_3, t11_5, t12_6], h7⟩ := by kernel_rfl
theorem call45 (h : Heap) : evC Try.prog 45 #[Aa,Ab] h = codeK Try.prog (evC Try.prog) loopL c45_0 ⟨#[Aa,Ab, undef, undef, undef, undef, undef, undef, undef, undef, undef, undef, undef], nm h⟩ (retK Try.f45 Try.prog h) :=
  (evC_call 45 Try.f45 c45_0 Try.func45 (by kernel_rfl) #[Aa,Ab] h).trans (by kernel_rfl)
theorem ret45 (h0 h : Heap) : retK Try.f45 Try.prog h0 .ret ⟨#[Aa,Ab,Ac,Ad,Ae,Af,Ag,Ah,Ai,Aj,Ak,Al,An], h⟩ = fin h0 (some (.tuple #[])) h := by kernel_rfl
theorem retn45 (h0 h : Heap) : retK Try.f45 Try.prog h0 .normal ⟨#[Aa,Ab,Ac,Ad,Ae,Af,Ag,Ah,Ai,Aj,Ak,Al,An], h⟩ = fin h0 (some (.tuple #[])) h := by kernel_rfl
end Go.Am
namespace Go.Am
open Go.Proofs
set_option maxRecDepth 100000
variable (Aa Ab Ac Ad Ae Af Ag Ah : Value)
noncomputable def c46_0 : Code := bodyC Try.f46 []
theorem c46_0_eq {β : Type} (h : Heap) (k : Ex → St → Option β) : codeK Try.prog (evC Try.prog) loopL c46_0 ⟨#[Aa,Ab,Ac,Ad,Ae,Af,Ag,Ah], h⟩ k =
(nilCheckV Aa).bind fun t4_0 =>
(fieldAddrV Try.prog 126 t4_0 0).bind fun t5_1 =>
(loadV Try.prog 33 t5_1 h).bind fun t6_2 =>
obH (evC Try.prog 69 #[t6_2] h) fun t7_3 h4 =>
k .ret ⟨#[Aa,Ab, t7_3,Aa, t4_0, t5_1, t6_2, t7_3], h4⟩ := by kernel_rfl
theorem call46 (h : Heap) : evC Try.prog 46 #[Aa] h = codeK Try.prog (evC Try.prog) loopL c46_0 ⟨#[Aa, undef, undef, undef, undef, undef, undef, undef], nm h⟩ (retK Try.f46 Try.prog h) :=
  (evC_call 46 Try.f46 c46_0 Try.func46 (by kernel_rfl) #[Aa] h).trans (by kernel_rfl)
theorem ret46 (h0 h : Heap) : retK Try.f46 Try.prog h0 .ret ⟨#[Aa,Ab,Ac,Ad,Ae,Af,Ag,Ah], h⟩ = fin h0 (some Ac) h := by kernel_rfl
theorem retn46 (h0 h : Heap) : retK Try.f46 Try.prog h0 .normal ⟨#[Aa,Ab,Ac,Ad,Ae,Af,Ag,Ah], h⟩ = fin h0 (some Ac) h := by kernel_rfl
end Go.Am
namespace Go.Am
open Go.Proofs
set_option maxRecDepth 100000
variable (Aa Ab Ac Ad Ae Af Ag : Value)
noncomputable def c53_0 : Code := bodyC Try.f53 []
theorem c53_0_eq {β : Type} (h : Heap) (k : Ex → St → Option β) : codeK Try.prog (evC Try.prog) loopL c53_0 ⟨#[Aa,Ab,Ac,Ad,Ae,Af,Ag], h⟩ k =
obH (evC Try.prog 69 #[Aa] h) fun t4_0 h1 =>
(buildV Try.prog 138 #[(0, t4_0)]).bind fun t5_2 =>
obH (boxV Try.prog 138 t5_2 h1) fun t6_3 h4 =>
k .ret ⟨#[Aa,Ab, t6_3,Aa, t4_0, t5_2, t6_3], h4⟩ := by kernel_rfl
theorem call53 (h : Heap) : evC Try.prog 53 #[Aa] h = codeK Try.prog (evC Try.prog) loopL c53_0 ⟨#[Aa, undef, undef, undef, undef, undef, undef], nm h⟩ (retK Try.f53 Try.prog h) :=
  (evC_call 53 Try.f53 c53_0 Try.func53 (by kernel_rfl) #[Aa] h).trans (by kernel_rfl)
theorem ret53 (h0 h : Heap) : retK Try.f53 Try.prog h0 .ret ⟨#[Aa,Ab,Ac,Ad,Ae,Af,Ag], h⟩ = fin h0 (some Ac) h := by kernel_rfl
theorem retn53 (h0 h : Heap) : retK Try.f53 Try.prog h0 .normal ⟨#[Aa,Ab,Ac,Ad,Ae,Af,Ag], h⟩ = fin h0 (some Ac) h := by kernel_rfl
end Go.Am
namespace Go.Am
open Go.Proofs
set_option maxRecDepth 100000
variable (Aa Ab Ac Ad Ae Af Ag Ah Ai Aj Ak Al An Ao Ap Aq Ar As Au Av Aw Ax Ay Az Ba Bb Bc Bd Be Bf Bg Bh Bi Bj : Value)
noncomputable def c54_0 : Code := bodyC Try.f54 []
theorem c54_0_eq {β : Type} (h : Heap) (k : Ex → St → Option β) : codeK Try.prog (evC Try.prog) loopL c54_0 ⟨#[Aa,Ab,Ac,Ad,Ae,Af,Ag,Ah,Ai,Aj,Ak,Al,An,Ao,Ap,Aq,Ar,As,Au,Av,Aw,Ax,Ay,Az,Ba,Bb,Bc,Bd,Be,Bf,Bg,Bh,Bi,Bj], h⟩ k =
(nilCheckV Aa).bind fun t9_0 =>
(fieldAddrV Try.prog 138 t9_0 0).bind fun t10_1 =>
(loadV Try.prog 33 t10_1 h).bind fun t11_2 =>
obH (evC Try.prog 77 #[t11_2] h) fun t12_3 h4 =>
(extractV t12_3 0).bind fun t13_5 =>
(extractV t12_3 1).bind fun t14_6 =>
(binV Try.prog .eql 3 (.tmp 16) (.const (Go.Value.int Go.IntKind.i64 0)) t14_6 (Go.Value.int Go.IntKind.i64 0)).bind fun t17_7 =>
(gd (wt t17_7 false) (binV Try.prog .gtr 35 (.tmp 19) (.tmp 20) (gdV (wt t17_7 false) t13_5) (gdV (wt t17_7 false) Ab))).bind fun t21_8 =>
(pickV t17_7 (Go.Value.bool Bool.true) t21_8).bind fun t22_9 =>
obH (evC Try.prog 78 #[Aa, t22_9] h4) fun t23_10 h11 =>
cnd t23_10 (
k .ret ⟨#[Aa,Ab,Ac,Ad, (Go.Value.int Go.IntKind.u64 0), t13_5, t14_6, t12_3,Aa, t9_0, t10_1, t11_2, t12_3, t13_5, t14_6,Aa, t14_6, t17_7, t17_7, (gdV (wt t17_7 false) t13_5), (gdV (wt t17_7 false) Ab), t21_8, t22_9, t23_10,Ba,Bb,Bc,Bd,Be,Bf,Bg,Bh,Bi,Bj], h11⟩) (
(nilCheckV Aa).bind fun t26_12 =>
(fieldAddrV Try.prog 138 t26_12 0).bind fun t27_13 =>
(loadV Try.prog 33 t27_13 h11).bind fun t28_14 =>
(sliceV Try.prog 33 t28_14 (some t14_6) none none h11).bind fun t30_15 =>
(nilCheckV Aa).bind fun t31_16 =>
(fieldAddrV Try.prog 138 t31_16 0).bind fun t32_17 =>
(storeV Try.prog 33 t32_17 t30_15 h11).bind fun h18 =>
k .ret ⟨#[Aa,Ab,Ac,Ad, t13_5, t13_5, t14_6, t12_3,Aa, t9_0, t10_1, t11_2, t12_3, t13_5, t14_6,Aa, t14_6, t17_7, t17_7, (gdV (wt t17_7 false) t13_5), (gdV (wt t17_7 false) Ab), t21_8, t22_9, t23_10,Aa,Aa, t26_12, t27_13, t28_14, t14_6, t30_15, t31_16, t32_17, t13_5], h18⟩) := by kernel_rfl
theorem call54 (h : Heap) : evC Try.prog 54 #[Aa,Ab] h = codeK Try.prog (evC Try.prog) loopL c54_0 ⟨#[Aa,Ab, undef, undef, undef, undef, undef, undef, undef, undef, undef, undef, undef, undef, undef, undef, undef, undef, undef, undef, undef, undef, undef, undef, undef, undef, undef, undef, undef, undef, undef, undef, undef, undef], nm h⟩ (retK Try.f54 Try.prog h) :=
  (evC_call 54 Try.f54 c54_0 Try.func54 (by kernel_rfl) #[Aa,Ab] h).trans (by kernel_rfl)
theorem ret54 (h0 h : Heap) : retK Try.f54 Try.prog h0 .ret ⟨#[Aa,Ab,Ac,Ad,Ae,Af,Ag,Ah,Ai,Aj,Ak,Al,An,Ao,Ap,Aq,Ar,As,Au,Av,Aw,Ax,Ay,Az,Ba,Bb,Bc,Bd,Be,Bf,Bg,Bh,Bi,Bj], h⟩ = fin h0 (some Ae) h := by kernel_rfl
theorem retn54 (h0 h : Heap) : retK Try.f54 Try.prog h0 .normal ⟨#[Aa,Ab,Ac,Ad,Ae,Af,Ag,Ah,Ai,Aj,Ak,Al,An,Ao,Ap,Aq,Ar,As,Au,Av,Aw,Ax,Ay,Az,Ba,Bb,Bc,Bd,Be,Bf,Bg,Bh,Bi,Bj], h⟩ = fin h0 (some Ae) h := by kernel_rfl
end Go.Am
namespace Go.Am
open Go.Proofs
set_option maxRecDepth 100000
variable (Aa Ab Ac Ad Ae Af Ag Ah Ai Aj Ak Al An Ao Ap Aq : Value)
noncomputable def c57_0 : Code := bodyC Try.f57 []
theorem c57_0_eq {β : Type} (h : Heap) (k : Ex → St → Option β) : codeK Try.prog (evC Try.prog) loopL c57_0 ⟨#[Aa,Ab,Ac,Ad,Ae,Af,Ag,Ah,Ai,Aj,Ak,Al,An,Ao,Ap,Aq], h⟩ k =
(nilCheckV Aa).bind fun t4_0 =>
(fieldAddrV Try.prog 138 t4_0 1).bind fun t5_1 =>
(loadV Try.prog 4 t5_1 h).bind fun t6_2 =>
(unV Try.prog .not t6_2).bind fun t7_3 =>
(gd (wt t7_3 true) (nilCheckV (gdV (wt t7_3 true) Aa))).bind fun t10_4 =>
(gd (wt t7_3 true) (fieldAddrV Try.prog 138 t10_4 0)).bind fun t11_5 =>
(gd (wt t7_3 true) (loadV Try.prog 33 t11_5 h)).bind fun t12_6 =>
(gd (wt t7_3 true) (lenV Try.prog 33 t12_6 h)).bind fun t13_7 =>
(gd (wt t7_3 true) (binV Try.prog .eql 3 (.tmp 13) (.const (Go.Value.int Go.IntKind.i64 0)) t13_7 (Go.Value.int Go.IntKind.i64 0))).bind fun t14_8 =>
(pickV t7_3 t14_8 (Go.Value.bool Bool.false)).bind fun t15_9 =>
k .ret ⟨#[Aa,Ab, t15_9,Aa, t4_0, t5_1, t6_2, t7_3, t7_3, (gdV (wt t7_3 true) Aa), t10_4, t11_5, t12_6, t13_7, t14_8, t15_9], h⟩ := by kernel_rfl
theorem call57 (h : Heap) : evC Try.prog 57 #[Aa] h = codeK Try.prog (evC Try.prog) loopL c57_0 ⟨#[Aa, undef, undef, undef, undef, undef, undef, undef, undef, undef, undef, undef, undef, undef, undef, undef], nm h⟩ (retK Try.f57 Try.prog h) :=
  (evC_call 57 Try.f57 c57_0 Try.func57 (by kernel_rfl) #[Aa] h).trans (by kernel_rfl)
theorem ret57 (h0 h : Heap) : retK Try.f57 Try.prog h0 .ret ⟨#[Aa,Ab,Ac,Ad,Ae,Af,Ag,Ah,Ai,Aj,Ak,Al,An,Ao,Ap,Aq], h⟩ = fin h0 (some Ac) h := by kernel_rfl
theorem retn57 (h0 h : Heap) : retK Try.f57 Try.prog h0 .normal ⟨#[Aa,Ab,Ac,Ad,Ae,Af,Ag,Ah,Ai,Aj,Ak,Al,An,Ao,Ap,Aq], h⟩ = fin h0 (some Ac) h := by kernel_rfl
end Go.Am
namespace Go.Am
open Go.Proofs
set_option maxRecDepth 100000
variable (Aa Ab Ac Ad Ae Af Ag Ah Ai Aj Ak Al An Ao Ap Aq : Value)
noncomputable def c78_0 : Code := bodyC Try.f78 []
noncomputable def c78_1 : Code := bodyC Try.f78 [true, true]
theorem c78_0_eq {β : Type} (h : Heap) (k : Ex → St → Option β) : codeK Try.prog (evC Try.prog) loopL c78_0 ⟨#[Aa,Ab,Ac,Ad,Ae,Af,Ag,Ah,Ai,Aj,Ak,Al,An,Ao,Ap,Aq], h⟩ k =
cnd Ab (
(nilCheckV Aa).bind fun t8_0 =>
(fieldAddrV Try.prog 138 t8_0 0).bind fun t9_1 =>
(storeV Try.prog 33 t9_1 (Go.Value.slice Option.none 0 0) h).bind fun h2 =>
(nilCheckV Aa).bind fun t10_3 =>
(fieldAddrV Try.prog 138 t10_3 1).bind fun t11_4 =>
(storeV Try.prog 4 t11_4 (Go.Value.bool Bool.true) h2).bind fun h5 =>
codeK Try.prog (evC Try.prog) loopL c78_1 ⟨#[Aa,Ab,Ac,Ad, (Go.Value.bool Bool.false),Ab,Aa,Aa, t8_0, t9_1, t10_3, t11_4,An,Ao,Ap,Aq], h5⟩ k) (
codeK Try.prog (evC Try.prog) loopL c78_1 ⟨#[Aa,Ab,Ac,Ad, (Go.Value.bool Bool.false),Ab,Ag,Ah,Ai,Aj,Ak,Al,An,Ao,Ap,Aq], h⟩ k) := by kernel_rfl
theorem c78_1_eq {β : Type} (h : Heap) (k : Ex → St → Option β) : codeK Try.prog (evC Try.prog) loopL c78_1 ⟨#[Aa,Ab,Ac,Ad,Ae,Af,Ag,Ah,Ai,Aj,Ak,Al,An,Ao,Ap,Aq], h⟩ k =
(nilCheckV Aa).bind fun t13_6 =>
(fieldAddrV Try.prog 138 t13_6 1).bind fun t14_7 =>
(loadV Try.prog 4 t14_7 h).bind fun t15_8 =>
k .ret ⟨#[Aa,Ab,Ac,Ad, t15_8,Af,Ag,Ah,Ai,Aj,Ak,Al,Aa, t13_6, t14_7, t15_8], h⟩ := by kernel_rfl
theorem call78 (h : Heap) : evC Try.prog 78 #[Aa,Ab] h = codeK Try.prog (evC Try.prog) loopL c78_0 ⟨#[Aa,Ab, undef, undef, undef, undef, undef, undef, undef, undef, undef, undef, undef, undef, undef, undef], nm h⟩ (retK Try.f78 Try.prog h) :=
  (evC_call 78 Try.f78 c78_0 Try.func78 (by kernel_rfl) #[Aa,Ab] h).trans (by kernel_rfl)
theorem ret78 (h0 h : Heap) : retK Try.f78 Try.prog h0 .ret ⟨#[Aa,Ab,Ac,Ad,Ae,Af,Ag,Ah,Ai,Aj,Ak,Al,An,Ao,Ap,Aq], h⟩ = fin h0 (some Ae) h := by kernel_rfl
theorem retn78 (h0 h : Heap) : retK Try.f78 Try.prog h0 .normal ⟨#[Aa,Ab,Ac,Ad,Ae,Af,Ag,Ah,Ai,Aj,Ak,Al,An,Ao,Ap,Aq], h⟩ = fin h0 (some Ae) h := by kernel_rfl
end Go.Am
namespace Go.Am
open Go.Proofs
set_option maxRecDepth 100000
variable (Aa Ab Ac Ad Ae Af Ag Ah Ai Aj Ak Al An Ao Ap Aq Ar As Au Av Aw Ax Ay Az : Value)
noncomputable def c83_0 : Code := bodyC Try.f83 []
noncomputable def c83_1 : Code := bodyC Try.f83 [true, true, false, false, false]
noncomputable def c83_2 : Code := bodyC Try.f83 [true, true, true]
theorem c83_0_eq {β : Type} (h : Heap) (k : Ex → St → Option β) : codeK Try.prog (evC Try.prog) loopL c83_0 ⟨#[Aa,Ab,Ac,Ad,Ae,Af,Ag,Ah,Ai,Aj,Ak,Al,An,Ao,Ap,Aq,Ar,As,Au,Av,Aw,Ax,Ay,Az], h⟩ k =
obH (buildSliceV Try.prog 33 0 #[] h) fun t5_0 h1 =>
obH (appendV Try.prog 33 (some 33) t5_0 Aa h1) fun t7_2 h3 =>
loopK Try.prog (evC Try.prog) c83_1 ⟨#[t7_2,Ab,Ac,Ad, (Go.Value.slice Option.none 0 0), t5_0,Aa, t7_2,Ai,Aj,Ak,Al,An,Ao,Ap,Aq,Ar,As,Au,Av,Aw,Ax,Ay,Az], h3⟩ (blockK 0 (seqK Try.prog (evC Try.prog) c83_2 k)) := by kernel_rfl
theorem c83_1_eq {β : Type} (h : Heap) (k : Ex → St → Option β) : codeK Try.prog (evC Try.prog) loopL c83_1 ⟨#[Aa,Ab,Ac,Ad,Ae,Af,Ag,Ah,Ai,Aj,Ak,Al,An,Ao,Ap,Aq,Ar,As,Au,Av,Aw,Ax,Ay,Az], h⟩ k =
(binV Try.prog .geq 35 (.tmp 8) (.const (Go.Value.int Go.IntKind.u64 128)) Ab (Go.Value.int Go.IntKind.u64 128)).bind fun t9_4 =>
cnd t9_4 (
(binV Try.prog .rem 35 (.tmp 11) (.const (Go.Value.int Go.IntKind.u64 128)) Ab (Go.Value.int Go.IntKind.u64 128)).bind fun t12_5 =>
obH (convV Try.prog 35 5 t12_5 h) fun t13_6 h7 =>
(binV Try.prog .add 5 (.tmp 13) (.const (Go.Value.int Go.IntKind.u8 128)) t13_6 (Go.Value.int Go.IntKind.u8 128)).bind fun t14_8 =>
obH (buildSliceV Try.prog 33 1 #[(0, t14_8)] h7) fun t15_9 h10 =>
obH (appendV Try.prog 33 (some 33) Aa t15_9 h10) fun t16_11 h12 =>
(binV Try.prog .quo 35 (.tmp 17) (.const (Go.Value.int Go.IntKind.u64 128)) Ab (Go.Value.int Go.IntKind.u64 128)).bind fun t18_13 =>
k .normal ⟨#[t16_11, t18_13,Ac,Ad,Ae,Af,Ag,Ah,Ab, t9_4,Aa,Ab, t12_5, t13_6, t14_8, t15_9, t16_11,Ab, t18_13,Av,Aw,Ax,Ay,Az], h12⟩) (
k (.exit 0) ⟨#[Aa,Ab,Ac,Ad,Ae,Af,Ag,Ah,Ab, t9_4,Ak,Al,An,Ao,Ap,Aq,Ar,As,Au,Av,Aw,Ax,Ay,Az], h⟩) := by kernel_rfl
theorem c83_2_eq {β : Type} (h : Heap) (k : Ex → St → Option β) : codeK Try.prog (evC Try.prog) loopL c83_2 ⟨#[Aa,Ab,Ac,Ad,Ae,Af,Ag,Ah,Ai,Aj,Ak,Al,An,Ao,Ap,Aq,Ar,As,Au,Av,Aw,Ax,Ay,Az], h⟩ k =
obH (convV Try.prog 35 5 Ab h) fun t21_14 h15 =>
obH (buildSliceV Try.prog 33 1 #[(0, t21_14)] h15) fun t22_16 h17 =>
obH (appendV Try.prog 33 (some 33) Aa t22_16 h17) fun t23_18 h19 =>
k .ret ⟨#[Aa,Ab,Ac,Ad, t23_18,Af,Ag,Ah,Ai,Aj,Ak,Al,An,Ao,Ap,Aq,Ar,As,Au,Aa,Ab, t21_14, t22_16, t23_18], h19⟩ := by kernel_rfl
theorem call83 (h : Heap) : evC Try.prog 83 #[Aa,Ab] h = codeK Try.prog (evC Try.prog) loopL c83_0 ⟨#[Aa,Ab, undef, undef, undef, undef, undef, undef, undef, undef, undef, undef, undef, undef, undef, undef, undef, undef, undef, undef, undef, undef, undef, undef], nm h⟩ (retK Try.f83 Try.prog h) :=
  (evC_call 83 Try.f83 c83_0 Try.func83 (by kernel_rfl) #[Aa,Ab] h).trans (by kernel_rfl)
theorem ret83 (h0 h : Heap) : retK Try.f83 Try.prog h0 .ret ⟨#[Aa,Ab,Ac,Ad,Ae,Af,Ag,Ah,Ai,Aj,Ak,Al,An,Ao,Ap,Aq,Ar,As,Au,Av,Aw,Ax,Ay,Az], h⟩ = fin h0 (some Ae) h := by kernel_rfl
theorem retn83 (h0 h : Heap) : retK Try.f83 Try.prog h0 .normal ⟨#[Aa,Ab,Ac,Ad,Ae,Af,Ag,Ah,Ai,Aj,Ak,Al,An,Ao,Ap,Aq,Ar,As,Au,Av,Aw,Ax,Ay,Az], h⟩ = fin h0 (some Ae) h := by kernel_rfl
end Go.Am
namespace Go.Am
open Go.Proofs
set_option maxRecDepth 100000
variable (Aa Ab Ac Ad Ae Af Ag Ah Ai Aj Ak Al An Ao Ap Aq Ar As Au Av Aw Ax Ay Az Ba Bb Bc Bd Be Bf Bg Bh Bi Bj Bk Bl Bm Bn Bo Bp Bq Br Bs Bt Bu Bv Bw : Value)
noncomputable def c79_0 : Code := bodyC Try.f79 []
noncomputable def c79_1 : Code := bodyC Try.f79 [true, true, false, true, false, false]
noncomputable def c79_2 : Code := bodyC Try.f79 [true, true, true]
theorem c79_0_eq {β : Type} (h : Heap) (k : Ex → St → Option β) : codeK Try.prog (evC Try.prog) loopL c79_0 ⟨#[Aa,Ab,Ac,Ad,Ae,Af,Ag,Ah,Ai,Aj,Ak,Al,An,Ao,Ap,Aq,Ar,As,Au,Av,Aw,Ax,Ay,Az,Ba,Bb,Bc,Bd,Be,Bf,Bg,Bh,Bi,Bj,Bk,Bl,Bm,Bn,Bo,Bp,Bq,Br,Bs,Bt,Bu,Bv,Bw], h⟩ k =
loopK Try.prog (evC Try.prog) c79_1 ⟨#[Aa,Ab, (Go.Value.int Go.IntKind.u64 0), (Go.Value.int Go.IntKind.i64 0), (Go.Value.int Go.IntKind.u64 0), (Go.Value.int Go.IntKind.i64 0),Ag,Ah,Ai,Aj,Ak,Al,An,Ao,Ap,Aq,Ar,As,Au,Av,Aw,Ax,Ay,Az,Ba,Bb,Bc,Bd,Be,Bf,Bg,Bh,Bi,Bj,Bk,Bl,Bm,Bn,Bo,Bp,Bq,Br,Bs,Bt,Bu,Bv,Bw], h⟩ (blockK 0 (seqK Try.prog (evC Try.prog) c79_2 k)) := by kernel_rfl
theorem c79_1_eq {β : Type} (h : Heap) (k : Ex → St → Option β) : codeK Try.prog (evC Try.prog) loopL c79_1 ⟨#[Aa,Ab,Ac,Ad,Ae,Af,Ag,Ah,Ai,Aj,Ak,Al,An,Ao,Ap,Aq,Ar,As,Au,Av,Aw,Ax,Ay,Az,Ba,Bb,Bc,Bd,Be,Bf,Bg,Bh,Bi,Bj,Bk,Bl,Bm,Bn,Bo,Bp,Bq,Br,Bs,Bt,Bu,Bv,Bw], h⟩ k =
(lenV Try.prog 33 Aa h).bind fun t9_0 =>
(binV Try.prog .lss 3 (.tmp 7) (.tmp 9) Af t9_0).bind fun t10_1 =>
(gd (wt t10_1 true) (binV Try.prog .lss 3 (.tmp 12) (.const (Go.Value.int Go.IntKind.i64 10)) (gdV (wt t10_1 true) Af) (Go.Value.int Go.IntKind.i64 10))).bind fun t13_2 =>
(pickV t10_1 t13_2 (Go.Value.bool Bool.false)).bind fun t14_3 =>
cnd t14_3 (
(indexAddrV Try.prog 33 Aa Af).bind fun t19_4 =>
(loadV Try.prog 5 t19_4 h).bind fun t20_5 =>
(binV Try.prog .eql 3 (.tmp 21) (.const (Go.Value.int Go.IntKind.i64 9)) Af (Go.Value.int Go.IntKind.i64 9)).bind fun t22_6 =>
(gd (wt t22_6 true) (binV Try.prog .gtr 5 (.tmp 24) (.const (Go.Value.int Go.IntKind.u8 1)) (gdV (wt t22_6 true) t20_5) (Go.Value.int Go.IntKind.u8 1))).bind fun t25_7 =>
(pickV t22_6 t25_7 (Go.Value.bool Bool.false)).bind fun t26_8 =>
cnd t26_8 (
k .ret ⟨#[Aa,Ab, (Go.Value.int Go.IntKind.u64 0), (Go.Value.int Go.IntKind.i64 0),Ae,Af, t20_5,Af,Aa, t9_0, t10_1, t10_1, (gdV (wt t10_1 true) Af), t13_2, t14_3,Aq,Ar,Aa,Af, t19_4, t20_5,Af, t22_6, t22_6, (gdV (wt t22_6 true) t20_5), t25_7, t26_8,Bd,Be,Bf,Bg,Bh,Bi,Bj,Bk,Bl,Bm,Bn,Bo,Bp,Bq,Br,Bs,Bt,Bu,Bv,Bw], h⟩) (
(binV Try.prog .and 5 (.tmp 28) (.const (Go.Value.int Go.IntKind.u8 127)) t20_5 (Go.Value.int Go.IntKind.u8 127)).bind fun t29_9 =>
obH (convV Try.prog 5 35 t29_9 h) fun t30_10 h11 =>
(binV Try.prog .mul 3 (.const (Go.Value.int Go.IntKind.i64 7)) (.tmp 31) (Go.Value.int Go.IntKind.i64 7) Af).bind fun t32_12 =>
obH (convV Try.prog 3 114 t32_12 h11) fun t33_13 h14 =>
(binV Try.prog .shl 35 (.tmp 30) (.tmp 33) t30_10 t33_13).bind fun t34_15 =>
(binV Try.prog .or 35 (.tmp 27) (.tmp 34) Ae t34_15).bind fun t35_16 =>
(binV Try.prog .lss 5 (.tmp 36) (.const (Go.Value.int Go.IntKind.u8 128)) t20_5 (Go.Value.int Go.IntKind.u8 128)).bind fun t37_17 =>
cnd t37_17 (
(binV Try.prog .eql 5 (.tmp 38) (.const (Go.Value.int Go.IntKind.u8 0)) t20_5 (Go.Value.int Go.IntKind.u8 0)).bind fun t39_18 =>
(gd (wt t39_18 true) (binV Try.prog .gtr 3 (.tmp 41) (.const (Go.Value.int Go.IntKind.i64 0)) (gdV (wt t39_18 true) Af) (Go.Value.int Go.IntKind.i64 0))).bind fun t42_19 =>
(pickV t39_18 t42_19 (Go.Value.bool Bool.false)).bind fun t43_20 =>
cnd t43_20 (
k .ret ⟨#[Aa,Ab, (Go.Value.int Go.IntKind.u64 0), (Go.Value.int Go.IntKind.i64 0), t35_16,Af, t20_5,Af,Aa, t9_0, t10_1, t10_1, (gdV (wt t10_1 true) Af), t13_2, t14_3,Aq,Ar,Aa,Af, t19_4, t20_5,Af, t22_6, t22_6, (gdV (wt t22_6 true) t20_5), t25_7, t26_8,Ae, t20_5, t29_9, t30_10,Af, t32_12, t33_13, t34_15, t35_16, t20_5, t37_17, t20_5, t39_18, t39_18, (gdV (wt t39_18 true) Af), t42_19, t43_20,Bu,Bv,Bw], h14⟩) (
(binV Try.prog .add 3 (.tmp 45) (.const (Go.Value.int Go.IntKind.i64 1)) Af (Go.Value.int Go.IntKind.i64 1)).bind fun t46_21 =>
k .ret ⟨#[Aa,Ab, t35_16, t46_21, t35_16,Af, t20_5,Af,Aa, t9_0, t10_1, t10_1, (gdV (wt t10_1 true) Af), t13_2, t14_3,Aq,Ar,Aa,Af, t19_4, t20_5,Af, t22_6, t22_6, (gdV (wt t22_6 true) t20_5), t25_7, t26_8,Ae, t20_5, t29_9, t30_10,Af, t32_12, t33_13, t34_15, t35_16, t20_5, t37_17, t20_5, t39_18, t39_18, (gdV (wt t39_18 true) Af), t42_19, t43_20, t35_16,Af, t46_21], h14⟩)) (
(binV Try.prog .add 3 (.tmp 15) (.const (Go.Value.int Go.IntKind.i64 1)) Af (Go.Value.int Go.IntKind.i64 1)).bind fun t16_22 =>
k .normal ⟨#[Aa,Ab,Ac,Ad, t35_16, t16_22, t20_5,Af,Aa, t9_0, t10_1, t10_1, (gdV (wt t10_1 true) Af), t13_2, t14_3,Af, t16_22,Aa,Af, t19_4, t20_5,Af, t22_6, t22_6, (gdV (wt t22_6 true) t20_5), t25_7, t26_8,Ae, t20_5, t29_9, t30_10,Af, t32_12, t33_13, t34_15, t35_16, t20_5, t37_17,Bo,Bp,Bq,Br,Bs,Bt,Bu,Bv,Bw], h14⟩))) (
k (.exit 0) ⟨#[Aa,Ab,Ac,Ad,Ae,Af,Ag,Af,Aa, t9_0, t10_1, t10_1, (gdV (wt t10_1 true) Af), t13_2, t14_3,Aq,Ar,As,Au,Av,Aw,Ax,Ay,Az,Ba,Bb,Bc,Bd,Be,Bf,Bg,Bh,Bi,Bj,Bk,Bl,Bm,Bn,Bo,Bp,Bq,Br,Bs,Bt,Bu,Bv,Bw], h⟩) := by kernel_rfl
theorem c79_2_eq {β : Type} (h : Heap) (k : Ex → St → Option β) : codeK Try.prog (evC Try.prog) loopL c79_2 ⟨#[Aa,Ab,Ac,Ad,Ae,Af,Ag,Ah,Ai,Aj,Ak,Al,An,Ao,Ap,Aq,Ar,As,Au,Av,Aw,Ax,Ay,Az,Ba,Bb,Bc,Bd,Be,Bf,Bg,Bh,Bi,Bj,Bk,Bl,Bm,Bn,Bo,Bp,Bq,Br,Bs,Bt,Bu,Bv,Bw], h⟩ k =
k .ret ⟨#[Aa,Ab, (Go.Value.int Go.IntKind.u64 0), (Go.Value.int Go.IntKind.i64 0),Ae,Af,Ag,Ah,Ai,Aj,Ak,Al,An,Ao,Ap,Aq,Ar,As,Au,Av,Aw,Ax,Ay,Az,Ba,Bb,Bc,Bd,Be,Bf,Bg,Bh,Bi,Bj,Bk,Bl,Bm,Bn,Bo,Bp,Bq,Br,Bs,Bt,Bu,Bv,Bw], h⟩ := by kernel_rfl
theorem call79 (h : Heap) : evC Try.prog 79 #[Aa] h = codeK Try.prog (evC Try.prog) loopL c79_0 ⟨#[Aa, undef, undef, undef, undef, undef, undef, undef, undef, undef, undef, undef, undef, undef, undef, undef, undef, undef, undef, undef, undef, undef, undef, undef, undef, undef, undef, undef, undef, undef, undef, undef, undef, undef, undef, undef, undef, undef, undef, undef, undef, undef, undef, undef, undef, undef, undef], nm h⟩ (retK Try.f79 Try.prog h) :=
  (evC_call 79 Try.f79 c79_0 Try.func79 (by kernel_rfl) #[Aa] h).trans (by kernel_rfl)
theorem ret79 (h0 h : Heap) : retK Try.f79 Try.prog h0 .ret ⟨#[Aa,Ab,Ac,Ad,Ae,Af,Ag,Ah,Ai,Aj,Ak,Al,An,Ao,Ap,Aq,Ar,As,Au,Av,Aw,Ax,Ay,Az,Ba,Bb,Bc,Bd,Be,Bf,Bg,Bh,Bi,Bj,Bk,Bl,Bm,Bn,Bo,Bp,Bq,Br,Bs,Bt,Bu,Bv,Bw], h⟩ = fin h0 (some (.tuple #[Ac,Ad])) h := by kernel_rfl
theorem retn79 (h0 h : Heap) : retK Try.f79 Try.prog h0 .normal ⟨#[Aa,Ab,Ac,Ad,Ae,Af,Ag,Ah,Ai,Aj,Ak,Al,An,Ao,Ap,Aq,Ar,As,Au,Av,Aw,Ax,Ay,Az,Ba,Bb,Bc,Bd,Be,Bf,Bg,Bh,Bi,Bj,Bk,Bl,Bm,Bn,Bo,Bp,Bq,Br,Bs,Bt,Bu,Bv,Bw], h⟩ = fin h0 (some (.tuple #[Ac,Ad])) h := by kernel_rfl
end Go.Am
namespace Go.Am
open Go.Proofs
set_option maxRecDepth 100000
variable (Aa Ab Ac Ad Ae Af Ag Ah Ai Aj Ak Al An : Value)
noncomputable def c65_0 : Code := bodyC Try.f65 []
theorem c65_0_eq {β : Type} (h : Heap) (k : Ex → St → Option β) : codeK Try.prog (evC Try.prog) loopL c65_0 ⟨#[Aa,Ab,Ac,Ad,Ae,Af,Ag,Ah,Ai,Aj,Ak,Al,An], h⟩ k =
(nilCheckV Aa).bind fun t6_0 =>
(fieldAddrV Try.prog 118 t6_0 0).bind fun t7_1 =>
(loadV Try.prog 33 t7_1 h).bind fun t8_2 =>
obH (evC Try.prog 83 #[t8_2,Ab] h) fun t10_3 h4 =>
(nilCheckV Aa).bind fun t11_5 =>
(fieldAddrV Try.prog 118 t11_5 0).bind fun t12_6 =>
(storeV Try.prog 33 t12_6 t10_3 h4).bind fun h7 =>
k .normal ⟨#[Aa,Ab,Ac,Ad,Aa,Aa, t6_0, t7_1, t8_2,Ab, t10_3, t11_5, t12_6], h7⟩ := by kernel_rfl
theorem call65 (h : Heap) : evC Try.prog 65 #[Aa,Ab] h = codeK Try.prog (evC Try.prog) loopL c65_0 ⟨#[Aa,Ab, undef, undef, undef, undef, undef, undef, undef, undef, undef, undef, undef], nm h⟩ (retK Try.f65 Try.prog h) :=
  (evC_call 65 Try.f65 c65_0 Try.func65 (by kernel_rfl) #[Aa,Ab] h).trans (by kernel_rfl)
theorem ret65 (h0 h : Heap) : retK Try.f65 Try.prog h0 .ret ⟨#[Aa,Ab,Ac,Ad,Ae,Af,Ag,Ah,Ai,Aj,Ak,Al,An], h⟩ = fin h0 (some (.tuple #[])) h := by kernel_rfl
theorem retn65 (h0 h : Heap) : retK Try.f65 Try.prog h0 .normal ⟨#[Aa,Ab,Ac,Ad,Ae,Af,Ag,Ah,Ai,Aj,Ak,Al,An], h⟩ = fin h0 (some (.tuple #[])) h := by kernel_rfl
end Go.Am
namespace Go.Am
open Go.Proofs
set_option maxRecDepth 100000
variable (Aa Ab Ac Ad Ae Af Ag Ah Ai Aj Ak Al An Ao Ap Aq Ar As Au Av Aw Ax Ay Az Ba Bb Bc Bd Be Bf Bg Bh Bi Bj Bk Bl Bm Bn Bo Bp : Value)
noncomputable def c58_0 : Code := bodyC Try.f58 []
theorem c58_0_eq {β : Type} (h : Heap) (k : Ex → St → Option β) : codeK Try.prog (evC Try.prog) loopL c58_0 ⟨#[Aa,Ab,Ac,Ad,Ae,Af,Ag,Ah,Ai,Aj,Ak,Al,An,Ao,Ap,Aq,Ar,As,Au,Av,Aw,Ax,Ay,Az,Ba,Bb,Bc,Bd,Be,Bf,Bg,Bh,Bi,Bj,Bk,Bl,Bm,Bn,Bo,Bp], h⟩ k =
(nilCheckV Aa).bind fun t9_0 =>
(fieldAddrV Try.prog 109 t9_0 0).bind fun t10_1 =>
(loadV Try.prog 33 t10_1 h).bind fun t11_2 =>
obH (evC Try.prog 79 #[t11_2] h) fun t12_3 h4 =>
(extractV t12_3 0).bind fun t13_5 =>
(extractV t12_3 1).bind fun t14_6 =>
(nilCheckV Aa).bind fun t16_7 =>
(fieldAddrV Try.prog 109 t16_7 1).bind fun t17_8 =>
(loadV Try.prog 4 t17_8 h4).bind fun t18_9 =>
(gd (wt t18_9 false) (binV Try.prog .eql 3 (.tmp 20) (.const (Go.Value.int Go.IntKind.i64 0)) (gdV (wt t18_9 false) t14_6) (Go.Value.int Go.IntKind.i64 0))).bind fun t21_10 =>
(pickV t18_9 (Go.Value.bool Bool.true) t21_10).bind fun t22_11 =>
(gd (wt t22_11 false) (binV Try.prog .gtr 35 (.tmp 24) (.tmp 25) (gdV (wt t22_11 false) t13_5) (gdV (wt t22_11 false) Ab))).bind fun t26_12 =>
(pickV t22_11 (Go.Value.bool Bool.true) t26_12).bind fun t27_13 =>
cnd t27_13 (
obH (evC Try.prog 80 #[Aa] h4) fun t29_14 h15 =>
k .ret ⟨#[Aa,Ab,Ac,Ad, (Go.Value.int Go.IntKind.u64 0), t13_5, t14_6, t12_3,Aa, t9_0, t10_1, t11_2, t12_3, t13_5, t14_6,Aa, t16_7, t17_8, t18_9, t18_9, (gdV (wt t18_9 false) t14_6), t21_10, t22_11, t22_11, (gdV (wt t22_11 false) t13_5), (gdV (wt t22_11 false) Ab), t26_12, t27_13,Aa, t29_14,Bg,Bh,Bi,Bj,Bk,Bl,Bm,Bn,Bo,Bp], h15⟩) (
(nilCheckV Aa).bind fun t32_16 =>
(fieldAddrV Try.prog 109 t32_16 0).bind fun t33_17 =>
(loadV Try.prog 33 t33_17 h4).bind fun t34_18 =>
(sliceV Try.prog 33 t34_18 (some t14_6) none none h4).bind fun t36_19 =>
(nilCheckV Aa).bind fun t37_20 =>
(fieldAddrV Try.prog 109 t37_20 0).bind fun t38_21 =>
(storeV Try.prog 33 t38_21 t36_19 h4).bind fun h22 =>
k .ret ⟨#[Aa,Ab,Ac,Ad, t13_5, t13_5, t14_6, t12_3,Aa, t9_0, t10_1, t11_2, t12_3, t13_5, t14_6,Aa, t16_7, t17_8, t18_9, t18_9, (gdV (wt t18_9 false) t14_6), t21_10, t22_11, t22_11, (gdV (wt t22_11 false) t13_5), (gdV (wt t22_11 false) Ab), t26_12, t27_13,Be,Bf,Aa,Aa, t32_16, t33_17, t34_18, t14_6, t36_19, t37_20, t38_21, t13_5], h22⟩) := by kernel_rfl
theorem call58 (h : Heap) : evC Try.prog 58 #[Aa,Ab] h = codeK Try.prog (evC Try.prog) loopL c58_0 ⟨#[Aa,Ab, undef, undef, undef, undef, undef, undef, undef, undef, undef, undef, undef, undef, undef, undef, undef, undef, undef, undef, undef, undef, undef, undef, undef, undef, undef, undef, undef, undef, undef, undef, undef, undef, undef, undef, undef, undef, undef, undef], nm h⟩ (retK Try.f58 Try.prog h) :=
  (evC_call 58 Try.f58 c58_0 Try.func58 (by kernel_rfl) #[Aa,Ab] h).trans (by kernel_rfl)
theorem ret58 (h0 h : Heap) : retK Try.f58 Try.prog h0 .ret ⟨#[Aa,Ab,Ac,Ad,Ae,Af,Ag,Ah,Ai,Aj,Ak,Al,An,Ao,Ap,Aq,Ar,As,Au,Av,Aw,Ax,Ay,Az,Ba,Bb,Bc,Bd,Be,Bf,Bg,Bh,Bi,Bj,Bk,Bl,Bm,Bn,Bo,Bp], h⟩ = fin h0 (some Ae) h := by kernel_rfl
theorem retn58 (h0 h : Heap) : retK Try.f58 Try.prog h0 .normal ⟨#[Aa,Ab,Ac,Ad,Ae,Af,Ag,Ah,Ai,Aj,Ak,Al,An,Ao,Ap,Aq,Ar,As,Au,Av,Aw,Ax,Ay,Az,Ba,Bb,Bc,Bd,Be,Bf,Bg,Bh,Bi,Bj,Bk,Bl,Bm,Bn,Bo,Bp], h⟩ = fin h0 (some Ae) h := by kernel_rfl
end Go.Am
namespace Go.Am
open Go.Proofs
set_option maxRecDepth 100000
variable (Aa Ab Ac Ad Ae Af Ag Ah Ai Aj Ak Al An Ao Ap Aq : Value)
noncomputable def c59_0 : Code := bodyC Try.f59 []
theorem c59_0_eq {β : Type} (h : Heap) (k : Ex → St → Option β) : codeK Try.prog (evC Try.prog) loopL c59_0 ⟨#[Aa,Ab,Ac,Ad,Ae,Af,Ag,Ah,Ai,Aj,Ak,Al,An,Ao,Ap,Aq], h⟩ k =
(nilCheckV Aa).bind fun t4_0 =>
(fieldAddrV Try.prog 109 t4_0 1).bind fun t5_1 =>
(loadV Try.prog 4 t5_1 h).bind fun t6_2 =>
(unV Try.prog .not t6_2).bind fun t7_3 =>
(gd (wt t7_3 true) (nilCheckV (gdV (wt t7_3 true) Aa))).bind fun t10_4 =>
(gd (wt t7_3 true) (fieldAddrV Try.prog 109 t10_4 0)).bind fun t11_5 =>
(gd (wt t7_3 true) (loadV Try.prog 33 t11_5 h)).bind fun t12_6 =>
(gd (wt t7_3 true) (lenV Try.prog 33 t12_6 h)).bind fun t13_7 =>
(gd (wt t7_3 true) (binV Try.prog .eql 3 (.tmp 13) (.const (Go.Value.int Go.IntKind.i64 0)) t13_7 (Go.Value.int Go.IntKind.i64 0))).bind fun t14_8 =>
(pickV t7_3 t14_8 (Go.Value.bool Bool.false)).bind fun t15_9 =>
k .ret ⟨#[Aa,Ab, t15_9,Aa, t4_0, t5_1, t6_2, t7_3, t7_3, (gdV (wt t7_3 true) Aa), t10_4, t11_5, t12_6, t13_7, t14_8, t15_9], h⟩ := by kernel_rfl
theorem call59 (h : Heap) : evC Try.prog 59 #[Aa] h = codeK Try.prog (evC Try.prog) loopL c59_0 ⟨#[Aa, undef, undef, undef, undef, undef, undef, undef, undef, undef, undef, undef, undef, undef, undef, undef], nm h⟩ (retK Try.f59 Try.prog h) :=
  (evC_call 59 Try.f59 c59_0 Try.func59 (by kernel_rfl) #[Aa] h).trans (by kernel_rfl)
theorem ret59 (h0 h : Heap) : retK Try.f59 Try.prog h0 .ret ⟨#[Aa,Ab,Ac,Ad,Ae,Af,Ag,Ah,Ai,Aj,Ak,Al,An,Ao,Ap,Aq], h⟩ = fin h0 (some Ac) h := by kernel_rfl
theorem retn59 (h0 h : Heap) : retK Try.f59 Try.prog h0 .normal ⟨#[Aa,Ab,Ac,Ad,Ae,Af,Ag,Ah,Ai,Aj,Ak,Al,An,Ao,Ap,Aq], h⟩ = fin h0 (some Ac) h := by kernel_rfl
end Go.Am
namespace Go.Am
open Go.Proofs
set_option maxRecDepth 100000
variable (Aa Ab Ac Ad Ae Af Ag Ah : Value)
noncomputable def c80_0 : Code := bodyC Try.f80 []
theorem c80_0_eq {β : Type} (h : Heap) (k : Ex → St → Option β) : codeK Try.prog (evC Try.prog) loopL c80_0 ⟨#[Aa,Ab,Ac,Ad,Ae,Af,Ag,Ah], h⟩ k =
(nilCheckV Aa).bind fun t4_0 =>
(fieldAddrV Try.prog 109 t4_0 1).bind fun t5_1 =>
(storeV Try.prog 4 t5_1 (Go.Value.bool Bool.true) h).bind fun h2 =>
(nilCheckV Aa).bind fun t6_3 =>
(fieldAddrV Try.prog 109 t6_3 0).bind fun t7_4 =>
(storeV Try.prog 33 t7_4 (Go.Value.slice Option.none 0 0) h2).bind fun h5 =>
k .normal ⟨#[Aa,Ab,Aa,Aa, t4_0, t5_1, t6_3, t7_4], h5⟩ := by kernel_rfl
theorem call80 (h : Heap) : evC Try.prog 80 #[Aa] h = codeK Try.prog (evC Try.prog) loopL c80_0 ⟨#[Aa, undef, undef, undef, undef, undef, undef, undef], nm h⟩ (retK Try.f80 Try.prog h) :=
  (evC_call 80 Try.f80 c80_0 Try.func80 (by kernel_rfl) #[Aa] h).trans (by kernel_rfl)
theorem ret80 (h0 h : Heap) : retK Try.f80 Try.prog h0 .ret ⟨#[Aa,Ab,Ac,Ad,Ae,Af,Ag,Ah], h⟩ = fin h0 (some (.tuple #[])) h := by kernel_rfl
theorem retn80 (h0 h : Heap) : retK Try.f80 Try.prog h0 .normal ⟨#[Aa,Ab,Ac,Ad,Ae,Af,Ag,Ah], h⟩ = fin h0 (some (.tuple #[])) h := by kernel_rfl
end Go.Am
namespace Go.Am
open Go.Proofs
set_option maxRecDepth 100000
variable (Aa Ab Ac Ad Ae Af Ag Ah Ai Aj Ak Al An Ao Ap Aq Ar As Au Av Aw Ax Ay Az Ba Bb Bc Bd Be Bf Bg Bh : Value)
noncomputable def c13_0 : Code := bodyC Try.f13 []
noncomputable def c13_1 : Code := bodyC Try.f13 [true, true, true, false, true, false, false]
noncomputable def c13_2 : Code := bodyC Try.f13 [true, true, true, true]
noncomputable def c13_3 : Code := bodyC Try.f13 [true, true, true, false, true, false, false, true, true, false, false, true, true, false, false]
noncomputable def c13_4 : Code := bodyC Try.f13 [true, true, true, false, true, false, false, true, true, true]
theorem c13_0_eq {β : Type} (h : Heap) (k : Ex → St → Option β) : codeK Try.prog (evC Try.prog) loopL c13_0 ⟨#[Aa,Ab,Ac,Ad,Ae,Af,Ag,Ah,Ai,Aj,Ak,Al,An,Ao,Ap,Aq,Ar,As,Au,Av,Aw,Ax,Ay,Az,Ba,Bb,Bc,Bd,Be,Bf,Bg,Bh], h⟩ k =
obH (boxV Try.prog 30 Aa h) fun t1_0 h1 =>
(loadV Try.prog 30 t1_0 h1).bind fun t8_2 =>
obH (evC Try.prog 43 #[t8_2] h1) fun t9_3 h4 =>
(unV Try.prog .not t9_3).bind fun t10_5 =>
cnd t10_5 (
k .ret ⟨#[Aa, t1_0, (Go.Value.slice Option.none 0 0),Ad,Ae,Af,Ag,Ah, t8_2, t9_3, t10_5,Al,An,Ao,Ap,Aq,Ar,As,Au,Av,Aw,Ax,Ay,Az,Ba,Bb,Bc,Bd,Be,Bf,Bg,Bh], h4⟩) (
obH (evC Try.prog 44 #[] h4) fun t11_6 h7 =>
(fieldAddrV Try.prog 30 t1_0 1).bind fun t12_8 =>
(loadV Try.prog 28 t12_8 h7).bind fun t13_9 =>
(lenV Try.prog 28 t13_9 h7).bind fun t14_10 =>
loopK Try.prog (evC Try.prog) c13_1 ⟨#[Aa, t1_0, (Go.Value.slice Option.none 0 0), t11_6,Ae,Af,Ag,Ah, t8_2, t9_3, t10_5, t11_6, t12_8, t13_9, t14_10, (Go.Value.int Go.IntKind.i64 0),Ar,As,Au,Av,Aw,Ax,Ay,Az,Ba,Bb,Bc,Bd,Be,Bf,Bg,Bh], h7⟩ (blockK 0 (seqK Try.prog (evC Try.prog) c13_2 k))) := by kernel_rfl
theorem c13_1_eq {β : Type} (h : Heap) (k : Ex → St → Option β) : codeK Try.prog (evC Try.prog) loopL c13_1 ⟨#[Aa,Ab,Ac,Ad,Ae,Af,Ag,Ah,Ai,Aj,Ak,Al,An,Ao,Ap,Aq,Ar,As,Au,Av,Aw,Ax,Ay,Az,Ba,Bb,Bc,Bd,Be,Bf,Bg,Bh], h⟩ k =
(binV Try.prog .lss 3 (.tmp 15) (.tmp 14) Aq Ap).bind fun t16_11 =>
cnd t16_11 (
(indexAddrV Try.prog 28 Ao Aq).bind fun t17_12 =>
(loadV Try.prog 89 t17_12 h).bind fun t18_13 =>
(lenV Try.prog 89 t18_13 h).bind fun t20_14 =>
loopK Try.prog (evC Try.prog) c13_3 ⟨#[Aa,Ab,Ac,Ad,Ae, t18_13,Ag,Ah,Ai,Aj,Ak,Al,An,Ao,Ap,Aq, t16_11, t17_12, t18_13, t18_13, t20_14, (Go.Value.int Go.IntKind.i64 0),Ay,Az,Ba,Bb,Bc,Bd,Be,Bf,Bg,Bh], h⟩ (blockK 2 (blockK 1 (seqK Try.prog (evC Try.prog) c13_4 k)))) (
k (.exit 0) ⟨#[Aa,Ab,Ac,Ad,Ae,Af,Ag,Ah,Ai,Aj,Ak,Al,An,Ao,Ap,Aq, t16_11,As,Au,Av,Aw,Ax,Ay,Az,Ba,Bb,Bc,Bd,Be,Bf,Bg,Bh], h⟩) := by kernel_rfl
theorem c13_2_eq {β : Type} (h : Heap) (k : Ex → St → Option β) : codeK Try.prog (evC Try.prog) loopL c13_2 ⟨#[Aa,Ab,Ac,Ad,Ae,Af,Ag,Ah,Ai,Aj,Ak,Al,An,Ao,Ap,Aq,Ar,As,Au,Av,Aw,Ax,Ay,Az,Ba,Bb,Bc,Bd,Be,Bf,Bg,Bh], h⟩ k =
obH (evC Try.prog 46 #[Ad] h) fun t31_15 h16 =>
k .ret ⟨#[Aa,Ab, t31_15,Ad,Ae,Af,Ag,Ah,Ai,Aj,Ak,Al,An,Ao,Ap,Aq,Ar,As,Au,Av,Aw,Ax,Ay,Az,Ba,Bb,Bc,Bd,Be,Bf,Ad, t31_15], h16⟩ := by kernel_rfl
theorem c13_3_eq {β : Type} (h : Heap) (k : Ex → St → Option β) : codeK Try.prog (evC Try.prog) loopL c13_3 ⟨#[Aa,Ab,Ac,Ad,Ae,Af,Ag,Ah,Ai,Aj,Ak,Al,An,Ao,Ap,Aq,Ar,As,Au,Av,Aw,Ax,Ay,Az,Ba,Bb,Bc,Bd,Be,Bf,Bg,Bh], h⟩ k =
(binV Try.prog .lss 3 (.tmp 21) (.tmp 20) Ax Aw).bind fun t22_17 =>
cnd t22_17 (
(indexAddrV Try.prog 89 Av Ax).bind fun t23_18 =>
(loadV Try.prog 35 t23_18 h).bind fun t24_19 =>
obH (evC Try.prog 45 #[Ad, t24_19] h) fun t27_20 h21 =>
(binV Try.prog .add 3 (.tmp 21) (.const (Go.Value.int Go.IntKind.i64 1)) Ax (Go.Value.int Go.IntKind.i64 1)).bind fun t28_22 =>
k .normal ⟨#[Aa,Ab,Ac,Ad,Ae,Af,Ag, t24_19,Ai,Aj,Ak,Al,An,Ao,Ap,Aq,Ar,As,Au,Av,Aw, t28_22, t22_17, t23_18, t24_19,Ad, t24_19, t27_20, t28_22,Bf,Bg,Bh], h21⟩) (
k (.exit 2) ⟨#[Aa,Ab,Ac,Ad,Ae,Af,Ag,Ah,Ai,Aj,Ak,Al,An,Ao,Ap,Aq,Ar,As,Au,Av,Aw,Ax, t22_17,Az,Ba,Bb,Bc,Bd,Be,Bf,Bg,Bh], h⟩) := by kernel_rfl
theorem c13_4_eq {β : Type} (h : Heap) (k : Ex → St → Option β) : codeK Try.prog (evC Try.prog) loopL c13_4 ⟨#[Aa,Ab,Ac,Ad,Ae,Af,Ag,Ah,Ai,Aj,Ak,Al,An,Ao,Ap,Aq,Ar,As,Au,Av,Aw,Ax,Ay,Az,Ba,Bb,Bc,Bd,Be,Bf,Bg,Bh], h⟩ k =
(binV Try.prog .add 3 (.tmp 15) (.const (Go.Value.int Go.IntKind.i64 1)) Aq (Go.Value.int Go.IntKind.i64 1)).bind fun t29_23 =>
k .normal ⟨#[Aa,Ab,Ac,Ad,Ae,Af,Ag,Ah,Ai,Aj,Ak,Al,An,Ao,Ap, t29_23,Ar,As,Au,Av,Aw,Ax,Ay,Az,Ba,Bb,Bc,Bd,Be, t29_23,Bg,Bh], h⟩ := by kernel_rfl
theorem call13 (h : Heap) : evC Try.prog 13 #[Aa] h = codeK Try.prog (evC Try.prog) loopL c13_0 ⟨#[Aa, undef, undef, undef, undef, undef, undef, undef, undef, undef, undef, undef, undef, undef, undef, undef, undef, undef, undef, undef, undef, undef, undef, undef, undef, undef, undef, undef, undef, undef, undef, undef], nm h⟩ (retK Try.f13 Try.prog h) :=
  (evC_call 13 Try.f13 c13_0 Try.func13 (by kernel_rfl) #[Aa] h).trans (by kernel_rfl)
theorem ret13 (h0 h : Heap) : retK Try.f13 Try.prog h0 .ret ⟨#[Aa,Ab,Ac,Ad,Ae,Af,Ag,Ah,Ai,Aj,Ak,Al,An,Ao,Ap,Aq,Ar,As,Au,Av,Aw,Ax,Ay,Az,Ba,Bb,Bc,Bd,Be,Bf,Bg,Bh], h⟩ = fin h0 (some Ac) h := by kernel_rfl
theorem retn13 (h0 h : Heap) : retK Try.f13 Try.prog h0 .normal ⟨#[Aa,Ab,Ac,Ad,Ae,Af,Ag,Ah,Ai,Aj,Ak,Al,An,Ao,Ap,Aq,Ar,As,Au,Av,Aw,Ax,Ay,Az,Ba,Bb,Bc,Bd,Be,Bf,Bg,Bh], h⟩ = fin h0 (some Ac) h := by kernel_rfl
end Go.Am
namespace Go.Am
open Go.Proofs
set_option maxRecDepth 100000
variable (Aa Ab Ac Ad Ae Af Ag Ah Ai Aj Ak Al An Ao Ap Aq Ar As Au Av Aw Ax Ay Az Ba Bb Bc Bd Be Bf Bg Bh Bi Bj Bk Bl Bm Bn Bo Bp Bq Br Bs Bt Bu Bv : Value)
noncomputable def c126_0 : Code := bodyC Try.f126 []
noncomputable def c126_1 : Code := bodyC Try.f126 [true, true, true, true, false, true, false, false]
noncomputable def c126_2 : Code := bodyC Try.f126 [true, true, true, true, true]
noncomputable def c126_3 : Code := bodyC Try.f126 [true, true, true, true, false, true, false, false, true, true, false, false, true, true, false, false]
noncomputable def c126_4 : Code := bodyC Try.f126 [true, true, true, true, false, true, false, false, true, true, true]
theorem c126_0_eq {β : Type} (h : Heap) (k : Ex → St → Option β) : codeK Try.prog (evC Try.prog) loopL c126_0 ⟨#[Aa,Ab,Ac,Ad,Ae,Af,Ag,Ah,Ai,Aj,Ak,Al,An,Ao,Ap,Aq,Ar,As,Au,Av,Aw,Ax,Ay,Az,Ba,Bb,Bc,Bd,Be,Bf,Bg,Bh,Bi,Bj,Bk,Bl,Bm,Bn,Bo,Bp,Bq,Br,Bs,Bt,Bu,Bv], h⟩ k =
obH (allocV Try.prog 30 h) fun t4_0 h1 =>
obH (evC Try.prog 12 #[Aa] h1) fun t14_2 h3 =>
(extractV t14_2 0).bind fun t15_4 =>
(extractV t14_2 1).bind fun t16_5 =>
obH (allocV Try.prog 30 h3) fun t6_6 h7 =>
(storeV Try.prog 30 t6_6 t15_4 h7).bind fun h8 =>
(binV Try.prog .neq 25 (.tmp 17) (.const (Go.Value.int Go.IntKind.i64 0)) t16_5 (Go.Value.int Go.IntKind.i64 0)).bind fun t18_9 =>
cnd t18_9 (
(buildV Try.prog 30 #[]).bind fun t19_10 =>
(storeV Try.prog 30 t4_0 t19_10 h8).bind fun h11 =>
k .ret ⟨#[Aa,Ab,Ac,Ad, t4_0, (Go.Value.bool Bool.false), t6_6, t16_5,Ai,Aj,Ak,Al, t14_2,Aa, t14_2, t15_4, t16_5, t16_5, t18_9, t19_10,Aw,Ax,Ay,Az,Ba,Bb,Bc,Bd,Be,Bf,Bg,Bh,Bi,Bj,Bk,Bl,Bm,Bn,Bo,Bp,Bq,Br,Bs,Bt,Bu,Bv], h11⟩) (
obH (evC Try.prog 53 #[Ab] h8) fun t21_12 h13 =>
(fieldAddrV Try.prog 30 t6_6 1).bind fun t22_14 =>
(loadV Try.prog 28 t22_14 h13).bind fun t23_15 =>
(lenV Try.prog 28 t23_15 h13).bind fun t24_16 =>
loopK Try.prog (evC Try.prog) c126_1 ⟨#[Aa,Ab,Ac,Ad, t4_0, (Go.Value.bool Bool.false), t6_6, t16_5, t21_12,Aj,Ak,Al, t14_2,Aa, t14_2, t15_4, t16_5, t16_5, t18_9,Av,Ab, t21_12, t22_14, t23_15, t24_16, (Go.Value.int Go.IntKind.i64 0),Bc,Bd,Be,Bf,Bg,Bh,Bi,Bj,Bk,Bl,Bm,Bn,Bo,Bp,Bq,Br,Bs,Bt,Bu,Bv], h13⟩ (blockK 0 (seqK Try.prog (evC Try.prog) c126_2 k))) := by kernel_rfl
theorem c126_1_eq {β : Type} (h : Heap) (k : Ex → St → Option β) : codeK Try.prog (evC Try.prog) loopL c126_1 ⟨#[Aa,Ab,Ac,Ad,Ae,Af,Ag,Ah,Ai,Aj,Ak,Al,An,Ao,Ap,Aq,Ar,As,Au,Av,Aw,Ax,Ay,Az,Ba,Bb,Bc,Bd,Be,Bf,Bg,Bh,Bi,Bj,Bk,Bl,Bm,Bn,Bo,Bp,Bq,Br,Bs,Bt,Bu,Bv], h⟩ k =
(binV Try.prog .lss 3 (.tmp 25) (.tmp 24) Bb Ba).bind fun t26_17 =>
cnd t26_17 (
(indexAddrV Try.prog 28 Az Bb).bind fun t27_18 =>
(loadV Try.prog 89 t27_18 h).bind fun t28_19 =>
(lenV Try.prog 89 t28_19 h).bind fun t30_20 =>
loopK Try.prog (evC Try.prog) c126_3 ⟨#[Aa,Ab,Ac,Ad,Ae,Af,Ag,Ah,Ai,Aj, t28_19,Al,An,Ao,Ap,Aq,Ar,As,Au,Av,Aw,Ax,Ay,Az,Ba,Bb, t26_17, t27_18, t28_19, t28_19, t30_20, (Go.Value.int Go.IntKind.i64 0),Bi,Bj,Bk,Bl,Bm,Bn,Bo,Bp,Bq,Br,Bs,Bt,Bu,Bv], h⟩ (blockK 2 (blockK 1 (seqK Try.prog (evC Try.prog) c126_4 k)))) (
k (.exit 0) ⟨#[Aa,Ab,Ac,Ad,Ae,Af,Ag,Ah,Ai,Aj,Ak,Al,An,Ao,Ap,Aq,Ar,As,Au,Av,Aw,Ax,Ay,Az,Ba,Bb, t26_17,Bd,Be,Bf,Bg,Bh,Bi,Bj,Bk,Bl,Bm,Bn,Bo,Bp,Bq,Br,Bs,Bt,Bu,Bv], h⟩) := by kernel_rfl
theorem c126_2_eq {β : Type} (h : Heap) (k : Ex → St → Option β) : codeK Try.prog (evC Try.prog) loopL c126_2 ⟨#[Aa,Ab,Ac,Ad,Ae,Af,Ag,Ah,Ai,Aj,Ak,Al,An,Ao,Ap,Aq,Ar,As,Au,Av,Aw,Ax,Ay,Az,Ba,Bb,Bc,Bd,Be,Bf,Bg,Bh,Bi,Bj,Bk,Bl,Bm,Bn,Bo,Bp,Bq,Br,Bs,Bt,Bu,Bv], h⟩ k =
obH (evC Try.prog 57 #[Ai] h) fun t42_21 h22 =>
(unV Try.prog .not t42_21).bind fun t43_23 =>
cnd t43_23 (
(buildV Try.prog 30 #[]).bind fun t44_24 =>
(storeV Try.prog 30 Ae t44_24 h22).bind fun h25 =>
k .ret ⟨#[Aa,Ab,Ac,Ad,Ae, (Go.Value.bool Bool.false),Ag,Ah,Ai,Aj,Ak,Al,An,Ao,Ap,Aq,Ar,As,Au,Av,Aw,Ax,Ay,Az,Ba,Bb,Bc,Bd,Be,Bf,Bg,Bh,Bi,Bj,Bk,Bl,Bm,Bn,Bo,Bp,Bq,Ai, t42_21, t43_23, t44_24,Bv], h25⟩) (
(loadV Try.prog 30 Ag h22).bind fun t45_26 =>
(storeV Try.prog 30 Ae t45_26 h22).bind fun h27 =>
k .ret ⟨#[Aa,Ab,Ac,Ad,Ae, (Go.Value.bool Bool.true),Ag,Ah,Ai,Aj,Ak,Al,An,Ao,Ap,Aq,Ar,As,Au,Av,Aw,Ax,Ay,Az,Ba,Bb,Bc,Bd,Be,Bf,Bg,Bh,Bi,Bj,Bk,Bl,Bm,Bn,Bo,Bp,Bq,Ai, t42_21, t43_23,Bu, t45_26], h27⟩) := by kernel_rfl
theorem c126_3_eq {β : Type} (h : Heap) (k : Ex → St → Option β) : codeK Try.prog (evC Try.prog) loopL c126_3 ⟨#[Aa,Ab,Ac,Ad,Ae,Af,Ag,Ah,Ai,Aj,Ak,Al,An,Ao,Ap,Aq,Ar,As,Au,Av,Aw,Ax,Ay,Az,Ba,Bb,Bc,Bd,Be,Bf,Bg,Bh,Bi,Bj,Bk,Bl,Bm,Bn,Bo,Bp,Bq,Br,Bs,Bt,Bu,Bv], h⟩ k =
(binV Try.prog .lss 3 (.tmp 31) (.tmp 30) Bh Bg).bind fun t32_28 =>
cnd t32_28 (
obH (evC Try.prog 54 #[Ai, (Go.Value.int Go.IntKind.u64 18446744073709551615)] h) fun t37_29 h30 =>
(indexAddrV Try.prog 89 Ak Bh).bind fun t38_31 =>
(storeV Try.prog 35 t38_31 t37_29 h30).bind fun h32 =>
(binV Try.prog .add 3 (.tmp 31) (.const (Go.Value.int Go.IntKind.i64 1)) Bh (Go.Value.int Go.IntKind.i64 1)).bind fun t39_33 =>
k .normal ⟨#[Aa,Ab,Ac,Ad,Ae,Af,Ag,Ah,Ai,Aj,Ak,Bh,An,Ao,Ap,Aq,Ar,As,Au,Av,Aw,Ax,Ay,Az,Ba,Bb,Bc,Bd,Be,Bf,Bg, t39_33, t32_28,Bh,Ak,Bh,Ai, t37_29, t38_31, t39_33,Bq,Br,Bs,Bt,Bu,Bv], h32⟩) (
k (.exit 2) ⟨#[Aa,Ab,Ac,Ad,Ae,Af,Ag,Ah,Ai,Aj,Ak,Al,An,Ao,Ap,Aq,Ar,As,Au,Av,Aw,Ax,Ay,Az,Ba,Bb,Bc,Bd,Be,Bf,Bg,Bh, t32_28,Bj,Bk,Bl,Bm,Bn,Bo,Bp,Bq,Br,Bs,Bt,Bu,Bv], h⟩) := by kernel_rfl
theorem c126_4_eq {β : Type} (h : Heap) (k : Ex → St → Option β) : codeK Try.prog (evC Try.prog) loopL c126_4 ⟨#[Aa,Ab,Ac,Ad,Ae,Af,Ag,Ah,Ai,Aj,Ak,Al,An,Ao,Ap,Aq,Ar,As,Au,Av,Aw,Ax,Ay,Az,Ba,Bb,Bc,Bd,Be,Bf,Bg,Bh,Bi,Bj,Bk,Bl,Bm,Bn,Bo,Bp,Bq,Br,Bs,Bt,Bu,Bv], h⟩ k =
(binV Try.prog .add 3 (.tmp 25) (.const (Go.Value.int Go.IntKind.i64 1)) Bb (Go.Value.int Go.IntKind.i64 1)).bind fun t40_34 =>
k .normal ⟨#[Aa,Ab,Ac,Ad,Ae,Af,Ag,Ah,Ai,Aj,Ak,Al,An,Ao,Ap,Aq,Ar,As,Au,Av,Aw,Ax,Ay,Az,Ba, t40_34,Bc,Bd,Be,Bf,Bg,Bh,Bi,Bj,Bk,Bl,Bm,Bn,Bo,Bp, t40_34,Br,Bs,Bt,Bu,Bv], h⟩ := by kernel_rfl
theorem call126 (h : Heap) : evC Try.prog 126 #[Aa,Ab] h = codeK Try.prog (evC Try.prog) loopL c126_0 ⟨#[Aa,Ab, undef, undef, undef, undef, undef, undef, undef, undef, undef, undef, undef, undef, undef, undef, undef, undef, undef, undef, undef, undef, undef, undef, undef, undef, undef, undef, undef, undef, undef, undef, undef, undef, undef, undef, undef, undef, undef, undef, undef, undef, undef, undef, undef, undef], nm h⟩ (retK Try.f126 Try.prog h) :=
  (evC_call 126 Try.f126 c126_0 Try.func126 (by kernel_rfl) #[Aa,Ab] h).trans (by kernel_rfl)
theorem ret126 (h0 h : Heap) : retK Try.f126 Try.prog h0 .ret ⟨#[Aa,Ab,Ac,Ad,Ae,Af,Ag,Ah,Ai,Aj,Ak,Al,An,Ao,Ap,Aq,Ar,As,Au,Av,Aw,Ax,Ay,Az,Ba,Bb,Bc,Bd,Be,Bf,Bg,Bh,Bi,Bj,Bk,Bl,Bm,Bn,Bo,Bp,Bq,Br,Bs,Bt,Bu,Bv], h⟩ = fin h0 (rvals ((loadV Try.prog 30 Ae h).bind fun r0 => some [r0,Af])) h := by kernel_rfl
theorem retn126 (h0 h : Heap) : retK Try.f126 Try.prog h0 .normal ⟨#[Aa,Ab,Ac,Ad,Ae,Af,Ag,Ah,Ai,Aj,Ak,Al,An,Ao,Ap,Aq,Ar,As,Au,Av,Aw,Ax,Ay,Az,Ba,Bb,Bc,Bd,Be,Bf,Bg,Bh,Bi,Bj,Bk,Bl,Bm,Bn,Bo,Bp,Bq,Br,Bs,Bt,Bu,Bv], h⟩ = fin h0 (rvals ((loadV Try.prog 30 Ae h).bind fun r0 => some [r0,Af])) h := by kernel_rfl
end Go.Am
namespace Go.Am
open Go.Proofs
set_option maxRecDepth 100000
variable (Aa Ab Ac Ad Ae Af Ag Ah Ai : Value)
noncomputable def c56_0 : Code := bodyC Try.f56 []
theorem c56_0_eq {β : Type} (h : Heap) (k : Ex → St → Option β) : codeK Try.prog (evC Try.prog) loopL c56_0 ⟨#[Aa,Ab,Ac,Ad,Ae,Af,Ag,Ah,Ai], h⟩ k =
obH (builtinV Try.prog .max #[3, 3] #[Aa, (Go.Value.int Go.IntKind.i64 0)] h) fun t4_0 h1 =>
obH (builtinV Try.prog .min #[3, 3] #[t4_0, (Go.Value.int Go.IntKind.i64 64)] h1) fun t5_2 h3 =>
(binV Try.prog .shl 55 (.const (Go.Value.int Go.IntKind.u64 1)) (.tmp 6) (Go.Value.int Go.IntKind.u64 1) t5_2).bind fun t7_4 =>
(binV Try.prog .sub 55 (.tmp 7) (.const (Go.Value.int Go.IntKind.u64 1)) t7_4 (Go.Value.int Go.IntKind.u64 1)).bind fun t8_5 =>
k .ret ⟨#[t5_2,Ab, t8_5,Aa, t4_0, t5_2, t5_2, t7_4, t8_5], h3⟩ := by kernel_rfl
theorem call56 (h : Heap) : evC Try.prog 56 #[Aa] h = codeK Try.prog (evC Try.prog) loopL c56_0 ⟨#[Aa, undef, undef, undef, undef, undef, undef, undef, undef], nm h⟩ (retK Try.f56 Try.prog h) :=
  (evC_call 56 Try.f56 c56_0 Try.func56 (by kernel_rfl) #[Aa] h).trans (by kernel_rfl)
theorem ret56 (h0 h : Heap) : retK Try.f56 Try.prog h0 .ret ⟨#[Aa,Ab,Ac,Ad,Ae,Af,Ag,Ah,Ai], h⟩ = fin h0 (some Ac) h := by kernel_rfl
theorem retn56 (h0 h : Heap) : retK Try.f56 Try.prog h0 .normal ⟨#[Aa,Ab,Ac,Ad,Ae,Af,Ag,Ah,Ai], h⟩ = fin h0 (some Ac) h := by kernel_rfl
end Go.Am
namespace Go.Am
open Go.Proofs
set_option maxRecDepth 100000
variable (Aa Ab Ac Ad Ae Af Ag Ah Ai Aj Ak Al An Ao Ap Aq Ar As Au Av Aw Ax Ay Az Ba Bb Bc Bd Be Bf Bg : Value)
noncomputable def c40_0 : Code := bodyC Try.f40 []
theorem c40_0_eq {β : Type} (h : Heap) (k : Ex → St → Option β) : codeK Try.prog (evC Try.prog) loopL c40_0 ⟨#[Aa,Ab,Ac,Ad,Ae,Af,Ag,Ah,Ai,Aj,Ak,Al,An,Ao,Ap,Aq,Ar,As,Au,Av,Aw,Ax,Ay,Az,Ba,Bb,Bc,Bd,Be,Bf,Bg], h⟩ k =
obH (evC Try.prog 12 #[Aa] h) fun t10_0 h1 =>
(extractV t10_0 0).bind fun t11_2 =>
(extractV t10_0 1).bind fun t12_3 =>
obH (allocV Try.prog 30 h1) fun t6_4 h5 =>
(storeV Try.prog 30 t6_4 t11_2 h5).bind fun h6 =>
(binV Try.prog .neq 25 (.tmp 13) (.const (Go.Value.int Go.IntKind.i64 0)) t12_3 (Go.Value.int Go.IntKind.i64 0)).bind fun t14_7 =>
(gd (wt t14_7 false) (binV Try.prog .lss 3 (.tmp 16) (.const (Go.Value.int Go.IntKind.i64 0)) (gdV (wt t14_7 false) Ab) (Go.Value.int Go.IntKind.i64 0))).bind fun t17_8 =>
(pickV t14_7 (Go.Value.bool Bool.true) t17_8).bind fun t18_9 =>
(gd (wt t18_9 false) (binV Try.prog .geq 3 (.tmp 20) (.tmp 21) (gdV (wt t18_9 false) Ab) (gdV (wt t18_9 false) Aa))).bind fun t22_10 =>
(pickV t18_9 (Go.Value.bool Bool.true) t22_10).bind fun t23_11 =>
cnd t23_11 (
k .ret ⟨#[Aa,Ab,Ac,Ad, (Go.Value.pointer Option.none), (Go.Value.int Go.IntKind.i64 1), t6_4, t12_3, t10_0,Aa, t10_0, t11_2, t12_3, t12_3, t14_7, t14_7, (gdV (wt t14_7 false) Ab), t17_8, t18_9, t18_9, (gdV (wt t18_9 false) Ab), (gdV (wt t18_9 false) Aa), t22_10, t23_11,Ba,Bb,Bc,Bd,Be,Bf,Bg], h6⟩) (
(loadV Try.prog 30 t6_4 h6).bind fun t26_12 =>
obH (evC Try.prog 42 #[Aa] (nm h6)) fun t28_13 h14 =>
(buildV Try.prog 120 #[(0,Aa), (1,Ab), (2, t26_12), (3, t28_13)]).bind fun t29_15 =>
obH (boxV Try.prog 120 t29_15 (am h14 h6)) fun t30_16 h17 =>
chk ((rb t6_4) ++ []) (h14.mods ++ []) (
k .ret ⟨#[Aa,Ab,Ac,Ad, t30_16, (Go.Value.int Go.IntKind.i64 0), t6_4, t12_3, t10_0,Aa, t10_0, t11_2, t12_3, t12_3, t14_7, t14_7, (gdV (wt t14_7 false) Ab), t17_8, t18_9, t18_9, (gdV (wt t18_9 false) Ab), (gdV (wt t18_9 false) Aa), t22_10, t23_11,Aa,Ab, t26_12,Aa, t28_13, t29_15, t30_16], h17⟩)) := by kernel_rfl
theorem call40 (h : Heap) : evC Try.prog 40 #[Aa,Ab] h = codeK Try.prog (evC Try.prog) loopL c40_0 ⟨#[Aa,Ab, undef, undef, undef, undef, undef, undef, undef, undef, undef, undef, undef, undef, undef, undef, undef, undef, undef, undef, undef, undef, undef, undef, undef, undef, undef, undef, undef, undef, undef], nm h⟩ (retK Try.f40 Try.prog h) :=
  (evC_call 40 Try.f40 c40_0 Try.func40 (by kernel_rfl) #[Aa,Ab] h).trans (by kernel_rfl)
theorem ret40 (h0 h : Heap) : retK Try.f40 Try.prog h0 .ret ⟨#[Aa,Ab,Ac,Ad,Ae,Af,Ag,Ah,Ai,Aj,Ak,Al,An,Ao,Ap,Aq,Ar,As,Au,Av,Aw,Ax,Ay,Az,Ba,Bb,Bc,Bd,Be,Bf,Bg], h⟩ = fin h0 (some (.tuple #[Ae,Af])) h := by kernel_rfl
theorem retn40 (h0 h : Heap) : retK Try.f40 Try.prog h0 .normal ⟨#[Aa,Ab,Ac,Ad,Ae,Af,Ag,Ah,Ai,Aj,Ak,Al,An,Ao,Ap,Aq,Ar,As,Au,Av,Aw,Ax,Ay,Az,Ba,Bb,Bc,Bd,Be,Bf,Bg], h⟩ = fin h0 (some (.tuple #[Ae,Af])) h := by kernel_rfl
end Go.Am
namespace Go.Am
open Go.Proofs
set_option maxRecDepth 100000
end Go.Am
namespace Go.Am
open Go.Proofs
set_option maxRecDepth 100000
end Go.Am
namespace Go.Am
open Go.Proofs
set_option maxRecDepth 100000
variable (Aa Ab Ac Ad Ae Af Ag Ah Ai Aj Ak Al An Ao Ap Aq Ar As Au Av Aw Ax Ay Az Ba Bb Bc Bd Be Bf Bg Bh Bi Bj Bk Bl Bm Bn Bo Bp Bq Br Bs Bt Bu Bv Bw Bx By Bz Ca Cb Cc Cd Ce Cf Cg Ch Ci Cj Ck Cl Cm Cn Co Cp : Value)
noncomputable def c122_0 : Code := bodyC Try.f122 []
noncomputable def c122_1 : Code := bodyC Try.f122 [true, true, true, false, true, false, false]
noncomputable def c122_2 : Code := bodyC Try.f122 [true, true, true, true]
theorem c122_0_eq {β : Type} (h : Heap) (k : Ex → St → Option β) : codeK Try.prog (evC Try.prog) loopL c122_0 ⟨#[Aa,Ab,Ac,Ad,Ae,Af,Ag,Ah,Ai,Aj,Ak,Al,An,Ao,Ap,Aq,Ar,As,Au,Av,Aw,Ax,Ay,Az,Ba,Bb,Bc,Bd,Be,Bf,Bg,Bh,Bi,Bj,Bk,Bl,Bm,Bn,Bo,Bp,Bq,Br,Bs,Bt,Bu,Bv,Bw,Bx,By,Bz,Ca,Cb,Cc,Cd,Ce,Cf,Cg,Ch,Ci,Cj,Ck,Cl,Cm,Cn,Co,Cp], h⟩ k =
(nilCheckV Aa).bind fun t15_0 =>
(fieldAddrV Try.prog 120 t15_0 0).bind fun t16_1 =>
(loadV Try.prog 3 t16_1 h).bind fun t17_2 =>
obH (evC Try.prog 126 #[t17_2,Ad] h) fun t19_3 h4 =>
(extractV t19_3 0).bind fun t20_5 =>
(extractV t19_3 1).bind fun t21_6 =>
obH (allocV Try.prog 30 h4) fun t9_7 h8 =>
(storeV Try.prog 30 t9_7 t20_5 h8).bind fun h9 =>
(unV Try.prog .not t21_6).bind fun t23_10 =>
(gd (wt t23_10 false) (binV Try.prog .lss 3 (.tmp 25) (.const (Go.Value.int Go.IntKind.i64 0)) (gdV (wt t23_10 false) Ab) (Go.Value.int Go.IntKind.i64 0))).bind fun t26_11 =>
(pickV t23_10 (Go.Value.bool Bool.true) t26_11).bind fun t27_12 =>
(gd (wt t27_12 false) (nilCheckV (gdV (wt t27_12 false) Aa))).bind fun t31_13 =>
(gd (wt t27_12 false) (fieldAddrV Try.prog 120 t31_13 0)).bind fun t32_14 =>
(gd (wt t27_12 false) (loadV Try.prog 3 t32_14 h9)).bind fun t33_15 =>
(gd (wt t27_12 false) (binV Try.prog .geq 3 (.tmp 29) (.tmp 33) (gdV (wt t27_12 false) Ab) t33_15)).bind fun t34_16 =>
(pickV t27_12 (Go.Value.bool Bool.true) t34_16).bind fun t35_17 =>
(gd (wt t35_17 false) (nilCheckV (gdV (wt t35_17 false) Aa))).bind fun t39_18 =>
(gd (wt t35_17 false) (fieldAddrV Try.prog 120 t39_18 1)).bind fun t40_19 =>
(gd (wt t35_17 false) (loadV Try.prog 3 t40_19 h9)).bind fun t41_20 =>
(gd (wt t35_17 false) (binV Try.prog .eql 3 (.tmp 37) (.tmp 41) (gdV (wt t35_17 false) Ab) t41_20)).bind fun t42_21 =>
(pickV t35_17 (Go.Value.bool Bool.true) t42_21).bind fun t43_22 =>
cnd t43_22 (
k .ret ⟨#[Aa,Ab,Ac,Ad,Ae,Af,Ag,Ah, (Go.Value.bool Bool.false), t9_7, t21_6,Al,An, t19_3,Aa, t15_0, t16_1, t17_2,Ad, t19_3, t20_5, t21_6, t21_6, t23_10, t23_10, (gdV (wt t23_10 false) Ab), t26_11, t27_12, t27_12, (gdV (wt t27_12 false) Ab), (gdV (wt t27_12 false) Aa), t31_13, t32_14, t33_15, t34_16, t35_17, t35_17, (gdV (wt t35_17 false) Ab), (gdV (wt t35_17 false) Aa), t39_18, t40_19, t41_20, t42_21, t43_22,Bu,Bv,Bw,Bx,By,Bz,Ca,Cb,Cc,Cd,Ce,Cf,Cg,Ch,Ci,Cj,Ck,Cl,Cm,Cn,Co,Cp], h9⟩) (
(loadV Try.prog 30 t9_7 h9).bind fun t44_23 =>
(nilCheckV Aa).bind fun t46_24 =>
(fieldAddrV Try.prog 120 t46_24 1).bind fun t47_25 =>
(loadV Try.prog 3 t47_25 h9).bind fun t48_26 =>
obH (evC Try.prog 127 #[t44_23, t48_26] h9) fun t49_27 h28 =>
(lenV Try.prog 89 t49_27 h28).bind fun t50_29 =>
loopK Try.prog (evC Try.prog) c122_1 ⟨#[Aa,Ab,Ac,Ad,Ae,Af,Ag,Ah, (Go.Value.bool Bool.false), t9_7, t21_6,Al,An, t19_3,Aa, t15_0, t16_1, t17_2,Ad, t19_3, t20_5, t21_6, t21_6, t23_10, t23_10, (gdV (wt t23_10 false) Ab), t26_11, t27_12, t27_12, (gdV (wt t27_12 false) Ab), (gdV (wt t27_12 false) Aa), t31_13, t32_14, t33_15, t34_16, t35_17, t35_17, (gdV (wt t35_17 false) Ab), (gdV (wt t35_17 false) Aa), t39_18, t40_19, t41_20, t42_21, t43_22, t44_23,Aa, t46_24, t47_25, t48_26, t49_27, t50_29, (Go.Value.int Go.IntKind.i64 0),Cc,Cd,Ce,Cf,Cg,Ch,Ci,Cj,Ck,Cl,Cm,Cn,Co,Cp], h28⟩ (blockK 0 (seqK Try.prog (evC Try.prog) c122_2 k))) := by kernel_rfl
theorem c122_1_eq {β : Type} (h : Heap) (k : Ex → St → Option β) : codeK Try.prog (evC Try.prog) loopL c122_1 ⟨#[Aa,Ab,Ac,Ad,Ae,Af,Ag,Ah,Ai,Aj,Ak,Al,An,Ao,Ap,Aq,Ar,As,Au,Av,Aw,Ax,Ay,Az,Ba,Bb,Bc,Bd,Be,Bf,Bg,Bh,Bi,Bj,Bk,Bl,Bm,Bn,Bo,Bp,Bq,Br,Bs,Bt,Bu,Bv,Bw,Bx,By,Bz,Ca,Cb,Cc,Cd,Ce,Cf,Cg,Ch,Ci,Cj,Ck,Cl,Cm,Cn,Co,Cp], h⟩ k =
(binV Try.prog .lss 3 (.tmp 51) (.tmp 50) Cb Ca).bind fun t52_30 =>
cnd t52_30 (
(indexAddrV Try.prog 89 Bz Cb).bind fun t54_31 =>
(loadV Try.prog 35 t54_31 h).bind fun t55_32 =>
(nilCheckV Aa).bind fun t57_33 =>
(fieldAddrV Try.prog 120 t57_33 3).bind fun t58_34 =>
(loadV Try.prog 89 t58_34 h).bind fun t59_35 =>
(indexAddrV Try.prog 89 t59_35 Cb).bind fun t61_36 =>
(loadV Try.prog 35 t61_36 h).bind fun t62_37 =>
(binV Try.prog .lss 35 (.tmp 62) (.tmp 63) t62_37 t55_32).bind fun t64_38 =>
cnd t64_38 (
k .ret ⟨#[Aa,Ab,Ac,Ad,Ae,Af,Ag,Ah, (Go.Value.bool Bool.false),Aj,Ak,Cb, t55_32,Ao,Ap,Aq,Ar,As,Au,Av,Aw,Ax,Ay,Az,Ba,Bb,Bc,Bd,Be,Bf,Bg,Bh,Bi,Bj,Bk,Bl,Bm,Bn,Bo,Bp,Bq,Br,Bs,Bt,Bu,Bv,Bw,Bx,By,Bz,Ca,Cb, t52_30,Cb, t54_31, t55_32,Aa, t57_33, t58_34, t59_35,Cb, t61_36, t62_37, t55_32, t64_38,Cp], h⟩) (
(binV Try.prog .add 3 (.tmp 51) (.const (Go.Value.int Go.IntKind.i64 1)) Cb (Go.Value.int Go.IntKind.i64 1)).bind fun t65_39 =>
k .normal ⟨#[Aa,Ab,Ac,Ad,Ae,Af,Ag,Ah,Ai,Aj,Ak,Cb, t55_32,Ao,Ap,Aq,Ar,As,Au,Av,Aw,Ax,Ay,Az,Ba,Bb,Bc,Bd,Be,Bf,Bg,Bh,Bi,Bj,Bk,Bl,Bm,Bn,Bo,Bp,Bq,Br,Bs,Bt,Bu,Bv,Bw,Bx,By,Bz,Ca, t65_39, t52_30,Cb, t54_31, t55_32,Aa, t57_33, t58_34, t59_35,Cb, t61_36, t62_37, t55_32, t64_38, t65_39], h⟩)) (
k (.exit 0) ⟨#[Aa,Ab,Ac,Ad,Ae,Af,Ag,Ah,Ai,Aj,Ak,Al,An,Ao,Ap,Aq,Ar,As,Au,Av,Aw,Ax,Ay,Az,Ba,Bb,Bc,Bd,Be,Bf,Bg,Bh,Bi,Bj,Bk,Bl,Bm,Bn,Bo,Bp,Bq,Br,Bs,Bt,Bu,Bv,Bw,Bx,By,Bz,Ca,Cb, t52_30,Cd,Ce,Cf,Cg,Ch,Ci,Cj,Ck,Cl,Cm,Cn,Co,Cp], h⟩) := by kernel_rfl
theorem c122_2_eq {β : Type} (h : Heap) (k : Ex → St → Option β) : codeK Try.prog (evC Try.prog) loopL c122_2 ⟨#[Aa,Ab,Ac,Ad,Ae,Af,Ag,Ah,Ai,Aj,Ak,Al,An,Ao,Ap,Aq,Ar,As,Au,Av,Aw,Ax,Ay,Az,Ba,Bb,Bc,Bd,Be,Bf,Bg,Bh,Bi,Bj,Bk,Bl,Bm,Bn,Bo,Bp,Bq,Br,Bs,Bt,Bu,Bv,Bw,Bx,By,Bz,Ca,Cb,Cc,Cd,Ce,Cf,Cg,Ch,Ci,Cj,Ck,Cl,Cm,Cn,Co,Cp], h⟩ k =
k .ret ⟨#[Aa,Ab,Ac,Ad,Ae,Af,Ag,Ah, (Go.Value.bool Bool.true),Aj,Ak,Al,An,Ao,Ap,Aq,Ar,As,Au,Av,Aw,Ax,Ay,Az,Ba,Bb,Bc,Bd,Be,Bf,Bg,Bh,Bi,Bj,Bk,Bl,Bm,Bn,Bo,Bp,Bq,Br,Bs,Bt,Bu,Bv,Bw,Bx,By,Bz,Ca,Cb,Cc,Cd,Ce,Cf,Cg,Ch,Ci,Cj,Ck,Cl,Cm,Cn,Co,Cp], h⟩ := by kernel_rfl
theorem call122 (h : Heap) : evC Try.prog 122 #[Aa,Ab,Ac,Ad] h = codeK Try.prog (evC Try.prog) loopL c122_0 ⟨#[Aa,Ab,Ac,Ad, undef, undef, undef, undef, undef, undef, undef, undef, undef, undef, undef, undef, undef, undef, undef, undef, undef, undef, undef, undef, undef, undef, undef, undef, undef, undef, undef, undef, undef, undef, undef, undef, undef, undef, undef, undef, undef, undef, undef, undef, undef, undef, undef, undef, undef, undef, undef, undef, undef, undef, undef, undef, undef, undef, undef, undef, undef, undef, undef, undef, undef, undef], nm h⟩ (retK Try.f122 Try.prog h) :=
  (evC_call 122 Try.f122 c122_0 Try.func122 (by kernel_rfl) #[Aa,Ab,Ac,Ad] h).trans (by kernel_rfl)
theorem ret122 (h0 h : Heap) : retK Try.f122 Try.prog h0 .ret ⟨#[Aa,Ab,Ac,Ad,Ae,Af,Ag,Ah,Ai,Aj,Ak,Al,An,Ao,Ap,Aq,Ar,As,Au,Av,Aw,Ax,Ay,Az,Ba,Bb,Bc,Bd,Be,Bf,Bg,Bh,Bi,Bj,Bk,Bl,Bm,Bn,Bo,Bp,Bq,Br,Bs,Bt,Bu,Bv,Bw,Bx,By,Bz,Ca,Cb,Cc,Cd,Ce,Cf,Cg,Ch,Ci,Cj,Ck,Cl,Cm,Cn,Co,Cp], h⟩ = fin h0 (some Ai) h := by kernel_rfl
theorem retn122 (h0 h : Heap) : retK Try.f122 Try.prog h0 .normal ⟨#[Aa,Ab,Ac,Ad,Ae,Af,Ag,Ah,Ai,Aj,Ak,Al,An,Ao,Ap,Aq,Ar,As,Au,Av,Aw,Ax,Ay,Az,Ba,Bb,Bc,Bd,Be,Bf,Bg,Bh,Bi,Bj,Bk,Bl,Bm,Bn,Bo,Bp,Bq,Br,Bs,Bt,Bu,Bv,Bw,Bx,By,Bz,Ca,Cb,Cc,Cd,Ce,Cf,Cg,Ch,Ci,Cj,Ck,Cl,Cm,Cn,Co,Cp], h⟩ = fin h0 (some Ai) h := by kernel_rfl
end Go.Am
namespace Go.Am
open Go.Proofs
set_option maxRecDepth 100000
end Go.Am
namespace Go.Am
open Go.Proofs
set_option maxRecDepth 100000
variable {β : Type} (x : Nat → Value) (h : Heap) (k : Ex → St → Option β) (r m : List Nat) (g : Heap)
noncomputable def c41_0 : Code := bodyC Try.f41 []
theorem c41_0_eq : cK c41_0 27 x h k =
(bn .lss 3 (x 0) (.int .i64 1)).bind fun v0 =>
(gd (wt v0 false) (bn .gtr 3 (gdV (wt v0 false) (x 0)) (.int .i64 16))).bind fun v1 =>
(pickV v0 (.bool true) v1).bind fun v2 =>
(gd (wt v2 false) (bn .lss 3 (gdV (wt v2 false) (x 1)) (.int .i64 0))).bind fun v3 =>
(pickV v2 (.bool true) v3).bind fun v4 =>
(gd (wt v4 false) (bn .geq 3 (gdV (wt v4 false) (x 1)) (gdV (wt v4 false) (x 0)))).bind fun v5 =>
(pickV v4 (.bool true) v5).bind fun v6 =>
cnd v6 (
k .ret ⟨ar 27 (up x [(4,(.pointer Option.none)),(5,(.int .i64 1)),(6,(x 0)),(7,v0),(8,v0),(9,(gdV (wt v0 false) (x 0))),(10,v1),(11,v2),(12,v2),(13,(gdV (wt v2 false) (x 1))),(14,v3),(15,v4),(16,v4),(17,(gdV (wt v4 false) (x 1))),(18,(gdV (wt v4 false) (x 0))),(19,v5),(20,v6)]), h⟩) (
obH (ev 42 #[x 0] h) fun v7 h8 =>
(buildV Try.prog 122 #[(0, (x 0)), (1, (x 1)), (4, v7)]).bind fun v9 =>
obH (boxV Try.prog 122 v9 h8) fun v10 h11 =>
k .ret ⟨ar 27 (up x [(4,v10),(5,(.int .i64 0)),(6,(x 0)),(7,v0),(8,v0),(9,(gdV (wt v0 false) (x 0))),(10,v1),(11,v2),(12,v2),(13,(gdV (wt v2 false) (x 1))),(14,v3),(15,v4),(16,v4),(17,(gdV (wt v4 false) (x 1))),(18,(gdV (wt v4 false) (x 0))),(19,v5),(20,v6),(21,(x 0)),(22,(x 1)),(23,(x 0)),(24,v7),(25,v9),(26,v10)]), h11⟩) := by kernel_rfl
theorem call41 (a0 a1 : Value) : evC Try.prog 41 #[a0,a1] h = cK c41_0 27 (up un [(0,a0),(1,a1)]) (nm h) (retK Try.f41 Try.prog h) :=
  (evC_call 41 Try.f41 c41_0 Try.func41 (by kernel_rfl) #[a0,a1] h).trans (by kernel_rfl)
theorem ret41 : retK Try.f41 Try.prog g .ret ⟨ar 27 x, h⟩ = fin g (some (.tuple #[x 4, (x 5)])) h := by kernel_rfl
theorem retn41 : retK Try.f41 Try.prog g .normal ⟨ar 27 x, h⟩ = fin g (some (.tuple #[x 4, (x 5)])) h := by kernel_rfl
end Go.Am
namespace Go.Am
open Go.Proofs
set_option maxRecDepth 100000
variable {β : Type} (x : Nat → Value) (h : Heap) (k : Ex → St → Option β) (r m : List Nat) (g : Heap)
noncomputable def c11_0 : Code := bodyC Try.f11 []
theorem c11_0_eq : cK c11_0 37 x h k =
(bn .eql 3 (x 0) (.int .i64 1)).bind fun v0 =>
cnd v0 (
obH (ev 40 #[x 1,x 2] h) fun v1 h2 =>
(extractV v1 0).bind fun v3 =>
(extractV v1 1).bind fun v4 =>
(bn .eql 25 v4 (.int .i64 0)).bind fun v5 =>
cnd v5 (
(makeInterfaceV Try.prog 82 v3).bind fun v6 =>
k .ret ⟨ar 37 (up x [(6,v6),(7,(.int .i64 0)),(8,v3),(9,v4),(12,(x 0)),(13,v0),(14,v0),(15,v1),(16,(x 1)),(17,(x 2)),(18,v1),(19,v3),(20,v4),(21,v4),(22,v5),(23,v3),(24,v6)]), h2⟩) (
k .ret ⟨ar 37 (up x [(6,(.nilIface)),(7,(.int .i64 1)),(8,v3),(9,v4),(12,(x 0)),(13,v0),(14,v0),(15,v1),(16,(x 1)),(17,(x 2)),(18,v1),(19,v3),(20,v4),(21,v4),(22,v5)]), h2⟩)) (
(bn .eql 3 (x 0) (.int .i64 2)).bind fun v7 =>
cnd v7 (
obH (ev 41 #[x 1,x 2] h) fun v8 h9 =>
(extractV v8 0).bind fun v10 =>
(extractV v8 1).bind fun v11 =>
(bn .eql 25 v11 (.int .i64 0)).bind fun v12 =>
cnd v12 (
(makeInterfaceV Try.prog 85 v10).bind fun v13 =>
k .ret ⟨ar 37 (up x [(6,v13),(7,(.int .i64 0)),(10,v10),(11,v11),(12,(x 0)),(13,v0),(14,v0),(25,v7),(26,v7),(27,v8),(28,(x 1)),(29,(x 2)),(30,v8),(31,v10),(32,v11),(33,v11),(34,v12),(35,v10),(36,v13)]), h9⟩) (
k .ret ⟨ar 37 (up x [(6,(.nilIface)),(7,(.int .i64 1)),(10,v10),(11,v11),(12,(x 0)),(13,v0),(14,v0),(25,v7),(26,v7),(27,v8),(28,(x 1)),(29,(x 2)),(30,v8),(31,v10),(32,v11),(33,v11),(34,v12)]), h9⟩)) (
k .ret ⟨ar 37 (up x [(6,(.nilIface)),(7,(.int .i64 1)),(12,(x 0)),(13,v0),(14,v0),(25,v7),(26,v7)]), h⟩)) := by kernel_rfl
theorem call11 (a0 a1 a2 : Value) : evC Try.prog 11 #[a0,a1,a2] h = cK c11_0 37 (up un [(0,a0),(1,a1),(2,a2)]) (nm h) (retK Try.f11 Try.prog h) :=
  (evC_call 11 Try.f11 c11_0 Try.func11 (by kernel_rfl) #[a0,a1,a2] h).trans (by kernel_rfl)
theorem ret11 : retK Try.f11 Try.prog g .ret ⟨ar 37 x, h⟩ = fin g (some (.tuple #[x 6, (x 7)])) h := by kernel_rfl
theorem retn11 : retK Try.f11 Try.prog g .normal ⟨ar 37 x, h⟩ = fin g (some (.tuple #[x 6, (x 7)])) h := by kernel_rfl
end Go.Am
namespace Go.Am
open Go.Proofs
set_option maxRecDepth 100000
variable {β : Type} (x : Nat → Value) (h : Heap) (k : Ex → St → Option β) (r m : List Nat) (g : Heap)
noncomputable def c10_0 : Code := bodyC Try.f10 []
theorem c10_0_eq : cK c10_0 18 x h k =
obH (ev 11 #[(.int .i64 2),(.int .i64 2),(.int .i64 0)] h) fun v0 h1 =>
(extractV v0 0).bind fun v2 =>
(extractV v0 1).bind fun v3 =>
(bn .eql 25 v3 (.int .i64 0)).bind fun v4 =>
(gd (wt v4 true) (binV Try.prog .neq 24 (.tmp 10) (.const (.nilIface)) (gdV (wt v4 true) v2) (.nilIface))).bind fun v5 =>
(pickV v4 v5 (.bool false)).bind fun v6 =>
obH (gdH (wt v6 true) h1 (ev 15 #[(gdV (wt v6 true) v2)] h1)) fun v7 h8 =>
(gd (wt v6 true) (bn .eql 3 v7 (.int .i64 2))).bind fun v9 =>
(pickV v6 v9 (.bool false)).bind fun v10 =>
k .ret ⟨ar 18 (up x [(0,v10),(1,v2),(2,v3),(3,v0),(4,v0),(5,v2),(6,v3),(7,v3),(8,v4),(9,v4),(10,(gdV (wt v4 true) v2)),(11,v5),(12,v6),(13,v6),(14,(gdV (wt v6 true) v2)),(15,v7),(16,v9),(17,v10)]), h8⟩ := by kernel_rfl
theorem call10  : evC Try.prog 10 #[] h = cK c10_0 18 un (nm h) (retK Try.f10 Try.prog h) :=
  (evC_call 10 Try.f10 c10_0 Try.func10 (by kernel_rfl) #[] h).trans (by kernel_rfl)
theorem ret10 : retK Try.f10 Try.prog g .ret ⟨ar 18 x, h⟩ = fin g (some (x 0)) h := by kernel_rfl
theorem retn10 : retK Try.f10 Try.prog g .normal ⟨ar 18 x, h⟩ = fin g (some (x 0)) h := by kernel_rfl
end Go.Am
namespace Go.Am
open Go.Proofs
set_option maxRecDepth 100000
variable {β : Type} (x : Nat → Value) (h : Heap) (k : Ex → St → Option β) (r m : List Nat) (g : Heap)
noncomputable def c3_0 : Code := bodyC Try.f3 []
theorem c3_0_eq : cK c3_0 122 x h k =
obH (ev 10 #[] h) fun v0 h1 =>
(unV Try.prog .not v0).bind fun v2 =>
cnd v2 (
k .ret ⟨ar 122 (up x [(0,(.bool false)),(17,v0),(18,v2)]), h1⟩) (
obH (ev 11 #[(.int .i64 3),(.int .i64 2),(.int .i64 0)] h1) fun v3 h4 =>
(extractV v3 0).bind fun v5 =>
(extractV v3 1).bind fun v6 =>
obH (ev 11 #[(.int .i64 1),(.int .i64 2),(.int .i64 2)] h4) fun v7 h8 =>
(extractV v7 0).bind fun v9 =>
(extractV v7 1).bind fun v10 =>
obH (ev 11 #[(.int .i64 1),(.int .i64 3),(.int .i64 2)] h8) fun v11 h12 =>
(extractV v11 0).bind fun v13 =>
(extractV v11 1).bind fun v14 =>
(binV Try.prog .neq 24 (.tmp 31) (.const (.nilIface)) v5 (.nilIface)).bind fun v15 =>
(gd (wt v15 false) (binV Try.prog .neq 24 (.tmp 34) (.const (.nilIface)) (gdV (wt v15 false) v9) (.nilIface))).bind fun v16 =>
(pickV v15 (.bool true) v16).bind fun v17 =>
(gd (wt v17 false) (binV Try.prog .eql 24 (.tmp 38) (.const (.nilIface)) (gdV (wt v17 false) v13) (.nilIface))).bind fun v18 =>
(pickV v17 (.bool true) v18).bind fun v19 =>
cnd v19 (
k .ret ⟨ar 122 (up x [(0,(.bool false)),(1,v5),(2,v6),(3,v9),(4,v10),(5,v13),(6,v14),(17,v0),(18,v2),(19,v3),(20,v3),(21,v5),(22,v6),(23,v7),(24,v7),(25,v9),(26,v10),(27,v11),(28,v11),(29,v13),(30,v14),(31,v5),(32,v15),(33,v15),(34,(gdV (wt v15 false) v9)),(35,v16),(36,v17),(37,v17),(38,(gdV (wt v17 false) v13)),(39,v18),(40,v19)]), h12⟩) (
obH (ev 12 #[(.int .i64 3)] h12) fun v20 h21 =>
(extractV v20 0).bind fun v22 =>
(extractV v20 1).bind fun v23 =>
obH (allocV Try.prog 30 h21) fun v24 h25 =>
(sto 30 v24 v22 h25).bind fun h26 =>
(ld 30 v24 h26).bind fun v27 =>
obH (ev 13 #[v27] h26) fun v28 h29 =>
(buildV Try.prog 37 #[(0, (.bool true)), (1, (.int .i64 1)), (2, (.int .u64 1)), (3, v28)]).bind fun v30 =>
(buildV Try.prog 37 #[(1, (.int .i64 0)), (2, (.int .u64 1)), (3, v28)]).bind fun v31 =>
(buildV Try.prog 37 #[(0, (.bool true)), (1, (.int .i64 0)), (2, (.int .u64 1)), (3, v28)]).bind fun v32 =>
(buildV Try.prog 37 #[(0, (.bool true)), (1, (.int .i64 2)), (2, (.int .u64 1)), (3, v28)]).bind fun v33 =>
(buildV Try.prog 37 #[(0, (.bool true)), (1, (.int .i64 1)), (2, (.int .u64 1))]).bind fun v34 =>
obH (buildSliceV Try.prog 38 5 #[(0, v30), (1, v31), (2, v32), (3, v33), (4, v34)] h29) fun v35 h36 =>
obH (ev 14 #[v13,v35] h36) fun v37 h38 =>
(extractV v37 0).bind fun v39 =>
(extractV v37 1).bind fun v40 =>
(sliceV Try.prog 38 v35 (some (.int .i64 3)) none none h38).bind fun v41 =>
obH (ev 14 #[v13,v41] h38) fun v42 h43 =>
(extractV v42 0).bind fun v44 =>
(extractV v42 1).bind fun v45 =>
obH (ev 14 #[(.nilIface),v35] h43) fun v46 h47 =>
(extractV v46 0).bind fun v48 =>
(extractV v46 1).bind fun v49 =>
(bn .eql 25 v6 (.int .i64 1)).bind fun v50 =>
(gd (wt v50 true) (bn .eql 25 (gdV (wt v50 true) v10) (.int .i64 1))).bind fun v51 =>
(pickV v50 v51 (.bool false)).bind fun v52 =>
(gd (wt v52 true) (bn .eql 25 (gdV (wt v52 true) v14) (.int .i64 0))).bind fun v53 =>
(pickV v52 v53 (.bool false)).bind fun v54 =>
obH (gdH (wt v54 true) h47 (ev 15 #[(gdV (wt v54 true) v13)] h47)) fun v55 h56 =>
(gd (wt v54 true) (bn .eql 3 v55 (.int .i64 1))).bind fun v57 =>
(pickV v54 v57 (.bool false)).bind fun v58 =>
obH (gdH (wt v58 true) h56 (ev 15 #[(.nilIface)] h56)) fun v59 h60 =>
(gd (wt v58 true) (bn .eql 3 v59 (.int .i64 0))).bind fun v61 =>
(pickV v58 v61 (.bool false)).bind fun v62 =>
obH (gdH (wt v62 true) h60 (ev 17 #[(gdV (wt v62 true) v13),(gdV (wt v62 true) v35)] h60)) fun v63 h64 =>
obH (gdH (wt v62 true) h64 (buildSliceV Try.prog 43 2 #[(0, (.int .i64 0)), (1, (.int .i64 2))] h64)) fun v65 h66 =>
obH (gdH (wt v62 true) h66 (ev 16 #[v63,v65] h66)) fun v67 h68 =>
(pickV v62 v67 (.bool false)).bind fun v69 =>
(pickV v69 (gdV (wt v69 true) v40) (.bool false)).bind fun v70 =>
(gd (wt v70 true) (bn .eql 3 (gdV (wt v70 true) v39) (.int .i64 2))).bind fun v71 =>
(pickV v70 v71 (.bool false)).bind fun v72 =>
(gd (wt v72 true) (unV Try.prog .not (gdV (wt v72 true) v45))).bind fun v73 =>
(pickV v72 v73 (.bool false)).bind fun v74 =>
(gd (wt v74 true) (unV Try.prog .not (gdV (wt v74 true) v49))).bind fun v75 =>
(pickV v74 v75 (.bool false)).bind fun v76 =>
obH (gdH (wt v76 true) h68 (ev 17 #[(.nilIface),(gdV (wt v76 true) v35)] h68)) fun v77 h78 =>
(gd (wt v76 true) (ln 43 v77 h78)).bind fun v79 =>
(gd (wt v76 true) (bn .eql 3 v79 (.int .i64 0))).bind fun v80 =>
(pickV v76 v80 (.bool false)).bind fun v81 =>
k .ret ⟨ar 122 (up x [(0,v81),(1,v5),(2,v6),(3,v9),(4,v10),(5,v13),(6,v14),(7,v24),(8,v23),(9,v28),(10,v35),(11,v39),(12,v40),(13,v44),(14,v45),(15,v48),(16,v49),(17,v0),(18,v2),(19,v3),(20,v3),(21,v5),(22,v6),(23,v7),(24,v7),(25,v9),(26,v10),(27,v11),(28,v11),(29,v13),(30,v14),(31,v5),(32,v15),(33,v15),(34,(gdV (wt v15 false) v9)),(35,v16),(36,v17),(37,v17),(38,(gdV (wt v17 false) v13)),(39,v18),(40,v19),(41,v20),(42,v20),(43,v22),(44,v23),(45,v27),(46,v28),(47,v28),(48,v30),(49,v28),(50,v31),(51,v28),(52,v32),(53,v28),(54,v33),(55,v34),(56,v35),(57,v37),(58,v13),(59,v35),(60,v37),(61,v39),(62,v40),(63,v42),(64,v13),(65,v35),(66,v41),(67,v42),(68,v44),(69,v45),(70,v46),(71,v35),(72,v46),(73,v48),(74,v49),(75,v6),(76,v50),(77,v50),(78,(gdV (wt v50 true) v10)),(79,v51),(80,v52),(81,v52),(82,(gdV (wt v52 true) v14)),(83,v53),(84,v54),(85,v54),(86,(gdV (wt v54 true) v13)),(87,v55),(88,v57),(89,v58),(90,v58),(91,v59),(92,v61),(93,v62),(94,v62),(95,(gdV (wt v62 true) v13)),(96,(gdV (wt v62 true) v35)),(97,v63),(98,v65),(99,v67),(100,v69),(101,v69),(102,(gdV (wt v69 true) v40)),(103,v70),(104,v70),(105,(gdV (wt v70 true) v39)),(106,v71),(107,v72),(108,v72),(109,(gdV (wt v72 true) v45)),(110,v73),(111,v74),(112,v74),(113,(gdV (wt v74 true) v49)),(114,v75),(115,v76),(116,v76),(117,(gdV (wt v76 true) v35)),(118,v77),(119,v79),(120,v80),(121,v81)]), h78⟩)) := by kernel_rfl
theorem call3  : evC Try.prog 3 #[] h = cK c3_0 122 un (nm h) (retK Try.f3 Try.prog h) :=
  (evC_call 3 Try.f3 c3_0 Try.func3 (by kernel_rfl) #[] h).trans (by kernel_rfl)
theorem ret3 : retK Try.f3 Try.prog g .ret ⟨ar 122 x, h⟩ = fin g (some (x 0)) h := by kernel_rfl
theorem retn3 : retK Try.f3 Try.prog g .normal ⟨ar 122 x, h⟩ = fin g (some (x 0)) h := by kernel_rfl
end Go.Am
