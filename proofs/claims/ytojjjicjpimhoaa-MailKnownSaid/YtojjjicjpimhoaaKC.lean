/- What the texts of functions come to in the machine (printed by a program of this seat; Lean checks it). -/
import Derived.Test.YtojjjicjpimhoaaKB
import Derived.Test.YtojjjicjpimhoaaChecked
import Derived.KernelRfl
set_option linter.all false
namespace Go.Am
open Go.Proofs
set_option maxRecDepth 100000
variable (Aa Ab Ac Ad Ae Af Ag Ah Ai : Value)
noncomputable def c80_0 : Code := bodyC Try.f80 []
theorem c80_0_eq {β : Type} (h : Heap) (k : Ex → St → Option β) : codeK Try.prog (evC Try.prog) loopL c80_0 ⟨#[Aa,Ab,Ac,Ad,Ae,Af,Ag,Ah,Ai], h⟩ k =
obH (builtinV Try.prog .max #[3, 3] #[Aa, (Go.Value.int Go.IntKind.i64 0)] h) fun t4_0 h1 =>
obH (builtinV Try.prog .min #[3, 3] #[t4_0, (Go.Value.int Go.IntKind.i64 64)] h1) fun t5_2 h3 =>
(binV Try.prog .shl 47 (.const (Go.Value.int Go.IntKind.u64 1)) (.tmp 6) (Go.Value.int Go.IntKind.u64 1) t5_2).bind fun t7_4 =>
(binV Try.prog .sub 47 (.tmp 7) (.const (Go.Value.int Go.IntKind.u64 1)) t7_4 (Go.Value.int Go.IntKind.u64 1)).bind fun t8_5 =>
k .ret ⟨#[t5_2,Ab, t8_5,Aa, t4_0, t5_2, t5_2, t7_4, t8_5], h3⟩ := by kernel_rfl
theorem call80 (h : Heap) : evC Try.prog 80 #[Aa] h = codeK Try.prog (evC Try.prog) loopL c80_0 ⟨#[Aa, undef, undef, undef, undef, undef, undef, undef, undef], nm h⟩ (retK Try.f80 Try.prog h) :=
  (evC_call 80 Try.f80 c80_0 Try.func80 (by kernel_rfl) #[Aa] h).trans (by kernel_rfl)
theorem ret80 (h0 h : Heap) : retK Try.f80 Try.prog h0 .ret ⟨#[Aa,Ab,Ac,Ad,Ae,Af,Ag,Ah,Ai], h⟩ = fin h0 (some Ac) h := by kernel_rfl
end Go.Am
namespace Go.Am
open Go.Proofs
set_option maxRecDepth 100000
variable (Aa Ab Ac Ad Ae Af Ag Ah Ai Aj Ak Al An Ao Ap Aq Ar As : Value)
noncomputable def c112_0 : Code := bodyC Try.f112 []
theorem c112_0_eq {β : Type} (h : Heap) (k : Ex → St → Option β) : codeK Try.prog (evC Try.prog) loopL c112_0 ⟨#[Aa,Ab,Ac,Ad,Ae,Af,Ag,Ah,Ai,Aj,Ak,Al,An,Ao,Ap,Aq,Ar,As], h⟩ k =
(binV Try.prog .geq 3 (.tmp 5) (.const (Go.Value.int Go.IntKind.i64 0)) Ab (Go.Value.int Go.IntKind.i64 0)).bind fun t6_0 =>
(gd (wt t6_0 true) (binV Try.prog .lss 3 (.tmp 8) (.const (Go.Value.int Go.IntKind.i64 64)) (gdV (wt t6_0 true) Ab) (Go.Value.int Go.IntKind.i64 64))).bind fun t9_1 =>
(pickV t6_0 t9_1 (Go.Value.bool Bool.false)).bind fun t10_2 =>
(gd (wt t10_2 true) (binV Try.prog .shr 47 (.tmp 12) (.tmp 13) (gdV (wt t10_2 true) Aa) (gdV (wt t10_2 true) Ab))).bind fun t14_3 =>
(gd (wt t10_2 true) (binV Try.prog .and 47 (.tmp 14) (.const (Go.Value.int Go.IntKind.u64 1)) t14_3 (Go.Value.int Go.IntKind.u64 1))).bind fun t15_4 =>
(gd (wt t10_2 true) (binV Try.prog .eql 47 (.tmp 15) (.const (Go.Value.int Go.IntKind.u64 1)) t15_4 (Go.Value.int Go.IntKind.u64 1))).bind fun t16_5 =>
(pickV t10_2 t16_5 (Go.Value.bool Bool.false)).bind fun t17_6 =>
k .ret ⟨#[Aa,Ab,Ac,Ad, t17_6,Ab, t6_0, t6_0, (gdV (wt t6_0 true) Ab), t9_1, t10_2, t10_2, (gdV (wt t10_2 true) Aa), (gdV (wt t10_2 true) Ab), t14_3, t15_4, t16_5, t17_6], h⟩ := by kernel_rfl
theorem call112 (h : Heap) : evC Try.prog 112 #[Aa,Ab] h = codeK Try.prog (evC Try.prog) loopL c112_0 ⟨#[Aa,Ab, undef, undef, undef, undef, undef, undef, undef, undef, undef, undef, undef, undef, undef, undef, undef, undef], nm h⟩ (retK Try.f112 Try.prog h) :=
  (evC_call 112 Try.f112 c112_0 Try.func112 (by kernel_rfl) #[Aa,Ab] h).trans (by kernel_rfl)
theorem ret112 (h0 h : Heap) : retK Try.f112 Try.prog h0 .ret ⟨#[Aa,Ab,Ac,Ad,Ae,Af,Ag,Ah,Ai,Aj,Ak,Al,An,Ao,Ap,Aq,Ar,As], h⟩ = fin h0 (some Ae) h := by kernel_rfl
end Go.Am
namespace Go.Am
open Go.Proofs
set_option maxRecDepth 100000
variable (Aa Ab Ac Ad Ae Af Ag Ah Ai Aj Ak Al An Ao Ap Aq Ar As At : Value)
end Go.Am
namespace Go.Am
open Go.Proofs
set_option maxRecDepth 100000
variable (Aa Ab Ac Ad Ae Af Ag Ah Ai Aj Ak : Value)
noncomputable def c124_0 : Code := bodyC Try.f124 []
noncomputable def c124_1 : Code := bodyC Try.f124 [true, true, false, false, false]
noncomputable def c124_2 : Code := bodyC Try.f124 [true, true, true]
theorem c124_0_eq {β : Type} (h : Heap) (k : Ex → St → Option β) : codeK Try.prog (evC Try.prog) loopL c124_0 ⟨#[Aa,Ab,Ac,Ad,Ae,Af,Ag,Ah,Ai,Aj,Ak], h⟩ k =
loopK Try.prog (evC Try.prog) c124_1 ⟨#[Aa,Ab, (Go.Value.int Go.IntKind.i64 0), (Go.Value.int Go.IntKind.i64 1),Ae,Af,Ag,Ah,Ai,Aj,Ak], h⟩ (blockK 0 (seqK Try.prog (evC Try.prog) c124_2 k)) := by kernel_rfl
theorem c124_1_eq {β : Type} (h : Heap) (k : Ex → St → Option β) : codeK Try.prog (evC Try.prog) loopL c124_1 ⟨#[Aa,Ab,Ac,Ad,Ae,Af,Ag,Ah,Ai,Aj,Ak], h⟩ k =
(binV Try.prog .geq 46 (.tmp 4) (.const (Go.Value.int Go.IntKind.u64 128)) Aa (Go.Value.int Go.IntKind.u64 128)).bind fun t5_0 =>
cnd t5_0 (
(binV Try.prog .shr 46 (.tmp 6) (.const (Go.Value.int Go.IntKind.u64 7)) Aa (Go.Value.int Go.IntKind.u64 7)).bind fun t7_1 =>
(binV Try.prog .add 3 (.tmp 8) (.const (Go.Value.int Go.IntKind.i64 1)) Ad (Go.Value.int Go.IntKind.i64 1)).bind fun t9_2 =>
k .normal ⟨#[t7_1,Ab,Ac, t9_2,Aa, t5_0,Aa, t7_1,Ad, t9_2,Ak], h⟩) (
k (.exit 0) ⟨#[Aa,Ab,Ac,Ad,Aa, t5_0,Ag,Ah,Ai,Aj,Ak], h⟩) := by kernel_rfl
theorem c124_2_eq {β : Type} (h : Heap) (k : Ex → St → Option β) : codeK Try.prog (evC Try.prog) loopL c124_2 ⟨#[Aa,Ab,Ac,Ad,Ae,Af,Ag,Ah,Ai,Aj,Ak], h⟩ k =
k .ret ⟨#[Aa,Ab,Ad,Ad,Ae,Af,Ag,Ah,Ai,Aj,Ad], h⟩ := by kernel_rfl
theorem call124 (h : Heap) : evC Try.prog 124 #[Aa] h = codeK Try.prog (evC Try.prog) loopL c124_0 ⟨#[Aa, undef, undef, undef, undef, undef, undef, undef, undef, undef, undef], nm h⟩ (retK Try.f124 Try.prog h) :=
  (evC_call 124 Try.f124 c124_0 Try.func124 (by kernel_rfl) #[Aa] h).trans (by kernel_rfl)
theorem ret124 (h0 h : Heap) : retK Try.f124 Try.prog h0 .ret ⟨#[Aa,Ab,Ac,Ad,Ae,Af,Ag,Ah,Ai,Aj,Ak], h⟩ = fin h0 (some Ac) h := by kernel_rfl
end Go.Am
namespace Go.Am
open Go.Proofs
set_option maxRecDepth 100000
variable (Aa Ab Ac Ad Ae Af Ag Ah Ai Aj Ak Al An Ao Ap Aq Ar As At Au Av Aw Ax : Value)
noncomputable def c94_0 : Code := bodyC Try.f94 []
noncomputable def c94_1 : Code := bodyC Try.f94 [true, true, false, false, false]
noncomputable def c94_2 : Code := bodyC Try.f94 [true, true, true]
theorem c94_0_eq {β : Type} (h : Heap) (k : Ex → St → Option β) : codeK Try.prog (evC Try.prog) loopL c94_0 ⟨#[Aa,Ab,Ac,Ad,Ae,Af,Ag,Ah,Ai,Aj,Ak,Al,An,Ao,Ap,Aq,Ar,As,At,Au,Av,Aw,Ax], h⟩ k =
obH (appendV Try.prog 23 (some 23) (Go.Value.slice Option.none 0 0) Aa h) fun t7_0 h1 =>
loopK Try.prog (evC Try.prog) c94_1 ⟨#[Aa,Ab,Ac,Ad, (Go.Value.slice Option.none 0 0), t7_0,Aa, t7_0,Ai,Aj,Ak,Al,An,Ao,Ap,Aq,Ar,As,At,Au,Av,Aw,Ax], h1⟩ (blockK 0 (seqK Try.prog (evC Try.prog) c94_2 k)) := by kernel_rfl
theorem c94_1_eq {β : Type} (h : Heap) (k : Ex → St → Option β) : codeK Try.prog (evC Try.prog) loopL c94_1 ⟨#[Aa,Ab,Ac,Ad,Ae,Af,Ag,Ah,Ai,Aj,Ak,Al,An,Ao,Ap,Aq,Ar,As,At,Au,Av,Aw,Ax], h⟩ k =
(binV Try.prog .geq 46 (.tmp 8) (.const (Go.Value.int Go.IntKind.u64 128)) Ab (Go.Value.int Go.IntKind.u64 128)).bind fun t9_2 =>
cnd t9_2 (
obH (convV Try.prog 46 5 Ab h) fun t12_3 h4 =>
(binV Try.prog .or 5 (.tmp 12) (.const (Go.Value.int Go.IntKind.u8 128)) t12_3 (Go.Value.int Go.IntKind.u8 128)).bind fun t13_5 =>
obH (buildSliceV Try.prog 23 1 #[(0, t13_5)] h4) fun t14_6 h7 =>
obH (appendV Try.prog 23 (some 23) Af t14_6 h7) fun t15_8 h9 =>
(binV Try.prog .shr 46 (.tmp 16) (.const (Go.Value.int Go.IntKind.u64 7)) Ab (Go.Value.int Go.IntKind.u64 7)).bind fun t17_10 =>
k .normal ⟨#[Aa, t17_10,Ac,Ad,Ae, t15_8,Ag,Ah,Ab, t9_2,Af,Ab, t12_3, t13_5, t14_6, t15_8,Ab, t17_10,At,Au,Av,Aw,Ax], h9⟩) (
k (.exit 0) ⟨#[Aa,Ab,Ac,Ad,Ae,Af,Ag,Ah,Ab, t9_2,Ak,Al,An,Ao,Ap,Aq,Ar,As,At,Au,Av,Aw,Ax], h⟩) := by kernel_rfl
theorem c94_2_eq {β : Type} (h : Heap) (k : Ex → St → Option β) : codeK Try.prog (evC Try.prog) loopL c94_2 ⟨#[Aa,Ab,Ac,Ad,Ae,Af,Ag,Ah,Ai,Aj,Ak,Al,An,Ao,Ap,Aq,Ar,As,At,Au,Av,Aw,Ax], h⟩ k =
obH (convV Try.prog 46 5 Ab h) fun t20_11 h12 =>
obH (buildSliceV Try.prog 23 1 #[(0, t20_11)] h12) fun t21_13 h14 =>
obH (appendV Try.prog 23 (some 23) Af t21_13 h14) fun t22_15 h16 =>
k .ret ⟨#[Aa,Ab,Ac,Ad, t22_15,Af,Ag,Ah,Ai,Aj,Ak,Al,An,Ao,Ap,Aq,Ar,As,Af,Ab, t20_11, t21_13, t22_15], h16⟩ := by kernel_rfl
theorem call94 (h : Heap) : evC Try.prog 94 #[Aa,Ab] h = codeK Try.prog (evC Try.prog) loopL c94_0 ⟨#[Aa,Ab, undef, undef, undef, undef, undef, undef, undef, undef, undef, undef, undef, undef, undef, undef, undef, undef, undef, undef, undef, undef, undef], nm h⟩ (retK Try.f94 Try.prog h) :=
  (evC_call 94 Try.f94 c94_0 Try.func94 (by kernel_rfl) #[Aa,Ab] h).trans (by kernel_rfl)
theorem ret94 (h0 h : Heap) : retK Try.f94 Try.prog h0 .ret ⟨#[Aa,Ab,Ac,Ad,Ae,Af,Ag,Ah,Ai,Aj,Ak,Al,An,Ao,Ap,Aq,Ar,As,At,Au,Av,Aw,Ax], h⟩ = fin h0 (some Ae) h := by kernel_rfl
end Go.Am
namespace Go.Am
open Go.Proofs
set_option maxRecDepth 100000
variable (Aa Ab Ac Ad Ae Af Ag Ah Ai Aj Ak Al An Ao Ap Aq Ar As At Au Av Aw Ax Ay Az Ba Bb Bc Bd Be Bf Bg Bh Bi Bj Bk Bl Bm Bn Bo Bp Bq : Value)
noncomputable def c96_0 : Code := bodyC Try.f96 []
noncomputable def c96_1 : Code := bodyC Try.f96 [true, false, true, false, false]
noncomputable def c96_2 : Code := bodyC Try.f96 [true, true]
theorem c96_0_eq {β : Type} (h : Heap) (k : Ex → St → Option β) : codeK Try.prog (evC Try.prog) loopL c96_0 ⟨#[Aa,Ab,Ac,Ad,Ae,Af,Ag,Ah,Ai,Aj,Ak,Al,An,Ao,Ap,Aq,Ar,As,At,Au,Av,Aw,Ax,Ay,Az,Ba,Bb,Bc,Bd,Be,Bf,Bg,Bh,Bi,Bj,Bk,Bl,Bm,Bn,Bo,Bp,Bq], h⟩ k =
(lenV Try.prog 23 Aa h).bind fun t7_0 =>
loopK Try.prog (evC Try.prog) c96_1 ⟨#[Aa,Ab, (Go.Value.int Go.IntKind.u64 0), (Go.Value.int Go.IntKind.i64 0),Ae,Af,Aa, t7_0, (Go.Value.int Go.IntKind.i64 0),Aj,Ak,Al,An,Ao,Ap,Aq,Ar,As,At,Au,Av,Aw,Ax,Ay,Az,Ba,Bb,Bc,Bd,Be,Bf,Bg,Bh,Bi,Bj,Bk,Bl,Bm,Bn,Bo,Bp,Bq], h⟩ (blockK 0 (seqK Try.prog (evC Try.prog) c96_2 k)) := by kernel_rfl
theorem c96_1_eq {β : Type} (h : Heap) (k : Ex → St → Option β) : codeK Try.prog (evC Try.prog) loopL c96_1 ⟨#[Aa,Ab,Ac,Ad,Ae,Af,Ag,Ah,Ai,Aj,Ak,Al,An,Ao,Ap,Aq,Ar,As,At,Au,Av,Aw,Ax,Ay,Az,Ba,Bb,Bc,Bd,Be,Bf,Bg,Bh,Bi,Bj,Bk,Bl,Bm,Bn,Bo,Bp,Bq], h⟩ k =
(binV Try.prog .lss 3 (.tmp 8) (.tmp 7) Ai Ah).bind fun t9_1 =>
cnd t9_1 (
(indexAddrV Try.prog 23 Ag Ai).bind fun t11_2 =>
(loadV Try.prog 5 t11_2 h).bind fun t12_3 =>
(binV Try.prog .eql 3 (.tmp 13) (.const (Go.Value.int Go.IntKind.i64 10)) Ai (Go.Value.int Go.IntKind.i64 10)).bind fun t14_4 =>
cnd t14_4 (
k (.exit 0) ⟨#[Aa,Ab,Ac,Ad,Ai, t12_3,Ag,Ah,Ai, t9_1,Ai, t11_2, t12_3,Ai, t14_4,Aq,Ar,As,At,Au,Av,Aw,Ax,Ay,Az,Ba,Bb,Bc,Bd,Be,Bf,Bg,Bh,Bi,Bj,Bk,Bl,Bm,Bn,Bo,Bp,Bq], h⟩) (
(binV Try.prog .and 5 (.tmp 16) (.const (Go.Value.int Go.IntKind.u8 127)) t12_3 (Go.Value.int Go.IntKind.u8 127)).bind fun t17_5 =>
obH (convV Try.prog 5 46 t17_5 h) fun t18_6 h7 =>
(binV Try.prog .mul 3 (.const (Go.Value.int Go.IntKind.i64 7)) (.tmp 19) (Go.Value.int Go.IntKind.i64 7) Ai).bind fun t20_8 =>
(binV Try.prog .shl 46 (.tmp 18) (.tmp 20) t18_6 t20_8).bind fun t21_9 =>
(binV Try.prog .or 46 (.tmp 15) (.tmp 21) Ac t21_9).bind fun t22_10 =>
(binV Try.prog .lss 5 (.tmp 23) (.const (Go.Value.int Go.IntKind.u8 128)) t12_3 (Go.Value.int Go.IntKind.u8 128)).bind fun t24_11 =>
cnd t24_11 (
obH (evC Try.prog 124 #[t22_10] h7) fun t26_12 h13 =>
(binV Try.prog .add 3 (.tmp 27) (.const (Go.Value.int Go.IntKind.i64 1)) Ai (Go.Value.int Go.IntKind.i64 1)).bind fun t28_14 =>
(binV Try.prog .neq 3 (.tmp 26) (.tmp 28) t26_12 t28_14).bind fun t29_15 =>
(gd (wt t29_15 false) (binV Try.prog .eql 3 (.tmp 31) (.const (Go.Value.int Go.IntKind.i64 9)) (gdV (wt t29_15 false) Ai) (Go.Value.int Go.IntKind.i64 9))).bind fun t32_16 =>
(gd (wt (gdV (wt t29_15 false) t32_16) true) (binV Try.prog .gtr 5 (.tmp 34) (.const (Go.Value.int Go.IntKind.u8 1)) (gdV (wt (gdV (wt t29_15 false) t32_16) true) t12_3) (Go.Value.int Go.IntKind.u8 1))).bind fun t35_17 =>
(gd (wt t29_15 false) (pickV (gdV (wt t29_15 false) t32_16) t35_17 (Go.Value.bool Bool.false))).bind fun t36_18 =>
(pickV t29_15 (Go.Value.bool Bool.true) t36_18).bind fun t37_19 =>
cnd t37_19 (
k (.exit 0) ⟨#[Aa,Ab, t22_10,Ad,Ai, t12_3,Ag,Ah,Ai, t9_1,Ai, t11_2, t12_3,Ai, t14_4,Ac, t12_3, t17_5, t18_6,Ai, t20_8, t21_9, t22_10, t12_3, t24_11, t22_10, t26_12,Ai, t28_14, t29_15, t29_15, (gdV (wt t29_15 false) Ai), t32_16, (gdV (wt t29_15 false) t32_16), (gdV (wt (gdV (wt t29_15 false) t32_16) true) t12_3), t35_17, t36_18, t37_19,Bn,Bo,Bp,Bq], h13⟩) (
(binV Try.prog .add 3 (.tmp 39) (.const (Go.Value.int Go.IntKind.i64 1)) Ai (Go.Value.int Go.IntKind.i64 1)).bind fun t40_20 =>
k .ret ⟨#[Aa,Ab, t22_10, t40_20,Ai, t12_3,Ag,Ah,Ai, t9_1,Ai, t11_2, t12_3,Ai, t14_4,Ac, t12_3, t17_5, t18_6,Ai, t20_8, t21_9, t22_10, t12_3, t24_11, t22_10, t26_12,Ai, t28_14, t29_15, t29_15, (gdV (wt t29_15 false) Ai), t32_16, (gdV (wt t29_15 false) t32_16), (gdV (wt (gdV (wt t29_15 false) t32_16) true) t12_3), t35_17, t36_18, t37_19, t22_10,Ai, t40_20,Bq], h13⟩)) (
(binV Try.prog .add 3 (.tmp 8) (.const (Go.Value.int Go.IntKind.i64 1)) Ai (Go.Value.int Go.IntKind.i64 1)).bind fun t41_21 =>
k .normal ⟨#[Aa,Ab, t22_10,Ad,Ai, t12_3,Ag,Ah, t41_21, t9_1,Ai, t11_2, t12_3,Ai, t14_4,Ac, t12_3, t17_5, t18_6,Ai, t20_8, t21_9, t22_10, t12_3, t24_11,Ba,Bb,Bc,Bd,Be,Bf,Bg,Bh,Bi,Bj,Bk,Bl,Bm,Bn,Bo,Bp, t41_21], h7⟩))) (
k (.exit 0) ⟨#[Aa,Ab,Ac,Ad,Ae,Af,Ag,Ah,Ai, t9_1,Ak,Al,An,Ao,Ap,Aq,Ar,As,At,Au,Av,Aw,Ax,Ay,Az,Ba,Bb,Bc,Bd,Be,Bf,Bg,Bh,Bi,Bj,Bk,Bl,Bm,Bn,Bo,Bp,Bq], h⟩) := by kernel_rfl
theorem c96_2_eq {β : Type} (h : Heap) (k : Ex → St → Option β) : codeK Try.prog (evC Try.prog) loopL c96_2 ⟨#[Aa,Ab,Ac,Ad,Ae,Af,Ag,Ah,Ai,Aj,Ak,Al,An,Ao,Ap,Aq,Ar,As,At,Au,Av,Aw,Ax,Ay,Az,Ba,Bb,Bc,Bd,Be,Bf,Bg,Bh,Bi,Bj,Bk,Bl,Bm,Bn,Bo,Bp,Bq], h⟩ k =
k .ret ⟨#[Aa,Ab, (Go.Value.int Go.IntKind.u64 0), (Go.Value.int Go.IntKind.i64 0),Ae,Af,Ag,Ah,Ai,Aj,Ak,Al,An,Ao,Ap,Aq,Ar,As,At,Au,Av,Aw,Ax,Ay,Az,Ba,Bb,Bc,Bd,Be,Bf,Bg,Bh,Bi,Bj,Bk,Bl,Bm,Bn,Bo,Bp,Bq], h⟩ := by kernel_rfl
theorem call96 (h : Heap) : evC Try.prog 96 #[Aa] h = codeK Try.prog (evC Try.prog) loopL c96_0 ⟨#[Aa, undef, undef, undef, undef, undef, undef, undef, undef, undef, undef, undef, undef, undef, undef, undef, undef, undef, undef, undef, undef, undef, undef, undef, undef, undef, undef, undef, undef, undef, undef, undef, undef, undef, undef, undef, undef, undef, undef, undef, undef, undef], nm h⟩ (retK Try.f96 Try.prog h) :=
  (evC_call 96 Try.f96 c96_0 Try.func96 (by kernel_rfl) #[Aa] h).trans (by kernel_rfl)
theorem ret96 (h0 h : Heap) : retK Try.f96 Try.prog h0 .ret ⟨#[Aa,Ab,Ac,Ad,Ae,Af,Ag,Ah,Ai,Aj,Ak,Al,An,Ao,Ap,Aq,Ar,As,At,Au,Av,Aw,Ax,Ay,Az,Ba,Bb,Bc,Bd,Be,Bf,Bg,Bh,Bi,Bj,Bk,Bl,Bm,Bn,Bo,Bp,Bq], h⟩ = fin h0 (some (.tuple #[Ac,Ad])) h := by kernel_rfl
end Go.Am
namespace Go.Am
open Go.Proofs
set_option maxRecDepth 100000
variable (Aa Ab Ac Ad Ae Af Ag Ah : Value)
noncomputable def c95_0 : Code := bodyC Try.f95 []
theorem c95_0_eq {β : Type} (h : Heap) (k : Ex → St → Option β) : codeK Try.prog (evC Try.prog) loopL c95_0 ⟨#[Aa,Ab,Ac,Ad,Ae,Af,Ag,Ah], h⟩ k =
(binV Try.prog .eql 23 (.tmp 3) (.const (Go.Value.slice Option.none 0 0)) Aa (Go.Value.slice Option.none 0 0)).bind fun t4_0 =>
cnd t4_0 (
k .ret ⟨#[Aa,Ab, (Go.Value.slice Option.none 0 0),Aa, t4_0,Af,Ag,Ah], h⟩) (
obH (buildSliceV Try.prog 23 0 #[] h) fun t5_1 h2 =>
obH (appendV Try.prog 23 (some 23) t5_1 Aa h2) fun t7_3 h4 =>
k .ret ⟨#[Aa,Ab, t7_3,Aa, t4_0, t5_1,Aa, t7_3], h4⟩) := by kernel_rfl
theorem call95 (h : Heap) : evC Try.prog 95 #[Aa] h = codeK Try.prog (evC Try.prog) loopL c95_0 ⟨#[Aa, undef, undef, undef, undef, undef, undef, undef], nm h⟩ (retK Try.f95 Try.prog h) :=
  (evC_call 95 Try.f95 c95_0 Try.func95 (by kernel_rfl) #[Aa] h).trans (by kernel_rfl)
theorem ret95 (h0 h : Heap) : retK Try.f95 Try.prog h0 .ret ⟨#[Aa,Ab,Ac,Ad,Ae,Af,Ag,Ah], h⟩ = fin h0 (some Ac) h := by kernel_rfl
end Go.Am
namespace Go.Am
open Go.Proofs
set_option maxRecDepth 100000
variable (Aa Ab Ac Ad Ae Af Ag Ah Ai Aj Ak Al An Ao Ap Aq Ar : Value)
noncomputable def c105_0 : Code := bodyC Try.f105 []
theorem c105_0_eq {β : Type} (h : Heap) (k : Ex → St → Option β) : codeK Try.prog (evC Try.prog) loopL c105_0 ⟨#[Aa,Ab,Ac,Ad,Ae,Af,Ag,Ah,Ai,Aj,Ak,Al,An,Ao,Ap,Aq,Ar], h⟩ k =
obH (callV Try.prog (evC Try.prog) (.func (.func 109) #[] #[]) #[Aa] h) fun t5_0 h1 =>
obH (evC Try.prog 125 #[Aa] h1) fun t8_2 h3 =>
cnd t8_2 (
k .ret ⟨#[Aa,Ab, (Go.Value.int Go.IntKind.u64 18446744073709551615), t5_0,Aa, t5_0, t8_2,Aa, t8_2,Aj,Ak,Al,An,Ao,Ap,Aq,Ar], h3⟩) (
(binV Try.prog .and 46 (.tmp 10) (.const (Go.Value.int Go.IntKind.u64 9223372036854775808)) t5_0 (Go.Value.int Go.IntKind.u64 9223372036854775808)).bind fun t11_4 =>
(binV Try.prog .eql 46 (.tmp 11) (.const (Go.Value.int Go.IntKind.u64 0)) t11_4 (Go.Value.int Go.IntKind.u64 0)).bind fun t12_5 =>
cnd t12_5 (
(binV Try.prog .or 46 (.tmp 13) (.const (Go.Value.int Go.IntKind.u64 9223372036854775808)) t5_0 (Go.Value.int Go.IntKind.u64 9223372036854775808)).bind fun t14_6 =>
k .ret ⟨#[Aa,Ab, t14_6, t5_0,Aa, t5_0, t8_2,Aa, t8_2, t12_5, t5_0, t11_4, t12_5, t5_0, t14_6,Aq,Ar], h3⟩) (
(unV Try.prog .xor t5_0).bind fun t16_7 =>
k .ret ⟨#[Aa,Ab, t16_7, t5_0,Aa, t5_0, t8_2,Aa, t8_2, t12_5, t5_0, t11_4, t12_5,Ao,Ap, t5_0, t16_7], h3⟩)) := by kernel_rfl
theorem call105 (h : Heap) : evC Try.prog 105 #[Aa] h = codeK Try.prog (evC Try.prog) loopL c105_0 ⟨#[Aa, undef, undef, undef, undef, undef, undef, undef, undef, undef, undef, undef, undef, undef, undef, undef, undef], nm h⟩ (retK Try.f105 Try.prog h) :=
  (evC_call 105 Try.f105 c105_0 Try.func105 (by kernel_rfl) #[Aa] h).trans (by kernel_rfl)
theorem ret105 (h0 h : Heap) : retK Try.f105 Try.prog h0 .ret ⟨#[Aa,Ab,Ac,Ad,Ae,Af,Ag,Ah,Ai,Aj,Ak,Al,An,Ao,Ap,Aq,Ar], h⟩ = fin h0 (some Ac) h := by kernel_rfl
end Go.Am
namespace Go.Am
open Go.Proofs
set_option maxRecDepth 100000
variable (Aa Ab Ac Ad Ae Af Ag Ah Ai Aj Ak Al An Ao Ap Aq Ar As At Au Av : Value)
noncomputable def c103_0 : Code := bodyC Try.f103 []
theorem c103_0_eq {β : Type} (h : Heap) (k : Ex → St → Option β) : codeK Try.prog (evC Try.prog) loopL c103_0 ⟨#[Aa,Ab,Ac,Ad,Ae,Af,Ag,Ah,Ai,Aj,Ak,Al,An,Ao,Ap,Aq,Ar,As,At,Au,Av], h⟩ k =
(binV Try.prog .eql 46 (.tmp 6) (.const (Go.Value.int Go.IntKind.u64 18446744073709551615)) Aa (Go.Value.int Go.IntKind.u64 18446744073709551615)).bind fun t7_0 =>
cnd t7_0 (
obH (evC Try.prog 76 #[] h) fun t8_1 h2 =>
k .ret ⟨#[Aa,Ab, t8_1, (Go.Value.bool Bool.true),Ae,Af,Aa, t7_0, t8_1,Aj,Ak,Al,An,Ao,Ap,Aq,Ar,As,At,Au,Av], h2⟩) (
(unV Try.prog .xor Aa).bind fun t10_3 =>
(binV Try.prog .and 46 (.tmp 11) (.const (Go.Value.int Go.IntKind.u64 9223372036854775808)) Aa (Go.Value.int Go.IntKind.u64 9223372036854775808)).bind fun t12_4 =>
(binV Try.prog .neq 46 (.tmp 12) (.const (Go.Value.int Go.IntKind.u64 0)) t12_4 (Go.Value.int Go.IntKind.u64 0)).bind fun t13_5 =>
cnd t13_5 (
(binV Try.prog .andNot 46 (.tmp 14) (.const (Go.Value.int Go.IntKind.u64 9223372036854775808)) Aa (Go.Value.int Go.IntKind.u64 9223372036854775808)).bind fun t15_6 =>
obH (callV Try.prog (evC Try.prog) (.func (.func 108) #[] #[]) #[t15_6] h) fun t17_7 h8 =>
obH (evC Try.prog 125 #[t17_7] h8) fun t19_9 h10 =>
cnd t19_9 (
k .ret ⟨#[Aa,Ab, (Go.Value.float Go.FloatKind.f64 0), (Go.Value.bool Bool.false), t15_6, t17_7,Aa, t7_0,Ai,Aa, t10_3,Aa, t12_4, t13_5,Aa, t15_6, t15_6, t17_7, t17_7, t19_9,Av], h10⟩) (
k .ret ⟨#[Aa,Ab, t17_7, (Go.Value.bool Bool.true), t15_6, t17_7,Aa, t7_0,Ai,Aa, t10_3,Aa, t12_4, t13_5,Aa, t15_6, t15_6, t17_7, t17_7, t19_9, t17_7], h10⟩)) (
obH (callV Try.prog (evC Try.prog) (.func (.func 108) #[] #[]) #[t10_3] h) fun t17_11 h12 =>
obH (evC Try.prog 125 #[t17_11] h12) fun t19_13 h14 =>
cnd t19_13 (
k .ret ⟨#[Aa,Ab, (Go.Value.float Go.FloatKind.f64 0), (Go.Value.bool Bool.false), t10_3, t17_11,Aa, t7_0,Ai,Aa, t10_3,Aa, t12_4, t13_5,Ap,Aq, t10_3, t17_11, t17_11, t19_13,Av], h14⟩) (
k .ret ⟨#[Aa,Ab, t17_11, (Go.Value.bool Bool.true), t10_3, t17_11,Aa, t7_0,Ai,Aa, t10_3,Aa, t12_4, t13_5,Ap,Aq, t10_3, t17_11, t17_11, t19_13, t17_11], h14⟩))) := by kernel_rfl
theorem call103 (h : Heap) : evC Try.prog 103 #[Aa] h = codeK Try.prog (evC Try.prog) loopL c103_0 ⟨#[Aa, undef, undef, undef, undef, undef, undef, undef, undef, undef, undef, undef, undef, undef, undef, undef, undef, undef, undef, undef, undef], nm h⟩ (retK Try.f103 Try.prog h) :=
  (evC_call 103 Try.f103 c103_0 Try.func103 (by kernel_rfl) #[Aa] h).trans (by kernel_rfl)
theorem ret103 (h0 h : Heap) : retK Try.f103 Try.prog h0 .ret ⟨#[Aa,Ab,Ac,Ad,Ae,Af,Ag,Ah,Ai,Aj,Ak,Al,An,Ao,Ap,Aq,Ar,As,At,Au,Av], h⟩ = fin h0 (some (.tuple #[Ac,Ad])) h := by kernel_rfl
end Go.Am
namespace Go.Am
open Go.Proofs
set_option maxRecDepth 100000
variable (Aa Ab Ac Ad Ae Af Ag Ah Ai Aj Ak Al An Ao Ap Aq Ar As At Au Av Aw Ax Ay Az Ba Bb Bc Bd Be Bf Bg Bh Bi Bj : Value)
noncomputable def c64_0 : Code := bodyC Try.f64 []
theorem c64_0_eq {β : Type} (h : Heap) (k : Ex → St → Option β) : codeK Try.prog (evC Try.prog) loopL c64_0 ⟨#[Aa,Ab,Ac,Ad,Ae,Af,Ag,Ah,Ai,Aj,Ak,Al,An,Ao,Ap,Aq,Ar,As,At,Au,Av,Aw,Ax,Ay,Az,Ba,Bb,Bc,Bd,Be,Bf,Bg,Bh,Bi,Bj], h⟩ k =
obH (callV Try.prog (evC Try.prog) (.func (.func 109) #[] #[]) #[Aa] h) fun t6_0 h1 =>
(binV Try.prog .shr 46 (.tmp 7) (.const (Go.Value.int Go.IntKind.u64 63)) t6_0 (Go.Value.int Go.IntKind.u64 63)).bind fun t8_2 =>
(binV Try.prog .eql 46 (.tmp 8) (.const (Go.Value.int Go.IntKind.u64 1)) t8_2 (Go.Value.int Go.IntKind.u64 1)).bind fun t9_3 =>
(binV Try.prog .and 46 (.tmp 10) (.const (Go.Value.int Go.IntKind.u64 9223372036854775807)) t6_0 (Go.Value.int Go.IntKind.u64 9223372036854775807)).bind fun t11_4 =>
(binV Try.prog .gtr 46 (.tmp 13) (.const (Go.Value.int Go.IntKind.u64 9218868437227405312)) t11_4 (Go.Value.int Go.IntKind.u64 9218868437227405312)).bind fun t14_5 =>
cnd t14_5 (
k .ret ⟨#[Aa,Ab, (Go.Value.int Go.IntKind.i64 0), t11_4, t9_3,Aa, t6_0, t6_0, t8_2, t9_3, t6_0, t11_4, t14_5, t11_4, t14_5,Aq,Ar,As,At,Au,Av,Aw,Ax,Ay,Az,Ba,Bb,Bc,Bd,Be,Bf,Bg,Bh,Bi,Bj], h1⟩) (
(binV Try.prog .eql 46 (.tmp 16) (.const (Go.Value.int Go.IntKind.u64 9218868437227405312)) t11_4 (Go.Value.int Go.IntKind.u64 9218868437227405312)).bind fun t17_6 =>
(pickV t17_6 (gdV (wt t17_6 true) t9_3) (Go.Value.bool Bool.false)).bind fun t20_7 =>
cnd t20_7 (
k .ret ⟨#[Aa,Ab, (Go.Value.int Go.IntKind.i64 1), t11_4, t9_3,Aa, t6_0, t6_0, t8_2, t9_3, t6_0, t11_4, t14_5, t11_4, t14_5, t20_7, t11_4, t17_6, t17_6, (gdV (wt t17_6 true) t9_3), t20_7,Aw,Ax,Ay,Az,Ba,Bb,Bc,Bd,Be,Bf,Bg,Bh,Bi,Bj], h1⟩) (
(binV Try.prog .eql 46 (.tmp 22) (.const (Go.Value.int Go.IntKind.u64 9218868437227405312)) t11_4 (Go.Value.int Go.IntKind.u64 9218868437227405312)).bind fun t23_8 =>
cnd t23_8 (
k .ret ⟨#[Aa,Ab, (Go.Value.int Go.IntKind.i64 6), t11_4, t9_3,Aa, t6_0, t6_0, t8_2, t9_3, t6_0, t11_4, t14_5, t11_4, t14_5, t20_7, t11_4, t17_6, t17_6, (gdV (wt t17_6 true) t9_3), t20_7, t23_8, t11_4, t23_8,Az,Ba,Bb,Bc,Bd,Be,Bf,Bg,Bh,Bi,Bj], h1⟩) (
(binV Try.prog .eql 46 (.tmp 25) (.const (Go.Value.int Go.IntKind.u64 0)) t11_4 (Go.Value.int Go.IntKind.u64 0)).bind fun t26_9 =>
(pickV t26_9 (gdV (wt t26_9 true) t9_3) (Go.Value.bool Bool.false)).bind fun t29_10 =>
cnd t29_10 (
k .ret ⟨#[Aa,Ab, (Go.Value.int Go.IntKind.i64 3), t11_4, t9_3,Aa, t6_0, t6_0, t8_2, t9_3, t6_0, t11_4, t14_5, t11_4, t14_5, t20_7, t11_4, t17_6, t17_6, (gdV (wt t17_6 true) t9_3), t20_7, t23_8, t11_4, t23_8, t29_10, t11_4, t26_9, t26_9, (gdV (wt t26_9 true) t9_3), t29_10,Bf,Bg,Bh,Bi,Bj], h1⟩) (
(binV Try.prog .eql 46 (.tmp 31) (.const (Go.Value.int Go.IntKind.u64 0)) t11_4 (Go.Value.int Go.IntKind.u64 0)).bind fun t32_11 =>
cnd t32_11 (
k .ret ⟨#[Aa,Ab, (Go.Value.int Go.IntKind.i64 4), t11_4, t9_3,Aa, t6_0, t6_0, t8_2, t9_3, t6_0, t11_4, t14_5, t11_4, t14_5, t20_7, t11_4, t17_6, t17_6, (gdV (wt t17_6 true) t9_3), t20_7, t23_8, t11_4, t23_8, t29_10, t11_4, t26_9, t26_9, (gdV (wt t26_9 true) t9_3), t29_10, t32_11, t11_4, t32_11,Bi,Bj], h1⟩) (
cnd t9_3 (
k .ret ⟨#[Aa,Ab, (Go.Value.int Go.IntKind.i64 2), t11_4, t9_3,Aa, t6_0, t6_0, t8_2, t9_3, t6_0, t11_4, t14_5, t11_4, t14_5, t20_7, t11_4, t17_6, t17_6, (gdV (wt t17_6 true) t9_3), t20_7, t23_8, t11_4, t23_8, t29_10, t11_4, t26_9, t26_9, (gdV (wt t26_9 true) t9_3), t29_10, t32_11, t11_4, t32_11, t9_3, t9_3], h1⟩) (
k .ret ⟨#[Aa,Ab, (Go.Value.int Go.IntKind.i64 5), t11_4, t9_3,Aa, t6_0, t6_0, t8_2, t9_3, t6_0, t11_4, t14_5, t11_4, t14_5, t20_7, t11_4, t17_6, t17_6, (gdV (wt t17_6 true) t9_3), t20_7, t23_8, t11_4, t23_8, t29_10, t11_4, t26_9, t26_9, (gdV (wt t26_9 true) t9_3), t29_10, t32_11, t11_4, t32_11, t9_3, t9_3], h1⟩)))))) := by kernel_rfl
theorem call64 (h : Heap) : evC Try.prog 64 #[Aa] h = codeK Try.prog (evC Try.prog) loopL c64_0 ⟨#[Aa, undef, undef, undef, undef, undef, undef, undef, undef, undef, undef, undef, undef, undef, undef, undef, undef, undef, undef, undef, undef, undef, undef, undef, undef, undef, undef, undef, undef, undef, undef, undef, undef, undef, undef], nm h⟩ (retK Try.f64 Try.prog h) :=
  (evC_call 64 Try.f64 c64_0 Try.func64 (by kernel_rfl) #[Aa] h).trans (by kernel_rfl)
theorem ret64 (h0 h : Heap) : retK Try.f64 Try.prog h0 .ret ⟨#[Aa,Ab,Ac,Ad,Ae,Af,Ag,Ah,Ai,Aj,Ak,Al,An,Ao,Ap,Aq,Ar,As,At,Au,Av,Aw,Ax,Ay,Az,Ba,Bb,Bc,Bd,Be,Bf,Bg,Bh,Bi,Bj], h⟩ = fin h0 (some Ac) h := by kernel_rfl
end Go.Am
namespace Go.Am
open Go.Proofs
set_option maxRecDepth 100000
variable (Aa Ab Ac Ad Ae Af Ag Ah Ai Aj Ak Al An Ao Ap Aq : Value)
noncomputable def c107_0 : Code := bodyC Try.f107 []
theorem c107_0_eq {β : Type} (h : Heap) (k : Ex → St → Option β) : codeK Try.prog (evC Try.prog) loopL c107_0 ⟨#[Aa,Ab,Ac,Ad,Ae,Af,Ag,Ah,Ai,Aj,Ak,Al,An,Ao,Ap,Aq], h⟩ k =
obH (evC Try.prog 64 #[Aa] h) fun t5_0 h1 =>
(binV Try.prog .eql 3 (.tmp 5) (.const (Go.Value.int Go.IntKind.i64 0)) t5_0 (Go.Value.int Go.IntKind.i64 0)).bind fun t6_2 =>
cnd t6_2 (
k .ret ⟨#[Aa,Ab, (Go.Value.int Go.IntKind.u64 18446744073709551615),Ad,Aa, t5_0, t6_2,Ah,Ai,Aj,Ak,Al,An,Ao,Ap,Aq], h1⟩) (
obH (callV Try.prog (evC Try.prog) (.func (.func 109) #[] #[]) #[Aa] h1) fun t8_3 h4 =>
(binV Try.prog .shr 46 (.tmp 9) (.const (Go.Value.int Go.IntKind.u64 63)) t8_3 (Go.Value.int Go.IntKind.u64 63)).bind fun t10_5 =>
(binV Try.prog .eql 46 (.tmp 10) (.const (Go.Value.int Go.IntKind.u64 0)) t10_5 (Go.Value.int Go.IntKind.u64 0)).bind fun t11_6 =>
cnd t11_6 (
(binV Try.prog .or 46 (.tmp 12) (.const (Go.Value.int Go.IntKind.u64 9223372036854775808)) t8_3 (Go.Value.int Go.IntKind.u64 9223372036854775808)).bind fun t13_7 =>
k .ret ⟨#[Aa,Ab, t13_7, t8_3,Aa, t5_0, t6_2,Aa, t8_3, t8_3, t10_5, t11_6, t8_3, t13_7,Ap,Aq], h4⟩) (
(unV Try.prog .xor t8_3).bind fun t15_8 =>
k .ret ⟨#[Aa,Ab, t15_8, t8_3,Aa, t5_0, t6_2,Aa, t8_3, t8_3, t10_5, t11_6,An,Ao, t8_3, t15_8], h4⟩)) := by kernel_rfl
theorem call107 (h : Heap) : evC Try.prog 107 #[Aa] h = codeK Try.prog (evC Try.prog) loopL c107_0 ⟨#[Aa, undef, undef, undef, undef, undef, undef, undef, undef, undef, undef, undef, undef, undef, undef, undef], nm h⟩ (retK Try.f107 Try.prog h) :=
  (evC_call 107 Try.f107 c107_0 Try.func107 (by kernel_rfl) #[Aa] h).trans (by kernel_rfl)
theorem ret107 (h0 h : Heap) : retK Try.f107 Try.prog h0 .ret ⟨#[Aa,Ab,Ac,Ad,Ae,Af,Ag,Ah,Ai,Aj,Ak,Al,An,Ao,Ap,Aq], h⟩ = fin h0 (some Ac) h := by kernel_rfl
end Go.Am
namespace Go.Am
open Go.Proofs
set_option maxRecDepth 100000
variable (Aa Ab Ac Ad Ae Af Ag Ah Ai Aj Ak Al An Ao Ap Aq Ar As At Au Av Aw : Value)
end Go.Am
namespace Go.Am
open Go.Proofs
set_option maxRecDepth 100000
variable (Aa Ab Ac Ad Ae Af Ag Ah Ai : Value)
noncomputable def c51_0 : Code := bodyC Try.f51 []
theorem c51_0_eq {β : Type} (h : Heap) (k : Ex → St → Option β) : codeK Try.prog (evC Try.prog) loopL c51_0 ⟨#[Aa,Ab,Ac,Ad,Ae,Af,Ag,Ah,Ai], h⟩ k =
obH (evC Try.prog 101 #[Aa,Ab] h) fun t7_0 h1 =>
(binV Try.prog .eql 3 (.tmp 7) (.const (Go.Value.int Go.IntKind.i64 0)) t7_0 (Go.Value.int Go.IntKind.i64 0)).bind fun t8_2 =>
k .ret ⟨#[Aa,Ab,Ac,Ad, t8_2,Aa,Ab, t7_0, t8_2], h1⟩ := by kernel_rfl
theorem call51 (h : Heap) : evC Try.prog 51 #[Aa,Ab] h = codeK Try.prog (evC Try.prog) loopL c51_0 ⟨#[Aa,Ab, undef, undef, undef, undef, undef, undef, undef], nm h⟩ (retK Try.f51 Try.prog h) :=
  (evC_call 51 Try.f51 c51_0 Try.func51 (by kernel_rfl) #[Aa,Ab] h).trans (by kernel_rfl)
theorem ret51 (h0 h : Heap) : retK Try.f51 Try.prog h0 .ret ⟨#[Aa,Ab,Ac,Ad,Ae,Af,Ag,Ah,Ai], h⟩ = fin h0 (some Ae) h := by kernel_rfl
end Go.Am
namespace Go.Am
open Go.Proofs
set_option maxRecDepth 100000
variable (Aa Ab Ac Ad Ae Af Ag Ah Ai Aj Ak Al An Ao Ap Aq Ar As At : Value)
noncomputable def c101_0 : Code := bodyC Try.f101 []
theorem c101_0_eq {β : Type} (h : Heap) (k : Ex → St → Option β) : codeK Try.prog (evC Try.prog) loopL c101_0 ⟨#[Aa,Ab,Ac,Ad,Ae,Af,Ag,Ah,Ai,Aj,Ak,Al,An,Ao,Ap,Aq,Ar,As,At], h⟩ k =
obH (evC Try.prog 107 #[Aa] h) fun t8_0 h1 =>
obH (evC Try.prog 107 #[Ab] h1) fun t10_2 h3 =>
(binV Try.prog .lss 46 (.tmp 12) (.tmp 13) t8_0 t10_2).bind fun t14_4 =>
cnd t14_4 (
k .ret ⟨#[Aa,Ab,Ac,Ad, (Go.Value.int Go.IntKind.i64 (-1)), t8_0, t10_2,Aa, t8_0,Ab, t10_2, t14_4, t8_0, t10_2, t14_4,Aq,Ar,As,At], h3⟩) (
(binV Try.prog .gtr 46 (.tmp 16) (.tmp 17) t8_0 t10_2).bind fun t18_5 =>
cnd t18_5 (
k .ret ⟨#[Aa,Ab,Ac,Ad, (Go.Value.int Go.IntKind.i64 1), t8_0, t10_2,Aa, t8_0,Ab, t10_2, t14_4, t8_0, t10_2, t14_4, t18_5, t8_0, t10_2, t18_5], h3⟩) (
k .ret ⟨#[Aa,Ab,Ac,Ad, (Go.Value.int Go.IntKind.i64 0), t8_0, t10_2,Aa, t8_0,Ab, t10_2, t14_4, t8_0, t10_2, t14_4, t18_5, t8_0, t10_2, t18_5], h3⟩)) := by kernel_rfl
theorem call101 (h : Heap) : evC Try.prog 101 #[Aa,Ab] h = codeK Try.prog (evC Try.prog) loopL c101_0 ⟨#[Aa,Ab, undef, undef, undef, undef, undef, undef, undef, undef, undef, undef, undef, undef, undef, undef, undef, undef, undef], nm h⟩ (retK Try.f101 Try.prog h) :=
  (evC_call 101 Try.f101 c101_0 Try.func101 (by kernel_rfl) #[Aa,Ab] h).trans (by kernel_rfl)
theorem ret101 (h0 h : Heap) : retK Try.f101 Try.prog h0 .ret ⟨#[Aa,Ab,Ac,Ad,Ae,Af,Ag,Ah,Ai,Aj,Ak,Al,An,Ao,Ap,Aq,Ar,As,At], h⟩ = fin h0 (some Ae) h := by kernel_rfl
end Go.Am
namespace Go.Am
open Go.Proofs
set_option maxRecDepth 100000
variable (Aa Ab Ac Ad Ae Af : Value)
noncomputable def c125_0 : Code := bodyC Try.f125 []
theorem c125_0_eq {β : Type} (h : Heap) (k : Ex → St → Option β) : codeK Try.prog (evC Try.prog) loopL c125_0 ⟨#[Aa,Ab,Ac,Ad,Ae,Af], h⟩ k =
(binV Try.prog .neq 84 (.tmp 3) (.tmp 4) Aa Aa).bind fun t5_0 =>
k .ret ⟨#[Aa,Ab, t5_0,Aa,Aa, t5_0], h⟩ := by kernel_rfl
theorem call125 (h : Heap) : evC Try.prog 125 #[Aa] h = codeK Try.prog (evC Try.prog) loopL c125_0 ⟨#[Aa, undef, undef, undef, undef, undef], nm h⟩ (retK Try.f125 Try.prog h) :=
  (evC_call 125 Try.f125 c125_0 Try.func125 (by kernel_rfl) #[Aa] h).trans (by kernel_rfl)
theorem ret125 (h0 h : Heap) : retK Try.f125 Try.prog h0 .ret ⟨#[Aa,Ab,Ac,Ad,Ae,Af], h⟩ = fin h0 (some Ac) h := by kernel_rfl
end Go.Am
namespace Go.Am
open Go.Proofs
set_option maxRecDepth 100000
variable (Aa Ab : Value)
noncomputable def c76_0 : Code := bodyC Try.f76 []
theorem c76_0_eq {β : Type} (h : Heap) (k : Ex → St → Option β) : codeK Try.prog (evC Try.prog) loopL c76_0 ⟨#[Aa,Ab], h⟩ k =
obH (callV Try.prog (evC Try.prog) (.func (.func 108) #[] #[]) #[(Go.Value.int Go.IntKind.u64 9221120237041090561)] h) fun t1_0 h1 =>
k .ret ⟨#[t1_0, t1_0], h1⟩ := by kernel_rfl
theorem call76 (h : Heap) : evC Try.prog 76 #[] h = codeK Try.prog (evC Try.prog) loopL c76_0 ⟨#[undef, undef], nm h⟩ (retK Try.f76 Try.prog h) :=
  (evC_call 76 Try.f76 c76_0 Try.func76 (by kernel_rfl) #[] h).trans (by kernel_rfl)
theorem ret76 (h0 h : Heap) : retK Try.f76 Try.prog h0 .ret ⟨#[Aa,Ab], h⟩ = fin h0 (some Aa) h := by kernel_rfl
end Go.Am
namespace Go.Am
open Go.Proofs
set_option maxRecDepth 100000
variable (Aa Ab Ac : Value)
noncomputable def c42_0 : Code := bodyC Try.f42 []
theorem c42_0_eq {β : Type} (h : Heap) (k : Ex → St → Option β) : codeK Try.prog (evC Try.prog) loopL c42_0 ⟨#[Aa,Ab,Ac], h⟩ k =
(buildV Try.prog 146 #[]).bind fun t1_0 =>
obH (boxV Try.prog 146 t1_0 h) fun t2_1 h2 =>
k .ret ⟨#[t2_1, t1_0, t2_1], h2⟩ := by kernel_rfl
theorem call42 (h : Heap) : evC Try.prog 42 #[] h = codeK Try.prog (evC Try.prog) loopL c42_0 ⟨#[undef, undef, undef], nm h⟩ (retK Try.f42 Try.prog h) :=
  (evC_call 42 Try.f42 c42_0 Try.func42 (by kernel_rfl) #[] h).trans (by kernel_rfl)
theorem ret42 (h0 h : Heap) : retK Try.f42 Try.prog h0 .ret ⟨#[Aa,Ab,Ac], h⟩ = fin h0 (some Aa) h := by kernel_rfl
end Go.Am
namespace Go.Am
open Go.Proofs
set_option maxRecDepth 100000
variable (Aa Ab Ac Ad Ae Af Ag Ah Ai Aj Ak Al An : Value)
noncomputable def c43_0 : Code := bodyC Try.f43 []
theorem c43_0_eq {β : Type} (h : Heap) (k : Ex → St → Option β) : codeK Try.prog (evC Try.prog) loopL c43_0 ⟨#[Aa,Ab,Ac,Ad,Ae,Af,Ag,Ah,Ai,Aj,Ak,Al,An], h⟩ k =
(nilCheckV Try.prog Aa).bind fun t6_0 =>
(fieldAddrV Try.prog 146 t6_0 0).bind fun t7_1 =>
(loadV Try.prog 23 t7_1 h).bind fun t8_2 =>
obH (evC Try.prog 94 #[t8_2,Ab] h) fun t10_3 h4 =>
(nilCheckV Try.prog Aa).bind fun t11_5 =>
(fieldAddrV Try.prog 146 t11_5 0).bind fun t12_6 =>
(storeV Try.prog 23 t12_6 t10_3 h4).bind fun h7 =>
k .normal ⟨#[Aa,Ab,Ac,Ad,Aa,Aa, t6_0, t7_1, t8_2,Ab, t10_3, t11_5, t12_6], h7⟩ := by kernel_rfl
theorem call43 (h : Heap) : evC Try.prog 43 #[Aa,Ab] h = codeK Try.prog (evC Try.prog) loopL c43_0 ⟨#[Aa,Ab, undef, undef, undef, undef, undef, undef, undef, undef, undef, undef, undef], nm h⟩ (retK Try.f43 Try.prog h) :=
  (evC_call 43 Try.f43 c43_0 Try.func43 (by kernel_rfl) #[Aa,Ab] h).trans (by kernel_rfl)
theorem retn43 (h0 h : Heap) : retK Try.f43 Try.prog h0 .normal ⟨#[Aa,Ab,Ac,Ad,Ae,Af,Ag,Ah,Ai,Aj,Ak,Al,An], h⟩ = fin h0 (some (.tuple #[])) h := by kernel_rfl
end Go.Am
namespace Go.Am
open Go.Proofs
set_option maxRecDepth 100000
variable (Aa Ab Ac Ad Ae Af Ag Ah Ai Aj Ak Al An Ao Ap Aq Ar As : Value)
noncomputable def c61_0 : Code := bodyC Try.f61 []
theorem c61_0_eq {β : Type} (h : Heap) (k : Ex → St → Option β) : codeK Try.prog (evC Try.prog) loopL c61_0 ⟨#[Aa,Ab,Ac,Ad,Ae,Af,Ag,Ah,Ai,Aj,Ak,Al,An,Ao,Ap,Aq,Ar,As], h⟩ k =
(lenV Try.prog 23 Ab h).bind fun t6_0 =>
obH (convV Try.prog 3 46 t6_0 h) fun t7_1 h2 =>
obH (evC Try.prog 43 #[Aa, t7_1] h2) fun t8_3 h4 =>
(nilCheckV Try.prog Aa).bind fun t11_5 =>
(fieldAddrV Try.prog 146 t11_5 0).bind fun t12_6 =>
(loadV Try.prog 23 t12_6 h4).bind fun t13_7 =>
obH (appendV Try.prog 23 (some 23) t13_7 Ab h4) fun t15_8 h9 =>
(nilCheckV Try.prog Aa).bind fun t16_10 =>
(fieldAddrV Try.prog 146 t16_10 0).bind fun t17_11 =>
(storeV Try.prog 23 t17_11 t15_8 h9).bind fun h12 =>
k .normal ⟨#[Aa,Ab,Ac,Ad,Aa,Ab, t6_0, t7_1, t8_3,Aa,Aa, t11_5, t12_6, t13_7,Ab, t15_8, t16_10, t17_11], h12⟩ := by kernel_rfl
theorem call61 (h : Heap) : evC Try.prog 61 #[Aa,Ab] h = codeK Try.prog (evC Try.prog) loopL c61_0 ⟨#[Aa,Ab, undef, undef, undef, undef, undef, undef, undef, undef, undef, undef, undef, undef, undef, undef, undef, undef], nm h⟩ (retK Try.f61 Try.prog h) :=
  (evC_call 61 Try.f61 c61_0 Try.func61 (by kernel_rfl) #[Aa,Ab] h).trans (by kernel_rfl)
theorem retn61 (h0 h : Heap) : retK Try.f61 Try.prog h0 .normal ⟨#[Aa,Ab,Ac,Ad,Ae,Af,Ag,Ah,Ai,Aj,Ak,Al,An,Ao,Ap,Aq,Ar,As], h⟩ = fin h0 (some (.tuple #[])) h := by kernel_rfl
end Go.Am
namespace Go.Am
open Go.Proofs
set_option maxRecDepth 100000
variable (Aa Ab Ac Ad Ae Af Ag Ah : Value)
noncomputable def c44_0 : Code := bodyC Try.f44 []
theorem c44_0_eq {β : Type} (h : Heap) (k : Ex → St → Option β) : codeK Try.prog (evC Try.prog) loopL c44_0 ⟨#[Aa,Ab,Ac,Ad,Ae,Af,Ag,Ah], h⟩ k =
(nilCheckV Try.prog Aa).bind fun t4_0 =>
(fieldAddrV Try.prog 146 t4_0 0).bind fun t5_1 =>
(loadV Try.prog 23 t5_1 h).bind fun t6_2 =>
obH (evC Try.prog 95 #[t6_2] h) fun t7_3 h4 =>
k .ret ⟨#[Aa,Ab, t7_3,Aa, t4_0, t5_1, t6_2, t7_3], h4⟩ := by kernel_rfl
theorem call44 (h : Heap) : evC Try.prog 44 #[Aa] h = codeK Try.prog (evC Try.prog) loopL c44_0 ⟨#[Aa, undef, undef, undef, undef, undef, undef, undef], nm h⟩ (retK Try.f44 Try.prog h) :=
  (evC_call 44 Try.f44 c44_0 Try.func44 (by kernel_rfl) #[Aa] h).trans (by kernel_rfl)
theorem ret44 (h0 h : Heap) : retK Try.f44 Try.prog h0 .ret ⟨#[Aa,Ab,Ac,Ad,Ae,Af,Ag,Ah], h⟩ = fin h0 (some Ac) h := by kernel_rfl
end Go.Am
namespace Go.Am
open Go.Proofs
set_option maxRecDepth 100000
variable (Aa Ab Ac Ad Ae Af Ag : Value)
noncomputable def c45_0 : Code := bodyC Try.f45 []
theorem c45_0_eq {β : Type} (h : Heap) (k : Ex → St → Option β) : codeK Try.prog (evC Try.prog) loopL c45_0 ⟨#[Aa,Ab,Ac,Ad,Ae,Af,Ag], h⟩ k =
obH (evC Try.prog 95 #[Aa] h) fun t4_0 h1 =>
(buildV Try.prog 150 #[(0, t4_0)]).bind fun t5_2 =>
obH (boxV Try.prog 150 t5_2 h1) fun t6_3 h4 =>
k .ret ⟨#[Aa,Ab, t6_3,Aa, t4_0, t5_2, t6_3], h4⟩ := by kernel_rfl
theorem call45 (h : Heap) : evC Try.prog 45 #[Aa] h = codeK Try.prog (evC Try.prog) loopL c45_0 ⟨#[Aa, undef, undef, undef, undef, undef, undef], nm h⟩ (retK Try.f45 Try.prog h) :=
  (evC_call 45 Try.f45 c45_0 Try.func45 (by kernel_rfl) #[Aa] h).trans (by kernel_rfl)
theorem ret45 (h0 h : Heap) : retK Try.f45 Try.prog h0 .ret ⟨#[Aa,Ab,Ac,Ad,Ae,Af,Ag], h⟩ = fin h0 (some Ac) h := by kernel_rfl
end Go.Am
namespace Go.Am
open Go.Proofs
set_option maxRecDepth 100000
variable (Aa Ab Ac Ad Ae Af Ag Ah Ai Aj Ak Al An Ao Ap Aq Ar As At Au Av Aw Ax Ay Az Ba Bb Bc Bd Be Bf Bg Bh Bi : Value)
noncomputable def c46_0 : Code := bodyC Try.f46 []
theorem c46_0_eq {β : Type} (h : Heap) (k : Ex → St → Option β) : codeK Try.prog (evC Try.prog) loopL c46_0 ⟨#[Aa,Ab,Ac,Ad,Ae,Af,Ag,Ah,Ai,Aj,Ak,Al,An,Ao,Ap,Aq,Ar,As,At,Au,Av,Aw,Ax,Ay,Az,Ba,Bb,Bc,Bd,Be,Bf,Bg,Bh,Bi], h⟩ k =
(nilCheckV Try.prog Aa).bind fun t9_0 =>
(fieldAddrV Try.prog 150 t9_0 0).bind fun t10_1 =>
(loadV Try.prog 23 t10_1 h).bind fun t11_2 =>
obH (evC Try.prog 96 #[t11_2] h) fun t12_3 h4 =>
(extractV t12_3 0).bind fun t13_5 =>
(extractV t12_3 1).bind fun t14_6 =>
(binV Try.prog .eql 3 (.tmp 16) (.const (Go.Value.int Go.IntKind.i64 0)) t14_6 (Go.Value.int Go.IntKind.i64 0)).bind fun t17_7 =>
(gd (wt t17_7 false) (binV Try.prog .gtr 46 (.tmp 19) (.tmp 20) (gdV (wt t17_7 false) t13_5) (gdV (wt t17_7 false) Ab))).bind fun t21_8 =>
(pickV t17_7 (Go.Value.bool Bool.true) t21_8).bind fun t22_9 =>
obH (evC Try.prog 97 #[Aa, t22_9] h4) fun t23_10 h11 =>
cnd t23_10 (
k .ret ⟨#[Aa,Ab,Ac,Ad, (Go.Value.int Go.IntKind.u64 0), t13_5, t14_6, t12_3,Aa, t9_0, t10_1, t11_2, t12_3, t13_5, t14_6,Aa, t14_6, t17_7, t17_7, (gdV (wt t17_7 false) t13_5), (gdV (wt t17_7 false) Ab), t21_8, t22_9, t23_10,Az,Ba,Bb,Bc,Bd,Be,Bf,Bg,Bh,Bi], h11⟩) (
(nilCheckV Try.prog Aa).bind fun t26_12 =>
(fieldAddrV Try.prog 150 t26_12 0).bind fun t27_13 =>
(loadV Try.prog 23 t27_13 h11).bind fun t28_14 =>
(sliceV Try.prog 23 t28_14 (some t14_6) none none h11).bind fun t30_15 =>
(nilCheckV Try.prog Aa).bind fun t31_16 =>
(fieldAddrV Try.prog 150 t31_16 0).bind fun t32_17 =>
(storeV Try.prog 23 t32_17 t30_15 h11).bind fun h18 =>
k .ret ⟨#[Aa,Ab,Ac,Ad, t13_5, t13_5, t14_6, t12_3,Aa, t9_0, t10_1, t11_2, t12_3, t13_5, t14_6,Aa, t14_6, t17_7, t17_7, (gdV (wt t17_7 false) t13_5), (gdV (wt t17_7 false) Ab), t21_8, t22_9, t23_10,Aa,Aa, t26_12, t27_13, t28_14, t14_6, t30_15, t31_16, t32_17, t13_5], h18⟩) := by kernel_rfl
theorem call46 (h : Heap) : evC Try.prog 46 #[Aa,Ab] h = codeK Try.prog (evC Try.prog) loopL c46_0 ⟨#[Aa,Ab, undef, undef, undef, undef, undef, undef, undef, undef, undef, undef, undef, undef, undef, undef, undef, undef, undef, undef, undef, undef, undef, undef, undef, undef, undef, undef, undef, undef, undef, undef, undef, undef], nm h⟩ (retK Try.f46 Try.prog h) :=
  (evC_call 46 Try.f46 c46_0 Try.func46 (by kernel_rfl) #[Aa,Ab] h).trans (by kernel_rfl)
theorem ret46 (h0 h : Heap) : retK Try.f46 Try.prog h0 .ret ⟨#[Aa,Ab,Ac,Ad,Ae,Af,Ag,Ah,Ai,Aj,Ak,Al,An,Ao,Ap,Aq,Ar,As,At,Au,Av,Aw,Ax,Ay,Az,Ba,Bb,Bc,Bd,Be,Bf,Bg,Bh,Bi], h⟩ = fin h0 (some Ae) h := by kernel_rfl
end Go.Am
namespace Go.Am
open Go.Proofs
set_option maxRecDepth 100000
variable (Aa Ab Ac Ad Ae Af Ag Ah Ai Aj Ak Al An Ao Ap : Value)
noncomputable def c54_0 : Code := bodyC Try.f54 []
theorem c54_0_eq {β : Type} (h : Heap) (k : Ex → St → Option β) : codeK Try.prog (evC Try.prog) loopL c54_0 ⟨#[Aa,Ab,Ac,Ad,Ae,Af,Ag,Ah,Ai,Aj,Ak,Al,An,Ao,Ap], h⟩ k =
obH (builtinV Try.prog .max #[3, 3] #[Ab, (Go.Value.int Go.IntKind.i64 0)] h) fun t8_0 h1 =>
obH (convV Try.prog 3 46 t8_0 h1) fun t9_2 h3 =>
obH (evC Try.prog 46 #[Aa, t9_2] h3) fun t10_4 h5 =>
obH (evC Try.prog 102 #[Aa, t10_4] h5) fun t13_6 h7 =>
obH (evC Try.prog 95 #[t13_6] h7) fun t14_8 h9 =>
k .ret ⟨#[Aa,Ab,Ac,Ad, t14_8, t10_4,Aa,Ab, t8_0, t9_2, t10_4,Aa, t10_4, t13_6, t14_8], h9⟩ := by kernel_rfl
theorem call54 (h : Heap) : evC Try.prog 54 #[Aa,Ab] h = codeK Try.prog (evC Try.prog) loopL c54_0 ⟨#[Aa,Ab, undef, undef, undef, undef, undef, undef, undef, undef, undef, undef, undef, undef, undef], nm h⟩ (retK Try.f54 Try.prog h) :=
  (evC_call 54 Try.f54 c54_0 Try.func54 (by kernel_rfl) #[Aa,Ab] h).trans (by kernel_rfl)
theorem ret54 (h0 h : Heap) : retK Try.f54 Try.prog h0 .ret ⟨#[Aa,Ab,Ac,Ad,Ae,Af,Ag,Ah,Ai,Aj,Ak,Al,An,Ao,Ap], h⟩ = fin h0 (some Ae) h := by kernel_rfl
end Go.Am
namespace Go.Am
open Go.Proofs
set_option maxRecDepth 100000
variable (Aa Ab Ac Ad Ae Af Ag Ah Ai Aj Ak Al An Ao Ap Aq : Value)
noncomputable def c47_0 : Code := bodyC Try.f47 []
theorem c47_0_eq {β : Type} (h : Heap) (k : Ex → St → Option β) : codeK Try.prog (evC Try.prog) loopL c47_0 ⟨#[Aa,Ab,Ac,Ad,Ae,Af,Ag,Ah,Ai,Aj,Ak,Al,An,Ao,Ap,Aq], h⟩ k =
(nilCheckV Try.prog Aa).bind fun t4_0 =>
(fieldAddrV Try.prog 150 t4_0 1).bind fun t5_1 =>
(loadV Try.prog 4 t5_1 h).bind fun t6_2 =>
(unV Try.prog .not t6_2).bind fun t7_3 =>
(gd (wt t7_3 true) (nilCheckV Try.prog (gdV (wt t7_3 true) Aa))).bind fun t10_4 =>
(gd (wt t7_3 true) (fieldAddrV Try.prog 150 t10_4 0)).bind fun t11_5 =>
(gd (wt t7_3 true) (loadV Try.prog 23 t11_5 h)).bind fun t12_6 =>
(gd (wt t7_3 true) (lenV Try.prog 23 t12_6 h)).bind fun t13_7 =>
(gd (wt t7_3 true) (binV Try.prog .eql 3 (.tmp 13) (.const (Go.Value.int Go.IntKind.i64 0)) t13_7 (Go.Value.int Go.IntKind.i64 0))).bind fun t14_8 =>
(pickV t7_3 t14_8 (Go.Value.bool Bool.false)).bind fun t15_9 =>
k .ret ⟨#[Aa,Ab, t15_9,Aa, t4_0, t5_1, t6_2, t7_3, t7_3, (gdV (wt t7_3 true) Aa), t10_4, t11_5, t12_6, t13_7, t14_8, t15_9], h⟩ := by kernel_rfl
theorem call47 (h : Heap) : evC Try.prog 47 #[Aa] h = codeK Try.prog (evC Try.prog) loopL c47_0 ⟨#[Aa, undef, undef, undef, undef, undef, undef, undef, undef, undef, undef, undef, undef, undef, undef, undef], nm h⟩ (retK Try.f47 Try.prog h) :=
  (evC_call 47 Try.f47 c47_0 Try.func47 (by kernel_rfl) #[Aa] h).trans (by kernel_rfl)
theorem ret47 (h0 h : Heap) : retK Try.f47 Try.prog h0 .ret ⟨#[Aa,Ab,Ac,Ad,Ae,Af,Ag,Ah,Ai,Aj,Ak,Al,An,Ao,Ap,Aq], h⟩ = fin h0 (some Ac) h := by kernel_rfl
end Go.Am
namespace Go.Am
open Go.Proofs
set_option maxRecDepth 100000
variable (Aa Ab Ac Ad Ae Af Ag Ah Ai Aj Ak Al An Ao Ap Aq : Value)
noncomputable def c97_0 : Code := bodyC Try.f97 []
noncomputable def c97_1 : Code := bodyC Try.f97 [true, true]
theorem c97_0_eq {β : Type} (h : Heap) (k : Ex → St → Option β) : codeK Try.prog (evC Try.prog) loopL c97_0 ⟨#[Aa,Ab,Ac,Ad,Ae,Af,Ag,Ah,Ai,Aj,Ak,Al,An,Ao,Ap,Aq], h⟩ k =
cnd Ab (
(nilCheckV Try.prog Aa).bind fun t8_0 =>
(fieldAddrV Try.prog 150 t8_0 0).bind fun t9_1 =>
(storeV Try.prog 23 t9_1 (Go.Value.slice Option.none 0 0) h).bind fun h2 =>
(nilCheckV Try.prog Aa).bind fun t10_3 =>
(fieldAddrV Try.prog 150 t10_3 1).bind fun t11_4 =>
(storeV Try.prog 4 t11_4 (Go.Value.bool Bool.true) h2).bind fun h5 =>
codeK Try.prog (evC Try.prog) loopL c97_1 ⟨#[Aa,Ab,Ac,Ad, (Go.Value.bool Bool.false),Ab,Aa,Aa, t8_0, t9_1, t10_3, t11_4,An,Ao,Ap,Aq], h5⟩ k) (
codeK Try.prog (evC Try.prog) loopL c97_1 ⟨#[Aa,Ab,Ac,Ad, (Go.Value.bool Bool.false),Ab,Ag,Ah,Ai,Aj,Ak,Al,An,Ao,Ap,Aq], h⟩ k) := by kernel_rfl
theorem c97_1_eq {β : Type} (h : Heap) (k : Ex → St → Option β) : codeK Try.prog (evC Try.prog) loopL c97_1 ⟨#[Aa,Ab,Ac,Ad,Ae,Af,Ag,Ah,Ai,Aj,Ak,Al,An,Ao,Ap,Aq], h⟩ k =
(nilCheckV Try.prog Aa).bind fun t13_6 =>
(fieldAddrV Try.prog 150 t13_6 1).bind fun t14_7 =>
(loadV Try.prog 4 t14_7 h).bind fun t15_8 =>
k .ret ⟨#[Aa,Ab,Ac,Ad, t15_8,Af,Ag,Ah,Ai,Aj,Ak,Al,Aa, t13_6, t14_7, t15_8], h⟩ := by kernel_rfl
theorem call97 (h : Heap) : evC Try.prog 97 #[Aa,Ab] h = codeK Try.prog (evC Try.prog) loopL c97_0 ⟨#[Aa,Ab, undef, undef, undef, undef, undef, undef, undef, undef, undef, undef, undef, undef, undef, undef], nm h⟩ (retK Try.f97 Try.prog h) :=
  (evC_call 97 Try.f97 c97_0 Try.func97 (by kernel_rfl) #[Aa,Ab] h).trans (by kernel_rfl)
theorem ret97 (h0 h : Heap) : retK Try.f97 Try.prog h0 .ret ⟨#[Aa,Ab,Ac,Ad,Ae,Af,Ag,Ah,Ai,Aj,Ak,Al,An,Ao,Ap,Aq], h⟩ = fin h0 (some Ae) h := by kernel_rfl
end Go.Am
namespace Go.Am
open Go.Proofs
set_option maxRecDepth 100000
variable (Aa Ab Ac Ad Ae Af Ag Ah Ai Aj Ak Al An Ao Ap Aq Ar As At Au Av Aw Ax Ay Az Ba Bb Bc Bd Be Bf Bg : Value)
noncomputable def c102_0 : Code := bodyC Try.f102 []
theorem c102_0_eq {β : Type} (h : Heap) (k : Ex → St → Option β) : codeK Try.prog (evC Try.prog) loopL c102_0 ⟨#[Aa,Ab,Ac,Ad,Ae,Af,Ag,Ah,Ai,Aj,Ak,Al,An,Ao,Ap,Aq,Ar,As,At,Au,Av,Aw,Ax,Ay,Az,Ba,Bb,Bc,Bd,Be,Bf,Bg], h⟩ k =
(nilCheckV Try.prog Aa).bind fun t9_0 =>
(fieldAddrV Try.prog 150 t9_0 0).bind fun t10_1 =>
(loadV Try.prog 23 t10_1 h).bind fun t11_2 =>
(lenV Try.prog 23 t11_2 h).bind fun t12_3 =>
obH (convV Try.prog 3 46 t12_3 h) fun t13_4 h5 =>
(binV Try.prog .gtr 46 (.tmp 7) (.tmp 13) Ab t13_4).bind fun t14_6 =>
obH (evC Try.prog 97 #[Aa, t14_6] h5) fun t15_7 h8 =>
cnd t15_7 (
k .ret ⟨#[Aa,Ab,Ac,Ad, (Go.Value.slice Option.none 0 0),Af,Aa,Ab,Aa, t9_0, t10_1, t11_2, t12_3, t13_4, t14_6, t15_7,Ar,As,At,Au,Av,Aw,Ax,Ay,Az,Ba,Bb,Bc,Bd,Be,Bf,Bg], h8⟩) (
(nilCheckV Try.prog Aa).bind fun t17_9 =>
(fieldAddrV Try.prog 150 t17_9 0).bind fun t18_10 =>
(loadV Try.prog 23 t18_10 h8).bind fun t19_11 =>
(sliceV Try.prog 23 t19_11 none (some Ab) none h8).bind fun t21_12 =>
(nilCheckV Try.prog Aa).bind fun t24_13 =>
(fieldAddrV Try.prog 150 t24_13 0).bind fun t25_14 =>
(loadV Try.prog 23 t25_14 h8).bind fun t26_15 =>
(sliceV Try.prog 23 t26_15 (some Ab) none none h8).bind fun t28_16 =>
(nilCheckV Try.prog Aa).bind fun t29_17 =>
(fieldAddrV Try.prog 150 t29_17 0).bind fun t30_18 =>
(storeV Try.prog 23 t30_18 t28_16 h8).bind fun h19 =>
k .ret ⟨#[Aa,Ab,Ac,Ad, t21_12, t21_12,Aa,Ab,Aa, t9_0, t10_1, t11_2, t12_3, t13_4, t14_6, t15_7,Aa, t17_9, t18_10, t19_11,Ab, t21_12,Aa,Aa, t24_13, t25_14, t26_15,Ab, t28_16, t29_17, t30_18, t21_12], h19⟩) := by kernel_rfl
theorem call102 (h : Heap) : evC Try.prog 102 #[Aa,Ab] h = codeK Try.prog (evC Try.prog) loopL c102_0 ⟨#[Aa,Ab, undef, undef, undef, undef, undef, undef, undef, undef, undef, undef, undef, undef, undef, undef, undef, undef, undef, undef, undef, undef, undef, undef, undef, undef, undef, undef, undef, undef, undef, undef], nm h⟩ (retK Try.f102 Try.prog h) :=
  (evC_call 102 Try.f102 c102_0 Try.func102 (by kernel_rfl) #[Aa,Ab] h).trans (by kernel_rfl)
theorem ret102 (h0 h : Heap) : retK Try.f102 Try.prog h0 .ret ⟨#[Aa,Ab,Ac,Ad,Ae,Af,Ag,Ah,Ai,Aj,Ak,Al,An,Ao,Ap,Aq,Ar,As,At,Au,Av,Aw,Ax,Ay,Az,Ba,Bb,Bc,Bd,Be,Bf,Bg], h⟩ = fin h0 (some Ae) h := by kernel_rfl
end Go.Am
namespace Go.Am
open Go.Proofs
set_option maxRecDepth 100000
variable (Aa Ab Ac Ad Ae Af Ag Ah Ai Aj Ak Al An Ao Ap Aq Ar As At Au Av Aw Ax Ay : Value)
end Go.Am
namespace Go.Am
open Go.Proofs
set_option maxRecDepth 100000
variable (Aa Ab Ac Ad Ae Af Ag Ah Ai Aj Ak Al An Ao Ap Aq Ar As At Au Av Aw Ax Ay Az Ba Bb Bc Bd Be Bf Bg Bh Bi Bj Bk Bl Bm Bn Bo Bp Bq Br Bs Bt Bu Bv : Value)
end Go.Am
namespace Go.Am
open Go.Proofs
set_option maxRecDepth 100000
variable (Aa Ab Ac Ad Ae Af Ag Ah Ai Aj Ak Al An : Value)
end Go.Am
namespace Go.Am
open Go.Proofs
set_option maxRecDepth 100000
variable (Aa Ab Ac Ad Ae Af Ag Ah Ai Aj Ak Al An Ao Ap Aq Ar As : Value)
end Go.Am
namespace Go.Am
open Go.Proofs
set_option maxRecDepth 100000
variable (Aa Ab Ac Ad Ae Af Ag Ah Ai Aj Ak Al An Ao Ap Aq Ar As At Au Av Aw Ax Ay Az Ba Bb Bc Bd Be Bf Bg Bh Bi Bj Bk Bl Bm Bn Bo : Value)
end Go.Am
namespace Go.Am
open Go.Proofs
set_option maxRecDepth 100000
variable (Aa Ab Ac Ad Ae Af Ag Ah Ai Aj Ak Al An Ao Ap Aq Ar As At Au Av Aw Ax Ay Az Ba Bb Bc Bd Be Bf Bg Bh Bi Bj Bk Bl Bm Bn Bo Bp Bq Br Bs Bt Bu Bv Bw Bx By Bz Ca Cb Cc Cd Ce Cf Cg Ch Ci Cj Ck Cl Cm Cn Co Cp Cq Cr Cs Ct Cu Cv Cw Cx Cy Cz Da Db Dc Dd De Df Dg Dh Di Dj Dk Dl Dm Dn Do Dp Dq Dr : Value)
end Go.Am
namespace Go.Am
open Go.Proofs
set_option maxRecDepth 100000
variable (Aa Ab Ac Ad Ae Af Ag Ah Ai Aj Ak Al An Ao Ap Aq : Value)
end Go.Am
namespace Go.Am
open Go.Proofs
set_option maxRecDepth 100000
variable (Aa Ab Ac Ad Ae Af Ag Ah : Value)
end Go.Am
namespace Go.Am
open Go.Proofs
set_option maxRecDepth 100000
variable (Aa Ab Ac Ad Ae Af Ag Ah Ai Aj Ak Al An Ao Ap Aq Ar As At Au Av Aw Ax Ay Az Ba Bb Bc Bd Be Bf Bg Bh Bi Bj : Value)
noncomputable def c49_0 : Code := bodyC Try.f49 []
theorem c49_0_eq {β : Type} (h : Heap) (k : Ex → St → Option β) : codeK Try.prog (evC Try.prog) loopL c49_0 ⟨#[Aa,Ab,Ac,Ad,Ae,Af,Ag,Ah,Ai,Aj,Ak,Al,An,Ao,Ap,Aq,Ar,As,At,Au,Av,Aw,Ax,Ay,Az,Ba,Bb,Bc,Bd,Be,Bf,Bg,Bh,Bi,Bj], h⟩ k =
(nilCheckV Try.prog Aa).bind fun t9_0 =>
(fieldAddrV Try.prog 150 t9_0 0).bind fun t10_1 =>
(loadV Try.prog 23 t10_1 h).bind fun t11_2 =>
obH (evC Try.prog 96 #[t11_2] h) fun t12_3 h4 =>
(extractV t12_3 0).bind fun t13_5 =>
(extractV t12_3 1).bind fun t14_6 =>
(binV Try.prog .eql 3 (.tmp 16) (.const (Go.Value.int Go.IntKind.i64 0)) t14_6 (Go.Value.int Go.IntKind.i64 0)).bind fun t17_7 =>
obH (gdH (wt t17_7 false) h4 (evC Try.prog 100 #[(gdV (wt t17_7 false) t13_5), (gdV (wt t17_7 false) Ab)] h4)) fun t21_8 h9 =>
(gd (wt t17_7 false) (unV Try.prog .not t21_8)).bind fun t22_10 =>
(pickV t17_7 (Go.Value.bool Bool.true) t22_10).bind fun t23_11 =>
obH (evC Try.prog 97 #[Aa, t23_11] h9) fun t24_12 h13 =>
cnd t24_12 (
k .ret ⟨#[Aa,Ab,Ac,Ad, (Go.Value.int Go.IntKind.u64 0), t13_5, t14_6, t12_3,Aa, t9_0, t10_1, t11_2, t12_3, t13_5, t14_6,Aa, t14_6, t17_7, t17_7, (gdV (wt t17_7 false) t13_5), (gdV (wt t17_7 false) Ab), t21_8, t22_10, t23_11, t24_12,Ba,Bb,Bc,Bd,Be,Bf,Bg,Bh,Bi,Bj], h13⟩) (
(nilCheckV Try.prog Aa).bind fun t27_14 =>
(fieldAddrV Try.prog 150 t27_14 0).bind fun t28_15 =>
(loadV Try.prog 23 t28_15 h13).bind fun t29_16 =>
(sliceV Try.prog 23 t29_16 (some t14_6) none none h13).bind fun t31_17 =>
(nilCheckV Try.prog Aa).bind fun t32_18 =>
(fieldAddrV Try.prog 150 t32_18 0).bind fun t33_19 =>
(storeV Try.prog 23 t33_19 t31_17 h13).bind fun h20 =>
k .ret ⟨#[Aa,Ab,Ac,Ad, t13_5, t13_5, t14_6, t12_3,Aa, t9_0, t10_1, t11_2, t12_3, t13_5, t14_6,Aa, t14_6, t17_7, t17_7, (gdV (wt t17_7 false) t13_5), (gdV (wt t17_7 false) Ab), t21_8, t22_10, t23_11, t24_12,Aa,Aa, t27_14, t28_15, t29_16, t14_6, t31_17, t32_18, t33_19, t13_5], h20⟩) := by kernel_rfl
theorem call49 (h : Heap) : evC Try.prog 49 #[Aa,Ab] h = codeK Try.prog (evC Try.prog) loopL c49_0 ⟨#[Aa,Ab, undef, undef, undef, undef, undef, undef, undef, undef, undef, undef, undef, undef, undef, undef, undef, undef, undef, undef, undef, undef, undef, undef, undef, undef, undef, undef, undef, undef, undef, undef, undef, undef, undef], nm h⟩ (retK Try.f49 Try.prog h) :=
  (evC_call 49 Try.f49 c49_0 Try.func49 (by kernel_rfl) #[Aa,Ab] h).trans (by kernel_rfl)
theorem ret49 (h0 h : Heap) : retK Try.f49 Try.prog h0 .ret ⟨#[Aa,Ab,Ac,Ad,Ae,Af,Ag,Ah,Ai,Aj,Ak,Al,An,Ao,Ap,Aq,Ar,As,At,Au,Av,Aw,Ax,Ay,Az,Ba,Bb,Bc,Bd,Be,Bf,Bg,Bh,Bi,Bj], h⟩ = fin h0 (some Ae) h := by kernel_rfl
end Go.Am
namespace Go.Am
open Go.Proofs
set_option maxRecDepth 100000
variable (Aa Ab Ac Ad Ae Af Ag Ah Ai Aj Ak Al An Ao Ap Aq Ar As At Au Av Aw Ax Ay Az Ba Bb Bc Bd Be Bf Bg Bh : Value)
noncomputable def c52_0 : Code := bodyC Try.f52 []
noncomputable def c52_1 : Code := bodyC Try.f52 [true, true, true, false, true, false, false]
noncomputable def c52_2 : Code := bodyC Try.f52 [true, true, true, true]
theorem c52_0_eq {β : Type} (h : Heap) (k : Ex → St → Option β) : codeK Try.prog (evC Try.prog) loopL c52_0 ⟨#[Aa,Ab,Ac,Ad,Ae,Af,Ag,Ah,Ai,Aj,Ak,Al,An,Ao,Ap,Aq,Ar,As,At,Au,Av,Aw,Ax,Ay,Az,Ba,Bb,Bc,Bd,Be,Bf,Bg,Bh], h⟩ k =
obH (evC Try.prog 102 #[Aa, (Go.Value.int Go.IntKind.u64 8)] h) fun t10_0 h1 =>
(lenV Try.prog 23 t10_0 h1).bind fun t12_2 =>
loopK Try.prog (evC Try.prog) c52_1 ⟨#[Aa,Ab, (Go.Value.float Go.FloatKind.f64 0), (Go.Value.int Go.IntKind.u64 0), t10_0,Af,Ag,Ah,Ai,Aa, t10_0, t10_0, t12_2, (Go.Value.int Go.IntKind.i64 0),Ap,Aq,Ar,As,At,Au,Av,Aw,Ax,Ay,Az,Ba,Bb,Bc,Bd,Be,Bf,Bg,Bh], h1⟩ (blockK 0 (seqK Try.prog (evC Try.prog) c52_2 k)) := by kernel_rfl
theorem c52_1_eq {β : Type} (h : Heap) (k : Ex → St → Option β) : codeK Try.prog (evC Try.prog) loopL c52_1 ⟨#[Aa,Ab,Ac,Ad,Ae,Af,Ag,Ah,Ai,Aj,Ak,Al,An,Ao,Ap,Aq,Ar,As,At,Au,Av,Aw,Ax,Ay,Az,Ba,Bb,Bc,Bd,Be,Bf,Bg,Bh], h⟩ k =
(binV Try.prog .lss 3 (.tmp 13) (.tmp 12) Ao An).bind fun t14_3 =>
cnd t14_3 (
(indexAddrV Try.prog 23 Al Ao).bind fun t15_4 =>
(loadV Try.prog 5 t15_4 h).bind fun t16_5 =>
(binV Try.prog .shl 46 (.tmp 17) (.const (Go.Value.int Go.IntKind.u64 8)) Ad (Go.Value.int Go.IntKind.u64 8)).bind fun t18_6 =>
obH (convV Try.prog 5 46 t16_5 h) fun t20_7 h8 =>
(binV Try.prog .or 46 (.tmp 18) (.tmp 20) t18_6 t20_7).bind fun t21_9 =>
(binV Try.prog .add 3 (.tmp 13) (.const (Go.Value.int Go.IntKind.i64 1)) Ao (Go.Value.int Go.IntKind.i64 1)).bind fun t22_10 =>
k .normal ⟨#[Aa,Ab,Ac, t21_9,Ae,Af, t16_5,Ah,Ai,Aj,Ak,Al,An, t22_10, t14_3, t15_4, t16_5,Ad, t18_6, t16_5, t20_7, t21_9, t22_10,Ay,Az,Ba,Bb,Bc,Bd,Be,Bf,Bg,Bh], h8⟩) (
k (.exit 0) ⟨#[Aa,Ab,Ac,Ad,Ae,Af,Ag,Ah,Ai,Aj,Ak,Al,An,Ao, t14_3,Aq,Ar,As,At,Au,Av,Aw,Ax,Ay,Az,Ba,Bb,Bc,Bd,Be,Bf,Bg,Bh], h⟩) := by kernel_rfl
theorem c52_2_eq {β : Type} (h : Heap) (k : Ex → St → Option β) : codeK Try.prog (evC Try.prog) loopL c52_2 ⟨#[Aa,Ab,Ac,Ad,Ae,Af,Ag,Ah,Ai,Aj,Ak,Al,An,Ao,Ap,Aq,Ar,As,At,Au,Av,Aw,Ax,Ay,Az,Ba,Bb,Bc,Bd,Be,Bf,Bg,Bh], h⟩ k =
obH (evC Try.prog 103 #[Ad] h) fun t25_11 h12 =>
(extractV t25_11 0).bind fun t26_13 =>
(extractV t25_11 1).bind fun t27_14 =>
(unV Try.prog .not t27_14).bind fun t30_15 =>
obH (evC Try.prog 97 #[Aa, t30_15] h12) fun t31_16 h17 =>
cnd t31_16 (
k .ret ⟨#[Aa,Ab, (Go.Value.float Go.FloatKind.f64 0),Ad,Ae,Af,Ag, t26_13, t27_14,Aj,Ak,Al,An,Ao,Ap,Aq,Ar,As,At,Au,Av,Aw,Ax, t25_11,Ad, t25_11, t26_13, t27_14,Aa, t27_14, t30_15, t31_16,Bh], h17⟩) (
k .ret ⟨#[Aa,Ab, t26_13,Ad,Ae,Af,Ag, t26_13, t27_14,Aj,Ak,Al,An,Ao,Ap,Aq,Ar,As,At,Au,Av,Aw,Ax, t25_11,Ad, t25_11, t26_13, t27_14,Aa, t27_14, t30_15, t31_16, t26_13], h17⟩) := by kernel_rfl
theorem call52 (h : Heap) : evC Try.prog 52 #[Aa] h = codeK Try.prog (evC Try.prog) loopL c52_0 ⟨#[Aa, undef, undef, undef, undef, undef, undef, undef, undef, undef, undef, undef, undef, undef, undef, undef, undef, undef, undef, undef, undef, undef, undef, undef, undef, undef, undef, undef, undef, undef, undef, undef, undef], nm h⟩ (retK Try.f52 Try.prog h) :=
  (evC_call 52 Try.f52 c52_0 Try.func52 (by kernel_rfl) #[Aa] h).trans (by kernel_rfl)
theorem ret52 (h0 h : Heap) : retK Try.f52 Try.prog h0 .ret ⟨#[Aa,Ab,Ac,Ad,Ae,Af,Ag,Ah,Ai,Aj,Ak,Al,An,Ao,Ap,Aq,Ar,As,At,Au,Av,Aw,Ax,Ay,Az,Ba,Bb,Bc,Bd,Be,Bf,Bg,Bh], h⟩ = fin h0 (some Ac) h := by kernel_rfl
end Go.Am
namespace Go.Am
open Go.Proofs
set_option maxRecDepth 100000
variable (Aa Ab Ac Ad Ae Af Ag Ah Ai Aj Ak Al An Ao Ap Aq Ar As At Au Av Aw Ax Ay Az Ba : Value)
noncomputable def c57_0 : Code := bodyC Try.f57 []
noncomputable def c57_1 : Code := bodyC Try.f57 [true, true, false, false]
theorem c57_0_eq {β : Type} (h : Heap) (k : Ex → St → Option β) : codeK Try.prog (evC Try.prog) loopL c57_0 ⟨#[Aa,Ab,Ac,Ad,Ae,Af,Ag,Ah,Ai,Aj,Ak,Al,An,Ao,Ap,Aq,Ar,As,At,Au,Av,Aw,Ax,Ay,Az,Ba], h⟩ k =
obH (evC Try.prog 105 #[Ab] h) fun t7_0 h1 =>
loopK Try.prog (evC Try.prog) c57_1 ⟨#[Aa,Ab,Ac,Ad, t7_0, (Go.Value.int Go.IntKind.i64 7),Ab, t7_0,Ai,Aj,Ak,Al,An,Ao,Ap,Aq,Ar,As,At,Au,Av,Aw,Ax,Ay,Az,Ba], h1⟩ (blockK 0 k) := by kernel_rfl
theorem c57_1_eq {β : Type} (h : Heap) (k : Ex → St → Option β) : codeK Try.prog (evC Try.prog) loopL c57_1 ⟨#[Aa,Ab,Ac,Ad,Ae,Af,Ag,Ah,Ai,Aj,Ak,Al,An,Ao,Ap,Aq,Ar,As,At,Au,Av,Aw,Ax,Ay,Az,Ba], h⟩ k =
(binV Try.prog .geq 3 (.tmp 8) (.const (Go.Value.int Go.IntKind.i64 0)) Af (Go.Value.int Go.IntKind.i64 0)).bind fun t9_2 =>
cnd t9_2 (
(nilCheckV Try.prog Aa).bind fun t14_3 =>
(fieldAddrV Try.prog 146 t14_3 0).bind fun t15_4 =>
(loadV Try.prog 23 t15_4 h).bind fun t16_5 =>
(binV Try.prog .mul 3 (.const (Go.Value.int Go.IntKind.i64 8)) (.tmp 18) (Go.Value.int Go.IntKind.i64 8) Af).bind fun t19_6 =>
(binV Try.prog .shr 46 (.tmp 17) (.tmp 19) Ae t19_6).bind fun t20_7 =>
obH (convV Try.prog 46 5 t20_7 h) fun t21_8 h9 =>
obH (buildSliceV Try.prog 23 1 #[(0, t21_8)] h9) fun t22_10 h11 =>
obH (appendV Try.prog 23 (some 23) t16_5 t22_10 h11) fun t23_12 h13 =>
(nilCheckV Try.prog Aa).bind fun t24_14 =>
(fieldAddrV Try.prog 146 t24_14 0).bind fun t25_15 =>
(storeV Try.prog 23 t25_15 t23_12 h13).bind fun h16 =>
(binV Try.prog .sub 3 (.tmp 10) (.const (Go.Value.int Go.IntKind.i64 1)) Af (Go.Value.int Go.IntKind.i64 1)).bind fun t11_17 =>
k .normal ⟨#[Aa,Ab,Ac,Ad,Ae, t11_17,Ag,Ah,Af, t9_2,Af, t11_17,Aa,Aa, t14_3, t15_4, t16_5,Ae,Af, t19_6, t20_7, t21_8, t22_10, t23_12, t24_14, t25_15], h16⟩) (
k (.exit 0) ⟨#[Aa,Ab,Ac,Ad,Ae,Af,Ag,Ah,Af, t9_2,Ak,Al,An,Ao,Ap,Aq,Ar,As,At,Au,Av,Aw,Ax,Ay,Az,Ba], h⟩) := by kernel_rfl
theorem call57 (h : Heap) : evC Try.prog 57 #[Aa,Ab] h = codeK Try.prog (evC Try.prog) loopL c57_0 ⟨#[Aa,Ab, undef, undef, undef, undef, undef, undef, undef, undef, undef, undef, undef, undef, undef, undef, undef, undef, undef, undef, undef, undef, undef, undef, undef, undef], nm h⟩ (retK Try.f57 Try.prog h) :=
  (evC_call 57 Try.f57 c57_0 Try.func57 (by kernel_rfl) #[Aa,Ab] h).trans (by kernel_rfl)
theorem retn57 (h0 h : Heap) : retK Try.f57 Try.prog h0 .normal ⟨#[Aa,Ab,Ac,Ad,Ae,Af,Ag,Ah,Ai,Aj,Ak,Al,An,Ao,Ap,Aq,Ar,As,At,Au,Av,Aw,Ax,Ay,Az,Ba], h⟩ = fin h0 (some (.tuple #[])) h := by kernel_rfl
end Go.Am
namespace Go.Am
open Go.Proofs
set_option maxRecDepth 100000
variable (Aa Ab Ac Ad Ae Af Ag : Value)
noncomputable def c59_0 : Code := bodyC Try.f59 []
theorem c59_0_eq {β : Type} (h : Heap) (k : Ex → St → Option β) : codeK Try.prog (evC Try.prog) loopL c59_0 ⟨#[Aa,Ab,Ac,Ad,Ae,Af,Ag], h⟩ k =
obH (evC Try.prog 43 #[Aa,Ab] h) fun t6_0 h1 =>
k .normal ⟨#[Aa,Ab,Ac,Ad,Aa,Ab, t6_0], h1⟩ := by kernel_rfl
theorem call59 (h : Heap) : evC Try.prog 59 #[Aa,Ab] h = codeK Try.prog (evC Try.prog) loopL c59_0 ⟨#[Aa,Ab, undef, undef, undef, undef, undef], nm h⟩ (retK Try.f59 Try.prog h) :=
  (evC_call 59 Try.f59 c59_0 Try.func59 (by kernel_rfl) #[Aa,Ab] h).trans (by kernel_rfl)
theorem retn59 (h0 h : Heap) : retK Try.f59 Try.prog h0 .normal ⟨#[Aa,Ab,Ac,Ad,Ae,Af,Ag], h⟩ = fin h0 (some (.tuple #[])) h := by kernel_rfl
end Go.Am
namespace Go.Am
open Go.Proofs
set_option maxRecDepth 100000
variable (Aa Ab Ac Ad Ae Af Ag Ah Ai Aj Ak Al An Ao Ap Aq Ar As At Au Av Aw Ax Ay Az Ba Bb Bc Bd Be Bf Bg Bh Bi Bj Bk Bl Bm Bn Bo Bp : Value)
end Go.Am
namespace Go.Am
open Go.Proofs
set_option maxRecDepth 100000
variable (Aa Ab Ac Ad Ae Af Ag Ah Ai Aj Ak Al An Ao Ap Aq Ar As At Au Av Aw Ax Ay Az Ba Bb Bc Bd Be Bf Bg Bh Bi Bj Bk Bl Bm Bn Bo Bp Bq Br Bs Bt Bu Bv Bw Bx By Bz Ca Cb Cc : Value)
end Go.Am
namespace Go.Am
open Go.Proofs
set_option maxRecDepth 100000
variable (Aa Ab Ac Ad Ae Af Ag Ah Ai Aj Ak Al An Ao Ap Aq Ar As At Au Av Aw Ax Ay Az Ba Bb Bc : Value)
end Go.Am
namespace Go.Am
open Go.Proofs
set_option maxRecDepth 100000
variable (Aa Ab Ac Ad Ae Af Ag Ah Ai : Value)
noncomputable def c100_0 : Code := bodyC Try.f100 []
theorem c100_0_eq {β : Type} (h : Heap) (k : Ex → St → Option β) : codeK Try.prog (evC Try.prog) loopL c100_0 ⟨#[Aa,Ab,Ac,Ad,Ae,Af,Ag,Ah,Ai], h⟩ k =
(binV Try.prog .andNot 47 (.tmp 5) (.tmp 6) Aa Ab).bind fun t7_0 =>
(binV Try.prog .eql 47 (.tmp 7) (.const (Go.Value.int Go.IntKind.u64 0)) t7_0 (Go.Value.int Go.IntKind.u64 0)).bind fun t8_1 =>
k .ret ⟨#[Aa,Ab,Ac,Ad, t8_1,Aa,Ab, t7_0, t8_1], h⟩ := by kernel_rfl
theorem call100 (h : Heap) : evC Try.prog 100 #[Aa,Ab] h = codeK Try.prog (evC Try.prog) loopL c100_0 ⟨#[Aa,Ab, undef, undef, undef, undef, undef, undef, undef], nm h⟩ (retK Try.f100 Try.prog h) :=
  (evC_call 100 Try.f100 c100_0 Try.func100 (by kernel_rfl) #[Aa,Ab] h).trans (by kernel_rfl)
theorem ret100 (h0 h : Heap) : retK Try.f100 Try.prog h0 .ret ⟨#[Aa,Ab,Ac,Ad,Ae,Af,Ag,Ah,Ai], h⟩ = fin h0 (some Ae) h := by kernel_rfl
end Go.Am
namespace Go.Am
open Go.Proofs
set_option maxRecDepth 100000
variable (Aa Ab Ac Ad Ae Af Ag Ah Ai : Value)
noncomputable def c126_0 : Code := bodyC Try.f126 []
theorem c126_0_eq {β : Type} (h : Heap) (k : Ex → St → Option β) : codeK Try.prog (evC Try.prog) loopL c126_0 ⟨#[Aa,Ab,Ac,Ad,Ae,Af,Ag,Ah,Ai], h⟩ k =
obH (evC Try.prog 128 #[Aa,Ab] h) fun t7_0 h1 =>
(binV Try.prog .eql 3 (.tmp 7) (.const (Go.Value.int Go.IntKind.i64 0)) t7_0 (Go.Value.int Go.IntKind.i64 0)).bind fun t8_2 =>
k .ret ⟨#[Aa,Ab,Ac,Ad, t8_2,Aa,Ab, t7_0, t8_2], h1⟩ := by kernel_rfl
theorem call126 (h : Heap) : evC Try.prog 126 #[Aa,Ab] h = codeK Try.prog (evC Try.prog) loopL c126_0 ⟨#[Aa,Ab, undef, undef, undef, undef, undef, undef, undef], nm h⟩ (retK Try.f126 Try.prog h) :=
  (evC_call 126 Try.f126 c126_0 Try.func126 (by kernel_rfl) #[Aa,Ab] h).trans (by kernel_rfl)
theorem ret126 (h0 h : Heap) : retK Try.f126 Try.prog h0 .ret ⟨#[Aa,Ab,Ac,Ad,Ae,Af,Ag,Ah,Ai], h⟩ = fin h0 (some Ae) h := by kernel_rfl
end Go.Am
namespace Go.Am
open Go.Proofs
set_option maxRecDepth 100000
variable (Aa Ab Ac Ad Ae Af Ag Ah Ai Aj : Value)
noncomputable def c128_0 : Code := bodyC Try.f128 []
theorem c128_0_eq {β : Type} (h : Heap) (k : Ex → St → Option β) : codeK Try.prog (evC Try.prog) loopL c128_0 ⟨#[Aa,Ab,Ac,Ad,Ae,Af,Ag,Ah,Ai,Aj], h⟩ k =
obH (evC Try.prog 105 #[Aa] h) fun t6_0 h1 =>
obH (evC Try.prog 105 #[Ab] h1) fun t8_2 h3 =>
obH (evC Try.prog 129 #[t6_0, t8_2] h3) fun t9_4 h5 =>
k .ret ⟨#[Aa,Ab,Ac,Ad, t9_4,Aa, t6_0,Ab, t8_2, t9_4], h5⟩ := by kernel_rfl
theorem call128 (h : Heap) : evC Try.prog 128 #[Aa,Ab] h = codeK Try.prog (evC Try.prog) loopL c128_0 ⟨#[Aa,Ab, undef, undef, undef, undef, undef, undef, undef, undef], nm h⟩ (retK Try.f128 Try.prog h) :=
  (evC_call 128 Try.f128 c128_0 Try.func128 (by kernel_rfl) #[Aa,Ab] h).trans (by kernel_rfl)
theorem ret128 (h0 h : Heap) : retK Try.f128 Try.prog h0 .ret ⟨#[Aa,Ab,Ac,Ad,Ae,Af,Ag,Ah,Ai,Aj], h⟩ = fin h0 (some Ae) h := by kernel_rfl
end Go.Am
namespace Go.Am
open Go.Proofs
set_option maxRecDepth 100000
variable (Aa Ab Ac Ad Ae Af Ag Ah Ai Aj Ak Al An Ao Ap Aq Ar As At Au : Value)
noncomputable def c129_0 : Code := bodyC Try.f129 []
theorem c129_0_eq {β : Type} (h : Heap) (k : Ex → St → Option β) : codeK Try.prog (evC Try.prog) loopL c129_0 ⟨#[Aa,Ab,Ac,Ad,Ae,Af,Ag,Ah,Ai,Aj,Ak,Al,An,Ao,Ap,Aq,Ar,As,At,Au], h⟩ k =
obH (evC Try.prog 130 #[Aa] h) fun t8_0 h1 =>
obH (evC Try.prog 130 #[Ab] h1) fun t10_2 h3 =>
cnd t8_0 (
cnd t10_2 (
k .ret ⟨#[Aa,Ab,Ac,Ad, (Go.Value.int Go.IntKind.i64 0), t8_0, t10_2,Aa, t8_0,Ab, t10_2, t8_0, t10_2,Ao,Ap,Aq,Ar,As,At,Au], h3⟩) (
k .ret ⟨#[Aa,Ab,Ac,Ad, (Go.Value.int Go.IntKind.i64 (-1)), t8_0, t10_2,Aa, t8_0,Ab, t10_2, t8_0, t10_2,Ao,Ap,Aq,Ar,As,At,Au], h3⟩)) (
cnd t10_2 (
k .ret ⟨#[Aa,Ab,Ac,Ad, (Go.Value.int Go.IntKind.i64 1), t8_0, t10_2,Aa, t8_0,Ab, t10_2, t8_0,An, t10_2,Ap,Aq,Ar,As,At,Au], h3⟩) (
(binV Try.prog .lss 46 (.tmp 14) (.tmp 15) Aa Ab).bind fun t16_4 =>
cnd t16_4 (
k .ret ⟨#[Aa,Ab,Ac,Ad, (Go.Value.int Go.IntKind.i64 (-1)), t8_0, t10_2,Aa, t8_0,Ab, t10_2, t8_0,An, t10_2,Aa,Ab, t16_4,As,At,Au], h3⟩) (
(binV Try.prog .gtr 46 (.tmp 17) (.tmp 18) Aa Ab).bind fun t19_5 =>
cnd t19_5 (
k .ret ⟨#[Aa,Ab,Ac,Ad, (Go.Value.int Go.IntKind.i64 1), t8_0, t10_2,Aa, t8_0,Ab, t10_2, t8_0,An, t10_2,Aa,Ab, t16_4,Aa,Ab, t19_5], h3⟩) (
k .ret ⟨#[Aa,Ab,Ac,Ad, (Go.Value.int Go.IntKind.i64 0), t8_0, t10_2,Aa, t8_0,Ab, t10_2, t8_0,An, t10_2,Aa,Ab, t16_4,Aa,Ab, t19_5], h3⟩)))) := by kernel_rfl
theorem call129 (h : Heap) : evC Try.prog 129 #[Aa,Ab] h = codeK Try.prog (evC Try.prog) loopL c129_0 ⟨#[Aa,Ab, undef, undef, undef, undef, undef, undef, undef, undef, undef, undef, undef, undef, undef, undef, undef, undef, undef, undef], nm h⟩ (retK Try.f129 Try.prog h) :=
  (evC_call 129 Try.f129 c129_0 Try.func129 (by kernel_rfl) #[Aa,Ab] h).trans (by kernel_rfl)
theorem ret129 (h0 h : Heap) : retK Try.f129 Try.prog h0 .ret ⟨#[Aa,Ab,Ac,Ad,Ae,Af,Ag,Ah,Ai,Aj,Ak,Al,An,Ao,Ap,Aq,Ar,As,At,Au], h⟩ = fin h0 (some Ae) h := by kernel_rfl
end Go.Am
namespace Go.Am
open Go.Proofs
set_option maxRecDepth 100000
variable (Aa Ab Ac Ad Ae Af : Value)
noncomputable def c130_0 : Code := bodyC Try.f130 []
theorem c130_0_eq {β : Type} (h : Heap) (k : Ex → St → Option β) : codeK Try.prog (evC Try.prog) loopL c130_0 ⟨#[Aa,Ab,Ac,Ad,Ae,Af], h⟩ k =
(binV Try.prog .neq 46 (.tmp 3) (.tmp 4) Aa Aa).bind fun t5_0 =>
k .ret ⟨#[Aa,Ab, t5_0,Aa,Aa, t5_0], h⟩ := by kernel_rfl
theorem call130 (h : Heap) : evC Try.prog 130 #[Aa] h = codeK Try.prog (evC Try.prog) loopL c130_0 ⟨#[Aa, undef, undef, undef, undef, undef], nm h⟩ (retK Try.f130 Try.prog h) :=
  (evC_call 130 Try.f130 c130_0 Try.func130 (by kernel_rfl) #[Aa] h).trans (by kernel_rfl)
theorem ret130 (h0 h : Heap) : retK Try.f130 Try.prog h0 .ret ⟨#[Aa,Ab,Ac,Ad,Ae,Af], h⟩ = fin h0 (some Ac) h := by kernel_rfl
end Go.Am
namespace Go.Am
open Go.Proofs
set_option maxRecDepth 100000
variable (Aa Ab Ac Ad Ae Af Ag Ah Ai Aj Ak Al An Ao Ap : Value)
noncomputable def c111_0 : Code := bodyC Try.f111 []
theorem c111_0_eq {β : Type} (h : Heap) (k : Ex → St → Option β) : codeK Try.prog (evC Try.prog) loopL c111_0 ⟨#[Aa,Ab,Ac,Ad,Ae,Af,Ag,Ah,Ai,Aj,Ak,Al,An,Ao,Ap], h⟩ k =
(binV Try.prog .geq 3 (.tmp 7) (.tmp 8) Aa Ab).bind fun t9_0 =>
(gd (wt t9_0 true) (binV Try.prog .leq 3 (.tmp 11) (.tmp 12) (gdV (wt t9_0 true) Aa) (gdV (wt t9_0 true) Ac))).bind fun t13_1 =>
(pickV t9_0 t13_1 (Go.Value.bool Bool.false)).bind fun t14_2 =>
k .ret ⟨#[Aa,Ab,Ac,Ad,Ae,Af, t14_2,Aa,Ab, t9_0, t9_0, (gdV (wt t9_0 true) Aa), (gdV (wt t9_0 true) Ac), t13_1, t14_2], h⟩ := by kernel_rfl
theorem call111 (h : Heap) : evC Try.prog 111 #[Aa,Ab,Ac] h = codeK Try.prog (evC Try.prog) loopL c111_0 ⟨#[Aa,Ab,Ac, undef, undef, undef, undef, undef, undef, undef, undef, undef, undef, undef, undef], nm h⟩ (retK Try.f111 Try.prog h) :=
  (evC_call 111 Try.f111 c111_0 Try.func111 (by kernel_rfl) #[Aa,Ab,Ac] h).trans (by kernel_rfl)
theorem ret111 (h0 h : Heap) : retK Try.f111 Try.prog h0 .ret ⟨#[Aa,Ab,Ac,Ad,Ae,Af,Ag,Ah,Ai,Aj,Ak,Al,An,Ao,Ap], h⟩ = fin h0 (some Ag) h := by kernel_rfl
end Go.Am
namespace Go.Am
open Go.Proofs
set_option maxRecDepth 100000
variable (Aa Ab Ac Ad Ae Af Ag Ah Ai Aj Ak Al An Ao Ap Aq Ar As At Au Av Aw Ax Ay Az Ba Bb Bc Bd Be Bf Bg Bh Bi Bj Bk Bl Bm Bn Bo Bp Bq Br Bs : Value)
noncomputable def c113_0 : Code := bodyC Try.f113 []
theorem c113_0_eq {β : Type} (h : Heap) (k : Ex → St → Option β) : codeK Try.prog (evC Try.prog) loopL c113_0 ⟨#[Aa,Ab,Ac,Ad,Ae,Af,Ag,Ah,Ai,Aj,Ak,Al,An,Ao,Ap,Aq,Ar,As,At,Au,Av,Aw,Ax,Ay,Az,Ba,Bb,Bc,Bd,Be,Bf,Bg,Bh,Bi,Bj,Bk,Bl,Bm,Bn,Bo,Bp,Bq,Br,Bs], h⟩ k =
obH (boxV Try.prog 104 Aa h) fun t1_0 h1 =>
(fieldAddrV Try.prog 104 t1_0 3).bind fun t3_2 =>
(loadV Try.prog 3 t3_2 h1).bind fun t4_3 =>
(binV Try.prog .eql 3 (.tmp 4) (.const (Go.Value.int Go.IntKind.i64 1)) t4_3 (Go.Value.int Go.IntKind.i64 1)).bind fun t6_4 =>
cnd t6_4 (
(fieldAddrV Try.prog 104 t1_0 6).bind fun t7_5 =>
(loadV Try.prog 3 t7_5 h1).bind fun t8_6 =>
(fieldAddrV Try.prog 104 t1_0 0).bind fun t9_7 =>
(loadV Try.prog 3 t9_7 h1).bind fun t10_8 =>
(binV Try.prog .eql 3 (.tmp 8) (.tmp 10) t8_6 t10_8).bind fun t11_9 =>
(gd (wt t11_9 true) (fieldAddrV Try.prog 104 t1_0 7)).bind fun t13_10 =>
(gd (wt t11_9 true) (loadV Try.prog 46 t13_10 h1)).bind fun t14_11 =>
(gd (wt t11_9 true) (binV Try.prog .gtr 46 (.tmp 14) (.const (Go.Value.int Go.IntKind.u64 0)) t14_11 (Go.Value.int Go.IntKind.u64 0))).bind fun t15_12 =>
(pickV t11_9 t15_12 (Go.Value.bool Bool.false)).bind fun t16_13 =>
k .ret ⟨#[Aa, t1_0, t16_13, t3_2, t4_3, t6_4, t6_4, t7_5, t8_6, t9_7, t10_8, t11_9, t11_9, t13_10, t14_11, t15_12, t16_13,As,At,Au,Av,Aw,Ax,Ay,Az,Ba,Bb,Bc,Bd,Be,Bf,Bg,Bh,Bi,Bj,Bk,Bl,Bm,Bn,Bo,Bp,Bq,Br,Bs], h1⟩) (
(binV Try.prog .eql 3 (.tmp 4) (.const (Go.Value.int Go.IntKind.i64 3)) t4_3 (Go.Value.int Go.IntKind.i64 3)).bind fun t18_14 =>
cnd t18_14 (
(fieldAddrV Try.prog 104 t1_0 6).bind fun t19_15 =>
(loadV Try.prog 3 t19_15 h1).bind fun t20_16 =>
obH (evC Try.prog 111 #[t20_16, (Go.Value.int Go.IntKind.i64 (-1)), (Go.Value.int Go.IntKind.i64 15)] h1) fun t21_17 h18 =>
(gd (wt t21_17 true) (fieldAddrV Try.prog 104 t1_0 7)).bind fun t23_19 =>
(gd (wt t21_17 true) (loadV Try.prog 46 t23_19 h18)).bind fun t24_20 =>
(gd (wt t21_17 true) (binV Try.prog .eql 46 (.tmp 24) (.const (Go.Value.int Go.IntKind.u64 0)) t24_20 (Go.Value.int Go.IntKind.u64 0))).bind fun t25_21 =>
(gd (wt t21_17 true) (fieldAddrV Try.prog 104 t1_0 6)).bind fun t26_22 =>
(gd (wt t21_17 true) (loadV Try.prog 3 t26_22 h18)).bind fun t27_23 =>
(gd (wt t21_17 true) (binV Try.prog .eql 3 (.tmp 27) (.const (Go.Value.int Go.IntKind.i64 (-1))) t27_23 (Go.Value.int Go.IntKind.i64 (-1)))).bind fun t28_24 =>
(gd (wt t21_17 true) (binV Try.prog .eql 4 (.tmp 25) (.tmp 28) t25_21 t28_24)).bind fun t29_25 =>
(pickV t21_17 t29_25 (Go.Value.bool Bool.false)).bind fun t30_26 =>
k .ret ⟨#[Aa, t1_0, t30_26, t3_2, t4_3, t6_4, t6_4,Ah,Ai,Aj,Ak,Al,An,Ao,Ap,Aq,Ar, t18_14, t18_14, t19_15, t20_16, t21_17, t21_17, t23_19, t24_20, t25_21, t26_22, t27_23, t28_24, t29_25, t30_26,Bg,Bh,Bi,Bj,Bk,Bl,Bm,Bn,Bo,Bp,Bq,Br,Bs], h18⟩) (
(fieldAddrV Try.prog 104 t1_0 6).bind fun t31_27 =>
(loadV Try.prog 3 t31_27 h1).bind fun t32_28 =>
(binV Try.prog .eql 3 (.tmp 32) (.const (Go.Value.int Go.IntKind.i64 0)) t32_28 (Go.Value.int Go.IntKind.i64 0)).bind fun t33_29 =>
(gd (wt t33_29 true) (fieldAddrV Try.prog 104 t1_0 7)).bind fun t35_30 =>
(gd (wt t33_29 true) (loadV Try.prog 46 t35_30 h1)).bind fun t36_31 =>
(gd (wt t33_29 true) (binV Try.prog .eql 46 (.tmp 36) (.const (Go.Value.int Go.IntKind.u64 0)) t36_31 (Go.Value.int Go.IntKind.u64 0))).bind fun t37_32 =>
(pickV t33_29 t37_32 (Go.Value.bool Bool.false)).bind fun t38_33 =>
(gd (wt t38_33 true) (fieldAddrV Try.prog 104 t1_0 5)).bind fun t40_34 =>
(gd (wt t38_33 true) (loadV Try.prog 84 t40_34 h1)).bind fun t41_35 =>
obH (gdH (wt t38_33 true) h1 (evC Try.prog 126 #[t41_35, (Go.Value.float Go.FloatKind.f64 0)] h1)) fun t42_36 h37 =>
(pickV t38_33 t42_36 (Go.Value.bool Bool.false)).bind fun t43_38 =>
k .ret ⟨#[Aa, t1_0, t43_38, t3_2, t4_3, t6_4, t6_4,Ah,Ai,Aj,Ak,Al,An,Ao,Ap,Aq,Ar, t18_14, t18_14,Au,Av,Aw,Ax,Ay,Az,Ba,Bb,Bc,Bd,Be,Bf, t31_27, t32_28, t33_29, t33_29, t35_30, t36_31, t37_32, t38_33, t38_33, t40_34, t41_35, t42_36, t43_38], h37⟩)) := by kernel_rfl
theorem call113 (h : Heap) : evC Try.prog 113 #[Aa] h = codeK Try.prog (evC Try.prog) loopL c113_0 ⟨#[Aa, undef, undef, undef, undef, undef, undef, undef, undef, undef, undef, undef, undef, undef, undef, undef, undef, undef, undef, undef, undef, undef, undef, undef, undef, undef, undef, undef, undef, undef, undef, undef, undef, undef, undef, undef, undef, undef, undef, undef, undef, undef, undef, undef], nm h⟩ (retK Try.f113 Try.prog h) :=
  (evC_call 113 Try.f113 c113_0 Try.func113 (by kernel_rfl) #[Aa] h).trans (by kernel_rfl)
theorem ret113 (h0 h : Heap) : retK Try.f113 Try.prog h0 .ret ⟨#[Aa,Ab,Ac,Ad,Ae,Af,Ag,Ah,Ai,Aj,Ak,Al,An,Ao,Ap,Aq,Ar,As,At,Au,Av,Aw,Ax,Ay,Az,Ba,Bb,Bc,Bd,Be,Bf,Bg,Bh,Bi,Bj,Bk,Bl,Bm,Bn,Bo,Bp,Bq,Br,Bs], h⟩ = fin h0 (some Ac) h := by kernel_rfl
end Go.Am
namespace Go.Am
open Go.Proofs
set_option maxRecDepth 100000
variable (Aa Ab Ac Ad Ae Af Ag Ah Ai : Value)
noncomputable def c110_0 : Code := bodyC Try.f110 []
theorem c110_0_eq {β : Type} (h : Heap) (k : Ex → St → Option β) : codeK Try.prog (evC Try.prog) loopL c110_0 ⟨#[Aa,Ab,Ac,Ad,Ae,Af,Ag,Ah,Ai], h⟩ k =
(binV Try.prog .eql 3 (.tmp 3) (.const (Go.Value.int Go.IntKind.i64 1)) Aa (Go.Value.int Go.IntKind.i64 1)).bind fun t4_0 =>
(gd (wt t4_0 false) (binV Try.prog .eql 3 (.tmp 6) (.const (Go.Value.int Go.IntKind.i64 3)) (gdV (wt t4_0 false) Aa) (Go.Value.int Go.IntKind.i64 3))).bind fun t7_1 =>
(pickV t4_0 (Go.Value.bool Bool.true) t7_1).bind fun t8_2 =>
k .ret ⟨#[Aa,Ab, t8_2,Aa, t4_0, t4_0, (gdV (wt t4_0 false) Aa), t7_1, t8_2], h⟩ := by kernel_rfl
theorem call110 (h : Heap) : evC Try.prog 110 #[Aa] h = codeK Try.prog (evC Try.prog) loopL c110_0 ⟨#[Aa, undef, undef, undef, undef, undef, undef, undef, undef], nm h⟩ (retK Try.f110 Try.prog h) :=
  (evC_call 110 Try.f110 c110_0 Try.func110 (by kernel_rfl) #[Aa] h).trans (by kernel_rfl)
theorem ret110 (h0 h : Heap) : retK Try.f110 Try.prog h0 .ret ⟨#[Aa,Ab,Ac,Ad,Ae,Af,Ag,Ah,Ai], h⟩ = fin h0 (some Ac) h := by kernel_rfl
end Go.Am
namespace Go.Am
open Go.Proofs
set_option maxRecDepth 100000
variable (Aa Ab Ac Ad Ae Af Ag Ah Ai Aj Ak Al An Ao Ap Aq Ar As At Au Av Aw Ax Ay Az Ba Bb Bc Bd Be Bf Bg Bh Bi Bj Bk Bl Bm Bn Bo Bp Bq Br Bs Bt Bu Bv Bw Bx By Bz Ca Cb Cc Cd Ce Cf Cg Ch Ci Cj Ck Cl Cm Cn Co Cp : Value)
noncomputable def c71_0 : Code := bodyC Try.f71 []
noncomputable def c71_1 : Code := bodyC Try.f71 [false]
noncomputable def c71_2 : Code := bodyC Try.f71 [true]
noncomputable def c71_3 : Code := bodyC Try.f71 [true, false]
noncomputable def c71_4 : Code := bodyC Try.f71 [true, true]
noncomputable def d71_0 : Array Oper := opsC (bodyC Try.f71 [true, false, false])
noncomputable def c71_5 : Code := bodyC Try.f71 [true, false, false]
noncomputable def c71_6 : Code := bodyC Try.f71 [true, false, true]
theorem c71_0_eq {β : Type} (h : Heap) (k : Ex → St → Option β) : codeK Try.prog (evC Try.prog) loopL c71_0 ⟨#[Aa,Ab,Ac,Ad,Ae,Af,Ag,Ah,Ai,Aj,Ak,Al,An,Ao,Ap,Aq,Ar,As,At,Au,Av,Aw,Ax,Ay,Az,Ba,Bb,Bc,Bd,Be,Bf,Bg,Bh,Bi,Bj,Bk,Bl,Bm,Bn,Bo,Bp,Bq,Br,Bs,Bt,Bu,Bv,Bw,Bx,By,Bz,Ca,Cb,Cc,Cd,Ce,Cf,Cg,Ch,Ci,Cj,Ck,Cl,Cm,Cn,Co,Cp], h⟩ k =
codeK Try.prog (evC Try.prog) loopL c71_1 ⟨#[Aa,Ab,Ac,Ad,Ae,Af,Ag,Ah,Ai,Aj,Ak,Al,An,Ao,Ap,Aq,Ar,As,At,Au,Av,Aw,Ax,Ay,Az,Ba,Bb,Bc,Bd,Be,Bf,Bg,Bh,Bi,Bj,Bk,Bl,Bm,Bn,Bo,Bp,Bq,Br,Bs,Bt,Bu,Bv,Bw,Bx,By,Bz,Ca,Cb,Cc,Cd,Ce,Cf,Cg,Ch,Ci,Cj,Ck,Cl,Cm,Cn,Co,Cp], h⟩ (seqK Try.prog (evC Try.prog) c71_2 k) := codeK_seq _ _ _ _ _ (by kernel_rfl) _ _
theorem c71_1_eq {β : Type} (h : Heap) (k : Ex → St → Option β) : codeK Try.prog (evC Try.prog) loopL c71_1 ⟨#[Aa,Ab,Ac,Ad,Ae,Af,Ag,Ah,Ai,Aj,Ak,Al,An,Ao,Ap,Aq,Ar,As,At,Au,Av,Aw,Ax,Ay,Az,Ba,Bb,Bc,Bd,Be,Bf,Bg,Bh,Bi,Bj,Bk,Bl,Bm,Bn,Bo,Bp,Bq,Br,Bs,Bt,Bu,Bv,Bw,Bx,By,Bz,Ca,Cb,Cc,Cd,Ce,Cf,Cg,Ch,Ci,Cj,Ck,Cl,Cm,Cn,Co,Cp], h⟩ k =
obH (boxV Try.prog 104 Aa h) fun t1_0 h1 =>
k .normal ⟨#[Aa, t1_0, (Go.Value.bool Bool.false),Ad,Ae,Af,Ag,Ah,Ai,Aj,Ak,Al,An,Ao,Ap,Aq,Ar,As,At,Au,Av,Aw,Ax,Ay,Az,Ba,Bb,Bc,Bd,Be,Bf,Bg,Bh,Bi,Bj,Bk,Bl,Bm,Bn,Bo,Bp,Bq,Br,Bs,Bt,Bu,Bv,Bw,Bx,By,Bz,Ca,Cb,Cc,Cd,Ce,Cf,Cg,Ch,Ci,Cj,Ck,Cl,Cm,Cn,Co,Cp], h1⟩ := by kernel_rfl
theorem c71_2_eq {β : Type} (h : Heap) (k : Ex → St → Option β) : codeK Try.prog (evC Try.prog) loopL c71_2 ⟨#[Aa,Ab,Ac,Ad,Ae,Af,Ag,Ah,Ai,Aj,Ak,Al,An,Ao,Ap,Aq,Ar,As,At,Au,Av,Aw,Ax,Ay,Az,Ba,Bb,Bc,Bd,Be,Bf,Bg,Bh,Bi,Bj,Bk,Bl,Bm,Bn,Bo,Bp,Bq,Br,Bs,Bt,Bu,Bv,Bw,Bx,By,Bz,Ca,Cb,Cc,Cd,Ce,Cf,Cg,Ch,Ci,Cj,Ck,Cl,Cm,Cn,Co,Cp], h⟩ k =
codeK Try.prog (evC Try.prog) loopL c71_3 ⟨#[Aa,Ab,Ac,Ad,Ae,Af,Ag,Ah,Ai,Aj,Ak,Al,An,Ao,Ap,Aq,Ar,As,At,Au,Av,Aw,Ax,Ay,Az,Ba,Bb,Bc,Bd,Be,Bf,Bg,Bh,Bi,Bj,Bk,Bl,Bm,Bn,Bo,Bp,Bq,Br,Bs,Bt,Bu,Bv,Bw,Bx,By,Bz,Ca,Cb,Cc,Cd,Ce,Cf,Cg,Ch,Ci,Cj,Ck,Cl,Cm,Cn,Co,Cp], h⟩ (seqK Try.prog (evC Try.prog) c71_4 k) := codeK_seq _ _ _ _ _ (by kernel_rfl) _ _
theorem c71_3_eq {β : Type} (h : Heap) (k : Ex → St → Option β) : codeK Try.prog (evC Try.prog) loopL c71_3 ⟨#[Aa,Ab,Ac,Ad,Ae,Af,Ag,Ah,Ai,Aj,Ak,Al,An,Ao,Ap,Aq,Ar,As,At,Au,Av,Aw,Ax,Ay,Az,Ba,Bb,Bc,Bd,Be,Bf,Bg,Bh,Bi,Bj,Bk,Bl,Bm,Bn,Bo,Bp,Bq,Br,Bs,Bt,Bu,Bv,Bw,Bx,By,Bz,Ca,Cb,Cc,Cd,Ce,Cf,Cg,Ch,Ci,Cj,Ck,Cl,Cm,Cn,Co,Cp], h⟩ k =
codeK Try.prog (evC Try.prog) loopL c71_5 ⟨#[Aa,Ab,Ac,Ad,Ae,Af,Ag,Ah,Ai,Aj,Ak,Al,An,Ao,Ap,Aq,Ar,As,At,Au,Av,Aw,Ax,Ay,Az,Ba,Bb,Bc,Bd,Be,Bf,Bg,Bh,Bi,Bj,Bk,Bl,Bm,Bn,Bo,Bp,Bq,Br,Bs,Bt,Bu,Bv,Bw,Bx,By,Bz,Ca,Cb,Cc,Cd,Ce,Cf,Cg,Ch,Ci,Cj,Ck,Cl,Cm,Cn,Co,Cp], h⟩ (seqK Try.prog (evC Try.prog) c71_6 k) := codeK_seq _ _ _ _ _ (by kernel_rfl) _ _
theorem c71_4_eq {β : Type} (h : Heap) (k : Ex → St → Option β) : codeK Try.prog (evC Try.prog) loopL c71_4 ⟨#[Aa,Ab,Ac,Ad,Ae,Af,Ag,Ah,Ai,Aj,Ak,Al,An,Ao,Ap,Aq,Ar,As,At,Au,Av,Aw,Ax,Ay,Az,Ba,Bb,Bc,Bd,Be,Bf,Bg,Bh,Bi,Bj,Bk,Bl,Bm,Bn,Bo,Bp,Bq,Br,Bs,Bt,Bu,Bv,Bw,Bx,By,Bz,Ca,Cb,Cc,Cd,Ce,Cf,Cg,Ch,Ci,Cj,Ck,Cl,Cm,Cn,Co,Cp], h⟩ k =
(fieldAddrV Try.prog 104 Ab 3).bind fun t31_2 =>
(loadV Try.prog 3 t31_2 h).bind fun t32_3 =>
obH (evC Try.prog 111 #[t32_3, (Go.Value.int Go.IntKind.i64 0), (Go.Value.int Go.IntKind.i64 3)] h) fun t33_4 h5 =>
(unV Try.prog .not t33_4).bind fun t34_6 =>
(gd (wt t34_6 false) (loadV Try.prog 104 Ab h5)).bind fun t36_7 =>
obH (gdH (wt t34_6 false) h5 (evC Try.prog 113 #[t36_7] h5)) fun t37_8 h9 =>
(gd (wt t34_6 false) (unV Try.prog .not t37_8)).bind fun t38_10 =>
(pickV t34_6 (Go.Value.bool Bool.true) t38_10).bind fun t39_11 =>
(gd (wt t39_11 false) (fieldAddrV Try.prog 104 Ab 9)).bind fun t41_12 =>
(gd (wt t39_11 false) (loadV Try.prog 23 t41_12 h9)).bind fun t42_13 =>
(gd (wt t39_11 false) (lenV Try.prog 23 t42_13 h9)).bind fun t43_14 =>
(gd (wt t39_11 false) (binV Try.prog .gtr 3 (.tmp 43) (.const (Go.Value.int Go.IntKind.i64 20000)) t43_14 (Go.Value.int Go.IntKind.i64 20000))).bind fun t44_15 =>
(pickV t39_11 (Go.Value.bool Bool.true) t44_15).bind fun t45_16 =>
cnd t45_16 (
k .ret ⟨#[Aa,Ab, (Go.Value.bool Bool.false),Ad,Ae,Af,Ag,Ah,Ai,Aj,Ak,Al,An,Ao,Ap,Aq,Ar,As,At,Au,Av,Aw,Ax,Ay,Az,Ba,Bb,Bc,Bd,Be,Bf, t31_2, t32_3, t33_4, t34_6, t34_6, t36_7, t37_8, t38_10, t39_11, t39_11, t41_12, t42_13, t43_14, t44_15, t45_16,Bv,Bw,Bx,By,Bz,Ca,Cb,Cc,Cd,Ce,Cf,Cg,Ch,Ci,Cj,Ck,Cl,Cm,Cn,Co,Cp], h9⟩) (
(fieldAddrV Try.prog 104 Ab 3).bind fun t46_17 =>
(loadV Try.prog 3 t46_17 h9).bind fun t47_18 =>
(binV Try.prog .eql 3 (.tmp 47) (.const (Go.Value.int Go.IntKind.i64 0)) t47_18 (Go.Value.int Go.IntKind.i64 0)).bind fun t48_19 =>
cnd t48_19 (
(fieldAddrV Try.prog 104 Ab 8).bind fun t49_20 =>
(loadV Try.prog 23 t49_20 h9).bind fun t50_21 =>
(lenV Try.prog 23 t50_21 h9).bind fun t51_22 =>
(binV Try.prog .leq 3 (.tmp 51) (.const (Go.Value.int Go.IntKind.i64 256)) t51_22 (Go.Value.int Go.IntKind.i64 256)).bind fun t52_23 =>
(gd (wt t52_23 true) (fieldAddrV Try.prog 104 Ab 4)).bind fun t54_24 =>
(gd (wt t52_23 true) (loadV Try.prog 3 t54_24 h9)).bind fun t55_25 =>
(gd (wt t52_23 true) (binV Try.prog .eql 3 (.tmp 55) (.const (Go.Value.int Go.IntKind.i64 0)) t55_25 (Go.Value.int Go.IntKind.i64 0))).bind fun t56_26 =>
(pickV t52_23 t56_26 (Go.Value.bool Bool.false)).bind fun t57_27 =>
k .ret ⟨#[Aa,Ab, t57_27,Ad,Ae,Af,Ag,Ah,Ai,Aj,Ak,Al,An,Ao,Ap,Aq,Ar,As,At,Au,Av,Aw,Ax,Ay,Az,Ba,Bb,Bc,Bd,Be,Bf, t31_2, t32_3, t33_4, t34_6, t34_6, t36_7, t37_8, t38_10, t39_11, t39_11, t41_12, t42_13, t43_14, t44_15, t45_16, t46_17, t47_18, t48_19, t49_20, t50_21, t51_22, t52_23, t52_23, t54_24, t55_25, t56_26, t57_27,Ch,Ci,Cj,Ck,Cl,Cm,Cn,Co,Cp], h9⟩) (
(fieldAddrV Try.prog 104 Ab 8).bind fun t58_28 =>
(loadV Try.prog 23 t58_28 h9).bind fun t59_29 =>
(lenV Try.prog 23 t59_29 h9).bind fun t60_30 =>
(binV Try.prog .eql 3 (.tmp 60) (.const (Go.Value.int Go.IntKind.i64 0)) t60_30 (Go.Value.int Go.IntKind.i64 0)).bind fun t61_31 =>
(gd (wt t61_31 true) (fieldAddrV Try.prog 104 Ab 4)).bind fun t63_32 =>
(gd (wt t61_31 true) (loadV Try.prog 3 t63_32 h9)).bind fun t64_33 =>
obH (gdH (wt t61_31 true) h9 (evC Try.prog 111 #[t64_33, (Go.Value.int Go.IntKind.i64 0), (Go.Value.int Go.IntKind.i64 15)] h9)) fun t65_34 h35 =>
(pickV t61_31 t65_34 (Go.Value.bool Bool.false)).bind fun t66_36 =>
k .ret ⟨#[Aa,Ab, t66_36,Ad,Ae,Af,Ag,Ah,Ai,Aj,Ak,Al,An,Ao,Ap,Aq,Ar,As,At,Au,Av,Aw,Ax,Ay,Az,Ba,Bb,Bc,Bd,Be,Bf, t31_2, t32_3, t33_4, t34_6, t34_6, t36_7, t37_8, t38_10, t39_11, t39_11, t41_12, t42_13, t43_14, t44_15, t45_16, t46_17, t47_18, t48_19,By,Bz,Ca,Cb,Cc,Cd,Ce,Cf,Cg, t58_28, t59_29, t60_30, t61_31, t61_31, t63_32, t64_33, t65_34, t66_36], h35⟩)) := by kernel_rfl
theorem d71_0_0 {β : Type} (h : Heap) (r m : List Nat) (k : St → Option β) : regD Try.prog (evC Try.prog) d71_0 0 ⟨#[Aa,Ab,Ac,Ad,Ae,Af,Ag,Ah,Ai,Aj,Ak,Al,An,Ao,Ap,Aq,Ar,As,At,Au,Av,Aw,Ax,Ay,Az,Ba,Bb,Bc,Bd,Be,Bf,Bg,Bh,Bi,Bj,Bk,Bl,Bm,Bn,Bo,Bp,Bq,Br,Bs,Bt,Bu,Bv,Bw,Bx,By,Bz,Ca,Cb,Cc,Cd,Ce,Cf,Cg,Ch,Ci,Cj,Ck,Cl,Cm,Cn,Co,Cp], h⟩ r m k =
(fieldAddrV Try.prog 104 Ab 0).bind fun t3_37 =>
regD Try.prog (evC Try.prog) d71_0 1 ⟨#[Aa,Ab,Ac, t3_37,Ae,Af,Ag,Ah,Ai,Aj,Ak,Al,An,Ao,Ap,Aq,Ar,As,At,Au,Av,Aw,Ax,Ay,Az,Ba,Bb,Bc,Bd,Be,Bf,Bg,Bh,Bi,Bj,Bk,Bl,Bm,Bn,Bo,Bp,Bq,Br,Bs,Bt,Bu,Bv,Bw,Bx,By,Bz,Ca,Cb,Cc,Cd,Ce,Cf,Cg,Ch,Ci,Cj,Ck,Cl,Cm,Cn,Co,Cp], h⟩ r m k := (regD_step _ _ d71_0 0 (by kernel_rfl) _ _ _ _).trans (by kernel_rfl)
theorem d71_0_1 {β : Type} (h : Heap) (r m : List Nat) (k : St → Option β) : regD Try.prog (evC Try.prog) d71_0 1 ⟨#[Aa,Ab,Ac,Ad,Ae,Af,Ag,Ah,Ai,Aj,Ak,Al,An,Ao,Ap,Aq,Ar,As,At,Au,Av,Aw,Ax,Ay,Az,Ba,Bb,Bc,Bd,Be,Bf,Bg,Bh,Bi,Bj,Bk,Bl,Bm,Bn,Bo,Bp,Bq,Br,Bs,Bt,Bu,Bv,Bw,Bx,By,Bz,Ca,Cb,Cc,Cd,Ce,Cf,Cg,Ch,Ci,Cj,Ck,Cl,Cm,Cn,Co,Cp], h⟩ r m k =
(loadV Try.prog 3 Ad h).bind fun t4_38 =>
regD Try.prog (evC Try.prog) d71_0 2 ⟨#[Aa,Ab,Ac,Ad, t4_38,Af,Ag,Ah,Ai,Aj,Ak,Al,An,Ao,Ap,Aq,Ar,As,At,Au,Av,Aw,Ax,Ay,Az,Ba,Bb,Bc,Bd,Be,Bf,Bg,Bh,Bi,Bj,Bk,Bl,Bm,Bn,Bo,Bp,Bq,Br,Bs,Bt,Bu,Bv,Bw,Bx,By,Bz,Ca,Cb,Cc,Cd,Ce,Cf,Cg,Ch,Ci,Cj,Ck,Cl,Cm,Cn,Co,Cp], h⟩ r m k := (regD_step _ _ d71_0 1 (by kernel_rfl) _ _ _ _).trans (by kernel_rfl)
theorem d71_0_2 {β : Type} (h : Heap) (r m : List Nat) (k : St → Option β) : regD Try.prog (evC Try.prog) d71_0 2 ⟨#[Aa,Ab,Ac,Ad,Ae,Af,Ag,Ah,Ai,Aj,Ak,Al,An,Ao,Ap,Aq,Ar,As,At,Au,Av,Aw,Ax,Ay,Az,Ba,Bb,Bc,Bd,Be,Bf,Bg,Bh,Bi,Bj,Bk,Bl,Bm,Bn,Bo,Bp,Bq,Br,Bs,Bt,Bu,Bv,Bw,Bx,By,Bz,Ca,Cb,Cc,Cd,Ce,Cf,Cg,Ch,Ci,Cj,Ck,Cl,Cm,Cn,Co,Cp], h⟩ r m k =
obH (evC Try.prog 111 #[Ae, (Go.Value.int Go.IntKind.i64 0), (Go.Value.int Go.IntKind.i64 15)] h) fun t5_39 h40 =>
regD Try.prog (evC Try.prog) d71_0 3 ⟨#[Aa,Ab,Ac,Ad,Ae, t5_39,Ag,Ah,Ai,Aj,Ak,Al,An,Ao,Ap,Aq,Ar,As,At,Au,Av,Aw,Ax,Ay,Az,Ba,Bb,Bc,Bd,Be,Bf,Bg,Bh,Bi,Bj,Bk,Bl,Bm,Bn,Bo,Bp,Bq,Br,Bs,Bt,Bu,Bv,Bw,Bx,By,Bz,Ca,Cb,Cc,Cd,Ce,Cf,Cg,Ch,Ci,Cj,Ck,Cl,Cm,Cn,Co,Cp], h40⟩ r m k := (regD_step _ _ d71_0 2 (by kernel_rfl) _ _ _ _).trans (by kernel_rfl)
theorem d71_0_3 {β : Type} (h : Heap) (r m : List Nat) (k : St → Option β) : regD Try.prog (evC Try.prog) d71_0 3 ⟨#[Aa,Ab,Ac,Ad,Ae,Af,Ag,Ah,Ai,Aj,Ak,Al,An,Ao,Ap,Aq,Ar,As,At,Au,Av,Aw,Ax,Ay,Az,Ba,Bb,Bc,Bd,Be,Bf,Bg,Bh,Bi,Bj,Bk,Bl,Bm,Bn,Bo,Bp,Bq,Br,Bs,Bt,Bu,Bv,Bw,Bx,By,Bz,Ca,Cb,Cc,Cd,Ce,Cf,Cg,Ch,Ci,Cj,Ck,Cl,Cm,Cn,Co,Cp], h⟩ r m k =
(unV Try.prog .not Af).bind fun t6_41 =>
regD Try.prog (evC Try.prog) d71_0 4 ⟨#[Aa,Ab,Ac,Ad,Ae,Af, t6_41,Ah,Ai,Aj,Ak,Al,An,Ao,Ap,Aq,Ar,As,At,Au,Av,Aw,Ax,Ay,Az,Ba,Bb,Bc,Bd,Be,Bf,Bg,Bh,Bi,Bj,Bk,Bl,Bm,Bn,Bo,Bp,Bq,Br,Bs,Bt,Bu,Bv,Bw,Bx,By,Bz,Ca,Cb,Cc,Cd,Ce,Cf,Cg,Ch,Ci,Cj,Ck,Cl,Cm,Cn,Co,Cp], h⟩ r m k := (regD_step _ _ d71_0 3 (by kernel_rfl) _ _ _ _).trans (by kernel_rfl)
theorem d71_0_4 {β : Type} (h : Heap) (r m : List Nat) (k : St → Option β) : regD Try.prog (evC Try.prog) d71_0 4 ⟨#[Aa,Ab,Ac,Ad,Ae,Af,Ag,Ah,Ai,Aj,Ak,Al,An,Ao,Ap,Aq,Ar,As,At,Au,Av,Aw,Ax,Ay,Az,Ba,Bb,Bc,Bd,Be,Bf,Bg,Bh,Bi,Bj,Bk,Bl,Bm,Bn,Bo,Bp,Bq,Br,Bs,Bt,Bu,Bv,Bw,Bx,By,Bz,Ca,Cb,Cc,Cd,Ce,Cf,Cg,Ch,Ci,Cj,Ck,Cl,Cm,Cn,Co,Cp], h⟩ r m k =
regD Try.prog (evC Try.prog) d71_0 5 ⟨#[Aa,Ab,Ac,Ad,Ae,Af,Ag,Ag,Ai,Aj,Ak,Al,An,Ao,Ap,Aq,Ar,As,At,Au,Av,Aw,Ax,Ay,Az,Ba,Bb,Bc,Bd,Be,Bf,Bg,Bh,Bi,Bj,Bk,Bl,Bm,Bn,Bo,Bp,Bq,Br,Bs,Bt,Bu,Bv,Bw,Bx,By,Bz,Ca,Cb,Cc,Cd,Ce,Cf,Cg,Ch,Ci,Cj,Ck,Cl,Cm,Cn,Co,Cp], h⟩ r m k := regD_move _ _ d71_0 4 (by kernel_rfl) (by kernel_rfl) (by kernel_rfl) _ _ _ _ _ _ (by kernel_rfl) (by kernel_rfl)
theorem d71_0_5 {β : Type} (h : Heap) (r m : List Nat) (k : St → Option β) : regD Try.prog (evC Try.prog) d71_0 5 ⟨#[Aa,Ab,Ac,Ad,Ae,Af,Ag,Ah,Ai,Aj,Ak,Al,An,Ao,Ap,Aq,Ar,As,At,Au,Av,Aw,Ax,Ay,Az,Ba,Bb,Bc,Bd,Be,Bf,Bg,Bh,Bi,Bj,Bk,Bl,Bm,Bn,Bo,Bp,Bq,Br,Bs,Bt,Bu,Bv,Bw,Bx,By,Bz,Ca,Cb,Cc,Cd,Ce,Cf,Cg,Ch,Ci,Cj,Ck,Cl,Cm,Cn,Co,Cp], h⟩ r m k =
(gd (wt Ah false) (fieldAddrV Try.prog 104 Ab 1)).bind fun t8_42 =>
regD Try.prog (evC Try.prog) d71_0 6 ⟨#[Aa,Ab,Ac,Ad,Ae,Af,Ag,Ah, t8_42,Aj,Ak,Al,An,Ao,Ap,Aq,Ar,As,At,Au,Av,Aw,Ax,Ay,Az,Ba,Bb,Bc,Bd,Be,Bf,Bg,Bh,Bi,Bj,Bk,Bl,Bm,Bn,Bo,Bp,Bq,Br,Bs,Bt,Bu,Bv,Bw,Bx,By,Bz,Ca,Cb,Cc,Cd,Ce,Cf,Cg,Ch,Ci,Cj,Ck,Cl,Cm,Cn,Co,Cp], h⟩ r m k := (regD_step _ _ d71_0 5 (by kernel_rfl) _ _ _ _).trans (by kernel_rfl)
theorem d71_0_6 {β : Type} (h : Heap) (r m : List Nat) (k : St → Option β) : regD Try.prog (evC Try.prog) d71_0 6 ⟨#[Aa,Ab,Ac,Ad,Ae,Af,Ag,Ah,Ai,Aj,Ak,Al,An,Ao,Ap,Aq,Ar,As,At,Au,Av,Aw,Ax,Ay,Az,Ba,Bb,Bc,Bd,Be,Bf,Bg,Bh,Bi,Bj,Bk,Bl,Bm,Bn,Bo,Bp,Bq,Br,Bs,Bt,Bu,Bv,Bw,Bx,By,Bz,Ca,Cb,Cc,Cd,Ce,Cf,Cg,Ch,Ci,Cj,Ck,Cl,Cm,Cn,Co,Cp], h⟩ r m k =
(gd (wt Ah false) (loadV Try.prog 46 Ai h)).bind fun t9_43 =>
regD Try.prog (evC Try.prog) d71_0 7 ⟨#[Aa,Ab,Ac,Ad,Ae,Af,Ag,Ah,Ai, t9_43,Ak,Al,An,Ao,Ap,Aq,Ar,As,At,Au,Av,Aw,Ax,Ay,Az,Ba,Bb,Bc,Bd,Be,Bf,Bg,Bh,Bi,Bj,Bk,Bl,Bm,Bn,Bo,Bp,Bq,Br,Bs,Bt,Bu,Bv,Bw,Bx,By,Bz,Ca,Cb,Cc,Cd,Ce,Cf,Cg,Ch,Ci,Cj,Ck,Cl,Cm,Cn,Co,Cp], h⟩ r m k := (regD_step _ _ d71_0 6 (by kernel_rfl) _ _ _ _).trans (by kernel_rfl)
theorem d71_0_7 {β : Type} (h : Heap) (r m : List Nat) (k : St → Option β) : regD Try.prog (evC Try.prog) d71_0 7 ⟨#[Aa,Ab,Ac,Ad,Ae,Af,Ag,Ah,Ai,Aj,Ak,Al,An,Ao,Ap,Aq,Ar,As,At,Au,Av,Aw,Ax,Ay,Az,Ba,Bb,Bc,Bd,Be,Bf,Bg,Bh,Bi,Bj,Bk,Bl,Bm,Bn,Bo,Bp,Bq,Br,Bs,Bt,Bu,Bv,Bw,Bx,By,Bz,Ca,Cb,Cc,Cd,Ce,Cf,Cg,Ch,Ci,Cj,Ck,Cl,Cm,Cn,Co,Cp], h⟩ r m k =
(gd (wt Ah false) (binV Try.prog .lss 46 (.tmp 9) (.const (Go.Value.int Go.IntKind.u64 1)) Aj (Go.Value.int Go.IntKind.u64 1))).bind fun t10_44 =>
regD Try.prog (evC Try.prog) d71_0 8 ⟨#[Aa,Ab,Ac,Ad,Ae,Af,Ag,Ah,Ai,Aj, t10_44,Al,An,Ao,Ap,Aq,Ar,As,At,Au,Av,Aw,Ax,Ay,Az,Ba,Bb,Bc,Bd,Be,Bf,Bg,Bh,Bi,Bj,Bk,Bl,Bm,Bn,Bo,Bp,Bq,Br,Bs,Bt,Bu,Bv,Bw,Bx,By,Bz,Ca,Cb,Cc,Cd,Ce,Cf,Cg,Ch,Ci,Cj,Ck,Cl,Cm,Cn,Co,Cp], h⟩ r m k := (regD_step _ _ d71_0 7 (by kernel_rfl) _ _ _ _).trans (by kernel_rfl)
theorem d71_0_8 {β : Type} (h : Heap) (r m : List Nat) (k : St → Option β) : regD Try.prog (evC Try.prog) d71_0 8 ⟨#[Aa,Ab,Ac,Ad,Ae,Af,Ag,Ah,Ai,Aj,Ak,Al,An,Ao,Ap,Aq,Ar,As,At,Au,Av,Aw,Ax,Ay,Az,Ba,Bb,Bc,Bd,Be,Bf,Bg,Bh,Bi,Bj,Bk,Bl,Bm,Bn,Bo,Bp,Bq,Br,Bs,Bt,Bu,Bv,Bw,Bx,By,Bz,Ca,Cb,Cc,Cd,Ce,Cf,Cg,Ch,Ci,Cj,Ck,Cl,Cm,Cn,Co,Cp], h⟩ r m k =
(pickV Ah (Go.Value.bool Bool.true) Ak).bind fun t11_45 =>
regD Try.prog (evC Try.prog) d71_0 9 ⟨#[Aa,Ab,Ac,Ad,Ae,Af,Ag,Ah,Ai,Aj,Ak, t11_45,An,Ao,Ap,Aq,Ar,As,At,Au,Av,Aw,Ax,Ay,Az,Ba,Bb,Bc,Bd,Be,Bf,Bg,Bh,Bi,Bj,Bk,Bl,Bm,Bn,Bo,Bp,Bq,Br,Bs,Bt,Bu,Bv,Bw,Bx,By,Bz,Ca,Cb,Cc,Cd,Ce,Cf,Cg,Ch,Ci,Cj,Ck,Cl,Cm,Cn,Co,Cp], h⟩ r m k := (regD_step _ _ d71_0 8 (by kernel_rfl) _ _ _ _).trans (by kernel_rfl)
theorem d71_0_9 {β : Type} (h : Heap) (r m : List Nat) (k : St → Option β) : regD Try.prog (evC Try.prog) d71_0 9 ⟨#[Aa,Ab,Ac,Ad,Ae,Af,Ag,Ah,Ai,Aj,Ak,Al,An,Ao,Ap,Aq,Ar,As,At,Au,Av,Aw,Ax,Ay,Az,Ba,Bb,Bc,Bd,Be,Bf,Bg,Bh,Bi,Bj,Bk,Bl,Bm,Bn,Bo,Bp,Bq,Br,Bs,Bt,Bu,Bv,Bw,Bx,By,Bz,Ca,Cb,Cc,Cd,Ce,Cf,Cg,Ch,Ci,Cj,Ck,Cl,Cm,Cn,Co,Cp], h⟩ r m k =
regD Try.prog (evC Try.prog) d71_0 10 ⟨#[Aa,Ab,Ac,Ad,Ae,Af,Ag,Ah,Ai,Aj,Ak,Al,Al,Ao,Ap,Aq,Ar,As,At,Au,Av,Aw,Ax,Ay,Az,Ba,Bb,Bc,Bd,Be,Bf,Bg,Bh,Bi,Bj,Bk,Bl,Bm,Bn,Bo,Bp,Bq,Br,Bs,Bt,Bu,Bv,Bw,Bx,By,Bz,Ca,Cb,Cc,Cd,Ce,Cf,Cg,Ch,Ci,Cj,Ck,Cl,Cm,Cn,Co,Cp], h⟩ r m k := regD_move _ _ d71_0 9 (by kernel_rfl) (by kernel_rfl) (by kernel_rfl) _ _ _ _ _ _ (by kernel_rfl) (by kernel_rfl)
theorem d71_0_10 {β : Type} (h : Heap) (r m : List Nat) (k : St → Option β) : regD Try.prog (evC Try.prog) d71_0 10 ⟨#[Aa,Ab,Ac,Ad,Ae,Af,Ag,Ah,Ai,Aj,Ak,Al,An,Ao,Ap,Aq,Ar,As,At,Au,Av,Aw,Ax,Ay,Az,Ba,Bb,Bc,Bd,Be,Bf,Bg,Bh,Bi,Bj,Bk,Bl,Bm,Bn,Bo,Bp,Bq,Br,Bs,Bt,Bu,Bv,Bw,Bx,By,Bz,Ca,Cb,Cc,Cd,Ce,Cf,Cg,Ch,Ci,Cj,Ck,Cl,Cm,Cn,Co,Cp], h⟩ r m k =
(gd (wt An false) (fieldAddrV Try.prog 104 Ab 2)).bind fun t13_46 =>
regD Try.prog (evC Try.prog) d71_0 11 ⟨#[Aa,Ab,Ac,Ad,Ae,Af,Ag,Ah,Ai,Aj,Ak,Al,An, t13_46,Ap,Aq,Ar,As,At,Au,Av,Aw,Ax,Ay,Az,Ba,Bb,Bc,Bd,Be,Bf,Bg,Bh,Bi,Bj,Bk,Bl,Bm,Bn,Bo,Bp,Bq,Br,Bs,Bt,Bu,Bv,Bw,Bx,By,Bz,Ca,Cb,Cc,Cd,Ce,Cf,Cg,Ch,Ci,Cj,Ck,Cl,Cm,Cn,Co,Cp], h⟩ r m k := (regD_step _ _ d71_0 10 (by kernel_rfl) _ _ _ _).trans (by kernel_rfl)
theorem d71_0_11 {β : Type} (h : Heap) (r m : List Nat) (k : St → Option β) : regD Try.prog (evC Try.prog) d71_0 11 ⟨#[Aa,Ab,Ac,Ad,Ae,Af,Ag,Ah,Ai,Aj,Ak,Al,An,Ao,Ap,Aq,Ar,As,At,Au,Av,Aw,Ax,Ay,Az,Ba,Bb,Bc,Bd,Be,Bf,Bg,Bh,Bi,Bj,Bk,Bl,Bm,Bn,Bo,Bp,Bq,Br,Bs,Bt,Bu,Bv,Bw,Bx,By,Bz,Ca,Cb,Cc,Cd,Ce,Cf,Cg,Ch,Ci,Cj,Ck,Cl,Cm,Cn,Co,Cp], h⟩ r m k =
(gd (wt An false) (loadV Try.prog 47 Ao h)).bind fun t14_47 =>
regD Try.prog (evC Try.prog) d71_0 12 ⟨#[Aa,Ab,Ac,Ad,Ae,Af,Ag,Ah,Ai,Aj,Ak,Al,An,Ao, t14_47,Aq,Ar,As,At,Au,Av,Aw,Ax,Ay,Az,Ba,Bb,Bc,Bd,Be,Bf,Bg,Bh,Bi,Bj,Bk,Bl,Bm,Bn,Bo,Bp,Bq,Br,Bs,Bt,Bu,Bv,Bw,Bx,By,Bz,Ca,Cb,Cc,Cd,Ce,Cf,Cg,Ch,Ci,Cj,Ck,Cl,Cm,Cn,Co,Cp], h⟩ r m k := (regD_step _ _ d71_0 11 (by kernel_rfl) _ _ _ _).trans (by kernel_rfl)
theorem d71_0_12 {β : Type} (h : Heap) (r m : List Nat) (k : St → Option β) : regD Try.prog (evC Try.prog) d71_0 12 ⟨#[Aa,Ab,Ac,Ad,Ae,Af,Ag,Ah,Ai,Aj,Ak,Al,An,Ao,Ap,Aq,Ar,As,At,Au,Av,Aw,Ax,Ay,Az,Ba,Bb,Bc,Bd,Be,Bf,Bg,Bh,Bi,Bj,Bk,Bl,Bm,Bn,Bo,Bp,Bq,Br,Bs,Bt,Bu,Bv,Bw,Bx,By,Bz,Ca,Cb,Cc,Cd,Ce,Cf,Cg,Ch,Ci,Cj,Ck,Cl,Cm,Cn,Co,Cp], h⟩ r m k =
(gd (wt An false) (binV Try.prog .eql 47 (.tmp 14) (.const (Go.Value.int Go.IntKind.u64 0)) Ap (Go.Value.int Go.IntKind.u64 0))).bind fun t15_48 =>
regD Try.prog (evC Try.prog) d71_0 13 ⟨#[Aa,Ab,Ac,Ad,Ae,Af,Ag,Ah,Ai,Aj,Ak,Al,An,Ao,Ap, t15_48,Ar,As,At,Au,Av,Aw,Ax,Ay,Az,Ba,Bb,Bc,Bd,Be,Bf,Bg,Bh,Bi,Bj,Bk,Bl,Bm,Bn,Bo,Bp,Bq,Br,Bs,Bt,Bu,Bv,Bw,Bx,By,Bz,Ca,Cb,Cc,Cd,Ce,Cf,Cg,Ch,Ci,Cj,Ck,Cl,Cm,Cn,Co,Cp], h⟩ r m k := (regD_step _ _ d71_0 12 (by kernel_rfl) _ _ _ _).trans (by kernel_rfl)
theorem d71_0_13 {β : Type} (h : Heap) (r m : List Nat) (k : St → Option β) : regD Try.prog (evC Try.prog) d71_0 13 ⟨#[Aa,Ab,Ac,Ad,Ae,Af,Ag,Ah,Ai,Aj,Ak,Al,An,Ao,Ap,Aq,Ar,As,At,Au,Av,Aw,Ax,Ay,Az,Ba,Bb,Bc,Bd,Be,Bf,Bg,Bh,Bi,Bj,Bk,Bl,Bm,Bn,Bo,Bp,Bq,Br,Bs,Bt,Bu,Bv,Bw,Bx,By,Bz,Ca,Cb,Cc,Cd,Ce,Cf,Cg,Ch,Ci,Cj,Ck,Cl,Cm,Cn,Co,Cp], h⟩ r m k =
(pickV An (Go.Value.bool Bool.true) Aq).bind fun t16_49 =>
regD Try.prog (evC Try.prog) d71_0 14 ⟨#[Aa,Ab,Ac,Ad,Ae,Af,Ag,Ah,Ai,Aj,Ak,Al,An,Ao,Ap,Aq, t16_49,As,At,Au,Av,Aw,Ax,Ay,Az,Ba,Bb,Bc,Bd,Be,Bf,Bg,Bh,Bi,Bj,Bk,Bl,Bm,Bn,Bo,Bp,Bq,Br,Bs,Bt,Bu,Bv,Bw,Bx,By,Bz,Ca,Cb,Cc,Cd,Ce,Cf,Cg,Ch,Ci,Cj,Ck,Cl,Cm,Cn,Co,Cp], h⟩ r m k := (regD_step _ _ d71_0 13 (by kernel_rfl) _ _ _ _).trans (by kernel_rfl)
theorem d71_0_14 {β : Type} (h : Heap) (r m : List Nat) (k : St → Option β) : regD Try.prog (evC Try.prog) d71_0 14 ⟨#[Aa,Ab,Ac,Ad,Ae,Af,Ag,Ah,Ai,Aj,Ak,Al,An,Ao,Ap,Aq,Ar,As,At,Au,Av,Aw,Ax,Ay,Az,Ba,Bb,Bc,Bd,Be,Bf,Bg,Bh,Bi,Bj,Bk,Bl,Bm,Bn,Bo,Bp,Bq,Br,Bs,Bt,Bu,Bv,Bw,Bx,By,Bz,Ca,Cb,Cc,Cd,Ce,Cf,Cg,Ch,Ci,Cj,Ck,Cl,Cm,Cn,Co,Cp], h⟩ r m k =
regD Try.prog (evC Try.prog) d71_0 15 ⟨#[Aa,Ab,Ac,Ad,Ae,Af,Ag,Ah,Ai,Aj,Ak,Al,An,Ao,Ap,Aq,Ar,Ar,At,Au,Av,Aw,Ax,Ay,Az,Ba,Bb,Bc,Bd,Be,Bf,Bg,Bh,Bi,Bj,Bk,Bl,Bm,Bn,Bo,Bp,Bq,Br,Bs,Bt,Bu,Bv,Bw,Bx,By,Bz,Ca,Cb,Cc,Cd,Ce,Cf,Cg,Ch,Ci,Cj,Ck,Cl,Cm,Cn,Co,Cp], h⟩ r m k := regD_move _ _ d71_0 14 (by kernel_rfl) (by kernel_rfl) (by kernel_rfl) _ _ _ _ _ _ (by kernel_rfl) (by kernel_rfl)
theorem d71_0_15 {β : Type} (h : Heap) (r m : List Nat) (k : St → Option β) : regD Try.prog (evC Try.prog) d71_0 15 ⟨#[Aa,Ab,Ac,Ad,Ae,Af,Ag,Ah,Ai,Aj,Ak,Al,An,Ao,Ap,Aq,Ar,As,At,Au,Av,Aw,Ax,Ay,Az,Ba,Bb,Bc,Bd,Be,Bf,Bg,Bh,Bi,Bj,Bk,Bl,Bm,Bn,Bo,Bp,Bq,Br,Bs,Bt,Bu,Bv,Bw,Bx,By,Bz,Ca,Cb,Cc,Cd,Ce,Cf,Cg,Ch,Ci,Cj,Ck,Cl,Cm,Cn,Co,Cp], h⟩ r m k =
(gd (wt As false) (fieldAddrV Try.prog 104 Ab 2)).bind fun t18_50 =>
regD Try.prog (evC Try.prog) d71_0 16 ⟨#[Aa,Ab,Ac,Ad,Ae,Af,Ag,Ah,Ai,Aj,Ak,Al,An,Ao,Ap,Aq,Ar,As, t18_50,Au,Av,Aw,Ax,Ay,Az,Ba,Bb,Bc,Bd,Be,Bf,Bg,Bh,Bi,Bj,Bk,Bl,Bm,Bn,Bo,Bp,Bq,Br,Bs,Bt,Bu,Bv,Bw,Bx,By,Bz,Ca,Cb,Cc,Cd,Ce,Cf,Cg,Ch,Ci,Cj,Ck,Cl,Cm,Cn,Co,Cp], h⟩ r m k := (regD_step _ _ d71_0 15 (by kernel_rfl) _ _ _ _).trans (by kernel_rfl)
theorem d71_0_16 {β : Type} (h : Heap) (r m : List Nat) (k : St → Option β) : regD Try.prog (evC Try.prog) d71_0 16 ⟨#[Aa,Ab,Ac,Ad,Ae,Af,Ag,Ah,Ai,Aj,Ak,Al,An,Ao,Ap,Aq,Ar,As,At,Au,Av,Aw,Ax,Ay,Az,Ba,Bb,Bc,Bd,Be,Bf,Bg,Bh,Bi,Bj,Bk,Bl,Bm,Bn,Bo,Bp,Bq,Br,Bs,Bt,Bu,Bv,Bw,Bx,By,Bz,Ca,Cb,Cc,Cd,Ce,Cf,Cg,Ch,Ci,Cj,Ck,Cl,Cm,Cn,Co,Cp], h⟩ r m k =
(gd (wt As false) (loadV Try.prog 47 At h)).bind fun t19_51 =>
regD Try.prog (evC Try.prog) d71_0 17 ⟨#[Aa,Ab,Ac,Ad,Ae,Af,Ag,Ah,Ai,Aj,Ak,Al,An,Ao,Ap,Aq,Ar,As,At, t19_51,Av,Aw,Ax,Ay,Az,Ba,Bb,Bc,Bd,Be,Bf,Bg,Bh,Bi,Bj,Bk,Bl,Bm,Bn,Bo,Bp,Bq,Br,Bs,Bt,Bu,Bv,Bw,Bx,By,Bz,Ca,Cb,Cc,Cd,Ce,Cf,Cg,Ch,Ci,Cj,Ck,Cl,Cm,Cn,Co,Cp], h⟩ (rdL (wt As false) (rb At) ++ r) m k := (regD_step _ _ d71_0 16 (by kernel_rfl) _ _ _ _).trans (by kernel_rfl)
theorem d71_0_17 {β : Type} (h : Heap) (r m : List Nat) (k : St → Option β) : regD Try.prog (evC Try.prog) d71_0 17 ⟨#[Aa,Ab,Ac,Ad,Ae,Af,Ag,Ah,Ai,Aj,Ak,Al,An,Ao,Ap,Aq,Ar,As,At,Au,Av,Aw,Ax,Ay,Az,Ba,Bb,Bc,Bd,Be,Bf,Bg,Bh,Bi,Bj,Bk,Bl,Bm,Bn,Bo,Bp,Bq,Br,Bs,Bt,Bu,Bv,Bw,Bx,By,Bz,Ca,Cb,Cc,Cd,Ce,Cf,Cg,Ch,Ci,Cj,Ck,Cl,Cm,Cn,Co,Cp], h⟩ r m k =
obH (gdH (wt As false) (nm h) (evC Try.prog 80 #[(Go.Value.int Go.IntKind.i64 16)] (nm h))) fun t20_52 h53 =>
regD Try.prog (evC Try.prog) d71_0 18 ⟨#[Aa,Ab,Ac,Ad,Ae,Af,Ag,Ah,Ai,Aj,Ak,Al,An,Ao,Ap,Aq,Ar,As,At,Au, t20_52,Aw,Ax,Ay,Az,Ba,Bb,Bc,Bd,Be,Bf,Bg,Bh,Bi,Bj,Bk,Bl,Bm,Bn,Bo,Bp,Bq,Br,Bs,Bt,Bu,Bv,Bw,Bx,By,Bz,Ca,Cb,Cc,Cd,Ce,Cf,Cg,Ch,Ci,Cj,Ck,Cl,Cm,Cn,Co,Cp], (am h53 h)⟩ r (h53.mods ++ m) k := (regD_step _ _ d71_0 17 (by kernel_rfl) _ _ _ _).trans (by kernel_rfl)
theorem d71_0_18 {β : Type} (h : Heap) (r m : List Nat) (k : St → Option β) : regD Try.prog (evC Try.prog) d71_0 18 ⟨#[Aa,Ab,Ac,Ad,Ae,Af,Ag,Ah,Ai,Aj,Ak,Al,An,Ao,Ap,Aq,Ar,As,At,Au,Av,Aw,Ax,Ay,Az,Ba,Bb,Bc,Bd,Be,Bf,Bg,Bh,Bi,Bj,Bk,Bl,Bm,Bn,Bo,Bp,Bq,Br,Bs,Bt,Bu,Bv,Bw,Bx,By,Bz,Ca,Cb,Cc,Cd,Ce,Cf,Cg,Ch,Ci,Cj,Ck,Cl,Cm,Cn,Co,Cp], h⟩ r m k =
obH (gdH (wt As false) h (evC Try.prog 100 #[Au,Av] h)) fun t21_54 h55 =>
regD Try.prog (evC Try.prog) d71_0 19 ⟨#[Aa,Ab,Ac,Ad,Ae,Af,Ag,Ah,Ai,Aj,Ak,Al,An,Ao,Ap,Aq,Ar,As,At,Au,Av, t21_54,Ax,Ay,Az,Ba,Bb,Bc,Bd,Be,Bf,Bg,Bh,Bi,Bj,Bk,Bl,Bm,Bn,Bo,Bp,Bq,Br,Bs,Bt,Bu,Bv,Bw,Bx,By,Bz,Ca,Cb,Cc,Cd,Ce,Cf,Cg,Ch,Ci,Cj,Ck,Cl,Cm,Cn,Co,Cp], h55⟩ r m k := (regD_step _ _ d71_0 18 (by kernel_rfl) _ _ _ _).trans (by kernel_rfl)
theorem d71_0_19 {β : Type} (h : Heap) (r m : List Nat) (k : St → Option β) : regD Try.prog (evC Try.prog) d71_0 19 ⟨#[Aa,Ab,Ac,Ad,Ae,Af,Ag,Ah,Ai,Aj,Ak,Al,An,Ao,Ap,Aq,Ar,As,At,Au,Av,Aw,Ax,Ay,Az,Ba,Bb,Bc,Bd,Be,Bf,Bg,Bh,Bi,Bj,Bk,Bl,Bm,Bn,Bo,Bp,Bq,Br,Bs,Bt,Bu,Bv,Bw,Bx,By,Bz,Ca,Cb,Cc,Cd,Ce,Cf,Cg,Ch,Ci,Cj,Ck,Cl,Cm,Cn,Co,Cp], h⟩ r m k =
(gd (wt As false) (unV Try.prog .not Aw)).bind fun t22_56 =>
regD Try.prog (evC Try.prog) d71_0 20 ⟨#[Aa,Ab,Ac,Ad,Ae,Af,Ag,Ah,Ai,Aj,Ak,Al,An,Ao,Ap,Aq,Ar,As,At,Au,Av,Aw, t22_56,Ay,Az,Ba,Bb,Bc,Bd,Be,Bf,Bg,Bh,Bi,Bj,Bk,Bl,Bm,Bn,Bo,Bp,Bq,Br,Bs,Bt,Bu,Bv,Bw,Bx,By,Bz,Ca,Cb,Cc,Cd,Ce,Cf,Cg,Ch,Ci,Cj,Ck,Cl,Cm,Cn,Co,Cp], h⟩ r m k := (regD_step _ _ d71_0 19 (by kernel_rfl) _ _ _ _).trans (by kernel_rfl)
theorem d71_0_20 {β : Type} (h : Heap) (r m : List Nat) (k : St → Option β) : regD Try.prog (evC Try.prog) d71_0 20 ⟨#[Aa,Ab,Ac,Ad,Ae,Af,Ag,Ah,Ai,Aj,Ak,Al,An,Ao,Ap,Aq,Ar,As,At,Au,Av,Aw,Ax,Ay,Az,Ba,Bb,Bc,Bd,Be,Bf,Bg,Bh,Bi,Bj,Bk,Bl,Bm,Bn,Bo,Bp,Bq,Br,Bs,Bt,Bu,Bv,Bw,Bx,By,Bz,Ca,Cb,Cc,Cd,Ce,Cf,Cg,Ch,Ci,Cj,Ck,Cl,Cm,Cn,Co,Cp], h⟩ r m k =
(pickV As (Go.Value.bool Bool.true) Ax).bind fun t23_57 =>
regD Try.prog (evC Try.prog) d71_0 21 ⟨#[Aa,Ab,Ac,Ad,Ae,Af,Ag,Ah,Ai,Aj,Ak,Al,An,Ao,Ap,Aq,Ar,As,At,Au,Av,Aw,Ax, t23_57,Az,Ba,Bb,Bc,Bd,Be,Bf,Bg,Bh,Bi,Bj,Bk,Bl,Bm,Bn,Bo,Bp,Bq,Br,Bs,Bt,Bu,Bv,Bw,Bx,By,Bz,Ca,Cb,Cc,Cd,Ce,Cf,Cg,Ch,Ci,Cj,Ck,Cl,Cm,Cn,Co,Cp], h⟩ r m k := (regD_step _ _ d71_0 20 (by kernel_rfl) _ _ _ _).trans (by kernel_rfl)
theorem d71_0_21 {β : Type} (h : Heap) (r m : List Nat) (k : St → Option β) : regD Try.prog (evC Try.prog) d71_0 21 ⟨#[Aa,Ab,Ac,Ad,Ae,Af,Ag,Ah,Ai,Aj,Ak,Al,An,Ao,Ap,Aq,Ar,As,At,Au,Av,Aw,Ax,Ay,Az,Ba,Bb,Bc,Bd,Be,Bf,Bg,Bh,Bi,Bj,Bk,Bl,Bm,Bn,Bo,Bp,Bq,Br,Bs,Bt,Bu,Bv,Bw,Bx,By,Bz,Ca,Cb,Cc,Cd,Ce,Cf,Cg,Ch,Ci,Cj,Ck,Cl,Cm,Cn,Co,Cp], h⟩ r m k =
regD Try.prog (evC Try.prog) d71_0 22 ⟨#[Aa,Ab,Ac,Ad,Ae,Af,Ag,Ah,Ai,Aj,Ak,Al,An,Ao,Ap,Aq,Ar,As,At,Au,Av,Aw,Ax,Ay,Ay,Ba,Bb,Bc,Bd,Be,Bf,Bg,Bh,Bi,Bj,Bk,Bl,Bm,Bn,Bo,Bp,Bq,Br,Bs,Bt,Bu,Bv,Bw,Bx,By,Bz,Ca,Cb,Cc,Cd,Ce,Cf,Cg,Ch,Ci,Cj,Ck,Cl,Cm,Cn,Co,Cp], h⟩ r m k := regD_move _ _ d71_0 21 (by kernel_rfl) (by kernel_rfl) (by kernel_rfl) _ _ _ _ _ _ (by kernel_rfl) (by kernel_rfl)
theorem d71_0_22 {β : Type} (h : Heap) (r m : List Nat) (k : St → Option β) : regD Try.prog (evC Try.prog) d71_0 22 ⟨#[Aa,Ab,Ac,Ad,Ae,Af,Ag,Ah,Ai,Aj,Ak,Al,An,Ao,Ap,Aq,Ar,As,At,Au,Av,Aw,Ax,Ay,Az,Ba,Bb,Bc,Bd,Be,Bf,Bg,Bh,Bi,Bj,Bk,Bl,Bm,Bn,Bo,Bp,Bq,Br,Bs,Bt,Bu,Bv,Bw,Bx,By,Bz,Ca,Cb,Cc,Cd,Ce,Cf,Cg,Ch,Ci,Cj,Ck,Cl,Cm,Cn,Co,Cp], h⟩ r m k =
(gd (wt Az false) (fieldAddrV Try.prog 104 Ab 2)).bind fun t25_58 =>
regD Try.prog (evC Try.prog) d71_0 23 ⟨#[Aa,Ab,Ac,Ad,Ae,Af,Ag,Ah,Ai,Aj,Ak,Al,An,Ao,Ap,Aq,Ar,As,At,Au,Av,Aw,Ax,Ay,Az, t25_58,Bb,Bc,Bd,Be,Bf,Bg,Bh,Bi,Bj,Bk,Bl,Bm,Bn,Bo,Bp,Bq,Br,Bs,Bt,Bu,Bv,Bw,Bx,By,Bz,Ca,Cb,Cc,Cd,Ce,Cf,Cg,Ch,Ci,Cj,Ck,Cl,Cm,Cn,Co,Cp], h⟩ r m k := (regD_step _ _ d71_0 22 (by kernel_rfl) _ _ _ _).trans (by kernel_rfl)
theorem d71_0_23 {β : Type} (h : Heap) (r m : List Nat) (k : St → Option β) : regD Try.prog (evC Try.prog) d71_0 23 ⟨#[Aa,Ab,Ac,Ad,Ae,Af,Ag,Ah,Ai,Aj,Ak,Al,An,Ao,Ap,Aq,Ar,As,At,Au,Av,Aw,Ax,Ay,Az,Ba,Bb,Bc,Bd,Be,Bf,Bg,Bh,Bi,Bj,Bk,Bl,Bm,Bn,Bo,Bp,Bq,Br,Bs,Bt,Bu,Bv,Bw,Bx,By,Bz,Ca,Cb,Cc,Cd,Ce,Cf,Cg,Ch,Ci,Cj,Ck,Cl,Cm,Cn,Co,Cp], h⟩ r m k =
(gd (wt Az false) (loadV Try.prog 47 Ba h)).bind fun t26_59 =>
regD Try.prog (evC Try.prog) d71_0 24 ⟨#[Aa,Ab,Ac,Ad,Ae,Af,Ag,Ah,Ai,Aj,Ak,Al,An,Ao,Ap,Aq,Ar,As,At,Au,Av,Aw,Ax,Ay,Az,Ba, t26_59,Bc,Bd,Be,Bf,Bg,Bh,Bi,Bj,Bk,Bl,Bm,Bn,Bo,Bp,Bq,Br,Bs,Bt,Bu,Bv,Bw,Bx,By,Bz,Ca,Cb,Cc,Cd,Ce,Cf,Cg,Ch,Ci,Cj,Ck,Cl,Cm,Cn,Co,Cp], h⟩ r m k := (regD_step _ _ d71_0 23 (by kernel_rfl) _ _ _ _).trans (by kernel_rfl)
theorem d71_0_24 {β : Type} (h : Heap) (r m : List Nat) (k : St → Option β) : regD Try.prog (evC Try.prog) d71_0 24 ⟨#[Aa,Ab,Ac,Ad,Ae,Af,Ag,Ah,Ai,Aj,Ak,Al,An,Ao,Ap,Aq,Ar,As,At,Au,Av,Aw,Ax,Ay,Az,Ba,Bb,Bc,Bd,Be,Bf,Bg,Bh,Bi,Bj,Bk,Bl,Bm,Bn,Bo,Bp,Bq,Br,Bs,Bt,Bu,Bv,Bw,Bx,By,Bz,Ca,Cb,Cc,Cd,Ce,Cf,Cg,Ch,Ci,Cj,Ck,Cl,Cm,Cn,Co,Cp], h⟩ r m k =
(gd (wt Az false) (fieldAddrV Try.prog 104 Ab 0)).bind fun t27_60 =>
regD Try.prog (evC Try.prog) d71_0 25 ⟨#[Aa,Ab,Ac,Ad,Ae,Af,Ag,Ah,Ai,Aj,Ak,Al,An,Ao,Ap,Aq,Ar,As,At,Au,Av,Aw,Ax,Ay,Az,Ba,Bb, t27_60,Bd,Be,Bf,Bg,Bh,Bi,Bj,Bk,Bl,Bm,Bn,Bo,Bp,Bq,Br,Bs,Bt,Bu,Bv,Bw,Bx,By,Bz,Ca,Cb,Cc,Cd,Ce,Cf,Cg,Ch,Ci,Cj,Ck,Cl,Cm,Cn,Co,Cp], h⟩ r m k := (regD_step _ _ d71_0 24 (by kernel_rfl) _ _ _ _).trans (by kernel_rfl)
theorem d71_0_25 {β : Type} (h : Heap) (r m : List Nat) (k : St → Option β) : regD Try.prog (evC Try.prog) d71_0 25 ⟨#[Aa,Ab,Ac,Ad,Ae,Af,Ag,Ah,Ai,Aj,Ak,Al,An,Ao,Ap,Aq,Ar,As,At,Au,Av,Aw,Ax,Ay,Az,Ba,Bb,Bc,Bd,Be,Bf,Bg,Bh,Bi,Bj,Bk,Bl,Bm,Bn,Bo,Bp,Bq,Br,Bs,Bt,Bu,Bv,Bw,Bx,By,Bz,Ca,Cb,Cc,Cd,Ce,Cf,Cg,Ch,Ci,Cj,Ck,Cl,Cm,Cn,Co,Cp], h⟩ r m k =
(gd (wt Az false) (loadV Try.prog 3 Bc h)).bind fun t28_61 =>
regD Try.prog (evC Try.prog) d71_0 26 ⟨#[Aa,Ab,Ac,Ad,Ae,Af,Ag,Ah,Ai,Aj,Ak,Al,An,Ao,Ap,Aq,Ar,As,At,Au,Av,Aw,Ax,Ay,Az,Ba,Bb,Bc, t28_61,Be,Bf,Bg,Bh,Bi,Bj,Bk,Bl,Bm,Bn,Bo,Bp,Bq,Br,Bs,Bt,Bu,Bv,Bw,Bx,By,Bz,Ca,Cb,Cc,Cd,Ce,Cf,Cg,Ch,Ci,Cj,Ck,Cl,Cm,Cn,Co,Cp], h⟩ r m k := (regD_step _ _ d71_0 25 (by kernel_rfl) _ _ _ _).trans (by kernel_rfl)
theorem d71_0_26 {β : Type} (h : Heap) (r m : List Nat) (k : St → Option β) : regD Try.prog (evC Try.prog) d71_0 26 ⟨#[Aa,Ab,Ac,Ad,Ae,Af,Ag,Ah,Ai,Aj,Ak,Al,An,Ao,Ap,Aq,Ar,As,At,Au,Av,Aw,Ax,Ay,Az,Ba,Bb,Bc,Bd,Be,Bf,Bg,Bh,Bi,Bj,Bk,Bl,Bm,Bn,Bo,Bp,Bq,Br,Bs,Bt,Bu,Bv,Bw,Bx,By,Bz,Ca,Cb,Cc,Cd,Ce,Cf,Cg,Ch,Ci,Cj,Ck,Cl,Cm,Cn,Co,Cp], h⟩ r m k =
obH (gdH (wt Az false) h (evC Try.prog 112 #[Bb,Bd] h)) fun t29_62 h63 =>
regD Try.prog (evC Try.prog) d71_0 27 ⟨#[Aa,Ab,Ac,Ad,Ae,Af,Ag,Ah,Ai,Aj,Ak,Al,An,Ao,Ap,Aq,Ar,As,At,Au,Av,Aw,Ax,Ay,Az,Ba,Bb,Bc,Bd, t29_62,Bf,Bg,Bh,Bi,Bj,Bk,Bl,Bm,Bn,Bo,Bp,Bq,Br,Bs,Bt,Bu,Bv,Bw,Bx,By,Bz,Ca,Cb,Cc,Cd,Ce,Cf,Cg,Ch,Ci,Cj,Ck,Cl,Cm,Cn,Co,Cp], h63⟩ r m k := (regD_step _ _ d71_0 26 (by kernel_rfl) _ _ _ _).trans (by kernel_rfl)
theorem d71_0_27 {β : Type} (h : Heap) (r m : List Nat) (k : St → Option β) : regD Try.prog (evC Try.prog) d71_0 27 ⟨#[Aa,Ab,Ac,Ad,Ae,Af,Ag,Ah,Ai,Aj,Ak,Al,An,Ao,Ap,Aq,Ar,As,At,Au,Av,Aw,Ax,Ay,Az,Ba,Bb,Bc,Bd,Be,Bf,Bg,Bh,Bi,Bj,Bk,Bl,Bm,Bn,Bo,Bp,Bq,Br,Bs,Bt,Bu,Bv,Bw,Bx,By,Bz,Ca,Cb,Cc,Cd,Ce,Cf,Cg,Ch,Ci,Cj,Ck,Cl,Cm,Cn,Co,Cp], h⟩ r m k =
(pickV Az (Go.Value.bool Bool.true) Be).bind fun t30_64 =>
regD Try.prog (evC Try.prog) d71_0 28 ⟨#[Aa,Ab,Ac,Ad,Ae,Af,Ag,Ah,Ai,Aj,Ak,Al,An,Ao,Ap,Aq,Ar,As,At,Au,Av,Aw,Ax,Ay,Az,Ba,Bb,Bc,Bd,Be, t30_64,Bg,Bh,Bi,Bj,Bk,Bl,Bm,Bn,Bo,Bp,Bq,Br,Bs,Bt,Bu,Bv,Bw,Bx,By,Bz,Ca,Cb,Cc,Cd,Ce,Cf,Cg,Ch,Ci,Cj,Ck,Cl,Cm,Cn,Co,Cp], h⟩ r m k := (regD_step _ _ d71_0 27 (by kernel_rfl) _ _ _ _).trans (by kernel_rfl)
theorem d71_0_28 {β : Type} (h : Heap) (r m : List Nat) (k : St → Option β) : regD Try.prog (evC Try.prog) d71_0 28 ⟨#[Aa,Ab,Ac,Ad,Ae,Af,Ag,Ah,Ai,Aj,Ak,Al,An,Ao,Ap,Aq,Ar,As,At,Au,Av,Aw,Ax,Ay,Az,Ba,Bb,Bc,Bd,Be,Bf,Bg,Bh,Bi,Bj,Bk,Bl,Bm,Bn,Bo,Bp,Bq,Br,Bs,Bt,Bu,Bv,Bw,Bx,By,Bz,Ca,Cb,Cc,Cd,Ce,Cf,Cg,Ch,Ci,Cj,Ck,Cl,Cm,Cn,Co,Cp], h⟩ r m k =
chk r m (k ⟨#[Aa,Ab,Ac,Ad,Ae,Af,Ag,Ah,Ai,Aj,Ak,Al,An,Ao,Ap,Aq,Ar,As,At,Au,Av,Aw,Ax,Ay,Az,Ba,Bb,Bc,Bd,Be,Bf,Bg,Bh,Bi,Bj,Bk,Bl,Bm,Bn,Bo,Bp,Bq,Br,Bs,Bt,Bu,Bv,Bw,Bx,By,Bz,Ca,Cb,Cc,Cd,Ce,Cf,Cg,Ch,Ci,Cj,Ck,Cl,Cm,Cn,Co,Cp], h⟩) := by kernel_rfl
theorem c71_5_eq {β : Type} (h : Heap) (k : Ex → St → Option β) : codeK Try.prog (evC Try.prog) loopL c71_5 ⟨#[Aa,Ab,Ac,Ad,Ae,Af,Ag,Ah,Ai,Aj,Ak,Al,An,Ao,Ap,Aq,Ar,As,At,Au,Av,Aw,Ax,Ay,Az,Ba,Bb,Bc,Bd,Be,Bf,Bg,Bh,Bi,Bj,Bk,Bl,Bm,Bn,Bo,Bp,Bq,Br,Bs,Bt,Bu,Bv,Bw,Bx,By,Bz,Ca,Cb,Cc,Cd,Ce,Cf,Cg,Ch,Ci,Cj,Ck,Cl,Cm,Cn,Co,Cp], h⟩ k =
regD Try.prog (evC Try.prog) d71_0 0 ⟨#[Aa,Ab,Ac,Ad,Ae,Af,Ag,Ah,Ai,Aj,Ak,Al,An,Ao,Ap,Aq,Ar,As,At,Au,Av,Aw,Ax,Ay,Az,Ba,Bb,Bc,Bd,Be,Bf,Bg,Bh,Bi,Bj,Bk,Bl,Bm,Bn,Bo,Bp,Bq,Br,Bs,Bt,Bu,Bv,Bw,Bx,By,Bz,Ca,Cb,Cc,Cd,Ce,Cf,Cg,Ch,Ci,Cj,Ck,Cl,Cm,Cn,Co,Cp], h⟩ [] [] (fun s => k .normal s) := by kernel_rfl
theorem c71_6_eq {β : Type} (h : Heap) (k : Ex → St → Option β) : codeK Try.prog (evC Try.prog) loopL c71_6 ⟨#[Aa,Ab,Ac,Ad,Ae,Af,Ag,Ah,Ai,Aj,Ak,Al,An,Ao,Ap,Aq,Ar,As,At,Au,Av,Aw,Ax,Ay,Az,Ba,Bb,Bc,Bd,Be,Bf,Bg,Bh,Bi,Bj,Bk,Bl,Bm,Bn,Bo,Bp,Bq,Br,Bs,Bt,Bu,Bv,Bw,Bx,By,Bz,Ca,Cb,Cc,Cd,Ce,Cf,Cg,Ch,Ci,Cj,Ck,Cl,Cm,Cn,Co,Cp], h⟩ k =
cnd Bf (
k .ret ⟨#[Aa,Ab, (Go.Value.bool Bool.false),Ad,Ae,Af,Ag,Ah,Ai,Aj,Ak,Al,An,Ao,Ap,Aq,Ar,As,At,Au,Av,Aw,Ax,Ay,Az,Ba,Bb,Bc,Bd,Be,Bf,Bg,Bh,Bi,Bj,Bk,Bl,Bm,Bn,Bo,Bp,Bq,Br,Bs,Bt,Bu,Bv,Bw,Bx,By,Bz,Ca,Cb,Cc,Cd,Ce,Cf,Cg,Ch,Ci,Cj,Ck,Cl,Cm,Cn,Co,Cp], h⟩) (
k .normal ⟨#[Aa,Ab,Ac,Ad,Ae,Af,Ag,Ah,Ai,Aj,Ak,Al,An,Ao,Ap,Aq,Ar,As,At,Au,Av,Aw,Ax,Ay,Az,Ba,Bb,Bc,Bd,Be,Bf,Bg,Bh,Bi,Bj,Bk,Bl,Bm,Bn,Bo,Bp,Bq,Br,Bs,Bt,Bu,Bv,Bw,Bx,By,Bz,Ca,Cb,Cc,Cd,Ce,Cf,Cg,Ch,Ci,Cj,Ck,Cl,Cm,Cn,Co,Cp], h⟩) := by kernel_rfl
theorem call71 (h : Heap) : evC Try.prog 71 #[Aa] h = codeK Try.prog (evC Try.prog) loopL c71_0 ⟨#[Aa, undef, undef, undef, undef, undef, undef, undef, undef, undef, undef, undef, undef, undef, undef, undef, undef, undef, undef, undef, undef, undef, undef, undef, undef, undef, undef, undef, undef, undef, undef, undef, undef, undef, undef, undef, undef, undef, undef, undef, undef, undef, undef, undef, undef, undef, undef, undef, undef, undef, undef, undef, undef, undef, undef, undef, undef, undef, undef, undef, undef, undef, undef, undef, undef, undef, undef], nm h⟩ (retK Try.f71 Try.prog h) :=
  (evC_call 71 Try.f71 c71_0 Try.func71 (by kernel_rfl) #[Aa] h).trans (by kernel_rfl)
theorem ret71 (h0 h : Heap) : retK Try.f71 Try.prog h0 .ret ⟨#[Aa,Ab,Ac,Ad,Ae,Af,Ag,Ah,Ai,Aj,Ak,Al,An,Ao,Ap,Aq,Ar,As,At,Au,Av,Aw,Ax,Ay,Az,Ba,Bb,Bc,Bd,Be,Bf,Bg,Bh,Bi,Bj,Bk,Bl,Bm,Bn,Bo,Bp,Bq,Br,Bs,Bt,Bu,Bv,Bw,Bx,By,Bz,Ca,Cb,Cc,Cd,Ce,Cf,Cg,Ch,Ci,Cj,Ck,Cl,Cm,Cn,Co,Cp], h⟩ = fin h0 (some Ac) h := by kernel_rfl
end Go.Am
namespace Go.Am
open Go.Proofs
set_option maxRecDepth 100000
variable (Aa Ab Ac Ad Ae Af Ag Ah Ai Aj Ak Al An Ao Ap Aq Ar As At Au Av Aw Ax Ay Az Ba Bb Bc Bd Be Bf Bg Bh Bi Bj Bk Bl Bm Bn Bo Bp Bq Br Bs Bt Bu Bv Bw Bx By Bz Ca Cb Cc Cd Ce Cf Cg Ch Ci Cj : Value)
noncomputable def c66_0 : Code := bodyC Try.f66 []
noncomputable def c66_1 : Code := bodyC Try.f66 [true, true, true, true, true, true, true, true]
noncomputable def c66_2 : Code := bodyC Try.f66 [true, true, true, true, true, true, true, true, true]
theorem c66_0_eq {β : Type} (h : Heap) (k : Ex → St → Option β) : codeK Try.prog (evC Try.prog) loopL c66_0 ⟨#[Aa,Ab,Ac,Ad,Ae,Af,Ag,Ah,Ai,Aj,Ak,Al,An,Ao,Ap,Aq,Ar,As,At,Au,Av,Aw,Ax,Ay,Az,Ba,Bb,Bc,Bd,Be,Bf,Bg,Bh,Bi,Bj,Bk,Bl,Bm,Bn,Bo,Bp,Bq,Br,Bs,Bt,Bu,Bv,Bw,Bx,By,Bz,Ca,Cb,Cc,Cd,Ce,Cf,Cg,Ch,Ci,Cj], h⟩ k =
obH (boxV Try.prog 104 Aa h) fun t1_0 h1 =>
(loadV Try.prog 104 t1_0 h1).bind fun t4_2 =>
obH (evC Try.prog 71 #[t4_2] h1) fun t5_3 h4 =>
(unV Try.prog .not t5_3).bind fun t6_5 =>
cnd t6_5 (
k .ret ⟨#[Aa, t1_0, (Go.Value.slice Option.none 0 0),Ad, t4_2, t5_3, t6_5,Ah,Ai,Aj,Ak,Al,An,Ao,Ap,Aq,Ar,As,At,Au,Av,Aw,Ax,Ay,Az,Ba,Bb,Bc,Bd,Be,Bf,Bg,Bh,Bi,Bj,Bk,Bl,Bm,Bn,Bo,Bp,Bq,Br,Bs,Bt,Bu,Bv,Bw,Bx,By,Bz,Ca,Cb,Cc,Cd,Ce,Cf,Cg,Ch,Ci,Cj], h4⟩) (
obH (evC Try.prog 42 #[] h4) fun t7_6 h7 =>
(fieldAddrV Try.prog 104 t1_0 0).bind fun t9_8 =>
(loadV Try.prog 3 t9_8 h7).bind fun t10_9 =>
obH (convV Try.prog 3 46 t10_9 h7) fun t11_10 h11 =>
obH (evC Try.prog 43 #[t7_6, t11_10] h11) fun t12_12 h13 =>
(fieldAddrV Try.prog 104 t1_0 1).bind fun t14_14 =>
(loadV Try.prog 46 t14_14 h13).bind fun t15_15 =>
obH (evC Try.prog 43 #[t7_6, t15_15] h13) fun t16_16 h17 =>
(fieldAddrV Try.prog 104 t1_0 2).bind fun t18_18 =>
(loadV Try.prog 47 t18_18 h17).bind fun t19_19 =>
obH (evC Try.prog 59 #[t7_6, t19_19] h17) fun t20_20 h21 =>
(fieldAddrV Try.prog 104 t1_0 3).bind fun t22_22 =>
(loadV Try.prog 3 t22_22 h21).bind fun t23_23 =>
obH (convV Try.prog 3 46 t23_23 h21) fun t24_24 h25 =>
obH (evC Try.prog 43 #[t7_6, t24_24] h25) fun t25_26 h27 =>
(fieldAddrV Try.prog 104 t1_0 3).bind fun t26_28 =>
(loadV Try.prog 3 t26_28 h27).bind fun t27_29 =>
(binV Try.prog .eql 3 (.tmp 27) (.const (Go.Value.int Go.IntKind.i64 0)) t27_29 (Go.Value.int Go.IntKind.i64 0)).bind fun t28_30 =>
cnd t28_30 (
(fieldAddrV Try.prog 104 t1_0 8).bind fun t30_31 =>
(loadV Try.prog 23 t30_31 h27).bind fun t31_32 =>
obH (evC Try.prog 61 #[t7_6, t31_32] h27) fun t32_33 h34 =>
codeK Try.prog (evC Try.prog) loopL c66_1 ⟨#[Aa, t1_0, (Go.Value.slice Option.none 0 0), t7_6, t4_2, t5_3, t6_5, t7_6, t7_6, t9_8, t10_9, t11_10, t12_12, t7_6, t14_14, t15_15, t16_16, t7_6, t18_18, t19_19, t20_20, t7_6, t22_22, t23_23, t24_24, t25_26, t26_28, t27_29, t28_30, t7_6, t30_31, t31_32, t32_33,Bi,Bj,Bk,Bl,Bm,Bn,Bo,Bp,Bq,Br,Bs,Bt,Bu,Bv,Bw,Bx,By,Bz,Ca,Cb,Cc,Cd,Ce,Cf,Cg,Ch,Ci,Cj], h34⟩ k) (
(fieldAddrV Try.prog 104 t1_0 4).bind fun t34_35 =>
(loadV Try.prog 3 t34_35 h27).bind fun t35_36 =>
obH (convV Try.prog 3 46 t35_36 h27) fun t36_37 h38 =>
obH (evC Try.prog 43 #[t7_6, t36_37] h38) fun t37_39 h40 =>
codeK Try.prog (evC Try.prog) loopL c66_1 ⟨#[Aa, t1_0, (Go.Value.slice Option.none 0 0), t7_6, t4_2, t5_3, t6_5, t7_6, t7_6, t9_8, t10_9, t11_10, t12_12, t7_6, t14_14, t15_15, t16_16, t7_6, t18_18, t19_19, t20_20, t7_6, t22_22, t23_23, t24_24, t25_26, t26_28, t27_29, t28_30,Be,Bf,Bg,Bh, t7_6, t34_35, t35_36, t36_37, t37_39,Bn,Bo,Bp,Bq,Br,Bs,Bt,Bu,Bv,Bw,Bx,By,Bz,Ca,Cb,Cc,Cd,Ce,Cf,Cg,Ch,Ci,Cj], h40⟩ k)) := by kernel_rfl
theorem c66_1_eq {β : Type} (h : Heap) (k : Ex → St → Option β) : codeK Try.prog (evC Try.prog) loopL c66_1 ⟨#[Aa,Ab,Ac,Ad,Ae,Af,Ag,Ah,Ai,Aj,Ak,Al,An,Ao,Ap,Aq,Ar,As,At,Au,Av,Aw,Ax,Ay,Az,Ba,Bb,Bc,Bd,Be,Bf,Bg,Bh,Bi,Bj,Bk,Bl,Bm,Bn,Bo,Bp,Bq,Br,Bs,Bt,Bu,Bv,Bw,Bx,By,Bz,Ca,Cb,Cc,Cd,Ce,Cf,Cg,Ch,Ci,Cj], h⟩ k =
(fieldAddrV Try.prog 104 Ab 3).bind fun t38_41 =>
(loadV Try.prog 3 t38_41 h).bind fun t39_42 =>
obH (evC Try.prog 110 #[t39_42] h) fun t40_43 h44 =>
cnd t40_43 (
(fieldAddrV Try.prog 104 Ab 5).bind fun t42_45 =>
(loadV Try.prog 84 t42_45 h44).bind fun t43_46 =>
obH (evC Try.prog 57 #[Ad, t43_46] h44) fun t44_47 h48 =>
(fieldAddrV Try.prog 104 Ab 6).bind fun t46_49 =>
(loadV Try.prog 3 t46_49 h48).bind fun t47_50 =>
(binV Try.prog .add 3 (.tmp 47) (.const (Go.Value.int Go.IntKind.i64 1)) t47_50 (Go.Value.int Go.IntKind.i64 1)).bind fun t48_51 =>
obH (convV Try.prog 3 46 t48_51 h48) fun t49_52 h53 =>
obH (evC Try.prog 43 #[Ad, t49_52] h53) fun t50_54 h55 =>
(fieldAddrV Try.prog 104 Ab 7).bind fun t52_56 =>
(loadV Try.prog 46 t52_56 h55).bind fun t53_57 =>
obH (evC Try.prog 43 #[Ad, t53_57] h55) fun t54_58 h59 =>
codeK Try.prog (evC Try.prog) loopL c66_2 ⟨#[Aa,Ab,Ac,Ad,Ae,Af,Ag,Ah,Ai,Aj,Ak,Al,An,Ao,Ap,Aq,Ar,As,At,Au,Av,Aw,Ax,Ay,Az,Ba,Bb,Bc,Bd,Be,Bf,Bg,Bh,Bi,Bj,Bk,Bl,Bm, t38_41, t39_42, t40_43,Ad, t42_45, t43_46, t44_47,Ad, t46_49, t47_50, t48_51, t49_52, t50_54,Ad, t52_56, t53_57, t54_58,Ce,Cf,Cg,Ch,Ci,Cj], h59⟩ k) (
codeK Try.prog (evC Try.prog) loopL c66_2 ⟨#[Aa,Ab,Ac,Ad,Ae,Af,Ag,Ah,Ai,Aj,Ak,Al,An,Ao,Ap,Aq,Ar,As,At,Au,Av,Aw,Ax,Ay,Az,Ba,Bb,Bc,Bd,Be,Bf,Bg,Bh,Bi,Bj,Bk,Bl,Bm, t38_41, t39_42, t40_43,Bq,Br,Bs,Bt,Bu,Bv,Bw,Bx,By,Bz,Ca,Cb,Cc,Cd,Ce,Cf,Cg,Ch,Ci,Cj], h44⟩ k) := by kernel_rfl
theorem c66_2_eq {β : Type} (h : Heap) (k : Ex → St → Option β) : codeK Try.prog (evC Try.prog) loopL c66_2 ⟨#[Aa,Ab,Ac,Ad,Ae,Af,Ag,Ah,Ai,Aj,Ak,Al,An,Ao,Ap,Aq,Ar,As,At,Au,Av,Aw,Ax,Ay,Az,Ba,Bb,Bc,Bd,Be,Bf,Bg,Bh,Bi,Bj,Bk,Bl,Bm,Bn,Bo,Bp,Bq,Br,Bs,Bt,Bu,Bv,Bw,Bx,By,Bz,Ca,Cb,Cc,Cd,Ce,Cf,Cg,Ch,Ci,Cj], h⟩ k =
(fieldAddrV Try.prog 104 Ab 9).bind fun t56_60 =>
(loadV Try.prog 23 t56_60 h).bind fun t57_61 =>
obH (evC Try.prog 61 #[Ad, t57_61] h) fun t58_62 h63 =>
obH (evC Try.prog 44 #[Ad] h63) fun t60_64 h65 =>
k .ret ⟨#[Aa,Ab, t60_64,Ad,Ae,Af,Ag,Ah,Ai,Aj,Ak,Al,An,Ao,Ap,Aq,Ar,As,At,Au,Av,Aw,Ax,Ay,Az,Ba,Bb,Bc,Bd,Be,Bf,Bg,Bh,Bi,Bj,Bk,Bl,Bm,Bn,Bo,Bp,Bq,Br,Bs,Bt,Bu,Bv,Bw,Bx,By,Bz,Ca,Cb,Cc,Cd,Ad, t56_60, t57_61, t58_62,Ad, t60_64], h65⟩ := by kernel_rfl
theorem call66 (h : Heap) : evC Try.prog 66 #[Aa] h = codeK Try.prog (evC Try.prog) loopL c66_0 ⟨#[Aa, undef, undef, undef, undef, undef, undef, undef, undef, undef, undef, undef, undef, undef, undef, undef, undef, undef, undef, undef, undef, undef, undef, undef, undef, undef, undef, undef, undef, undef, undef, undef, undef, undef, undef, undef, undef, undef, undef, undef, undef, undef, undef, undef, undef, undef, undef, undef, undef, undef, undef, undef, undef, undef, undef, undef, undef, undef, undef, undef, undef], nm h⟩ (retK Try.f66 Try.prog h) :=
  (evC_call 66 Try.f66 c66_0 Try.func66 (by kernel_rfl) #[Aa] h).trans (by kernel_rfl)
theorem ret66 (h0 h : Heap) : retK Try.f66 Try.prog h0 .ret ⟨#[Aa,Ab,Ac,Ad,Ae,Af,Ag,Ah,Ai,Aj,Ak,Al,An,Ao,Ap,Aq,Ar,As,At,Au,Av,Aw,Ax,Ay,Az,Ba,Bb,Bc,Bd,Be,Bf,Bg,Bh,Bi,Bj,Bk,Bl,Bm,Bn,Bo,Bp,Bq,Br,Bs,Bt,Bu,Bv,Bw,Bx,By,Bz,Ca,Cb,Cc,Cd,Ce,Cf,Cg,Ch,Ci,Cj], h⟩ = fin h0 (some Ac) h := by kernel_rfl
end Go.Am
namespace Go.Am
open Go.Proofs
set_option maxRecDepth 100000
variable (Aa Ab Ac Ad Ae Af : Value)
noncomputable def c73_0 : Code := bodyC Try.f73 []
theorem c73_0_eq {β : Type} (h : Heap) (k : Ex → St → Option β) : codeK Try.prog (evC Try.prog) loopL c73_0 ⟨#[Aa,Ab,Ac,Ad,Ae,Af], h⟩ k =
obH (boxV Try.prog 104 Aa h) fun t1_0 h1 =>
(loadV Try.prog 104 t1_0 h1).bind fun t3_2 =>
obH (evC Try.prog 66 #[t3_2] h1) fun t4_3 h4 =>
(lenV Try.prog 23 t4_3 h4).bind fun t5_5 =>
k .ret ⟨#[Aa, t1_0, t5_5, t3_2, t4_3, t5_5], h4⟩ := by kernel_rfl
theorem call73 (h : Heap) : evC Try.prog 73 #[Aa] h = codeK Try.prog (evC Try.prog) loopL c73_0 ⟨#[Aa, undef, undef, undef, undef, undef], nm h⟩ (retK Try.f73 Try.prog h) :=
  (evC_call 73 Try.f73 c73_0 Try.func73 (by kernel_rfl) #[Aa] h).trans (by kernel_rfl)
theorem ret73 (h0 h : Heap) : retK Try.f73 Try.prog h0 .ret ⟨#[Aa,Ab,Ac,Ad,Ae,Af], h⟩ = fin h0 (some Ac) h := by kernel_rfl
end Go.Am
namespace Go.Am
open Go.Proofs
set_option maxRecDepth 100000
variable (Aa Ab Ac Ad Ae Af Ag Ah Ai Aj Ak Al An Ao Ap Aq Ar As At Au Av Aw Ax Ay Az Ba Bb Bc Bd Be Bf Bg Bh Bi Bj Bk Bl Bm Bn Bo Bp Bq Br Bs Bt Bu Bv Bw Bx By Bz Ca Cb Cc Cd Ce Cf : Value)
noncomputable def c69_0 : Code := bodyC Try.f69 []
noncomputable def c69_1 : Code := bodyC Try.f69 [true, true, true, true]
noncomputable def c69_2 : Code := bodyC Try.f69 [true, true, true, true, true]
theorem c69_0_eq {β : Type} (h : Heap) (k : Ex → St → Option β) : codeK Try.prog (evC Try.prog) loopL c69_0 ⟨#[Aa,Ab,Ac,Ad,Ae,Af,Ag,Ah,Ai,Aj,Ak,Al,An,Ao,Ap,Aq,Ar,As,At,Au,Av,Aw,Ax,Ay,Az,Ba,Bb,Bc,Bd,Be,Bf,Bg,Bh,Bi,Bj,Bk,Bl,Bm,Bn,Bo,Bp,Bq,Br,Bs,Bt,Bu,Bv,Bw,Bx,By,Bz,Ca,Cb,Cc,Cd,Ce,Cf], h⟩ k =
obH (allocV Try.prog 104 h) fun t2_0 h1 =>
obH (evC Try.prog 45 #[Aa] h1) fun t7_2 h3 =>
obH (evC Try.prog 46 #[t7_2, (Go.Value.int Go.IntKind.u64 16)] h3) fun t9_4 h5 =>
obH (convV Try.prog 46 3 t9_4 h5) fun t10_6 h7 =>
obH (evC Try.prog 46 #[t7_2, (Go.Value.int Go.IntKind.u64 18446744073709551615)] h7) fun t12_8 h9 =>
obH (evC Try.prog 80 #[(Go.Value.int Go.IntKind.i64 16)] h9) fun t14_10 h11 =>
obH (evC Try.prog 49 #[t7_2, t14_10] h11) fun t15_12 h13 =>
obH (evC Try.prog 46 #[t7_2, (Go.Value.int Go.IntKind.u64 3)] h13) fun t17_14 h15 =>
obH (convV Try.prog 46 3 t17_14 h15) fun t18_16 h17 =>
(buildV Try.prog 104 #[(0, t10_6), (1, t12_8), (2, t15_12), (3, t18_16)]).bind fun t19_18 =>
obH (allocV Try.prog 104 h17) fun t5_19 h20 =>
(storeV Try.prog 104 t5_19 t19_18 h20).bind fun h21 =>
(fieldAddrV Try.prog 104 t5_19 3).bind fun t20_22 =>
(loadV Try.prog 3 t20_22 h21).bind fun t21_23 =>
(binV Try.prog .eql 3 (.tmp 21) (.const (Go.Value.int Go.IntKind.i64 0)) t21_23 (Go.Value.int Go.IntKind.i64 0)).bind fun t22_24 =>
cnd t22_24 (
obH (evC Try.prog 54 #[t7_2, (Go.Value.int Go.IntKind.i64 256)] h21) fun t24_25 h26 =>
(fieldAddrV Try.prog 104 t5_19 8).bind fun t25_27 =>
(storeV Try.prog 23 t25_27 t24_25 h26).bind fun h28 =>
codeK Try.prog (evC Try.prog) loopL c69_1 ⟨#[Aa,Ab, t2_0, (Go.Value.int Go.IntKind.i64 0), t7_2, t5_19,Aa, t7_2, t7_2, t9_4, t10_6, t7_2, t12_8, t7_2, t14_10, t15_12, t7_2, t17_14, t18_16, t19_18, t20_22, t21_23, t22_24, t7_2, t24_25, t25_27,Bb,Bc,Bd,Be,Bf,Bg,Bh,Bi,Bj,Bk,Bl,Bm,Bn,Bo,Bp,Bq,Br,Bs,Bt,Bu,Bv,Bw,Bx,By,Bz,Ca,Cb,Cc,Cd,Ce,Cf], h28⟩ k) (
obH (evC Try.prog 46 #[t7_2, (Go.Value.int Go.IntKind.u64 16)] h21) fun t27_29 h30 =>
obH (convV Try.prog 46 3 t27_29 h30) fun t28_31 h32 =>
(fieldAddrV Try.prog 104 t5_19 4).bind fun t29_33 =>
(storeV Try.prog 3 t29_33 t28_31 h32).bind fun h34 =>
codeK Try.prog (evC Try.prog) loopL c69_1 ⟨#[Aa,Ab, t2_0, (Go.Value.int Go.IntKind.i64 0), t7_2, t5_19,Aa, t7_2, t7_2, t9_4, t10_6, t7_2, t12_8, t7_2, t14_10, t15_12, t7_2, t17_14, t18_16, t19_18, t20_22, t21_23, t22_24,Ay,Az,Ba, t7_2, t27_29, t28_31, t29_33,Bf,Bg,Bh,Bi,Bj,Bk,Bl,Bm,Bn,Bo,Bp,Bq,Br,Bs,Bt,Bu,Bv,Bw,Bx,By,Bz,Ca,Cb,Cc,Cd,Ce,Cf], h34⟩ k) := by kernel_rfl
theorem c69_1_eq {β : Type} (h : Heap) (k : Ex → St → Option β) : codeK Try.prog (evC Try.prog) loopL c69_1 ⟨#[Aa,Ab,Ac,Ad,Ae,Af,Ag,Ah,Ai,Aj,Ak,Al,An,Ao,Ap,Aq,Ar,As,At,Au,Av,Aw,Ax,Ay,Az,Ba,Bb,Bc,Bd,Be,Bf,Bg,Bh,Bi,Bj,Bk,Bl,Bm,Bn,Bo,Bp,Bq,Br,Bs,Bt,Bu,Bv,Bw,Bx,By,Bz,Ca,Cb,Cc,Cd,Ce,Cf], h⟩ k =
(fieldAddrV Try.prog 104 Af 3).bind fun t30_35 =>
(loadV Try.prog 3 t30_35 h).bind fun t31_36 =>
obH (evC Try.prog 110 #[t31_36] h) fun t32_37 h38 =>
cnd t32_37 (
obH (evC Try.prog 52 #[Ae] h38) fun t34_39 h40 =>
(fieldAddrV Try.prog 104 Af 5).bind fun t35_41 =>
(storeV Try.prog 84 t35_41 t34_39 h40).bind fun h42 =>
obH (evC Try.prog 46 #[Ae, (Go.Value.int Go.IntKind.u64 16)] h42) fun t37_43 h44 =>
obH (convV Try.prog 46 3 t37_43 h44) fun t38_45 h46 =>
(binV Try.prog .sub 3 (.tmp 38) (.const (Go.Value.int Go.IntKind.i64 1)) t38_45 (Go.Value.int Go.IntKind.i64 1)).bind fun t39_47 =>
(fieldAddrV Try.prog 104 Af 6).bind fun t40_48 =>
(storeV Try.prog 3 t40_48 t39_47 h46).bind fun h49 =>
obH (evC Try.prog 46 #[Ae, (Go.Value.int Go.IntKind.u64 18446744073709551615)] h49) fun t42_50 h51 =>
(fieldAddrV Try.prog 104 Af 7).bind fun t43_52 =>
(storeV Try.prog 46 t43_52 t42_50 h51).bind fun h53 =>
codeK Try.prog (evC Try.prog) loopL c69_2 ⟨#[Aa,Ab,Ac,Ad,Ae,Af,Ag,Ah,Ai,Aj,Ak,Al,An,Ao,Ap,Aq,Ar,As,At,Au,Av,Aw,Ax,Ay,Az,Ba,Bb,Bc,Bd,Be, t30_35, t31_36, t32_37,Ae, t34_39, t35_41,Ae, t37_43, t38_45, t39_47, t40_48,Ae, t42_50, t43_52,Bt,Bu,Bv,Bw,Bx,By,Bz,Ca,Cb,Cc,Cd,Ce,Cf], h53⟩ k) (
codeK Try.prog (evC Try.prog) loopL c69_2 ⟨#[Aa,Ab,Ac,Ad,Ae,Af,Ag,Ah,Ai,Aj,Ak,Al,An,Ao,Ap,Aq,Ar,As,At,Au,Av,Aw,Ax,Ay,Az,Ba,Bb,Bc,Bd,Be, t30_35, t31_36, t32_37,Bi,Bj,Bk,Bl,Bm,Bn,Bo,Bp,Bq,Br,Bs,Bt,Bu,Bv,Bw,Bx,By,Bz,Ca,Cb,Cc,Cd,Ce,Cf], h38⟩ k) := by kernel_rfl
theorem c69_2_eq {β : Type} (h : Heap) (k : Ex → St → Option β) : codeK Try.prog (evC Try.prog) loopL c69_2 ⟨#[Aa,Ab,Ac,Ad,Ae,Af,Ag,Ah,Ai,Aj,Ak,Al,An,Ao,Ap,Aq,Ar,As,At,Au,Av,Aw,Ax,Ay,Az,Ba,Bb,Bc,Bd,Be,Bf,Bg,Bh,Bi,Bj,Bk,Bl,Bm,Bn,Bo,Bp,Bq,Br,Bs,Bt,Bu,Bv,Bw,Bx,By,Bz,Ca,Cb,Cc,Cd,Ce,Cf], h⟩ k =
obH (evC Try.prog 54 #[Ae, (Go.Value.int Go.IntKind.i64 20000)] h) fun t45_54 h55 =>
(fieldAddrV Try.prog 104 Af 9).bind fun t46_56 =>
(storeV Try.prog 23 t46_56 t45_54 h55).bind fun h57 =>
obH (evC Try.prog 47 #[Ae] h57) fun t48_58 h59 =>
(unV Try.prog .not t48_58).bind fun t49_60 =>
(gd (wt t49_60 false) (loadV Try.prog 104 Af h59)).bind fun t51_61 =>
obH (gdH (wt t49_60 false) h59 (evC Try.prog 71 #[t51_61] h59)) fun t52_62 h63 =>
(gd (wt t49_60 false) (unV Try.prog .not t52_62)).bind fun t53_64 =>
(pickV t49_60 (Go.Value.bool Bool.true) t53_64).bind fun t54_65 =>
cnd t54_65 (
(buildV Try.prog 104 #[]).bind fun t55_66 =>
(storeV Try.prog 104 Ac t55_66 h63).bind fun h67 =>
k .ret ⟨#[Aa,Ab,Ac, (Go.Value.int Go.IntKind.i64 2),Ae,Af,Ag,Ah,Ai,Aj,Ak,Al,An,Ao,Ap,Aq,Ar,As,At,Au,Av,Aw,Ax,Ay,Az,Ba,Bb,Bc,Bd,Be,Bf,Bg,Bh,Bi,Bj,Bk,Bl,Bm,Bn,Bo,Bp,Bq,Br,Bs,Ae, t45_54, t46_56,Ae, t48_58, t49_60, t49_60, t51_61, t52_62, t53_64, t54_65, t55_66,Cf], h67⟩) (
(loadV Try.prog 104 Af h63).bind fun t56_68 =>
(storeV Try.prog 104 Ac t56_68 h63).bind fun h69 =>
k .ret ⟨#[Aa,Ab,Ac, (Go.Value.int Go.IntKind.i64 0),Ae,Af,Ag,Ah,Ai,Aj,Ak,Al,An,Ao,Ap,Aq,Ar,As,At,Au,Av,Aw,Ax,Ay,Az,Ba,Bb,Bc,Bd,Be,Bf,Bg,Bh,Bi,Bj,Bk,Bl,Bm,Bn,Bo,Bp,Bq,Br,Bs,Ae, t45_54, t46_56,Ae, t48_58, t49_60, t49_60, t51_61, t52_62, t53_64, t54_65,Ce, t56_68], h69⟩) := by kernel_rfl
theorem call69 (h : Heap) : evC Try.prog 69 #[Aa] h = codeK Try.prog (evC Try.prog) loopL c69_0 ⟨#[Aa, undef, undef, undef, undef, undef, undef, undef, undef, undef, undef, undef, undef, undef, undef, undef, undef, undef, undef, undef, undef, undef, undef, undef, undef, undef, undef, undef, undef, undef, undef, undef, undef, undef, undef, undef, undef, undef, undef, undef, undef, undef, undef, undef, undef, undef, undef, undef, undef, undef, undef, undef, undef, undef, undef, undef, undef], nm h⟩ (retK Try.f69 Try.prog h) :=
  (evC_call 69 Try.f69 c69_0 Try.func69 (by kernel_rfl) #[Aa] h).trans (by kernel_rfl)
theorem ret69 (h0 h : Heap) : retK Try.f69 Try.prog h0 .ret ⟨#[Aa,Ab,Ac,Ad,Ae,Af,Ag,Ah,Ai,Aj,Ak,Al,An,Ao,Ap,Aq,Ar,As,At,Au,Av,Aw,Ax,Ay,Az,Ba,Bb,Bc,Bd,Be,Bf,Bg,Bh,Bi,Bj,Bk,Bl,Bm,Bn,Bo,Bp,Bq,Br,Bs,Bt,Bu,Bv,Bw,Bx,By,Bz,Ca,Cb,Cc,Cd,Ce,Cf], h⟩ = fin h0 (rvals ((loadV Try.prog 104 Ac h).bind fun r0 => some [r0,Ad])) h := by kernel_rfl
end Go.Am
namespace Go.Am
open Go.Proofs
set_option maxRecDepth 100000
variable (Aa Ab Ac Ad Ae Af Ag Ah Ai Aj Ak Al An Ao Ap Aq Ar As At Au Av Aw Ax Ay Az Ba Bb Bc Bd Be Bf Bg Bh Bi Bj Bk : Value)
end Go.Am
namespace Go.Am
open Go.Proofs
set_option maxRecDepth 100000
variable (Aa Ab Ac Ad Ae Af Ag Ah Ai Aj Ak Al An Ao Ap Aq Ar As At Au Av Aw Ax Ay : Value)
noncomputable def c68_0 : Code := bodyC Try.f68 []
theorem c68_0_eq {β : Type} (h : Heap) (k : Ex → St → Option β) : codeK Try.prog (evC Try.prog) loopL c68_0 ⟨#[Aa,Ab,Ac,Ad,Ae,Af,Ag,Ah,Ai,Aj,Ak,Al,An,Ao,Ap,Aq,Ar,As,At,Au,Av,Aw,Ax,Ay], h⟩ k =
obH (boxV Try.prog 104 Aa h) fun t1_0 h1 =>
obH (allocV Try.prog 108 h1) fun t2_2 h3 =>
(fieldAddrV Try.prog 104 t1_0 0).bind fun t3_4 =>
(loadV Try.prog 3 t3_4 h3).bind fun t4_5 =>
(fieldAddrV Try.prog 104 t1_0 1).bind fun t5_6 =>
(loadV Try.prog 46 t5_6 h3).bind fun t6_7 =>
(fieldAddrV Try.prog 104 t1_0 2).bind fun t7_8 =>
(loadV Try.prog 47 t7_8 h3).bind fun t8_9 =>
(fieldAddrV Try.prog 104 t1_0 3).bind fun t9_10 =>
(loadV Try.prog 3 t9_10 h3).bind fun t10_11 =>
(fieldAddrV Try.prog 104 t1_0 4).bind fun t11_12 =>
(loadV Try.prog 3 t11_12 h3).bind fun t12_13 =>
(fieldAddrV Try.prog 104 t1_0 5).bind fun t13_14 =>
(loadV Try.prog 84 t13_14 h3).bind fun t14_15 =>
(fieldAddrV Try.prog 104 t1_0 6).bind fun t15_16 =>
(loadV Try.prog 3 t15_16 h3).bind fun t16_17 =>
(fieldAddrV Try.prog 104 t1_0 7).bind fun t17_18 =>
(loadV Try.prog 46 t17_18 h3).bind fun t18_19 =>
(fieldAddrV Try.prog 104 t1_0 8).bind fun t19_20 =>
(loadV Try.prog 23 t19_20 h3).bind fun t20_21 =>
(fieldAddrV Try.prog 104 t1_0 9).bind fun t21_22 =>
(loadV Try.prog 23 t21_22 h3).bind fun t22_23 =>
(buildV Try.prog 108 #[(0, t4_5), (1, t6_7), (2, t8_9), (3, t10_11), (4, t12_13), (5, t14_15), (6, t16_17), (7, t18_19), (8, t20_21), (9, t22_23)]).bind fun t23_24 =>
(storeV Try.prog 108 t2_2 t23_24 h3).bind fun h25 =>
k .ret ⟨#[Aa, t1_0, t2_2, t3_4, t4_5, t5_6, t6_7, t7_8, t8_9, t9_10, t10_11, t11_12, t12_13, t13_14, t14_15, t15_16, t16_17, t17_18, t18_19, t19_20, t20_21, t21_22, t22_23, t23_24], h25⟩ := by kernel_rfl
theorem call68 (h : Heap) : evC Try.prog 68 #[Aa] h = codeK Try.prog (evC Try.prog) loopL c68_0 ⟨#[Aa, undef, undef, undef, undef, undef, undef, undef, undef, undef, undef, undef, undef, undef, undef, undef, undef, undef, undef, undef, undef, undef, undef, undef], nm h⟩ (retK Try.f68 Try.prog h) :=
  (evC_call 68 Try.f68 c68_0 Try.func68 (by kernel_rfl) #[Aa] h).trans (by kernel_rfl)
theorem ret68 (h0 h : Heap) : retK Try.f68 Try.prog h0 .ret ⟨#[Aa,Ab,Ac,Ad,Ae,Af,Ag,Ah,Ai,Aj,Ak,Al,An,Ao,Ap,Aq,Ar,As,At,Au,Av,Aw,Ax,Ay], h⟩ = fin h0 (rvals ((loadV Try.prog 108 Ac h).bind fun r0 => some [r0])) h := by kernel_rfl
end Go.Am
namespace Go.Am
open Go.Proofs
set_option maxRecDepth 100000
variable (Aa Ab Ac Ad Ae Af Ag Ah Ai Aj Ak Al An Ao Ap Aq Ar As At Au Av Aw Ax Ay Az Ba Bb Bc Bd Be Bf Bg Bh Bi Bj Bk Bl Bm Bn Bo Bp Bq Br Bs Bt Bu Bv Bw Bx By Bz Ca Cb Cc Cd Ce Cf Cg Ch Ci Cj Ck Cl Cm Cn Co Cp Cq Cr Cs Ct Cu Cv Cw Cx Cy Cz : Value)
noncomputable def c74_0 : Code := bodyC Try.f74 []
theorem c74_0_eq {β : Type} (h : Heap) (k : Ex → St → Option β) : codeK Try.prog (evC Try.prog) loopL c74_0 ⟨#[Aa,Ab,Ac,Ad,Ae,Af,Ag,Ah,Ai,Aj,Ak,Al,An,Ao,Ap,Aq,Ar,As,At,Au,Av,Aw,Ax,Ay,Az,Ba,Bb,Bc,Bd,Be,Bf,Bg,Bh,Bi,Bj,Bk,Bl,Bm,Bn,Bo,Bp,Bq,Br,Bs,Bt,Bu,Bv,Bw,Bx,By,Bz,Ca,Cb,Cc,Cd,Ce,Cf,Cg,Ch,Ci,Cj,Ck,Cl,Cm,Cn,Co,Cp,Cq,Cr,Cs,Ct,Cu,Cv,Cw,Cx,Cy,Cz], h⟩ k =
obH (boxV Try.prog 108 Aa h) fun t2_0 h1 =>
obH (boxV Try.prog 108 Ab h1) fun t3_2 h3 =>
(fieldAddrV Try.prog 108 t2_0 0).bind fun t5_4 =>
(loadV Try.prog 3 t5_4 h3).bind fun t6_5 =>
(fieldAddrV Try.prog 108 t3_2 0).bind fun t7_6 =>
(loadV Try.prog 3 t7_6 h3).bind fun t8_7 =>
(binV Try.prog .eql 3 (.tmp 6) (.tmp 8) t6_5 t8_7).bind fun t9_8 =>
(gd (wt t9_8 true) (fieldAddrV Try.prog 108 t2_0 1)).bind fun t11_9 =>
(gd (wt t9_8 true) (loadV Try.prog 46 t11_9 h3)).bind fun t12_10 =>
(gd (wt t9_8 true) (fieldAddrV Try.prog 108 t3_2 1)).bind fun t13_11 =>
(gd (wt t9_8 true) (loadV Try.prog 46 t13_11 h3)).bind fun t14_12 =>
(gd (wt t9_8 true) (binV Try.prog .eql 46 (.tmp 12) (.tmp 14) t12_10 t14_12)).bind fun t15_13 =>
(pickV t9_8 t15_13 (Go.Value.bool Bool.false)).bind fun t16_14 =>
(gd (wt t16_14 true) (fieldAddrV Try.prog 108 t2_0 2)).bind fun t18_15 =>
(gd (wt t16_14 true) (loadV Try.prog 46 t18_15 h3)).bind fun t19_16 =>
(gd (wt t16_14 true) (fieldAddrV Try.prog 108 t3_2 2)).bind fun t20_17 =>
(gd (wt t16_14 true) (loadV Try.prog 46 t20_17 h3)).bind fun t21_18 =>
(gd (wt t16_14 true) (binV Try.prog .eql 46 (.tmp 19) (.tmp 21) t19_16 t21_18)).bind fun t22_19 =>
(pickV t16_14 t22_19 (Go.Value.bool Bool.false)).bind fun t23_20 =>
(gd (wt t23_20 true) (fieldAddrV Try.prog 108 t2_0 3)).bind fun t25_21 =>
(gd (wt t23_20 true) (loadV Try.prog 3 t25_21 h3)).bind fun t26_22 =>
(gd (wt t23_20 true) (fieldAddrV Try.prog 108 t3_2 3)).bind fun t27_23 =>
(gd (wt t23_20 true) (loadV Try.prog 3 t27_23 h3)).bind fun t28_24 =>
(gd (wt t23_20 true) (binV Try.prog .eql 3 (.tmp 26) (.tmp 28) t26_22 t28_24)).bind fun t29_25 =>
(pickV t23_20 t29_25 (Go.Value.bool Bool.false)).bind fun t30_26 =>
(gd (wt t30_26 true) (fieldAddrV Try.prog 108 t2_0 4)).bind fun t32_27 =>
(gd (wt t30_26 true) (loadV Try.prog 3 t32_27 h3)).bind fun t33_28 =>
(gd (wt t30_26 true) (fieldAddrV Try.prog 108 t3_2 4)).bind fun t34_29 =>
(gd (wt t30_26 true) (loadV Try.prog 3 t34_29 h3)).bind fun t35_30 =>
(gd (wt t30_26 true) (binV Try.prog .eql 3 (.tmp 33) (.tmp 35) t33_28 t35_30)).bind fun t36_31 =>
(pickV t30_26 t36_31 (Go.Value.bool Bool.false)).bind fun t37_32 =>
(gd (wt t37_32 true) (fieldAddrV Try.prog 108 t2_0 5)).bind fun t39_33 =>
(gd (wt t37_32 true) (loadV Try.prog 84 t39_33 h3)).bind fun t40_34 =>
(gd (wt t37_32 true) (fieldAddrV Try.prog 108 t3_2 5)).bind fun t41_35 =>
(gd (wt t37_32 true) (loadV Try.prog 84 t41_35 h3)).bind fun t42_36 =>
obH (gdH (wt t37_32 true) h3 (evC Try.prog 51 #[t40_34, t42_36] h3)) fun t43_37 h38 =>
(pickV t37_32 t43_37 (Go.Value.bool Bool.false)).bind fun t44_39 =>
(gd (wt t44_39 true) (fieldAddrV Try.prog 108 t2_0 6)).bind fun t46_40 =>
(gd (wt t44_39 true) (loadV Try.prog 3 t46_40 h38)).bind fun t47_41 =>
(gd (wt t44_39 true) (fieldAddrV Try.prog 108 t3_2 6)).bind fun t48_42 =>
(gd (wt t44_39 true) (loadV Try.prog 3 t48_42 h38)).bind fun t49_43 =>
(gd (wt t44_39 true) (binV Try.prog .eql 3 (.tmp 47) (.tmp 49) t47_41 t49_43)).bind fun t50_44 =>
(pickV t44_39 t50_44 (Go.Value.bool Bool.false)).bind fun t51_45 =>
(gd (wt t51_45 true) (fieldAddrV Try.prog 108 t2_0 7)).bind fun t53_46 =>
(gd (wt t51_45 true) (loadV Try.prog 46 t53_46 h38)).bind fun t54_47 =>
(gd (wt t51_45 true) (fieldAddrV Try.prog 108 t3_2 7)).bind fun t55_48 =>
(gd (wt t51_45 true) (loadV Try.prog 46 t55_48 h38)).bind fun t56_49 =>
(gd (wt t51_45 true) (binV Try.prog .eql 46 (.tmp 54) (.tmp 56) t54_47 t56_49)).bind fun t57_50 =>
(pickV t51_45 t57_50 (Go.Value.bool Bool.false)).bind fun t58_51 =>
(gd (wt t58_51 true) (fieldAddrV Try.prog 108 t2_0 8)).bind fun t60_52 =>
(gd (wt t58_51 true) (loadV Try.prog 23 t60_52 h38)).bind fun t61_53 =>
obH (gdH (wt t58_51 true) h38 (convV Try.prog 23 9 t61_53 h38)) fun t62_54 h55 =>
(gd (wt t58_51 true) (fieldAddrV Try.prog 108 t3_2 8)).bind fun t63_56 =>
(gd (wt t58_51 true) (loadV Try.prog 23 t63_56 h55)).bind fun t64_57 =>
obH (gdH (wt t58_51 true) h55 (convV Try.prog 23 9 t64_57 h55)) fun t65_58 h59 =>
(gd (wt t58_51 true) (binV Try.prog .eql 9 (.tmp 62) (.tmp 65) t62_54 t65_58)).bind fun t66_60 =>
(pickV t58_51 t66_60 (Go.Value.bool Bool.false)).bind fun t67_61 =>
(gd (wt t67_61 true) (fieldAddrV Try.prog 108 t2_0 9)).bind fun t69_62 =>
(gd (wt t67_61 true) (loadV Try.prog 23 t69_62 h59)).bind fun t70_63 =>
obH (gdH (wt t67_61 true) h59 (convV Try.prog 23 9 t70_63 h59)) fun t71_64 h65 =>
(gd (wt t67_61 true) (fieldAddrV Try.prog 108 t3_2 9)).bind fun t72_66 =>
(gd (wt t67_61 true) (loadV Try.prog 23 t72_66 h65)).bind fun t73_67 =>
obH (gdH (wt t67_61 true) h65 (convV Try.prog 23 9 t73_67 h65)) fun t74_68 h69 =>
(gd (wt t67_61 true) (binV Try.prog .eql 9 (.tmp 71) (.tmp 74) t71_64 t74_68)).bind fun t75_70 =>
(pickV t67_61 t75_70 (Go.Value.bool Bool.false)).bind fun t76_71 =>
k .ret ⟨#[Aa,Ab, t2_0, t3_2, t76_71, t5_4, t6_5, t7_6, t8_7, t9_8, t9_8, t11_9, t12_10, t13_11, t14_12, t15_13, t16_14, t16_14, t18_15, t19_16, t20_17, t21_18, t22_19, t23_20, t23_20, t25_21, t26_22, t27_23, t28_24, t29_25, t30_26, t30_26, t32_27, t33_28, t34_29, t35_30, t36_31, t37_32, t37_32, t39_33, t40_34, t41_35, t42_36, t43_37, t44_39, t44_39, t46_40, t47_41, t48_42, t49_43, t50_44, t51_45, t51_45, t53_46, t54_47, t55_48, t56_49, t57_50, t58_51, t58_51, t60_52, t61_53, t62_54, t63_56, t64_57, t65_58, t66_60, t67_61, t67_61, t69_62, t70_63, t71_64, t72_66, t73_67, t74_68, t75_70, t76_71], h69⟩ := by kernel_rfl
theorem call74 (h : Heap) : evC Try.prog 74 #[Aa,Ab] h = codeK Try.prog (evC Try.prog) loopL c74_0 ⟨#[Aa,Ab, undef, undef, undef, undef, undef, undef, undef, undef, undef, undef, undef, undef, undef, undef, undef, undef, undef, undef, undef, undef, undef, undef, undef, undef, undef, undef, undef, undef, undef, undef, undef, undef, undef, undef, undef, undef, undef, undef, undef, undef, undef, undef, undef, undef, undef, undef, undef, undef, undef, undef, undef, undef, undef, undef, undef, undef, undef, undef, undef, undef, undef, undef, undef, undef, undef, undef, undef, undef, undef, undef, undef, undef, undef, undef, undef], nm h⟩ (retK Try.f74 Try.prog h) :=
  (evC_call 74 Try.f74 c74_0 Try.func74 (by kernel_rfl) #[Aa,Ab] h).trans (by kernel_rfl)
theorem ret74 (h0 h : Heap) : retK Try.f74 Try.prog h0 .ret ⟨#[Aa,Ab,Ac,Ad,Ae,Af,Ag,Ah,Ai,Aj,Ak,Al,An,Ao,Ap,Aq,Ar,As,At,Au,Av,Aw,Ax,Ay,Az,Ba,Bb,Bc,Bd,Be,Bf,Bg,Bh,Bi,Bj,Bk,Bl,Bm,Bn,Bo,Bp,Bq,Br,Bs,Bt,Bu,Bv,Bw,Bx,By,Bz,Ca,Cb,Cc,Cd,Ce,Cf,Cg,Ch,Ci,Cj,Ck,Cl,Cm,Cn,Co,Cp,Cq,Cr,Cs,Ct,Cu,Cv,Cw,Cx,Cy,Cz], h⟩ = fin h0 (some Ae) h := by kernel_rfl
end Go.Am
namespace Go.Am
open Go.Proofs
set_option maxRecDepth 100000
variable (Aa Ab Ac Ad : Value)
noncomputable def c75_0 : Code := bodyC Try.f75 []
theorem c75_0_eq {β : Type} (h : Heap) (k : Ex → St → Option β) : codeK Try.prog (evC Try.prog) loopL c75_0 ⟨#[Aa,Ab,Ac,Ad], h⟩ k =
obH (allocV Try.prog 104 h) fun t0_0 h1 =>
obH (buildSliceV Try.prog 23 1 #[(0, (Go.Value.int Go.IntKind.u8 97))] h1) fun t1_2 h3 =>
obH (convV Try.prog 23 23 t1_2 h3) fun t2_4 h5 =>
(buildV Try.prog 104 #[(1, (Go.Value.int Go.IntKind.u64 1)), (2, (Go.Value.int Go.IntKind.u64 2)), (8, t2_4)]).bind fun t3_6 =>
(storeV Try.prog 104 t0_0 t3_6 h5).bind fun h7 =>
k .ret ⟨#[t0_0, t1_2, t2_4, t3_6], h7⟩ := by kernel_rfl
theorem call75 (h : Heap) : evC Try.prog 75 #[] h = codeK Try.prog (evC Try.prog) loopL c75_0 ⟨#[undef, undef, undef, undef], nm h⟩ (retK Try.f75 Try.prog h) :=
  (evC_call 75 Try.f75 c75_0 Try.func75 (by kernel_rfl) #[] h).trans (by kernel_rfl)
theorem ret75 (h0 h : Heap) : retK Try.f75 Try.prog h0 .ret ⟨#[Aa,Ab,Ac,Ad], h⟩ = fin h0 (rvals ((loadV Try.prog 104 Aa h).bind fun r0 => some [r0])) h := by kernel_rfl
end Go.Am
namespace Go.Am
open Go.Proofs
set_option maxRecDepth 100000
variable (Aa Ab Ac Ad Ae Af Ag Ah Ai Aj Ak Al An Ao Ap Aq Ar As At Au Av Aw Ax Ay Az Ba Bb Bc Bd Be Bf Bg Bh Bi : Value)
noncomputable def c65_0 : Code := bodyC Try.f65 []
theorem c65_0_eq {β : Type} (h : Heap) (k : Ex → St → Option β) : codeK Try.prog (evC Try.prog) loopL c65_0 ⟨#[Aa,Ab,Ac,Ad,Ae,Af,Ag,Ah,Ai,Aj,Ak,Al,An,Ao,Ap,Aq,Ar,As,At,Au,Av,Aw,Ax,Ay,Az,Ba,Bb,Bc,Bd,Be,Bf,Bg,Bh,Bi], h⟩ k =
obH (evC Try.prog 75 #[] h) fun t4_0 h1 =>
obH (evC Try.prog 66 #[t4_0] h1) fun t5_2 h3 =>
obH (evC Try.prog 69 #[t5_2] h3) fun t8_4 h5 =>
(extractV t8_4 0).bind fun t9_6 =>
(extractV t8_4 1).bind fun t10_7 =>
obH (allocV Try.prog 104 h5) fun t2_8 h9 =>
(storeV Try.prog 104 t2_8 t9_6 h9).bind fun h10 =>
(lenV Try.prog 23 t5_2 h10).bind fun t12_11 =>
(binV Try.prog .eql 3 (.tmp 12) (.const (Go.Value.int Go.IntKind.i64 7)) t12_11 (Go.Value.int Go.IntKind.i64 7)).bind fun t13_12 =>
(gd (wt t13_12 true) (binV Try.prog .eql 41 (.tmp 15) (.const (Go.Value.int Go.IntKind.i64 0)) (gdV (wt t13_12 true) t10_7) (Go.Value.int Go.IntKind.i64 0))).bind fun t16_13 =>
(pickV t13_12 t16_13 (Go.Value.bool Bool.false)).bind fun t17_14 =>
(gd (wt t17_14 true) (loadV Try.prog 104 t2_8 h10)).bind fun t19_15 =>
obH (gdH (wt t17_14 true) h10 (evC Try.prog 68 #[t19_15] h10)) fun t20_16 h17 =>
obH (gdH (wt t17_14 true) h17 (evC Try.prog 75 #[] h17)) fun t21_18 h19 =>
obH (gdH (wt t17_14 true) h19 (evC Try.prog 68 #[t21_18] h19)) fun t22_20 h21 =>
obH (gdH (wt t17_14 true) h21 (evC Try.prog 74 #[t20_16, t22_20] h21)) fun t23_22 h23 =>
(pickV t17_14 t23_22 (Go.Value.bool Bool.false)).bind fun t24_24 =>
obH (gdH (wt t24_24 true) h23 (evC Try.prog 75 #[] h23)) fun t26_25 h26 =>
obH (gdH (wt t24_24 true) h26 (evC Try.prog 73 #[t26_25] h26)) fun t27_27 h28 =>
(gd (wt t24_24 true) (binV Try.prog .eql 3 (.tmp 27) (.const (Go.Value.int Go.IntKind.i64 7)) t27_27 (Go.Value.int Go.IntKind.i64 7))).bind fun t28_29 =>
(pickV t24_24 t28_29 (Go.Value.bool Bool.false)).bind fun t29_30 =>
obH (gdH (wt t29_30 true) h28 (evC Try.prog 75 #[] h28)) fun t31_31 h32 =>
obH (gdH (wt t29_30 true) h32 (evC Try.prog 71 #[t31_31] h32)) fun t32_33 h34 =>
(pickV t29_30 t32_33 (Go.Value.bool Bool.false)).bind fun t33_35 =>
k .ret ⟨#[t33_35, t5_2, t2_8, t10_7, t4_0, t5_2, t8_4, t5_2, t8_4, t9_6, t10_7, t5_2, t12_11, t13_12, t13_12, (gdV (wt t13_12 true) t10_7), t16_13, t17_14, t17_14, t19_15, t20_16, t21_18, t22_20, t23_22, t24_24, t24_24, t26_25, t27_27, t28_29, t29_30, t29_30, t31_31, t32_33, t33_35], h34⟩ := by kernel_rfl
theorem call65 (h : Heap) : evC Try.prog 65 #[] h = codeK Try.prog (evC Try.prog) loopL c65_0 ⟨#[undef, undef, undef, undef, undef, undef, undef, undef, undef, undef, undef, undef, undef, undef, undef, undef, undef, undef, undef, undef, undef, undef, undef, undef, undef, undef, undef, undef, undef, undef, undef, undef, undef, undef], nm h⟩ (retK Try.f65 Try.prog h) :=
  (evC_call 65 Try.f65 c65_0 Try.func65 (by kernel_rfl) #[] h).trans (by kernel_rfl)
theorem ret65 (h0 h : Heap) : retK Try.f65 Try.prog h0 .ret ⟨#[Aa,Ab,Ac,Ad,Ae,Af,Ag,Ah,Ai,Aj,Ak,Al,An,Ao,Ap,Aq,Ar,As,At,Au,Av,Aw,Ax,Ay,Az,Ba,Bb,Bc,Bd,Be,Bf,Bg,Bh,Bi], h⟩ = fin h0 (some Aa) h := by kernel_rfl
end Go.Am
namespace Go.Am
open Go.Proofs
set_option maxRecDepth 100000
variable {β : Type} (x : Nat → Value) (h : Heap) (k : Ex → St → Option β) (r m : List Nat) (g : Heap)
noncomputable def c63_0 : Code := bodyC Try.f63 []
theorem c63_0_eq : cK c63_0 13 x h k =
obH (callV Try.prog (evC Try.prog) (.func (.func 109) #[] #[]) #[x 0] h) fun v0 h1 =>
(bn .andNot 46 v0 (.int .u64 9223372036854775808)).bind fun v2 =>
obH (callV Try.prog (evC Try.prog) (.func (.func 109) #[] #[]) #[x 1] h1) fun v3 h4 =>
(bn .and 46 v3 (.int .u64 9223372036854775808)).bind fun v5 =>
(bn .or 46 v2 v5).bind fun v6 =>
obH (callV Try.prog (evC Try.prog) (.func (.func 108) #[] #[]) #[v6] h4) fun v7 h8 =>
k .ret ⟨ar 13 (up x [(4,v7),(5,(x 0)),(6,v0),(7,v2),(8,(x 1)),(9,v3),(10,v5),(11,v6),(12,v7)]), h8⟩ := by kernel_rfl
theorem call63 (a0 a1 : Value) : evC Try.prog 63 #[a0,a1] h = cK c63_0 13 (up un [(0,a0),(1,a1)]) (nm h) (retK Try.f63 Try.prog h) :=
  (evC_call 63 Try.f63 c63_0 Try.func63 (by kernel_rfl) #[a0,a1] h).trans (by kernel_rfl)
theorem ret63 : retK Try.f63 Try.prog g .ret ⟨ar 13 x, h⟩ = fin g (some (x 4)) h := by kernel_rfl
end Go.Am
namespace Go.Am
open Go.Proofs
set_option maxRecDepth 100000
variable {β : Type} (x : Nat → Value) (h : Heap) (k : Ex → St → Option β) (r m : List Nat) (g : Heap)
noncomputable def c16_0 : Code := bodyC Try.f16 []
noncomputable def c16_1 : Code := bodyC Try.f16 [false]
noncomputable def c16_2 : Code := bodyC Try.f16 [true]
noncomputable def c16_3 : Code := bodyC Try.f16 [true, false]
noncomputable def c16_4 : Code := bodyC Try.f16 [true, true]
noncomputable def c16_5 : Code := bodyC Try.f16 [true, true, false]
noncomputable def c16_6 : Code := bodyC Try.f16 [true, true, true]
noncomputable def c16_7 : Code := bodyC Try.f16 [true, true, true, false]
noncomputable def c16_8 : Code := bodyC Try.f16 [true, true, true, true]
noncomputable def c16_9 : Code := bodyC Try.f16 [true, true, true, false, true, false, false]
noncomputable def c16_10 : Code := bodyC Try.f16 [true, true, true, true, false]
noncomputable def c16_11 : Code := bodyC Try.f16 [true, true, true, true, true]
noncomputable def c16_12 : Code := bodyC Try.f16 [true, true, true, true, true, false]
noncomputable def c16_13 : Code := bodyC Try.f16 [true, true, true, true, true, true]
noncomputable def c16_14 : Code := bodyC Try.f16 [true, true, true, true, true, true, false]
noncomputable def c16_15 : Code := bodyC Try.f16 [true, true, true, true, true, true, true]
noncomputable def c16_16 : Code := bodyC Try.f16 [true, true, true, true, true, true, true, false]
noncomputable def c16_17 : Code := bodyC Try.f16 [true, true, true, true, true, true, true, true]
noncomputable def c16_18 : Code := bodyC Try.f16 [true, true, true, true, true, true, true, true, false]
noncomputable def c16_19 : Code := bodyC Try.f16 [true, true, true, true, true, true, true, true, true]
noncomputable def c16_20 : Code := bodyC Try.f16 [true, true, true, true, true, true, true, true, true, false]
noncomputable def c16_21 : Code := bodyC Try.f16 [true, true, true, true, true, true, true, true, true, true]
noncomputable def c16_22 : Code := bodyC Try.f16 [true, true, true, true, true, true, true, true, true, true, false]
noncomputable def c16_23 : Code := bodyC Try.f16 [true, true, true, true, true, true, true, true, true, true, true]
noncomputable def c16_24 : Code := bodyC Try.f16 [true, true, true, true, true, true, true, true, true, true, true, false]
noncomputable def c16_25 : Code := bodyC Try.f16 [true, true, true, true, true, true, true, true, true, true, true, true]
noncomputable def c16_26 : Code := bodyC Try.f16 [true, true, true, true, true, true, true, true, true, true, true, true, false]
noncomputable def c16_27 : Code := bodyC Try.f16 [true, true, true, true, true, true, true, true, true, true, true, true, true]
noncomputable def c16_28 : Code := bodyC Try.f16 [true, true, true, true, true, true, true, true, true, true, true, true, true, false]
noncomputable def c16_29 : Code := bodyC Try.f16 [true, true, true, true, true, true, true, true, true, true, true, true, true, true]
noncomputable def c16_30 : Code := bodyC Try.f16 [true, true, true, true, true, true, true, true, true, true, true, true, true, true, false]
noncomputable def c16_31 : Code := bodyC Try.f16 [true, true, true, true, true, true, true, true, true, true, true, true, true, true, true]
noncomputable def c16_32 : Code := bodyC Try.f16 [true, true, true, true, true, true, true, true, true, true, true, true, true, true, true, false]
noncomputable def c16_33 : Code := bodyC Try.f16 [true, true, true, true, true, true, true, true, true, true, true, true, true, true, true, true]
noncomputable def c16_34 : Code := bodyC Try.f16 [true, true, true, true, true, true, true, true, true, true, true, true, true, true, true, true, false]
noncomputable def c16_35 : Code := bodyC Try.f16 [true, true, true, true, true, true, true, true, true, true, true, true, true, true, true, true, true]
noncomputable def c16_36 : Code := bodyC Try.f16 [true, true, true, true, true, true, true, true, true, true, true, true, true, true, true, true, true, false]
noncomputable def c16_37 : Code := bodyC Try.f16 [true, true, true, true, true, true, true, true, true, true, true, true, true, true, true, true, true, true]
noncomputable def c16_38 : Code := bodyC Try.f16 [true, true, true, true, true, true, true, true, true, true, true, true, true, true, true, true, true, true, false]
noncomputable def c16_39 : Code := bodyC Try.f16 [true, true, true, true, true, true, true, true, true, true, true, true, true, true, true, true, true, true, true]
noncomputable def c16_40 : Code := bodyC Try.f16 [true, true, true, true, true, true, true, true, true, true, true, true, true, true, true, true, true, true, true, false]
noncomputable def c16_41 : Code := bodyC Try.f16 [true, true, true, true, true, true, true, true, true, true, true, true, true, true, true, true, true, true, true, true]
noncomputable def c16_42 : Code := bodyC Try.f16 [true, true, true, true, true, true, true, true, true, true, true, true, true, true, true, true, true, true, true, true, false]
noncomputable def c16_43 : Code := bodyC Try.f16 [true, true, true, true, true, true, true, true, true, true, true, true, true, true, true, true, true, true, true, true, true]
noncomputable def c16_44 : Code := bodyC Try.f16 [true, true, true, true, true, true, true, true, true, true, true, true, true, true, true, true, true, true, true, true, false, true, false, false]
noncomputable def c16_45 : Code := bodyC Try.f16 [true, true, true, true, true, true, true, true, true, true, true, true, true, true, true, true, true, true, true, true, true, false]
noncomputable def c16_46 : Code := bodyC Try.f16 [true, true, true, true, true, true, true, true, true, true, true, true, true, true, true, true, true, true, true, true, true, true]
noncomputable def c16_47 : Code := bodyC Try.f16 [true, true, true, true, true, true, true, true, true, true, true, true, true, true, true, true, true, true, true, true, true, true, false]
noncomputable def c16_48 : Code := bodyC Try.f16 [true, true, true, true, true, true, true, true, true, true, true, true, true, true, true, true, true, true, true, true, true, true, true]
noncomputable def c16_49 : Code := bodyC Try.f16 [true, true, true, true, true, true, true, true, true, true, true, true, true, true, true, true, true, true, true, true, true, true, true, false]
noncomputable def c16_50 : Code := bodyC Try.f16 [true, true, true, true, true, true, true, true, true, true, true, true, true, true, true, true, true, true, true, true, true, true, true, true]
noncomputable def c16_51 : Code := bodyC Try.f16 [true, true, true, true, true, true, true, true, true, true, true, true, true, true, true, true, true, true, true, true, true, true, true, true, false]
noncomputable def c16_52 : Code := bodyC Try.f16 [true, true, true, true, true, true, true, true, true, true, true, true, true, true, true, true, true, true, true, true, true, true, true, true, true]
noncomputable def d16_0 : Array Oper := opsC (bodyC Try.f16 [true, true, true, true, true, true, true, true, true, true, true, true, true, true, true, true, true, true, true, true, true, true, true, true, true, false])
noncomputable def c16_53 : Code := bodyC Try.f16 [true, true, true, true, true, true, true, true, true, true, true, true, true, true, true, true, true, true, true, true, true, true, true, true, true, false]
noncomputable def c16_54 : Code := bodyC Try.f16 [true, true, true, true, true, true, true, true, true, true, true, true, true, true, true, true, true, true, true, true, true, true, true, true, true, true]
theorem c16_0_eq : cK c16_0 148 x h k =
cK c16_1 148 x h (sK c16_2 k) := codeK_seq _ _ _ _ _ (by kernel_rfl) _ _
theorem c16_1_eq : cK c16_1 148 x h k =
k .normal ⟨ar 148 (up x [(0,(.bool false))]), h⟩ := by kernel_rfl
theorem c16_2_eq : cK c16_2 148 x h k =
cK c16_3 148 x h (sK c16_4 k) := codeK_seq _ _ _ _ _ (by kernel_rfl) _ _
theorem c16_3_eq : cK c16_3 148 x h k =
obH (ev 65 #[] h) fun v0 h1 =>
(unV Try.prog .not v0).bind fun v2 =>
cnd v2 (
k .ret ⟨ar 148 (up x [(0,(.bool false)),(11,v0),(12,v2)]), h1⟩) (
k .normal ⟨ar 148 (up x [(11,v0),(12,v2)]), h1⟩) := by kernel_rfl
theorem c16_4_eq : cK c16_4 148 x h k =
cK c16_5 148 x h (sK c16_6 k) := codeK_seq _ _ _ _ _ (by kernel_rfl) _ _
theorem c16_5_eq : cK c16_5 148 x h k =
obH (makeSliceV Try.prog 120 (.int .i64 16) (.int .i64 16) h) fun v3 h4 =>
k .normal ⟨ar 148 (up x [(1,v3),(13,v3)]), h4⟩ := by kernel_rfl
theorem c16_6_eq : cK c16_6 148 x h k =
cK c16_7 148 x h (sK c16_8 k) := codeK_seq _ _ _ _ _ (by kernel_rfl) _ _
theorem c16_7_eq : cK c16_7 148 x h k =
lK c16_9 148 (up x [(2,(.int .i64 0))]) h (blockK 0 k) := by kernel_rfl
theorem c16_8_eq : cK c16_8 148 x h k =
cK c16_10 148 x h (sK c16_11 k) := codeK_seq _ _ _ _ _ (by kernel_rfl) _ _
theorem c16_9_eq : cK c16_9 148 x h k =
(bn .lss 3 (x 2) (.int .i64 16)).bind fun v5 =>
cnd v5 (
obH (ev 75 #[] h) fun v6 h7 =>
(ia 120 (x 1) (x 2)).bind fun v8 =>
(sto 104 v8 v6 h7).bind fun h9 =>
(bn .add 3 (x 2) (.int .i64 1)).bind fun v10 =>
k .normal ⟨ar 148 (up x [(2,v10),(14,(x 2)),(15,v5),(16,(x 2)),(17,v10),(18,(x 1)),(19,(x 2)),(20,v6),(21,v8)]), h9⟩) (
k (.exit 0) ⟨ar 148 (up x [(14,(x 2)),(15,v5)]), h⟩) := by kernel_rfl
theorem c16_10_eq : cK c16_10 148 x h k =
(ia 120 (x 1) (.int .i64 0)).bind fun v11 =>
(fa 104 v11 0).bind fun v12 =>
(sto 3 v12 (.int .i64 16) h).bind fun h13 =>
k .normal ⟨ar 148 (up x [(22,(x 1)),(23,v11),(24,v12)]), h13⟩ := by kernel_rfl
theorem c16_11_eq : cK c16_11 148 x h k =
cK c16_12 148 x h (sK c16_13 k) := codeK_seq _ _ _ _ _ (by kernel_rfl) _ _
theorem c16_12_eq : cK c16_12 148 x h k =
(ia 120 (x 1) (.int .i64 1)).bind fun v14 =>
(fa 104 v14 1).bind fun v15 =>
(sto 46 v15 (.int .u64 0) h).bind fun h16 =>
k .normal ⟨ar 148 (up x [(25,(x 1)),(26,v14),(27,v15)]), h16⟩ := by kernel_rfl
theorem c16_13_eq : cK c16_13 148 x h k =
cK c16_14 148 x h (sK c16_15 k) := codeK_seq _ _ _ _ _ (by kernel_rfl) _ _
theorem c16_14_eq : cK c16_14 148 x h k =
(ia 120 (x 1) (.int .i64 2)).bind fun v17 =>
(fa 104 v17 2).bind fun v18 =>
(sto 47 v18 (.int .u64 1) h).bind fun h19 =>
k .normal ⟨ar 148 (up x [(28,(x 1)),(29,v17),(30,v18)]), h19⟩ := by kernel_rfl
theorem c16_15_eq : cK c16_15 148 x h k =
cK c16_16 148 x h (sK c16_17 k) := codeK_seq _ _ _ _ _ (by kernel_rfl) _ _
theorem c16_16_eq : cK c16_16 148 x h k =
(ia 120 (x 1) (.int .i64 3)).bind fun v20 =>
(fa 104 v20 2).bind fun v21 =>
(sto 47 v21 (.int .u64 65536) h).bind fun h22 =>
k .normal ⟨ar 148 (up x [(31,(x 1)),(32,v20),(33,v21)]), h22⟩ := by kernel_rfl
theorem c16_17_eq : cK c16_17 148 x h k =
cK c16_18 148 x h (sK c16_19 k) := codeK_seq _ _ _ _ _ (by kernel_rfl) _ _
theorem c16_18_eq : cK c16_18 148 x h k =
(ia 120 (x 1) (.int .i64 4)).bind fun v23 =>
(fa 104 v23 3).bind fun v24 =>
(sto 3 v24 (.int .i64 4) h).bind fun h25 =>
k .normal ⟨ar 148 (up x [(34,(x 1)),(35,v23),(36,v24)]), h25⟩ := by kernel_rfl
theorem c16_19_eq : cK c16_19 148 x h k =
cK c16_20 148 x h (sK c16_21 k) := codeK_seq _ _ _ _ _ (by kernel_rfl) _ _
theorem c16_20_eq : cK c16_20 148 x h k =
obH (makeSliceV Try.prog 23 (.int .i64 257) (.int .i64 257) h) fun v26 h27 =>
(ia 120 (x 1) (.int .i64 5)).bind fun v28 =>
(fa 104 v28 8).bind fun v29 =>
(sto 23 v29 v26 h27).bind fun h30 =>
k .normal ⟨ar 148 (up x [(37,(x 1)),(38,v26),(39,v28),(40,v29)]), h30⟩ := by kernel_rfl
theorem c16_21_eq : cK c16_21 148 x h k =
cK c16_22 148 x h (sK c16_23 k) := codeK_seq _ _ _ _ _ (by kernel_rfl) _ _
theorem c16_22_eq : cK c16_22 148 x h k =
(ia 120 (x 1) (.int .i64 6)).bind fun v31 =>
(fa 104 v31 3).bind fun v32 =>
(sto 3 v32 (.int .i64 2) h).bind fun h33 =>
k .normal ⟨ar 148 (up x [(41,(x 1)),(42,v31),(43,v32)]), h33⟩ := by kernel_rfl
theorem c16_23_eq : cK c16_23 148 x h k =
cK c16_24 148 x h (sK c16_25 k) := codeK_seq _ _ _ _ _ (by kernel_rfl) _ _
theorem c16_24_eq : cK c16_24 148 x h k =
(ia 120 (x 1) (.int .i64 7)).bind fun v34 =>
(fa 104 v34 4).bind fun v35 =>
(sto 3 v35 (.int .i64 1) h).bind fun h36 =>
k .normal ⟨ar 148 (up x [(44,(x 1)),(45,v34),(46,v35)]), h36⟩ := by kernel_rfl
theorem c16_25_eq : cK c16_25 148 x h k =
cK c16_26 148 x h (sK c16_27 k) := codeK_seq _ _ _ _ _ (by kernel_rfl) _ _
theorem c16_26_eq : cK c16_26 148 x h k =
(ia 120 (x 1) (.int .i64 8)).bind fun v37 =>
(fa 104 v37 5).bind fun v38 =>
(sto 84 v38 (.float Go.FloatKind.f64 4607182418800017408) h).bind fun h39 =>
k .normal ⟨ar 148 (up x [(47,(x 1)),(48,v37),(49,v38)]), h39⟩ := by kernel_rfl
theorem c16_27_eq : cK c16_27 148 x h k =
cK c16_28 148 x h (sK c16_29 k) := codeK_seq _ _ _ _ _ (by kernel_rfl) _ _
theorem c16_28_eq : cK c16_28 148 x h k =
(ia 120 (x 1) (.int .i64 9)).bind fun v40 =>
(fa 104 v40 6).bind fun v41 =>
(sto 3 v41 (.int .i64 1) h).bind fun h42 =>
k .normal ⟨ar 148 (up x [(50,(x 1)),(51,v40),(52,v41)]), h42⟩ := by kernel_rfl
theorem c16_29_eq : cK c16_29 148 x h k =
cK c16_30 148 x h (sK c16_31 k) := codeK_seq _ _ _ _ _ (by kernel_rfl) _ _
theorem c16_30_eq : cK c16_30 148 x h k =
(ia 120 (x 1) (.int .i64 10)).bind fun v43 =>
(fa 104 v43 7).bind fun v44 =>
(sto 46 v44 (.int .u64 1) h).bind fun h45 =>
k .normal ⟨ar 148 (up x [(53,(x 1)),(54,v43),(55,v44)]), h45⟩ := by kernel_rfl
theorem c16_31_eq : cK c16_31 148 x h k =
cK c16_32 148 x h (sK c16_33 k) := codeK_seq _ _ _ _ _ (by kernel_rfl) _ _
theorem c16_32_eq : cK c16_32 148 x h k =
obH (makeSliceV Try.prog 23 (.int .i64 20001) (.int .i64 20001) h) fun v46 h47 =>
(ia 120 (x 1) (.int .i64 11)).bind fun v48 =>
(fa 104 v48 9).bind fun v49 =>
(sto 23 v49 v46 h47).bind fun h50 =>
k .normal ⟨ar 148 (up x [(56,(x 1)),(57,v46),(58,v48),(59,v49)]), h50⟩ := by kernel_rfl
theorem c16_33_eq : cK c16_33 148 x h k =
cK c16_34 148 x h (sK c16_35 k) := codeK_seq _ _ _ _ _ (by kernel_rfl) _ _
theorem c16_34_eq : cK c16_34 148 x h k =
(buildV Try.prog 104 #[(1, (.int .u64 1)), (2, (.int .u64 2)), (3, (.int .i64 1)), (6, (.int .i64 1)), (7, (.int .u64 1))]).bind fun v51 =>
(ia 120 (x 1) (.int .i64 12)).bind fun v52 =>
(sto 104 v52 v51 h).bind fun h53 =>
k .normal ⟨ar 148 (up x [(60,(x 1)),(61,v51),(62,v52)]), h53⟩ := by kernel_rfl
theorem c16_35_eq : cK c16_35 148 x h k =
cK c16_36 148 x h (sK c16_37 k) := codeK_seq _ _ _ _ _ (by kernel_rfl) _ _
theorem c16_36_eq : cK c16_36 148 x h k =
(buildV Try.prog 104 #[(1, (.int .u64 1)), (2, (.int .u64 2)), (3, (.int .i64 1))]).bind fun v54 =>
(ia 120 (x 1) (.int .i64 13)).bind fun v55 =>
(sto 104 v55 v54 h).bind fun h56 =>
k .normal ⟨ar 148 (up x [(63,(x 1)),(64,v54),(65,v55)]), h56⟩ := by kernel_rfl
theorem c16_37_eq : cK c16_37 148 x h k =
cK c16_38 148 x h (sK c16_39 k) := codeK_seq _ _ _ _ _ (by kernel_rfl) _ _
theorem c16_38_eq : cK c16_38 148 x h k =
(buildV Try.prog 104 #[(1, (.int .u64 1)), (2, (.int .u64 2)), (3, (.int .i64 3)), (6, (.int .i64 2))]).bind fun v57 =>
(ia 120 (x 1) (.int .i64 14)).bind fun v58 =>
(sto 104 v58 v57 h).bind fun h59 =>
k .normal ⟨ar 148 (up x [(66,(x 1)),(67,v57),(68,v58)]), h59⟩ := by kernel_rfl
theorem c16_39_eq : cK c16_39 148 x h k =
cK c16_40 148 x h (sK c16_41 k) := codeK_seq _ _ _ _ _ (by kernel_rfl) _ _
theorem c16_40_eq : cK c16_40 148 x h k =
obH (ev 63 #[(.float Go.FloatKind.f64 0),(.float Go.FloatKind.f64 13830554455654793216)] h) fun v60 h61 =>
(ia 120 (x 1) (.int .i64 15)).bind fun v62 =>
(fa 104 v62 5).bind fun v63 =>
(sto 84 v63 v60 h61).bind fun h64 =>
k .normal ⟨ar 148 (up x [(69,(x 1)),(70,v60),(71,v62),(72,v63)]), h64⟩ := by kernel_rfl
theorem c16_41_eq : cK c16_41 148 x h k =
cK c16_42 148 x h (sK c16_43 k) := codeK_seq _ _ _ _ _ (by kernel_rfl) _ _
theorem c16_42_eq : cK c16_42 148 x h k =
lK c16_44 148 (up x [(3,(.int .i64 0))]) h (blockK 2 k) := by kernel_rfl
theorem c16_43_eq : cK c16_43 148 x h k =
cK c16_45 148 x h (sK c16_46 k) := codeK_seq _ _ _ _ _ (by kernel_rfl) _ _
theorem c16_44_eq : cK c16_44 148 x h k =
(bn .lss 3 (x 3) (.int .i64 16)).bind fun v65 =>
cnd v65 (
(ia 120 (x 1) (x 3)).bind fun v66 =>
(ld 104 v66 h).bind fun v67 =>
obH (ev 71 #[v67] h) fun v68 h69 =>
(gd (wt v68 false) (ia 120 (gdV (wt v68 false) (x 1)) (gdV (wt v68 false) (x 3)))).bind fun v70 =>
(gd (wt v68 false) (ld 104 v70 h69)).bind fun v71 =>
obH (gdH (wt v68 false) h69 (ev 66 #[v71] h69)) fun v72 h73 =>
(gd (wt v68 false) (ln 23 v72 h73)).bind fun v74 =>
(gd (wt v68 false) (bn .neq 3 v74 (.int .i64 0))).bind fun v75 =>
(pickV v68 (.bool true) v75).bind fun v76 =>
(gd (wt v76 false) (ia 120 (gdV (wt v76 false) (x 1)) (gdV (wt v76 false) (x 3)))).bind fun v77 =>
(gd (wt v76 false) (ld 104 v77 h73)).bind fun v78 =>
obH (gdH (wt v76 false) h73 (ev 73 #[v78] h73)) fun v79 h80 =>
(gd (wt v76 false) (bn .neq 3 v79 (.int .i64 0))).bind fun v81 =>
(pickV v76 (.bool true) v81).bind fun v82 =>
cnd v82 (
k .ret ⟨ar 148 (up x [(0,(.bool false)),(73,(x 3)),(74,v65),(77,(x 1)),(78,(x 3)),(79,v66),(80,v67),(81,v68),(82,v68),(83,(gdV (wt v68 false) (x 1))),(84,(gdV (wt v68 false) (x 3))),(85,v70),(86,v71),(87,v72),(88,v74),(89,v75),(90,v76),(91,v76),(92,(gdV (wt v76 false) (x 1))),(93,(gdV (wt v76 false) (x 3))),(94,v77),(95,v78),(96,v79),(97,v81),(98,v82)]), h80⟩) (
(bn .add 3 (x 3) (.int .i64 1)).bind fun v83 =>
k .normal ⟨ar 148 (up x [(3,v83),(73,(x 3)),(74,v65),(75,(x 3)),(76,v83),(77,(x 1)),(78,(x 3)),(79,v66),(80,v67),(81,v68),(82,v68),(83,(gdV (wt v68 false) (x 1))),(84,(gdV (wt v68 false) (x 3))),(85,v70),(86,v71),(87,v72),(88,v74),(89,v75),(90,v76),(91,v76),(92,(gdV (wt v76 false) (x 1))),(93,(gdV (wt v76 false) (x 3))),(94,v77),(95,v78),(96,v79),(97,v81),(98,v82)]), h80⟩)) (
k (.exit 2) ⟨ar 148 (up x [(73,(x 3)),(74,v65)]), h⟩) := by kernel_rfl
theorem c16_45_eq : cK c16_45 148 x h k =
obH (ev 76 #[] h) fun v84 h85 =>
(buildV Try.prog 104 #[(0, (.int .i64 1)), (1, (.int .u64 300)), (2, (.int .u64 1)), (3, (.int .i64 3)), (4, (.int .i64 2)), (5, v84), (6, (.int .i64 (-1)))]).bind fun v86 =>
obH (allocV Try.prog 104 h85) fun v87 h88 =>
(sto 104 v87 v86 h88).bind fun h89 =>
k .normal ⟨ar 148 (up x [(4,v87),(99,v84),(100,v86)]), h89⟩ := by kernel_rfl
theorem c16_46_eq : cK c16_46 148 x h k =
cK c16_47 148 x h (sK c16_48 k) := codeK_seq _ _ _ _ _ (by kernel_rfl) _ _
theorem c16_47_eq : cK c16_47 148 x h k =
(ld 104 (x 4) h).bind fun v90 =>
obH (ev 66 #[v90] h) fun v91 h92 =>
obH (ev 69 #[v91] h92) fun v93 h94 =>
(extractV v93 0).bind fun v95 =>
(extractV v93 1).bind fun v96 =>
obH (allocV Try.prog 104 h94) fun v97 h98 =>
(sto 104 v97 v95 h98).bind fun h99 =>
k .normal ⟨ar 148 (up x [(5,v97),(6,v96),(101,v93),(102,v90),(103,v91),(104,v93),(105,v95),(106,v96)]), h99⟩ := by kernel_rfl
theorem c16_48_eq : cK c16_48 148 x h k =
cK c16_49 148 x h (sK c16_50 k) := codeK_seq _ _ _ _ _ (by kernel_rfl) _ _
theorem c16_49_eq : cK c16_49 148 x h k =
obH (ev 69 #[(.slice Option.none 0 0)] h) fun v100 h101 =>
(extractV v100 0).bind fun v102 =>
(extractV v100 1).bind fun v103 =>
obH (allocV Try.prog 104 h101) fun v104 h105 =>
(sto 104 v104 v102 h105).bind fun h106 =>
k .normal ⟨ar 148 (up x [(7,v104),(8,v103),(107,v100),(108,v100),(109,v102),(110,v103)]), h106⟩ := by kernel_rfl
theorem c16_50_eq : cK c16_50 148 x h k =
cK c16_51 148 x h (sK c16_52 k) := codeK_seq _ _ _ _ _ (by kernel_rfl) _ _
theorem c16_51_eq : cK c16_51 148 x h k =
obH (ev 75 #[] h) fun v107 h108 =>
obH (ev 66 #[v107] h108) fun v109 h110 =>
obH (buildSliceV Try.prog 23 1 #[(0, (.int .u8 0))] h110) fun v111 h112 =>
obH (ap 23 (some 23) v109 v111 h112) fun v113 h114 =>
obH (ev 69 #[v113] h114) fun v115 h116 =>
(extractV v115 0).bind fun v117 =>
(extractV v115 1).bind fun v118 =>
obH (allocV Try.prog 104 h116) fun v119 h120 =>
(sto 104 v119 v117 h120).bind fun h121 =>
k .normal ⟨ar 148 (up x [(9,v119),(10,v118),(111,v115),(112,v107),(113,v109),(114,v111),(115,v113),(116,v115),(117,v117),(118,v118)]), h121⟩ := by kernel_rfl
theorem c16_52_eq : cK c16_52 148 x h k =
cK c16_53 148 x h (sK c16_54 k) := codeK_seq _ _ _ _ _ (by kernel_rfl) _ _
theorem d16_0_0 (k : St → Option β) : rD d16_0 0 148 x h r m k =
(ld 104 (x 4) h).bind fun v122 =>
rD d16_0 1 148 (up x [(119,v122)]) h r m k := (regD_step _ _ d16_0 0 (by kernel_rfl) _ _ _ _).trans (by kernel_rfl)
theorem d16_0_1 (k : St → Option β) : rD d16_0 1 148 x h r m k =
obH (ev 71 #[x 119] h) fun v123 h124 =>
rD d16_0 2 148 (up x [(120,v123)]) h124 r m k := (regD_step _ _ d16_0 1 (by kernel_rfl) _ _ _ _).trans (by kernel_rfl)
theorem d16_0_2 (k : St → Option β) : rD d16_0 2 148 x h r m k =
rD d16_0 3 148 (up x [(121,(x 120))]) h r m k := regD_move _ _ d16_0 2 (by kernel_rfl) (by kernel_rfl) (by kernel_rfl) _ _ _ _ _ _ (by kernel_rfl) (by kernel_rfl)
theorem d16_0_3 (k : St → Option β) : rD d16_0 3 148 x h r m k =
rD d16_0 4 148 (up x [(122,(gdV (wt (x 121) true) (x 6)))]) h r m k := regD_move _ _ d16_0 3 (by kernel_rfl) (by kernel_rfl) (by kernel_rfl) _ _ _ _ _ _ (by kernel_rfl) (by kernel_rfl)
theorem d16_0_4 (k : St → Option β) : rD d16_0 4 148 x h r m k =
(gd (wt (x 121) true) (bn .eql 41 (x 122) (.int .i64 0))).bind fun v125 =>
rD d16_0 5 148 (up x [(123,v125)]) h r m k := (regD_step _ _ d16_0 4 (by kernel_rfl) _ _ _ _).trans (by kernel_rfl)
theorem d16_0_5 (k : St → Option β) : rD d16_0 5 148 x h r m k =
(pickV (x 121) (x 123) (.bool false)).bind fun v126 =>
rD d16_0 6 148 (up x [(124,v126)]) h r m k := (regD_step _ _ d16_0 5 (by kernel_rfl) _ _ _ _).trans (by kernel_rfl)
theorem d16_0_6 (k : St → Option β) : rD d16_0 6 148 x h r m k =
rD d16_0 7 148 (up x [(125,(x 124))]) h r m k := regD_move _ _ d16_0 6 (by kernel_rfl) (by kernel_rfl) (by kernel_rfl) _ _ _ _ _ _ (by kernel_rfl) (by kernel_rfl)
theorem d16_0_7 (k : St → Option β) : rD d16_0 7 148 x h r m k =
(gd (wt (x 125) true) (ld 104 (x 4) h)).bind fun v127 =>
rD d16_0 8 148 (up x [(126,v127)]) h r m k := (regD_step _ _ d16_0 7 (by kernel_rfl) _ _ _ _).trans (by kernel_rfl)
theorem d16_0_8 (k : St → Option β) : rD d16_0 8 148 x h r m k =
obH (gdH (wt (x 125) true) (nm h) (ev 68 #[x 126] (nm h))) fun v128 h129 =>
rD d16_0 9 148 (up x [(127,v128)]) (am h129 h) r (h129.mods ++ m) k := (regD_step _ _ d16_0 8 (by kernel_rfl) _ _ _ _).trans (by kernel_rfl)
theorem d16_0_9 (k : St → Option β) : rD d16_0 9 148 x h r m k =
(gd (wt (x 125) true) (ld 104 (x 5) h)).bind fun v130 =>
rD d16_0 10 148 (up x [(128,v130)]) h (rdL (wt (x 125) true) (rb (x 5)) ++ r) m k := (regD_step _ _ d16_0 9 (by kernel_rfl) _ _ _ _).trans (by kernel_rfl)
theorem d16_0_10 (k : St → Option β) : rD d16_0 10 148 x h r m k =
obH (gdH (wt (x 125) true) h (ev 68 #[x 128] h)) fun v131 h132 =>
rD d16_0 11 148 (up x [(129,v131)]) h132 r m k := (regD_step _ _ d16_0 10 (by kernel_rfl) _ _ _ _).trans (by kernel_rfl)
theorem d16_0_11 (k : St → Option β) : rD d16_0 11 148 x h r m k =
obH (gdH (wt (x 125) true) h (ev 74 #[x 127,x 129] h)) fun v133 h134 =>
rD d16_0 12 148 (up x [(130,v133)]) h134 r m k := (regD_step _ _ d16_0 11 (by kernel_rfl) _ _ _ _).trans (by kernel_rfl)
theorem d16_0_12 (k : St → Option β) : rD d16_0 12 148 x h r m k =
(pickV (x 125) (x 130) (.bool false)).bind fun v135 =>
rD d16_0 13 148 (up x [(131,v135)]) h r m k := (regD_step _ _ d16_0 12 (by kernel_rfl) _ _ _ _).trans (by kernel_rfl)
theorem d16_0_13 (k : St → Option β) : rD d16_0 13 148 x h r m k =
rD d16_0 14 148 (up x [(132,(x 131))]) h r m k := regD_move _ _ d16_0 13 (by kernel_rfl) (by kernel_rfl) (by kernel_rfl) _ _ _ _ _ _ (by kernel_rfl) (by kernel_rfl)
theorem d16_0_14 (k : St → Option β) : rD d16_0 14 148 x h r m k =
rD d16_0 15 148 (up x [(133,(gdV (wt (x 132) true) (x 8)))]) h r m k := regD_move _ _ d16_0 14 (by kernel_rfl) (by kernel_rfl) (by kernel_rfl) _ _ _ _ _ _ (by kernel_rfl) (by kernel_rfl)
theorem d16_0_15 (k : St → Option β) : rD d16_0 15 148 x h r m k =
(gd (wt (x 132) true) (bn .eql 41 (x 133) (.int .i64 2))).bind fun v136 =>
rD d16_0 16 148 (up x [(134,v136)]) h r m k := (regD_step _ _ d16_0 15 (by kernel_rfl) _ _ _ _).trans (by kernel_rfl)
theorem d16_0_16 (k : St → Option β) : rD d16_0 16 148 x h r m k =
(pickV (x 132) (x 134) (.bool false)).bind fun v137 =>
rD d16_0 17 148 (up x [(135,v137)]) h r m k := (regD_step _ _ d16_0 16 (by kernel_rfl) _ _ _ _).trans (by kernel_rfl)
theorem d16_0_17 (k : St → Option β) : rD d16_0 17 148 x h r m k =
rD d16_0 18 148 (up x [(136,(x 135))]) h r m k := regD_move _ _ d16_0 17 (by kernel_rfl) (by kernel_rfl) (by kernel_rfl) _ _ _ _ _ _ (by kernel_rfl) (by kernel_rfl)
theorem d16_0_18 (k : St → Option β) : rD d16_0 18 148 x h r m k =
rD d16_0 19 148 (up x [(137,(gdV (wt (x 136) true) (x 10)))]) h r m k := regD_move _ _ d16_0 18 (by kernel_rfl) (by kernel_rfl) (by kernel_rfl) _ _ _ _ _ _ (by kernel_rfl) (by kernel_rfl)
theorem d16_0_19 (k : St → Option β) : rD d16_0 19 148 x h r m k =
(gd (wt (x 136) true) (bn .eql 41 (x 137) (.int .i64 2))).bind fun v138 =>
rD d16_0 20 148 (up x [(138,v138)]) h r m k := (regD_step _ _ d16_0 19 (by kernel_rfl) _ _ _ _).trans (by kernel_rfl)
theorem d16_0_20 (k : St → Option β) : rD d16_0 20 148 x h r m k =
(pickV (x 136) (x 138) (.bool false)).bind fun v139 =>
rD d16_0 21 148 (up x [(139,v139)]) h r m k := (regD_step _ _ d16_0 20 (by kernel_rfl) _ _ _ _).trans (by kernel_rfl)
theorem d16_0_21 (k : St → Option β) : rD d16_0 21 148 x h r m k =
rD d16_0 22 148 (up x [(140,(x 139))]) h r m k := regD_move _ _ d16_0 21 (by kernel_rfl) (by kernel_rfl) (by kernel_rfl) _ _ _ _ _ _ (by kernel_rfl) (by kernel_rfl)
theorem d16_0_22 (k : St → Option β) : rD d16_0 22 148 x h r m k =
(gd (wt (x 140) true) (buildV Try.prog 104 #[(1, (.int .u64 1)), (2, (.int .u64 2)), (3, (.int .i64 2)), (4, (.int .i64 15))])).bind fun v140 =>
rD d16_0 23 148 (up x [(141,v140)]) h r m k := (regD_step _ _ d16_0 22 (by kernel_rfl) _ _ _ _).trans (by kernel_rfl)
theorem d16_0_23 (k : St → Option β) : rD d16_0 23 148 x h r m k =
obH (gdH (wt (x 140) true) h (ev 71 #[x 141] h)) fun v141 h142 =>
rD d16_0 24 148 (up x [(142,v141)]) h142 r m k := (regD_step _ _ d16_0 23 (by kernel_rfl) _ _ _ _).trans (by kernel_rfl)
theorem d16_0_24 (k : St → Option β) : rD d16_0 24 148 x h r m k =
(pickV (x 140) (x 142) (.bool false)).bind fun v143 =>
rD d16_0 25 148 (up x [(143,v143)]) h r m k := (regD_step _ _ d16_0 24 (by kernel_rfl) _ _ _ _).trans (by kernel_rfl)
theorem d16_0_25 (k : St → Option β) : rD d16_0 25 148 x h r m k =
rD d16_0 26 148 (up x [(144,(x 143))]) h r m k := regD_move _ _ d16_0 25 (by kernel_rfl) (by kernel_rfl) (by kernel_rfl) _ _ _ _ _ _ (by kernel_rfl) (by kernel_rfl)
theorem d16_0_26 (k : St → Option β) : rD d16_0 26 148 x h r m k =
(gd (wt (x 144) true) (buildV Try.prog 104 #[(0, (.int .i64 3)), (1, (.int .u64 1)), (2, (.int .u64 2)), (3, (.int .i64 1)), (6, (.int .i64 3)), (7, (.int .u64 1))])).bind fun v144 =>
rD d16_0 27 148 (up x [(145,v144)]) h r m k := (regD_step _ _ d16_0 26 (by kernel_rfl) _ _ _ _).trans (by kernel_rfl)
theorem d16_0_27 (k : St → Option β) : rD d16_0 27 148 x h r m k =
obH (gdH (wt (x 144) true) h (ev 71 #[x 145] h)) fun v145 h146 =>
rD d16_0 28 148 (up x [(146,v145)]) h146 r m k := (regD_step _ _ d16_0 27 (by kernel_rfl) _ _ _ _).trans (by kernel_rfl)
theorem d16_0_28 (k : St → Option β) : rD d16_0 28 148 x h r m k =
(pickV (x 144) (x 146) (.bool false)).bind fun v147 =>
rD d16_0 29 148 (up x [(147,v147)]) h r m k := (regD_step _ _ d16_0 28 (by kernel_rfl) _ _ _ _).trans (by kernel_rfl)
theorem d16_0_29 (k : St → Option β) : rD d16_0 29 148 x h r m k =
rD d16_0 30 148 (up x [(0,(x 147))]) h r m k := regD_move _ _ d16_0 29 (by kernel_rfl) (by kernel_rfl) (by kernel_rfl) _ _ _ _ _ _ (by kernel_rfl) (by kernel_rfl)
theorem d16_0_30 (k : St → Option β) : rD d16_0 30 148 x h r m k =
chk r m (k ⟨ar 148 x, h⟩) := by kernel_rfl
theorem c16_53_eq : cK c16_53 148 x h k =
rD d16_0 0 148 x h [] [] (fun s => k .normal s) := by kernel_rfl
theorem c16_54_eq : cK c16_54 148 x h k =
k .ret ⟨ar 148 x, h⟩ := by kernel_rfl
theorem call16  : evC Try.prog 16 #[] h = cK c16_0 148 un (nm h) (retK Try.f16 Try.prog h) :=
  (evC_call 16 Try.f16 c16_0 Try.func16 (by kernel_rfl) #[] h).trans (by kernel_rfl)
theorem ret16 : retK Try.f16 Try.prog g .ret ⟨ar 148 x, h⟩ = fin g (some (x 0)) h := by kernel_rfl
end Go.Am
