/- What the texts of functions come to in the machine (printed by a program of this seat; Lean checks it). -/
import Derived.Test.YtclpkcampbhbdaaGreatDoorKB
import Derived.Test.YtclpkcampbhbdaaGreatDoorChecked
import Derived.KernelRfl
set_option linter.all false
namespace Go.Am
open Go.Proofs
set_option maxRecDepth 100000
variable (Aa Ab Ac Ad Ae Af Ag Ah Ai Aj Ak : Value)
noncomputable def c113_0 : Code := zCe Tryz.f113 []
noncomputable def c113_1 : Code := zCe Tryz.f113 [true, true, false, false, false]
noncomputable def c113_2 : Code := zCe Tryz.f113 [true, true, true]
theorem c113_0_eq {β : Type} (h : Heap) (k : Ex → St → Option β) : zDd Tryz.prog (evC Tryz.prog) zDc c113_0 ⟨#[Aa,Ab,Ac,Ad,Ae,Af,Ag,Ah,Ai,Aj,Ak], h⟩ k =
loopK Tryz.prog (evC Tryz.prog) c113_1 ⟨#[Aa,Ab, (Go.Value.int Go.IntKind.i64 0), (Go.Value.int Go.IntKind.i64 1),Ae,Af,Ag,Ah,Ai,Aj,Ak], h⟩ (zCr 0 (seqK Tryz.prog (evC Tryz.prog) c113_2 k)) := by kernel_rfl
theorem c113_1_eq {β : Type} (h : Heap) (k : Ex → St → Option β) : zDd Tryz.prog (evC Tryz.prog) zDc c113_1 ⟨#[Aa,Ab,Ac,Ad,Ae,Af,Ag,Ah,Ai,Aj,Ak], h⟩ k =
(binV Tryz.prog .geq 30 (.tmp 4) (.const (Go.Value.int Go.IntKind.u64 128)) Aa (Go.Value.int Go.IntKind.u64 128)).bind fun t5_0 =>
cnd t5_0 (
(binV Tryz.prog .shr 30 (.tmp 6) (.const (Go.Value.int Go.IntKind.u64 7)) Aa (Go.Value.int Go.IntKind.u64 7)).bind fun t7_1 =>
(binV Tryz.prog .add 3 (.tmp 8) (.const (Go.Value.int Go.IntKind.i64 1)) Ad (Go.Value.int Go.IntKind.i64 1)).bind fun t9_2 =>
k .normal ⟨#[t7_1,Ab,Ac, t9_2,Aa, t5_0,Aa, t7_1,Ad, t9_2,Ak], h⟩) (
k (.exit 0) ⟨#[Aa,Ab,Ac,Ad,Aa, t5_0,Ag,Ah,Ai,Aj,Ak], h⟩) := by kernel_rfl
theorem c113_2_eq {β : Type} (h : Heap) (k : Ex → St → Option β) : zDd Tryz.prog (evC Tryz.prog) zDc c113_2 ⟨#[Aa,Ab,Ac,Ad,Ae,Af,Ag,Ah,Ai,Aj,Ak], h⟩ k =
k .ret ⟨#[Aa,Ab,Ad,Ad,Ae,Af,Ag,Ah,Ai,Aj,Ad], h⟩ := by kernel_rfl
theorem call113 (h : Heap) : evC Tryz.prog 113 #[Aa] h = zDd Tryz.prog (evC Tryz.prog) zDc c113_0 ⟨#[Aa, undef, undef, undef, undef, undef, undef, undef, undef, undef, undef], nm h⟩ (zCw Tryz.f113 Tryz.prog h) :=
  (zCa 113 Tryz.f113 c113_0 Tryz.func113 (by kernel_rfl) #[Aa] h).trans (by kernel_rfl)
theorem ret113 (h0 h : Heap) : zCw Tryz.f113 Tryz.prog h0 .ret ⟨#[Aa,Ab,Ac,Ad,Ae,Af,Ag,Ah,Ai,Aj,Ak], h⟩ = fin h0 (some Ac) h := by kernel_rfl
end Go.Am
namespace Go.Am
open Go.Proofs
set_option maxRecDepth 100000
variable (Aa Ab Ac Ad Ae Af Ag Ah Ai Aj Ak Al An Ao Ap Aq Ar As Au Av Aw Ax Ay : Value)
noncomputable def c99_0 : Code := zCe Tryz.f99 []
noncomputable def c99_1 : Code := zCe Tryz.f99 [true, true, false, false, false]
noncomputable def c99_2 : Code := zCe Tryz.f99 [true, true, true]
theorem c99_0_eq {β : Type} (h : Heap) (k : Ex → St → Option β) : zDd Tryz.prog (evC Tryz.prog) zDc c99_0 ⟨#[Aa,Ab,Ac,Ad,Ae,Af,Ag,Ah,Ai,Aj,Ak,Al,An,Ao,Ap,Aq,Ar,As,Au,Av,Aw,Ax,Ay], h⟩ k =
obH (appendV Tryz.prog 35 (some 35) (Go.Value.slice Option.none 0 0) Aa h) fun t7_0 h1 =>
loopK Tryz.prog (evC Tryz.prog) c99_1 ⟨#[Aa,Ab,Ac,Ad, (Go.Value.slice Option.none 0 0), t7_0,Aa, t7_0,Ai,Aj,Ak,Al,An,Ao,Ap,Aq,Ar,As,Au,Av,Aw,Ax,Ay], h1⟩ (zCr 0 (seqK Tryz.prog (evC Tryz.prog) c99_2 k)) := by kernel_rfl
theorem c99_1_eq {β : Type} (h : Heap) (k : Ex → St → Option β) : zDd Tryz.prog (evC Tryz.prog) zDc c99_1 ⟨#[Aa,Ab,Ac,Ad,Ae,Af,Ag,Ah,Ai,Aj,Ak,Al,An,Ao,Ap,Aq,Ar,As,Au,Av,Aw,Ax,Ay], h⟩ k =
(binV Tryz.prog .geq 30 (.tmp 8) (.const (Go.Value.int Go.IntKind.u64 128)) Ab (Go.Value.int Go.IntKind.u64 128)).bind fun t9_2 =>
cnd t9_2 (
obH (convV Tryz.prog 30 5 Ab h) fun t12_3 h4 =>
(binV Tryz.prog .or 5 (.tmp 12) (.const (Go.Value.int Go.IntKind.u8 128)) t12_3 (Go.Value.int Go.IntKind.u8 128)).bind fun t13_5 =>
obH (zBw Tryz.prog 35 1 #[(0, t13_5)] h4) fun t14_6 h7 =>
obH (appendV Tryz.prog 35 (some 35) Af t14_6 h7) fun t15_8 h9 =>
(binV Tryz.prog .shr 30 (.tmp 16) (.const (Go.Value.int Go.IntKind.u64 7)) Ab (Go.Value.int Go.IntKind.u64 7)).bind fun t17_10 =>
k .normal ⟨#[Aa, t17_10,Ac,Ad,Ae, t15_8,Ag,Ah,Ab, t9_2,Af,Ab, t12_3, t13_5, t14_6, t15_8,Ab, t17_10,Au,Av,Aw,Ax,Ay], h9⟩) (
k (.exit 0) ⟨#[Aa,Ab,Ac,Ad,Ae,Af,Ag,Ah,Ab, t9_2,Ak,Al,An,Ao,Ap,Aq,Ar,As,Au,Av,Aw,Ax,Ay], h⟩) := by kernel_rfl
theorem c99_2_eq {β : Type} (h : Heap) (k : Ex → St → Option β) : zDd Tryz.prog (evC Tryz.prog) zDc c99_2 ⟨#[Aa,Ab,Ac,Ad,Ae,Af,Ag,Ah,Ai,Aj,Ak,Al,An,Ao,Ap,Aq,Ar,As,Au,Av,Aw,Ax,Ay], h⟩ k =
obH (convV Tryz.prog 30 5 Ab h) fun t20_11 h12 =>
obH (zBw Tryz.prog 35 1 #[(0, t20_11)] h12) fun t21_13 h14 =>
obH (appendV Tryz.prog 35 (some 35) Af t21_13 h14) fun t22_15 h16 =>
k .ret ⟨#[Aa,Ab,Ac,Ad, t22_15,Af,Ag,Ah,Ai,Aj,Ak,Al,An,Ao,Ap,Aq,Ar,As,Af,Ab, t20_11, t21_13, t22_15], h16⟩ := by kernel_rfl
theorem call99 (h : Heap) : evC Tryz.prog 99 #[Aa,Ab] h = zDd Tryz.prog (evC Tryz.prog) zDc c99_0 ⟨#[Aa,Ab, undef, undef, undef, undef, undef, undef, undef, undef, undef, undef, undef, undef, undef, undef, undef, undef, undef, undef, undef, undef, undef], nm h⟩ (zCw Tryz.f99 Tryz.prog h) :=
  (zCa 99 Tryz.f99 c99_0 Tryz.func99 (by kernel_rfl) #[Aa,Ab] h).trans (by kernel_rfl)
theorem ret99 (h0 h : Heap) : zCw Tryz.f99 Tryz.prog h0 .ret ⟨#[Aa,Ab,Ac,Ad,Ae,Af,Ag,Ah,Ai,Aj,Ak,Al,An,Ao,Ap,Aq,Ar,As,Au,Av,Aw,Ax,Ay], h⟩ = fin h0 (some Ae) h := by kernel_rfl
end Go.Am
namespace Go.Am
open Go.Proofs
set_option maxRecDepth 100000
variable (Aa Ab Ac Ad Ae Af Ag Ah Ai Aj Ak Al An Ao Ap Aq Ar As Au Av Aw Ax Ay Az Ba Bb Bc Bd Be Bf Bg Bh Bi Bj Bk Bl Bm Bn Bo Bp Bq Br : Value)
noncomputable def c96_0 : Code := zCe Tryz.f96 []
noncomputable def c96_1 : Code := zCe Tryz.f96 [true, false, true, false, false]
noncomputable def c96_2 : Code := zCe Tryz.f96 [true, true]
theorem c96_0_eq {β : Type} (h : Heap) (k : Ex → St → Option β) : zDd Tryz.prog (evC Tryz.prog) zDc c96_0 ⟨#[Aa,Ab,Ac,Ad,Ae,Af,Ag,Ah,Ai,Aj,Ak,Al,An,Ao,Ap,Aq,Ar,As,Au,Av,Aw,Ax,Ay,Az,Ba,Bb,Bc,Bd,Be,Bf,Bg,Bh,Bi,Bj,Bk,Bl,Bm,Bn,Bo,Bp,Bq,Br], h⟩ k =
(lenV Tryz.prog 35 Aa h).bind fun t7_0 =>
loopK Tryz.prog (evC Tryz.prog) c96_1 ⟨#[Aa,Ab, (Go.Value.int Go.IntKind.u64 0), (Go.Value.int Go.IntKind.i64 0),Ae,Af,Aa, t7_0, (Go.Value.int Go.IntKind.i64 0),Aj,Ak,Al,An,Ao,Ap,Aq,Ar,As,Au,Av,Aw,Ax,Ay,Az,Ba,Bb,Bc,Bd,Be,Bf,Bg,Bh,Bi,Bj,Bk,Bl,Bm,Bn,Bo,Bp,Bq,Br], h⟩ (zCr 0 (seqK Tryz.prog (evC Tryz.prog) c96_2 k)) := by kernel_rfl
theorem c96_1_eq {β : Type} (h : Heap) (k : Ex → St → Option β) : zDd Tryz.prog (evC Tryz.prog) zDc c96_1 ⟨#[Aa,Ab,Ac,Ad,Ae,Af,Ag,Ah,Ai,Aj,Ak,Al,An,Ao,Ap,Aq,Ar,As,Au,Av,Aw,Ax,Ay,Az,Ba,Bb,Bc,Bd,Be,Bf,Bg,Bh,Bi,Bj,Bk,Bl,Bm,Bn,Bo,Bp,Bq,Br], h⟩ k =
(binV Tryz.prog .lss 3 (.tmp 8) (.tmp 7) Ai Ah).bind fun t9_1 =>
cnd t9_1 (
(zCt Tryz.prog 35 Ag Ai).bind fun t11_2 =>
(loadV Tryz.prog 5 t11_2 h).bind fun t12_3 =>
(binV Tryz.prog .eql 3 (.tmp 13) (.const (Go.Value.int Go.IntKind.i64 10)) Ai (Go.Value.int Go.IntKind.i64 10)).bind fun t14_4 =>
cnd t14_4 (
k (.exit 0) ⟨#[Aa,Ab,Ac,Ad,Ai, t12_3,Ag,Ah,Ai, t9_1,Ai, t11_2, t12_3,Ai, t14_4,Aq,Ar,As,Au,Av,Aw,Ax,Ay,Az,Ba,Bb,Bc,Bd,Be,Bf,Bg,Bh,Bi,Bj,Bk,Bl,Bm,Bn,Bo,Bp,Bq,Br], h⟩) (
(binV Tryz.prog .and 5 (.tmp 16) (.const (Go.Value.int Go.IntKind.u8 127)) t12_3 (Go.Value.int Go.IntKind.u8 127)).bind fun t17_5 =>
obH (convV Tryz.prog 5 30 t17_5 h) fun t18_6 h7 =>
(binV Tryz.prog .mul 3 (.const (Go.Value.int Go.IntKind.i64 7)) (.tmp 19) (Go.Value.int Go.IntKind.i64 7) Ai).bind fun t20_8 =>
(binV Tryz.prog .shl 30 (.tmp 18) (.tmp 20) t18_6 t20_8).bind fun t21_9 =>
(binV Tryz.prog .or 30 (.tmp 15) (.tmp 21) Ac t21_9).bind fun t22_10 =>
(binV Tryz.prog .lss 5 (.tmp 23) (.const (Go.Value.int Go.IntKind.u8 128)) t12_3 (Go.Value.int Go.IntKind.u8 128)).bind fun t24_11 =>
cnd t24_11 (
obH (evC Tryz.prog 113 #[t22_10] h7) fun t26_12 h13 =>
(binV Tryz.prog .add 3 (.tmp 27) (.const (Go.Value.int Go.IntKind.i64 1)) Ai (Go.Value.int Go.IntKind.i64 1)).bind fun t28_14 =>
(binV Tryz.prog .neq 3 (.tmp 26) (.tmp 28) t26_12 t28_14).bind fun t29_15 =>
(gd (wt t29_15 false) (binV Tryz.prog .eql 3 (.tmp 31) (.const (Go.Value.int Go.IntKind.i64 9)) (gdV (wt t29_15 false) Ai) (Go.Value.int Go.IntKind.i64 9))).bind fun t32_16 =>
(gd (wt (gdV (wt t29_15 false) t32_16) true) (binV Tryz.prog .gtr 5 (.tmp 34) (.const (Go.Value.int Go.IntKind.u8 1)) (gdV (wt (gdV (wt t29_15 false) t32_16) true) t12_3) (Go.Value.int Go.IntKind.u8 1))).bind fun t35_17 =>
(gd (wt t29_15 false) (zDb (gdV (wt t29_15 false) t32_16) t35_17 (Go.Value.bool Bool.false))).bind fun t36_18 =>
(zDb t29_15 (Go.Value.bool Bool.true) t36_18).bind fun t37_19 =>
cnd t37_19 (
k (.exit 0) ⟨#[Aa,Ab, t22_10,Ad,Ai, t12_3,Ag,Ah,Ai, t9_1,Ai, t11_2, t12_3,Ai, t14_4,Ac, t12_3, t17_5, t18_6,Ai, t20_8, t21_9, t22_10, t12_3, t24_11, t22_10, t26_12,Ai, t28_14, t29_15, t29_15, (gdV (wt t29_15 false) Ai), t32_16, (gdV (wt t29_15 false) t32_16), (gdV (wt (gdV (wt t29_15 false) t32_16) true) t12_3), t35_17, t36_18, t37_19,Bo,Bp,Bq,Br], h13⟩) (
(binV Tryz.prog .add 3 (.tmp 39) (.const (Go.Value.int Go.IntKind.i64 1)) Ai (Go.Value.int Go.IntKind.i64 1)).bind fun t40_20 =>
k .ret ⟨#[Aa,Ab, t22_10, t40_20,Ai, t12_3,Ag,Ah,Ai, t9_1,Ai, t11_2, t12_3,Ai, t14_4,Ac, t12_3, t17_5, t18_6,Ai, t20_8, t21_9, t22_10, t12_3, t24_11, t22_10, t26_12,Ai, t28_14, t29_15, t29_15, (gdV (wt t29_15 false) Ai), t32_16, (gdV (wt t29_15 false) t32_16), (gdV (wt (gdV (wt t29_15 false) t32_16) true) t12_3), t35_17, t36_18, t37_19, t22_10,Ai, t40_20,Br], h13⟩)) (
(binV Tryz.prog .add 3 (.tmp 8) (.const (Go.Value.int Go.IntKind.i64 1)) Ai (Go.Value.int Go.IntKind.i64 1)).bind fun t41_21 =>
k .normal ⟨#[Aa,Ab, t22_10,Ad,Ai, t12_3,Ag,Ah, t41_21, t9_1,Ai, t11_2, t12_3,Ai, t14_4,Ac, t12_3, t17_5, t18_6,Ai, t20_8, t21_9, t22_10, t12_3, t24_11,Bb,Bc,Bd,Be,Bf,Bg,Bh,Bi,Bj,Bk,Bl,Bm,Bn,Bo,Bp,Bq, t41_21], h7⟩))) (
k (.exit 0) ⟨#[Aa,Ab,Ac,Ad,Ae,Af,Ag,Ah,Ai, t9_1,Ak,Al,An,Ao,Ap,Aq,Ar,As,Au,Av,Aw,Ax,Ay,Az,Ba,Bb,Bc,Bd,Be,Bf,Bg,Bh,Bi,Bj,Bk,Bl,Bm,Bn,Bo,Bp,Bq,Br], h⟩) := by kernel_rfl
theorem c96_2_eq {β : Type} (h : Heap) (k : Ex → St → Option β) : zDd Tryz.prog (evC Tryz.prog) zDc c96_2 ⟨#[Aa,Ab,Ac,Ad,Ae,Af,Ag,Ah,Ai,Aj,Ak,Al,An,Ao,Ap,Aq,Ar,As,Au,Av,Aw,Ax,Ay,Az,Ba,Bb,Bc,Bd,Be,Bf,Bg,Bh,Bi,Bj,Bk,Bl,Bm,Bn,Bo,Bp,Bq,Br], h⟩ k =
k .ret ⟨#[Aa,Ab, (Go.Value.int Go.IntKind.u64 0), (Go.Value.int Go.IntKind.i64 0),Ae,Af,Ag,Ah,Ai,Aj,Ak,Al,An,Ao,Ap,Aq,Ar,As,Au,Av,Aw,Ax,Ay,Az,Ba,Bb,Bc,Bd,Be,Bf,Bg,Bh,Bi,Bj,Bk,Bl,Bm,Bn,Bo,Bp,Bq,Br], h⟩ := by kernel_rfl
theorem call96 (h : Heap) : evC Tryz.prog 96 #[Aa] h = zDd Tryz.prog (evC Tryz.prog) zDc c96_0 ⟨#[Aa, undef, undef, undef, undef, undef, undef, undef, undef, undef, undef, undef, undef, undef, undef, undef, undef, undef, undef, undef, undef, undef, undef, undef, undef, undef, undef, undef, undef, undef, undef, undef, undef, undef, undef, undef, undef, undef, undef, undef, undef, undef], nm h⟩ (zCw Tryz.f96 Tryz.prog h) :=
  (zCa 96 Tryz.f96 c96_0 Tryz.func96 (by kernel_rfl) #[Aa] h).trans (by kernel_rfl)
theorem ret96 (h0 h : Heap) : zCw Tryz.f96 Tryz.prog h0 .ret ⟨#[Aa,Ab,Ac,Ad,Ae,Af,Ag,Ah,Ai,Aj,Ak,Al,An,Ao,Ap,Aq,Ar,As,Au,Av,Aw,Ax,Ay,Az,Ba,Bb,Bc,Bd,Be,Bf,Bg,Bh,Bi,Bj,Bk,Bl,Bm,Bn,Bo,Bp,Bq,Br], h⟩ = fin h0 (some (.tuple #[Ac,Ad])) h := by kernel_rfl
end Go.Am
namespace Go.Am
open Go.Proofs
set_option maxRecDepth 100000
variable (Aa Ab Ac Ad Ae Af Ag Ah : Value)
noncomputable def c95_0 : Code := zCe Tryz.f95 []
theorem c95_0_eq {β : Type} (h : Heap) (k : Ex → St → Option β) : zDd Tryz.prog (evC Tryz.prog) zDc c95_0 ⟨#[Aa,Ab,Ac,Ad,Ae,Af,Ag,Ah], h⟩ k =
(binV Tryz.prog .eql 35 (.tmp 3) (.const (Go.Value.slice Option.none 0 0)) Aa (Go.Value.slice Option.none 0 0)).bind fun t4_0 =>
cnd t4_0 (
k .ret ⟨#[Aa,Ab, (Go.Value.slice Option.none 0 0),Aa, t4_0,Af,Ag,Ah], h⟩) (
obH (zBw Tryz.prog 35 0 #[] h) fun t5_1 h2 =>
obH (appendV Tryz.prog 35 (some 35) t5_1 Aa h2) fun t7_3 h4 =>
k .ret ⟨#[Aa,Ab, t7_3,Aa, t4_0, t5_1,Aa, t7_3], h4⟩) := by kernel_rfl
theorem call95 (h : Heap) : evC Tryz.prog 95 #[Aa] h = zDd Tryz.prog (evC Tryz.prog) zDc c95_0 ⟨#[Aa, undef, undef, undef, undef, undef, undef, undef], nm h⟩ (zCw Tryz.f95 Tryz.prog h) :=
  (zCa 95 Tryz.f95 c95_0 Tryz.func95 (by kernel_rfl) #[Aa] h).trans (by kernel_rfl)
theorem ret95 (h0 h : Heap) : zCw Tryz.f95 Tryz.prog h0 .ret ⟨#[Aa,Ab,Ac,Ad,Ae,Af,Ag,Ah], h⟩ = fin h0 (some Ac) h := by kernel_rfl
end Go.Am
namespace Go.Am
open Go.Proofs
set_option maxRecDepth 100000
variable (Aa Ab Ac Ad Ae Af Ag Ah Ai : Value)
noncomputable def c31_0 : Code := zCe Tryz.f31 []
theorem c31_0_eq {β : Type} (h : Heap) (k : Ex → St → Option β) : zDd Tryz.prog (evC Tryz.prog) zDc c31_0 ⟨#[Aa,Ab,Ac,Ad,Ae,Af,Ag,Ah,Ai], h⟩ k =
obH (builtinV Tryz.prog .max #[3, 3] #[Aa, (Go.Value.int Go.IntKind.i64 0)] h) fun t4_0 h1 =>
obH (builtinV Tryz.prog .min #[3, 3] #[t4_0, (Go.Value.int Go.IntKind.i64 64)] h1) fun t5_2 h3 =>
(binV Tryz.prog .shl 39 (.const (Go.Value.int Go.IntKind.u64 1)) (.tmp 6) (Go.Value.int Go.IntKind.u64 1) t5_2).bind fun t7_4 =>
(binV Tryz.prog .sub 39 (.tmp 7) (.const (Go.Value.int Go.IntKind.u64 1)) t7_4 (Go.Value.int Go.IntKind.u64 1)).bind fun t8_5 =>
k .ret ⟨#[t5_2,Ab, t8_5,Aa, t4_0, t5_2, t5_2, t7_4, t8_5], h3⟩ := by kernel_rfl
theorem call31 (h : Heap) : evC Tryz.prog 31 #[Aa] h = zDd Tryz.prog (evC Tryz.prog) zDc c31_0 ⟨#[Aa, undef, undef, undef, undef, undef, undef, undef, undef], nm h⟩ (zCw Tryz.f31 Tryz.prog h) :=
  (zCa 31 Tryz.f31 c31_0 Tryz.func31 (by kernel_rfl) #[Aa] h).trans (by kernel_rfl)
theorem ret31 (h0 h : Heap) : zCw Tryz.f31 Tryz.prog h0 .ret ⟨#[Aa,Ab,Ac,Ad,Ae,Af,Ag,Ah,Ai], h⟩ = fin h0 (some Ac) h := by kernel_rfl
end Go.Am
namespace Go.Am
open Go.Proofs
set_option maxRecDepth 100000
variable (Aa Ab Ac Ad Ae Af Ag Ah Ai Aj Ak Al An Ao Ap Aq Ar As : Value)
noncomputable def c48_0 : Code := zCe Tryz.f48 []
theorem c48_0_eq {β : Type} (h : Heap) (k : Ex → St → Option β) : zDd Tryz.prog (evC Tryz.prog) zDc c48_0 ⟨#[Aa,Ab,Ac,Ad,Ae,Af,Ag,Ah,Ai,Aj,Ak,Al,An,Ao,Ap,Aq,Ar,As], h⟩ k =
(binV Tryz.prog .geq 3 (.tmp 5) (.const (Go.Value.int Go.IntKind.i64 0)) Ab (Go.Value.int Go.IntKind.i64 0)).bind fun t6_0 =>
(gd (wt t6_0 true) (binV Tryz.prog .lss 3 (.tmp 8) (.const (Go.Value.int Go.IntKind.i64 64)) (gdV (wt t6_0 true) Ab) (Go.Value.int Go.IntKind.i64 64))).bind fun t9_1 =>
(zDb t6_0 t9_1 (Go.Value.bool Bool.false)).bind fun t10_2 =>
(gd (wt t10_2 true) (binV Tryz.prog .shr 39 (.tmp 12) (.tmp 13) (gdV (wt t10_2 true) Aa) (gdV (wt t10_2 true) Ab))).bind fun t14_3 =>
(gd (wt t10_2 true) (binV Tryz.prog .and 39 (.tmp 14) (.const (Go.Value.int Go.IntKind.u64 1)) t14_3 (Go.Value.int Go.IntKind.u64 1))).bind fun t15_4 =>
(gd (wt t10_2 true) (binV Tryz.prog .eql 39 (.tmp 15) (.const (Go.Value.int Go.IntKind.u64 1)) t15_4 (Go.Value.int Go.IntKind.u64 1))).bind fun t16_5 =>
(zDb t10_2 t16_5 (Go.Value.bool Bool.false)).bind fun t17_6 =>
k .ret ⟨#[Aa,Ab,Ac,Ad, t17_6,Ab, t6_0, t6_0, (gdV (wt t6_0 true) Ab), t9_1, t10_2, t10_2, (gdV (wt t10_2 true) Aa), (gdV (wt t10_2 true) Ab), t14_3, t15_4, t16_5, t17_6], h⟩ := by kernel_rfl
theorem call48 (h : Heap) : evC Tryz.prog 48 #[Aa,Ab] h = zDd Tryz.prog (evC Tryz.prog) zDc c48_0 ⟨#[Aa,Ab, undef, undef, undef, undef, undef, undef, undef, undef, undef, undef, undef, undef, undef, undef, undef, undef], nm h⟩ (zCw Tryz.f48 Tryz.prog h) :=
  (zCa 48 Tryz.f48 c48_0 Tryz.func48 (by kernel_rfl) #[Aa,Ab] h).trans (by kernel_rfl)
theorem ret48 (h0 h : Heap) : zCw Tryz.f48 Tryz.prog h0 .ret ⟨#[Aa,Ab,Ac,Ad,Ae,Af,Ag,Ah,Ai,Aj,Ak,Al,An,Ao,Ap,Aq,Ar,As], h⟩ = fin h0 (some Ae) h := by kernel_rfl
end Go.Am
namespace Go.Am
open Go.Proofs
set_option maxRecDepth 100000
variable (Aa Ab Ac Ad Ae Af Ag Ah Ai Aj Ak Al An Ao Ap Aq Ar As Au : Value)
noncomputable def c50_0 : Code := zCe Tryz.f50 []
theorem c50_0_eq {β : Type} (h : Heap) (k : Ex → St → Option β) : zDd Tryz.prog (evC Tryz.prog) zDc c50_0 ⟨#[Aa,Ab,Ac,Ad,Ae,Af,Ag,Ah,Ai,Aj,Ak,Al,An,Ao,Ap,Aq,Ar,As,Au], h⟩ k =
(binV Tryz.prog .geq 3 (.tmp 5) (.const (Go.Value.int Go.IntKind.i64 0)) Ab (Go.Value.int Go.IntKind.i64 0)).bind fun t6_0 =>
(gd (wt t6_0 true) (binV Tryz.prog .leq 3 (.tmp 8) (.const (Go.Value.int Go.IntKind.i64 63)) (gdV (wt t6_0 true) Ab) (Go.Value.int Go.IntKind.i64 63))).bind fun t9_1 =>
(zDb t6_0 t9_1 (Go.Value.bool Bool.false)).bind fun t10_2 =>
obH (gdH (wt t10_2 true) h (convV Tryz.prog 3 66 (gdV (wt t10_2 true) Ab) h)) fun t14_3 h4 =>
(gd (wt t10_2 true) (binV Tryz.prog .shr 30 (.tmp 12) (.tmp 14) (gdV (wt t10_2 true) Aa) t14_3)).bind fun t15_5 =>
(gd (wt t10_2 true) (binV Tryz.prog .and 30 (.tmp 15) (.const (Go.Value.int Go.IntKind.u64 1)) t15_5 (Go.Value.int Go.IntKind.u64 1))).bind fun t16_6 =>
(gd (wt t10_2 true) (binV Tryz.prog .eql 30 (.tmp 16) (.const (Go.Value.int Go.IntKind.u64 1)) t16_6 (Go.Value.int Go.IntKind.u64 1))).bind fun t17_7 =>
(zDb t10_2 t17_7 (Go.Value.bool Bool.false)).bind fun t18_8 =>
k .ret ⟨#[Aa,Ab,Ac,Ad, t18_8,Ab, t6_0, t6_0, (gdV (wt t6_0 true) Ab), t9_1, t10_2, t10_2, (gdV (wt t10_2 true) Aa), (gdV (wt t10_2 true) Ab), t14_3, t15_5, t16_6, t17_7, t18_8], h4⟩ := by kernel_rfl
theorem call50 (h : Heap) : evC Tryz.prog 50 #[Aa,Ab] h = zDd Tryz.prog (evC Tryz.prog) zDc c50_0 ⟨#[Aa,Ab, undef, undef, undef, undef, undef, undef, undef, undef, undef, undef, undef, undef, undef, undef, undef, undef, undef], nm h⟩ (zCw Tryz.f50 Tryz.prog h) :=
  (zCa 50 Tryz.f50 c50_0 Tryz.func50 (by kernel_rfl) #[Aa,Ab] h).trans (by kernel_rfl)
theorem ret50 (h0 h : Heap) : zCw Tryz.f50 Tryz.prog h0 .ret ⟨#[Aa,Ab,Ac,Ad,Ae,Af,Ag,Ah,Ai,Aj,Ak,Al,An,Ao,Ap,Aq,Ar,As,Au], h⟩ = fin h0 (some Ae) h := by kernel_rfl
end Go.Am
namespace Go.Am
open Go.Proofs
set_option maxRecDepth 100000
variable {β : Type} (x : Nat → Value) (h : Heap) (k : Ex → St → Option β) (r m : List Nat) (g : Heap)
noncomputable def c114_0 : Code := zCe Tryz.f114 []
theorem c114_0_eq : cK c114_0 6 x h k =
(bn .neq 3 (x 0) (x 0)).bind fun v0 =>
k .ret ⟨ar 6 (up x [(2,v0),(3,(x 0)),(4,(x 0)),(5,v0)]), h⟩ := by kernel_rfl
theorem call114 (a0 : Value) : evC Tryz.prog 114 #[a0] h = cK c114_0 6 (up un [(0,a0)]) (nm h) (zCw Tryz.f114 Tryz.prog h) :=
  (zCa 114 Tryz.f114 c114_0 Tryz.func114 (by kernel_rfl) #[a0] h).trans (by kernel_rfl)
theorem ret114 : zCw Tryz.f114 Tryz.prog g .ret ⟨ar 6 x, h⟩ = fin g (some (x 2)) h := by kernel_rfl
end Go.Am
namespace Go.Am
open Go.Proofs
set_option maxRecDepth 100000
variable {β : Type} (x : Nat → Value) (h : Heap) (k : Ex → St → Option β) (r m : List Nat) (g : Heap)
noncomputable def c115_0 : Code := zCe Tryz.f115 []
theorem c115_0_eq : cK c115_0 6 x h k =
(bn .neq 30 (x 0) (x 0)).bind fun v0 =>
k .ret ⟨ar 6 (up x [(2,v0),(3,(x 0)),(4,(x 0)),(5,v0)]), h⟩ := by kernel_rfl
theorem call115 (a0 : Value) : evC Tryz.prog 115 #[a0] h = cK c115_0 6 (up un [(0,a0)]) (nm h) (zCw Tryz.f115 Tryz.prog h) :=
  (zCa 115 Tryz.f115 c115_0 Tryz.func115 (by kernel_rfl) #[a0] h).trans (by kernel_rfl)
theorem ret115 : zCw Tryz.f115 Tryz.prog g .ret ⟨ar 6 x, h⟩ = fin g (some (x 2)) h := by kernel_rfl
end Go.Am
namespace Go.Am
open Go.Proofs
set_option maxRecDepth 100000
variable {β : Type} (x : Nat → Value) (h : Heap) (k : Ex → St → Option β) (r m : List Nat) (g : Heap)
noncomputable def c101_0 : Code := zCe Tryz.f101 []
theorem c101_0_eq : cK c101_0 20 x h k =
obH (ev 114 #[x 0] h) fun v0 h1 =>
obH (ev 114 #[x 1] h1) fun v2 h3 =>
cnd v0 (
cnd v2 (
k .ret ⟨ar 20 (up x [(4,(.int .i64 0)),(5,v0),(6,v2),(7,(x 0)),(8,v0),(9,(x 1)),(10,v2),(11,v0),(12,v2)]), h3⟩) (
k .ret ⟨ar 20 (up x [(4,(.int .i64 (-1))),(5,v0),(6,v2),(7,(x 0)),(8,v0),(9,(x 1)),(10,v2),(11,v0),(12,v2)]), h3⟩)) (
cnd v2 (
k .ret ⟨ar 20 (up x [(4,(.int .i64 1)),(5,v0),(6,v2),(7,(x 0)),(8,v0),(9,(x 1)),(10,v2),(11,v0),(13,v2)]), h3⟩) (
(bn .lss 3 (x 0) (x 1)).bind fun v4 =>
cnd v4 (
k .ret ⟨ar 20 (up x [(4,(.int .i64 (-1))),(5,v0),(6,v2),(7,(x 0)),(8,v0),(9,(x 1)),(10,v2),(11,v0),(13,v2),(14,(x 0)),(15,(x 1)),(16,v4)]), h3⟩) (
(bn .gtr 3 (x 0) (x 1)).bind fun v5 =>
cnd v5 (
k .ret ⟨ar 20 (up x [(4,(.int .i64 1)),(5,v0),(6,v2),(7,(x 0)),(8,v0),(9,(x 1)),(10,v2),(11,v0),(13,v2),(14,(x 0)),(15,(x 1)),(16,v4),(17,(x 0)),(18,(x 1)),(19,v5)]), h3⟩) (
k .ret ⟨ar 20 (up x [(4,(.int .i64 0)),(5,v0),(6,v2),(7,(x 0)),(8,v0),(9,(x 1)),(10,v2),(11,v0),(13,v2),(14,(x 0)),(15,(x 1)),(16,v4),(17,(x 0)),(18,(x 1)),(19,v5)]), h3⟩)))) := by kernel_rfl
theorem call101 (a0 a1 : Value) : evC Tryz.prog 101 #[a0,a1] h = cK c101_0 20 (up un [(0,a0),(1,a1)]) (nm h) (zCw Tryz.f101 Tryz.prog h) :=
  (zCa 101 Tryz.f101 c101_0 Tryz.func101 (by kernel_rfl) #[a0,a1] h).trans (by kernel_rfl)
theorem ret101 : zCw Tryz.f101 Tryz.prog g .ret ⟨ar 20 x, h⟩ = fin g (some (x 4)) h := by kernel_rfl
end Go.Am
namespace Go.Am
open Go.Proofs
set_option maxRecDepth 100000
variable {β : Type} (x : Nat → Value) (h : Heap) (k : Ex → St → Option β) (r m : List Nat) (g : Heap)
noncomputable def c102_0 : Code := zCe Tryz.f102 []
theorem c102_0_eq : cK c102_0 20 x h k =
obH (ev 115 #[x 0] h) fun v0 h1 =>
obH (ev 115 #[x 1] h1) fun v2 h3 =>
cnd v0 (
cnd v2 (
k .ret ⟨ar 20 (up x [(4,(.int .i64 0)),(5,v0),(6,v2),(7,(x 0)),(8,v0),(9,(x 1)),(10,v2),(11,v0),(12,v2)]), h3⟩) (
k .ret ⟨ar 20 (up x [(4,(.int .i64 (-1))),(5,v0),(6,v2),(7,(x 0)),(8,v0),(9,(x 1)),(10,v2),(11,v0),(12,v2)]), h3⟩)) (
cnd v2 (
k .ret ⟨ar 20 (up x [(4,(.int .i64 1)),(5,v0),(6,v2),(7,(x 0)),(8,v0),(9,(x 1)),(10,v2),(11,v0),(13,v2)]), h3⟩) (
(bn .lss 30 (x 0) (x 1)).bind fun v4 =>
cnd v4 (
k .ret ⟨ar 20 (up x [(4,(.int .i64 (-1))),(5,v0),(6,v2),(7,(x 0)),(8,v0),(9,(x 1)),(10,v2),(11,v0),(13,v2),(14,(x 0)),(15,(x 1)),(16,v4)]), h3⟩) (
(bn .gtr 30 (x 0) (x 1)).bind fun v5 =>
cnd v5 (
k .ret ⟨ar 20 (up x [(4,(.int .i64 1)),(5,v0),(6,v2),(7,(x 0)),(8,v0),(9,(x 1)),(10,v2),(11,v0),(13,v2),(14,(x 0)),(15,(x 1)),(16,v4),(17,(x 0)),(18,(x 1)),(19,v5)]), h3⟩) (
k .ret ⟨ar 20 (up x [(4,(.int .i64 0)),(5,v0),(6,v2),(7,(x 0)),(8,v0),(9,(x 1)),(10,v2),(11,v0),(13,v2),(14,(x 0)),(15,(x 1)),(16,v4),(17,(x 0)),(18,(x 1)),(19,v5)]), h3⟩)))) := by kernel_rfl
theorem call102 (a0 a1 : Value) : evC Tryz.prog 102 #[a0,a1] h = cK c102_0 20 (up un [(0,a0),(1,a1)]) (nm h) (zCw Tryz.f102 Tryz.prog h) :=
  (zCa 102 Tryz.f102 c102_0 Tryz.func102 (by kernel_rfl) #[a0,a1] h).trans (by kernel_rfl)
theorem ret102 : zCw Tryz.f102 Tryz.prog g .ret ⟨ar 20 x, h⟩ = fin g (some (x 4)) h := by kernel_rfl
end Go.Am
namespace Go.Am
open Go.Proofs
set_option maxRecDepth 100000
variable {β : Type} (x : Nat → Value) (h : Heap) (k : Ex → St → Option β) (r m : List Nat) (g : Heap)
noncomputable def c100_0 : Code := zCe Tryz.f100 []
noncomputable def c100_1 : Code := zCe Tryz.f100 [true, true, false, true, false, false]
noncomputable def c100_2 : Code := zCe Tryz.f100 [true, true, true]
theorem c100_0_eq : cK c100_0 18 x h k =
(ln 68 (x 0) h).bind fun v0 =>
lK c100_1 18 (up x [(2,(.int .i64 0)),(3,(.int .i64 0)),(6,(x 0)),(7,v0),(8,(.int .i64 0))]) h (zCr 0 (sK c100_2 k)) := by kernel_rfl
theorem c100_1_eq : cK c100_1 18 x h k =
(bn .lss 3 (x 8) (x 7)).bind fun v1 =>
cnd v1 (
(ia 68 (x 6) (x 8)).bind fun v2 =>
(ld 3 v2 h).bind fun v3 =>
(bn .neq 3 v3 (x 3)).bind fun v4 =>
cnd v4 (
k .ret ⟨ar 18 (up x [(2,v3),(5,v3),(9,v1),(10,v2),(11,v3),(12,v3),(13,(x 3)),(14,v4),(15,v3)]), h⟩) (
(bn .add 3 (x 8) (.int .i64 1)).bind fun v5 =>
k .normal ⟨ar 18 (up x [(5,v3),(8,v5),(9,v1),(10,v2),(11,v3),(12,v3),(13,(x 3)),(14,v4),(16,v5)]), h⟩)) (
k (.exit 0) ⟨ar 18 (up x [(9,v1)]), h⟩) := by kernel_rfl
theorem c100_2_eq : cK c100_2 18 x h k =
k .ret ⟨ar 18 (up x [(2,(x 3)),(17,(x 3))]), h⟩ := by kernel_rfl
theorem call100 (a0 : Value) : evC Tryz.prog 100 #[a0] h = cK c100_0 18 (up un [(0,a0)]) (nm h) (zCw Tryz.f100 Tryz.prog h) :=
  (zCa 100 Tryz.f100 c100_0 Tryz.func100 (by kernel_rfl) #[a0] h).trans (by kernel_rfl)
theorem ret100 : zCw Tryz.f100 Tryz.prog g .ret ⟨ar 18 x, h⟩ = fin g (some (x 2)) h := by kernel_rfl
end Go.Am
namespace Go.Am
open Go.Proofs
set_option maxRecDepth 100000
variable {β : Type} (x : Nat → Value) (h : Heap) (k : Ex → St → Option β) (r m : List Nat) (g : Heap)
noncomputable def c78_0 : Code := zCe Tryz.f78 []
theorem c78_0_eq : cK c78_0 17 x h k =
obH (boxV Tryz.prog 99 (x 0) h) fun v0 h1 =>
obH (boxV Tryz.prog 99 (x 1) h1) fun v2 h3 =>
(fa 99 v0 0).bind fun v4 =>
(ld 3 v4 h3).bind fun v5 =>
(fa 99 v2 0).bind fun v6 =>
(ld 3 v6 h3).bind fun v7 =>
obH (ev 101 #[v5,v7] (nm h3)) fun v8 h9 =>
(fa 99 v0 1).bind fun v10 =>
(ld 30 v10 (am h9 h3)).bind fun v11 =>
(fa 99 v2 1).bind fun v12 =>
(ld 30 v12 (am h9 h3)).bind fun v13 =>
obH (ev 102 #[v11,v13] (am h9 h3)) fun v14 h15 =>
obH (zBw Tryz.prog 68 2 #[(0, v8), (1, v14)] h15) fun v16 h17 =>
obH (ev 100 #[v16] h17) fun v18 h19 =>
chk ((rb v12) ++ ((rb v10) ++ [])) (h9.mods ++ []) (
k .ret ⟨ar 17 (up x [(2,v0),(3,v2),(4,v18),(5,v4),(6,v5),(7,v6),(8,v7),(9,v8),(10,v10),(11,v11),(12,v12),(13,v13),(14,v14),(15,v16),(16,v18)]), h19⟩) := by kernel_rfl
theorem call78 (a0 a1 : Value) : evC Tryz.prog 78 #[a0,a1] h = cK c78_0 17 (up un [(0,a0),(1,a1)]) (nm h) (zCw Tryz.f78 Tryz.prog h) :=
  (zCa 78 Tryz.f78 c78_0 Tryz.func78 (by kernel_rfl) #[a0,a1] h).trans (by kernel_rfl)
theorem ret78 : zCw Tryz.f78 Tryz.prog g .ret ⟨ar 17 x, h⟩ = fin g (some (x 4)) h := by kernel_rfl
end Go.Am
namespace Go.Am
open Go.Proofs
set_option maxRecDepth 100000
variable (Aa Ab Ac : Value)
noncomputable def c71_0 : Code := zCe Tryz.f71 []
theorem c71_0_eq {β : Type} (h : Heap) (k : Ex → St → Option β) : zDd Tryz.prog (evC Tryz.prog) zDc c71_0 ⟨#[Aa,Ab,Ac], h⟩ k =
(buildV Tryz.prog 176 #[]).bind fun t1_0 =>
obH (boxV Tryz.prog 176 t1_0 h) fun t2_1 h2 =>
k .ret ⟨#[t2_1, t1_0, t2_1], h2⟩ := by kernel_rfl
theorem call71 (h : Heap) : evC Tryz.prog 71 #[] h = zDd Tryz.prog (evC Tryz.prog) zDc c71_0 ⟨#[undef, undef, undef], nm h⟩ (zCw Tryz.f71 Tryz.prog h) :=
  (zCa 71 Tryz.f71 c71_0 Tryz.func71 (by kernel_rfl) #[] h).trans (by kernel_rfl)
theorem ret71 (h0 h : Heap) : zCw Tryz.f71 Tryz.prog h0 .ret ⟨#[Aa,Ab,Ac], h⟩ = fin h0 (some Aa) h := by kernel_rfl
end Go.Am
namespace Go.Am
open Go.Proofs
set_option maxRecDepth 100000
variable (Aa Ab Ac Ad Ae Af Ag Ah Ai Aj Ak Al An : Value)
noncomputable def c72_0 : Code := zCe Tryz.f72 []
theorem c72_0_eq {β : Type} (h : Heap) (k : Ex → St → Option β) : zDd Tryz.prog (evC Tryz.prog) zDc c72_0 ⟨#[Aa,Ab,Ac,Ad,Ae,Af,Ag,Ah,Ai,Aj,Ak,Al,An], h⟩ k =
(zBy Tryz.prog Aa).bind fun t6_0 =>
(zCb Tryz.prog 176 t6_0 0).bind fun t7_1 =>
(loadV Tryz.prog 35 t7_1 h).bind fun t8_2 =>
obH (evC Tryz.prog 99 #[t8_2,Ab] h) fun t10_3 h4 =>
(zBy Tryz.prog Aa).bind fun t11_5 =>
(zCb Tryz.prog 176 t11_5 0).bind fun t12_6 =>
(storeV Tryz.prog 35 t12_6 t10_3 h4).bind fun h7 =>
k .normal ⟨#[Aa,Ab,Ac,Ad,Aa,Aa, t6_0, t7_1, t8_2,Ab, t10_3, t11_5, t12_6], h7⟩ := by kernel_rfl
theorem call72 (h : Heap) : evC Tryz.prog 72 #[Aa,Ab] h = zDd Tryz.prog (evC Tryz.prog) zDc c72_0 ⟨#[Aa,Ab, undef, undef, undef, undef, undef, undef, undef, undef, undef, undef, undef], nm h⟩ (zCw Tryz.f72 Tryz.prog h) :=
  (zCa 72 Tryz.f72 c72_0 Tryz.func72 (by kernel_rfl) #[Aa,Ab] h).trans (by kernel_rfl)
theorem retn72 (h0 h : Heap) : zCw Tryz.f72 Tryz.prog h0 .normal ⟨#[Aa,Ab,Ac,Ad,Ae,Af,Ag,Ah,Ai,Aj,Ak,Al,An], h⟩ = fin h0 (some (.tuple #[])) h := by kernel_rfl
end Go.Am
namespace Go.Am
open Go.Proofs
set_option maxRecDepth 100000
variable (Aa Ab Ac Ad Ae Af Ag Ah : Value)
noncomputable def c74_0 : Code := zCe Tryz.f74 []
theorem c74_0_eq {β : Type} (h : Heap) (k : Ex → St → Option β) : zDd Tryz.prog (evC Tryz.prog) zDc c74_0 ⟨#[Aa,Ab,Ac,Ad,Ae,Af,Ag,Ah], h⟩ k =
(zBy Tryz.prog Aa).bind fun t4_0 =>
(zCb Tryz.prog 176 t4_0 0).bind fun t5_1 =>
(loadV Tryz.prog 35 t5_1 h).bind fun t6_2 =>
obH (evC Tryz.prog 95 #[t6_2] h) fun t7_3 h4 =>
k .ret ⟨#[Aa,Ab, t7_3,Aa, t4_0, t5_1, t6_2, t7_3], h4⟩ := by kernel_rfl
theorem call74 (h : Heap) : evC Tryz.prog 74 #[Aa] h = zDd Tryz.prog (evC Tryz.prog) zDc c74_0 ⟨#[Aa, undef, undef, undef, undef, undef, undef, undef], nm h⟩ (zCw Tryz.f74 Tryz.prog h) :=
  (zCa 74 Tryz.f74 c74_0 Tryz.func74 (by kernel_rfl) #[Aa] h).trans (by kernel_rfl)
theorem ret74 (h0 h : Heap) : zCw Tryz.f74 Tryz.prog h0 .ret ⟨#[Aa,Ab,Ac,Ad,Ae,Af,Ag,Ah], h⟩ = fin h0 (some Ac) h := by kernel_rfl
end Go.Am
namespace Go.Am
open Go.Proofs
set_option maxRecDepth 100000
variable (Aa Ab Ac Ad Ae Af Ag : Value)
noncomputable def c65_0 : Code := zCe Tryz.f65 []
theorem c65_0_eq {β : Type} (h : Heap) (k : Ex → St → Option β) : zDd Tryz.prog (evC Tryz.prog) zDc c65_0 ⟨#[Aa,Ab,Ac,Ad,Ae,Af,Ag], h⟩ k =
obH (evC Tryz.prog 95 #[Aa] h) fun t4_0 h1 =>
(buildV Tryz.prog 169 #[(0, t4_0)]).bind fun t5_2 =>
obH (boxV Tryz.prog 169 t5_2 h1) fun t6_3 h4 =>
k .ret ⟨#[Aa,Ab, t6_3,Aa, t4_0, t5_2, t6_3], h4⟩ := by kernel_rfl
theorem call65 (h : Heap) : evC Tryz.prog 65 #[Aa] h = zDd Tryz.prog (evC Tryz.prog) zDc c65_0 ⟨#[Aa, undef, undef, undef, undef, undef, undef], nm h⟩ (zCw Tryz.f65 Tryz.prog h) :=
  (zCa 65 Tryz.f65 c65_0 Tryz.func65 (by kernel_rfl) #[Aa] h).trans (by kernel_rfl)
theorem ret65 (h0 h : Heap) : zCw Tryz.f65 Tryz.prog h0 .ret ⟨#[Aa,Ab,Ac,Ad,Ae,Af,Ag], h⟩ = fin h0 (some Ac) h := by kernel_rfl
end Go.Am
namespace Go.Am
open Go.Proofs
set_option maxRecDepth 100000
variable (Aa Ab Ac Ad Ae Af Ag Ah Ai Aj Ak Al An Ao Ap Aq Ar As Au Av Aw Ax Ay Az Ba Bb Bc Bd Be Bf Bg Bh Bi Bj : Value)
noncomputable def c66_0 : Code := zCe Tryz.f66 []
theorem c66_0_eq {β : Type} (h : Heap) (k : Ex → St → Option β) : zDd Tryz.prog (evC Tryz.prog) zDc c66_0 ⟨#[Aa,Ab,Ac,Ad,Ae,Af,Ag,Ah,Ai,Aj,Ak,Al,An,Ao,Ap,Aq,Ar,As,Au,Av,Aw,Ax,Ay,Az,Ba,Bb,Bc,Bd,Be,Bf,Bg,Bh,Bi,Bj], h⟩ k =
(zBy Tryz.prog Aa).bind fun t9_0 =>
(zCb Tryz.prog 169 t9_0 0).bind fun t10_1 =>
(loadV Tryz.prog 35 t10_1 h).bind fun t11_2 =>
obH (evC Tryz.prog 96 #[t11_2] h) fun t12_3 h4 =>
(zDa t12_3 0).bind fun t13_5 =>
(zDa t12_3 1).bind fun t14_6 =>
(binV Tryz.prog .eql 3 (.tmp 16) (.const (Go.Value.int Go.IntKind.i64 0)) t14_6 (Go.Value.int Go.IntKind.i64 0)).bind fun t17_7 =>
(gd (wt t17_7 false) (binV Tryz.prog .gtr 30 (.tmp 19) (.tmp 20) (gdV (wt t17_7 false) t13_5) (gdV (wt t17_7 false) Ab))).bind fun t21_8 =>
(zDb t17_7 (Go.Value.bool Bool.true) t21_8).bind fun t22_9 =>
obH (evC Tryz.prog 97 #[Aa, t22_9] h4) fun t23_10 h11 =>
cnd t23_10 (
k .ret ⟨#[Aa,Ab,Ac,Ad, (Go.Value.int Go.IntKind.u64 0), t13_5, t14_6, t12_3,Aa, t9_0, t10_1, t11_2, t12_3, t13_5, t14_6,Aa, t14_6, t17_7, t17_7, (gdV (wt t17_7 false) t13_5), (gdV (wt t17_7 false) Ab), t21_8, t22_9, t23_10,Ba,Bb,Bc,Bd,Be,Bf,Bg,Bh,Bi,Bj], h11⟩) (
(zBy Tryz.prog Aa).bind fun t26_12 =>
(zCb Tryz.prog 169 t26_12 0).bind fun t27_13 =>
(loadV Tryz.prog 35 t27_13 h11).bind fun t28_14 =>
(sliceV Tryz.prog 35 t28_14 (some t14_6) none none h11).bind fun t30_15 =>
(zBy Tryz.prog Aa).bind fun t31_16 =>
(zCb Tryz.prog 169 t31_16 0).bind fun t32_17 =>
(storeV Tryz.prog 35 t32_17 t30_15 h11).bind fun h18 =>
k .ret ⟨#[Aa,Ab,Ac,Ad, t13_5, t13_5, t14_6, t12_3,Aa, t9_0, t10_1, t11_2, t12_3, t13_5, t14_6,Aa, t14_6, t17_7, t17_7, (gdV (wt t17_7 false) t13_5), (gdV (wt t17_7 false) Ab), t21_8, t22_9, t23_10,Aa,Aa, t26_12, t27_13, t28_14, t14_6, t30_15, t31_16, t32_17, t13_5], h18⟩) := by kernel_rfl
theorem call66 (h : Heap) : evC Tryz.prog 66 #[Aa,Ab] h = zDd Tryz.prog (evC Tryz.prog) zDc c66_0 ⟨#[Aa,Ab, undef, undef, undef, undef, undef, undef, undef, undef, undef, undef, undef, undef, undef, undef, undef, undef, undef, undef, undef, undef, undef, undef, undef, undef, undef, undef, undef, undef, undef, undef, undef, undef], nm h⟩ (zCw Tryz.f66 Tryz.prog h) :=
  (zCa 66 Tryz.f66 c66_0 Tryz.func66 (by kernel_rfl) #[Aa,Ab] h).trans (by kernel_rfl)
theorem ret66 (h0 h : Heap) : zCw Tryz.f66 Tryz.prog h0 .ret ⟨#[Aa,Ab,Ac,Ad,Ae,Af,Ag,Ah,Ai,Aj,Ak,Al,An,Ao,Ap,Aq,Ar,As,Au,Av,Aw,Ax,Ay,Az,Ba,Bb,Bc,Bd,Be,Bf,Bg,Bh,Bi,Bj], h⟩ = fin h0 (some Ae) h := by kernel_rfl
end Go.Am
namespace Go.Am
open Go.Proofs
set_option maxRecDepth 100000
variable (Aa Ab Ac Ad Ae Af Ag Ah Ai Aj Ak Al An Ao Ap Aq : Value)
noncomputable def c68_0 : Code := zCe Tryz.f68 []
theorem c68_0_eq {β : Type} (h : Heap) (k : Ex → St → Option β) : zDd Tryz.prog (evC Tryz.prog) zDc c68_0 ⟨#[Aa,Ab,Ac,Ad,Ae,Af,Ag,Ah,Ai,Aj,Ak,Al,An,Ao,Ap,Aq], h⟩ k =
(zBy Tryz.prog Aa).bind fun t4_0 =>
(zCb Tryz.prog 169 t4_0 1).bind fun t5_1 =>
(loadV Tryz.prog 4 t5_1 h).bind fun t6_2 =>
(unV Tryz.prog .not t6_2).bind fun t7_3 =>
(gd (wt t7_3 true) (zBy Tryz.prog (gdV (wt t7_3 true) Aa))).bind fun t10_4 =>
(gd (wt t7_3 true) (zCb Tryz.prog 169 t10_4 0)).bind fun t11_5 =>
(gd (wt t7_3 true) (loadV Tryz.prog 35 t11_5 h)).bind fun t12_6 =>
(gd (wt t7_3 true) (lenV Tryz.prog 35 t12_6 h)).bind fun t13_7 =>
(gd (wt t7_3 true) (binV Tryz.prog .eql 3 (.tmp 13) (.const (Go.Value.int Go.IntKind.i64 0)) t13_7 (Go.Value.int Go.IntKind.i64 0))).bind fun t14_8 =>
(zDb t7_3 t14_8 (Go.Value.bool Bool.false)).bind fun t15_9 =>
k .ret ⟨#[Aa,Ab, t15_9,Aa, t4_0, t5_1, t6_2, t7_3, t7_3, (gdV (wt t7_3 true) Aa), t10_4, t11_5, t12_6, t13_7, t14_8, t15_9], h⟩ := by kernel_rfl
theorem call68 (h : Heap) : evC Tryz.prog 68 #[Aa] h = zDd Tryz.prog (evC Tryz.prog) zDc c68_0 ⟨#[Aa, undef, undef, undef, undef, undef, undef, undef, undef, undef, undef, undef, undef, undef, undef, undef], nm h⟩ (zCw Tryz.f68 Tryz.prog h) :=
  (zCa 68 Tryz.f68 c68_0 Tryz.func68 (by kernel_rfl) #[Aa] h).trans (by kernel_rfl)
theorem ret68 (h0 h : Heap) : zCw Tryz.f68 Tryz.prog h0 .ret ⟨#[Aa,Ab,Ac,Ad,Ae,Af,Ag,Ah,Ai,Aj,Ak,Al,An,Ao,Ap,Aq], h⟩ = fin h0 (some Ac) h := by kernel_rfl
end Go.Am
namespace Go.Am
open Go.Proofs
set_option maxRecDepth 100000
variable (Aa Ab Ac Ad Ae Af Ag Ah Ai Aj Ak Al An Ao Ap Aq : Value)
noncomputable def c97_0 : Code := zCe Tryz.f97 []
noncomputable def c97_1 : Code := zCe Tryz.f97 [true, true]
theorem c97_0_eq {β : Type} (h : Heap) (k : Ex → St → Option β) : zDd Tryz.prog (evC Tryz.prog) zDc c97_0 ⟨#[Aa,Ab,Ac,Ad,Ae,Af,Ag,Ah,Ai,Aj,Ak,Al,An,Ao,Ap,Aq], h⟩ k =
cnd Ab (
(zBy Tryz.prog Aa).bind fun t8_0 =>
(zCb Tryz.prog 169 t8_0 0).bind fun t9_1 =>
(storeV Tryz.prog 35 t9_1 (Go.Value.slice Option.none 0 0) h).bind fun h2 =>
(zBy Tryz.prog Aa).bind fun t10_3 =>
(zCb Tryz.prog 169 t10_3 1).bind fun t11_4 =>
(storeV Tryz.prog 4 t11_4 (Go.Value.bool Bool.true) h2).bind fun h5 =>
zDd Tryz.prog (evC Tryz.prog) zDc c97_1 ⟨#[Aa,Ab,Ac,Ad, (Go.Value.bool Bool.false),Ab,Aa,Aa, t8_0, t9_1, t10_3, t11_4,An,Ao,Ap,Aq], h5⟩ k) (
zDd Tryz.prog (evC Tryz.prog) zDc c97_1 ⟨#[Aa,Ab,Ac,Ad, (Go.Value.bool Bool.false),Ab,Ag,Ah,Ai,Aj,Ak,Al,An,Ao,Ap,Aq], h⟩ k) := by kernel_rfl
theorem c97_1_eq {β : Type} (h : Heap) (k : Ex → St → Option β) : zDd Tryz.prog (evC Tryz.prog) zDc c97_1 ⟨#[Aa,Ab,Ac,Ad,Ae,Af,Ag,Ah,Ai,Aj,Ak,Al,An,Ao,Ap,Aq], h⟩ k =
(zBy Tryz.prog Aa).bind fun t13_6 =>
(zCb Tryz.prog 169 t13_6 1).bind fun t14_7 =>
(loadV Tryz.prog 4 t14_7 h).bind fun t15_8 =>
k .ret ⟨#[Aa,Ab,Ac,Ad, t15_8,Af,Ag,Ah,Ai,Aj,Ak,Al,Aa, t13_6, t14_7, t15_8], h⟩ := by kernel_rfl
theorem call97 (h : Heap) : evC Tryz.prog 97 #[Aa,Ab] h = zDd Tryz.prog (evC Tryz.prog) zDc c97_0 ⟨#[Aa,Ab, undef, undef, undef, undef, undef, undef, undef, undef, undef, undef, undef, undef, undef, undef], nm h⟩ (zCw Tryz.f97 Tryz.prog h) :=
  (zCa 97 Tryz.f97 c97_0 Tryz.func97 (by kernel_rfl) #[Aa,Ab] h).trans (by kernel_rfl)
theorem ret97 (h0 h : Heap) : zCw Tryz.f97 Tryz.prog h0 .ret ⟨#[Aa,Ab,Ac,Ad,Ae,Af,Ag,Ah,Ai,Aj,Ak,Al,An,Ao,Ap,Aq], h⟩ = fin h0 (some Ae) h := by kernel_rfl
end Go.Am
namespace Go.Am
open Go.Proofs
set_option maxRecDepth 100000
variable (Aa Ab Ac Ad Ae Af Ag Ah Ai Aj Ak Al An Ao Ap Aq Ar As Au Av Aw Ax Ay Az : Value)
noncomputable def c105_0 : Code := zCe Tryz.f105 []
noncomputable def c105_1 : Code := zCe Tryz.f105 [true, true, false, false, false]
noncomputable def c105_2 : Code := zCe Tryz.f105 [true, true, true]
theorem c105_0_eq {β : Type} (h : Heap) (k : Ex → St → Option β) : zDd Tryz.prog (evC Tryz.prog) zDc c105_0 ⟨#[Aa,Ab,Ac,Ad,Ae,Af,Ag,Ah,Ai,Aj,Ak,Al,An,Ao,Ap,Aq,Ar,As,Au,Av,Aw,Ax,Ay,Az], h⟩ k =
obH (zBw Tryz.prog 35 0 #[] h) fun t5_0 h1 =>
obH (appendV Tryz.prog 35 (some 35) t5_0 Aa h1) fun t7_2 h3 =>
loopK Tryz.prog (evC Tryz.prog) c105_1 ⟨#[t7_2,Ab,Ac,Ad, (Go.Value.slice Option.none 0 0), t5_0,Aa, t7_2,Ai,Aj,Ak,Al,An,Ao,Ap,Aq,Ar,As,Au,Av,Aw,Ax,Ay,Az], h3⟩ (zCr 0 (seqK Tryz.prog (evC Tryz.prog) c105_2 k)) := by kernel_rfl
theorem c105_1_eq {β : Type} (h : Heap) (k : Ex → St → Option β) : zDd Tryz.prog (evC Tryz.prog) zDc c105_1 ⟨#[Aa,Ab,Ac,Ad,Ae,Af,Ag,Ah,Ai,Aj,Ak,Al,An,Ao,Ap,Aq,Ar,As,Au,Av,Aw,Ax,Ay,Az], h⟩ k =
(binV Tryz.prog .geq 30 (.tmp 8) (.const (Go.Value.int Go.IntKind.u64 128)) Ab (Go.Value.int Go.IntKind.u64 128)).bind fun t9_4 =>
cnd t9_4 (
(binV Tryz.prog .rem 30 (.tmp 11) (.const (Go.Value.int Go.IntKind.u64 128)) Ab (Go.Value.int Go.IntKind.u64 128)).bind fun t12_5 =>
obH (convV Tryz.prog 30 5 t12_5 h) fun t13_6 h7 =>
(binV Tryz.prog .add 5 (.tmp 13) (.const (Go.Value.int Go.IntKind.u8 128)) t13_6 (Go.Value.int Go.IntKind.u8 128)).bind fun t14_8 =>
obH (zBw Tryz.prog 35 1 #[(0, t14_8)] h7) fun t15_9 h10 =>
obH (appendV Tryz.prog 35 (some 35) Aa t15_9 h10) fun t16_11 h12 =>
(binV Tryz.prog .quo 30 (.tmp 17) (.const (Go.Value.int Go.IntKind.u64 128)) Ab (Go.Value.int Go.IntKind.u64 128)).bind fun t18_13 =>
k .normal ⟨#[t16_11, t18_13,Ac,Ad,Ae,Af,Ag,Ah,Ab, t9_4,Aa,Ab, t12_5, t13_6, t14_8, t15_9, t16_11,Ab, t18_13,Av,Aw,Ax,Ay,Az], h12⟩) (
k (.exit 0) ⟨#[Aa,Ab,Ac,Ad,Ae,Af,Ag,Ah,Ab, t9_4,Ak,Al,An,Ao,Ap,Aq,Ar,As,Au,Av,Aw,Ax,Ay,Az], h⟩) := by kernel_rfl
theorem c105_2_eq {β : Type} (h : Heap) (k : Ex → St → Option β) : zDd Tryz.prog (evC Tryz.prog) zDc c105_2 ⟨#[Aa,Ab,Ac,Ad,Ae,Af,Ag,Ah,Ai,Aj,Ak,Al,An,Ao,Ap,Aq,Ar,As,Au,Av,Aw,Ax,Ay,Az], h⟩ k =
obH (convV Tryz.prog 30 5 Ab h) fun t21_14 h15 =>
obH (zBw Tryz.prog 35 1 #[(0, t21_14)] h15) fun t22_16 h17 =>
obH (appendV Tryz.prog 35 (some 35) Aa t22_16 h17) fun t23_18 h19 =>
k .ret ⟨#[Aa,Ab,Ac,Ad, t23_18,Af,Ag,Ah,Ai,Aj,Ak,Al,An,Ao,Ap,Aq,Ar,As,Au,Aa,Ab, t21_14, t22_16, t23_18], h19⟩ := by kernel_rfl
theorem call105 (h : Heap) : evC Tryz.prog 105 #[Aa,Ab] h = zDd Tryz.prog (evC Tryz.prog) zDc c105_0 ⟨#[Aa,Ab, undef, undef, undef, undef, undef, undef, undef, undef, undef, undef, undef, undef, undef, undef, undef, undef, undef, undef, undef, undef, undef, undef], nm h⟩ (zCw Tryz.f105 Tryz.prog h) :=
  (zCa 105 Tryz.f105 c105_0 Tryz.func105 (by kernel_rfl) #[Aa,Ab] h).trans (by kernel_rfl)
theorem ret105 (h0 h : Heap) : zCw Tryz.f105 Tryz.prog h0 .ret ⟨#[Aa,Ab,Ac,Ad,Ae,Af,Ag,Ah,Ai,Aj,Ak,Al,An,Ao,Ap,Aq,Ar,As,Au,Av,Aw,Ax,Ay,Az], h⟩ = fin h0 (some Ae) h := by kernel_rfl
end Go.Am
namespace Go.Am
open Go.Proofs
set_option maxRecDepth 100000
variable (Aa Ab Ac Ad Ae Af Ag Ah Ai Aj Ak Al An Ao Ap Aq Ar As Au Av Aw Ax Ay Az Ba Bb Bc Bd Be Bf Bg Bh Bi Bj Bk Bl Bm Bn Bo Bp Bq Br Bs Bt Bu Bv Bw : Value)
noncomputable def c109_0 : Code := zCe Tryz.f109 []
noncomputable def c109_1 : Code := zCe Tryz.f109 [true, true, false, true, false, false]
noncomputable def c109_2 : Code := zCe Tryz.f109 [true, true, true]
theorem c109_0_eq {β : Type} (h : Heap) (k : Ex → St → Option β) : zDd Tryz.prog (evC Tryz.prog) zDc c109_0 ⟨#[Aa,Ab,Ac,Ad,Ae,Af,Ag,Ah,Ai,Aj,Ak,Al,An,Ao,Ap,Aq,Ar,As,Au,Av,Aw,Ax,Ay,Az,Ba,Bb,Bc,Bd,Be,Bf,Bg,Bh,Bi,Bj,Bk,Bl,Bm,Bn,Bo,Bp,Bq,Br,Bs,Bt,Bu,Bv,Bw], h⟩ k =
loopK Tryz.prog (evC Tryz.prog) c109_1 ⟨#[Aa,Ab, (Go.Value.int Go.IntKind.u64 0), (Go.Value.int Go.IntKind.i64 0), (Go.Value.int Go.IntKind.u64 0), (Go.Value.int Go.IntKind.i64 0),Ag,Ah,Ai,Aj,Ak,Al,An,Ao,Ap,Aq,Ar,As,Au,Av,Aw,Ax,Ay,Az,Ba,Bb,Bc,Bd,Be,Bf,Bg,Bh,Bi,Bj,Bk,Bl,Bm,Bn,Bo,Bp,Bq,Br,Bs,Bt,Bu,Bv,Bw], h⟩ (zCr 0 (seqK Tryz.prog (evC Tryz.prog) c109_2 k)) := by kernel_rfl
theorem c109_1_eq {β : Type} (h : Heap) (k : Ex → St → Option β) : zDd Tryz.prog (evC Tryz.prog) zDc c109_1 ⟨#[Aa,Ab,Ac,Ad,Ae,Af,Ag,Ah,Ai,Aj,Ak,Al,An,Ao,Ap,Aq,Ar,As,Au,Av,Aw,Ax,Ay,Az,Ba,Bb,Bc,Bd,Be,Bf,Bg,Bh,Bi,Bj,Bk,Bl,Bm,Bn,Bo,Bp,Bq,Br,Bs,Bt,Bu,Bv,Bw], h⟩ k =
(lenV Tryz.prog 35 Aa h).bind fun t9_0 =>
(binV Tryz.prog .lss 3 (.tmp 7) (.tmp 9) Af t9_0).bind fun t10_1 =>
(gd (wt t10_1 true) (binV Tryz.prog .lss 3 (.tmp 12) (.const (Go.Value.int Go.IntKind.i64 10)) (gdV (wt t10_1 true) Af) (Go.Value.int Go.IntKind.i64 10))).bind fun t13_2 =>
(zDb t10_1 t13_2 (Go.Value.bool Bool.false)).bind fun t14_3 =>
cnd t14_3 (
(zCt Tryz.prog 35 Aa Af).bind fun t19_4 =>
(loadV Tryz.prog 5 t19_4 h).bind fun t20_5 =>
(binV Tryz.prog .eql 3 (.tmp 21) (.const (Go.Value.int Go.IntKind.i64 9)) Af (Go.Value.int Go.IntKind.i64 9)).bind fun t22_6 =>
(gd (wt t22_6 true) (binV Tryz.prog .gtr 5 (.tmp 24) (.const (Go.Value.int Go.IntKind.u8 1)) (gdV (wt t22_6 true) t20_5) (Go.Value.int Go.IntKind.u8 1))).bind fun t25_7 =>
(zDb t22_6 t25_7 (Go.Value.bool Bool.false)).bind fun t26_8 =>
cnd t26_8 (
k .ret ⟨#[Aa,Ab, (Go.Value.int Go.IntKind.u64 0), (Go.Value.int Go.IntKind.i64 0),Ae,Af, t20_5,Af,Aa, t9_0, t10_1, t10_1, (gdV (wt t10_1 true) Af), t13_2, t14_3,Aq,Ar,Aa,Af, t19_4, t20_5,Af, t22_6, t22_6, (gdV (wt t22_6 true) t20_5), t25_7, t26_8,Bd,Be,Bf,Bg,Bh,Bi,Bj,Bk,Bl,Bm,Bn,Bo,Bp,Bq,Br,Bs,Bt,Bu,Bv,Bw], h⟩) (
(binV Tryz.prog .and 5 (.tmp 28) (.const (Go.Value.int Go.IntKind.u8 127)) t20_5 (Go.Value.int Go.IntKind.u8 127)).bind fun t29_9 =>
obH (convV Tryz.prog 5 30 t29_9 h) fun t30_10 h11 =>
(binV Tryz.prog .mul 3 (.const (Go.Value.int Go.IntKind.i64 7)) (.tmp 31) (Go.Value.int Go.IntKind.i64 7) Af).bind fun t32_12 =>
obH (convV Tryz.prog 3 66 t32_12 h11) fun t33_13 h14 =>
(binV Tryz.prog .shl 30 (.tmp 30) (.tmp 33) t30_10 t33_13).bind fun t34_15 =>
(binV Tryz.prog .or 30 (.tmp 27) (.tmp 34) Ae t34_15).bind fun t35_16 =>
(binV Tryz.prog .lss 5 (.tmp 36) (.const (Go.Value.int Go.IntKind.u8 128)) t20_5 (Go.Value.int Go.IntKind.u8 128)).bind fun t37_17 =>
cnd t37_17 (
(binV Tryz.prog .eql 5 (.tmp 38) (.const (Go.Value.int Go.IntKind.u8 0)) t20_5 (Go.Value.int Go.IntKind.u8 0)).bind fun t39_18 =>
(gd (wt t39_18 true) (binV Tryz.prog .gtr 3 (.tmp 41) (.const (Go.Value.int Go.IntKind.i64 0)) (gdV (wt t39_18 true) Af) (Go.Value.int Go.IntKind.i64 0))).bind fun t42_19 =>
(zDb t39_18 t42_19 (Go.Value.bool Bool.false)).bind fun t43_20 =>
cnd t43_20 (
k .ret ⟨#[Aa,Ab, (Go.Value.int Go.IntKind.u64 0), (Go.Value.int Go.IntKind.i64 0), t35_16,Af, t20_5,Af,Aa, t9_0, t10_1, t10_1, (gdV (wt t10_1 true) Af), t13_2, t14_3,Aq,Ar,Aa,Af, t19_4, t20_5,Af, t22_6, t22_6, (gdV (wt t22_6 true) t20_5), t25_7, t26_8,Ae, t20_5, t29_9, t30_10,Af, t32_12, t33_13, t34_15, t35_16, t20_5, t37_17, t20_5, t39_18, t39_18, (gdV (wt t39_18 true) Af), t42_19, t43_20,Bu,Bv,Bw], h14⟩) (
(binV Tryz.prog .add 3 (.tmp 45) (.const (Go.Value.int Go.IntKind.i64 1)) Af (Go.Value.int Go.IntKind.i64 1)).bind fun t46_21 =>
k .ret ⟨#[Aa,Ab, t35_16, t46_21, t35_16,Af, t20_5,Af,Aa, t9_0, t10_1, t10_1, (gdV (wt t10_1 true) Af), t13_2, t14_3,Aq,Ar,Aa,Af, t19_4, t20_5,Af, t22_6, t22_6, (gdV (wt t22_6 true) t20_5), t25_7, t26_8,Ae, t20_5, t29_9, t30_10,Af, t32_12, t33_13, t34_15, t35_16, t20_5, t37_17, t20_5, t39_18, t39_18, (gdV (wt t39_18 true) Af), t42_19, t43_20, t35_16,Af, t46_21], h14⟩)) (
(binV Tryz.prog .add 3 (.tmp 15) (.const (Go.Value.int Go.IntKind.i64 1)) Af (Go.Value.int Go.IntKind.i64 1)).bind fun t16_22 =>
k .normal ⟨#[Aa,Ab,Ac,Ad, t35_16, t16_22, t20_5,Af,Aa, t9_0, t10_1, t10_1, (gdV (wt t10_1 true) Af), t13_2, t14_3,Af, t16_22,Aa,Af, t19_4, t20_5,Af, t22_6, t22_6, (gdV (wt t22_6 true) t20_5), t25_7, t26_8,Ae, t20_5, t29_9, t30_10,Af, t32_12, t33_13, t34_15, t35_16, t20_5, t37_17,Bo,Bp,Bq,Br,Bs,Bt,Bu,Bv,Bw], h14⟩))) (
k (.exit 0) ⟨#[Aa,Ab,Ac,Ad,Ae,Af,Ag,Af,Aa, t9_0, t10_1, t10_1, (gdV (wt t10_1 true) Af), t13_2, t14_3,Aq,Ar,As,Au,Av,Aw,Ax,Ay,Az,Ba,Bb,Bc,Bd,Be,Bf,Bg,Bh,Bi,Bj,Bk,Bl,Bm,Bn,Bo,Bp,Bq,Br,Bs,Bt,Bu,Bv,Bw], h⟩) := by kernel_rfl
theorem c109_2_eq {β : Type} (h : Heap) (k : Ex → St → Option β) : zDd Tryz.prog (evC Tryz.prog) zDc c109_2 ⟨#[Aa,Ab,Ac,Ad,Ae,Af,Ag,Ah,Ai,Aj,Ak,Al,An,Ao,Ap,Aq,Ar,As,Au,Av,Aw,Ax,Ay,Az,Ba,Bb,Bc,Bd,Be,Bf,Bg,Bh,Bi,Bj,Bk,Bl,Bm,Bn,Bo,Bp,Bq,Br,Bs,Bt,Bu,Bv,Bw], h⟩ k =
k .ret ⟨#[Aa,Ab, (Go.Value.int Go.IntKind.u64 0), (Go.Value.int Go.IntKind.i64 0),Ae,Af,Ag,Ah,Ai,Aj,Ak,Al,An,Ao,Ap,Aq,Ar,As,Au,Av,Aw,Ax,Ay,Az,Ba,Bb,Bc,Bd,Be,Bf,Bg,Bh,Bi,Bj,Bk,Bl,Bm,Bn,Bo,Bp,Bq,Br,Bs,Bt,Bu,Bv,Bw], h⟩ := by kernel_rfl
theorem call109 (h : Heap) : evC Tryz.prog 109 #[Aa] h = zDd Tryz.prog (evC Tryz.prog) zDc c109_0 ⟨#[Aa, undef, undef, undef, undef, undef, undef, undef, undef, undef, undef, undef, undef, undef, undef, undef, undef, undef, undef, undef, undef, undef, undef, undef, undef, undef, undef, undef, undef, undef, undef, undef, undef, undef, undef, undef, undef, undef, undef, undef, undef, undef, undef, undef, undef, undef, undef], nm h⟩ (zCw Tryz.f109 Tryz.prog h) :=
  (zCa 109 Tryz.f109 c109_0 Tryz.func109 (by kernel_rfl) #[Aa] h).trans (by kernel_rfl)
theorem ret109 (h0 h : Heap) : zCw Tryz.f109 Tryz.prog h0 .ret ⟨#[Aa,Ab,Ac,Ad,Ae,Af,Ag,Ah,Ai,Aj,Ak,Al,An,Ao,Ap,Aq,Ar,As,Au,Av,Aw,Ax,Ay,Az,Ba,Bb,Bc,Bd,Be,Bf,Bg,Bh,Bi,Bj,Bk,Bl,Bm,Bn,Bo,Bp,Bq,Br,Bs,Bt,Bu,Bv,Bw], h⟩ = fin h0 (some (.tuple #[Ac,Ad])) h := by kernel_rfl
end Go.Am
namespace Go.Am
open Go.Proofs
set_option maxRecDepth 100000
variable (Aa Ab Ac Ad Ae Af Ag Ah Ai Aj Ak Al An : Value)
noncomputable def c81_0 : Code := zCe Tryz.f81 []
theorem c81_0_eq {β : Type} (h : Heap) (k : Ex → St → Option β) : zDd Tryz.prog (evC Tryz.prog) zDc c81_0 ⟨#[Aa,Ab,Ac,Ad,Ae,Af,Ag,Ah,Ai,Aj,Ak,Al,An], h⟩ k =
(zBy Tryz.prog Aa).bind fun t6_0 =>
(zCb Tryz.prog 153 t6_0 0).bind fun t7_1 =>
(loadV Tryz.prog 35 t7_1 h).bind fun t8_2 =>
obH (evC Tryz.prog 105 #[t8_2,Ab] h) fun t10_3 h4 =>
(zBy Tryz.prog Aa).bind fun t11_5 =>
(zCb Tryz.prog 153 t11_5 0).bind fun t12_6 =>
(storeV Tryz.prog 35 t12_6 t10_3 h4).bind fun h7 =>
k .normal ⟨#[Aa,Ab,Ac,Ad,Aa,Aa, t6_0, t7_1, t8_2,Ab, t10_3, t11_5, t12_6], h7⟩ := by kernel_rfl
theorem call81 (h : Heap) : evC Tryz.prog 81 #[Aa,Ab] h = zDd Tryz.prog (evC Tryz.prog) zDc c81_0 ⟨#[Aa,Ab, undef, undef, undef, undef, undef, undef, undef, undef, undef, undef, undef], nm h⟩ (zCw Tryz.f81 Tryz.prog h) :=
  (zCa 81 Tryz.f81 c81_0 Tryz.func81 (by kernel_rfl) #[Aa,Ab] h).trans (by kernel_rfl)
theorem retn81 (h0 h : Heap) : zCw Tryz.f81 Tryz.prog h0 .normal ⟨#[Aa,Ab,Ac,Ad,Ae,Af,Ag,Ah,Ai,Aj,Ak,Al,An], h⟩ = fin h0 (some (.tuple #[])) h := by kernel_rfl
end Go.Am
namespace Go.Am
open Go.Proofs
set_option maxRecDepth 100000
variable (Aa Ab Ac Ad Ae Af Ag Ah Ai Aj Ak Al An Ao Ap Aq Ar As Au Av Aw Ax Ay Az Ba Bb Bc Bd Be Bf Bg Bh Bi Bj Bk Bl Bm Bn Bo Bp : Value)
noncomputable def c86_0 : Code := zCe Tryz.f86 []
theorem c86_0_eq {β : Type} (h : Heap) (k : Ex → St → Option β) : zDd Tryz.prog (evC Tryz.prog) zDc c86_0 ⟨#[Aa,Ab,Ac,Ad,Ae,Af,Ag,Ah,Ai,Aj,Ak,Al,An,Ao,Ap,Aq,Ar,As,Au,Av,Aw,Ax,Ay,Az,Ba,Bb,Bc,Bd,Be,Bf,Bg,Bh,Bi,Bj,Bk,Bl,Bm,Bn,Bo,Bp], h⟩ k =
(zBy Tryz.prog Aa).bind fun t9_0 =>
(zCb Tryz.prog 160 t9_0 0).bind fun t10_1 =>
(loadV Tryz.prog 35 t10_1 h).bind fun t11_2 =>
obH (evC Tryz.prog 109 #[t11_2] h) fun t12_3 h4 =>
(zDa t12_3 0).bind fun t13_5 =>
(zDa t12_3 1).bind fun t14_6 =>
(zBy Tryz.prog Aa).bind fun t16_7 =>
(zCb Tryz.prog 160 t16_7 1).bind fun t17_8 =>
(loadV Tryz.prog 4 t17_8 h4).bind fun t18_9 =>
(gd (wt t18_9 false) (binV Tryz.prog .eql 3 (.tmp 20) (.const (Go.Value.int Go.IntKind.i64 0)) (gdV (wt t18_9 false) t14_6) (Go.Value.int Go.IntKind.i64 0))).bind fun t21_10 =>
(zDb t18_9 (Go.Value.bool Bool.true) t21_10).bind fun t22_11 =>
(gd (wt t22_11 false) (binV Tryz.prog .gtr 30 (.tmp 24) (.tmp 25) (gdV (wt t22_11 false) t13_5) (gdV (wt t22_11 false) Ab))).bind fun t26_12 =>
(zDb t22_11 (Go.Value.bool Bool.true) t26_12).bind fun t27_13 =>
cnd t27_13 (
obH (evC Tryz.prog 110 #[Aa] h4) fun t29_14 h15 =>
k .ret ⟨#[Aa,Ab,Ac,Ad, (Go.Value.int Go.IntKind.u64 0), t13_5, t14_6, t12_3,Aa, t9_0, t10_1, t11_2, t12_3, t13_5, t14_6,Aa, t16_7, t17_8, t18_9, t18_9, (gdV (wt t18_9 false) t14_6), t21_10, t22_11, t22_11, (gdV (wt t22_11 false) t13_5), (gdV (wt t22_11 false) Ab), t26_12, t27_13,Aa, t29_14,Bg,Bh,Bi,Bj,Bk,Bl,Bm,Bn,Bo,Bp], h15⟩) (
(zBy Tryz.prog Aa).bind fun t32_16 =>
(zCb Tryz.prog 160 t32_16 0).bind fun t33_17 =>
(loadV Tryz.prog 35 t33_17 h4).bind fun t34_18 =>
(sliceV Tryz.prog 35 t34_18 (some t14_6) none none h4).bind fun t36_19 =>
(zBy Tryz.prog Aa).bind fun t37_20 =>
(zCb Tryz.prog 160 t37_20 0).bind fun t38_21 =>
(storeV Tryz.prog 35 t38_21 t36_19 h4).bind fun h22 =>
k .ret ⟨#[Aa,Ab,Ac,Ad, t13_5, t13_5, t14_6, t12_3,Aa, t9_0, t10_1, t11_2, t12_3, t13_5, t14_6,Aa, t16_7, t17_8, t18_9, t18_9, (gdV (wt t18_9 false) t14_6), t21_10, t22_11, t22_11, (gdV (wt t22_11 false) t13_5), (gdV (wt t22_11 false) Ab), t26_12, t27_13,Be,Bf,Aa,Aa, t32_16, t33_17, t34_18, t14_6, t36_19, t37_20, t38_21, t13_5], h22⟩) := by kernel_rfl
theorem call86 (h : Heap) : evC Tryz.prog 86 #[Aa,Ab] h = zDd Tryz.prog (evC Tryz.prog) zDc c86_0 ⟨#[Aa,Ab, undef, undef, undef, undef, undef, undef, undef, undef, undef, undef, undef, undef, undef, undef, undef, undef, undef, undef, undef, undef, undef, undef, undef, undef, undef, undef, undef, undef, undef, undef, undef, undef, undef, undef, undef, undef, undef, undef], nm h⟩ (zCw Tryz.f86 Tryz.prog h) :=
  (zCa 86 Tryz.f86 c86_0 Tryz.func86 (by kernel_rfl) #[Aa,Ab] h).trans (by kernel_rfl)
theorem ret86 (h0 h : Heap) : zCw Tryz.f86 Tryz.prog h0 .ret ⟨#[Aa,Ab,Ac,Ad,Ae,Af,Ag,Ah,Ai,Aj,Ak,Al,An,Ao,Ap,Aq,Ar,As,Au,Av,Aw,Ax,Ay,Az,Ba,Bb,Bc,Bd,Be,Bf,Bg,Bh,Bi,Bj,Bk,Bl,Bm,Bn,Bo,Bp], h⟩ = fin h0 (some Ae) h := by kernel_rfl
end Go.Am
namespace Go.Am
open Go.Proofs
set_option maxRecDepth 100000
variable (Aa Ab Ac Ad Ae Af Ag Ah Ai Aj Ak Al An Ao Ap Aq : Value)
noncomputable def c87_0 : Code := zCe Tryz.f87 []
theorem c87_0_eq {β : Type} (h : Heap) (k : Ex → St → Option β) : zDd Tryz.prog (evC Tryz.prog) zDc c87_0 ⟨#[Aa,Ab,Ac,Ad,Ae,Af,Ag,Ah,Ai,Aj,Ak,Al,An,Ao,Ap,Aq], h⟩ k =
(zBy Tryz.prog Aa).bind fun t4_0 =>
(zCb Tryz.prog 160 t4_0 1).bind fun t5_1 =>
(loadV Tryz.prog 4 t5_1 h).bind fun t6_2 =>
(unV Tryz.prog .not t6_2).bind fun t7_3 =>
(gd (wt t7_3 true) (zBy Tryz.prog (gdV (wt t7_3 true) Aa))).bind fun t10_4 =>
(gd (wt t7_3 true) (zCb Tryz.prog 160 t10_4 0)).bind fun t11_5 =>
(gd (wt t7_3 true) (loadV Tryz.prog 35 t11_5 h)).bind fun t12_6 =>
(gd (wt t7_3 true) (lenV Tryz.prog 35 t12_6 h)).bind fun t13_7 =>
(gd (wt t7_3 true) (binV Tryz.prog .eql 3 (.tmp 13) (.const (Go.Value.int Go.IntKind.i64 0)) t13_7 (Go.Value.int Go.IntKind.i64 0))).bind fun t14_8 =>
(zDb t7_3 t14_8 (Go.Value.bool Bool.false)).bind fun t15_9 =>
k .ret ⟨#[Aa,Ab, t15_9,Aa, t4_0, t5_1, t6_2, t7_3, t7_3, (gdV (wt t7_3 true) Aa), t10_4, t11_5, t12_6, t13_7, t14_8, t15_9], h⟩ := by kernel_rfl
theorem call87 (h : Heap) : evC Tryz.prog 87 #[Aa] h = zDd Tryz.prog (evC Tryz.prog) zDc c87_0 ⟨#[Aa, undef, undef, undef, undef, undef, undef, undef, undef, undef, undef, undef, undef, undef, undef, undef], nm h⟩ (zCw Tryz.f87 Tryz.prog h) :=
  (zCa 87 Tryz.f87 c87_0 Tryz.func87 (by kernel_rfl) #[Aa] h).trans (by kernel_rfl)
theorem ret87 (h0 h : Heap) : zCw Tryz.f87 Tryz.prog h0 .ret ⟨#[Aa,Ab,Ac,Ad,Ae,Af,Ag,Ah,Ai,Aj,Ak,Al,An,Ao,Ap,Aq], h⟩ = fin h0 (some Ac) h := by kernel_rfl
end Go.Am
namespace Go.Am
open Go.Proofs
set_option maxRecDepth 100000
variable (Aa Ab Ac Ad Ae Af Ag Ah : Value)
noncomputable def c110_0 : Code := zCe Tryz.f110 []
theorem c110_0_eq {β : Type} (h : Heap) (k : Ex → St → Option β) : zDd Tryz.prog (evC Tryz.prog) zDc c110_0 ⟨#[Aa,Ab,Ac,Ad,Ae,Af,Ag,Ah], h⟩ k =
(zBy Tryz.prog Aa).bind fun t4_0 =>
(zCb Tryz.prog 160 t4_0 1).bind fun t5_1 =>
(storeV Tryz.prog 4 t5_1 (Go.Value.bool Bool.true) h).bind fun h2 =>
(zBy Tryz.prog Aa).bind fun t6_3 =>
(zCb Tryz.prog 160 t6_3 0).bind fun t7_4 =>
(storeV Tryz.prog 35 t7_4 (Go.Value.slice Option.none 0 0) h2).bind fun h5 =>
k .normal ⟨#[Aa,Ab,Aa,Aa, t4_0, t5_1, t6_3, t7_4], h5⟩ := by kernel_rfl
theorem call110 (h : Heap) : evC Tryz.prog 110 #[Aa] h = zDd Tryz.prog (evC Tryz.prog) zDc c110_0 ⟨#[Aa, undef, undef, undef, undef, undef, undef, undef], nm h⟩ (zCw Tryz.f110 Tryz.prog h) :=
  (zCa 110 Tryz.f110 c110_0 Tryz.func110 (by kernel_rfl) #[Aa] h).trans (by kernel_rfl)
theorem retn110 (h0 h : Heap) : zCw Tryz.f110 Tryz.prog h0 .normal ⟨#[Aa,Ab,Ac,Ad,Ae,Af,Ag,Ah], h⟩ = fin h0 (some (.tuple #[])) h := by kernel_rfl
end Go.Am
namespace Go.Am
open Go.Proofs
set_option maxRecDepth 100000
variable (Aa Ab Ac Ad Ae Af Ag Ah Ai Aj Ak Al An Ao Ap Aq Ar As Au Av Aw Ax Ay Az Ba Bb Bc Bd Be Bf Bg Bh Bi Bj Bk : Value)
noncomputable def c67_0 : Code := zCe Tryz.f67 []
theorem c67_0_eq {β : Type} (h : Heap) (k : Ex → St → Option β) : zDd Tryz.prog (evC Tryz.prog) zDc c67_0 ⟨#[Aa,Ab,Ac,Ad,Ae,Af,Ag,Ah,Ai,Aj,Ak,Al,An,Ao,Ap,Aq,Ar,As,Au,Av,Aw,Ax,Ay,Az,Ba,Bb,Bc,Bd,Be,Bf,Bg,Bh,Bi,Bj,Bk], h⟩ k =
(zBy Tryz.prog Aa).bind fun t9_0 =>
(zCb Tryz.prog 169 t9_0 0).bind fun t10_1 =>
(loadV Tryz.prog 35 t10_1 h).bind fun t11_2 =>
obH (evC Tryz.prog 96 #[t11_2] h) fun t12_3 h4 =>
(zDa t12_3 0).bind fun t13_5 =>
(zDa t12_3 1).bind fun t14_6 =>
(binV Tryz.prog .eql 3 (.tmp 16) (.const (Go.Value.int Go.IntKind.i64 0)) t14_6 (Go.Value.int Go.IntKind.i64 0)).bind fun t17_7 =>
obH (gdH (wt t17_7 false) h4 (evC Tryz.prog 98 #[(gdV (wt t17_7 false) t13_5), (gdV (wt t17_7 false) Ab)] h4)) fun t21_8 h9 =>
(gd (wt t17_7 false) (unV Tryz.prog .not t21_8)).bind fun t22_10 =>
(zDb t17_7 (Go.Value.bool Bool.true) t22_10).bind fun t23_11 =>
obH (evC Tryz.prog 97 #[Aa, t23_11] h9) fun t24_12 h13 =>
cnd t24_12 (
k .ret ⟨#[Aa,Ab,Ac,Ad, (Go.Value.int Go.IntKind.u64 0), t13_5, t14_6, t12_3,Aa, t9_0, t10_1, t11_2, t12_3, t13_5, t14_6,Aa, t14_6, t17_7, t17_7, (gdV (wt t17_7 false) t13_5), (gdV (wt t17_7 false) Ab), t21_8, t22_10, t23_11, t24_12,Bb,Bc,Bd,Be,Bf,Bg,Bh,Bi,Bj,Bk], h13⟩) (
(zBy Tryz.prog Aa).bind fun t27_14 =>
(zCb Tryz.prog 169 t27_14 0).bind fun t28_15 =>
(loadV Tryz.prog 35 t28_15 h13).bind fun t29_16 =>
(sliceV Tryz.prog 35 t29_16 (some t14_6) none none h13).bind fun t31_17 =>
(zBy Tryz.prog Aa).bind fun t32_18 =>
(zCb Tryz.prog 169 t32_18 0).bind fun t33_19 =>
(storeV Tryz.prog 35 t33_19 t31_17 h13).bind fun h20 =>
k .ret ⟨#[Aa,Ab,Ac,Ad, t13_5, t13_5, t14_6, t12_3,Aa, t9_0, t10_1, t11_2, t12_3, t13_5, t14_6,Aa, t14_6, t17_7, t17_7, (gdV (wt t17_7 false) t13_5), (gdV (wt t17_7 false) Ab), t21_8, t22_10, t23_11, t24_12,Aa,Aa, t27_14, t28_15, t29_16, t14_6, t31_17, t32_18, t33_19, t13_5], h20⟩) := by kernel_rfl
theorem call67 (h : Heap) : evC Tryz.prog 67 #[Aa,Ab] h = zDd Tryz.prog (evC Tryz.prog) zDc c67_0 ⟨#[Aa,Ab, undef, undef, undef, undef, undef, undef, undef, undef, undef, undef, undef, undef, undef, undef, undef, undef, undef, undef, undef, undef, undef, undef, undef, undef, undef, undef, undef, undef, undef, undef, undef, undef, undef], nm h⟩ (zCw Tryz.f67 Tryz.prog h) :=
  (zCa 67 Tryz.f67 c67_0 Tryz.func67 (by kernel_rfl) #[Aa,Ab] h).trans (by kernel_rfl)
theorem ret67 (h0 h : Heap) : zCw Tryz.f67 Tryz.prog h0 .ret ⟨#[Aa,Ab,Ac,Ad,Ae,Af,Ag,Ah,Ai,Aj,Ak,Al,An,Ao,Ap,Aq,Ar,As,Au,Av,Aw,Ax,Ay,Az,Ba,Bb,Bc,Bd,Be,Bf,Bg,Bh,Bi,Bj,Bk], h⟩ = fin h0 (some Ae) h := by kernel_rfl
end Go.Am
namespace Go.Am
open Go.Proofs
set_option maxRecDepth 100000
variable (Aa Ab Ac Ad Ae Af Ag : Value)
noncomputable def c73_0 : Code := zCe Tryz.f73 []
theorem c73_0_eq {β : Type} (h : Heap) (k : Ex → St → Option β) : zDd Tryz.prog (evC Tryz.prog) zDc c73_0 ⟨#[Aa,Ab,Ac,Ad,Ae,Af,Ag], h⟩ k =
obH (evC Tryz.prog 72 #[Aa,Ab] h) fun t6_0 h1 =>
k .normal ⟨#[Aa,Ab,Ac,Ad,Aa,Ab, t6_0], h1⟩ := by kernel_rfl
theorem call73 (h : Heap) : evC Tryz.prog 73 #[Aa,Ab] h = zDd Tryz.prog (evC Tryz.prog) zDc c73_0 ⟨#[Aa,Ab, undef, undef, undef, undef, undef], nm h⟩ (zCw Tryz.f73 Tryz.prog h) :=
  (zCa 73 Tryz.f73 c73_0 Tryz.func73 (by kernel_rfl) #[Aa,Ab] h).trans (by kernel_rfl)
theorem retn73 (h0 h : Heap) : zCw Tryz.f73 Tryz.prog h0 .normal ⟨#[Aa,Ab,Ac,Ad,Ae,Af,Ag], h⟩ = fin h0 (some (.tuple #[])) h := by kernel_rfl
end Go.Am
namespace Go.Am
open Go.Proofs
set_option maxRecDepth 100000
variable (Aa Ab Ac Ad Ae Af Ag Ah Ai : Value)
noncomputable def c98_0 : Code := zCe Tryz.f98 []
theorem c98_0_eq {β : Type} (h : Heap) (k : Ex → St → Option β) : zDd Tryz.prog (evC Tryz.prog) zDc c98_0 ⟨#[Aa,Ab,Ac,Ad,Ae,Af,Ag,Ah,Ai], h⟩ k =
(binV Tryz.prog .andNot 39 (.tmp 5) (.tmp 6) Aa Ab).bind fun t7_0 =>
(binV Tryz.prog .eql 39 (.tmp 7) (.const (Go.Value.int Go.IntKind.u64 0)) t7_0 (Go.Value.int Go.IntKind.u64 0)).bind fun t8_1 =>
k .ret ⟨#[Aa,Ab,Ac,Ad, t8_1,Aa,Ab, t7_0, t8_1], h⟩ := by kernel_rfl
theorem call98 (h : Heap) : evC Tryz.prog 98 #[Aa,Ab] h = zDd Tryz.prog (evC Tryz.prog) zDc c98_0 ⟨#[Aa,Ab, undef, undef, undef, undef, undef, undef, undef], nm h⟩ (zCw Tryz.f98 Tryz.prog h) :=
  (zCa 98 Tryz.f98 c98_0 Tryz.func98 (by kernel_rfl) #[Aa,Ab] h).trans (by kernel_rfl)
theorem ret98 (h0 h : Heap) : zCw Tryz.f98 Tryz.prog h0 .ret ⟨#[Aa,Ab,Ac,Ad,Ae,Af,Ag,Ah,Ai], h⟩ = fin h0 (some Ae) h := by kernel_rfl
end Go.Am
namespace Go.Am
open Go.Proofs
set_option maxRecDepth 100000
variable {β : Type} (x : Nat → Value) (h : Heap) (k : Ex → St → Option β) (r m : List Nat) (g : Heap)
noncomputable def c76_0 : Code := zCe Tryz.f76 []
noncomputable def c76_1 : Code := zCe Tryz.f76 [false]
noncomputable def c76_2 : Code := zCe Tryz.f76 [true]
noncomputable def d76_0 : Array Oper := opsC (zCe Tryz.f76 [true, false])
noncomputable def c76_3 : Code := zCe Tryz.f76 [true, false]
noncomputable def c76_4 : Code := zCe Tryz.f76 [true, true]
theorem c76_0_eq : cK c76_0 22 x h k =
cK c76_1 22 x h (sK c76_2 k) := codeK_seq _ _ _ _ _ (by kernel_rfl) _ _
theorem c76_1_eq : cK c76_1 22 x h k =
obH (boxV Tryz.prog 99 (x 0) h) fun v0 h1 =>
k .normal ⟨ar 22 (up x [(1,v0),(2,(.bool false))]), h1⟩ := by kernel_rfl
theorem c76_2_eq : cK c76_2 22 x h k =
cK c76_3 22 x h (sK c76_4 k) := codeK_seq _ _ _ _ _ (by kernel_rfl) _ _
theorem d76_0_0 (k : St → Option β) : rD d76_0 0 22 x h r m k =
(fa 99 (x 1) 0).bind fun v2 =>
rD d76_0 1 22 (up x [(3,v2)]) h r m k := (zBx _ _ d76_0 0 (by kernel_rfl) _ _ _ _).trans (by kernel_rfl)
theorem d76_0_1 (k : St → Option β) : rD d76_0 1 22 x h r m k =
(ld 3 (x 3) h).bind fun v3 =>
rD d76_0 2 22 (up x [(4,v3)]) h r m k := (zBx _ _ d76_0 1 (by kernel_rfl) _ _ _ _).trans (by kernel_rfl)
theorem d76_0_2 (k : St → Option β) : rD d76_0 2 22 x h r m k =
(bn .geq 3 (x 4) (.int .i64 0)).bind fun v4 =>
rD d76_0 3 22 (up x [(5,v4)]) h r m k := (zBx _ _ d76_0 2 (by kernel_rfl) _ _ _ _).trans (by kernel_rfl)
theorem d76_0_3 (k : St → Option β) : rD d76_0 3 22 x h r m k =
rD d76_0 4 22 (up x [(6,(x 5))]) h r m k := zDf _ _ d76_0 3 (by kernel_rfl) (by kernel_rfl) (by kernel_rfl) _ _ _ _ _ _ (by kernel_rfl) (by kernel_rfl)
theorem d76_0_4 (k : St → Option β) : rD d76_0 4 22 x h r m k =
(gd (wt (x 6) true) (fa 99 (x 1) 0)).bind fun v5 =>
rD d76_0 5 22 (up x [(7,v5)]) h r m k := (zBx _ _ d76_0 4 (by kernel_rfl) _ _ _ _).trans (by kernel_rfl)
theorem d76_0_5 (k : St → Option β) : rD d76_0 5 22 x h r m k =
(gd (wt (x 6) true) (ld 3 (x 7) h)).bind fun v6 =>
rD d76_0 6 22 (up x [(8,v6)]) h r m k := (zBx _ _ d76_0 5 (by kernel_rfl) _ _ _ _).trans (by kernel_rfl)
theorem d76_0_6 (k : St → Option β) : rD d76_0 6 22 x h r m k =
(gd (wt (x 6) true) (bn .lss 3 (x 8) (.int .i64 16))).bind fun v7 =>
rD d76_0 7 22 (up x [(9,v7)]) h r m k := (zBx _ _ d76_0 6 (by kernel_rfl) _ _ _ _).trans (by kernel_rfl)
theorem d76_0_7 (k : St → Option β) : rD d76_0 7 22 x h r m k =
(zDb (x 6) (x 9) (.bool false)).bind fun v8 =>
rD d76_0 8 22 (up x [(10,v8)]) h r m k := (zBx _ _ d76_0 7 (by kernel_rfl) _ _ _ _).trans (by kernel_rfl)
theorem d76_0_8 (k : St → Option β) : rD d76_0 8 22 x h r m k =
rD d76_0 9 22 (up x [(11,(x 10))]) h r m k := zDf _ _ d76_0 8 (by kernel_rfl) (by kernel_rfl) (by kernel_rfl) _ _ _ _ _ _ (by kernel_rfl) (by kernel_rfl)
theorem d76_0_9 (k : St → Option β) : rD d76_0 9 22 x h r m k =
(gd (wt (x 11) true) (fa 99 (x 1) 1)).bind fun v9 =>
rD d76_0 10 22 (up x [(12,v9)]) h r m k := (zBx _ _ d76_0 9 (by kernel_rfl) _ _ _ _).trans (by kernel_rfl)
theorem d76_0_10 (k : St → Option β) : rD d76_0 10 22 x h r m k =
(gd (wt (x 11) true) (ld 30 (x 12) h)).bind fun v10 =>
rD d76_0 11 22 (up x [(13,v10)]) h r m k := (zBx _ _ d76_0 10 (by kernel_rfl) _ _ _ _).trans (by kernel_rfl)
theorem d76_0_11 (k : St → Option β) : rD d76_0 11 22 x h r m k =
(gd (wt (x 11) true) (bn .gtr 30 (x 13) (.int .u64 0))).bind fun v11 =>
rD d76_0 12 22 (up x [(14,v11)]) h r m k := (zBx _ _ d76_0 11 (by kernel_rfl) _ _ _ _).trans (by kernel_rfl)
theorem d76_0_12 (k : St → Option β) : rD d76_0 12 22 x h r m k =
(zDb (x 11) (x 14) (.bool false)).bind fun v12 =>
rD d76_0 13 22 (up x [(15,v12)]) h r m k := (zBx _ _ d76_0 12 (by kernel_rfl) _ _ _ _).trans (by kernel_rfl)
theorem d76_0_13 (k : St → Option β) : rD d76_0 13 22 x h r m k =
rD d76_0 14 22 (up x [(16,(x 15))]) h r m k := zDf _ _ d76_0 13 (by kernel_rfl) (by kernel_rfl) (by kernel_rfl) _ _ _ _ _ _ (by kernel_rfl) (by kernel_rfl)
theorem d76_0_14 (k : St → Option β) : rD d76_0 14 22 x h r m k =
(gd (wt (x 16) true) (fa 99 (x 1) 2)).bind fun v13 =>
rD d76_0 15 22 (up x [(17,v13)]) h r m k := (zBx _ _ d76_0 14 (by kernel_rfl) _ _ _ _).trans (by kernel_rfl)
theorem d76_0_15 (k : St → Option β) : rD d76_0 15 22 x h r m k =
(gd (wt (x 16) true) (ld 39 (x 17) h)).bind fun v14 =>
rD d76_0 16 22 (up x [(18,v14)]) h (rdL (wt (x 16) true) (rb (x 17)) ++ r) m k := (zBx _ _ d76_0 15 (by kernel_rfl) _ _ _ _).trans (by kernel_rfl)
theorem d76_0_16 (k : St → Option β) : rD d76_0 16 22 x h r m k =
obH (gdH (wt (x 16) true) (nm h) (ev 31 #[(.int .i64 16)] (nm h))) fun v15 h16 =>
rD d76_0 17 22 (up x [(19,v15)]) (am h16 h) r (h16.mods ++ m) k := (zBx _ _ d76_0 16 (by kernel_rfl) _ _ _ _).trans (by kernel_rfl)
theorem d76_0_17 (k : St → Option β) : rD d76_0 17 22 x h r m k =
obH (gdH (wt (x 16) true) h (ev 98 #[x 18,x 19] h)) fun v17 h18 =>
rD d76_0 18 22 (up x [(20,v17)]) h18 r m k := (zBx _ _ d76_0 17 (by kernel_rfl) _ _ _ _).trans (by kernel_rfl)
theorem d76_0_18 (k : St → Option β) : rD d76_0 18 22 x h r m k =
(zDb (x 16) (x 20) (.bool false)).bind fun v19 =>
rD d76_0 19 22 (up x [(21,v19)]) h r m k := (zBx _ _ d76_0 18 (by kernel_rfl) _ _ _ _).trans (by kernel_rfl)
theorem d76_0_19 (k : St → Option β) : rD d76_0 19 22 x h r m k =
rD d76_0 20 22 (up x [(2,(x 21))]) h r m k := zDf _ _ d76_0 19 (by kernel_rfl) (by kernel_rfl) (by kernel_rfl) _ _ _ _ _ _ (by kernel_rfl) (by kernel_rfl)
theorem d76_0_20 (k : St → Option β) : rD d76_0 20 22 x h r m k =
chk r m (k ⟨ar 22 x, h⟩) := by kernel_rfl
theorem c76_3_eq : cK c76_3 22 x h k =
rD d76_0 0 22 x h [] [] (fun s => k .normal s) := by kernel_rfl
theorem c76_4_eq : cK c76_4 22 x h k =
k .ret ⟨ar 22 x, h⟩ := by kernel_rfl
theorem call76 (a0 : Value) : evC Tryz.prog 76 #[a0] h = cK c76_0 22 (up un [(0,a0)]) (nm h) (zCw Tryz.f76 Tryz.prog h) :=
  (zCa 76 Tryz.f76 c76_0 Tryz.func76 (by kernel_rfl) #[a0] h).trans (by kernel_rfl)
theorem ret76 : zCw Tryz.f76 Tryz.prog g .ret ⟨ar 22 x, h⟩ = fin g (some (x 2)) h := by kernel_rfl
end Go.Am
namespace Go.Am
open Go.Proofs
set_option maxRecDepth 100000
variable {β : Type} (x : Nat → Value) (h : Heap) (k : Ex → St → Option β) (r m : List Nat) (g : Heap)
noncomputable def c69_0 : Code := zCe Tryz.f69 []
noncomputable def c69_1 : Code := zCe Tryz.f69 [true, false, true, false, false]
noncomputable def c69_2 : Code := zCe Tryz.f69 [true, true]
theorem c69_0_eq : cK c69_0 32 x h k =
obH (boxV Tryz.prog 51 (x 0) h) fun v0 h1 =>
(fa 51 v0 0).bind fun v2 =>
(ld 49 v2 h1).bind fun v3 =>
(ln 49 v3 h1).bind fun v4 =>
lK c69_1 32 (up x [(1,v0),(2,(.bool false)),(5,v2),(6,v3),(7,v4),(8,(.int .i64 0))]) h1 (zCr 0 (sK c69_2 k)) := by kernel_rfl
theorem c69_1_eq : cK c69_1 32 x h k =
(bn .lss 3 (x 8) (x 7)).bind fun v5 =>
cnd v5 (
(ia 49 (x 6) (x 8)).bind fun v6 =>
(ld 99 v6 h).bind fun v7 =>
obH (allocV Tryz.prog 99 h) fun v8 h9 =>
(sto 99 v8 v7 h9).bind fun h10 =>
(ld 99 v8 h10).bind fun v11 =>
obH (ev 76 #[v11] h10) fun v12 h13 =>
(unV Tryz.prog .not v12).bind fun v14 =>
(gd (wt v14 false) (bn .gtr 3 (gdV (wt v14 false) (x 8)) (.int .i64 0))).bind fun v15 =>
(gd (wt (gdV (wt v14 false) v15) true) (fa 51 (x 1) 0)).bind fun v16 =>
(gd (wt (gdV (wt v14 false) v15) true) (ld 49 v16 h13)).bind fun v17 =>
(gd (wt (gdV (wt v14 false) v15) true) (bn .sub 3 (gdV (wt (gdV (wt v14 false) v15) true) (x 8)) (.int .i64 1))).bind fun v18 =>
(gd (wt (gdV (wt v14 false) v15) true) (ia 49 v17 v18)).bind fun v19 =>
(gd (wt (gdV (wt v14 false) v15) true) (ld 99 v19 h13)).bind fun v20 =>
(gd (wt (gdV (wt v14 false) v15) true) (ld 99 v8 h13)).bind fun v21 =>
obH (gdH (wt (gdV (wt v14 false) v15) true) h13 (ev 78 #[v20,v21] h13)) fun v22 h23 =>
(gd (wt (gdV (wt v14 false) v15) true) (bn .geq 3 v22 (.int .i64 0))).bind fun v24 =>
(gd (wt v14 false) (zDb (gdV (wt v14 false) v15) v24 (.bool false))).bind fun v25 =>
(zDb v14 (.bool true) v25).bind fun v26 =>
cnd v26 (
k .ret ⟨ar 32 (up x [(2,(.bool false)),(3,(x 8)),(4,v8),(9,v5),(10,(x 8)),(11,v6),(12,v7),(13,v11),(14,v12),(15,v14),(16,v14),(17,(gdV (wt v14 false) (x 8))),(18,v15),(19,(gdV (wt v14 false) v15)),(20,v16),(21,v17),(22,(gdV (wt (gdV (wt v14 false) v15) true) (x 8))),(23,v18),(24,v19),(25,v20),(26,v21),(27,v22),(28,v24),(29,v25),(30,v26)]), h23⟩) (
(bn .add 3 (x 8) (.int .i64 1)).bind fun v27 =>
k .normal ⟨ar 32 (up x [(3,(x 8)),(4,v8),(8,v27),(9,v5),(10,(x 8)),(11,v6),(12,v7),(13,v11),(14,v12),(15,v14),(16,v14),(17,(gdV (wt v14 false) (x 8))),(18,v15),(19,(gdV (wt v14 false) v15)),(20,v16),(21,v17),(22,(gdV (wt (gdV (wt v14 false) v15) true) (x 8))),(23,v18),(24,v19),(25,v20),(26,v21),(27,v22),(28,v24),(29,v25),(30,v26),(31,v27)]), h23⟩)) (
k (.exit 0) ⟨ar 32 (up x [(9,v5)]), h⟩) := by kernel_rfl
theorem c69_2_eq : cK c69_2 32 x h k =
k .ret ⟨ar 32 (up x [(2,(.bool true))]), h⟩ := by kernel_rfl
theorem call69 (a0 : Value) : evC Tryz.prog 69 #[a0] h = cK c69_0 32 (up un [(0,a0)]) (nm h) (zCw Tryz.f69 Tryz.prog h) :=
  (zCa 69 Tryz.f69 c69_0 Tryz.func69 (by kernel_rfl) #[a0] h).trans (by kernel_rfl)
theorem ret69 : zCw Tryz.f69 Tryz.prog g .ret ⟨ar 32 x, h⟩ = fin g (some (x 2)) h := by kernel_rfl
end Go.Am
namespace Go.Am
open Go.Proofs
set_option maxRecDepth 100000
variable {β : Type} (x : Nat → Value) (h : Heap) (k : Ex → St → Option β) (r m : List Nat) (g : Heap)
noncomputable def c75_0 : Code := zCe Tryz.f75 []
theorem c75_0_eq : cK c75_0 7 x h k =
obH (boxV Tryz.prog 51 (x 0) h) fun v0 h1 =>
obH (allocV Tryz.prog 51 h1) fun v2 h3 =>
(fa 51 v0 0).bind fun v4 =>
(ld 49 v4 h3).bind fun v5 =>
obH (ev 53 #[v5] h3) fun v6 h7 =>
(buildV Tryz.prog 51 #[(0, v6)]).bind fun v8 =>
(sto 51 v2 v8 h7).bind fun h9 =>
k .ret ⟨ar 7 (up x [(1,v0),(2,v2),(3,v4),(4,v5),(5,v6),(6,v8)]), h9⟩ := by kernel_rfl
theorem call75 (a0 : Value) : evC Tryz.prog 75 #[a0] h = cK c75_0 7 (up un [(0,a0)]) (nm h) (zCw Tryz.f75 Tryz.prog h) :=
  (zCa 75 Tryz.f75 c75_0 Tryz.func75 (by kernel_rfl) #[a0] h).trans (by kernel_rfl)
theorem ret75 : zCw Tryz.f75 Tryz.prog g .ret ⟨ar 7 x, h⟩ = fin g (rvals ((ld 51 (x 2) h).bind fun r0 => some [r0])) h := by kernel_rfl
end Go.Am
namespace Go.Am
open Go.Proofs
set_option maxRecDepth 100000
variable {β : Type} (x : Nat → Value) (h : Heap) (k : Ex → St → Option β) (r m : List Nat) (g : Heap)
noncomputable def c53_0 : Code := zCe Tryz.f53 []
theorem c53_0_eq : cK c53_0 8 x h k =
(bn .eql 49 (x 0) (.slice Option.none 0 0)).bind fun v0 =>
cnd v0 (
k .ret ⟨ar 8 (up x [(2,(.slice Option.none 0 0)),(3,(x 0)),(4,v0)]), h⟩) (
obH (zBw Tryz.prog 49 0 #[] h) fun v1 h2 =>
obH (ap 49 (some 49) v1 (x 0) h2) fun v3 h4 =>
k .ret ⟨ar 8 (up x [(2,v3),(3,(x 0)),(4,v0),(5,v1),(6,(x 0)),(7,v3)]), h4⟩) := by kernel_rfl
theorem call53 (a0 : Value) : evC Tryz.prog 53 #[a0] h = cK c53_0 8 (up un [(0,a0)]) (nm h) (zCw Tryz.f53 Tryz.prog h) :=
  (zCa 53 Tryz.f53 c53_0 Tryz.func53 (by kernel_rfl) #[a0] h).trans (by kernel_rfl)
theorem ret53 : zCw Tryz.f53 Tryz.prog g .ret ⟨ar 8 x, h⟩ = fin g (some (x 2)) h := by kernel_rfl
end Go.Am
namespace Go.Am
open Go.Proofs
set_option maxRecDepth 100000
variable {β : Type} (x : Nat → Value) (h : Heap) (k : Ex → St → Option β) (r m : List Nat) (g : Heap)
noncomputable def c16_0 : Code := zCe Tryz.f16 []
noncomputable def c16_1 : Code := zCe Tryz.f16 [true, true, false, true, false, false]
noncomputable def c16_2 : Code := zCe Tryz.f16 [true, true, true]
theorem c16_0_eq : cK c16_0 31 x h k =
lK c16_1 31 (up x [(2,(.slice Option.none 0 0)),(3,(.slice Option.none 0 0)),(4,(.int .i64 0))]) h (zCr 0 (sK c16_2 k)) := by kernel_rfl
theorem c16_1_eq : cK c16_1 31 x h k =
(ln 49 (x 0) h).bind fun v0 =>
(bn .lss 3 (x 4) v0).bind fun v1 =>
cnd v1 (
(ia 49 (x 0) (x 4)).bind fun v2 =>
(fa 99 v2 0).bind fun v3 =>
(ld 3 v3 h).bind fun v4 =>
(ia 49 (x 0) (x 4)).bind fun v5 =>
(fa 99 v5 1).bind fun v6 =>
(ld 30 v6 h).bind fun v7 =>
(ia 49 (x 0) (x 4)).bind fun v8 =>
(fa 99 v8 2).bind fun v9 =>
(ld 39 v9 h).bind fun v10 =>
(buildV Tryz.prog 87 #[(0, v4), (1, v7), (2, v10)]).bind fun v11 =>
obH (zBw Tryz.prog 31 1 #[(0, v11)] h) fun v12 h13 =>
obH (ap 31 (some 31) (x 3) v12 h13) fun v14 h15 =>
(bn .add 3 (x 4) (.int .i64 1)).bind fun v16 =>
k .normal ⟨ar 31 (up x [(3,v14),(4,v16),(5,(x 4)),(6,(x 0)),(7,v0),(8,v1),(9,(x 4)),(10,v16),(11,(x 3)),(12,(x 0)),(13,(x 4)),(14,v2),(15,v3),(16,v4),(17,(x 0)),(18,(x 4)),(19,v5),(20,v6),(21,v7),(22,(x 0)),(23,(x 4)),(24,v8),(25,v9),(26,v10),(27,v11),(28,v12),(29,v14)]), h15⟩) (
k (.exit 0) ⟨ar 31 (up x [(5,(x 4)),(6,(x 0)),(7,v0),(8,v1)]), h⟩) := by kernel_rfl
theorem c16_2_eq : cK c16_2 31 x h k =
k .ret ⟨ar 31 (up x [(2,(x 3)),(30,(x 3))]), h⟩ := by kernel_rfl
theorem call16 (a0 : Value) : evC Tryz.prog 16 #[a0] h = cK c16_0 31 (up un [(0,a0)]) (nm h) (zCw Tryz.f16 Tryz.prog h) :=
  (zCa 16 Tryz.f16 c16_0 Tryz.func16 (by kernel_rfl) #[a0] h).trans (by kernel_rfl)
theorem ret16 : zCw Tryz.f16 Tryz.prog g .ret ⟨ar 31 x, h⟩ = fin g (some (x 2)) h := by kernel_rfl
end Go.Am
namespace Go.Am
open Go.Proofs
set_option maxRecDepth 100000
variable {β : Type} (x : Nat → Value) (h : Heap) (k : Ex → St → Option β) (r m : List Nat) (g : Heap)
noncomputable def c15_0 : Code := zCe Tryz.f15 []
noncomputable def c15_1 : Code := zCe Tryz.f15 [true, true, false, true, false, false]
noncomputable def c15_2 : Code := zCe Tryz.f15 [true, true, true]
theorem c15_0_eq : cK c15_0 26 x h k =
(ln 31 (x 0) h).bind fun v0 =>
(ln 31 (x 1) h).bind fun v1 =>
(bn .neq 3 v0 v1).bind fun v2 =>
cnd v2 (
k .ret ⟨ar 26 (up x [(4,(.bool false)),(6,(x 0)),(7,v0),(8,(x 1)),(9,v1),(10,v2)]), h⟩) (
lK c15_1 26 (up x [(4,(.bool false)),(5,(.int .i64 0)),(6,(x 0)),(7,v0),(8,(x 1)),(9,v1),(10,v2)]) h (zCr 0 (sK c15_2 k))) := by kernel_rfl
theorem c15_1_eq : cK c15_1 26 x h k =
(ln 31 (x 0) h).bind fun v3 =>
(bn .lss 3 (x 5) v3).bind fun v4 =>
cnd v4 (
(ia 31 (x 0) (x 5)).bind fun v5 =>
(ld 87 v5 h).bind fun v6 =>
(ia 31 (x 1) (x 5)).bind fun v7 =>
(ld 87 v7 h).bind fun v8 =>
(bn .neq 87 v6 v8).bind fun v9 =>
cnd v9 (
k .ret ⟨ar 26 (up x [(4,(.bool false)),(11,(x 5)),(12,(x 0)),(13,v3),(14,v4),(17,(x 0)),(18,(x 5)),(19,v5),(20,v6),(21,(x 1)),(22,(x 5)),(23,v7),(24,v8),(25,v9)]), h⟩) (
(bn .add 3 (x 5) (.int .i64 1)).bind fun v10 =>
k .normal ⟨ar 26 (up x [(5,v10),(11,(x 5)),(12,(x 0)),(13,v3),(14,v4),(15,(x 5)),(16,v10),(17,(x 0)),(18,(x 5)),(19,v5),(20,v6),(21,(x 1)),(22,(x 5)),(23,v7),(24,v8),(25,v9)]), h⟩)) (
k (.exit 0) ⟨ar 26 (up x [(11,(x 5)),(12,(x 0)),(13,v3),(14,v4)]), h⟩) := by kernel_rfl
theorem c15_2_eq : cK c15_2 26 x h k =
k .ret ⟨ar 26 (up x [(4,(.bool true))]), h⟩ := by kernel_rfl
theorem call15 (a0 a1 : Value) : evC Tryz.prog 15 #[a0,a1] h = cK c15_0 26 (up un [(0,a0),(1,a1)]) (nm h) (zCw Tryz.f15 Tryz.prog h) :=
  (zCa 15 Tryz.f15 c15_0 Tryz.func15 (by kernel_rfl) #[a0,a1] h).trans (by kernel_rfl)
theorem ret15 : zCw Tryz.f15 Tryz.prog g .ret ⟨ar 26 x, h⟩ = fin g (some (x 4)) h := by kernel_rfl
end Go.Am
namespace Go.Am
open Go.Proofs
set_option maxRecDepth 100000
variable {β : Type} (x : Nat → Value) (h : Heap) (k : Ex → St → Option β) (r m : List Nat) (g : Heap)
noncomputable def c77_0 : Code := zCe Tryz.f77 []
noncomputable def c77_1 : Code := zCe Tryz.f77 [true, true, true, false, false, false]
noncomputable def c77_2 : Code := zCe Tryz.f77 [true, true, true, true]
theorem c77_0_eq : cK c77_0 49 x h k =
obH (boxV Tryz.prog 99 (x 1) h) fun v0 h1 =>
(ln 49 (x 0) h1).bind fun v2 =>
lK c77_1 49 (up x [(4,v0),(6,(.int .i64 0)),(7,(.bool false)),(8,v2),(9,(.int .i64 0)),(10,v2),(12,(x 0)),(13,v2),(14,v2)]) h1 (zCr 0 (sK c77_2 k)) := by kernel_rfl
theorem c77_1_eq : cK c77_1 49 x h k =
(bn .lss 3 (x 9) (x 10)).bind fun v3 =>
cnd v3 (
(bn .add 3 (x 9) (x 10)).bind fun v4 =>
obH (cv 3 66 v4 h) fun v5 h6 =>
(bn .shr 66 v5 (.int .u64 1)).bind fun v7 =>
obH (cv 66 3 v7 h6) fun v8 h9 =>
(ia 49 (x 0) v8).bind fun v10 =>
(ld 99 v10 h9).bind fun v11 =>
(ld 99 (x 4) h9).bind fun v12 =>
obH (callV Tryz.prog (evC Tryz.prog) (x 2) #[v11,v12] h9) fun v13 h14 =>
(bn .lss 3 v13 (.int .i64 0)).bind fun v15 =>
cnd v15 (
(bn .add 3 v8 (.int .i64 1)).bind fun v16 =>
k .normal ⟨ar 49 (up x [(9,v16),(11,v8),(15,(x 9)),(16,(x 10)),(17,v3),(18,(x 9)),(19,(x 10)),(20,v4),(21,v5),(22,v7),(23,v8),(24,(x 2)),(25,(x 0)),(26,v8),(27,v10),(28,v11),(29,v12),(30,v13),(31,v15),(32,v8),(33,v16)]), h14⟩) (
k .normal ⟨ar 49 (up x [(10,v8),(11,v8),(15,(x 9)),(16,(x 10)),(17,v3),(18,(x 9)),(19,(x 10)),(20,v4),(21,v5),(22,v7),(23,v8),(24,(x 2)),(25,(x 0)),(26,v8),(27,v10),(28,v11),(29,v12),(30,v13),(31,v15),(34,v8)]), h14⟩)) (
k (.exit 0) ⟨ar 49 (up x [(15,(x 9)),(16,(x 10)),(17,v3)]), h⟩) := by kernel_rfl
theorem c77_2_eq : cK c77_2 49 x h k =
(bn .lss 3 (x 9) (x 8)).bind fun v17 =>
(gd (wt v17 true) (ia 49 (gdV (wt v17 true) (x 0)) (gdV (wt v17 true) (x 9)))).bind fun v18 =>
(gd (wt v17 true) (ld 99 v18 h)).bind fun v19 =>
(gd (wt v17 true) (ld 99 (x 4) h)).bind fun v20 =>
obH (gdH (wt v17 true) h (callV Tryz.prog (evC Tryz.prog) (gdV (wt v17 true) (x 2)) #[v19,v20] h)) fun v21 h22 =>
(gd (wt v17 true) (bn .eql 3 v21 (.int .i64 0))).bind fun v23 =>
(zDb v17 v23 (.bool false)).bind fun v24 =>
k .ret ⟨ar 49 (up x [(6,(x 9)),(7,v24),(35,(x 9)),(36,(x 9)),(37,(x 8)),(38,v17),(39,v17),(40,(gdV (wt v17 true) (x 2))),(41,(gdV (wt v17 true) (x 0))),(42,(gdV (wt v17 true) (x 9))),(43,v18),(44,v19),(45,v20),(46,v21),(47,v23),(48,v24)]), h22⟩ := by kernel_rfl
theorem call77 (a0 a1 a2 : Value) : evC Tryz.prog 77 #[a0,a1,a2] h = cK c77_0 49 (up un [(0,a0),(1,a1),(2,a2)]) (nm h) (zCw Tryz.f77 Tryz.prog h) :=
  (zCa 77 Tryz.f77 c77_0 Tryz.func77 (by kernel_rfl) #[a0,a1,a2] h).trans (by kernel_rfl)
theorem ret77 : zCw Tryz.f77 Tryz.prog g .ret ⟨ar 49 x, h⟩ = fin g (some (.tuple #[x 6, (x 7)])) h := by kernel_rfl
end Go.Am
namespace Go.Am
open Go.Proofs
set_option maxRecDepth 100000
variable {β : Type} (x : Nat → Value) (h : Heap) (k : Ex → St → Option β) (r m : List Nat) (g : Heap)
noncomputable def c36_0 : Code := zCe Tryz.f36 []
theorem c36_0_eq : cK c36_0 39 x h k =
obH (boxV Tryz.prog 51 (x 0) h) fun v0 h1 =>
obH (boxV Tryz.prog 99 (x 1) h1) fun v2 h3 =>
obH (allocV Tryz.prog 51 h3) fun v4 h5 =>
(ld 51 v0 h5).bind fun v6 =>
obH (ev 75 #[v6] h5) fun v7 h8 =>
(sto 51 v0 v7 h8).bind fun h9 =>
(ld 51 v0 h9).bind fun v10 =>
obH (ev 69 #[v10] h9) fun v11 h12 =>
(unV Tryz.prog .not v11).bind fun v13 =>
(gd (wt v13 false) (ld 99 v2 h12)).bind fun v14 =>
obH (gdH (wt v13 false) h12 (ev 76 #[v14] h12)) fun v15 h16 =>
(gd (wt v13 false) (unV Tryz.prog .not v15)).bind fun v17 =>
(zDb v13 (.bool true) v17).bind fun v18 =>
cnd v18 (
(ld 51 v0 h16).bind fun v19 =>
(sto 51 v4 v19 h16).bind fun h20 =>
k .ret ⟨ar 39 (up x [(2,v0),(3,v2),(4,v4),(7,v6),(8,v7),(9,v10),(10,v11),(11,v13),(12,v13),(13,v14),(14,v15),(15,v17),(16,v18),(17,v19)]), h20⟩) (
(fa 51 v0 0).bind fun v21 =>
(ld 49 v21 h16).bind fun v22 =>
(ld 99 v2 h16).bind fun v23 =>
obH (ev 77 #[v22,v23,(.func (.func 78) #[] #[])] h16) fun v24 h25 =>
(zDa v24 0).bind fun v26 =>
(zDa v24 1).bind fun v27 =>
cnd v27 (
(fa 51 v0 0).bind fun v28 =>
(ld 49 v28 h25).bind fun v29 =>
(ld 99 v2 h25).bind fun v30 =>
(ia 49 v29 v26).bind fun v31 =>
(sto 99 v31 v30 h25).bind fun h32 =>
(ld 51 v0 h32).bind fun v33 =>
(sto 51 v4 v33 h32).bind fun h34 =>
k .ret ⟨ar 39 (up x [(2,v0),(3,v2),(4,v4),(5,v26),(6,v27),(7,v6),(8,v7),(9,v10),(10,v11),(11,v13),(12,v13),(13,v14),(14,v15),(15,v17),(16,v18),(18,v24),(19,v21),(20,v22),(21,v23),(22,v24),(23,v26),(24,v27),(25,v27),(26,v28),(27,v29),(28,v26),(29,v30),(30,v31),(38,v33)]), h34⟩) (
(fa 51 v0 0).bind fun v35 =>
(ld 49 v35 h25).bind fun v36 =>
(ld 99 v2 h25).bind fun v37 =>
obH (zBw Tryz.prog 49 1 #[(0, v37)] h25) fun v38 h39 =>
obH (ev 79 #[v36,v26,v38] h39) fun v40 h41 =>
(fa 51 v0 0).bind fun v42 =>
(sto 49 v42 v40 h41).bind fun h43 =>
(ld 51 v0 h43).bind fun v44 =>
(sto 51 v4 v44 h43).bind fun h45 =>
k .ret ⟨ar 39 (up x [(2,v0),(3,v2),(4,v4),(5,v26),(6,v27),(7,v6),(8,v7),(9,v10),(10,v11),(11,v13),(12,v13),(13,v14),(14,v15),(15,v17),(16,v18),(18,v24),(19,v21),(20,v22),(21,v23),(22,v24),(23,v26),(24,v27),(25,v27),(31,v35),(32,v36),(33,v26),(34,v37),(35,v38),(36,v40),(37,v42),(38,v44)]), h45⟩)) := by kernel_rfl
theorem call36 (a0 a1 : Value) : evC Tryz.prog 36 #[a0,a1] h = cK c36_0 39 (up un [(0,a0),(1,a1)]) (nm h) (zCw Tryz.f36 Tryz.prog h) :=
  (zCa 36 Tryz.f36 c36_0 Tryz.func36 (by kernel_rfl) #[a0,a1] h).trans (by kernel_rfl)
theorem ret36 : zCw Tryz.f36 Tryz.prog g .ret ⟨ar 39 x, h⟩ = fin g (rvals ((ld 51 (x 4) h).bind fun r0 => some [r0])) h := by kernel_rfl
end Go.Am
namespace Go.Am
open Go.Proofs
set_option maxRecDepth 100000
variable {β : Type} (x : Nat → Value) (h : Heap) (k : Ex → St → Option β) (r m : List Nat) (g : Heap)
noncomputable def c106_0 : Code := zCe Tryz.f106 []
noncomputable def c106_1 : Code := zCe Tryz.f106 [true, true, false, true, false, false]
noncomputable def c106_2 : Code := zCe Tryz.f106 [true, true, true]
theorem c106_0_eq : cK c106_0 21 x h k =
obH (boxV Tryz.prog 51 (x 0) h) fun v0 h1 =>
obH (some (makeMapV h1)) fun v2 h3 =>
(fa 51 v0 0).bind fun v4 =>
(ld 49 v4 h3).bind fun v5 =>
(ln 49 v5 h3).bind fun v6 =>
lK c106_1 21 (up x [(1,v0),(2,(.map Option.none)),(3,v2),(6,v2),(7,v4),(8,v5),(9,v6),(10,(.int .i64 0))]) h3 (zCr 0 (sK c106_2 k)) := by kernel_rfl
theorem c106_1_eq : cK c106_1 21 x h k =
(bn .lss 3 (x 10) (x 9)).bind fun v7 =>
cnd v7 (
(ia 49 (x 8) (x 10)).bind fun v8 =>
(ld 99 v8 h).bind fun v9 =>
obH (allocV Tryz.prog 99 h) fun v10 h11 =>
(sto 99 v10 v9 h11).bind fun h12 =>
(fa 99 v10 0).bind fun v13 =>
(ld 3 v13 h12).bind fun v14 =>
(fa 99 v10 1).bind fun v15 =>
(ld 30 v15 h12).bind fun v16 =>
(mapUpdateV Tryz.prog 183 (x 3) v14 v16 h12).bind fun h17 =>
(bn .add 3 (x 10) (.int .i64 1)).bind fun v18 =>
k .normal ⟨ar 21 (up x [(5,v10),(10,v18),(11,v7),(12,v8),(13,v9),(14,(x 3)),(15,v13),(16,v14),(17,v15),(18,v16),(19,v18)]), h17⟩) (
k (.exit 0) ⟨ar 21 (up x [(11,v7)]), h⟩) := by kernel_rfl
theorem c106_2_eq : cK c106_2 21 x h k =
k .ret ⟨ar 21 (up x [(2,(x 3)),(20,(x 3))]), h⟩ := by kernel_rfl
theorem call106 (a0 : Value) : evC Tryz.prog 106 #[a0] h = cK c106_0 21 (up un [(0,a0)]) (nm h) (zCw Tryz.f106 Tryz.prog h) :=
  (zCa 106 Tryz.f106 c106_0 Tryz.func106 (by kernel_rfl) #[a0] h).trans (by kernel_rfl)
theorem ret106 : zCw Tryz.f106 Tryz.prog g .ret ⟨ar 21 x, h⟩ = fin g (some (x 2)) h := by kernel_rfl
end Go.Am
namespace Go.Am
open Go.Proofs
set_option maxRecDepth 100000
variable {β : Type} (x : Nat → Value) (h : Heap) (k : Ex → St → Option β) (r m : List Nat) (g : Heap)
noncomputable def c84_0 : Code := zCe Tryz.f84 []
noncomputable def c84_1 : Code := zCe Tryz.f84 [true, true, true, false, true, false, false]
noncomputable def c84_2 : Code := zCe Tryz.f84 [true, true, true, true]
theorem c84_0_eq : cK c84_0 44 x h k =
obH (boxV Tryz.prog 51 (x 0) h) fun v0 h1 =>
obH (boxV Tryz.prog 51 (x 1) h1) fun v2 h3 =>
(ld 51 v2 h3).bind fun v4 =>
obH (ev 106 #[v4] h3) fun v5 h6 =>
(fa 51 v0 0).bind fun v7 =>
(ld 49 v7 h6).bind fun v8 =>
(ln 49 v8 h6).bind fun v9 =>
lK c84_1 44 (up x [(2,v0),(3,v2),(4,(.slice Option.none 0 0)),(5,v5),(6,(.slice Option.none 0 0)),(11,v4),(12,v5),(13,v7),(14,v8),(15,v9),(16,(.int .i64 0))]) h6 (zCr 0 (sK c84_2 k)) := by kernel_rfl
theorem c84_1_eq : cK c84_1 44 x h k =
(bn .lss 3 (x 16) (x 15)).bind fun v10 =>
cnd v10 (
(ia 49 (x 14) (x 16)).bind fun v11 =>
(ld 99 v11 h).bind fun v12 =>
obH (allocV Tryz.prog 99 h) fun v13 h14 =>
(sto 99 v13 v12 h14).bind fun h15 =>
(fa 51 (x 3) 0).bind fun v16 =>
(ld 49 v16 h15).bind fun v17 =>
(ld 99 v13 h15).bind fun v18 =>
obH (ev 77 #[v17,v18,(.func (.func 78) #[] #[])] h15) fun v19 h20 =>
(zDa v19 0).bind fun v21 =>
(zDa v19 1).bind fun v22 =>
(unV Tryz.prog .not v22).bind fun v23 =>
(gd (wt v23 true) (fa 99 v13 0)).bind fun v24 =>
(gd (wt v23 true) (ld 3 v24 h20)).bind fun v25 =>
(gd (wt v23 true) (lookupV Tryz.prog 183 (gdV (wt v23 true) (x 5)) v25 false h20)).bind fun v26 =>
(gd (wt v23 true) (fa 99 v13 1)).bind fun v27 =>
(gd (wt v23 true) (ld 30 v27 h20)).bind fun v28 =>
(gd (wt v23 true) (bn .lss 30 v26 v28)).bind fun v29 =>
(zDb v23 v29 (.bool false)).bind fun v30 =>
cnd v30 (
(ld 99 v13 h20).bind fun v31 =>
obH (zBw Tryz.prog 49 1 #[(0, v31)] h20) fun v32 h33 =>
obH (ap 49 (some 49) (x 6) v32 h33) fun v34 h35 =>
(bn .add 3 (x 16) (.int .i64 1)).bind fun v36 =>
k .normal ⟨ar 44 (up x [(6,v34),(8,v13),(9,v21),(10,v22),(16,v36),(17,v10),(18,v11),(19,v12),(20,v19),(21,v16),(22,v17),(23,v18),(24,v19),(25,v21),(26,v22),(27,v22),(28,v23),(29,v23),(30,(gdV (wt v23 true) (x 5))),(31,v24),(32,v25),(33,v26),(34,v27),(35,v28),(36,v29),(37,v30),(38,(x 6)),(39,v31),(40,v32),(41,v34),(42,v36)]), h35⟩) (
(bn .add 3 (x 16) (.int .i64 1)).bind fun v37 =>
k .normal ⟨ar 44 (up x [(8,v13),(9,v21),(10,v22),(16,v37),(17,v10),(18,v11),(19,v12),(20,v19),(21,v16),(22,v17),(23,v18),(24,v19),(25,v21),(26,v22),(27,v22),(28,v23),(29,v23),(30,(gdV (wt v23 true) (x 5))),(31,v24),(32,v25),(33,v26),(34,v27),(35,v28),(36,v29),(37,v30),(42,v37)]), h20⟩)) (
k (.exit 0) ⟨ar 44 (up x [(17,v10)]), h⟩) := by kernel_rfl
theorem c84_2_eq : cK c84_2 44 x h k =
k .ret ⟨ar 44 (up x [(4,(x 6)),(43,(x 6))]), h⟩ := by kernel_rfl
theorem call84 (a0 a1 : Value) : evC Tryz.prog 84 #[a0,a1] h = cK c84_0 44 (up un [(0,a0),(1,a1)]) (nm h) (zCw Tryz.f84 Tryz.prog h) :=
  (zCa 84 Tryz.f84 c84_0 Tryz.func84 (by kernel_rfl) #[a0,a1] h).trans (by kernel_rfl)
theorem ret84 : zCw Tryz.f84 Tryz.prog g .ret ⟨ar 44 x, h⟩ = fin g (some (x 4)) h := by kernel_rfl
end Go.Am
namespace Go.Am
open Go.Proofs
set_option maxRecDepth 100000
variable {β : Type} (x : Nat → Value) (h : Heap) (k : Ex → St → Option β) (r m : List Nat) (g : Heap)
noncomputable def c43_0 : Code := zCe Tryz.f43 []
noncomputable def c43_1 : Code := zCe Tryz.f43 [true, true, true, false, true, false, false]
noncomputable def c43_2 : Code := zCe Tryz.f43 [true, true, true, true]
theorem c43_0_eq : cK c43_0 61 x h k =
obH (boxV Tryz.prog 51 (x 0) h) fun v0 h1 =>
obH (boxV Tryz.prog 51 (x 1) h1) fun v2 h3 =>
obH (allocV Tryz.prog 51 h3) fun v4 h5 =>
(ld 51 v0 h5).bind fun v6 =>
obH (ev 69 #[v6] h5) fun v7 h8 =>
(unV Tryz.prog .not v7).bind fun v9 =>
(gd (wt v9 false) (ld 51 v2 h8)).bind fun v10 =>
obH (gdH (wt v9 false) h8 (ev 69 #[v10] h8)) fun v11 h12 =>
(gd (wt v9 false) (unV Tryz.prog .not v11)).bind fun v13 =>
(zDb v9 (.bool true) v13).bind fun v14 =>
cnd v14 (
(ld 51 v0 h12).bind fun v15 =>
obH (ev 75 #[v15] h12) fun v16 h17 =>
(sto 51 v4 v16 h17).bind fun h18 =>
k .ret ⟨ar 61 (up x [(2,v0),(3,v2),(4,v4),(10,v6),(11,v7),(12,v9),(13,v9),(14,v10),(15,v11),(16,v13),(17,v14),(18,v15),(19,v16)]), h18⟩) (
(ld 51 v0 h12).bind fun v19 =>
(ld 51 v2 h12).bind fun v20 =>
obH (ev 84 #[v19,v20] (nm h12)) fun v21 h22 =>
(ld 51 v2 (am h22 h12)).bind fun v23 =>
(ld 51 v0 (am h22 h12)).bind fun v24 =>
obH (ev 84 #[v23,v24] (am h22 h12)) fun v25 h26 =>
obH (ap 49 (some 49) v21 v25 h26) fun v27 h28 =>
chk ((rb v0) ++ ((rb v2) ++ [])) (h22.mods ++ []) (
(fa 51 v0 0).bind fun v29 =>
(ld 49 v29 h28).bind fun v30 =>
(ln 49 v30 h28).bind fun v31 =>
lK c43_1 61 (up x [(2,v0),(3,v2),(4,v4),(5,v27),(10,v6),(11,v7),(12,v9),(13,v9),(14,v10),(15,v11),(16,v13),(17,v14),(20,v19),(21,v20),(22,v21),(23,v23),(24,v24),(25,v25),(26,v27),(27,v29),(28,v30),(29,v31),(30,(.int .i64 0))]) h28 (zCr 0 (sK c43_2 k)))) := by kernel_rfl
theorem c43_1_eq : cK c43_1 61 x h k =
(bn .lss 3 (x 30) (x 29)).bind fun v32 =>
cnd v32 (
(ia 49 (x 28) (x 30)).bind fun v33 =>
(ld 99 v33 h).bind fun v34 =>
obH (allocV Tryz.prog 99 h) fun v35 h36 =>
(sto 99 v35 v34 h36).bind fun h37 =>
(fa 51 (x 3) 0).bind fun v38 =>
(ld 49 v38 h37).bind fun v39 =>
(ld 99 v35 h37).bind fun v40 =>
obH (ev 77 #[v39,v40,(.func (.func 78) #[] #[])] h37) fun v41 h42 =>
(zDa v41 0).bind fun v43 =>
(zDa v41 1).bind fun v44 =>
cnd v44 (
(fa 99 v35 2).bind fun v45 =>
(ld 39 v45 h42).bind fun v46 =>
(fa 51 (x 3) 0).bind fun v47 =>
(ld 49 v47 h42).bind fun v48 =>
(ia 49 v48 v43).bind fun v49 =>
(fa 99 v49 2).bind fun v50 =>
(ld 39 v50 h42).bind fun v51 =>
(bn .and 39 v46 v51).bind fun v52 =>
(fa 99 v35 2).bind fun v53 =>
(sto 39 v53 v52 h42).bind fun h54 =>
(ld 99 v35 h54).bind fun v55 =>
obH (zBw Tryz.prog 49 1 #[(0, v55)] h54) fun v56 h57 =>
obH (ap 49 (some 49) (x 5) v56 h57) fun v58 h59 =>
(bn .add 3 (x 30) (.int .i64 1)).bind fun v60 =>
k .normal ⟨ar 61 (up x [(5,v58),(7,v35),(8,v43),(9,v44),(30,v60),(31,v32),(32,v33),(33,v34),(34,v41),(35,v38),(36,v39),(37,v40),(38,v41),(39,v43),(40,v44),(41,v44),(42,v45),(43,v46),(44,v47),(45,v48),(46,v43),(47,v49),(48,v50),(49,v51),(50,v52),(51,v53),(52,(x 5)),(53,v55),(54,v56),(55,v58),(56,v60)]), h59⟩) (
(bn .add 3 (x 30) (.int .i64 1)).bind fun v61 =>
k .normal ⟨ar 61 (up x [(7,v35),(8,v43),(9,v44),(30,v61),(31,v32),(32,v33),(33,v34),(34,v41),(35,v38),(36,v39),(37,v40),(38,v41),(39,v43),(40,v44),(41,v44),(56,v61)]), h42⟩)) (
k (.exit 0) ⟨ar 61 (up x [(31,v32)]), h⟩) := by kernel_rfl
theorem c43_2_eq : cK c43_2 61 x h k =
obH (ev 85 #[x 5,(.func (.func 78) #[] #[])] h) fun v62 h63 =>
(buildV Tryz.prog 51 #[(0, (x 5))]).bind fun v64 =>
(sto 51 (x 4) v64 h63).bind fun h65 =>
k .ret ⟨ar 61 (up x [(57,(x 5)),(58,v62),(59,(x 5)),(60,v64)]), h65⟩ := by kernel_rfl
theorem call43 (a0 a1 : Value) : evC Tryz.prog 43 #[a0,a1] h = cK c43_0 61 (up un [(0,a0),(1,a1)]) (nm h) (zCw Tryz.f43 Tryz.prog h) :=
  (zCa 43 Tryz.f43 c43_0 Tryz.func43 (by kernel_rfl) #[a0,a1] h).trans (by kernel_rfl)
theorem ret43 : zCw Tryz.f43 Tryz.prog g .ret ⟨ar 61 x, h⟩ = fin g (rvals ((ld 51 (x 4) h).bind fun r0 => some [r0])) h := by kernel_rfl
end Go.Am
namespace Go.Am
open Go.Proofs
set_option maxRecDepth 100000
variable {β : Type} (x : Nat → Value) (h : Heap) (k : Ex → St → Option β) (r m : List Nat) (g : Heap)
noncomputable def c37_0 : Code := zCe Tryz.f37 []
noncomputable def c37_1 : Code := zCe Tryz.f37 [true, true, true, false, true, false, false]
noncomputable def c37_2 : Code := zCe Tryz.f37 [true, true, true, true]
theorem c37_0_eq : cK c37_0 30 x h k =
obH (boxV Tryz.prog 51 (x 0) h) fun v0 h1 =>
obH (allocV Tryz.prog 51 h1) fun v2 h3 =>
(ld 51 v0 h3).bind fun v4 =>
obH (ev 75 #[v4] h3) fun v5 h6 =>
(sto 51 v0 v5 h6).bind fun h7 =>
(ld 51 v0 h7).bind fun v8 =>
obH (ev 69 #[v8] h7) fun v9 h10 =>
(unV Tryz.prog .not v9).bind fun v11 =>
cnd v11 (
(ld 51 v0 h10).bind fun v12 =>
(sto 51 v2 v12 h10).bind fun h13 =>
k .ret ⟨ar 30 (up x [(2,v0),(4,v2),(6,v4),(7,v5),(8,v8),(9,v9),(10,v11),(11,v12)]), h13⟩) (
(fa 51 v0 0).bind fun v14 =>
(ld 49 v14 h10).bind fun v15 =>
(ln 49 v15 h10).bind fun v16 =>
lK c37_1 30 (up x [(2,v0),(4,v2),(6,v4),(7,v5),(8,v8),(9,v9),(10,v11),(12,v14),(13,v15),(14,v16),(15,(.int .i64 0))]) h10 (zCr 0 (sK c37_2 k))) := by kernel_rfl
theorem c37_1_eq : cK c37_1 30 x h k =
(bn .lss 3 (x 15) (x 14)).bind fun v17 =>
cnd v17 (
(fa 51 (x 2) 0).bind fun v18 =>
(ld 49 v18 h).bind fun v19 =>
(ia 49 v19 (x 15)).bind fun v20 =>
(fa 99 v20 2).bind fun v21 =>
(ld 39 v21 h).bind fun v22 =>
(bn .andNot 39 v22 (x 1)).bind fun v23 =>
(ia 49 v19 (x 15)).bind fun v24 =>
(fa 99 v24 2).bind fun v25 =>
(sto 39 v25 v23 h).bind fun h26 =>
(bn .add 3 (x 15) (.int .i64 1)).bind fun v27 =>
k .normal ⟨ar 30 (up x [(5,(x 15)),(15,v27),(16,v17),(17,(x 15)),(18,v18),(19,v19),(20,(x 15)),(21,v20),(22,v21),(23,v22),(24,(x 1)),(25,v23),(26,v24),(27,v25),(28,v27)]), h26⟩) (
k (.exit 0) ⟨ar 30 (up x [(16,v17)]), h⟩) := by kernel_rfl
theorem c37_2_eq : cK c37_2 30 x h k =
(ld 51 (x 2) h).bind fun v28 =>
(sto 51 (x 4) v28 h).bind fun h29 =>
k .ret ⟨ar 30 (up x [(29,v28)]), h29⟩ := by kernel_rfl
theorem call37 (a0 a1 : Value) : evC Tryz.prog 37 #[a0,a1] h = cK c37_0 30 (up un [(0,a0),(1,a1)]) (nm h) (zCw Tryz.f37 Tryz.prog h) :=
  (zCa 37 Tryz.f37 c37_0 Tryz.func37 (by kernel_rfl) #[a0,a1] h).trans (by kernel_rfl)
theorem ret37 : zCw Tryz.f37 Tryz.prog g .ret ⟨ar 30 x, h⟩ = fin g (rvals ((ld 51 (x 4) h).bind fun r0 => some [r0])) h := by kernel_rfl
end Go.Am
namespace Go.Am
open Go.Proofs
set_option maxRecDepth 100000
variable {β : Type} (x : Nat → Value) (h : Heap) (k : Ex → St → Option β) (r m : List Nat) (g : Heap)
noncomputable def c35_0 : Code := zCe Tryz.f35 []
theorem c35_0_eq : cK c35_0 14 x h k =
obH (boxV Tryz.prog 51 (x 0) h) fun v0 h1 =>
obH (allocV Tryz.prog 51 h1) fun v2 h3 =>
(ld 51 v0 h3).bind fun v4 =>
obH (zBw Tryz.prog 68 1 #[(0, (x 2))] h3) fun v5 h6 =>
obH (ev 28 #[v5] (nm h6)) fun v7 h8 =>
(bn .andNot 39 (x 1) v7).bind fun v9 =>
obH (ev 37 #[v4,v9] (am h8 h6)) fun v10 h11 =>
(sto 51 v2 v10 h11).bind fun h12 =>
chk ((rb v0) ++ []) (h8.mods ++ []) (
k .ret ⟨ar 14 (up x [(3,v0),(6,v2),(7,v4),(8,(x 1)),(9,(x 2)),(10,v5),(11,v7),(12,v9),(13,v10)]), h12⟩) := by kernel_rfl
theorem call35 (a0 a1 a2 : Value) : evC Tryz.prog 35 #[a0,a1,a2] h = cK c35_0 14 (up un [(0,a0),(1,a1),(2,a2)]) (nm h) (zCw Tryz.f35 Tryz.prog h) :=
  (zCa 35 Tryz.f35 c35_0 Tryz.func35 (by kernel_rfl) #[a0,a1,a2] h).trans (by kernel_rfl)
theorem ret35 : zCw Tryz.f35 Tryz.prog g .ret ⟨ar 14 x, h⟩ = fin g (rvals ((ld 51 (x 6) h).bind fun r0 => some [r0])) h := by kernel_rfl
end Go.Am
namespace Go.Am
open Go.Proofs
set_option maxRecDepth 100000
variable {β : Type} (x : Nat → Value) (h : Heap) (k : Ex → St → Option β) (r m : List Nat) (g : Heap)
noncomputable def c28_0 : Code := zCe Tryz.f28 []
noncomputable def c28_1 : Code := zCe Tryz.f28 [true, true, false, true, false, false]
noncomputable def c28_2 : Code := zCe Tryz.f28 [true, true, true]
theorem c28_0_eq : cK c28_0 24 x h k =
(ln 68 (x 0) h).bind fun v0 =>
lK c28_1 24 (up x [(2,(.int .u64 0)),(3,(.int .u64 0)),(6,(x 0)),(7,v0),(8,(.int .i64 0))]) h (zCr 0 (sK c28_2 k)) := by kernel_rfl
theorem c28_1_eq : cK c28_1 24 x h k =
(bn .lss 3 (x 8) (x 7)).bind fun v1 =>
cnd v1 (
(ia 68 (x 6) (x 8)).bind fun v2 =>
(ld 3 v2 h).bind fun v3 =>
(bn .geq 3 v3 (.int .i64 0)).bind fun v4 =>
(gd (wt v4 true) (bn .lss 3 (gdV (wt v4 true) v3) (.int .i64 64))).bind fun v5 =>
(zDb v4 v5 (.bool false)).bind fun v6 =>
cnd v6 (
(bn .shl 39 (.int .u64 1) v3).bind fun v7 =>
(bn .or 39 (x 3) v7).bind fun v8 =>
(bn .add 3 (x 8) (.int .i64 1)).bind fun v9 =>
k .normal ⟨ar 24 (up x [(3,v8),(5,v3),(8,v9),(9,v1),(10,v2),(11,v3),(12,v3),(13,v4),(14,v4),(15,(gdV (wt v4 true) v3)),(16,v5),(17,v6),(18,(x 3)),(19,v3),(20,v7),(21,v8),(22,v9)]), h⟩) (
(bn .add 3 (x 8) (.int .i64 1)).bind fun v10 =>
k .normal ⟨ar 24 (up x [(5,v3),(8,v10),(9,v1),(10,v2),(11,v3),(12,v3),(13,v4),(14,v4),(15,(gdV (wt v4 true) v3)),(16,v5),(17,v6),(22,v10)]), h⟩)) (
k (.exit 0) ⟨ar 24 (up x [(9,v1)]), h⟩) := by kernel_rfl
theorem c28_2_eq : cK c28_2 24 x h k =
k .ret ⟨ar 24 (up x [(2,(x 3)),(23,(x 3))]), h⟩ := by kernel_rfl
theorem call28 (a0 : Value) : evC Tryz.prog 28 #[a0] h = cK c28_0 24 (up un [(0,a0)]) (nm h) (zCw Tryz.f28 Tryz.prog h) :=
  (zCa 28 Tryz.f28 c28_0 Tryz.func28 (by kernel_rfl) #[a0] h).trans (by kernel_rfl)
theorem ret28 : zCw Tryz.f28 Tryz.prog g .ret ⟨ar 24 x, h⟩ = fin g (some (x 2)) h := by kernel_rfl
end Go.Am
namespace Go.Am
open Go.Proofs
set_option maxRecDepth 100000
variable {β : Type} (x : Nat → Value) (h : Heap) (k : Ex → St → Option β) (r m : List Nat) (g : Heap)
noncomputable def c32_0 : Code := zCe Tryz.f32 []
noncomputable def c32_1 : Code := zCe Tryz.f32 [true, true, false, false, false]
noncomputable def c32_2 : Code := zCe Tryz.f32 [true, true, true]
theorem c32_0_eq : cK c32_0 16 x h k =
lK c32_1 16 (up x [(2,(.slice Option.none 0 0)),(3,(.slice Option.none 0 0))]) h (zCr 0 (sK c32_2 k)) := by kernel_rfl
theorem c32_1_eq : cK c32_1 16 x h k =
(bn .neq 39 (x 0) (.int .u64 0)).bind fun v0 =>
cnd v0 (
obH (ev 70 #[x 0] h) fun v1 h2 =>
obH (zBw Tryz.prog 68 1 #[(0, v1)] h2) fun v3 h4 =>
obH (ap 68 (some 68) (x 3) v3 h4) fun v5 h6 =>
(bn .sub 39 (x 0) (.int .u64 1)).bind fun v7 =>
(bn .and 39 (x 0) v7).bind fun v8 =>
k .normal ⟨ar 16 (up x [(0,v8),(3,v5),(4,(x 0)),(5,v0),(6,(x 3)),(7,(x 0)),(8,v1),(9,v3),(10,v5),(11,(x 0)),(12,(x 0)),(13,v7),(14,v8)]), h6⟩) (
k (.exit 0) ⟨ar 16 (up x [(4,(x 0)),(5,v0)]), h⟩) := by kernel_rfl
theorem c32_2_eq : cK c32_2 16 x h k =
k .ret ⟨ar 16 (up x [(2,(x 3)),(15,(x 3))]), h⟩ := by kernel_rfl
theorem call32 (a0 : Value) : evC Tryz.prog 32 #[a0] h = cK c32_0 16 (up un [(0,a0)]) (nm h) (zCw Tryz.f32 Tryz.prog h) :=
  (zCa 32 Tryz.f32 c32_0 Tryz.func32 (by kernel_rfl) #[a0] h).trans (by kernel_rfl)
theorem ret32 : zCw Tryz.f32 Tryz.prog g .ret ⟨ar 16 x, h⟩ = fin g (some (x 2)) h := by kernel_rfl
end Go.Am
namespace Go.Am
open Go.Proofs
set_option maxRecDepth 100000
variable {β : Type} (x : Nat → Value) (h : Heap) (k : Ex → St → Option β) (r m : List Nat) (g : Heap)
noncomputable def c34_0 : Code := zCe Tryz.f34 []
noncomputable def c34_1 : Code := zCe Tryz.f34 [true, true, true, true, false, true, false, false]
noncomputable def c34_2 : Code := zCe Tryz.f34 [true, true, true, true, true]
theorem c34_0_eq : cK c34_0 50 x h k =
obH (boxV Tryz.prog 51 (x 0) h) fun v0 h1 =>
obH (allocV Tryz.prog 51 h1) fun v2 h3 =>
(ld 51 v0 h3).bind fun v4 =>
obH (ev 75 #[v4] h3) fun v5 h6 =>
(sto 51 v0 v5 h6).bind fun h7 =>
(ld 51 v0 h7).bind fun v8 =>
obH (ev 69 #[v8] h7) fun v9 h10 =>
(unV Tryz.prog .not v9).bind fun v11 =>
cnd v11 (
(ld 51 v0 h10).bind fun v12 =>
(sto 51 v2 v12 h10).bind fun h13 =>
k .ret ⟨ar 50 (up x [(1,v0),(2,v2),(6,v4),(7,v5),(8,v8),(9,v9),(10,v11),(11,v12)]), h13⟩) (
(fa 51 v0 0).bind fun v14 =>
(ld 49 v14 h10).bind fun v15 =>
(ln 49 v15 h10).bind fun v16 =>
lK c34_1 50 (up x [(1,v0),(2,v2),(3,(.slice Option.none 0 0)),(6,v4),(7,v5),(8,v8),(9,v9),(10,v11),(12,v14),(13,v15),(14,v16),(15,(.int .i64 0))]) h10 (zCr 0 (sK c34_2 k))) := by kernel_rfl
theorem c34_1_eq : cK c34_1 50 x h k =
(bn .lss 3 (x 15) (x 14)).bind fun v17 =>
cnd v17 (
(ia 49 (x 13) (x 15)).bind fun v18 =>
(ld 99 v18 h).bind fun v19 =>
obH (allocV Tryz.prog 99 h) fun v20 h21 =>
(sto 99 v20 v19 h21).bind fun h22 =>
(fa 99 v20 2).bind fun v23 =>
(ld 39 v23 h22).bind fun v24 =>
(bn .neq 39 v24 (.int .u64 0)).bind fun v25 =>
(gd (wt v25 false) (fa 51 (x 1) 0)).bind fun v26 =>
(gd (wt v25 false) (ld 49 v26 h22)).bind fun v27 =>
(gd (wt v25 false) (ln 49 v27 h22)).bind fun v28 =>
(gd (wt v25 false) (bn .sub 3 v28 (.int .i64 1))).bind fun v29 =>
(gd (wt v25 false) (bn .eql 3 (gdV (wt v25 false) (x 15)) v29)).bind fun v30 =>
(zDb v25 (.bool true) v30).bind fun v31 =>
(gd (wt v31 false) (fa 51 (x 1) 0)).bind fun v32 =>
(gd (wt v31 false) (ld 49 v32 h22)).bind fun v33 =>
(gd (wt v31 false) (bn .add 3 (gdV (wt v31 false) (x 15)) (.int .i64 1))).bind fun v34 =>
(gd (wt v31 false) (ia 49 v33 v34)).bind fun v35 =>
(gd (wt v31 false) (fa 99 v35 0)).bind fun v36 =>
(gd (wt v31 false) (ld 3 v36 h22)).bind fun v37 =>
(gd (wt v31 false) (fa 99 v20 0)).bind fun v38 =>
(gd (wt v31 false) (ld 3 v38 h22)).bind fun v39 =>
(gd (wt v31 false) (bn .neq 3 v37 v39)).bind fun v40 =>
(zDb v31 (.bool true) v40).bind fun v41 =>
cnd v41 (
(ld 99 v20 h22).bind fun v42 =>
obH (zBw Tryz.prog 49 1 #[(0, v42)] h22) fun v43 h44 =>
obH (ap 49 (some 49) (x 3) v43 h44) fun v45 h46 =>
(bn .add 3 (x 15) (.int .i64 1)).bind fun v47 =>
k .normal ⟨ar 50 (up x [(3,v45),(4,(x 15)),(5,v20),(15,v47),(16,v17),(17,(x 15)),(18,v18),(19,v19),(20,v23),(21,v24),(22,v25),(23,v25),(24,(gdV (wt v25 false) (x 15))),(25,v26),(26,v27),(27,v28),(28,v29),(29,v30),(30,v31),(31,v31),(32,v32),(33,v33),(34,(gdV (wt v31 false) (x 15))),(35,v34),(36,v35),(37,v36),(38,v37),(39,v38),(40,v39),(41,v40),(42,v41),(43,(x 3)),(44,v42),(45,v43),(46,v45),(47,v47)]), h46⟩) (
(bn .add 3 (x 15) (.int .i64 1)).bind fun v48 =>
k .normal ⟨ar 50 (up x [(4,(x 15)),(5,v20),(15,v48),(16,v17),(17,(x 15)),(18,v18),(19,v19),(20,v23),(21,v24),(22,v25),(23,v25),(24,(gdV (wt v25 false) (x 15))),(25,v26),(26,v27),(27,v28),(28,v29),(29,v30),(30,v31),(31,v31),(32,v32),(33,v33),(34,(gdV (wt v31 false) (x 15))),(35,v34),(36,v35),(37,v36),(38,v37),(39,v38),(40,v39),(41,v40),(42,v41),(47,v48)]), h22⟩)) (
k (.exit 0) ⟨ar 50 (up x [(16,v17)]), h⟩) := by kernel_rfl
theorem c34_2_eq : cK c34_2 50 x h k =
(buildV Tryz.prog 51 #[(0, (x 3))]).bind fun v49 =>
(sto 51 (x 2) v49 h).bind fun h50 =>
k .ret ⟨ar 50 (up x [(48,(x 3)),(49,v49)]), h50⟩ := by kernel_rfl
theorem call34 (a0 : Value) : evC Tryz.prog 34 #[a0] h = cK c34_0 50 (up un [(0,a0)]) (nm h) (zCw Tryz.f34 Tryz.prog h) :=
  (zCa 34 Tryz.f34 c34_0 Tryz.func34 (by kernel_rfl) #[a0] h).trans (by kernel_rfl)
theorem ret34 : zCw Tryz.f34 Tryz.prog g .ret ⟨ar 50 x, h⟩ = fin g (rvals ((ld 51 (x 2) h).bind fun r0 => some [r0])) h := by kernel_rfl
end Go.Am
namespace Go.Am
open Go.Proofs
set_option maxRecDepth 100000
variable {β : Type} (x : Nat → Value) (h : Heap) (k : Ex → St → Option β) (r m : List Nat) (g : Heap)
noncomputable def c33_0 : Code := zCe Tryz.f33 []
noncomputable def c33_1 : Code := zCe Tryz.f33 [true, true, true, true, false, true, false, false]
noncomputable def c33_2 : Code := zCe Tryz.f33 [true, true, true, true, true]
theorem c33_0_eq : cK c33_0 39 x h k =
obH (boxV Tryz.prog 51 (x 0) h) fun v0 h1 =>
(ld 51 v0 h1).bind fun v2 =>
obH (ev 69 #[v2] h1) fun v3 h4 =>
(unV Tryz.prog .not v3).bind fun v5 =>
cnd v5 (
k .ret ⟨ar 39 (up x [(1,v0),(2,(.slice Option.none 0 0)),(6,v2),(7,v3),(8,v5)]), h4⟩) (
obH (ev 71 #[] h4) fun v6 h7 =>
(fa 51 v0 0).bind fun v8 =>
(ld 49 v8 h7).bind fun v9 =>
(ln 49 v9 h7).bind fun v10 =>
obH (cv 3 30 v10 h7) fun v11 h12 =>
obH (ev 72 #[v6,v11] h12) fun v13 h14 =>
(fa 51 v0 0).bind fun v15 =>
(ld 49 v15 h14).bind fun v16 =>
(ln 49 v16 h14).bind fun v17 =>
lK c33_1 39 (up x [(1,v0),(2,(.slice Option.none 0 0)),(3,v6),(6,v2),(7,v3),(8,v5),(9,v6),(10,v6),(11,v8),(12,v9),(13,v10),(14,v11),(15,v13),(16,v15),(17,v16),(18,v17),(19,(.int .i64 0))]) h14 (zCr 0 (sK c33_2 k))) := by kernel_rfl
theorem c33_1_eq : cK c33_1 39 x h k =
(bn .lss 3 (x 19) (x 18)).bind fun v18 =>
cnd v18 (
(ia 49 (x 17) (x 19)).bind fun v19 =>
(ld 99 v19 h).bind fun v20 =>
obH (allocV Tryz.prog 99 h) fun v21 h22 =>
(sto 99 v21 v20 h22).bind fun h23 =>
(fa 99 v21 0).bind fun v24 =>
(ld 3 v24 h23).bind fun v25 =>
obH (cv 3 30 v25 h23) fun v26 h27 =>
obH (ev 72 #[x 3,v26] h27) fun v28 h29 =>
(fa 99 v21 1).bind fun v30 =>
(ld 30 v30 h29).bind fun v31 =>
obH (ev 72 #[x 3,v31] h29) fun v32 h33 =>
(fa 99 v21 2).bind fun v34 =>
(ld 39 v34 h33).bind fun v35 =>
obH (ev 73 #[x 3,v35] h33) fun v36 h37 =>
(bn .add 3 (x 19) (.int .i64 1)).bind fun v38 =>
k .normal ⟨ar 39 (up x [(5,v21),(19,v38),(20,v18),(21,v19),(22,v20),(23,(x 3)),(24,v24),(25,v25),(26,v26),(27,v28),(28,(x 3)),(29,v30),(30,v31),(31,v32),(32,(x 3)),(33,v34),(34,v35),(35,v36),(36,v38)]), h37⟩) (
k (.exit 0) ⟨ar 39 (up x [(20,v18)]), h⟩) := by kernel_rfl
theorem c33_2_eq : cK c33_2 39 x h k =
obH (ev 74 #[x 3] h) fun v39 h40 =>
k .ret ⟨ar 39 (up x [(2,v39),(37,(x 3)),(38,v39)]), h40⟩ := by kernel_rfl
theorem call33 (a0 : Value) : evC Tryz.prog 33 #[a0] h = cK c33_0 39 (up un [(0,a0)]) (nm h) (zCw Tryz.f33 Tryz.prog h) :=
  (zCa 33 Tryz.f33 c33_0 Tryz.func33 (by kernel_rfl) #[a0] h).trans (by kernel_rfl)
theorem ret33 : zCw Tryz.f33 Tryz.prog g .ret ⟨ar 39 x, h⟩ = fin g (some (x 2)) h := by kernel_rfl
end Go.Am
namespace Go.Am
open Go.Proofs
set_option maxRecDepth 100000
variable {β : Type} (x : Nat → Value) (h : Heap) (k : Ex → St → Option β) (r m : List Nat) (g : Heap)
noncomputable def c29_0 : Code := zCe Tryz.f29 []
noncomputable def c29_1 : Code := zCe Tryz.f29 [true, true, true, false, true, false, false]
noncomputable def c29_2 : Code := zCe Tryz.f29 [true, true, true, true]
theorem c29_0_eq : cK c29_0 42 x h k =
obH (allocV Tryz.prog 51 h) fun v0 h1 =>
obH (ev 65 #[x 0] h1) fun v2 h3 =>
obH (allocV Tryz.prog 51 h3) fun v4 h5 =>
(ln 35 (x 0) h5).bind fun v6 =>
obH (cv 3 30 v6 h5) fun v7 h8 =>
obH (ev 66 #[v2,v7] h8) fun v9 h10 =>
lK c29_1 42 (up x [(2,v0),(3,(.bool false)),(4,v2),(5,v4),(6,v9),(7,(x 0)),(8,v2),(9,v2),(10,(x 0)),(11,v6),(12,v7),(13,v9)]) h10 (zCr 0 (sK c29_2 k)) := by kernel_rfl
theorem c29_1_eq : cK c29_1 42 x h k =
(bn .gtr 30 (x 6) (.int .u64 0)).bind fun v11 =>
cnd v11 (
(fa 51 (x 5) 0).bind fun v12 =>
(ld 49 v12 h).bind fun v13 =>
obH (ev 66 #[x 4,(.int .u64 16)] (nm h)) fun v14 h15 =>
obH (cv 30 3 v14 (am h15 h)) fun v16 h17 =>
obH (ev 66 #[x 4,(.int .u64 18446744073709551615)] (nm h17)) fun v18 h19 =>
obH (ev 31 #[(.int .i64 16)] (nm (am h19 h17))) fun v20 h21 =>
obH (ev 67 #[x 4,v20] (nm (am h21 (am h19 h17)))) fun v22 h23 =>
(buildV Tryz.prog 99 #[(0, v16), (1, v18), (2, v22)]).bind fun v24 =>
obH (zBw Tryz.prog 49 1 #[(0, v24)] (am h23 (am h21 (am h19 h17)))) fun v25 h26 =>
obH (ap 49 (some 49) v13 v25 h26) fun v27 h28 =>
(fa 51 (x 5) 0).bind fun v29 =>
(sto 49 v29 v27 h28).bind fun h30 =>
chk ((rb v12) ++ []) (h23.mods ++ (h21.mods ++ (h19.mods ++ (h15.mods ++ [])))) (
(bn .sub 30 (x 6) (.int .u64 1)).bind fun v31 =>
k .normal ⟨ar 42 (up x [(6,v31),(14,(x 6)),(15,v11),(16,(x 6)),(17,v31),(18,v12),(19,v13),(20,(x 4)),(21,v14),(22,v16),(23,(x 4)),(24,v18),(25,(x 4)),(26,v20),(27,v22),(28,v24),(29,v25),(30,v27),(31,v29)]), h30⟩)) (
k (.exit 0) ⟨ar 42 (up x [(14,(x 6)),(15,v11)]), h⟩) := by kernel_rfl
theorem c29_2_eq : cK c29_2 42 x h k =
obH (ev 68 #[x 4] h) fun v32 h33 =>
(unV Tryz.prog .not v32).bind fun v34 =>
(gd (wt v34 false) (ld 51 (x 5) h33)).bind fun v35 =>
obH (gdH (wt v34 false) h33 (ev 69 #[v35] h33)) fun v36 h37 =>
(gd (wt v34 false) (unV Tryz.prog .not v36)).bind fun v38 =>
(zDb v34 (.bool true) v38).bind fun v39 =>
cnd v39 (
(buildV Tryz.prog 51 #[]).bind fun v40 =>
(sto 51 (x 2) v40 h37).bind fun h41 =>
k .ret ⟨ar 42 (up x [(3,(.bool false)),(32,(x 4)),(33,v32),(34,v34),(35,v34),(36,v35),(37,v36),(38,v38),(39,v39),(40,v40)]), h41⟩) (
(ld 51 (x 5) h37).bind fun v42 =>
(sto 51 (x 2) v42 h37).bind fun h43 =>
k .ret ⟨ar 42 (up x [(3,(.bool true)),(32,(x 4)),(33,v32),(34,v34),(35,v34),(36,v35),(37,v36),(38,v38),(39,v39),(41,v42)]), h43⟩) := by kernel_rfl
theorem call29 (a0 : Value) : evC Tryz.prog 29 #[a0] h = cK c29_0 42 (up un [(0,a0)]) (nm h) (zCw Tryz.f29 Tryz.prog h) :=
  (zCa 29 Tryz.f29 c29_0 Tryz.func29 (by kernel_rfl) #[a0] h).trans (by kernel_rfl)
theorem ret29 : zCw Tryz.f29 Tryz.prog g .ret ⟨ar 42 x, h⟩ = fin g (rvals ((ld 51 (x 2) h).bind fun r0 => some [r0, (x 3)])) h := by kernel_rfl
end Go.Am
namespace Go.Am
open Go.Proofs
set_option maxRecDepth 100000
variable {β : Type} (x : Nat → Value) (h : Heap) (k : Ex → St → Option β) (r m : List Nat) (g : Heap)
noncomputable def c30_0 : Code := zCe Tryz.f30 []
theorem c30_0_eq : cK c30_0 7 x h k =
obH (builtinV Tryz.prog .max #[3, 3] #[x 0,(.int .i64 0)] h) fun v0 h1 =>
obH (builtinV Tryz.prog .min #[3, 3] #[v0,(.int .i64 64)] h1) fun v2 h3 =>
obH (makeSliceV Tryz.prog 45 v2 v2 h3) fun v4 h5 =>
k .ret ⟨ar 7 (up x [(2,v4),(3,(x 0)),(4,v0),(5,v2),(6,v4)]), h5⟩ := by kernel_rfl
theorem call30 (a0 : Value) : evC Tryz.prog 30 #[a0] h = cK c30_0 7 (up un [(0,a0)]) (nm h) (zCw Tryz.f30 Tryz.prog h) :=
  (zCa 30 Tryz.f30 c30_0 Tryz.func30 (by kernel_rfl) #[a0] h).trans (by kernel_rfl)
theorem ret30 : zCw Tryz.f30 Tryz.prog g .ret ⟨ar 7 x, h⟩ = fin g (some (x 2)) h := by kernel_rfl
end Go.Am
namespace Go.Am
open Go.Proofs
set_option maxRecDepth 100000
variable {β : Type} (x : Nat → Value) (h : Heap) (k : Ex → St → Option β) (r m : List Nat) (g : Heap)
noncomputable def c49_0 : Code := zCe Tryz.f49 []
theorem c49_0_eq : cK c49_0 17 x h k =
(bn .lss 3 (x 1) (.int .i64 0)).bind fun v0 =>
(gd (wt v0 false) (ln 45 (gdV (wt v0 false) (x 0)) h)).bind fun v1 =>
(gd (wt v0 false) (bn .geq 3 (gdV (wt v0 false) (x 1)) v1)).bind fun v2 =>
(zDb v0 (.bool true) v2).bind fun v3 =>
cnd v3 (
k .ret ⟨ar 17 (up x [(4,(.int .u64 0)),(5,(x 1)),(6,v0),(7,v0),(8,(gdV (wt v0 false) (x 1))),(9,(gdV (wt v0 false) (x 0))),(10,v1),(11,v2),(12,v3)]), h⟩) (
(ia 45 (x 0) (x 1)).bind fun v4 =>
(ld 30 v4 h).bind fun v5 =>
k .ret ⟨ar 17 (up x [(4,v5),(5,(x 1)),(6,v0),(7,v0),(8,(gdV (wt v0 false) (x 1))),(9,(gdV (wt v0 false) (x 0))),(10,v1),(11,v2),(12,v3),(13,(x 0)),(14,(x 1)),(15,v4),(16,v5)]), h⟩) := by kernel_rfl
theorem call49 (a0 a1 : Value) : evC Tryz.prog 49 #[a0,a1] h = cK c49_0 17 (up un [(0,a0),(1,a1)]) (nm h) (zCw Tryz.f49 Tryz.prog h) :=
  (zCa 49 Tryz.f49 c49_0 Tryz.func49 (by kernel_rfl) #[a0,a1] h).trans (by kernel_rfl)
theorem ret49 : zCw Tryz.f49 Tryz.prog g .ret ⟨ar 17 x, h⟩ = fin g (some (x 4)) h := by kernel_rfl
end Go.Am
namespace Go.Am
open Go.Proofs
set_option maxRecDepth 100000
variable {β : Type} (x : Nat → Value) (h : Heap) (k : Ex → St → Option β) (r m : List Nat) (g : Heap)
noncomputable def c6_0 : Code := zCe Tryz.f6 []
theorem c6_0_eq : cK c6_0 27 x h k =
(bn .lss 3 (x 0) (.int .i64 1)).bind fun v0 =>
(gd (wt v0 false) (bn .gtr 3 (gdV (wt v0 false) (x 0)) (.int .i64 16))).bind fun v1 =>
(zDb v0 (.bool true) v1).bind fun v2 =>
(gd (wt v2 false) (bn .lss 3 (gdV (wt v2 false) (x 1)) (.int .i64 0))).bind fun v3 =>
(zDb v2 (.bool true) v3).bind fun v4 =>
(gd (wt v4 false) (bn .geq 3 (gdV (wt v4 false) (x 1)) (gdV (wt v4 false) (x 0)))).bind fun v5 =>
(zDb v4 (.bool true) v5).bind fun v6 =>
cnd v6 (
k .ret ⟨ar 27 (up x [(4,(.pointer Option.none)),(5,(.int .i64 1)),(6,(x 0)),(7,v0),(8,v0),(9,(gdV (wt v0 false) (x 0))),(10,v1),(11,v2),(12,v2),(13,(gdV (wt v2 false) (x 1))),(14,v3),(15,v4),(16,v4),(17,(gdV (wt v4 false) (x 1))),(18,(gdV (wt v4 false) (x 0))),(19,v5),(20,v6)]), h⟩) (
obH (ev 30 #[x 0] h) fun v7 h8 =>
(buildV Tryz.prog 90 #[(0, (x 0)), (1, (x 1)), (4, v7)]).bind fun v9 =>
obH (boxV Tryz.prog 90 v9 h8) fun v10 h11 =>
k .ret ⟨ar 27 (up x [(4,v10),(5,(.int .i64 0)),(6,(x 0)),(7,v0),(8,v0),(9,(gdV (wt v0 false) (x 0))),(10,v1),(11,v2),(12,v2),(13,(gdV (wt v2 false) (x 1))),(14,v3),(15,v4),(16,v4),(17,(gdV (wt v4 false) (x 1))),(18,(gdV (wt v4 false) (x 0))),(19,v5),(20,v6),(21,(x 0)),(22,(x 1)),(23,(x 0)),(24,v7),(25,v9),(26,v10)]), h11⟩) := by kernel_rfl
theorem call6 (a0 a1 : Value) : evC Tryz.prog 6 #[a0,a1] h = cK c6_0 27 (up un [(0,a0),(1,a1)]) (nm h) (zCw Tryz.f6 Tryz.prog h) :=
  (zCa 6 Tryz.f6 c6_0 Tryz.func6 (by kernel_rfl) #[a0,a1] h).trans (by kernel_rfl)
theorem ret6 : zCw Tryz.f6 Tryz.prog g .ret ⟨ar 27 x, h⟩ = fin g (some (.tuple #[x 4, (x 5)])) h := by kernel_rfl
end Go.Am
namespace Go.Am
open Go.Proofs
set_option maxRecDepth 100000
variable {β : Type} (x : Nat → Value) (h : Heap) (k : Ex → St → Option β) (r m : List Nat) (g : Heap)
noncomputable def c11_0 : Code := zCe Tryz.f11 []
theorem c11_0_eq : cK c11_0 47 x h k =
obH (boxV Tryz.prog 24 (x 0) h) fun v0 h1 =>
obH (ev 29 #[x 3] h1) fun v2 h3 =>
(zDa v2 0).bind fun v4 =>
(zDa v2 1).bind fun v5 =>
obH (allocV Tryz.prog 51 h3) fun v6 h7 =>
(sto 51 v6 v4 h7).bind fun h8 =>
(unV Tryz.prog .not v5).bind fun v9 =>
(gd (wt v9 false) (bn .lss 3 (gdV (wt v9 false) (x 1)) (.int .i64 0))).bind fun v10 =>
(zDb v9 (.bool true) v10).bind fun v11 =>
(gd (wt v11 false) (ld 24 v0 h8)).bind fun v12 =>
(gd (wt v11 false) (zBy Tryz.prog v12)).bind fun v13 =>
(gd (wt v11 false) (fa 90 v13 0)).bind fun v14 =>
(gd (wt v11 false) (ld 3 v14 h8)).bind fun v15 =>
(gd (wt v11 false) (bn .geq 3 (gdV (wt v11 false) (x 1)) v15)).bind fun v16 =>
(zDb v11 (.bool true) v16).bind fun v17 =>
(gd (wt v17 false) (ld 24 v0 h8)).bind fun v18 =>
(gd (wt v17 false) (zBy Tryz.prog v18)).bind fun v19 =>
(gd (wt v17 false) (fa 90 v19 1)).bind fun v20 =>
(gd (wt v17 false) (ld 3 v20 h8)).bind fun v21 =>
(gd (wt v17 false) (bn .eql 3 (gdV (wt v17 false) (x 1)) v21)).bind fun v22 =>
(zDb v17 (.bool true) v22).bind fun v23 =>
(gd (wt v23 false) (bn .lss 30 (gdV (wt v23 false) (x 2)) (.int .u64 1))).bind fun v24 =>
(zDb v23 (.bool true) v24).bind fun v25 =>
cnd v25 (
k .ret ⟨ar 47 (up x [(4,v0),(8,(.bool false)),(9,v6),(10,v5),(11,v2),(12,(x 3)),(13,v2),(14,v4),(15,v5),(16,v5),(17,v9),(18,v9),(19,(gdV (wt v9 false) (x 1))),(20,v10),(21,v11),(22,v11),(23,(gdV (wt v11 false) (x 1))),(24,v12),(25,v13),(26,v14),(27,v15),(28,v16),(29,v17),(30,v17),(31,(gdV (wt v17 false) (x 1))),(32,v18),(33,v19),(34,v20),(35,v21),(36,v22),(37,v23),(38,v23),(39,(gdV (wt v23 false) (x 2))),(40,v24),(41,v25)]), h8⟩) (
(fa 51 v6 0).bind fun v26 =>
(ld 49 v26 h8).bind fun v27 =>
obH (ev 46 #[v27,(.func (Go.Fn.func 47) #[] #[v0])] h8) fun v28 h29 =>
(unV Tryz.prog .not v28).bind fun v30 =>
k .ret ⟨ar 47 (up x [(4,v0),(8,v30),(9,v6),(10,v5),(11,v2),(12,(x 3)),(13,v2),(14,v4),(15,v5),(16,v5),(17,v9),(18,v9),(19,(gdV (wt v9 false) (x 1))),(20,v10),(21,v11),(22,v11),(23,(gdV (wt v11 false) (x 1))),(24,v12),(25,v13),(26,v14),(27,v15),(28,v16),(29,v17),(30,v17),(31,(gdV (wt v17 false) (x 1))),(32,v18),(33,v19),(34,v20),(35,v21),(36,v22),(37,v23),(38,v23),(39,(gdV (wt v23 false) (x 2))),(40,v24),(41,v25),(42,v26),(43,v27),(44,(.func (Go.Fn.func 47) #[] #[v0])),(45,v28),(46,v30)]), h29⟩) := by kernel_rfl
theorem call11 (a0 a1 a2 a3 : Value) : evC Tryz.prog 11 #[a0,a1,a2,a3] h = cK c11_0 47 (up un [(0,a0),(1,a1),(2,a2),(3,a3)]) (nm h) (zCw Tryz.f11 Tryz.prog h) :=
  (zCa 11 Tryz.f11 c11_0 Tryz.func11 (by kernel_rfl) #[a0,a1,a2,a3] h).trans (by kernel_rfl)
theorem ret11 : zCw Tryz.f11 Tryz.prog g .ret ⟨ar 47 x, h⟩ = fin g (some (x 8)) h := by kernel_rfl
end Go.Am
namespace Go.Am
open Go.Proofs
set_option maxRecDepth 100000
variable {β : Type} (x : Nat → Value) (h : Heap) (k : Ex → St → Option β) (r m : List Nat) (g : Heap)
noncomputable def c47_0 : Code := zCe Tryz.f47 []
noncomputable def c47_1 : Code := zCe Tryz.f47 [false]
noncomputable def c47_2 : Code := zCe Tryz.f47 [true]
noncomputable def zCz : Array Oper := opsC (zCe Tryz.f47 [true, false])
noncomputable def c47_3 : Code := zCe Tryz.f47 [true, false]
noncomputable def c47_4 : Code := zCe Tryz.f47 [true, true]
theorem c47_0_eq : cK c47_0 32 x h k =
cK c47_1 32 x h (sK c47_2 k) := codeK_seq _ _ _ _ _ (by kernel_rfl) _ _
theorem c47_1_eq : cK c47_1 32 x h k =
obH (boxV Tryz.prog 99 (x 0) h) fun v0 h1 =>
k .normal ⟨ar 32 (up x [(2,v0),(3,(.bool false))]), h1⟩ := by kernel_rfl
theorem c47_2_eq : cK c47_2 32 x h k =
cK c47_3 32 x h (sK c47_4 k) := codeK_seq _ _ _ _ _ (by kernel_rfl) _ _
theorem d47_0_0 (k : St → Option β) : rD zCz 0 32 x h r m k =
(fa 99 (x 2) 2).bind fun v2 =>
rD zCz 1 32 (up x [(4,v2)]) h r m k := (zBx _ _ zCz 0 (by kernel_rfl) _ _ _ _).trans (by kernel_rfl)
theorem d47_0_1 (k : St → Option β) : rD zCz 1 32 x h r m k =
(ld 39 (x 4) h).bind fun v3 =>
rD zCz 2 32 (up x [(5,v3)]) h r m k := (zBx _ _ zCz 1 (by kernel_rfl) _ _ _ _).trans (by kernel_rfl)
theorem d47_0_2 (k : St → Option β) : rD zCz 2 32 x h r m k =
(ld 24 (x 1) h).bind fun v4 =>
rD zCz 3 32 (up x [(6,v4)]) h r m k := (zBx _ _ zCz 2 (by kernel_rfl) _ _ _ _).trans (by kernel_rfl)
theorem d47_0_3 (k : St → Option β) : rD zCz 3 32 x h r m k =
(zBy Tryz.prog (x 6)).bind fun v5 =>
rD zCz 4 32 (up x [(7,v5)]) h r m k := (zBx _ _ zCz 3 (by kernel_rfl) _ _ _ _).trans (by kernel_rfl)
theorem d47_0_4 (k : St → Option β) : rD zCz 4 32 x h r m k =
(fa 90 (x 7) 1).bind fun v6 =>
rD zCz 5 32 (up x [(8,v6)]) h r m k := (zBx _ _ zCz 4 (by kernel_rfl) _ _ _ _).trans (by kernel_rfl)
theorem d47_0_5 (k : St → Option β) : rD zCz 5 32 x h r m k =
(ld 3 (x 8) h).bind fun v7 =>
rD zCz 6 32 (up x [(9,v7)]) h r m k := (zBx _ _ zCz 5 (by kernel_rfl) _ _ _ _).trans (by kernel_rfl)
theorem d47_0_6 (k : St → Option β) : rD zCz 6 32 x h r m k =
obH (ev 48 #[x 5,x 9] h) fun v8 h9 =>
rD zCz 7 32 (up x [(10,v8)]) h9 r m k := (zBx _ _ zCz 6 (by kernel_rfl) _ _ _ _).trans (by kernel_rfl)
theorem d47_0_7 (k : St → Option β) : rD zCz 7 32 x h r m k =
rD zCz 8 32 (up x [(11,(x 10))]) h r m k := zDf _ _ zCz 7 (by kernel_rfl) (by kernel_rfl) (by kernel_rfl) _ _ _ _ _ _ (by kernel_rfl) (by kernel_rfl)
theorem d47_0_8 (k : St → Option β) : rD zCz 8 32 x h r m k =
(gd (wt (x 11) true) (fa 99 (x 2) 0)).bind fun v10 =>
rD zCz 9 32 (up x [(12,v10)]) h r m k := (zBx _ _ zCz 8 (by kernel_rfl) _ _ _ _).trans (by kernel_rfl)
theorem d47_0_9 (k : St → Option β) : rD zCz 9 32 x h r m k =
(gd (wt (x 11) true) (ld 3 (x 12) h)).bind fun v11 =>
rD zCz 10 32 (up x [(13,v11)]) h r m k := (zBx _ _ zCz 9 (by kernel_rfl) _ _ _ _).trans (by kernel_rfl)
theorem d47_0_10 (k : St → Option β) : rD zCz 10 32 x h r m k =
(gd (wt (x 11) true) (ld 24 (x 1) h)).bind fun v12 =>
rD zCz 11 32 (up x [(14,v12)]) h r m k := (zBx _ _ zCz 10 (by kernel_rfl) _ _ _ _).trans (by kernel_rfl)
theorem d47_0_11 (k : St → Option β) : rD zCz 11 32 x h r m k =
(gd (wt (x 11) true) (zBy Tryz.prog (x 14))).bind fun v13 =>
rD zCz 12 32 (up x [(15,v13)]) h r m k := (zBx _ _ zCz 11 (by kernel_rfl) _ _ _ _).trans (by kernel_rfl)
theorem d47_0_12 (k : St → Option β) : rD zCz 12 32 x h r m k =
(gd (wt (x 11) true) (fa 90 (x 15) 1)).bind fun v14 =>
rD zCz 13 32 (up x [(16,v14)]) h r m k := (zBx _ _ zCz 12 (by kernel_rfl) _ _ _ _).trans (by kernel_rfl)
theorem d47_0_13 (k : St → Option β) : rD zCz 13 32 x h r m k =
(gd (wt (x 11) true) (ld 3 (x 16) h)).bind fun v15 =>
rD zCz 14 32 (up x [(17,v15)]) h r m k := (zBx _ _ zCz 13 (by kernel_rfl) _ _ _ _).trans (by kernel_rfl)
theorem d47_0_14 (k : St → Option β) : rD zCz 14 32 x h r m k =
(gd (wt (x 11) true) (bn .neq 3 (x 13) (x 17))).bind fun v16 =>
rD zCz 15 32 (up x [(18,v16)]) h r m k := (zBx _ _ zCz 14 (by kernel_rfl) _ _ _ _).trans (by kernel_rfl)
theorem d47_0_15 (k : St → Option β) : rD zCz 15 32 x h r m k =
(zDb (x 11) (x 18) (.bool false)).bind fun v17 =>
rD zCz 16 32 (up x [(19,v17)]) h r m k := (zBx _ _ zCz 15 (by kernel_rfl) _ _ _ _).trans (by kernel_rfl)
theorem d47_0_16 (k : St → Option β) : rD zCz 16 32 x h r m k =
rD zCz 17 32 (up x [(20,(x 19))]) h r m k := zDf _ _ zCz 16 (by kernel_rfl) (by kernel_rfl) (by kernel_rfl) _ _ _ _ _ _ (by kernel_rfl) (by kernel_rfl)
theorem d47_0_17 (k : St → Option β) : rD zCz 17 32 x h r m k =
(gd (wt (x 20) true) (ld 24 (x 1) h)).bind fun v18 =>
rD zCz 18 32 (up x [(21,v18)]) h r m k := (zBx _ _ zCz 17 (by kernel_rfl) _ _ _ _).trans (by kernel_rfl)
theorem d47_0_18 (k : St → Option β) : rD zCz 18 32 x h r m k =
(gd (wt (x 20) true) (zBy Tryz.prog (x 21))).bind fun v19 =>
rD zCz 19 32 (up x [(22,v19)]) h r m k := (zBx _ _ zCz 18 (by kernel_rfl) _ _ _ _).trans (by kernel_rfl)
theorem d47_0_19 (k : St → Option β) : rD zCz 19 32 x h r m k =
(gd (wt (x 20) true) (fa 90 (x 22) 4)).bind fun v20 =>
rD zCz 20 32 (up x [(23,v20)]) h r m k := (zBx _ _ zCz 19 (by kernel_rfl) _ _ _ _).trans (by kernel_rfl)
theorem d47_0_20 (k : St → Option β) : rD zCz 20 32 x h r m k =
(gd (wt (x 20) true) (ld 45 (x 23) h)).bind fun v21 =>
rD zCz 21 32 (up x [(24,v21)]) h r m k := (zBx _ _ zCz 20 (by kernel_rfl) _ _ _ _).trans (by kernel_rfl)
theorem d47_0_21 (k : St → Option β) : rD zCz 21 32 x h r m k =
(gd (wt (x 20) true) (fa 99 (x 2) 0)).bind fun v22 =>
rD zCz 22 32 (up x [(25,v22)]) h r m k := (zBx _ _ zCz 21 (by kernel_rfl) _ _ _ _).trans (by kernel_rfl)
theorem d47_0_22 (k : St → Option β) : rD zCz 22 32 x h r m k =
(gd (wt (x 20) true) (ld 3 (x 25) h)).bind fun v23 =>
rD zCz 23 32 (up x [(26,v23)]) h r m k := (zBx _ _ zCz 22 (by kernel_rfl) _ _ _ _).trans (by kernel_rfl)
theorem d47_0_23 (k : St → Option β) : rD zCz 23 32 x h r m k =
obH (gdH (wt (x 20) true) (nm h) (ev 49 #[x 24,x 26] (nm h))) fun v24 h25 =>
rD zCz 24 32 (up x [(27,v24)]) (am h25 h) r (h25.mods ++ m) k := (zBx _ _ zCz 23 (by kernel_rfl) _ _ _ _).trans (by kernel_rfl)
theorem d47_0_24 (k : St → Option β) : rD zCz 24 32 x h r m k =
(gd (wt (x 20) true) (fa 99 (x 2) 1)).bind fun v26 =>
rD zCz 25 32 (up x [(28,v26)]) h r m k := (zBx _ _ zCz 24 (by kernel_rfl) _ _ _ _).trans (by kernel_rfl)
theorem d47_0_25 (k : St → Option β) : rD zCz 25 32 x h r m k =
(gd (wt (x 20) true) (ld 30 (x 28) h)).bind fun v27 =>
rD zCz 26 32 (up x [(29,v27)]) h (rdL (wt (x 20) true) (rb (x 28)) ++ r) m k := (zBx _ _ zCz 25 (by kernel_rfl) _ _ _ _).trans (by kernel_rfl)
theorem d47_0_26 (k : St → Option β) : rD zCz 26 32 x h r m k =
(gd (wt (x 20) true) (bn .lss 30 (x 27) (x 29))).bind fun v28 =>
rD zCz 27 32 (up x [(30,v28)]) h r m k := (zBx _ _ zCz 26 (by kernel_rfl) _ _ _ _).trans (by kernel_rfl)
theorem d47_0_27 (k : St → Option β) : rD zCz 27 32 x h r m k =
(zDb (x 20) (x 30) (.bool false)).bind fun v29 =>
rD zCz 28 32 (up x [(31,v29)]) h r m k := (zBx _ _ zCz 27 (by kernel_rfl) _ _ _ _).trans (by kernel_rfl)
theorem d47_0_28 (k : St → Option β) : rD zCz 28 32 x h r m k =
rD zCz 29 32 (up x [(3,(x 31))]) h r m k := zDf _ _ zCz 28 (by kernel_rfl) (by kernel_rfl) (by kernel_rfl) _ _ _ _ _ _ (by kernel_rfl) (by kernel_rfl)
theorem d47_0_29 (k : St → Option β) : rD zCz 29 32 x h r m k =
chk r m (k ⟨ar 32 x, h⟩) := by kernel_rfl
theorem c47_3_eq : cK c47_3 32 x h k =
rD zCz 0 32 x h [] [] (fun s => k .normal s) := by kernel_rfl
theorem c47_4_eq : cK c47_4 32 x h k =
k .ret ⟨ar 32 x, h⟩ := by kernel_rfl
theorem ret47 : zCw Tryz.f47 Tryz.prog g .ret ⟨ar 32 x, h⟩ = fin g (some (x 3)) h := by kernel_rfl
end Go.Am
namespace Go.Am
open Go.Proofs
set_option maxRecDepth 100000
variable {β : Type} (x : Nat → Value) (h : Heap) (k : Ex → St → Option β) (r m : List Nat) (g : Heap)
noncomputable def c46_0 : Code := zCe Tryz.f46 []
theorem c46_0_eq : cK c46_0 9 x h k =
obH (ev 89 #[x 0,x 1] h) fun v0 h1 =>
(bn .geq 3 v0 (.int .i64 0)).bind fun v2 =>
k .ret ⟨ar 9 (up x [(4,v2),(5,(x 0)),(6,(x 1)),(7,v0),(8,v2)]), h1⟩ := by kernel_rfl
theorem call46 (a0 a1 : Value) : evC Tryz.prog 46 #[a0,a1] h = cK c46_0 9 (up un [(0,a0),(1,a1)]) (nm h) (zCw Tryz.f46 Tryz.prog h) :=
  (zCa 46 Tryz.f46 c46_0 Tryz.func46 (by kernel_rfl) #[a0,a1] h).trans (by kernel_rfl)
theorem ret46 : zCw Tryz.f46 Tryz.prog g .ret ⟨ar 9 x, h⟩ = fin g (some (x 4)) h := by kernel_rfl
end Go.Am
namespace Go.Am
open Go.Proofs
set_option maxRecDepth 100000
variable {β : Type} (x : Nat → Value) (h : Heap) (k : Ex → St → Option β) (r m : List Nat) (g : Heap)
noncomputable def c89_0 : Code := zCe Tryz.f89 []
noncomputable def c89_1 : Code := zCe Tryz.f89 [true, false, true, false, false]
noncomputable def c89_2 : Code := zCe Tryz.f89 [true, true]
theorem c89_0_eq : cK c89_0 19 x h k =
(ln 49 (x 0) h).bind fun v0 =>
lK c89_1 19 (up x [(4,(.int .i64 0)),(6,(x 0)),(7,v0),(8,(.int .i64 0))]) h (zCr 0 (sK c89_2 k)) := by kernel_rfl
theorem c89_1_eq : cK c89_1 19 x h k =
(bn .lss 3 (x 8) (x 7)).bind fun v1 =>
cnd v1 (
(ia 49 (x 0) (x 8)).bind fun v2 =>
(ld 99 v2 h).bind fun v3 =>
obH (callV Tryz.prog (evC Tryz.prog) (x 1) #[v3] h) fun v4 h5 =>
cnd v4 (
k .ret ⟨ar 19 (up x [(4,(x 8)),(5,(x 8)),(9,v1),(10,(x 8)),(11,(x 1)),(12,(x 0)),(13,(x 8)),(14,v2),(15,v3),(16,v4),(17,(x 8))]), h5⟩) (
(bn .add 3 (x 8) (.int .i64 1)).bind fun v6 =>
k .normal ⟨ar 19 (up x [(5,(x 8)),(8,v6),(9,v1),(10,(x 8)),(11,(x 1)),(12,(x 0)),(13,(x 8)),(14,v2),(15,v3),(16,v4),(18,v6)]), h5⟩)) (
k (.exit 0) ⟨ar 19 (up x [(9,v1)]), h⟩) := by kernel_rfl
theorem c89_2_eq : cK c89_2 19 x h k =
k .ret ⟨ar 19 (up x [(4,(.int .i64 (-1)))]), h⟩ := by kernel_rfl
theorem call89 (a0 a1 : Value) : evC Tryz.prog 89 #[a0,a1] h = cK c89_0 19 (up un [(0,a0),(1,a1)]) (nm h) (zCw Tryz.f89 Tryz.prog h) :=
  (zCa 89 Tryz.f89 c89_0 Tryz.func89 (by kernel_rfl) #[a0,a1] h).trans (by kernel_rfl)
theorem ret89 : zCw Tryz.f89 Tryz.prog g .ret ⟨ar 19 x, h⟩ = fin g (some (x 4)) h := by kernel_rfl
end Go.Am
namespace Go.Am
open Go.Proofs
set_option maxRecDepth 100000
variable {β : Type} (x : Nat → Value) (h : Heap) (k : Ex → St → Option β) (r m : List Nat) (g : Heap)
noncomputable def c17_0 : Code := zCe Tryz.f17 []
theorem c17_0_eq : cK c17_0 10 x h k =
obH (allocV Tryz.prog 51 h) fun v0 h1 =>
(zBy Tryz.prog (x 0)).bind fun v2 =>
(fa 90 v2 2).bind fun v3 =>
(fa 51 v3 0).bind fun v4 =>
(ld 49 v4 h1).bind fun v5 =>
obH (ev 53 #[v5] h1) fun v6 h7 =>
(buildV Tryz.prog 51 #[(0, v6)]).bind fun v8 =>
(sto 51 v0 v8 h7).bind fun h9 =>
k .ret ⟨ar 10 (up x [(2,v0),(3,(x 0)),(4,v2),(5,v3),(6,v4),(7,v5),(8,v6),(9,v8)]), h9⟩ := by kernel_rfl
theorem call17 (a0 : Value) : evC Tryz.prog 17 #[a0] h = cK c17_0 10 (up un [(0,a0)]) (nm h) (zCw Tryz.f17 Tryz.prog h) :=
  (zCa 17 Tryz.f17 c17_0 Tryz.func17 (by kernel_rfl) #[a0] h).trans (by kernel_rfl)
theorem ret17 : zCw Tryz.f17 Tryz.prog g .ret ⟨ar 10 x, h⟩ = fin g (rvals ((ld 51 (x 2) h).bind fun r0 => some [r0])) h := by kernel_rfl
end Go.Am
namespace Go.Am
open Go.Proofs
set_option maxRecDepth 100000
variable {β : Type} (x : Nat → Value) (h : Heap) (k : Ex → St → Option β) (r m : List Nat) (g : Heap)
noncomputable def c14_0 : Code := zCe Tryz.f14 []
theorem c14_0_eq : cK c14_0 8 x h k =
(zBy Tryz.prog (x 0)).bind fun v0 =>
(fa 90 v0 4).bind fun v1 =>
(ld 45 v1 h).bind fun v2 =>
obH (ev 52 #[v2] h) fun v3 h4 =>
k .ret ⟨ar 8 (up x [(2,v3),(3,(x 0)),(4,v0),(5,v1),(6,v2),(7,v3)]), h4⟩ := by kernel_rfl
theorem call14 (a0 : Value) : evC Tryz.prog 14 #[a0] h = cK c14_0 8 (up un [(0,a0)]) (nm h) (zCw Tryz.f14 Tryz.prog h) :=
  (zCa 14 Tryz.f14 c14_0 Tryz.func14 (by kernel_rfl) #[a0] h).trans (by kernel_rfl)
theorem ret14 : zCw Tryz.f14 Tryz.prog g .ret ⟨ar 8 x, h⟩ = fin g (some (x 2)) h := by kernel_rfl
end Go.Am
namespace Go.Am
open Go.Proofs
set_option maxRecDepth 100000
variable {β : Type} (x : Nat → Value) (h : Heap) (k : Ex → St → Option β) (r m : List Nat) (g : Heap)
noncomputable def c52_0 : Code := zCe Tryz.f52 []
theorem c52_0_eq : cK c52_0 8 x h k =
(bn .eql 45 (x 0) (.slice Option.none 0 0)).bind fun v0 =>
cnd v0 (
k .ret ⟨ar 8 (up x [(2,(.slice Option.none 0 0)),(3,(x 0)),(4,v0)]), h⟩) (
obH (zBw Tryz.prog 45 0 #[] h) fun v1 h2 =>
obH (ap 45 (some 45) v1 (x 0) h2) fun v3 h4 =>
k .ret ⟨ar 8 (up x [(2,v3),(3,(x 0)),(4,v0),(5,v1),(6,(x 0)),(7,v3)]), h4⟩) := by kernel_rfl
theorem call52 (a0 : Value) : evC Tryz.prog 52 #[a0] h = cK c52_0 8 (up un [(0,a0)]) (nm h) (zCw Tryz.f52 Tryz.prog h) :=
  (zCa 52 Tryz.f52 c52_0 Tryz.func52 (by kernel_rfl) #[a0] h).trans (by kernel_rfl)
theorem ret52 : zCw Tryz.f52 Tryz.prog g .ret ⟨ar 8 x, h⟩ = fin g (some (x 2)) h := by kernel_rfl
end Go.Am
namespace Go.Am
open Go.Proofs
set_option maxRecDepth 100000
variable {β : Type} (x : Nat → Value) (h : Heap) (k : Ex → St → Option β) (r m : List Nat) (g : Heap)
noncomputable def c7_0 : Code := zCe Tryz.f7 []
noncomputable def c7_1 : Code := zCe Tryz.f7 [true, true, true, true, false, true, false, false]
noncomputable def c7_2 : Code := zCe Tryz.f7 [true, true, true, true, true]
theorem c7_0_eq : cK c7_0 71 x h k =
(zBy Tryz.prog (x 0)).bind fun v0 =>
(fa 90 v0 0).bind fun v1 =>
(ld 3 v1 h).bind fun v2 =>
obH (ev 31 #[v2] (nm h)) fun v3 h4 =>
(zBy Tryz.prog (x 0)).bind fun v5 =>
(fa 90 v5 1).bind fun v6 =>
(ld 3 v6 (am h4 h)).bind fun v7 =>
obH (zBw Tryz.prog 68 1 #[(0, v7)] (am h4 h)) fun v8 h9 =>
obH (ev 28 #[v8] h9) fun v10 h11 =>
(bn .andNot 39 v3 v10).bind fun v12 =>
(bn .and 39 (x 1) v12).bind fun v13 =>
chk ([(am h4 h).blks.length] ++ ((rb v6) ++ [])) (h4.mods ++ []) (
(zBy Tryz.prog (x 0)).bind fun v14 =>
(fa 90 v14 3).bind fun v15 =>
(ld 30 v15 h11).bind fun v16 =>
(bn .add 30 v16 (.int .u64 1)).bind fun v17 =>
(zBy Tryz.prog (x 0)).bind fun v18 =>
(fa 90 v18 3).bind fun v19 =>
(sto 30 v19 v17 h11).bind fun h20 =>
obH (ev 32 #[v13] h20) fun v21 h22 =>
(ln 68 v21 h22).bind fun v23 =>
lK c7_1 71 (up x [(1,v13),(4,(.slice Option.none 0 0)),(5,(.slice Option.none 0 0)),(8,(x 1)),(9,(x 0)),(10,v0),(11,v1),(12,v2),(13,v3),(14,(x 0)),(15,v5),(16,v6),(17,v7),(18,v8),(19,v10),(20,v12),(21,v13),(22,(x 0)),(23,v14),(24,v15),(25,v16),(26,v17),(27,v18),(28,v19),(29,v13),(30,v21),(31,v23),(32,(.int .i64 0))]) h22 (zCr 0 (sK c7_2 k))) := by kernel_rfl
theorem c7_1_eq : cK c7_1 71 x h k =
(bn .lss 3 (x 32) (x 31)).bind fun v24 =>
cnd v24 (
(ia 68 (x 30) (x 32)).bind fun v25 =>
(ld 3 v25 h).bind fun v26 =>
(zBy Tryz.prog (x 0)).bind fun v27 =>
(fa 90 v27 2).bind fun v28 =>
(ld 51 v28 h).bind fun v29 =>
obH (ev 35 #[v29,x 1,v26] h) fun v30 h31 =>
obH (ev 34 #[v30] h31) fun v32 h33 =>
obH (ev 33 #[v32] h33) fun v34 h35 =>
obH (zBw Tryz.prog 34 1 #[(0, v34)] h35) fun v36 h37 =>
obH (ap 34 (some 34) (x 5) v36 h37) fun v38 h39 =>
(bn .add 3 (x 32) (.int .i64 1)).bind fun v40 =>
k .normal ⟨ar 71 (up x [(5,v38),(7,v26),(32,v40),(33,v24),(34,v25),(35,v26),(36,(x 5)),(37,(x 0)),(38,v27),(39,v28),(40,v29),(41,(x 1)),(42,v26),(43,v30),(44,v32),(45,v34),(46,v36),(47,v38),(48,v40)]), h39⟩) (
k (.exit 0) ⟨ar 71 (up x [(33,v24)]), h⟩) := by kernel_rfl
theorem c7_2_eq : cK c7_2 71 x h k =
(zBy Tryz.prog (x 0)).bind fun v41 =>
(fa 90 v41 2).bind fun v42 =>
(ld 51 v42 h).bind fun v43 =>
obH (ev 37 #[v43,x 1] (nm h)) fun v44 h45 =>
(zBy Tryz.prog (x 0)).bind fun v46 =>
(fa 90 v46 1).bind fun v47 =>
(ld 3 v47 (am h45 h)).bind fun v48 =>
(zBy Tryz.prog (x 0)).bind fun v49 =>
(fa 90 v49 3).bind fun v50 =>
(ld 30 v50 (am h45 h)).bind fun v51 =>
(buildV Tryz.prog 99 #[(0, v48), (1, v51), (2, (x 1))]).bind fun v52 =>
obH (ev 36 #[v44,v52] (am h45 h)) fun v53 h54 =>
obH (ev 34 #[v53] h54) fun v55 h56 =>
(zBy Tryz.prog (x 0)).bind fun v57 =>
(fa 90 v57 2).bind fun v58 =>
(sto 51 v58 v55 h56).bind fun h59 =>
chk ((rb v50) ++ ((rb v47) ++ [])) (h45.mods ++ []) (
k .ret ⟨ar 71 (up x [(4,(x 5)),(49,(x 0)),(50,(x 0)),(51,v41),(52,v42),(53,v43),(54,(x 1)),(55,v44),(56,(x 0)),(57,v46),(58,v47),(59,v48),(60,(x 0)),(61,v49),(62,v50),(63,v51),(64,(x 1)),(65,v52),(66,v53),(67,v55),(68,v57),(69,v58),(70,(x 5))]), h59⟩) := by kernel_rfl
theorem call7 (a0 a1 : Value) : evC Tryz.prog 7 #[a0,a1] h = cK c7_0 71 (up un [(0,a0),(1,a1)]) (nm h) (zCw Tryz.f7 Tryz.prog h) :=
  (zCa 7 Tryz.f7 c7_0 Tryz.func7 (by kernel_rfl) #[a0,a1] h).trans (by kernel_rfl)
theorem ret7 : zCw Tryz.f7 Tryz.prog g .ret ⟨ar 71 x, h⟩ = fin g (some (x 4)) h := by kernel_rfl
end Go.Am
namespace Go.Am
open Go.Proofs
set_option maxRecDepth 100000
variable {β : Type} (x : Nat → Value) (h : Heap) (k : Ex → St → Option β) (r m : List Nat) (g : Heap)
noncomputable def c9_0 : Code := zCe Tryz.f9 []
theorem c9_0_eq : cK c9_0 59 x h k =
obH (ev 11 #[x 0,x 1,x 2,x 4] h) fun v0 h1 =>
(unV Tryz.prog .not v0).bind fun v2 =>
cnd v2 (
k .ret ⟨ar 59 (up x [(10,(.bool false)),(15,(x 0)),(16,(x 1)),(17,(x 2)),(18,(x 4)),(19,v0),(20,v2)]), h1⟩) (
(zBy Tryz.prog (x 0)).bind fun v3 =>
(fa 90 v3 4).bind fun v4 =>
(ld 45 v4 h1).bind fun v5 =>
(ia 45 v5 (x 1)).bind fun v6 =>
(sto 30 v6 (x 2) h1).bind fun h7 =>
(zBy Tryz.prog (x 0)).bind fun v8 =>
(fa 90 v8 1).bind fun v9 =>
(ld 3 v9 h7).bind fun v10 =>
obH (zBw Tryz.prog 68 1 #[(0, v10)] h7) fun v11 h12 =>
obH (ev 28 #[v11] h12) fun v13 h14 =>
obH (ev 29 #[x 4] h14) fun v15 h16 =>
(zDa v15 0).bind fun v17 =>
(zDa v15 1).bind fun v18 =>
obH (allocV Tryz.prog 51 h16) fun v19 h20 =>
(sto 51 v19 v17 h20).bind fun h21 =>
(ld 51 v19 h21).bind fun v22 =>
(buildV Tryz.prog 99 #[(0, (x 1)), (1, (x 2)), (2, (x 3))]).bind fun v23 =>
obH (ev 36 #[v22,v23] h21) fun v24 h25 =>
obH (ev 37 #[v24,v13] h25) fun v26 h27 =>
obH (allocV Tryz.prog 51 h27) fun v28 h29 =>
(sto 51 v28 v26 h29).bind fun h30 =>
(zBy Tryz.prog (x 0)).bind fun v31 =>
(fa 90 v31 2).bind fun v32 =>
(ld 51 v32 h30).bind fun v33 =>
(ld 51 v28 h30).bind fun v34 =>
obH (ev 43 #[v33,v34] h30) fun v35 h36 =>
obH (ev 37 #[v35,v13] h36) fun v37 h38 =>
obH (ev 34 #[v37] h38) fun v39 h40 =>
(zBy Tryz.prog (x 0)).bind fun v41 =>
(fa 90 v41 2).bind fun v42 =>
(sto 51 v42 v39 h40).bind fun h43 =>
k .ret ⟨ar 59 (up x [(10,(.bool true)),(11,v13),(12,v19),(13,v18),(14,v28),(15,(x 0)),(16,(x 1)),(17,(x 2)),(18,(x 4)),(19,v0),(20,v2),(21,(x 0)),(22,v3),(23,v4),(24,v5),(25,(x 1)),(26,(x 2)),(27,v6),(28,(x 0)),(29,v8),(30,v9),(31,v10),(32,v11),(33,v13),(34,v15),(35,(x 4)),(36,v15),(37,v17),(38,v18),(39,v22),(40,(x 1)),(41,(x 2)),(42,(x 3)),(43,v23),(44,v24),(45,v13),(46,v26),(47,(x 0)),(48,(x 0)),(49,v31),(50,v32),(51,v33),(52,v34),(53,v35),(54,v13),(55,v37),(56,v39),(57,v41),(58,v42)]), h43⟩) := by kernel_rfl
theorem call9 (a0 a1 a2 a3 a4 : Value) : evC Tryz.prog 9 #[a0,a1,a2,a3,a4] h = cK c9_0 59 (up un [(0,a0),(1,a1),(2,a2),(3,a3),(4,a4)]) (nm h) (zCw Tryz.f9 Tryz.prog h) :=
  (zCa 9 Tryz.f9 c9_0 Tryz.func9 (by kernel_rfl) #[a0,a1,a2,a3,a4] h).trans (by kernel_rfl)
theorem ret9 : zCw Tryz.f9 Tryz.prog g .ret ⟨ar 59 x, h⟩ = fin g (some (x 10)) h := by kernel_rfl
end Go.Am
namespace Go.Am
open Go.Proofs
set_option maxRecDepth 100000
variable {β : Type} (x : Nat → Value) (h : Heap) (k : Ex → St → Option β) (r m : List Nat) (g : Heap)
noncomputable def c5_0 : Code := zCe Tryz.f5 []
theorem c5_0_eq : cK c5_0 52 x h k =
obH (ev 6 #[(.int .i64 2),(.int .i64 0)] h) fun v0 h1 =>
(zDa v0 0).bind fun v2 =>
(zDa v0 1).bind fun v3 =>
(bn .neq 25 v3 (.int .i64 0)).bind fun v4 =>
(gd (wt v4 false) (bn .eql 24 (gdV (wt v4 false) v2) (.pointer Option.none))).bind fun v5 =>
(zDb v4 (.bool true) v5).bind fun v6 =>
cnd v6 (
k .ret ⟨ar 52 (up x [(0,(.bool false)),(1,v2),(2,v3),(6,v0),(7,v0),(8,v2),(9,v3),(10,v3),(11,v4),(12,v4),(13,(gdV (wt v4 false) v2)),(14,v5),(15,v6)]), h1⟩) (
obH (zBw Tryz.prog 68 1 #[(0, (.int .i64 1))] h1) fun v7 h8 =>
obH (ev 28 #[v7] h8) fun v9 h10 =>
obH (ev 7 #[v2,v9] h10) fun v11 h12 =>
obH (zBw Tryz.prog 68 1 #[(0, (.int .i64 1))] h12) fun v13 h14 =>
obH (ev 28 #[v13] h14) fun v15 h16 =>
obH (ev 7 #[v2,v15] h16) fun v17 h18 =>
(ln 34 v17 h18).bind fun v19 =>
(bn .neq 3 v19 (.int .i64 1)).bind fun v20 =>
cnd v20 (
k .ret ⟨ar 52 (up x [(0,(.bool false)),(1,v2),(2,v3),(3,v17),(6,v0),(7,v0),(8,v2),(9,v3),(10,v3),(11,v4),(12,v4),(13,(gdV (wt v4 false) v2)),(14,v5),(15,v6),(16,v2),(17,v7),(18,v9),(19,v11),(20,v2),(21,v13),(22,v15),(23,v17),(24,v17),(25,v19),(26,v20)]), h18⟩) (
(ia 34 v17 (.int .i64 0)).bind fun v21 =>
(ld 35 v21 h18).bind fun v22 =>
obH (ev 29 #[v22] h18) fun v23 h24 =>
(zDa v23 0).bind fun v25 =>
(zDa v23 1).bind fun v26 =>
obH (allocV Tryz.prog 51 h24) fun v27 h28 =>
(sto 51 v27 v25 h28).bind fun h29 =>
(gd (wt v26 true) (fa 51 v27 0)).bind fun v30 =>
(gd (wt v26 true) (ld 49 v30 h29)).bind fun v31 =>
obH (gdH (wt v26 true) h29 (ev 16 #[v31] h29)) fun v32 h33 =>
(gd (wt v26 true) (buildV Tryz.prog 87 #[(0, (.int .i64 0)), (1, (.int .u64 1)), (2, (.int .u64 2))])).bind fun v34 =>
obH (gdH (wt v26 true) h33 (zBw Tryz.prog 31 1 #[(0, v34)] h33)) fun v35 h36 =>
obH (gdH (wt v26 true) h36 (ev 15 #[v32,v35] h36)) fun v37 h38 =>
(zDb v26 v37 (.bool false)).bind fun v39 =>
obH (gdH (wt v39 true) h38 (ev 17 #[(gdV (wt v39 true) v2)] h38)) fun v40 h41 =>
(gd (wt v39 true) (fv 51 v40 0)).bind fun v42 =>
obH (gdH (wt v39 true) h41 (ev 16 #[v42] h41)) fun v43 h44 =>
(gd (wt v39 true) (buildV Tryz.prog 87 #[(0, (.int .i64 0)), (1, (.int .u64 2)), (2, (.int .u64 2))])).bind fun v45 =>
obH (gdH (wt v39 true) h44 (zBw Tryz.prog 31 1 #[(0, v45)] h44)) fun v46 h47 =>
obH (gdH (wt v39 true) h47 (ev 15 #[v43,v46] h47)) fun v48 h49 =>
(zDb v39 v48 (.bool false)).bind fun v50 =>
k .ret ⟨ar 52 (up x [(0,v50),(1,v2),(2,v3),(3,v17),(4,v27),(5,v26),(6,v0),(7,v0),(8,v2),(9,v3),(10,v3),(11,v4),(12,v4),(13,(gdV (wt v4 false) v2)),(14,v5),(15,v6),(16,v2),(17,v7),(18,v9),(19,v11),(20,v2),(21,v13),(22,v15),(23,v17),(24,v17),(25,v19),(26,v20),(27,v23),(28,v17),(29,v21),(30,v22),(31,v23),(32,v25),(33,v26),(34,v26),(35,v26),(36,v30),(37,v31),(38,v32),(39,v34),(40,v35),(41,v37),(42,v39),(43,v39),(44,(gdV (wt v39 true) v2)),(45,v40),(46,v42),(47,v43),(48,v45),(49,v46),(50,v48),(51,v50)]), h49⟩)) := by kernel_rfl
theorem call5  : evC Tryz.prog 5 #[] h = cK c5_0 52 un (nm h) (zCw Tryz.f5 Tryz.prog h) :=
  (zCa 5 Tryz.f5 c5_0 Tryz.func5 (by kernel_rfl) #[] h).trans (by kernel_rfl)
theorem ret5 : zCw Tryz.f5 Tryz.prog g .ret ⟨ar 52 x, h⟩ = fin g (some (x 0)) h := by kernel_rfl
end Go.Am
namespace Go.Am
open Go.Proofs
set_option maxRecDepth 100000
variable {β : Type} (x : Nat → Value) (h : Heap) (k : Ex → St → Option β) (r m : List Nat) (g : Heap)
noncomputable def c13_0 : Code := zCe Tryz.f13 []
noncomputable def c13_1 : Code := zCe Tryz.f13 [true, true, false, true, false, false]
noncomputable def c13_2 : Code := zCe Tryz.f13 [true, true, true]
theorem c13_0_eq : cK c13_0 26 x h k =
(ln 29 (x 0) h).bind fun v0 =>
(ln 29 (x 1) h).bind fun v1 =>
(bn .neq 3 v0 v1).bind fun v2 =>
cnd v2 (
k .ret ⟨ar 26 (up x [(4,(.bool false)),(6,(x 0)),(7,v0),(8,(x 1)),(9,v1),(10,v2)]), h⟩) (
lK c13_1 26 (up x [(4,(.bool false)),(5,(.int .i64 0)),(6,(x 0)),(7,v0),(8,(x 1)),(9,v1),(10,v2)]) h (zCr 0 (sK c13_2 k))) := by kernel_rfl
theorem c13_1_eq : cK c13_1 26 x h k =
(ln 29 (x 0) h).bind fun v3 =>
(bn .lss 3 (x 5) v3).bind fun v4 =>
cnd v4 (
(ia 29 (x 0) (x 5)).bind fun v5 =>
(ld 30 v5 h).bind fun v6 =>
(ia 29 (x 1) (x 5)).bind fun v7 =>
(ld 30 v7 h).bind fun v8 =>
(bn .neq 30 v6 v8).bind fun v9 =>
cnd v9 (
k .ret ⟨ar 26 (up x [(4,(.bool false)),(11,(x 5)),(12,(x 0)),(13,v3),(14,v4),(17,(x 0)),(18,(x 5)),(19,v5),(20,v6),(21,(x 1)),(22,(x 5)),(23,v7),(24,v8),(25,v9)]), h⟩) (
(bn .add 3 (x 5) (.int .i64 1)).bind fun v10 =>
k .normal ⟨ar 26 (up x [(5,v10),(11,(x 5)),(12,(x 0)),(13,v3),(14,v4),(15,(x 5)),(16,v10),(17,(x 0)),(18,(x 5)),(19,v5),(20,v6),(21,(x 1)),(22,(x 5)),(23,v7),(24,v8),(25,v9)]), h⟩)) (
k (.exit 0) ⟨ar 26 (up x [(11,(x 5)),(12,(x 0)),(13,v3),(14,v4)]), h⟩) := by kernel_rfl
theorem c13_2_eq : cK c13_2 26 x h k =
k .ret ⟨ar 26 (up x [(4,(.bool true))]), h⟩ := by kernel_rfl
theorem call13 (a0 a1 : Value) : evC Tryz.prog 13 #[a0,a1] h = cK c13_0 26 (up un [(0,a0),(1,a1)]) (nm h) (zCw Tryz.f13 Tryz.prog h) :=
  (zCa 13 Tryz.f13 c13_0 Tryz.func13 (by kernel_rfl) #[a0,a1] h).trans (by kernel_rfl)
theorem ret13 : zCw Tryz.f13 Tryz.prog g .ret ⟨ar 26 x, h⟩ = fin g (some (x 4)) h := by kernel_rfl
end Go.Am
namespace Go.Am
open Go.Proofs
set_option maxRecDepth 100000
variable {β : Type} (x : Nat → Value) (h : Heap) (k : Ex → St → Option β) (r m : List Nat) (g : Heap)
noncomputable def c82_0 : Code := zCe Tryz.f82 []
theorem c82_0_eq : cK c82_0 21 x h k =
obH (boxV Tryz.prog 87 (x 0) h) fun v0 h1 =>
(fa 87 v0 0).bind fun v2 =>
(ld 3 v2 h1).bind fun v3 =>
(bn .geq 3 v3 (.int .i64 0)).bind fun v4 =>
(gd (wt v4 true) (fa 87 v0 0)).bind fun v5 =>
(gd (wt v4 true) (ld 3 v5 h1)).bind fun v6 =>
(gd (wt v4 true) (bn .leq 3 v6 (.int .i64 15))).bind fun v7 =>
(zDb v4 v7 (.bool false)).bind fun v8 =>
(gd (wt v8 true) (fa 87 v0 1)).bind fun v9 =>
(gd (wt v8 true) (ld 30 v9 h1)).bind fun v10 =>
(gd (wt v8 true) (bn .geq 30 v10 (.int .u64 1))).bind fun v11 =>
(zDb v8 v11 (.bool false)).bind fun v12 =>
(gd (wt v12 true) (fa 87 v0 2)).bind fun v13 =>
(gd (wt v12 true) (ld 30 v13 h1)).bind fun v14 =>
(gd (wt v12 true) (bn .leq 30 v14 (.int .u64 65535))).bind fun v15 =>
(zDb v12 v15 (.bool false)).bind fun v16 =>
k .ret ⟨ar 21 (up x [(1,v0),(2,v16),(3,v2),(4,v3),(5,v4),(6,v4),(7,v5),(8,v6),(9,v7),(10,v8),(11,v8),(12,v9),(13,v10),(14,v11),(15,v12),(16,v12),(17,v13),(18,v14),(19,v15),(20,v16)]), h1⟩ := by kernel_rfl
theorem call82 (a0 : Value) : evC Tryz.prog 82 #[a0] h = cK c82_0 21 (up un [(0,a0)]) (nm h) (zCw Tryz.f82 Tryz.prog h) :=
  (zCa 82 Tryz.f82 c82_0 Tryz.func82 (by kernel_rfl) #[a0] h).trans (by kernel_rfl)
theorem ret82 : zCw Tryz.f82 Tryz.prog g .ret ⟨ar 21 x, h⟩ = fin g (some (x 2)) h := by kernel_rfl
end Go.Am
namespace Go.Am
open Go.Proofs
set_option maxRecDepth 100000
variable {β : Type} (x : Nat → Value) (h : Heap) (k : Ex → St → Option β) (r m : List Nat) (g : Heap)
noncomputable def c83_0 : Code := zCe Tryz.f83 []
theorem c83_0_eq : cK c83_0 24 x h k =
obH (boxV Tryz.prog 87 (x 0) h) fun v0 h1 =>
obH (boxV Tryz.prog 87 (x 1) h1) fun v2 h3 =>
(fa 87 v0 0).bind fun v4 =>
(ld 3 v4 h3).bind fun v5 =>
(fa 87 v2 0).bind fun v6 =>
(ld 3 v6 h3).bind fun v7 =>
(bn .lss 3 v5 v7).bind fun v8 =>
(gd (wt v8 false) (fa 87 v0 0)).bind fun v9 =>
(gd (wt v8 false) (ld 3 v9 h3)).bind fun v10 =>
(gd (wt v8 false) (fa 87 v2 0)).bind fun v11 =>
(gd (wt v8 false) (ld 3 v11 h3)).bind fun v12 =>
(gd (wt v8 false) (bn .eql 3 v10 v12)).bind fun v13 =>
(gd (wt (gdV (wt v8 false) v13) true) (fa 87 v0 1)).bind fun v14 =>
(gd (wt (gdV (wt v8 false) v13) true) (ld 30 v14 h3)).bind fun v15 =>
(gd (wt (gdV (wt v8 false) v13) true) (fa 87 v2 1)).bind fun v16 =>
(gd (wt (gdV (wt v8 false) v13) true) (ld 30 v16 h3)).bind fun v17 =>
(gd (wt (gdV (wt v8 false) v13) true) (bn .lss 30 v15 v17)).bind fun v18 =>
(gd (wt v8 false) (zDb (gdV (wt v8 false) v13) v18 (.bool false))).bind fun v19 =>
(zDb v8 (.bool true) v19).bind fun v20 =>
k .ret ⟨ar 24 (up x [(2,v0),(3,v2),(4,v20),(5,v4),(6,v5),(7,v6),(8,v7),(9,v8),(10,v8),(11,v9),(12,v10),(13,v11),(14,v12),(15,v13),(16,(gdV (wt v8 false) v13)),(17,v14),(18,v15),(19,v16),(20,v17),(21,v18),(22,v19),(23,v20)]), h3⟩ := by kernel_rfl
theorem call83 (a0 a1 : Value) : evC Tryz.prog 83 #[a0,a1] h = cK c83_0 24 (up un [(0,a0),(1,a1)]) (nm h) (zCw Tryz.f83 Tryz.prog h) :=
  (zCa 83 Tryz.f83 c83_0 Tryz.func83 (by kernel_rfl) #[a0,a1] h).trans (by kernel_rfl)
theorem ret83 : zCw Tryz.f83 Tryz.prog g .ret ⟨ar 24 x, h⟩ = fin g (some (x 4)) h := by kernel_rfl
end Go.Am
namespace Go.Am
open Go.Proofs
set_option maxRecDepth 100000
variable {β : Type} (x : Nat → Value) (h : Heap) (k : Ex → St → Option β) (r m : List Nat) (g : Heap)
noncomputable def c80_0 : Code := zCe Tryz.f80 []
noncomputable def c80_1 : Code := zCe Tryz.f80 [true, false, true, false, false]
noncomputable def c80_2 : Code := zCe Tryz.f80 [true, true]
theorem c80_0_eq : cK c80_0 33 x h k =
lK c80_1 33 (up x [(2,(.bool false)),(3,(.int .i64 0))]) h (zCr 0 (sK c80_2 k)) := by kernel_rfl
theorem c80_1_eq : cK c80_1 33 x h k =
(ln 31 (x 0) h).bind fun v0 =>
(bn .lss 3 (x 3) v0).bind fun v1 =>
cnd v1 (
(ia 31 (x 0) (x 3)).bind fun v2 =>
(ld 87 v2 h).bind fun v3 =>
obH (ev 82 #[v3] h) fun v4 h5 =>
(unV Tryz.prog .not v4).bind fun v6 =>
(gd (wt v6 false) (bn .gtr 3 (gdV (wt v6 false) (x 3)) (.int .i64 0))).bind fun v7 =>
(gd (wt (gdV (wt v6 false) v7) true) (bn .sub 3 (gdV (wt (gdV (wt v6 false) v7) true) (x 3)) (.int .i64 1))).bind fun v8 =>
(gd (wt (gdV (wt v6 false) v7) true) (ia 31 (gdV (wt (gdV (wt v6 false) v7) true) (x 0)) v8)).bind fun v9 =>
(gd (wt (gdV (wt v6 false) v7) true) (ld 87 v9 h5)).bind fun v10 =>
(gd (wt (gdV (wt v6 false) v7) true) (ia 31 (gdV (wt (gdV (wt v6 false) v7) true) (x 0)) (gdV (wt (gdV (wt v6 false) v7) true) (x 3)))).bind fun v11 =>
(gd (wt (gdV (wt v6 false) v7) true) (ld 87 v11 h5)).bind fun v12 =>
obH (gdH (wt (gdV (wt v6 false) v7) true) h5 (ev 83 #[v10,v12] h5)) fun v13 h14 =>
(gd (wt (gdV (wt v6 false) v7) true) (unV Tryz.prog .not v13)).bind fun v15 =>
(gd (wt v6 false) (zDb (gdV (wt v6 false) v7) v15 (.bool false))).bind fun v16 =>
(zDb v6 (.bool true) v16).bind fun v17 =>
cnd v17 (
k .ret ⟨ar 33 (up x [(2,(.bool false)),(4,(x 3)),(5,(x 0)),(6,v0),(7,v1),(10,(x 0)),(11,(x 3)),(12,v2),(13,v3),(14,v4),(15,v6),(16,v6),(17,(gdV (wt v6 false) (x 3))),(18,v7),(19,(gdV (wt v6 false) v7)),(20,(gdV (wt (gdV (wt v6 false) v7) true) (x 0))),(21,(gdV (wt (gdV (wt v6 false) v7) true) (x 3))),(22,v8),(23,v9),(24,v10),(25,(gdV (wt (gdV (wt v6 false) v7) true) (x 0))),(26,(gdV (wt (gdV (wt v6 false) v7) true) (x 3))),(27,v11),(28,v12),(29,v13),(30,v15),(31,v16),(32,v17)]), h14⟩) (
(bn .add 3 (x 3) (.int .i64 1)).bind fun v18 =>
k .normal ⟨ar 33 (up x [(3,v18),(4,(x 3)),(5,(x 0)),(6,v0),(7,v1),(8,(x 3)),(9,v18),(10,(x 0)),(11,(x 3)),(12,v2),(13,v3),(14,v4),(15,v6),(16,v6),(17,(gdV (wt v6 false) (x 3))),(18,v7),(19,(gdV (wt v6 false) v7)),(20,(gdV (wt (gdV (wt v6 false) v7) true) (x 0))),(21,(gdV (wt (gdV (wt v6 false) v7) true) (x 3))),(22,v8),(23,v9),(24,v10),(25,(gdV (wt (gdV (wt v6 false) v7) true) (x 0))),(26,(gdV (wt (gdV (wt v6 false) v7) true) (x 3))),(27,v11),(28,v12),(29,v13),(30,v15),(31,v16),(32,v17)]), h14⟩)) (
k (.exit 0) ⟨ar 33 (up x [(4,(x 3)),(5,(x 0)),(6,v0),(7,v1)]), h⟩) := by kernel_rfl
theorem c80_2_eq : cK c80_2 33 x h k =
k .ret ⟨ar 33 (up x [(2,(.bool true))]), h⟩ := by kernel_rfl
theorem call80 (a0 : Value) : evC Tryz.prog 80 #[a0] h = cK c80_0 33 (up un [(0,a0)]) (nm h) (zCw Tryz.f80 Tryz.prog h) :=
  (zCa 80 Tryz.f80 c80_0 Tryz.func80 (by kernel_rfl) #[a0] h).trans (by kernel_rfl)
theorem ret80 : zCw Tryz.f80 Tryz.prog g .ret ⟨ar 33 x, h⟩ = fin g (some (x 2)) h := by kernel_rfl
end Go.Am
namespace Go.Am
open Go.Proofs
set_option maxRecDepth 100000
variable {β : Type} (x : Nat → Value) (h : Heap) (k : Ex → St → Option β) (r m : List Nat) (g : Heap)
noncomputable def c39_0 : Code := zCe Tryz.f39 []
noncomputable def c39_1 : Code := zCe Tryz.f39 [true, true, true, false, true, false, false]
noncomputable def c39_2 : Code := zCe Tryz.f39 [true, true, true, true]
theorem c39_0_eq : cK c39_0 50 x h k =
obH (ev 80 #[x 0] h) fun v0 h1 =>
(unV Tryz.prog .not v0).bind fun v2 =>
cnd v2 (
k .ret ⟨ar 50 (up x [(2,(x 0)),(5,(x 0)),(6,v0),(7,v2),(8,(x 0))]), h1⟩) (
lK c39_1 50 (up x [(2,(.slice Option.none 0 0)),(3,(.slice Option.none 0 0)),(4,(.int .i64 0)),(5,(x 0)),(6,v0),(7,v2)]) h1 (zCr 0 (sK c39_2 k))) := by kernel_rfl
theorem c39_1_eq : cK c39_1 50 x h k =
(ln 31 (x 0) h).bind fun v3 =>
(bn .lss 3 (x 4) v3).bind fun v4 =>
cnd v4 (
(ia 31 (x 0) (x 4)).bind fun v5 =>
(fa 87 v5 2).bind fun v6 =>
(ld 30 v6 h).bind fun v7 =>
(bn .neq 30 v7 (.int .u64 0)).bind fun v8 =>
(gd (wt v8 false) (bn .add 3 (gdV (wt v8 false) (x 4)) (.int .i64 1))).bind fun v9 =>
(gd (wt v8 false) (ln 31 (gdV (wt v8 false) (x 0)) h)).bind fun v10 =>
(gd (wt v8 false) (bn .eql 3 v9 v10)).bind fun v11 =>
(zDb v8 (.bool true) v11).bind fun v12 =>
(gd (wt v12 false) (bn .add 3 (gdV (wt v12 false) (x 4)) (.int .i64 1))).bind fun v13 =>
(gd (wt v12 false) (ia 31 (gdV (wt v12 false) (x 0)) v13)).bind fun v14 =>
(gd (wt v12 false) (fa 87 v14 0)).bind fun v15 =>
(gd (wt v12 false) (ld 3 v15 h)).bind fun v16 =>
(gd (wt v12 false) (ia 31 (gdV (wt v12 false) (x 0)) (gdV (wt v12 false) (x 4)))).bind fun v17 =>
(gd (wt v12 false) (fa 87 v17 0)).bind fun v18 =>
(gd (wt v12 false) (ld 3 v18 h)).bind fun v19 =>
(gd (wt v12 false) (bn .neq 3 v16 v19)).bind fun v20 =>
(zDb v12 (.bool true) v20).bind fun v21 =>
cnd v21 (
(ia 31 (x 0) (x 4)).bind fun v22 =>
(ld 87 v22 h).bind fun v23 =>
obH (zBw Tryz.prog 31 1 #[(0, v23)] h) fun v24 h25 =>
obH (ap 31 (some 31) (x 3) v24 h25) fun v26 h27 =>
(bn .add 3 (x 4) (.int .i64 1)).bind fun v28 =>
k .normal ⟨ar 50 (up x [(3,v26),(4,v28),(9,(x 4)),(10,(x 0)),(11,v3),(12,v4),(13,(x 4)),(14,v28),(15,(x 0)),(16,(x 4)),(17,v5),(18,v6),(19,v7),(20,v8),(21,v8),(22,(gdV (wt v8 false) (x 4))),(23,v9),(24,(gdV (wt v8 false) (x 0))),(25,v10),(26,v11),(27,v12),(28,v12),(29,(gdV (wt v12 false) (x 0))),(30,(gdV (wt v12 false) (x 4))),(31,v13),(32,v14),(33,v15),(34,v16),(35,(gdV (wt v12 false) (x 0))),(36,(gdV (wt v12 false) (x 4))),(37,v17),(38,v18),(39,v19),(40,v20),(41,v21),(42,(x 3)),(43,(x 0)),(44,(x 4)),(45,v22),(46,v23),(47,v24),(48,v26)]), h27⟩) (
(bn .add 3 (x 4) (.int .i64 1)).bind fun v29 =>
k .normal ⟨ar 50 (up x [(4,v29),(9,(x 4)),(10,(x 0)),(11,v3),(12,v4),(13,(x 4)),(14,v29),(15,(x 0)),(16,(x 4)),(17,v5),(18,v6),(19,v7),(20,v8),(21,v8),(22,(gdV (wt v8 false) (x 4))),(23,v9),(24,(gdV (wt v8 false) (x 0))),(25,v10),(26,v11),(27,v12),(28,v12),(29,(gdV (wt v12 false) (x 0))),(30,(gdV (wt v12 false) (x 4))),(31,v13),(32,v14),(33,v15),(34,v16),(35,(gdV (wt v12 false) (x 0))),(36,(gdV (wt v12 false) (x 4))),(37,v17),(38,v18),(39,v19),(40,v20),(41,v21)]), h⟩)) (
k (.exit 0) ⟨ar 50 (up x [(9,(x 4)),(10,(x 0)),(11,v3),(12,v4)]), h⟩) := by kernel_rfl
theorem c39_2_eq : cK c39_2 50 x h k =
k .ret ⟨ar 50 (up x [(2,(x 3)),(49,(x 3))]), h⟩ := by kernel_rfl
theorem call39 (a0 : Value) : evC Tryz.prog 39 #[a0] h = cK c39_0 50 (up un [(0,a0)]) (nm h) (zCw Tryz.f39 Tryz.prog h) :=
  (zCa 39 Tryz.f39 c39_0 Tryz.func39 (by kernel_rfl) #[a0] h).trans (by kernel_rfl)
theorem ret39 : zCw Tryz.f39 Tryz.prog g .ret ⟨ar 50 x, h⟩ = fin g (some (x 2)) h := by kernel_rfl
end Go.Am
namespace Go.Am
open Go.Proofs
set_option maxRecDepth 100000
variable {β : Type} (x : Nat → Value) (h : Heap) (k : Ex → St → Option β) (r m : List Nat) (g : Heap)
noncomputable def c40_0 : Code := zCe Tryz.f40 []
noncomputable def c40_1 : Code := zCe Tryz.f40 [true, true, true]
noncomputable def c40_2 : Code := zCe Tryz.f40 [true, true, true, true, false, true, false, false]
noncomputable def c40_3 : Code := zCe Tryz.f40 [true, true, true, true, true]
theorem c40_0_eq : cK c40_0 52 x h k =
obH (ev 80 #[x 0] h) fun v0 h1 =>
(unV Tryz.prog .not v0).bind fun v2 =>
cnd v2 (
k .ret ⟨ar 52 (up x [(6,(x 0)),(9,(x 0)),(10,v0),(11,v2),(12,(x 0))]), h1⟩) (
(bn .geq 3 (x 2) (.int .i64 0)).bind fun v3 =>
(gd (wt v3 true) (bn .leq 3 (gdV (wt v3 true) (x 2)) (.int .i64 63))).bind fun v4 =>
(zDb v3 v4 (.bool false)).bind fun v5 =>
cnd v5 (
obH (cv 3 66 (x 2) h1) fun v6 h7 =>
(bn .shl 30 (.int .u64 1) v6).bind fun v8 =>
(bn .andNot 30 (x 1) v8).bind fun v9 =>
cK c40_1 52 (up x [(1,v9),(6,(.slice Option.none 0 0)),(9,(x 0)),(10,v0),(11,v2),(13,(x 2)),(14,v3),(15,v3),(16,(gdV (wt v3 true) (x 2))),(17,v4),(18,v5),(19,(x 1)),(20,(x 2)),(21,v6),(22,v8),(23,v9)]) h7 k) (
cK c40_1 52 (up x [(6,(.slice Option.none 0 0)),(9,(x 0)),(10,v0),(11,v2),(13,(x 2)),(14,v3),(15,v3),(16,(gdV (wt v3 true) (x 2))),(17,v4),(18,v5)]) h1 k)) := by kernel_rfl
theorem c40_1_eq : cK c40_1 52 x h k =
lK c40_2 52 (up x [(7,(.slice Option.none 0 0)),(8,(.int .i64 0))]) h (zCr 0 (sK c40_3 k)) := by kernel_rfl
theorem c40_2_eq : cK c40_2 52 x h k =
(ln 31 (x 0) h).bind fun v10 =>
(bn .lss 3 (x 8) v10).bind fun v11 =>
cnd v11 (
(ia 31 (x 0) (x 8)).bind fun v12 =>
(fa 87 v12 0).bind fun v13 =>
(ld 3 v13 h).bind fun v14 =>
(ia 31 (x 0) (x 8)).bind fun v15 =>
(fa 87 v15 1).bind fun v16 =>
(ld 30 v16 h).bind fun v17 =>
(ia 31 (x 0) (x 8)).bind fun v18 =>
(fa 87 v18 2).bind fun v19 =>
(ld 30 v19 h).bind fun v20 =>
(bn .andNot 30 v20 (x 1)).bind fun v21 =>
(buildV Tryz.prog 87 #[(0, v14), (1, v17), (2, v21)]).bind fun v22 =>
obH (zBw Tryz.prog 31 1 #[(0, v22)] h) fun v23 h24 =>
obH (ap 31 (some 31) (x 7) v23 h24) fun v25 h26 =>
(bn .add 3 (x 8) (.int .i64 1)).bind fun v27 =>
k .normal ⟨ar 52 (up x [(7,v25),(8,v27),(24,(x 8)),(25,(x 0)),(26,v10),(27,v11),(28,(x 8)),(29,v27),(30,(x 7)),(31,(x 0)),(32,(x 8)),(33,v12),(34,v13),(35,v14),(36,(x 0)),(37,(x 8)),(38,v15),(39,v16),(40,v17),(41,(x 0)),(42,(x 8)),(43,v18),(44,v19),(45,v20),(46,(x 1)),(47,v21),(48,v22),(49,v23),(50,v25)]), h26⟩) (
k (.exit 0) ⟨ar 52 (up x [(24,(x 8)),(25,(x 0)),(26,v10),(27,v11)]), h⟩) := by kernel_rfl
theorem c40_3_eq : cK c40_3 52 x h k =
k .ret ⟨ar 52 (up x [(6,(x 7)),(51,(x 7))]), h⟩ := by kernel_rfl
theorem call40 (a0 a1 a2 : Value) : evC Tryz.prog 40 #[a0,a1,a2] h = cK c40_0 52 (up un [(0,a0),(1,a1),(2,a2)]) (nm h) (zCw Tryz.f40 Tryz.prog h) :=
  (zCa 40 Tryz.f40 c40_0 Tryz.func40 (by kernel_rfl) #[a0,a1,a2] h).trans (by kernel_rfl)
theorem ret40 : zCw Tryz.f40 Tryz.prog g .ret ⟨ar 52 x, h⟩ = fin g (some (x 6)) h := by kernel_rfl
end Go.Am
namespace Go.Am
open Go.Proofs
set_option maxRecDepth 100000
variable {β : Type} (x : Nat → Value) (h : Heap) (k : Ex → St → Option β) (r m : List Nat) (g : Heap)
noncomputable def c42_0 : Code := zCe Tryz.f42 []
theorem c42_0_eq : cK c42_0 8 x h k =
obH (ev 40 #[x 0,x 1,(.int .i64 (-1))] h) fun v0 h1 =>
k .ret ⟨ar 8 (up x [(4,v0),(5,(x 0)),(6,(x 1)),(7,v0)]), h1⟩ := by kernel_rfl
theorem call42 (a0 a1 : Value) : evC Tryz.prog 42 #[a0,a1] h = cK c42_0 8 (up un [(0,a0),(1,a1)]) (nm h) (zCw Tryz.f42 Tryz.prog h) :=
  (zCa 42 Tryz.f42 c42_0 Tryz.func42 (by kernel_rfl) #[a0,a1] h).trans (by kernel_rfl)
theorem ret42 : zCw Tryz.f42 Tryz.prog g .ret ⟨ar 8 x, h⟩ = fin g (some (x 4)) h := by kernel_rfl
end Go.Am
namespace Go.Am
open Go.Proofs
set_option maxRecDepth 100000
variable {β : Type} (x : Nat → Value) (h : Heap) (k : Ex → St → Option β) (r m : List Nat) (g : Heap)
noncomputable def c88_0 : Code := zCe Tryz.f88 []
noncomputable def c88_1 : Code := zCe Tryz.f88 [true, true, false, true, false, false]
noncomputable def c88_2 : Code := zCe Tryz.f88 [true, true, true]
theorem c88_0_eq : cK c88_0 57 x h k =
obH (boxV Tryz.prog 87 (x 1) h) fun v0 h1 =>
lK c88_1 57 (up x [(3,v0),(4,(.int .i64 0)),(5,(.bool false)),(6,(.int .i64 (-1))),(7,(.bool false)),(8,(.int .i64 0))]) h1 (zCr 0 (sK c88_2 k)) := by kernel_rfl
theorem c88_1_eq : cK c88_1 57 x h k =
(ln 31 (x 0) h).bind fun v2 =>
(bn .lss 3 (x 8) v2).bind fun v3 =>
cnd v3 (
(ia 31 (x 0) (x 8)).bind fun v4 =>
(fa 87 v4 0).bind fun v5 =>
(ld 3 v5 h).bind fun v6 =>
(fa 87 (x 3) 0).bind fun v7 =>
(ld 3 v7 h).bind fun v8 =>
(bn .eql 3 v6 v8).bind fun v9 =>
(gd (wt v9 true) (ia 31 (gdV (wt v9 true) (x 0)) (gdV (wt v9 true) (x 8)))).bind fun v10 =>
(gd (wt v9 true) (fa 87 v10 1)).bind fun v11 =>
(gd (wt v9 true) (ld 30 v11 h)).bind fun v12 =>
(gd (wt v9 true) (fa 87 (x 3) 1)).bind fun v13 =>
(gd (wt v9 true) (ld 30 v13 h)).bind fun v14 =>
(gd (wt v9 true) (bn .eql 30 v12 v14)).bind fun v15 =>
(zDb v9 v15 (.bool false)).bind fun v16 =>
cnd v16 (
(gd (wt (x 7) false) (ia 31 (gdV (wt (x 7) false) (x 0)) (gdV (wt (x 7) false) (x 8)))).bind fun v17 =>
(gd (wt (x 7) false) (fa 87 v17 0)).bind fun v18 =>
(gd (wt (x 7) false) (ld 3 v18 h)).bind fun v19 =>
(gd (wt (x 7) false) (fa 87 (x 3) 0)).bind fun v20 =>
(gd (wt (x 7) false) (ld 3 v20 h)).bind fun v21 =>
(gd (wt (x 7) false) (bn .eql 3 v19 v21)).bind fun v22 =>
(gd (wt (gdV (wt (x 7) false) v22) true) (ia 31 (gdV (wt (gdV (wt (x 7) false) v22) true) (x 0)) (gdV (wt (gdV (wt (x 7) false) v22) true) (x 8)))).bind fun v23 =>
(gd (wt (gdV (wt (x 7) false) v22) true) (fa 87 v23 1)).bind fun v24 =>
(gd (wt (gdV (wt (x 7) false) v22) true) (ld 30 v24 h)).bind fun v25 =>
(gd (wt (gdV (wt (x 7) false) v22) true) (fa 87 (x 3) 1)).bind fun v26 =>
(gd (wt (gdV (wt (x 7) false) v22) true) (ld 30 v26 h)).bind fun v27 =>
(gd (wt (gdV (wt (x 7) false) v22) true) (bn .gtr 30 v25 v27)).bind fun v28 =>
(gd (wt (x 7) false) (zDb (gdV (wt (x 7) false) v22) v28 (.bool false))).bind fun v29 =>
(zDb (x 7) (.bool true) v29).bind fun v30 =>
(bn .add 3 (x 8) (.int .i64 1)).bind fun v31 =>
k .normal ⟨ar 57 (up x [(6,(x 8)),(7,v30),(8,v31),(9,(x 8)),(10,(x 0)),(11,v2),(12,v3),(13,(x 8)),(14,v31),(15,(x 0)),(16,(x 8)),(17,v4),(18,v5),(19,v6),(20,v7),(21,v8),(22,v9),(23,v9),(24,(gdV (wt v9 true) (x 0))),(25,(gdV (wt v9 true) (x 8))),(26,v10),(27,v11),(28,v12),(29,v13),(30,v14),(31,v15),(32,v16),(33,(x 8)),(34,(x 7)),(35,(x 7)),(36,(gdV (wt (x 7) false) (x 0))),(37,(gdV (wt (x 7) false) (x 8))),(38,v17),(39,v18),(40,v19),(41,v20),(42,v21),(43,v22),(44,(gdV (wt (x 7) false) v22)),(45,(gdV (wt (gdV (wt (x 7) false) v22) true) (x 0))),(46,(gdV (wt (gdV (wt (x 7) false) v22) true) (x 8))),(47,v23),(48,v24),(49,v25),(50,v26),(51,v27),(52,v28),(53,v29),(54,v30)]), h⟩) (
(gd (wt (x 7) false) (ia 31 (gdV (wt (x 7) false) (x 0)) (gdV (wt (x 7) false) (x 8)))).bind fun v32 =>
(gd (wt (x 7) false) (fa 87 v32 0)).bind fun v33 =>
(gd (wt (x 7) false) (ld 3 v33 h)).bind fun v34 =>
(gd (wt (x 7) false) (fa 87 (x 3) 0)).bind fun v35 =>
(gd (wt (x 7) false) (ld 3 v35 h)).bind fun v36 =>
(gd (wt (x 7) false) (bn .eql 3 v34 v36)).bind fun v37 =>
(gd (wt (gdV (wt (x 7) false) v37) true) (ia 31 (gdV (wt (gdV (wt (x 7) false) v37) true) (x 0)) (gdV (wt (gdV (wt (x 7) false) v37) true) (x 8)))).bind fun v38 =>
(gd (wt (gdV (wt (x 7) false) v37) true) (fa 87 v38 1)).bind fun v39 =>
(gd (wt (gdV (wt (x 7) false) v37) true) (ld 30 v39 h)).bind fun v40 =>
(gd (wt (gdV (wt (x 7) false) v37) true) (fa 87 (x 3) 1)).bind fun v41 =>
(gd (wt (gdV (wt (x 7) false) v37) true) (ld 30 v41 h)).bind fun v42 =>
(gd (wt (gdV (wt (x 7) false) v37) true) (bn .gtr 30 v40 v42)).bind fun v43 =>
(gd (wt (x 7) false) (zDb (gdV (wt (x 7) false) v37) v43 (.bool false))).bind fun v44 =>
(zDb (x 7) (.bool true) v44).bind fun v45 =>
(bn .add 3 (x 8) (.int .i64 1)).bind fun v46 =>
k .normal ⟨ar 57 (up x [(7,v45),(8,v46),(9,(x 8)),(10,(x 0)),(11,v2),(12,v3),(13,(x 8)),(14,v46),(15,(x 0)),(16,(x 8)),(17,v4),(18,v5),(19,v6),(20,v7),(21,v8),(22,v9),(23,v9),(24,(gdV (wt v9 true) (x 0))),(25,(gdV (wt v9 true) (x 8))),(26,v10),(27,v11),(28,v12),(29,v13),(30,v14),(31,v15),(32,v16),(34,(x 7)),(35,(x 7)),(36,(gdV (wt (x 7) false) (x 0))),(37,(gdV (wt (x 7) false) (x 8))),(38,v32),(39,v33),(40,v34),(41,v35),(42,v36),(43,v37),(44,(gdV (wt (x 7) false) v37)),(45,(gdV (wt (gdV (wt (x 7) false) v37) true) (x 0))),(46,(gdV (wt (gdV (wt (x 7) false) v37) true) (x 8))),(47,v38),(48,v39),(49,v40),(50,v41),(51,v42),(52,v43),(53,v44),(54,v45)]), h⟩)) (
k (.exit 0) ⟨ar 57 (up x [(9,(x 8)),(10,(x 0)),(11,v2),(12,v3)]), h⟩) := by kernel_rfl
theorem c88_2_eq : cK c88_2 57 x h k =
k .ret ⟨ar 57 (up x [(4,(x 6)),(5,(x 7)),(55,(x 6)),(56,(x 7))]), h⟩ := by kernel_rfl
theorem call88 (a0 a1 : Value) : evC Tryz.prog 88 #[a0,a1] h = cK c88_0 57 (up un [(0,a0),(1,a1)]) (nm h) (zCw Tryz.f88 Tryz.prog h) :=
  (zCa 88 Tryz.f88 c88_0 Tryz.func88 (by kernel_rfl) #[a0,a1] h).trans (by kernel_rfl)
theorem ret88 : zCw Tryz.f88 Tryz.prog g .ret ⟨ar 57 x, h⟩ = fin g (some (.tuple #[x 4, (x 5)])) h := by kernel_rfl
end Go.Am
namespace Go.Am
open Go.Proofs
set_option maxRecDepth 100000
variable {β : Type} (x : Nat → Value) (h : Heap) (k : Ex → St → Option β) (r m : List Nat) (g : Heap)
noncomputable def c41_0 : Code := zCe Tryz.f41 []
noncomputable def c41_1 : Code := zCe Tryz.f41 [true, true, true, false, false, false]
noncomputable def c41_2 : Code := zCe Tryz.f41 [true, true, true, true]
theorem c41_0_eq : cK c41_0 66 x h k =
obH (boxV Tryz.prog 87 (x 1) h) fun v0 h1 =>
obH (ev 80 #[x 0] h1) fun v2 h3 =>
(unV Tryz.prog .not v2).bind fun v4 =>
(gd (wt v4 false) (ld 87 v0 h3)).bind fun v5 =>
obH (gdH (wt v4 false) h3 (ev 82 #[v5] h3)) fun v6 h7 =>
(gd (wt v4 false) (unV Tryz.prog .not v6)).bind fun v8 =>
(zDb v4 (.bool true) v8).bind fun v9 =>
cnd v9 (
k .ret ⟨ar 66 (up x [(3,v0),(4,(x 0)),(7,(x 0)),(8,v2),(9,v4),(10,v4),(11,v5),(12,v6),(13,v8),(14,v9),(15,(x 0))]), h7⟩) (
lK c41_1 66 (up x [(3,v0),(4,(.slice Option.none 0 0)),(5,(.int .i64 0)),(7,(x 0)),(8,v2),(9,v4),(10,v4),(11,v5),(12,v6),(13,v8),(14,v9)]) h7 (zCr 0 (sK c41_2 k))) := by kernel_rfl
theorem c41_1_eq : cK c41_1 66 x h k =
(ln 31 (x 0) h).bind fun v10 =>
(bn .lss 3 (x 5) v10).bind fun v11 =>
(gd (wt v11 true) (ia 31 (gdV (wt v11 true) (x 0)) (gdV (wt v11 true) (x 5)))).bind fun v12 =>
(gd (wt v11 true) (ld 87 v12 h)).bind fun v13 =>
(gd (wt v11 true) (ld 87 (x 3) h)).bind fun v14 =>
obH (gdH (wt v11 true) h (ev 83 #[v13,v14] h)) fun v15 h16 =>
(zDb v11 v15 (.bool false)).bind fun v17 =>
cnd v17 (
(bn .add 3 (x 5) (.int .i64 1)).bind fun v18 =>
k .normal ⟨ar 66 (up x [(5,v18),(16,(x 5)),(17,(x 0)),(18,v10),(19,v11),(20,v11),(21,(gdV (wt v11 true) (x 0))),(22,(gdV (wt v11 true) (x 5))),(23,v12),(24,v13),(25,v14),(26,v15),(27,v17),(28,(x 5)),(29,v18)]), h16⟩) (
k (.exit 0) ⟨ar 66 (up x [(16,(x 5)),(17,(x 0)),(18,v10),(19,v11),(20,v11),(21,(gdV (wt v11 true) (x 0))),(22,(gdV (wt v11 true) (x 5))),(23,v12),(24,v13),(25,v14),(26,v15),(27,v17)]), h16⟩) := by kernel_rfl
theorem c41_2_eq : cK c41_2 66 x h k =
(sliceV Tryz.prog 31 (x 0) (some (x 5)) none none h).bind fun v19 =>
(ln 31 v19 h).bind fun v20 =>
(bn .gtr 3 v20 (.int .i64 0)).bind fun v21 =>
(gd (wt v21 true) (ia 31 (gdV (wt v21 true) v19) (.int .i64 0))).bind fun v22 =>
(gd (wt v21 true) (fa 87 v22 0)).bind fun v23 =>
(gd (wt v21 true) (ld 3 v23 h)).bind fun v24 =>
(gd (wt v21 true) (fa 87 (x 3) 0)).bind fun v25 =>
(gd (wt v21 true) (ld 3 v25 h)).bind fun v26 =>
(gd (wt v21 true) (bn .eql 3 v24 v26)).bind fun v27 =>
(zDb v21 v27 (.bool false)).bind fun v28 =>
(gd (wt v28 true) (ia 31 (gdV (wt v28 true) v19) (.int .i64 0))).bind fun v29 =>
(gd (wt v28 true) (fa 87 v29 1)).bind fun v30 =>
(gd (wt v28 true) (ld 30 v30 h)).bind fun v31 =>
(gd (wt v28 true) (fa 87 (x 3) 1)).bind fun v32 =>
(gd (wt v28 true) (ld 30 v32 h)).bind fun v33 =>
(gd (wt v28 true) (bn .eql 30 v31 v33)).bind fun v34 =>
(zDb v28 v34 (.bool false)).bind fun v35 =>
cnd v35 (
(sliceV Tryz.prog 31 v19 (some (.int .i64 1)) none none h).bind fun v36 =>
obH (zBw Tryz.prog 31 0 #[] h) fun v37 h38 =>
(sliceV Tryz.prog 31 (x 0) none (some (x 5)) none h38).bind fun v39 =>
obH (ap 31 (some 31) v37 v39 (nm h38)) fun v40 h41 =>
(ld 87 (x 3) (am h41 h38)).bind fun v42 =>
obH (zBw Tryz.prog 31 1 #[(0, v42)] (am h41 h38)) fun v43 h44 =>
obH (ap 31 (some 31) v40 v43 h44) fun v45 h46 =>
obH (ap 31 (some 31) v45 v36 h46) fun v47 h48 =>
chk ([(am h41 h38).blks.length] ++ ((rb (x 3)) ++ [])) (h41.mods ++ []) (
k .ret ⟨ar 66 (up x [(4,v47),(6,v36),(30,(x 0)),(31,(x 5)),(32,v19),(33,v19),(34,v20),(35,v21),(36,v21),(37,(gdV (wt v21 true) v19)),(38,v22),(39,v23),(40,v24),(41,v25),(42,v26),(43,v27),(44,v28),(45,v28),(46,(gdV (wt v28 true) v19)),(47,v29),(48,v30),(49,v31),(50,v32),(51,v33),(52,v34),(53,v35),(54,v19),(55,v36),(56,v37),(57,(x 0)),(58,(x 5)),(59,v39),(60,v40),(61,v42),(62,v43),(63,v45),(64,v36),(65,v47)]), h48⟩)) (
obH (zBw Tryz.prog 31 0 #[] h) fun v49 h50 =>
(sliceV Tryz.prog 31 (x 0) none (some (x 5)) none h50).bind fun v51 =>
obH (ap 31 (some 31) v49 v51 (nm h50)) fun v52 h53 =>
(ld 87 (x 3) (am h53 h50)).bind fun v54 =>
obH (zBw Tryz.prog 31 1 #[(0, v54)] (am h53 h50)) fun v55 h56 =>
obH (ap 31 (some 31) v52 v55 h56) fun v57 h58 =>
obH (ap 31 (some 31) v57 v19 h58) fun v59 h60 =>
chk ([(am h53 h50).blks.length] ++ ((rb (x 3)) ++ [])) (h53.mods ++ []) (
k .ret ⟨ar 66 (up x [(4,v59),(6,v19),(30,(x 0)),(31,(x 5)),(32,v19),(33,v19),(34,v20),(35,v21),(36,v21),(37,(gdV (wt v21 true) v19)),(38,v22),(39,v23),(40,v24),(41,v25),(42,v26),(43,v27),(44,v28),(45,v28),(46,(gdV (wt v28 true) v19)),(47,v29),(48,v30),(49,v31),(50,v32),(51,v33),(52,v34),(53,v35),(56,v49),(57,(x 0)),(58,(x 5)),(59,v51),(60,v52),(61,v54),(62,v55),(63,v57),(64,v19),(65,v59)]), h60⟩)) := by kernel_rfl
theorem call41 (a0 a1 : Value) : evC Tryz.prog 41 #[a0,a1] h = cK c41_0 66 (up un [(0,a0),(1,a1)]) (nm h) (zCw Tryz.f41 Tryz.prog h) :=
  (zCa 41 Tryz.f41 c41_0 Tryz.func41 (by kernel_rfl) #[a0,a1] h).trans (by kernel_rfl)
theorem ret41 : zCw Tryz.f41 Tryz.prog g .ret ⟨ar 66 x, h⟩ = fin g (some (x 4)) h := by kernel_rfl
end Go.Am
namespace Go.Am
open Go.Proofs
set_option maxRecDepth 100000
variable {β : Type} (x : Nat → Value) (h : Heap) (k : Ex → St → Option β) (r m : List Nat) (g : Heap)
noncomputable def c45_0 : Code := zCe Tryz.f45 []
noncomputable def c45_1 : Code := zCe Tryz.f45 [true, true, true, false, true, false, false]
noncomputable def c45_2 : Code := zCe Tryz.f45 [true, true, true, true]
noncomputable def c45_3 : Code := zCe Tryz.f45 [true, true, true, true, false, true, false, false]
noncomputable def c45_4 : Code := zCe Tryz.f45 [true, true, true, true, true]
theorem c45_0_eq : cK c45_0 98 x h k =
obH (ev 80 #[x 0] h) fun v0 h1 =>
(unV Tryz.prog .not v0).bind fun v2 =>
obH (gdH (wt v2 false) h1 (ev 80 #[(gdV (wt v2 false) (x 1))] h1)) fun v3 h4 =>
(gd (wt v2 false) (unV Tryz.prog .not v3)).bind fun v5 =>
(zDb v2 (.bool true) v5).bind fun v6 =>
cnd v6 (
k .ret ⟨ar 98 (up x [(4,(x 0)),(12,(x 0)),(13,v0),(14,v2),(15,v2),(16,(gdV (wt v2 false) (x 1))),(17,v3),(18,v5),(19,v6),(20,(x 0))]), h4⟩) (
lK c45_1 98 (up x [(4,(.slice Option.none 0 0)),(5,(.slice Option.none 0 0)),(6,(.int .i64 0)),(12,(x 0)),(13,v0),(14,v2),(15,v2),(16,(gdV (wt v2 false) (x 1))),(17,v3),(18,v5),(19,v6)]) h4 (zCr 0 (sK c45_2 k))) := by kernel_rfl
theorem c45_1_eq : cK c45_1 98 x h k =
(ln 31 (x 0) h).bind fun v7 =>
(bn .lss 3 (x 6) v7).bind fun v8 =>
cnd v8 (
(ia 31 (x 0) (x 6)).bind fun v9 =>
(ld 87 v9 h).bind fun v10 =>
obH (ev 88 #[x 1,v10] h) fun v11 h12 =>
(zDa v11 0).bind fun v13 =>
(zDa v11 1).bind fun v14 =>
(bn .geq 3 v13 (.int .i64 0)).bind fun v15 =>
cnd v15 (
(ia 31 (x 0) (x 6)).bind fun v16 =>
(fa 87 v16 0).bind fun v17 =>
(ld 3 v17 h12).bind fun v18 =>
(ia 31 (x 0) (x 6)).bind fun v19 =>
(fa 87 v19 1).bind fun v20 =>
(ld 30 v20 h12).bind fun v21 =>
(ia 31 (x 0) (x 6)).bind fun v22 =>
(fa 87 v22 2).bind fun v23 =>
(ld 30 v23 h12).bind fun v24 =>
(ia 31 (x 1) v13).bind fun v25 =>
(fa 87 v25 2).bind fun v26 =>
(ld 30 v26 h12).bind fun v27 =>
(bn .and 30 v24 v27).bind fun v28 =>
(buildV Tryz.prog 87 #[(0, v18), (1, v21), (2, v28)]).bind fun v29 =>
obH (ev 41 #[x 5,v29] h12) fun v30 h31 =>
(bn .add 3 (x 6) (.int .i64 1)).bind fun v32 =>
k .normal ⟨ar 98 (up x [(5,v30),(6,v32),(7,v13),(8,v14),(21,(x 6)),(22,(x 0)),(23,v7),(24,v8),(25,(x 6)),(26,v32),(27,v11),(28,(x 1)),(29,(x 0)),(30,(x 6)),(31,v9),(32,v10),(33,v11),(34,v13),(35,v14),(36,v13),(37,v15),(38,(x 5)),(39,(x 0)),(40,(x 6)),(41,v16),(42,v17),(43,v18),(44,(x 0)),(45,(x 6)),(46,v19),(47,v20),(48,v21),(49,(x 0)),(50,(x 6)),(51,v22),(52,v23),(53,v24),(54,(x 1)),(55,v13),(56,v25),(57,v26),(58,v27),(59,v28),(60,v29),(61,v30)]), h31⟩) (
(unV Tryz.prog .not v14).bind fun v33 =>
cnd v33 (
(ia 31 (x 0) (x 6)).bind fun v34 =>
(ld 87 v34 h12).bind fun v35 =>
obH (ev 41 #[x 5,v35] h12) fun v36 h37 =>
(bn .add 3 (x 6) (.int .i64 1)).bind fun v38 =>
k .normal ⟨ar 98 (up x [(5,v36),(6,v38),(7,v13),(8,v14),(21,(x 6)),(22,(x 0)),(23,v7),(24,v8),(25,(x 6)),(26,v38),(27,v11),(28,(x 1)),(29,(x 0)),(30,(x 6)),(31,v9),(32,v10),(33,v11),(34,v13),(35,v14),(36,v13),(37,v15),(62,v14),(63,v33),(64,(x 5)),(65,(x 0)),(66,(x 6)),(67,v34),(68,v35),(69,v36)]), h37⟩) (
(bn .add 3 (x 6) (.int .i64 1)).bind fun v39 =>
k .normal ⟨ar 98 (up x [(6,v39),(7,v13),(8,v14),(21,(x 6)),(22,(x 0)),(23,v7),(24,v8),(25,(x 6)),(26,v39),(27,v11),(28,(x 1)),(29,(x 0)),(30,(x 6)),(31,v9),(32,v10),(33,v11),(34,v13),(35,v14),(36,v13),(37,v15),(62,v14),(63,v33)]), h12⟩))) (
k (.exit 0) ⟨ar 98 (up x [(21,(x 6)),(22,(x 0)),(23,v7),(24,v8)]), h⟩) := by kernel_rfl
theorem c45_2_eq : cK c45_2 98 x h k =
lK c45_3 98 (up x [(9,(.int .i64 0))]) h (zCr 2 (sK c45_4 k)) := by kernel_rfl
theorem c45_3_eq : cK c45_3 98 x h k =
(ln 31 (x 1) h).bind fun v40 =>
(bn .lss 3 (x 9) v40).bind fun v41 =>
cnd v41 (
(ia 31 (x 1) (x 9)).bind fun v42 =>
(ld 87 v42 h).bind fun v43 =>
obH (ev 88 #[x 0,v43] h) fun v44 h45 =>
(zDa v44 0).bind fun v46 =>
(zDa v44 1).bind fun v47 =>
(bn .lss 3 v46 (.int .i64 0)).bind fun v48 =>
(gd (wt v48 true) (unV Tryz.prog .not (gdV (wt v48 true) v47))).bind fun v49 =>
(zDb v48 v49 (.bool false)).bind fun v50 =>
cnd v50 (
(ia 31 (x 1) (x 9)).bind fun v51 =>
(ld 87 v51 h45).bind fun v52 =>
obH (ev 41 #[x 5,v52] h45) fun v53 h54 =>
(bn .add 3 (x 9) (.int .i64 1)).bind fun v55 =>
k .normal ⟨ar 98 (up x [(5,v53),(9,v55),(10,v46),(11,v47),(70,(x 9)),(71,(x 1)),(72,v40),(73,v41),(74,(x 9)),(75,v55),(76,v44),(77,(x 0)),(78,(x 1)),(79,(x 9)),(80,v42),(81,v43),(82,v44),(83,v46),(84,v47),(85,v46),(86,v48),(87,v48),(88,(gdV (wt v48 true) v47)),(89,v49),(90,v50),(91,(x 5)),(92,(x 1)),(93,(x 9)),(94,v51),(95,v52),(96,v53)]), h54⟩) (
(bn .add 3 (x 9) (.int .i64 1)).bind fun v56 =>
k .normal ⟨ar 98 (up x [(9,v56),(10,v46),(11,v47),(70,(x 9)),(71,(x 1)),(72,v40),(73,v41),(74,(x 9)),(75,v56),(76,v44),(77,(x 0)),(78,(x 1)),(79,(x 9)),(80,v42),(81,v43),(82,v44),(83,v46),(84,v47),(85,v46),(86,v48),(87,v48),(88,(gdV (wt v48 true) v47)),(89,v49),(90,v50)]), h45⟩)) (
k (.exit 2) ⟨ar 98 (up x [(70,(x 9)),(71,(x 1)),(72,v40),(73,v41)]), h⟩) := by kernel_rfl
theorem c45_4_eq : cK c45_4 98 x h k =
k .ret ⟨ar 98 (up x [(4,(x 5)),(97,(x 5))]), h⟩ := by kernel_rfl
theorem call45 (a0 a1 : Value) : evC Tryz.prog 45 #[a0,a1] h = cK c45_0 98 (up un [(0,a0),(1,a1)]) (nm h) (zCw Tryz.f45 Tryz.prog h) :=
  (zCa 45 Tryz.f45 c45_0 Tryz.func45 (by kernel_rfl) #[a0,a1] h).trans (by kernel_rfl)
theorem ret45 : zCw Tryz.f45 Tryz.prog g .ret ⟨ar 98 x, h⟩ = fin g (some (x 4)) h := by kernel_rfl
end Go.Am
namespace Go.Am
open Go.Proofs
set_option maxRecDepth 100000
variable {β : Type} (x : Nat → Value) (h : Heap) (k : Ex → St → Option β) (r m : List Nat) (g : Heap)
noncomputable def c20_0 : Code := zCe Tryz.f20 []
noncomputable def c20_1 : Code := zCe Tryz.f20 [true, true, false, true, false, false]
noncomputable def c20_2 : Code := zCe Tryz.f20 [true, true, true]
theorem c20_0_eq : cK c20_0 20 x h k =
lK c20_1 20 (up x [(2,(.int .u64 0)),(3,(.int .u64 0)),(4,(.int .i64 0))]) h (zCr 0 (sK c20_2 k)) := by kernel_rfl
theorem c20_1_eq : cK c20_1 20 x h k =
(bn .lss 3 (x 4) (x 0)).bind fun v0 =>
(gd (wt v0 true) (bn .lss 3 (gdV (wt v0 true) (x 4)) (.int .i64 64))).bind fun v1 =>
(zDb v0 v1 (.bool false)).bind fun v2 =>
cnd v2 (
obH (cv 3 66 (x 4) h) fun v3 h4 =>
(bn .shl 30 (.int .u64 1) v3).bind fun v5 =>
(bn .or 30 (x 3) v5).bind fun v6 =>
(bn .add 3 (x 4) (.int .i64 1)).bind fun v7 =>
k .normal ⟨ar 20 (up x [(3,v6),(4,v7),(5,(x 4)),(6,(x 0)),(7,v0),(8,v0),(9,(gdV (wt v0 true) (x 4))),(10,v1),(11,v2),(12,(x 4)),(13,v7),(14,(x 3)),(15,(x 4)),(16,v3),(17,v5),(18,v6)]), h4⟩) (
k (.exit 0) ⟨ar 20 (up x [(5,(x 4)),(6,(x 0)),(7,v0),(8,v0),(9,(gdV (wt v0 true) (x 4))),(10,v1),(11,v2)]), h⟩) := by kernel_rfl
theorem c20_2_eq : cK c20_2 20 x h k =
k .ret ⟨ar 20 (up x [(2,(x 3)),(19,(x 3))]), h⟩ := by kernel_rfl
theorem call20 (a0 : Value) : evC Tryz.prog 20 #[a0] h = cK c20_0 20 (up un [(0,a0)]) (nm h) (zCw Tryz.f20 Tryz.prog h) :=
  (zCa 20 Tryz.f20 c20_0 Tryz.func20 (by kernel_rfl) #[a0] h).trans (by kernel_rfl)
theorem ret20 : zCw Tryz.f20 Tryz.prog g .ret ⟨ar 20 x, h⟩ = fin g (some (x 2)) h := by kernel_rfl
end Go.Am
namespace Go.Am
open Go.Proofs
set_option maxRecDepth 100000
variable {β : Type} (x : Nat → Value) (h : Heap) (k : Ex → St → Option β) (r m : List Nat) (g : Heap)
noncomputable def c23_0 : Code := zCe Tryz.f23 []
noncomputable def c23_1 : Code := zCe Tryz.f23 [true, true, false, true, false, false]
noncomputable def c23_2 : Code := zCe Tryz.f23 [true, true, true]
theorem c23_0_eq : cK c23_0 17 x h k =
lK c23_1 17 (up x [(2,(.slice Option.none 0 0)),(3,(.slice Option.none 0 0)),(4,(.int .i64 0))]) h (zCr 0 (sK c23_2 k)) := by kernel_rfl
theorem c23_1_eq : cK c23_1 17 x h k =
(bn .lss 3 (x 4) (.int .i64 64)).bind fun v0 =>
cnd v0 (
obH (ev 50 #[x 0,x 4] h) fun v1 h2 =>
cnd v1 (
obH (zBw Tryz.prog 68 1 #[(0, (x 4))] h2) fun v3 h4 =>
obH (ap 68 (some 68) (x 3) v3 h4) fun v5 h6 =>
(bn .add 3 (x 4) (.int .i64 1)).bind fun v7 =>
k .normal ⟨ar 17 (up x [(3,v5),(4,v7),(5,(x 4)),(6,v0),(7,(x 4)),(8,v7),(9,(x 0)),(10,(x 4)),(11,v1),(12,(x 3)),(13,(x 4)),(14,v3),(15,v5)]), h6⟩) (
(bn .add 3 (x 4) (.int .i64 1)).bind fun v8 =>
k .normal ⟨ar 17 (up x [(4,v8),(5,(x 4)),(6,v0),(7,(x 4)),(8,v8),(9,(x 0)),(10,(x 4)),(11,v1)]), h2⟩)) (
k (.exit 0) ⟨ar 17 (up x [(5,(x 4)),(6,v0)]), h⟩) := by kernel_rfl
theorem c23_2_eq : cK c23_2 17 x h k =
k .ret ⟨ar 17 (up x [(2,(x 3)),(16,(x 3))]), h⟩ := by kernel_rfl
theorem call23 (a0 : Value) : evC Tryz.prog 23 #[a0] h = cK c23_0 17 (up un [(0,a0)]) (nm h) (zCw Tryz.f23 Tryz.prog h) :=
  (zCa 23 Tryz.f23 c23_0 Tryz.func23 (by kernel_rfl) #[a0] h).trans (by kernel_rfl)
theorem ret23 : zCw Tryz.f23 Tryz.prog g .ret ⟨ar 17 x, h⟩ = fin g (some (x 2)) h := by kernel_rfl
end Go.Am
namespace Go.Am
open Go.Proofs
set_option maxRecDepth 100000
variable {β : Type} (x : Nat → Value) (h : Heap) (k : Ex → St → Option β) (r m : List Nat) (g : Heap)
noncomputable def c38_0 : Code := zCe Tryz.f38 []
noncomputable def c38_1 : Code := zCe Tryz.f38 [true, true, true, true, false, true, false, false]
noncomputable def c38_2 : Code := zCe Tryz.f38 [true, true, true, true, true]
theorem c38_0_eq : cK c38_0 47 x h k =
obH (ev 80 #[x 0] h) fun v0 h1 =>
(unV Tryz.prog .not v0).bind fun v2 =>
cnd v2 (
k .ret ⟨ar 47 (up x [(2,(.slice Option.none 0 0)),(5,(x 0)),(6,v0),(7,v2)]), h1⟩) (
(buildV Tryz.prog 153 #[]).bind fun v3 =>
obH (boxV Tryz.prog 153 v3 h1) fun v4 h5 =>
(ln 31 (x 0) h5).bind fun v6 =>
obH (cv 3 30 v6 h5) fun v7 h8 =>
obH (ev 81 #[v4,v7] h8) fun v9 h10 =>
lK c38_1 47 (up x [(2,(.slice Option.none 0 0)),(3,v4),(4,(.int .i64 0)),(5,(x 0)),(6,v0),(7,v2),(8,v3),(9,v4),(10,v4),(11,(x 0)),(12,v6),(13,v7),(14,v9)]) h10 (zCr 0 (sK c38_2 k))) := by kernel_rfl
theorem c38_1_eq : cK c38_1 47 x h k =
(ln 31 (x 0) h).bind fun v11 =>
(bn .lss 3 (x 4) v11).bind fun v12 =>
cnd v12 (
(ia 31 (x 0) (x 4)).bind fun v13 =>
(fa 87 v13 0).bind fun v14 =>
(ld 3 v14 h).bind fun v15 =>
obH (cv 3 30 v15 h) fun v16 h17 =>
obH (ev 81 #[x 3,v16] h17) fun v18 h19 =>
(ia 31 (x 0) (x 4)).bind fun v20 =>
(fa 87 v20 1).bind fun v21 =>
(ld 30 v21 h19).bind fun v22 =>
obH (ev 81 #[x 3,v22] h19) fun v23 h24 =>
(ia 31 (x 0) (x 4)).bind fun v25 =>
(fa 87 v25 2).bind fun v26 =>
(ld 30 v26 h24).bind fun v27 =>
obH (ev 81 #[x 3,v27] h24) fun v28 h29 =>
(bn .add 3 (x 4) (.int .i64 1)).bind fun v30 =>
k .normal ⟨ar 47 (up x [(4,v30),(15,(x 4)),(16,(x 0)),(17,v11),(18,v12),(19,(x 4)),(20,v30),(21,(x 3)),(22,(x 0)),(23,(x 4)),(24,v13),(25,v14),(26,v15),(27,v16),(28,v18),(29,(x 3)),(30,(x 0)),(31,(x 4)),(32,v20),(33,v21),(34,v22),(35,v23),(36,(x 3)),(37,(x 0)),(38,(x 4)),(39,v25),(40,v26),(41,v27),(42,v28)]), h29⟩) (
k (.exit 0) ⟨ar 47 (up x [(15,(x 4)),(16,(x 0)),(17,v11),(18,v12)]), h⟩) := by kernel_rfl
theorem c38_2_eq : cK c38_2 47 x h k =
(zBy Tryz.prog (x 3)).bind fun v31 =>
(fa 153 v31 0).bind fun v32 =>
(ld 35 v32 h).bind fun v33 =>
k .ret ⟨ar 47 (up x [(2,v33),(43,(x 3)),(44,v31),(45,v32),(46,v33)]), h⟩ := by kernel_rfl
theorem call38 (a0 : Value) : evC Tryz.prog 38 #[a0] h = cK c38_0 47 (up un [(0,a0)]) (nm h) (zCw Tryz.f38 Tryz.prog h) :=
  (zCa 38 Tryz.f38 c38_0 Tryz.func38 (by kernel_rfl) #[a0] h).trans (by kernel_rfl)
theorem ret38 : zCw Tryz.f38 Tryz.prog g .ret ⟨ar 47 x, h⟩ = fin g (some (x 2)) h := by kernel_rfl
end Go.Am
namespace Go.Am
open Go.Proofs
set_option maxRecDepth 100000
variable {β : Type} (x : Nat → Value) (h : Heap) (k : Ex → St → Option β) (r m : List Nat) (g : Heap)
noncomputable def c44_0 : Code := zCe Tryz.f44 []
noncomputable def c44_1 : Code := zCe Tryz.f44 [true, true, true, true, false, true, false, false]
noncomputable def c44_2 : Code := zCe Tryz.f44 [true, true, true, true, true]
theorem c44_0_eq : cK c44_0 49 x h k =
(buildV Tryz.prog 160 #[(0, (x 0))]).bind fun v0 =>
obH (boxV Tryz.prog 160 v0 h) fun v1 h2 =>
obH (ev 86 #[v1,(.int .u64 4294967296)] h2) fun v3 h4 =>
lK c44_1 49 (up x [(2,(.slice Option.none 0 0)),(3,(.bool false)),(4,v1),(5,v3),(6,(.slice Option.none 0 0)),(7,(.int .u64 0)),(9,(x 0)),(10,v0),(11,v1),(12,v1),(13,v3)]) h4 (zCr 0 (sK c44_2 k)) := by kernel_rfl
theorem c44_1_eq : cK c44_1 49 x h k =
(bn .lss 30 (x 7) (x 5)).bind fun v5 =>
(gd (wt v5 true) (zBy Tryz.prog (gdV (wt v5 true) (x 4)))).bind fun v6 =>
(gd (wt v5 true) (fa 160 v6 1)).bind fun v7 =>
(gd (wt v5 true) (ld 4 v7 h)).bind fun v8 =>
(gd (wt v5 true) (unV Tryz.prog .not v8)).bind fun v9 =>
(zDb v5 v9 (.bool false)).bind fun v10 =>
cnd v10 (
obH (ev 86 #[x 4,(.int .u64 15)] h) fun v11 h12 =>
obH (cv 30 3 v11 h12) fun v13 h14 =>
(buildV Tryz.prog 87 #[(0, v13)]).bind fun v15 =>
obH (allocV Tryz.prog 87 h14) fun v16 h17 =>
(sto 87 v16 v15 h17).bind fun h18 =>
obH (ev 86 #[x 4,(.int .u64 18446744073709551615)] h18) fun v19 h20 =>
(fa 87 v16 1).bind fun v21 =>
(sto 30 v21 v19 h20).bind fun h22 =>
obH (ev 86 #[x 4,(.int .u64 65535)] h22) fun v23 h24 =>
(fa 87 v16 2).bind fun v25 =>
(sto 30 v25 v23 h24).bind fun h26 =>
(ld 87 v16 h26).bind fun v27 =>
obH (zBw Tryz.prog 31 1 #[(0, v27)] h26) fun v28 h29 =>
obH (ap 31 (some 31) (x 6) v28 h29) fun v30 h31 =>
(bn .add 30 (x 7) (.int .u64 1)).bind fun v32 =>
k .normal ⟨ar 49 (up x [(6,v30),(7,v32),(8,v16),(14,(x 7)),(15,(x 5)),(16,v5),(17,v5),(18,(gdV (wt v5 true) (x 4))),(19,v6),(20,v7),(21,v8),(22,v9),(23,v10),(24,(x 7)),(25,v32),(26,(x 4)),(27,v11),(28,v13),(29,v15),(30,(x 4)),(31,v19),(32,v21),(33,(x 4)),(34,v23),(35,v25),(36,(x 6)),(37,v27),(38,v28),(39,v30)]), h31⟩) (
k (.exit 0) ⟨ar 49 (up x [(14,(x 7)),(15,(x 5)),(16,v5),(17,v5),(18,(gdV (wt v5 true) (x 4))),(19,v6),(20,v7),(21,v8),(22,v9),(23,v10)]), h⟩) := by kernel_rfl
theorem c44_2_eq : cK c44_2 49 x h k =
obH (ev 87 #[x 4] h) fun v33 h34 =>
(unV Tryz.prog .not v33).bind fun v35 =>
obH (gdH (wt v35 false) h34 (ev 80 #[(gdV (wt v35 false) (x 6))] h34)) fun v36 h37 =>
(gd (wt v35 false) (unV Tryz.prog .not v36)).bind fun v38 =>
(zDb v35 (.bool true) v38).bind fun v39 =>
cnd v39 (
k .ret ⟨ar 49 (up x [(2,(.slice Option.none 0 0)),(3,(.bool false)),(40,(x 4)),(41,v33),(42,v35),(43,v35),(44,(gdV (wt v35 false) (x 6))),(45,v36),(46,v38),(47,v39)]), h37⟩) (
k .ret ⟨ar 49 (up x [(2,(x 6)),(3,(.bool true)),(40,(x 4)),(41,v33),(42,v35),(43,v35),(44,(gdV (wt v35 false) (x 6))),(45,v36),(46,v38),(47,v39),(48,(x 6))]), h37⟩) := by kernel_rfl
theorem call44 (a0 : Value) : evC Tryz.prog 44 #[a0] h = cK c44_0 49 (up un [(0,a0)]) (nm h) (zCw Tryz.f44 Tryz.prog h) :=
  (zCa 44 Tryz.f44 c44_0 Tryz.func44 (by kernel_rfl) #[a0] h).trans (by kernel_rfl)
theorem ret44 : zCw Tryz.f44 Tryz.prog g .ret ⟨ar 49 x, h⟩ = fin g (some (.tuple #[x 2, (x 3)])) h := by kernel_rfl
end Go.Am
namespace Go.Am
open Go.Proofs
set_option maxRecDepth 100000
variable {β : Type} (x : Nat → Value) (h : Heap) (k : Ex → St → Option β) (r m : List Nat) (g : Heap)
noncomputable def c12_0 : Code := zCe Tryz.f12 []
noncomputable def c12_1 : Code := zCe Tryz.f12 [true, true, true, false, true, false, false]
noncomputable def c12_2 : Code := zCe Tryz.f12 [true, true, true, true]
noncomputable def c12_3 : Code := zCe Tryz.f12 [true, true, true, false, true, false, false, false]
noncomputable def c12_4 : Code := zCe Tryz.f12 [true, true, true, false, true, false, false, true]
noncomputable def c12_5 : Code := zCe Tryz.f12 [true, true, true, false, true, false, false, true, false]
noncomputable def c12_6 : Code := zCe Tryz.f12 [true, true, true, false, true, false, false, true, true]
noncomputable def c12_7 : Code := zCe Tryz.f12 [true, true, true, false, true, false, false, true, false, false]
noncomputable def zCs : Array Oper := opsC (zCe Tryz.f12 [true, true, true, false, true, false, false, true, false, false, false])
noncomputable def c12_8 : Code := zCe Tryz.f12 [true, true, true, false, true, false, false, true, false, false, false]
noncomputable def c12_9 : Code := zCe Tryz.f12 [true, true, true, false, true, false, false, true, false, false, true]
theorem c12_0_eq : cK c12_0 89 x h k =
obH (ev 44 #[x 3] h) fun v0 h1 =>
(zDa v0 0).bind fun v2 =>
(zDa v0 1).bind fun v3 =>
(unV Tryz.prog .not v3).bind fun v4 =>
(gd (wt v4 false) (bn .lss 3 (gdV (wt v4 false) (x 1)) (.int .i64 0))).bind fun v5 =>
(zDb v4 (.bool true) v5).bind fun v6 =>
(gd (wt v6 false) (zBy Tryz.prog (gdV (wt v6 false) (x 0)))).bind fun v7 =>
(gd (wt v6 false) (fa 33 v7 0)).bind fun v8 =>
(gd (wt v6 false) (ld 3 v8 h1)).bind fun v9 =>
(gd (wt v6 false) (bn .geq 3 (gdV (wt v6 false) (x 1)) v9)).bind fun v10 =>
(zDb v6 (.bool true) v10).bind fun v11 =>
(gd (wt v11 false) (zBy Tryz.prog (gdV (wt v11 false) (x 0)))).bind fun v12 =>
(gd (wt v11 false) (fa 33 v12 1)).bind fun v13 =>
(gd (wt v11 false) (ld 3 v13 h1)).bind fun v14 =>
(gd (wt v11 false) (bn .eql 3 (gdV (wt v11 false) (x 1)) v14)).bind fun v15 =>
(zDb v11 (.bool true) v15).bind fun v16 =>
(gd (wt v16 false) (bn .eql 30 (gdV (wt v16 false) (x 2)) (.int .u64 0))).bind fun v17 =>
(zDb v16 (.bool true) v17).bind fun v18 =>
cnd v18 (
k .ret ⟨ar 89 (up x [(8,(.bool false)),(9,v2),(10,v3),(12,v0),(13,(x 3)),(14,v0),(15,v2),(16,v3),(17,v3),(18,v4),(19,v4),(20,(gdV (wt v4 false) (x 1))),(21,v5),(22,v6),(23,v6),(24,(gdV (wt v6 false) (x 1))),(25,(gdV (wt v6 false) (x 0))),(26,v7),(27,v8),(28,v9),(29,v10),(30,v11),(31,v11),(32,(gdV (wt v11 false) (x 1))),(33,(gdV (wt v11 false) (x 0))),(34,v12),(35,v13),(36,v14),(37,v15),(38,v16),(39,v16),(40,(gdV (wt v16 false) (x 2))),(41,v17),(42,v18)]), h1⟩) (
lK c12_1 89 (up x [(8,(.bool false)),(9,v2),(10,v3),(11,(.int .i64 0)),(12,v0),(13,(x 3)),(14,v0),(15,v2),(16,v3),(17,v3),(18,v4),(19,v4),(20,(gdV (wt v4 false) (x 1))),(21,v5),(22,v6),(23,v6),(24,(gdV (wt v6 false) (x 1))),(25,(gdV (wt v6 false) (x 0))),(26,v7),(27,v8),(28,v9),(29,v10),(30,v11),(31,v11),(32,(gdV (wt v11 false) (x 1))),(33,(gdV (wt v11 false) (x 0))),(34,v12),(35,v13),(36,v14),(37,v15),(38,v16),(39,v16),(40,(gdV (wt v16 false) (x 2))),(41,v17),(42,v18)]) h1 (zCr 0 (sK c12_2 k))) := by kernel_rfl
theorem c12_1_eq : cK c12_1 89 x h k =
cK c12_3 89 x h (sK c12_4 k) := codeK_seq _ _ _ _ _ (by kernel_rfl) _ _
theorem c12_2_eq : cK c12_2 89 x h k =
k .ret ⟨ar 89 (up x [(8,(.bool true))]), h⟩ := by kernel_rfl
theorem c12_3_eq : cK c12_3 89 x h k =
(ln 31 (x 9) h).bind fun v19 =>
(bn .lss 3 (x 11) v19).bind fun v20 =>
cnd v20 (
k .normal ⟨ar 89 (up x [(43,(x 11)),(44,(x 9)),(45,v19),(46,v20)]), h⟩) (
k (.exit 0) ⟨ar 89 (up x [(43,(x 11)),(44,(x 9)),(45,v19),(46,v20)]), h⟩) := by kernel_rfl
theorem c12_4_eq : cK c12_4 89 x h k =
cK c12_5 89 x h (sK c12_6 k) := codeK_seq _ _ _ _ _ (by kernel_rfl) _ _
theorem c12_5_eq : cK c12_5 89 x h k =
cK c12_7 89 x h (zCr 1 k) := codeK_block _ _ _ _ _ (by kernel_rfl) _ _
theorem c12_6_eq : cK c12_6 89 x h k =
(bn .add 3 (x 11) (.int .i64 1)).bind fun v21 =>
k .normal ⟨ar 89 (up x [(11,v21),(47,(x 11)),(48,v21)]), h⟩ := by kernel_rfl
theorem c12_7_eq : cK c12_7 89 x h k =
cK c12_8 89 x h (sK c12_9 k) := codeK_seq _ _ _ _ _ (by kernel_rfl) _ _
theorem d12_0_0 (k : St → Option β) : rD zCs 0 89 x h r m k =
rD zCs 1 89 (up x [(49,(x 9))]) h r m k := zDf _ _ zCs 0 (by kernel_rfl) (by kernel_rfl) (by kernel_rfl) _ _ _ _ _ _ (by kernel_rfl) (by kernel_rfl)
theorem d12_0_1 (k : St → Option β) : rD zCs 1 89 x h r m k =
rD zCs 2 89 (up x [(50,(x 11))]) h r m k := zDf _ _ zCs 1 (by kernel_rfl) (by kernel_rfl) (by kernel_rfl) _ _ _ _ _ _ (by kernel_rfl) (by kernel_rfl)
theorem d12_0_2 (k : St → Option β) : rD zCs 2 89 x h r m k =
(ia 31 (x 49) (x 50)).bind fun v22 =>
rD zCs 3 89 (up x [(51,v22)]) h r m k := (zBx _ _ zCs 2 (by kernel_rfl) _ _ _ _).trans (by kernel_rfl)
theorem d12_0_3 (k : St → Option β) : rD zCs 3 89 x h r m k =
(fa 87 (x 51) 0).bind fun v23 =>
rD zCs 4 89 (up x [(52,v23)]) h r m k := (zBx _ _ zCs 3 (by kernel_rfl) _ _ _ _).trans (by kernel_rfl)
theorem d12_0_4 (k : St → Option β) : rD zCs 4 89 x h r m k =
(ld 3 (x 52) h).bind fun v24 =>
rD zCs 5 89 (up x [(53,v24)]) h r m k := (zBx _ _ zCs 4 (by kernel_rfl) _ _ _ _).trans (by kernel_rfl)
theorem d12_0_5 (k : St → Option β) : rD zCs 5 89 x h r m k =
rD zCs 6 89 (up x [(54,(x 0))]) h r m k := zDf _ _ zCs 5 (by kernel_rfl) (by kernel_rfl) (by kernel_rfl) _ _ _ _ _ _ (by kernel_rfl) (by kernel_rfl)
theorem d12_0_6 (k : St → Option β) : rD zCs 6 89 x h r m k =
(zBy Tryz.prog (x 54)).bind fun v25 =>
rD zCs 7 89 (up x [(55,v25)]) h r m k := (zBx _ _ zCs 6 (by kernel_rfl) _ _ _ _).trans (by kernel_rfl)
theorem d12_0_7 (k : St → Option β) : rD zCs 7 89 x h r m k =
(fa 33 (x 55) 1).bind fun v26 =>
rD zCs 8 89 (up x [(56,v26)]) h r m k := (zBx _ _ zCs 7 (by kernel_rfl) _ _ _ _).trans (by kernel_rfl)
theorem d12_0_8 (k : St → Option β) : rD zCs 8 89 x h r m k =
(ld 3 (x 56) h).bind fun v27 =>
rD zCs 9 89 (up x [(57,v27)]) h r m k := (zBx _ _ zCs 8 (by kernel_rfl) _ _ _ _).trans (by kernel_rfl)
theorem d12_0_9 (k : St → Option β) : rD zCs 9 89 x h r m k =
(bn .neq 3 (x 53) (x 57)).bind fun v28 =>
rD zCs 10 89 (up x [(58,v28)]) h r m k := (zBx _ _ zCs 9 (by kernel_rfl) _ _ _ _).trans (by kernel_rfl)
theorem d12_0_10 (k : St → Option β) : rD zCs 10 89 x h r m k =
rD zCs 11 89 (up x [(59,(x 58))]) h r m k := zDf _ _ zCs 10 (by kernel_rfl) (by kernel_rfl) (by kernel_rfl) _ _ _ _ _ _ (by kernel_rfl) (by kernel_rfl)
theorem d12_0_11 (k : St → Option β) : rD zCs 11 89 x h r m k =
rD zCs 12 89 (up x [(60,(gdV (wt (x 59) true) (x 9)))]) h r m k := zDf _ _ zCs 11 (by kernel_rfl) (by kernel_rfl) (by kernel_rfl) _ _ _ _ _ _ (by kernel_rfl) (by kernel_rfl)
theorem d12_0_12 (k : St → Option β) : rD zCs 12 89 x h r m k =
rD zCs 13 89 (up x [(61,(gdV (wt (x 59) true) (x 11)))]) h r m k := zDf _ _ zCs 12 (by kernel_rfl) (by kernel_rfl) (by kernel_rfl) _ _ _ _ _ _ (by kernel_rfl) (by kernel_rfl)
theorem d12_0_13 (k : St → Option β) : rD zCs 13 89 x h r m k =
(gd (wt (x 59) true) (ia 31 (x 60) (x 61))).bind fun v29 =>
rD zCs 14 89 (up x [(62,v29)]) h r m k := (zBx _ _ zCs 13 (by kernel_rfl) _ _ _ _).trans (by kernel_rfl)
theorem d12_0_14 (k : St → Option β) : rD zCs 14 89 x h r m k =
(gd (wt (x 59) true) (fa 87 (x 62) 2)).bind fun v30 =>
rD zCs 15 89 (up x [(63,v30)]) h r m k := (zBx _ _ zCs 14 (by kernel_rfl) _ _ _ _).trans (by kernel_rfl)
theorem d12_0_15 (k : St → Option β) : rD zCs 15 89 x h r m k =
(gd (wt (x 59) true) (ld 30 (x 63) h)).bind fun v31 =>
rD zCs 16 89 (up x [(64,v31)]) h r m k := (zBx _ _ zCs 15 (by kernel_rfl) _ _ _ _).trans (by kernel_rfl)
theorem d12_0_16 (k : St → Option β) : rD zCs 16 89 x h r m k =
rD zCs 17 89 (up x [(65,(gdV (wt (x 59) true) (x 0)))]) h r m k := zDf _ _ zCs 16 (by kernel_rfl) (by kernel_rfl) (by kernel_rfl) _ _ _ _ _ _ (by kernel_rfl) (by kernel_rfl)
theorem d12_0_17 (k : St → Option β) : rD zCs 17 89 x h r m k =
(gd (wt (x 59) true) (zBy Tryz.prog (x 65))).bind fun v32 =>
rD zCs 18 89 (up x [(66,v32)]) h r m k := (zBx _ _ zCs 17 (by kernel_rfl) _ _ _ _).trans (by kernel_rfl)
theorem d12_0_18 (k : St → Option β) : rD zCs 18 89 x h r m k =
(gd (wt (x 59) true) (fa 33 (x 66) 1)).bind fun v33 =>
rD zCs 19 89 (up x [(67,v33)]) h r m k := (zBx _ _ zCs 18 (by kernel_rfl) _ _ _ _).trans (by kernel_rfl)
theorem d12_0_19 (k : St → Option β) : rD zCs 19 89 x h r m k =
(gd (wt (x 59) true) (ld 3 (x 67) h)).bind fun v34 =>
rD zCs 20 89 (up x [(68,v34)]) h r m k := (zBx _ _ zCs 19 (by kernel_rfl) _ _ _ _).trans (by kernel_rfl)
theorem d12_0_20 (k : St → Option β) : rD zCs 20 89 x h r m k =
obH (gdH (wt (x 59) true) h (ev 50 #[x 64,x 68] h)) fun v35 h36 =>
rD zCs 21 89 (up x [(69,v35)]) h36 r m k := (zBx _ _ zCs 20 (by kernel_rfl) _ _ _ _).trans (by kernel_rfl)
theorem d12_0_21 (k : St → Option β) : rD zCs 21 89 x h r m k =
(zDb (x 59) (x 69) (.bool false)).bind fun v37 =>
rD zCs 22 89 (up x [(70,v37)]) h r m k := (zBx _ _ zCs 21 (by kernel_rfl) _ _ _ _).trans (by kernel_rfl)
theorem d12_0_22 (k : St → Option β) : rD zCs 22 89 x h r m k =
rD zCs 23 89 (up x [(71,(x 70))]) h r m k := zDf _ _ zCs 22 (by kernel_rfl) (by kernel_rfl) (by kernel_rfl) _ _ _ _ _ _ (by kernel_rfl) (by kernel_rfl)
theorem d12_0_23 (k : St → Option β) : rD zCs 23 89 x h r m k =
rD zCs 24 89 (up x [(72,(gdV (wt (x 71) true) (x 0)))]) h r m k := zDf _ _ zCs 23 (by kernel_rfl) (by kernel_rfl) (by kernel_rfl) _ _ _ _ _ _ (by kernel_rfl) (by kernel_rfl)
theorem d12_0_24 (k : St → Option β) : rD zCs 24 89 x h r m k =
(gd (wt (x 71) true) (zBy Tryz.prog (x 72))).bind fun v38 =>
rD zCs 25 89 (up x [(73,v38)]) h r m k := (zBx _ _ zCs 24 (by kernel_rfl) _ _ _ _).trans (by kernel_rfl)
theorem d12_0_25 (k : St → Option β) : rD zCs 25 89 x h r m k =
(gd (wt (x 71) true) (fa 33 (x 73) 4)).bind fun v39 =>
rD zCs 26 89 (up x [(74,v39)]) h r m k := (zBx _ _ zCs 25 (by kernel_rfl) _ _ _ _).trans (by kernel_rfl)
theorem d12_0_26 (k : St → Option β) : rD zCs 26 89 x h r m k =
(gd (wt (x 71) true) (ld 29 (x 74) h)).bind fun v40 =>
rD zCs 27 89 (up x [(75,v40)]) h r m k := (zBx _ _ zCs 26 (by kernel_rfl) _ _ _ _).trans (by kernel_rfl)
theorem d12_0_27 (k : St → Option β) : rD zCs 27 89 x h r m k =
rD zCs 28 89 (up x [(76,(gdV (wt (x 71) true) (x 9)))]) h r m k := zDf _ _ zCs 27 (by kernel_rfl) (by kernel_rfl) (by kernel_rfl) _ _ _ _ _ _ (by kernel_rfl) (by kernel_rfl)
theorem d12_0_28 (k : St → Option β) : rD zCs 28 89 x h r m k =
rD zCs 29 89 (up x [(77,(gdV (wt (x 71) true) (x 11)))]) h r m k := zDf _ _ zCs 28 (by kernel_rfl) (by kernel_rfl) (by kernel_rfl) _ _ _ _ _ _ (by kernel_rfl) (by kernel_rfl)
theorem d12_0_29 (k : St → Option β) : rD zCs 29 89 x h r m k =
(gd (wt (x 71) true) (ia 31 (x 76) (x 77))).bind fun v41 =>
rD zCs 30 89 (up x [(78,v41)]) h r m k := (zBx _ _ zCs 29 (by kernel_rfl) _ _ _ _).trans (by kernel_rfl)
theorem d12_0_30 (k : St → Option β) : rD zCs 30 89 x h r m k =
(gd (wt (x 71) true) (fa 87 (x 78) 0)).bind fun v42 =>
rD zCs 31 89 (up x [(79,v42)]) h r m k := (zBx _ _ zCs 30 (by kernel_rfl) _ _ _ _).trans (by kernel_rfl)
theorem d12_0_31 (k : St → Option β) : rD zCs 31 89 x h r m k =
(gd (wt (x 71) true) (ld 3 (x 79) h)).bind fun v43 =>
rD zCs 32 89 (up x [(80,v43)]) h r m k := (zBx _ _ zCs 31 (by kernel_rfl) _ _ _ _).trans (by kernel_rfl)
theorem d12_0_32 (k : St → Option β) : rD zCs 32 89 x h r m k =
obH (gdH (wt (x 71) true) (nm h) (ev 51 #[x 75,x 80] (nm h))) fun v44 h45 =>
rD zCs 33 89 (up x [(81,v44)]) (am h45 h) r (h45.mods ++ m) k := (zBx _ _ zCs 32 (by kernel_rfl) _ _ _ _).trans (by kernel_rfl)
theorem d12_0_33 (k : St → Option β) : rD zCs 33 89 x h r m k =
rD zCs 34 89 (up x [(82,(gdV (wt (x 71) true) (x 9)))]) h r m k := zDf _ _ zCs 33 (by kernel_rfl) (by kernel_rfl) (by kernel_rfl) _ _ _ _ _ _ (by kernel_rfl) (by kernel_rfl)
theorem d12_0_34 (k : St → Option β) : rD zCs 34 89 x h r m k =
rD zCs 35 89 (up x [(83,(gdV (wt (x 71) true) (x 11)))]) h r m k := zDf _ _ zCs 34 (by kernel_rfl) (by kernel_rfl) (by kernel_rfl) _ _ _ _ _ _ (by kernel_rfl) (by kernel_rfl)
theorem d12_0_35 (k : St → Option β) : rD zCs 35 89 x h r m k =
(gd (wt (x 71) true) (ia 31 (x 82) (x 83))).bind fun v46 =>
rD zCs 36 89 (up x [(84,v46)]) h r m k := (zBx _ _ zCs 35 (by kernel_rfl) _ _ _ _).trans (by kernel_rfl)
theorem d12_0_36 (k : St → Option β) : rD zCs 36 89 x h r m k =
(gd (wt (x 71) true) (fa 87 (x 84) 1)).bind fun v47 =>
rD zCs 37 89 (up x [(85,v47)]) h r m k := (zBx _ _ zCs 36 (by kernel_rfl) _ _ _ _).trans (by kernel_rfl)
theorem d12_0_37 (k : St → Option β) : rD zCs 37 89 x h r m k =
(gd (wt (x 71) true) (ld 30 (x 85) h)).bind fun v48 =>
rD zCs 38 89 (up x [(86,v48)]) h (rdL (wt (x 71) true) (rb (x 85)) ++ r) m k := (zBx _ _ zCs 37 (by kernel_rfl) _ _ _ _).trans (by kernel_rfl)
theorem d12_0_38 (k : St → Option β) : rD zCs 38 89 x h r m k =
(gd (wt (x 71) true) (bn .lss 30 (x 81) (x 86))).bind fun v49 =>
rD zCs 39 89 (up x [(87,v49)]) h r m k := (zBx _ _ zCs 38 (by kernel_rfl) _ _ _ _).trans (by kernel_rfl)
theorem d12_0_39 (k : St → Option β) : rD zCs 39 89 x h r m k =
(zDb (x 71) (x 87) (.bool false)).bind fun v50 =>
rD zCs 40 89 (up x [(88,v50)]) h r m k := (zBx _ _ zCs 39 (by kernel_rfl) _ _ _ _).trans (by kernel_rfl)
theorem d12_0_40 (k : St → Option β) : rD zCs 40 89 x h r m k =
chk r m (k ⟨ar 89 x, h⟩) := by kernel_rfl
theorem c12_8_eq : cK c12_8 89 x h k =
rD zCs 0 89 x h [] [] (fun s => k .normal s) := by kernel_rfl
theorem c12_9_eq : cK c12_9 89 x h k =
cnd (x 88) (
k .ret ⟨ar 89 (up x [(8,(.bool false))]), h⟩) (
k .normal ⟨ar 89 x, h⟩) := by kernel_rfl
theorem call12 (a0 a1 a2 a3 : Value) : evC Tryz.prog 12 #[a0,a1,a2,a3] h = cK c12_0 89 (up un [(0,a0),(1,a1),(2,a2),(3,a3)]) (nm h) (zCw Tryz.f12 Tryz.prog h) :=
  (zCa 12 Tryz.f12 c12_0 Tryz.func12 (by kernel_rfl) #[a0,a1,a2,a3] h).trans (by kernel_rfl)
theorem ret12 : zCw Tryz.f12 Tryz.prog g .ret ⟨ar 89 x, h⟩ = fin g (some (x 8)) h := by kernel_rfl
end Go.Am
namespace Go.Am
open Go.Proofs
set_option maxRecDepth 100000
variable {β : Type} (x : Nat → Value) (h : Heap) (k : Ex → St → Option β) (r m : List Nat) (g : Heap)
noncomputable def c51_0 : Code := zCe Tryz.f51 []
theorem c51_0_eq : cK c51_0 17 x h k =
(bn .lss 3 (x 1) (.int .i64 0)).bind fun v0 =>
(gd (wt v0 false) (ln 29 (gdV (wt v0 false) (x 0)) h)).bind fun v1 =>
(gd (wt v0 false) (bn .geq 3 (gdV (wt v0 false) (x 1)) v1)).bind fun v2 =>
(zDb v0 (.bool true) v2).bind fun v3 =>
cnd v3 (
k .ret ⟨ar 17 (up x [(4,(.int .u64 0)),(5,(x 1)),(6,v0),(7,v0),(8,(gdV (wt v0 false) (x 1))),(9,(gdV (wt v0 false) (x 0))),(10,v1),(11,v2),(12,v3)]), h⟩) (
(ia 29 (x 0) (x 1)).bind fun v4 =>
(ld 30 v4 h).bind fun v5 =>
k .ret ⟨ar 17 (up x [(4,v5),(5,(x 1)),(6,v0),(7,v0),(8,(gdV (wt v0 false) (x 1))),(9,(gdV (wt v0 false) (x 0))),(10,v1),(11,v2),(12,v3),(13,(x 0)),(14,(x 1)),(15,v4),(16,v5)]), h⟩) := by kernel_rfl
theorem call51 (a0 a1 : Value) : evC Tryz.prog 51 #[a0,a1] h = cK c51_0 17 (up un [(0,a0),(1,a1)]) (nm h) (zCw Tryz.f51 Tryz.prog h) :=
  (zCa 51 Tryz.f51 c51_0 Tryz.func51 (by kernel_rfl) #[a0,a1] h).trans (by kernel_rfl)
theorem ret51 : zCw Tryz.f51 Tryz.prog g .ret ⟨ar 17 x, h⟩ = fin g (some (x 4)) h := by kernel_rfl
end Go.Am
namespace Go.Am
open Go.Proofs
set_option maxRecDepth 100000
variable {β : Type} (x : Nat → Value) (h : Heap) (k : Ex → St → Option β) (r m : List Nat) (g : Heap)
noncomputable def c8_0 : Code := zCe Tryz.f8 []
noncomputable def c8_1 : Code := zCe Tryz.f8 [true, true, true, true, true, false, true, false, false]
noncomputable def c8_2 : Code := zCe Tryz.f8 [true, true, true, true, true, true]
theorem c8_0_eq : cK c8_0 74 x h k =
(zBy Tryz.prog (x 0)).bind fun v0 =>
(fa 33 v0 0).bind fun v1 =>
(ld 3 v1 h).bind fun v2 =>
obH (ev 20 #[v2] (nm h)) fun v3 h4 =>
(bn .and 30 (x 1) v3).bind fun v5 =>
(zBy Tryz.prog (x 0)).bind fun v6 =>
(fa 33 v6 1).bind fun v7 =>
(ld 3 v7 (am h4 h)).bind fun v8 =>
obH (cv 3 66 v8 (am h4 h)) fun v9 h10 =>
(bn .shl 30 (.int .u64 1) v9).bind fun v11 =>
(bn .andNot 30 v5 v11).bind fun v12 =>
chk ((rb v7) ++ []) (h4.mods ++ []) (
(zBy Tryz.prog (x 0)).bind fun v13 =>
(fa 33 v13 2).bind fun v14 =>
(ld 30 v14 h10).bind fun v15 =>
(bn .add 30 v15 (.int .u64 1)).bind fun v16 =>
(zBy Tryz.prog (x 0)).bind fun v17 =>
(fa 33 v17 2).bind fun v18 =>
(sto 30 v18 v16 h10).bind fun h19 =>
obH (ev 23 #[v12] h19) fun v20 h21 =>
lK c8_1 74 (up x [(1,v12),(4,(.slice Option.none 0 0)),(5,(.slice Option.none 0 0)),(6,v20),(7,(.int .i64 0)),(8,(x 1)),(9,(x 0)),(10,v0),(11,v1),(12,v2),(13,v3),(14,v5),(15,(x 0)),(16,v6),(17,v7),(18,v8),(19,v9),(20,v11),(21,v12),(22,(x 0)),(23,v13),(24,v14),(25,v15),(26,v16),(27,v17),(28,v18),(29,v12),(30,v20)]) h21 (zCr 0 (sK c8_2 k))) := by kernel_rfl
theorem c8_1_eq : cK c8_1 74 x h k =
(ln 68 (x 6) h).bind fun v22 =>
(bn .lss 3 (x 7) v22).bind fun v23 =>
cnd v23 (
(zBy Tryz.prog (x 0)).bind fun v24 =>
(fa 33 v24 3).bind fun v25 =>
(ld 31 v25 h).bind fun v26 =>
(ia 68 (x 6) (x 7)).bind fun v27 =>
(ld 3 v27 h).bind fun v28 =>
obH (ev 40 #[v26,x 1,v28] h) fun v29 h30 =>
obH (ev 39 #[v29] h30) fun v31 h32 =>
obH (ev 38 #[v31] h32) fun v33 h34 =>
obH (zBw Tryz.prog 34 1 #[(0, v33)] h34) fun v35 h36 =>
obH (ap 34 (some 34) (x 5) v35 h36) fun v37 h38 =>
(bn .add 3 (x 7) (.int .i64 1)).bind fun v39 =>
k .normal ⟨ar 74 (up x [(5,v37),(7,v39),(31,(x 7)),(32,(x 6)),(33,v22),(34,v23),(35,(x 7)),(36,v39),(37,(x 5)),(38,(x 0)),(39,v24),(40,v25),(41,v26),(42,(x 1)),(43,(x 6)),(44,(x 7)),(45,v27),(46,v28),(47,v29),(48,v31),(49,v33),(50,v35),(51,v37)]), h38⟩) (
k (.exit 0) ⟨ar 74 (up x [(31,(x 7)),(32,(x 6)),(33,v22),(34,v23)]), h⟩) := by kernel_rfl
theorem c8_2_eq : cK c8_2 74 x h k =
(zBy Tryz.prog (x 0)).bind fun v40 =>
(fa 33 v40 3).bind fun v41 =>
(ld 31 v41 h).bind fun v42 =>
obH (ev 42 #[v42,x 1] (nm h)) fun v43 h44 =>
(zBy Tryz.prog (x 0)).bind fun v45 =>
(fa 33 v45 1).bind fun v46 =>
(ld 3 v46 (am h44 h)).bind fun v47 =>
(zBy Tryz.prog (x 0)).bind fun v48 =>
(fa 33 v48 2).bind fun v49 =>
(ld 30 v49 (am h44 h)).bind fun v50 =>
(buildV Tryz.prog 87 #[(0, v47), (1, v50), (2, (x 1))]).bind fun v51 =>
obH (ev 41 #[v43,v51] (am h44 h)) fun v52 h53 =>
obH (ev 39 #[v52] h53) fun v54 h55 =>
(zBy Tryz.prog (x 0)).bind fun v56 =>
(fa 33 v56 3).bind fun v57 =>
(sto 31 v57 v54 h55).bind fun h58 =>
chk ((rb v49) ++ ((rb v46) ++ [])) (h44.mods ++ []) (
k .ret ⟨ar 74 (up x [(4,(x 5)),(52,(x 0)),(53,(x 0)),(54,v40),(55,v41),(56,v42),(57,(x 1)),(58,v43),(59,(x 0)),(60,v45),(61,v46),(62,v47),(63,(x 0)),(64,v48),(65,v49),(66,v50),(67,(x 1)),(68,v51),(69,v52),(70,v54),(71,v56),(72,v57),(73,(x 5))]), h58⟩) := by kernel_rfl
theorem call8 (a0 a1 : Value) : evC Tryz.prog 8 #[a0,a1] h = cK c8_0 74 (up un [(0,a0),(1,a1)]) (nm h) (zCw Tryz.f8 Tryz.prog h) :=
  (zCa 8 Tryz.f8 c8_0 Tryz.func8 (by kernel_rfl) #[a0,a1] h).trans (by kernel_rfl)
theorem ret8 : zCw Tryz.f8 Tryz.prog g .ret ⟨ar 74 x, h⟩ = fin g (some (x 4)) h := by kernel_rfl
end Go.Am
namespace Go.Am
open Go.Proofs
set_option maxRecDepth 100000
variable {β : Type} (x : Nat → Value) (h : Heap) (k : Ex → St → Option β) (r m : List Nat) (g : Heap)
noncomputable def c10_0 : Code := zCe Tryz.f10 []
theorem c10_0_eq : cK c10_0 67 x h k =
obH (ev 12 #[x 0,x 1,x 2,x 4] h) fun v0 h1 =>
(unV Tryz.prog .not v0).bind fun v2 =>
cnd v2 (
k .ret ⟨ar 67 (up x [(10,(.bool false)),(16,(x 0)),(17,(x 1)),(18,(x 2)),(19,(x 4)),(20,v0),(21,v2)]), h1⟩) (
obH (ev 44 #[x 4] h1) fun v3 h4 =>
(zDa v3 0).bind fun v5 =>
(zDa v3 1).bind fun v6 =>
obH (zBw Tryz.prog 29 0 #[] h4) fun v7 h8 =>
(zBy Tryz.prog (x 0)).bind fun v9 =>
(fa 33 v9 4).bind fun v10 =>
(ld 29 v10 h8).bind fun v11 =>
obH (ap 29 (some 29) v7 v11 h8) fun v12 h13 =>
(ia 29 v12 (x 1)).bind fun v14 =>
(sto 30 v14 (x 2) h13).bind fun h15 =>
(zBy Tryz.prog (x 0)).bind fun v16 =>
(fa 33 v16 4).bind fun v17 =>
(sto 29 v17 v12 h15).bind fun h18 =>
(zBy Tryz.prog (x 0)).bind fun v19 =>
(fa 33 v19 1).bind fun v20 =>
(ld 3 v20 h18).bind fun v21 =>
obH (cv 3 66 v21 h18) fun v22 h23 =>
(bn .shl 30 (.int .u64 1) v22).bind fun v24 =>
(buildV Tryz.prog 87 #[(0, (x 1)), (1, (x 2)), (2, (x 3))]).bind fun v25 =>
obH (ev 41 #[v5,v25] h23) fun v26 h27 =>
obH (ev 42 #[v26,v24] h27) fun v28 h29 =>
(zBy Tryz.prog (x 0)).bind fun v30 =>
(fa 33 v30 3).bind fun v31 =>
(ld 31 v31 h29).bind fun v32 =>
obH (ev 45 #[v32,v28] h29) fun v33 h34 =>
obH (ev 42 #[v33,v24] h34) fun v35 h36 =>
obH (ev 39 #[v35] h36) fun v37 h38 =>
(zBy Tryz.prog (x 0)).bind fun v39 =>
(fa 33 v39 3).bind fun v40 =>
(sto 31 v40 v37 h38).bind fun h41 =>
k .ret ⟨ar 67 (up x [(10,(.bool true)),(11,v5),(12,v6),(13,v12),(14,v24),(15,v28),(16,(x 0)),(17,(x 1)),(18,(x 2)),(19,(x 4)),(20,v0),(21,v2),(22,v3),(23,(x 4)),(24,v3),(25,v5),(26,v6),(27,v7),(28,(x 0)),(29,v9),(30,v10),(31,v11),(32,v12),(33,v12),(34,(x 1)),(35,(x 2)),(36,v14),(37,(x 0)),(38,v12),(39,v16),(40,v17),(41,(x 0)),(42,v19),(43,v20),(44,v21),(45,v22),(46,v24),(47,v5),(48,(x 1)),(49,(x 2)),(50,(x 3)),(51,v25),(52,v26),(53,v24),(54,v28),(55,(x 0)),(56,(x 0)),(57,v30),(58,v31),(59,v32),(60,v28),(61,v33),(62,v24),(63,v35),(64,v37),(65,v39),(66,v40)]), h41⟩) := by kernel_rfl
theorem call10 (a0 a1 a2 a3 a4 : Value) : evC Tryz.prog 10 #[a0,a1,a2,a3,a4] h = cK c10_0 67 (up un [(0,a0),(1,a1),(2,a2),(3,a3),(4,a4)]) (nm h) (zCw Tryz.f10 Tryz.prog h) :=
  (zCa 10 Tryz.f10 c10_0 Tryz.func10 (by kernel_rfl) #[a0,a1,a2,a3,a4] h).trans (by kernel_rfl)
theorem ret10 : zCw Tryz.f10 Tryz.prog g .ret ⟨ar 67 x, h⟩ = fin g (some (x 10)) h := by kernel_rfl
end Go.Am
namespace Go.Am
open Go.Proofs
set_option maxRecDepth 100000
variable {β : Type} (x : Nat → Value) (h : Heap) (k : Ex → St → Option β) (r m : List Nat) (g : Heap)
noncomputable def c3_0 : Code := zCe Tryz.f3 []
noncomputable def c3_1 : Code := zCe Tryz.f3 [true, true, true, true, true, true, true, false, true, false, false]
noncomputable def c3_2 : Code := zCe Tryz.f3 [true, true, true, true, true, true, true, true]
noncomputable def c3_3 : Code := zCe Tryz.f3 [true, true, true, true, true, true, true, false, true, false, false, false]
noncomputable def c3_4 : Code := zCe Tryz.f3 [true, true, true, true, true, true, true, false, true, false, false, true]
noncomputable def c3_5 : Code := zCe Tryz.f3 [true, true, true, true, true, true, true, false, true, false, false, true, false]
noncomputable def c3_6 : Code := zCe Tryz.f3 [true, true, true, true, true, true, true, false, true, false, false, true, true]
noncomputable def c3_7 : Code := zCe Tryz.f3 [true, true, true, true, true, true, true, false, true, false, false, true, false, false]
noncomputable def c3_8 : Code := zCe Tryz.f3 [true, true, true, true, true, true, true, false, true, false, false, true, false, false, false]
noncomputable def c3_9 : Code := zCe Tryz.f3 [true, true, true, true, true, true, true, false, true, false, false, true, false, false, true]
noncomputable def c3_10 : Code := zCe Tryz.f3 [true, true, true, true, true, true, true, false, true, false, false, true, false, false, true, false]
noncomputable def c3_11 : Code := zCe Tryz.f3 [true, true, true, true, true, true, true, false, true, false, false, true, false, false, true, true]
noncomputable def c3_12 : Code := zCe Tryz.f3 [true, true, true, true, true, true, true, false, true, false, false, true, false, false, true, true, false]
noncomputable def c3_13 : Code := zCe Tryz.f3 [true, true, true, true, true, true, true, false, true, false, false, true, false, false, true, true, true]
noncomputable def c3_14 : Code := zCe Tryz.f3 [true, true, true, true, true, true, true, false, true, false, false, true, false, false, true, true, true, false]
noncomputable def c3_15 : Code := zCe Tryz.f3 [true, true, true, true, true, true, true, false, true, false, false, true, false, false, true, true, true, true]
noncomputable def c3_16 : Code := zCe Tryz.f3 [true, true, true, true, true, true, true, false, true, false, false, true, false, false, true, true, true, true, false]
noncomputable def c3_17 : Code := zCe Tryz.f3 [true, true, true, true, true, true, true, false, true, false, false, true, false, false, true, true, true, true, true]
noncomputable def c3_18 : Code := zCe Tryz.f3 [true, true, true, true, true, true, true, false, true, false, false, true, false, false, true, true, true, true, false, true, false, true, false, true, true, true, false, false]
noncomputable def d3_0 : Array Oper := opsC (zCe Tryz.f3 [true, true, true, true, true, true, true, false, true, false, false, true, false, false, true, true, true, true, true, false])
noncomputable def c3_19 : Code := zCe Tryz.f3 [true, true, true, true, true, true, true, false, true, false, false, true, false, false, true, true, true, true, true, false]
noncomputable def c3_20 : Code := zCe Tryz.f3 [true, true, true, true, true, true, true, false, true, false, false, true, false, false, true, true, true, true, true, true]
theorem c3_0_eq : cK c3_0 202 x h k =
obH (ev 5 #[] h) fun v0 h1 =>
(unV Tryz.prog .not v0).bind fun v2 =>
cnd v2 (
k .ret ⟨ar 202 (up x [(6,(.bool false)),(17,v0),(18,v2)]), h1⟩) (
obH (ev 6 #[x 0,x 1] h1) fun v3 h4 =>
(zDa v3 0).bind fun v5 =>
(zDa v3 1).bind fun v6 =>
(bn .lss 3 (x 0) (.int .i64 1)).bind fun v7 =>
(gd (wt v7 false) (bn .gtr 3 (gdV (wt v7 false) (x 0)) (.int .i64 16))).bind fun v8 =>
(zDb v7 (.bool true) v8).bind fun v9 =>
(gd (wt v9 false) (bn .lss 3 (gdV (wt v9 false) (x 1)) (.int .i64 0))).bind fun v10 =>
(zDb v9 (.bool true) v10).bind fun v11 =>
(gd (wt v11 false) (bn .geq 3 (gdV (wt v11 false) (x 1)) (gdV (wt v11 false) (x 0)))).bind fun v12 =>
(zDb v11 (.bool true) v12).bind fun v13 =>
cnd v13 (
(bn .eql 25 v6 (.int .i64 1)).bind fun v14 =>
(gd (wt v14 true) (bn .eql 24 (gdV (wt v14 true) v5) (.pointer Option.none))).bind fun v15 =>
(zDb v14 v15 (.bool false)).bind fun v16 =>
k .ret ⟨ar 202 (up x [(6,v16),(7,v5),(8,v6),(17,v0),(18,v2),(19,v3),(20,(x 0)),(21,(x 1)),(22,v3),(23,v5),(24,v6),(25,(x 0)),(26,v7),(27,v7),(28,(gdV (wt v7 false) (x 0))),(29,v8),(30,v9),(31,v9),(32,(gdV (wt v9 false) (x 1))),(33,v10),(34,v11),(35,v11),(36,(gdV (wt v11 false) (x 1))),(37,(gdV (wt v11 false) (x 0))),(38,v12),(39,v13),(40,v6),(41,v14),(42,v14),(43,(gdV (wt v14 true) v5)),(44,v15),(45,v16)]), h4⟩) (
(bn .neq 25 v6 (.int .i64 0)).bind fun v17 =>
(gd (wt v17 false) (bn .eql 24 (gdV (wt v17 false) v5) (.pointer Option.none))).bind fun v18 =>
(zDb v17 (.bool true) v18).bind fun v19 =>
(gd (wt v19 false) (ln 22 (gdV (wt v19 false) (x 2)) h4)).bind fun v20 =>
(gd (wt v19 false) (bn .gtr 3 v20 (.int .i64 40))).bind fun v21 =>
(zDb v19 (.bool true) v21).bind fun v22 =>
cnd v22 (
(bn .eql 25 v6 (.int .i64 0)).bind fun v23 =>
(gd (wt v23 true) (bn .neq 24 (gdV (wt v23 true) v5) (.pointer Option.none))).bind fun v24 =>
(zDb v23 v24 (.bool false)).bind fun v25 =>
k .ret ⟨ar 202 (up x [(6,v25),(7,v5),(8,v6),(17,v0),(18,v2),(19,v3),(20,(x 0)),(21,(x 1)),(22,v3),(23,v5),(24,v6),(25,(x 0)),(26,v7),(27,v7),(28,(gdV (wt v7 false) (x 0))),(29,v8),(30,v9),(31,v9),(32,(gdV (wt v9 false) (x 1))),(33,v10),(34,v11),(35,v11),(36,(gdV (wt v11 false) (x 1))),(37,(gdV (wt v11 false) (x 0))),(38,v12),(39,v13),(46,v6),(47,v17),(48,v17),(49,(gdV (wt v17 false) v5)),(50,v18),(51,v19),(52,v19),(53,(gdV (wt v19 false) (x 2))),(54,v20),(55,v21),(56,v22),(57,v6),(58,v23),(59,v23),(60,(gdV (wt v23 true) v5)),(61,v24),(62,v25)]), h4⟩) (
obH (makeSliceV Tryz.prog 29 (x 0) (x 0) h4) fun v26 h27 =>
(buildV Tryz.prog 33 #[(0, (x 0)), (1, (x 1)), (4, v26)]).bind fun v28 =>
obH (boxV Tryz.prog 33 v28 h27) fun v29 h30 =>
lK c3_1 202 (up x [(6,(.bool false)),(7,v5),(8,v6),(9,v29),(10,(.slice Option.none 0 0)),(11,(.int .i64 0)),(17,v0),(18,v2),(19,v3),(20,(x 0)),(21,(x 1)),(22,v3),(23,v5),(24,v6),(25,(x 0)),(26,v7),(27,v7),(28,(gdV (wt v7 false) (x 0))),(29,v8),(30,v9),(31,v9),(32,(gdV (wt v9 false) (x 1))),(33,v10),(34,v11),(35,v11),(36,(gdV (wt v11 false) (x 1))),(37,(gdV (wt v11 false) (x 0))),(38,v12),(39,v13),(46,v6),(47,v17),(48,v17),(49,(gdV (wt v17 false) v5)),(50,v18),(51,v19),(52,v19),(53,(gdV (wt v19 false) (x 2))),(54,v20),(55,v21),(56,v22),(63,(x 0)),(64,(x 1)),(65,(x 0)),(66,v26),(67,v28),(68,v29)]) h30 (zCr 0 (sK c3_2 k))))) := by kernel_rfl
theorem c3_1_eq : cK c3_1 202 x h k =
cK c3_3 202 x h (sK c3_4 k) := codeK_seq _ _ _ _ _ (by kernel_rfl) _ _
theorem c3_2_eq : cK c3_2 202 x h k =
k .ret ⟨ar 202 (up x [(6,(.bool true))]), h⟩ := by kernel_rfl
theorem c3_3_eq : cK c3_3 202 x h k =
(ln 22 (x 2) h).bind fun v31 =>
(bn .lss 3 (x 11) v31).bind fun v32 =>
cnd v32 (
k .normal ⟨ar 202 (up x [(69,(x 11)),(70,(x 2)),(71,v31),(72,v32)]), h⟩) (
k (.exit 0) ⟨ar 202 (up x [(69,(x 11)),(70,(x 2)),(71,v31),(72,v32)]), h⟩) := by kernel_rfl
theorem c3_4_eq : cK c3_4 202 x h k =
cK c3_5 202 x h (sK c3_6 k) := codeK_seq _ _ _ _ _ (by kernel_rfl) _ _
theorem c3_5_eq : cK c3_5 202 x h k =
cK c3_7 202 x h (zCr 1 k) := codeK_block _ _ _ _ _ (by kernel_rfl) _ _
theorem c3_6_eq : cK c3_6 202 x h k =
(bn .add 3 (x 11) (.int .i64 1)).bind fun v33 =>
k .normal ⟨ar 202 (up x [(11,v33),(73,(x 11)),(74,v33)]), h⟩ := by kernel_rfl
theorem c3_7_eq : cK c3_7 202 x h k =
cK c3_8 202 x h (sK c3_9 k) := codeK_seq _ _ _ _ _ (by kernel_rfl) _ _
theorem c3_8_eq : cK c3_8 202 x h k =
(ia 22 (x 2) (x 11)).bind fun v34 =>
(ld 37 v34 h).bind fun v35 =>
obH (allocV Tryz.prog 37 h) fun v36 h37 =>
(sto 37 v36 v35 h37).bind fun h38 =>
k .normal ⟨ar 202 (up x [(12,v36),(75,(x 2)),(76,(x 11)),(77,v34),(78,v35)]), h38⟩ := by kernel_rfl
theorem c3_9_eq : cK c3_9 202 x h k =
cK c3_10 202 x h (sK c3_11 k) := codeK_seq _ _ _ _ _ (by kernel_rfl) _ _
theorem c3_10_eq : cK c3_10 202 x h k =
(fa 37 (x 12) 5).bind fun v39 =>
(ld 35 v39 h).bind fun v40 =>
(ln 35 v40 h).bind fun v41 =>
(bn .gtr 3 v41 (.int .i64 300)).bind fun v42 =>
(gd (wt v42 false) (fa 37 (x 12) 4)).bind fun v43 =>
(gd (wt v42 false) (ld 30 v43 h)).bind fun v44 =>
(gd (wt v42 false) (bn .gtr 30 v44 (.int .u64 65535))).bind fun v45 =>
(zDb v42 (.bool true) v45).bind fun v46 =>
cnd v46 (
k .ret ⟨ar 202 (up x [(6,(.bool true)),(79,v39),(80,v40),(81,v41),(82,v42),(83,v42),(84,v43),(85,v44),(86,v45),(87,v46)]), h⟩) (
k .normal ⟨ar 202 (up x [(79,v39),(80,v40),(81,v41),(82,v42),(83,v42),(84,v43),(85,v44),(86,v45),(87,v46)]), h⟩) := by kernel_rfl
theorem c3_11_eq : cK c3_11 202 x h k =
cK c3_12 202 x h (sK c3_13 k) := codeK_seq _ _ _ _ _ (by kernel_rfl) _ _
theorem c3_12_eq : cK c3_12 202 x h k =
(fa 37 (x 12) 5).bind fun v47 =>
(ld 35 v47 h).bind fun v48 =>
k .normal ⟨ar 202 (up x [(13,v48),(88,v47),(89,v48)]), h⟩ := by kernel_rfl
theorem c3_13_eq : cK c3_13 202 x h k =
cK c3_14 202 x h (sK c3_15 k) := codeK_seq _ _ _ _ _ (by kernel_rfl) _ _
theorem c3_14_eq : cK c3_14 202 x h k =
(fa 37 (x 12) 2).bind fun v49 =>
(ld 3 v49 h).bind fun v50 =>
(bn .geq 3 v50 (.int .i64 0)).bind fun v51 =>
(gd (wt v51 true) (fa 37 (x 12) 2)).bind fun v52 =>
(gd (wt v51 true) (ld 3 v52 h)).bind fun v53 =>
(gd (wt v51 true) (ln 34 (gdV (wt v51 true) (x 10)) h)).bind fun v54 =>
(gd (wt v51 true) (bn .lss 3 v53 v54)).bind fun v55 =>
(zDb v51 v55 (.bool false)).bind fun v56 =>
cnd v56 (
(fa 37 (x 12) 2).bind fun v57 =>
(ld 3 v57 h).bind fun v58 =>
(ia 34 (x 10) v58).bind fun v59 =>
(ld 35 v59 h).bind fun v60 =>
k .normal ⟨ar 202 (up x [(13,v60),(90,v49),(91,v50),(92,v51),(93,v51),(94,v52),(95,v53),(96,(gdV (wt v51 true) (x 10))),(97,v54),(98,v55),(99,v56),(100,(x 10)),(101,v57),(102,v58),(103,v59),(104,v60)]), h⟩) (
k .normal ⟨ar 202 (up x [(90,v49),(91,v50),(92,v51),(93,v51),(94,v52),(95,v53),(96,(gdV (wt v51 true) (x 10))),(97,v54),(98,v55),(99,v56)]), h⟩) := by kernel_rfl
theorem c3_15_eq : cK c3_15 202 x h k =
cK c3_16 202 x h (sK c3_17 k) := codeK_seq _ _ _ _ _ (by kernel_rfl) _ _
theorem c3_16_eq : cK c3_16 202 x h k =
(fa 37 (x 12) 0).bind fun v61 =>
(ld 3 v61 h).bind fun v62 =>
(bn .eql 3 v62 (.int .i64 0)).bind fun v63 =>
cnd v63 (
(fa 37 (x 12) 4).bind fun v64 =>
(ld 30 v64 h).bind fun v65 =>
obH (ev 7 #[x 7,v65] (nm h)) fun v66 h67 =>
(fa 37 (x 12) 4).bind fun v68 =>
(ld 30 v68 (am h67 h)).bind fun v69 =>
obH (ev 8 #[x 9,v69] (am h67 h)) fun v70 h71 =>
chk ((rb v68) ++ []) (h67.mods ++ []) (
(ln 34 v66 h71).bind fun v72 =>
(ln 34 v70 h71).bind fun v73 =>
(bn .neq 3 v72 v73).bind fun v74 =>
cnd v74 (
k .ret ⟨ar 202 (up x [(6,(.bool false)),(14,v66),(15,v70),(105,v61),(106,v62),(122,v63),(123,v63),(124,(x 7)),(125,v64),(126,v65),(127,v66),(128,(x 9)),(129,v68),(130,v69),(131,v70),(132,v66),(133,v72),(134,v70),(135,v73),(136,v74)]), h71⟩) (
lK c3_18 202 (up x [(14,v66),(15,v70),(16,(.int .i64 0)),(105,v61),(106,v62),(122,v63),(123,v63),(124,(x 7)),(125,v64),(126,v65),(127,v66),(128,(x 9)),(129,v68),(130,v69),(131,v70),(132,v66),(133,v72),(134,v70),(135,v73),(136,v74)]) h71 (zCr 3 (zCr 2 k))))) (
(bn .eql 3 v62 (.int .i64 1)).bind fun v75 =>
cnd v75 (
(fa 37 (x 12) 1).bind fun v76 =>
(ld 3 v76 h).bind fun v77 =>
(fa 37 (x 12) 3).bind fun v78 =>
(ld 30 v78 h).bind fun v79 =>
(fa 37 (x 12) 4).bind fun v80 =>
(ld 30 v80 h).bind fun v81 =>
obH (ev 9 #[x 7,v77,v79,v81,x 13] (nm h)) fun v82 h83 =>
(fa 37 (x 12) 1).bind fun v84 =>
(ld 3 v84 (am h83 h)).bind fun v85 =>
(fa 37 (x 12) 3).bind fun v86 =>
(ld 30 v86 (am h83 h)).bind fun v87 =>
(fa 37 (x 12) 4).bind fun v88 =>
(ld 30 v88 (am h83 h)).bind fun v89 =>
obH (ev 10 #[x 9,v85,v87,v89,x 13] (am h83 h)) fun v90 h91 =>
(bn .neq 4 v82 v90).bind fun v92 =>
chk ((rb v88) ++ ((rb v86) ++ ((rb v84) ++ []))) (h83.mods ++ []) (
cnd v92 (
k .ret ⟨ar 202 (up x [(6,(.bool false)),(105,v61),(106,v62),(122,v63),(123,v63),(161,v75),(162,v75),(163,(x 7)),(164,v76),(165,v77),(166,v78),(167,v79),(168,v80),(169,v81),(170,(x 13)),(171,v82),(172,(x 9)),(173,v84),(174,v85),(175,v86),(176,v87),(177,v88),(178,v89),(179,(x 13)),(180,v90),(181,v92)]), h91⟩) (
k .normal ⟨ar 202 (up x [(105,v61),(106,v62),(122,v63),(123,v63),(161,v75),(162,v75),(163,(x 7)),(164,v76),(165,v77),(166,v78),(167,v79),(168,v80),(169,v81),(170,(x 13)),(171,v82),(172,(x 9)),(173,v84),(174,v85),(175,v86),(176,v87),(177,v88),(178,v89),(179,(x 13)),(180,v90),(181,v92)]), h91⟩))) (
(fa 37 (x 12) 1).bind fun v93 =>
(ld 3 v93 h).bind fun v94 =>
(fa 37 (x 12) 3).bind fun v95 =>
(ld 30 v95 h).bind fun v96 =>
obH (ev 11 #[x 7,v94,v96,x 13] (nm h)) fun v97 h98 =>
(fa 37 (x 12) 1).bind fun v99 =>
(ld 3 v99 (am h98 h)).bind fun v100 =>
(fa 37 (x 12) 3).bind fun v101 =>
(ld 30 v101 (am h98 h)).bind fun v102 =>
obH (ev 12 #[x 9,v100,v102,x 13] (am h98 h)) fun v103 h104 =>
(bn .neq 4 v97 v103).bind fun v105 =>
chk ((rb v101) ++ ((rb v99) ++ [])) (h98.mods ++ []) (
cnd v105 (
k .ret ⟨ar 202 (up x [(6,(.bool false)),(105,v61),(106,v62),(107,(x 7)),(108,v93),(109,v94),(110,v95),(111,v96),(112,(x 13)),(113,v97),(114,(x 9)),(115,v99),(116,v100),(117,v101),(118,v102),(119,(x 13)),(120,v103),(121,v105),(122,v63),(123,v63),(161,v75),(162,v75)]), h104⟩) (
k .normal ⟨ar 202 (up x [(105,v61),(106,v62),(107,(x 7)),(108,v93),(109,v94),(110,v95),(111,v96),(112,(x 13)),(113,v97),(114,(x 9)),(115,v99),(116,v100),(117,v101),(118,v102),(119,(x 13)),(120,v103),(121,v105),(122,v63),(123,v63),(161,v75),(162,v75)]), h104⟩)))) := by kernel_rfl
theorem c3_17_eq : cK c3_17 202 x h k =
cK c3_19 202 x h (sK c3_20 k) := codeK_seq _ _ _ _ _ (by kernel_rfl) _ _
theorem c3_18_eq : cK c3_18 202 x h k =
(ln 34 (x 15) h).bind fun v106 =>
(bn .lss 3 (x 16) v106).bind fun v107 =>
cnd v107 (
(ia 34 (x 14) (x 16)).bind fun v108 =>
(ld 35 v108 h).bind fun v109 =>
obH (cv 35 9 v109 h) fun v110 h111 =>
(ia 34 (x 15) (x 16)).bind fun v112 =>
(ld 35 v112 h111).bind fun v113 =>
obH (cv 35 9 v113 h111) fun v114 h115 =>
(bn .neq 9 v110 v114).bind fun v116 =>
cnd v116 (
k .ret ⟨ar 202 (up x [(6,(.bool false)),(137,(x 16)),(138,(x 15)),(139,v106),(140,v107),(143,(x 14)),(144,(x 16)),(145,v108),(146,v109),(147,v110),(148,(x 15)),(149,(x 16)),(150,v112),(151,v113),(152,v114),(153,v116)]), h115⟩) (
(ia 34 (x 14) (x 16)).bind fun v117 =>
(ld 35 v117 h115).bind fun v118 =>
obH (zBw Tryz.prog 34 1 #[(0, v118)] h115) fun v119 h120 =>
obH (ap 34 (some 34) (x 10) v119 h120) fun v121 h122 =>
(bn .add 3 (x 16) (.int .i64 1)).bind fun v123 =>
k .normal ⟨ar 202 (up x [(10,v121),(16,v123),(137,(x 16)),(138,(x 15)),(139,v106),(140,v107),(141,(x 16)),(142,v123),(143,(x 14)),(144,(x 16)),(145,v108),(146,v109),(147,v110),(148,(x 15)),(149,(x 16)),(150,v112),(151,v113),(152,v114),(153,v116),(154,(x 10)),(155,(x 14)),(156,(x 16)),(157,v117),(158,v118),(159,v119),(160,v121)]), h122⟩)) (
k (.exit 3) ⟨ar 202 (up x [(137,(x 16)),(138,(x 15)),(139,v106),(140,v107)]), h⟩) := by kernel_rfl
theorem d3_0_0 (k : St → Option β) : rD d3_0 0 202 x h r m k =
rD d3_0 1 202 (up x [(182,(x 7))]) h r m k := zDf _ _ d3_0 0 (by kernel_rfl) (by kernel_rfl) (by kernel_rfl) _ _ _ _ _ _ (by kernel_rfl) (by kernel_rfl)
theorem d3_0_1 (k : St → Option β) : rD d3_0 1 202 x h r m k =
obH (ev 14 #[x 182] (nm h)) fun v124 h125 =>
rD d3_0 2 202 (up x [(183,v124)]) (am h125 h) r (h125.mods ++ m) k := (zBx _ _ d3_0 1 (by kernel_rfl) _ _ _ _).trans (by kernel_rfl)
theorem d3_0_2 (k : St → Option β) : rD d3_0 2 202 x h r m k =
rD d3_0 3 202 (up x [(184,(x 9))]) h r m k := zDf _ _ d3_0 2 (by kernel_rfl) (by kernel_rfl) (by kernel_rfl) _ _ _ _ _ _ (by kernel_rfl) (by kernel_rfl)
theorem d3_0_3 (k : St → Option β) : rD d3_0 3 202 x h r m k =
(zBy Tryz.prog (x 184)).bind fun v126 =>
rD d3_0 4 202 (up x [(185,v126)]) h r m k := (zBx _ _ d3_0 3 (by kernel_rfl) _ _ _ _).trans (by kernel_rfl)
theorem d3_0_4 (k : St → Option β) : rD d3_0 4 202 x h r m k =
(fa 33 (x 185) 4).bind fun v127 =>
rD d3_0 5 202 (up x [(186,v127)]) h r m k := (zBx _ _ d3_0 4 (by kernel_rfl) _ _ _ _).trans (by kernel_rfl)
theorem d3_0_5 (k : St → Option β) : rD d3_0 5 202 x h r m k =
(ld 29 (x 186) h).bind fun v128 =>
rD d3_0 6 202 (up x [(187,v128)]) h ((rb (x 186)) ++ r) m k := (zBx _ _ d3_0 5 (by kernel_rfl) _ _ _ _).trans (by kernel_rfl)
theorem d3_0_6 (k : St → Option β) : rD d3_0 6 202 x h r m k =
obH (ev 13 #[x 183,x 187] h) fun v129 h130 =>
rD d3_0 7 202 (up x [(188,v129)]) h130 r m k := (zBx _ _ d3_0 6 (by kernel_rfl) _ _ _ _).trans (by kernel_rfl)
theorem d3_0_7 (k : St → Option β) : rD d3_0 7 202 x h r m k =
(unV Tryz.prog .not (x 188)).bind fun v131 =>
rD d3_0 8 202 (up x [(189,v131)]) h r m k := (zBx _ _ d3_0 7 (by kernel_rfl) _ _ _ _).trans (by kernel_rfl)
theorem d3_0_8 (k : St → Option β) : rD d3_0 8 202 x h r m k =
rD d3_0 9 202 (up x [(190,(x 189))]) h r m k := zDf _ _ d3_0 8 (by kernel_rfl) (by kernel_rfl) (by kernel_rfl) _ _ _ _ _ _ (by kernel_rfl) (by kernel_rfl)
theorem d3_0_9 (k : St → Option β) : rD d3_0 9 202 x h r m k =
rD d3_0 10 202 (up x [(191,(gdV (wt (x 190) false) (x 7)))]) h r m k := zDf _ _ d3_0 9 (by kernel_rfl) (by kernel_rfl) (by kernel_rfl) _ _ _ _ _ _ (by kernel_rfl) (by kernel_rfl)
theorem d3_0_10 (k : St → Option β) : rD d3_0 10 202 x h r m k =
obH (gdH (wt (x 190) false) (nm h) (ev 17 #[x 191] (nm h))) fun v132 h133 =>
rD d3_0 11 202 (up x [(192,v132)]) (am h133 h) r (h133.mods ++ m) k := (zBx _ _ d3_0 10 (by kernel_rfl) _ _ _ _).trans (by kernel_rfl)
theorem d3_0_11 (k : St → Option β) : rD d3_0 11 202 x h r m k =
(gd (wt (x 190) false) (fv 51 (x 192) 0)).bind fun v134 =>
rD d3_0 12 202 (up x [(193,v134)]) h r m k := (zBx _ _ d3_0 11 (by kernel_rfl) _ _ _ _).trans (by kernel_rfl)
theorem d3_0_12 (k : St → Option β) : rD d3_0 12 202 x h r m k =
obH (gdH (wt (x 190) false) (nm h) (ev 16 #[x 193] (nm h))) fun v135 h136 =>
rD d3_0 13 202 (up x [(194,v135)]) (am h136 h) r (h136.mods ++ m) k := (zBx _ _ d3_0 12 (by kernel_rfl) _ _ _ _).trans (by kernel_rfl)
theorem d3_0_13 (k : St → Option β) : rD d3_0 13 202 x h r m k =
rD d3_0 14 202 (up x [(195,(gdV (wt (x 190) false) (x 9)))]) h r m k := zDf _ _ d3_0 13 (by kernel_rfl) (by kernel_rfl) (by kernel_rfl) _ _ _ _ _ _ (by kernel_rfl) (by kernel_rfl)
theorem d3_0_14 (k : St → Option β) : rD d3_0 14 202 x h r m k =
(gd (wt (x 190) false) (zBy Tryz.prog (x 195))).bind fun v137 =>
rD d3_0 15 202 (up x [(196,v137)]) h r m k := (zBx _ _ d3_0 14 (by kernel_rfl) _ _ _ _).trans (by kernel_rfl)
theorem d3_0_15 (k : St → Option β) : rD d3_0 15 202 x h r m k =
(gd (wt (x 190) false) (fa 33 (x 196) 3)).bind fun v138 =>
rD d3_0 16 202 (up x [(197,v138)]) h r m k := (zBx _ _ d3_0 15 (by kernel_rfl) _ _ _ _).trans (by kernel_rfl)
theorem d3_0_16 (k : St → Option β) : rD d3_0 16 202 x h r m k =
(gd (wt (x 190) false) (ld 31 (x 197) h)).bind fun v139 =>
rD d3_0 17 202 (up x [(198,v139)]) h (rdL (wt (x 190) false) (rb (x 197)) ++ r) m k := (zBx _ _ d3_0 16 (by kernel_rfl) _ _ _ _).trans (by kernel_rfl)
theorem d3_0_17 (k : St → Option β) : rD d3_0 17 202 x h r m k =
obH (gdH (wt (x 190) false) h (ev 15 #[x 194,x 198] h)) fun v140 h141 =>
rD d3_0 18 202 (up x [(199,v140)]) h141 r m k := (zBx _ _ d3_0 17 (by kernel_rfl) _ _ _ _).trans (by kernel_rfl)
theorem d3_0_18 (k : St → Option β) : rD d3_0 18 202 x h r m k =
(gd (wt (x 190) false) (unV Tryz.prog .not (x 199))).bind fun v142 =>
rD d3_0 19 202 (up x [(200,v142)]) h r m k := (zBx _ _ d3_0 18 (by kernel_rfl) _ _ _ _).trans (by kernel_rfl)
theorem d3_0_19 (k : St → Option β) : rD d3_0 19 202 x h r m k =
(zDb (x 190) (.bool true) (x 200)).bind fun v143 =>
rD d3_0 20 202 (up x [(201,v143)]) h r m k := (zBx _ _ d3_0 19 (by kernel_rfl) _ _ _ _).trans (by kernel_rfl)
theorem d3_0_20 (k : St → Option β) : rD d3_0 20 202 x h r m k =
chk r m (k ⟨ar 202 x, h⟩) := by kernel_rfl
theorem c3_19_eq : cK c3_19 202 x h k =
rD d3_0 0 202 x h [] [] (fun s => k .normal s) := by kernel_rfl
theorem c3_20_eq : cK c3_20 202 x h k =
cnd (x 201) (
k .ret ⟨ar 202 (up x [(6,(.bool false))]), h⟩) (
k .normal ⟨ar 202 x, h⟩) := by kernel_rfl
theorem call3 (a0 a1 a2 : Value) : evC Tryz.prog 3 #[a0,a1,a2] h = cK c3_0 202 (up un [(0,a0),(1,a1),(2,a2)]) (nm h) (zCw Tryz.f3 Tryz.prog h) :=
  (zCa 3 Tryz.f3 c3_0 Tryz.func3 (by kernel_rfl) #[a0,a1,a2] h).trans (by kernel_rfl)
theorem ret3 : zCw Tryz.f3 Tryz.prog g .ret ⟨ar 202 x, h⟩ = fin g (some (x 6)) h := by kernel_rfl
end Go.Am
