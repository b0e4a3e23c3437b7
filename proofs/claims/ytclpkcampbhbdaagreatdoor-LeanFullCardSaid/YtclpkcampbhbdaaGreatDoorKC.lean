/- What the texts of functions come to in the machine (printed by a program of this seat; Lean checks it). -/
import Derived.Test.YtclpkcampbhbdaaGreatDoorKB
import Derived.Test.YtclpkcampbhbdaaGreatDoorChecked
import Derived.KernelRfl
set_option linter.all false
namespace Go.Am
open Go.Proofs
set_option maxRecDepth 100000
variable (Aa Ab Ac Ad Ae Af Ag Ah Ai Aj Ak:Value)
noncomputable def c113_0:Code:=zAk Tryz.f113 []
noncomputable def c113_1:Code:=zAk Tryz.f113 [true,true,false,false,false]
noncomputable def c113_2:Code:=zAk Tryz.f113 [true,true,true]
theorem c113_0_eq {β:Type} (h:Heap) (k:Ex->St->Option β):zAy Tryz.prog (evC Tryz.prog) zAx c113_0 ⟨#[Aa,Ab,Ac,Ad,Ae,Af,Ag,Ah,Ai,Aj,Ak],h⟩ k =
loopK Tryz.prog (evC Tryz.prog) c113_1 ⟨#[Aa,Ab,(Go.Value.int Go.IntKind.i64 0),(Go.Value.int Go.IntKind.i64 1),Ae,Af,Ag,Ah,Ai,Aj,Ak],h⟩ (zAu 0 (seqK Tryz.prog (evC Tryz.prog) c113_2 k)):=by kernel_rfl
theorem c113_1_eq {β:Type} (h:Heap) (k:Ex->St->Option β):zAy Tryz.prog (evC Tryz.prog) zAx c113_1 ⟨#[Aa,Ab,Ac,Ad,Ae,Af,Ag,Ah,Ai,Aj,Ak],h⟩ k =
(zBk Tryz.prog .geq 30 (.tmp 4) (.const (Go.Value.int Go.IntKind.u64 128)) Aa (Go.Value.int Go.IntKind.u64 128)).bind fun t5_0=>
cnd t5_0 (
(zBk Tryz.prog .shr 30 (.tmp 6) (.const (Go.Value.int Go.IntKind.u64 7)) Aa (Go.Value.int Go.IntKind.u64 7)).bind fun t7_1=>
(zBk Tryz.prog .add 3 (.tmp 8) (.const (Go.Value.int Go.IntKind.i64 1)) Ad (Go.Value.int Go.IntKind.i64 1)).bind fun t9_2=>
k .normal ⟨#[t7_1,Ab,Ac,t9_2,Aa,t5_0,Aa,t7_1,Ad,t9_2,Ak],h⟩) (
k (.exit 0) ⟨#[Aa,Ab,Ac,Ad,Aa,t5_0,Ag,Ah,Ai,Aj,Ak],h⟩):=by kernel_rfl
theorem c113_2_eq {β:Type} (h:Heap) (k:Ex->St->Option β):zAy Tryz.prog (evC Tryz.prog) zAx c113_2 ⟨#[Aa,Ab,Ac,Ad,Ae,Af,Ag,Ah,Ai,Aj,Ak],h⟩ k =
k .ret ⟨#[Aa,Ab,Ad,Ad,Ae,Af,Ag,Ah,Ai,Aj,Ad],h⟩:=by kernel_rfl
theorem call113 (h:Heap):evC Tryz.prog 113 #[Aa] h=zAy Tryz.prog (evC Tryz.prog) zAx c113_0 ⟨#[Aa,undef,undef,undef,undef,undef,undef,undef,undef,undef,undef],nm h⟩ (zBb Tryz.f113 Tryz.prog h):=
 (zAo 113 Tryz.f113 c113_0 Tryz.func113 (by kernel_rfl) #[Aa] h).trans (by kernel_rfl)
theorem ret113 (h0 h:Heap):zBb Tryz.f113 Tryz.prog h0 .ret ⟨#[Aa,Ab,Ac,Ad,Ae,Af,Ag,Ah,Ai,Aj,Ak],h⟩=fin h0 (some Ac) h:=by kernel_rfl
end Go.Am
namespace Go.Am
open Go.Proofs
set_option maxRecDepth 100000
variable (Aa Ab Ac Ad Ae Af Ag Ah Ai Aj Ak Al An Ao Ap Aq Ar As Au Av Aw Ax Ay:Value)
noncomputable def c99_0:Code:=zAk Tryz.f99 []
noncomputable def c99_1:Code:=zAk Tryz.f99 [true,true,false,false,false]
noncomputable def c99_2:Code:=zAk Tryz.f99 [true,true,true]
theorem c99_0_eq {β:Type} (h:Heap) (k:Ex->St->Option β):zAy Tryz.prog (evC Tryz.prog) zAx c99_0 ⟨#[Aa,Ab,Ac,Ad,Ae,Af,Ag,Ah,Ai,Aj,Ak,Al,An,Ao,Ap,Aq,Ar,As,Au,Av,Aw,Ax,Ay],h⟩ k =
obH (zBh Tryz.prog 35 (some 35) (Go.Value.slice Option.none 0 0) Aa h) fun t7_0 h1=>
loopK Tryz.prog (evC Tryz.prog) c99_1 ⟨#[Aa,Ab,Ac,Ad,(Go.Value.slice Option.none 0 0),t7_0,Aa,t7_0,Ai,Aj,Ak,Al,An,Ao,Ap,Aq,Ar,As,Au,Av,Aw,Ax,Ay],h1⟩ (zAu 0 (seqK Tryz.prog (evC Tryz.prog) c99_2 k)):=by kernel_rfl
theorem c99_1_eq {β:Type} (h:Heap) (k:Ex->St->Option β):zAy Tryz.prog (evC Tryz.prog) zAx c99_1 ⟨#[Aa,Ab,Ac,Ad,Ae,Af,Ag,Ah,Ai,Aj,Ak,Al,An,Ao,Ap,Aq,Ar,As,Au,Av,Aw,Ax,Ay],h⟩ k =
(zBk Tryz.prog .geq 30 (.tmp 8) (.const (Go.Value.int Go.IntKind.u64 128)) Ab (Go.Value.int Go.IntKind.u64 128)).bind fun t9_2=>
cnd t9_2 (
obH (convV Tryz.prog 30 5 Ab h) fun t12_3 h4=>
(zBk Tryz.prog .or 5 (.tmp 12) (.const (Go.Value.int Go.IntKind.u8 128)) t12_3 (Go.Value.int Go.IntKind.u8 128)).bind fun t13_5=>
obH (zAi Tryz.prog 35 1 #[(0,t13_5)] h4) fun t14_6 h7=>
obH (zBh Tryz.prog 35 (some 35) Af t14_6 h7) fun t15_8 h9=>
(zBk Tryz.prog .shr 30 (.tmp 16) (.const (Go.Value.int Go.IntKind.u64 7)) Ab (Go.Value.int Go.IntKind.u64 7)).bind fun t17_10=>
k .normal ⟨#[Aa,t17_10,Ac,Ad,Ae,t15_8,Ag,Ah,Ab,t9_2,Af,Ab,t12_3,t13_5,t14_6,t15_8,Ab,t17_10,Au,Av,Aw,Ax,Ay],h9⟩) (
k (.exit 0) ⟨#[Aa,Ab,Ac,Ad,Ae,Af,Ag,Ah,Ab,t9_2,Ak,Al,An,Ao,Ap,Aq,Ar,As,Au,Av,Aw,Ax,Ay],h⟩):=by kernel_rfl
theorem c99_2_eq {β:Type} (h:Heap) (k:Ex->St->Option β):zAy Tryz.prog (evC Tryz.prog) zAx c99_2 ⟨#[Aa,Ab,Ac,Ad,Ae,Af,Ag,Ah,Ai,Aj,Ak,Al,An,Ao,Ap,Aq,Ar,As,Au,Av,Aw,Ax,Ay],h⟩ k =
obH (convV Tryz.prog 30 5 Ab h) fun t20_11 h12=>
obH (zAi Tryz.prog 35 1 #[(0,t20_11)] h12) fun t21_13 h14=>
obH (zBh Tryz.prog 35 (some 35) Af t21_13 h14) fun t22_15 h16=>
k .ret ⟨#[Aa,Ab,Ac,Ad,t22_15,Af,Ag,Ah,Ai,Aj,Ak,Al,An,Ao,Ap,Aq,Ar,As,Af,Ab,t20_11,t21_13,t22_15],h16⟩:=by kernel_rfl
theorem call99 (h:Heap):evC Tryz.prog 99 #[Aa,Ab] h=zAy Tryz.prog (evC Tryz.prog) zAx c99_0 ⟨#[Aa,Ab,undef,undef,undef,undef,undef,undef,undef,undef,undef,undef,undef,undef,undef,undef,undef,undef,undef,undef,undef,undef,undef],nm h⟩ (zBb Tryz.f99 Tryz.prog h):=
 (zAo 99 Tryz.f99 c99_0 Tryz.func99 (by kernel_rfl) #[Aa,Ab] h).trans (by kernel_rfl)
theorem ret99 (h0 h:Heap):zBb Tryz.f99 Tryz.prog h0 .ret ⟨#[Aa,Ab,Ac,Ad,Ae,Af,Ag,Ah,Ai,Aj,Ak,Al,An,Ao,Ap,Aq,Ar,As,Au,Av,Aw,Ax,Ay],h⟩=fin h0 (some Ae) h:=by kernel_rfl
end Go.Am
namespace Go.Am
open Go.Proofs
set_option maxRecDepth 100000
variable (Aa Ab Ac Ad Ae Af Ag Ah Ai Aj Ak Al An Ao Ap Aq Ar As Au Av Aw Ax Ay Az Ba Bb Bc Bd Be Bf Bg Bh Bi Bj Bk Bl Bm Bn Bo Bp Bq Br:Value)
noncomputable def c96_0:Code:=zAk Tryz.f96 []
noncomputable def c96_1:Code:=zAk Tryz.f96 [true,false,true,false,false]
noncomputable def c96_2:Code:=zAk Tryz.f96 [true,true]
theorem c96_0_eq {β:Type} (h:Heap) (k:Ex->St->Option β):zAy Tryz.prog (evC Tryz.prog) zAx c96_0 ⟨#[Aa,Ab,Ac,Ad,Ae,Af,Ag,Ah,Ai,Aj,Ak,Al,An,Ao,Ap,Aq,Ar,As,Au,Av,Aw,Ax,Ay,Az,Ba,Bb,Bc,Bd,Be,Bf,Bg,Bh,Bi,Bj,Bk,Bl,Bm,Bn,Bo,Bp,Bq,Br],h⟩ k =
(lenV Tryz.prog 35 Aa h).bind fun t7_0=>
loopK Tryz.prog (evC Tryz.prog) c96_1 ⟨#[Aa,Ab,(Go.Value.int Go.IntKind.u64 0),(Go.Value.int Go.IntKind.i64 0),Ae,Af,Aa,t7_0,(Go.Value.int Go.IntKind.i64 0),Aj,Ak,Al,An,Ao,Ap,Aq,Ar,As,Au,Av,Aw,Ax,Ay,Az,Ba,Bb,Bc,Bd,Be,Bf,Bg,Bh,Bi,Bj,Bk,Bl,Bm,Bn,Bo,Bp,Bq,Br],h⟩ (zAu 0 (seqK Tryz.prog (evC Tryz.prog) c96_2 k)):=by kernel_rfl
theorem c96_1_eq {β:Type} (h:Heap) (k:Ex->St->Option β):zAy Tryz.prog (evC Tryz.prog) zAx c96_1 ⟨#[Aa,Ab,Ac,Ad,Ae,Af,Ag,Ah,Ai,Aj,Ak,Al,An,Ao,Ap,Aq,Ar,As,Au,Av,Aw,Ax,Ay,Az,Ba,Bb,Bc,Bd,Be,Bf,Bg,Bh,Bi,Bj,Bk,Bl,Bm,Bn,Bo,Bp,Bq,Br],h⟩ k =
(zBk Tryz.prog .lss 3 (.tmp 8) (.tmp 7) Ai Ah).bind fun t9_1=>
cnd t9_1 (
(zAh Tryz.prog 35 Ag Ai).bind fun t11_2=>
(zAw Tryz.prog 5 t11_2 h).bind fun t12_3=>
(zBk Tryz.prog .eql 3 (.tmp 13) (.const (Go.Value.int Go.IntKind.i64 10)) Ai (Go.Value.int Go.IntKind.i64 10)).bind fun t14_4=>
cnd t14_4 (
k (.exit 0) ⟨#[Aa,Ab,Ac,Ad,Ai,t12_3,Ag,Ah,Ai,t9_1,Ai,t11_2,t12_3,Ai,t14_4,Aq,Ar,As,Au,Av,Aw,Ax,Ay,Az,Ba,Bb,Bc,Bd,Be,Bf,Bg,Bh,Bi,Bj,Bk,Bl,Bm,Bn,Bo,Bp,Bq,Br],h⟩) (
(zBk Tryz.prog .and 5 (.tmp 16) (.const (Go.Value.int Go.IntKind.u8 127)) t12_3 (Go.Value.int Go.IntKind.u8 127)).bind fun t17_5=>
obH (convV Tryz.prog 5 30 t17_5 h) fun t18_6 h7=>
(zBk Tryz.prog .mul 3 (.const (Go.Value.int Go.IntKind.i64 7)) (.tmp 19) (Go.Value.int Go.IntKind.i64 7) Ai).bind fun t20_8=>
(zBk Tryz.prog .shl 30 (.tmp 18) (.tmp 20) t18_6 t20_8).bind fun t21_9=>
(zBk Tryz.prog .or 30 (.tmp 15) (.tmp 21) Ac t21_9).bind fun t22_10=>
(zBk Tryz.prog .lss 5 (.tmp 23) (.const (Go.Value.int Go.IntKind.u8 128)) t12_3 (Go.Value.int Go.IntKind.u8 128)).bind fun t24_11=>
cnd t24_11 (
obH (evC Tryz.prog 113 #[t22_10] h7) fun t26_12 h13=>
(zBk Tryz.prog .add 3 (.tmp 27) (.const (Go.Value.int Go.IntKind.i64 1)) Ai (Go.Value.int Go.IntKind.i64 1)).bind fun t28_14=>
(zBk Tryz.prog .neq 3 (.tmp 26) (.tmp 28) t26_12 t28_14).bind fun t29_15=>
(gd (wt t29_15 false) (zBk Tryz.prog .eql 3 (.tmp 31) (.const (Go.Value.int Go.IntKind.i64 9)) (gdV (wt t29_15 false) Ai) (Go.Value.int Go.IntKind.i64 9))).bind fun t32_16=>
(gd (wt (gdV (wt t29_15 false) t32_16) true) (zBk Tryz.prog .gtr 5 (.tmp 34) (.const (Go.Value.int Go.IntKind.u8 1)) (gdV (wt (gdV (wt t29_15 false) t32_16) true) t12_3) (Go.Value.int Go.IntKind.u8 1))).bind fun t35_17=>
(gd (wt t29_15 false) (zBo (gdV (wt t29_15 false) t32_16) t35_17 (Go.Value.bool Bool.false))).bind fun t36_18=>
(zBo t29_15 (Go.Value.bool Bool.true) t36_18).bind fun t37_19=>
cnd t37_19 (
k (.exit 0) ⟨#[Aa,Ab,t22_10,Ad,Ai,t12_3,Ag,Ah,Ai,t9_1,Ai,t11_2,t12_3,Ai,t14_4,Ac,t12_3,t17_5,t18_6,Ai,t20_8,t21_9,t22_10,t12_3,t24_11,t22_10,t26_12,Ai,t28_14,t29_15,t29_15,(gdV (wt t29_15 false) Ai),t32_16,(gdV (wt t29_15 false) t32_16),(gdV (wt (gdV (wt t29_15 false) t32_16) true) t12_3),t35_17,t36_18,t37_19,Bo,Bp,Bq,Br],h13⟩) (
(zBk Tryz.prog .add 3 (.tmp 39) (.const (Go.Value.int Go.IntKind.i64 1)) Ai (Go.Value.int Go.IntKind.i64 1)).bind fun t40_20=>
k .ret ⟨#[Aa,Ab,t22_10,t40_20,Ai,t12_3,Ag,Ah,Ai,t9_1,Ai,t11_2,t12_3,Ai,t14_4,Ac,t12_3,t17_5,t18_6,Ai,t20_8,t21_9,t22_10,t12_3,t24_11,t22_10,t26_12,Ai,t28_14,t29_15,t29_15,(gdV (wt t29_15 false) Ai),t32_16,(gdV (wt t29_15 false) t32_16),(gdV (wt (gdV (wt t29_15 false) t32_16) true) t12_3),t35_17,t36_18,t37_19,t22_10,Ai,t40_20,Br],h13⟩)) (
(zBk Tryz.prog .add 3 (.tmp 8) (.const (Go.Value.int Go.IntKind.i64 1)) Ai (Go.Value.int Go.IntKind.i64 1)).bind fun t41_21=>
k .normal ⟨#[Aa,Ab,t22_10,Ad,Ai,t12_3,Ag,Ah,t41_21,t9_1,Ai,t11_2,t12_3,Ai,t14_4,Ac,t12_3,t17_5,t18_6,Ai,t20_8,t21_9,t22_10,t12_3,t24_11,Bb,Bc,Bd,Be,Bf,Bg,Bh,Bi,Bj,Bk,Bl,Bm,Bn,Bo,Bp,Bq,t41_21],h7⟩))) (
k (.exit 0) ⟨#[Aa,Ab,Ac,Ad,Ae,Af,Ag,Ah,Ai,t9_1,Ak,Al,An,Ao,Ap,Aq,Ar,As,Au,Av,Aw,Ax,Ay,Az,Ba,Bb,Bc,Bd,Be,Bf,Bg,Bh,Bi,Bj,Bk,Bl,Bm,Bn,Bo,Bp,Bq,Br],h⟩):=by kernel_rfl
theorem c96_2_eq {β:Type} (h:Heap) (k:Ex->St->Option β):zAy Tryz.prog (evC Tryz.prog) zAx c96_2 ⟨#[Aa,Ab,Ac,Ad,Ae,Af,Ag,Ah,Ai,Aj,Ak,Al,An,Ao,Ap,Aq,Ar,As,Au,Av,Aw,Ax,Ay,Az,Ba,Bb,Bc,Bd,Be,Bf,Bg,Bh,Bi,Bj,Bk,Bl,Bm,Bn,Bo,Bp,Bq,Br],h⟩ k =
k .ret ⟨#[Aa,Ab,(Go.Value.int Go.IntKind.u64 0),(Go.Value.int Go.IntKind.i64 0),Ae,Af,Ag,Ah,Ai,Aj,Ak,Al,An,Ao,Ap,Aq,Ar,As,Au,Av,Aw,Ax,Ay,Az,Ba,Bb,Bc,Bd,Be,Bf,Bg,Bh,Bi,Bj,Bk,Bl,Bm,Bn,Bo,Bp,Bq,Br],h⟩:=by kernel_rfl
theorem call96 (h:Heap):evC Tryz.prog 96 #[Aa] h=zAy Tryz.prog (evC Tryz.prog) zAx c96_0 ⟨#[Aa,undef,undef,undef,undef,undef,undef,undef,undef,undef,undef,undef,undef,undef,undef,undef,undef,undef,undef,undef,undef,undef,undef,undef,undef,undef,undef,undef,undef,undef,undef,undef,undef,undef,undef,undef,undef,undef,undef,undef,undef,undef],nm h⟩ (zBb Tryz.f96 Tryz.prog h):=
 (zAo 96 Tryz.f96 c96_0 Tryz.func96 (by kernel_rfl) #[Aa] h).trans (by kernel_rfl)
theorem ret96 (h0 h:Heap):zBb Tryz.f96 Tryz.prog h0 .ret ⟨#[Aa,Ab,Ac,Ad,Ae,Af,Ag,Ah,Ai,Aj,Ak,Al,An,Ao,Ap,Aq,Ar,As,Au,Av,Aw,Ax,Ay,Az,Ba,Bb,Bc,Bd,Be,Bf,Bg,Bh,Bi,Bj,Bk,Bl,Bm,Bn,Bo,Bp,Bq,Br],h⟩=fin h0 (some (.tuple #[Ac,Ad])) h:=by kernel_rfl
end Go.Am
namespace Go.Am
open Go.Proofs
set_option maxRecDepth 100000
variable (Aa Ab Ac Ad Ae Af Ag Ah:Value)
noncomputable def c95_0:Code:=zAk Tryz.f95 []
theorem c95_0_eq {β:Type} (h:Heap) (k:Ex->St->Option β):zAy Tryz.prog (evC Tryz.prog) zAx c95_0 ⟨#[Aa,Ab,Ac,Ad,Ae,Af,Ag,Ah],h⟩ k =
(zBk Tryz.prog .eql 35 (.tmp 3) (.const (Go.Value.slice Option.none 0 0)) Aa (Go.Value.slice Option.none 0 0)).bind fun t4_0=>
cnd t4_0 (
k .ret ⟨#[Aa,Ab,(Go.Value.slice Option.none 0 0),Aa,t4_0,Af,Ag,Ah],h⟩) (
obH (zAi Tryz.prog 35 0 #[] h) fun t5_1 h2=>
obH (zBh Tryz.prog 35 (some 35) t5_1 Aa h2) fun t7_3 h4=>
k .ret ⟨#[Aa,Ab,t7_3,Aa,t4_0,t5_1,Aa,t7_3],h4⟩):=by kernel_rfl
theorem call95 (h:Heap):evC Tryz.prog 95 #[Aa] h=zAy Tryz.prog (evC Tryz.prog) zAx c95_0 ⟨#[Aa,undef,undef,undef,undef,undef,undef,undef],nm h⟩ (zBb Tryz.f95 Tryz.prog h):=
 (zAo 95 Tryz.f95 c95_0 Tryz.func95 (by kernel_rfl) #[Aa] h).trans (by kernel_rfl)
theorem ret95 (h0 h:Heap):zBb Tryz.f95 Tryz.prog h0 .ret ⟨#[Aa,Ab,Ac,Ad,Ae,Af,Ag,Ah],h⟩=fin h0 (some Ac) h:=by kernel_rfl
end Go.Am
namespace Go.Am
open Go.Proofs
set_option maxRecDepth 100000
variable (Aa Ab Ac Ad Ae Af Ag Ah Ai:Value)
noncomputable def c31_0:Code:=zAk Tryz.f31 []
theorem c31_0_eq {β:Type} (h:Heap) (k:Ex->St->Option β):zAy Tryz.prog (evC Tryz.prog) zAx c31_0 ⟨#[Aa,Ab,Ac,Ad,Ae,Af,Ag,Ah,Ai],h⟩ k =
obH (builtinV Tryz.prog .max #[3,3] #[Aa,(Go.Value.int Go.IntKind.i64 0)] h) fun t4_0 h1=>
obH (builtinV Tryz.prog .min #[3,3] #[t4_0,(Go.Value.int Go.IntKind.i64 64)] h1) fun t5_2 h3=>
(zBk Tryz.prog .shl 39 (.const (Go.Value.int Go.IntKind.u64 1)) (.tmp 6) (Go.Value.int Go.IntKind.u64 1) t5_2).bind fun t7_4=>
(zBk Tryz.prog .sub 39 (.tmp 7) (.const (Go.Value.int Go.IntKind.u64 1)) t7_4 (Go.Value.int Go.IntKind.u64 1)).bind fun t8_5=>
k .ret ⟨#[t5_2,Ab,t8_5,Aa,t4_0,t5_2,t5_2,t7_4,t8_5],h3⟩:=by kernel_rfl
theorem call31 (h:Heap):evC Tryz.prog 31 #[Aa] h=zAy Tryz.prog (evC Tryz.prog) zAx c31_0 ⟨#[Aa,undef,undef,undef,undef,undef,undef,undef,undef],nm h⟩ (zBb Tryz.f31 Tryz.prog h):=
 (zAo 31 Tryz.f31 c31_0 Tryz.func31 (by kernel_rfl) #[Aa] h).trans (by kernel_rfl)
theorem ret31 (h0 h:Heap):zBb Tryz.f31 Tryz.prog h0 .ret ⟨#[Aa,Ab,Ac,Ad,Ae,Af,Ag,Ah,Ai],h⟩=fin h0 (some Ac) h:=by kernel_rfl
end Go.Am
namespace Go.Am
open Go.Proofs
set_option maxRecDepth 100000
variable (Aa Ab Ac Ad Ae Af Ag Ah Ai Aj Ak Al An Ao Ap Aq Ar As:Value)
noncomputable def c48_0:Code:=zAk Tryz.f48 []
theorem c48_0_eq {β:Type} (h:Heap) (k:Ex->St->Option β):zAy Tryz.prog (evC Tryz.prog) zAx c48_0 ⟨#[Aa,Ab,Ac,Ad,Ae,Af,Ag,Ah,Ai,Aj,Ak,Al,An,Ao,Ap,Aq,Ar,As],h⟩ k =
(zBk Tryz.prog .geq 3 (.tmp 5) (.const (Go.Value.int Go.IntKind.i64 0)) Ab (Go.Value.int Go.IntKind.i64 0)).bind fun t6_0=>
(gd (wt t6_0 true) (zBk Tryz.prog .lss 3 (.tmp 8) (.const (Go.Value.int Go.IntKind.i64 64)) (gdV (wt t6_0 true) Ab) (Go.Value.int Go.IntKind.i64 64))).bind fun t9_1=>
(zBo t6_0 t9_1 (Go.Value.bool Bool.false)).bind fun t10_2=>
(gd (wt t10_2 true) (zBk Tryz.prog .shr 39 (.tmp 12) (.tmp 13) (gdV (wt t10_2 true) Aa) (gdV (wt t10_2 true) Ab))).bind fun t14_3=>
(gd (wt t10_2 true) (zBk Tryz.prog .and 39 (.tmp 14) (.const (Go.Value.int Go.IntKind.u64 1)) t14_3 (Go.Value.int Go.IntKind.u64 1))).bind fun t15_4=>
(gd (wt t10_2 true) (zBk Tryz.prog .eql 39 (.tmp 15) (.const (Go.Value.int Go.IntKind.u64 1)) t15_4 (Go.Value.int Go.IntKind.u64 1))).bind fun t16_5=>
(zBo t10_2 t16_5 (Go.Value.bool Bool.false)).bind fun t17_6=>
k .ret ⟨#[Aa,Ab,Ac,Ad,t17_6,Ab,t6_0,t6_0,(gdV (wt t6_0 true) Ab),t9_1,t10_2,t10_2,(gdV (wt t10_2 true) Aa),(gdV (wt t10_2 true) Ab),t14_3,t15_4,t16_5,t17_6],h⟩:=by kernel_rfl
theorem call48 (h:Heap):evC Tryz.prog 48 #[Aa,Ab] h=zAy Tryz.prog (evC Tryz.prog) zAx c48_0 ⟨#[Aa,Ab,undef,undef,undef,undef,undef,undef,undef,undef,undef,undef,undef,undef,undef,undef,undef,undef],nm h⟩ (zBb Tryz.f48 Tryz.prog h):=
 (zAo 48 Tryz.f48 c48_0 Tryz.func48 (by kernel_rfl) #[Aa,Ab] h).trans (by kernel_rfl)
theorem ret48 (h0 h:Heap):zBb Tryz.f48 Tryz.prog h0 .ret ⟨#[Aa,Ab,Ac,Ad,Ae,Af,Ag,Ah,Ai,Aj,Ak,Al,An,Ao,Ap,Aq,Ar,As],h⟩=fin h0 (some Ae) h:=by kernel_rfl
end Go.Am
namespace Go.Am
open Go.Proofs
set_option maxRecDepth 100000
variable (Aa Ab Ac Ad Ae Af Ag Ah Ai Aj Ak Al An Ao Ap Aq Ar As Au:Value)
noncomputable def c50_0:Code:=zAk Tryz.f50 []
theorem c50_0_eq {β:Type} (h:Heap) (k:Ex->St->Option β):zAy Tryz.prog (evC Tryz.prog) zAx c50_0 ⟨#[Aa,Ab,Ac,Ad,Ae,Af,Ag,Ah,Ai,Aj,Ak,Al,An,Ao,Ap,Aq,Ar,As,Au],h⟩ k =
(zBk Tryz.prog .geq 3 (.tmp 5) (.const (Go.Value.int Go.IntKind.i64 0)) Ab (Go.Value.int Go.IntKind.i64 0)).bind fun t6_0=>
(gd (wt t6_0 true) (zBk Tryz.prog .leq 3 (.tmp 8) (.const (Go.Value.int Go.IntKind.i64 63)) (gdV (wt t6_0 true) Ab) (Go.Value.int Go.IntKind.i64 63))).bind fun t9_1=>
(zBo t6_0 t9_1 (Go.Value.bool Bool.false)).bind fun t10_2=>
obH (gdH (wt t10_2 true) h (convV Tryz.prog 3 66 (gdV (wt t10_2 true) Ab) h)) fun t14_3 h4=>
(gd (wt t10_2 true) (zBk Tryz.prog .shr 30 (.tmp 12) (.tmp 14) (gdV (wt t10_2 true) Aa) t14_3)).bind fun t15_5=>
(gd (wt t10_2 true) (zBk Tryz.prog .and 30 (.tmp 15) (.const (Go.Value.int Go.IntKind.u64 1)) t15_5 (Go.Value.int Go.IntKind.u64 1))).bind fun t16_6=>
(gd (wt t10_2 true) (zBk Tryz.prog .eql 30 (.tmp 16) (.const (Go.Value.int Go.IntKind.u64 1)) t16_6 (Go.Value.int Go.IntKind.u64 1))).bind fun t17_7=>
(zBo t10_2 t17_7 (Go.Value.bool Bool.false)).bind fun t18_8=>
k .ret ⟨#[Aa,Ab,Ac,Ad,t18_8,Ab,t6_0,t6_0,(gdV (wt t6_0 true) Ab),t9_1,t10_2,t10_2,(gdV (wt t10_2 true) Aa),(gdV (wt t10_2 true) Ab),t14_3,t15_5,t16_6,t17_7,t18_8],h4⟩:=by kernel_rfl
theorem call50 (h:Heap):evC Tryz.prog 50 #[Aa,Ab] h=zAy Tryz.prog (evC Tryz.prog) zAx c50_0 ⟨#[Aa,Ab,undef,undef,undef,undef,undef,undef,undef,undef,undef,undef,undef,undef,undef,undef,undef,undef,undef],nm h⟩ (zBb Tryz.f50 Tryz.prog h):=
 (zAo 50 Tryz.f50 c50_0 Tryz.func50 (by kernel_rfl) #[Aa,Ab] h).trans (by kernel_rfl)
theorem ret50 (h0 h:Heap):zBb Tryz.f50 Tryz.prog h0 .ret ⟨#[Aa,Ab,Ac,Ad,Ae,Af,Ag,Ah,Ai,Aj,Ak,Al,An,Ao,Ap,Aq,Ar,As,Au],h⟩=fin h0 (some Ae) h:=by kernel_rfl
end Go.Am
namespace Go.Am
open Go.Proofs
set_option maxRecDepth 100000
variable {β:Type} (x:Nat->Value) (h:Heap) (k:Ex->St->Option β) (r m:List Nat) (g:Heap)
noncomputable def c114_0:Code:=zAk Tryz.f114 []
theorem c114_0_eq:cK c114_0 6 x h k =
(bn .neq 3 (x 0) (x 0)).bind fun v0=>
k .ret ⟨ar 6 (up x [(2,v0),(3,(x 0)),(4,(x 0)),(5,v0)]),h⟩:=by kernel_rfl
theorem call114 (a0:Value):evC Tryz.prog 114 #[a0] h=cK c114_0 6 (up un [(0,a0)]) (nm h) (zBb Tryz.f114 Tryz.prog h):=
 (zAo 114 Tryz.f114 c114_0 Tryz.func114 (by kernel_rfl) #[a0] h).trans (by kernel_rfl)
theorem ret114:zBb Tryz.f114 Tryz.prog g .ret ⟨ar 6 x,h⟩=fin g (some (x 2)) h:=by kernel_rfl
end Go.Am
namespace Go.Am
open Go.Proofs
set_option maxRecDepth 100000
variable {β:Type} (x:Nat->Value) (h:Heap) (k:Ex->St->Option β) (r m:List Nat) (g:Heap)
noncomputable def c115_0:Code:=zAk Tryz.f115 []
theorem c115_0_eq:cK c115_0 6 x h k =
(bn .neq 30 (x 0) (x 0)).bind fun v0=>
k .ret ⟨ar 6 (up x [(2,v0),(3,(x 0)),(4,(x 0)),(5,v0)]),h⟩:=by kernel_rfl
theorem call115 (a0:Value):evC Tryz.prog 115 #[a0] h=cK c115_0 6 (up un [(0,a0)]) (nm h) (zBb Tryz.f115 Tryz.prog h):=
 (zAo 115 Tryz.f115 c115_0 Tryz.func115 (by kernel_rfl) #[a0] h).trans (by kernel_rfl)
theorem ret115:zBb Tryz.f115 Tryz.prog g .ret ⟨ar 6 x,h⟩=fin g (some (x 2)) h:=by kernel_rfl
end Go.Am
namespace Go.Am
open Go.Proofs
set_option maxRecDepth 100000
variable {β:Type} (x:Nat->Value) (h:Heap) (k:Ex->St->Option β) (r m:List Nat) (g:Heap)
noncomputable def c101_0:Code:=zAk Tryz.f101 []
theorem c101_0_eq:cK c101_0 20 x h k =
obH (ev 114 #[x 0] h) fun v0 h1=>
obH (ev 114 #[x 1] h1) fun v2 h3=>
cnd v0 (
cnd v2 (
k .ret ⟨ar 20 (up x [(4,(.int .i64 0)),(5,v0),(6,v2),(7,(x 0)),(8,v0),(9,(x 1)),(10,v2),(11,v0),(12,v2)]),h3⟩) (
k .ret ⟨ar 20 (up x [(4,(.int .i64 (-1))),(5,v0),(6,v2),(7,(x 0)),(8,v0),(9,(x 1)),(10,v2),(11,v0),(12,v2)]),h3⟩)) (
cnd v2 (
k .ret ⟨ar 20 (up x [(4,(.int .i64 1)),(5,v0),(6,v2),(7,(x 0)),(8,v0),(9,(x 1)),(10,v2),(11,v0),(13,v2)]),h3⟩) (
(bn .lss 3 (x 0) (x 1)).bind fun v4=>
cnd v4 (
k .ret ⟨ar 20 (up x [(4,(.int .i64 (-1))),(5,v0),(6,v2),(7,(x 0)),(8,v0),(9,(x 1)),(10,v2),(11,v0),(13,v2),(14,(x 0)),(15,(x 1)),(16,v4)]),h3⟩) (
(bn .gtr 3 (x 0) (x 1)).bind fun v5=>
cnd v5 (
k .ret ⟨ar 20 (up x [(4,(.int .i64 1)),(5,v0),(6,v2),(7,(x 0)),(8,v0),(9,(x 1)),(10,v2),(11,v0),(13,v2),(14,(x 0)),(15,(x 1)),(16,v4),(17,(x 0)),(18,(x 1)),(19,v5)]),h3⟩) (
k .ret ⟨ar 20 (up x [(4,(.int .i64 0)),(5,v0),(6,v2),(7,(x 0)),(8,v0),(9,(x 1)),(10,v2),(11,v0),(13,v2),(14,(x 0)),(15,(x 1)),(16,v4),(17,(x 0)),(18,(x 1)),(19,v5)]),h3⟩)))):=by kernel_rfl
theorem call101 (a0 a1:Value):evC Tryz.prog 101 #[a0,a1] h=cK c101_0 20 (up un [(0,a0),(1,a1)]) (nm h) (zBb Tryz.f101 Tryz.prog h):=
 (zAo 101 Tryz.f101 c101_0 Tryz.func101 (by kernel_rfl) #[a0,a1] h).trans (by kernel_rfl)
theorem ret101:zBb Tryz.f101 Tryz.prog g .ret ⟨ar 20 x,h⟩=fin g (some (x 4)) h:=by kernel_rfl
end Go.Am
namespace Go.Am
open Go.Proofs
set_option maxRecDepth 100000
variable {β:Type} (x:Nat->Value) (h:Heap) (k:Ex->St->Option β) (r m:List Nat) (g:Heap)
noncomputable def c102_0:Code:=zAk Tryz.f102 []
theorem c102_0_eq:cK c102_0 20 x h k =
obH (ev 115 #[x 0] h) fun v0 h1=>
obH (ev 115 #[x 1] h1) fun v2 h3=>
cnd v0 (
cnd v2 (
k .ret ⟨ar 20 (up x [(4,(.int .i64 0)),(5,v0),(6,v2),(7,(x 0)),(8,v0),(9,(x 1)),(10,v2),(11,v0),(12,v2)]),h3⟩) (
k .ret ⟨ar 20 (up x [(4,(.int .i64 (-1))),(5,v0),(6,v2),(7,(x 0)),(8,v0),(9,(x 1)),(10,v2),(11,v0),(12,v2)]),h3⟩)) (
cnd v2 (
k .ret ⟨ar 20 (up x [(4,(.int .i64 1)),(5,v0),(6,v2),(7,(x 0)),(8,v0),(9,(x 1)),(10,v2),(11,v0),(13,v2)]),h3⟩) (
(bn .lss 30 (x 0) (x 1)).bind fun v4=>
cnd v4 (
k .ret ⟨ar 20 (up x [(4,(.int .i64 (-1))),(5,v0),(6,v2),(7,(x 0)),(8,v0),(9,(x 1)),(10,v2),(11,v0),(13,v2),(14,(x 0)),(15,(x 1)),(16,v4)]),h3⟩) (
(bn .gtr 30 (x 0) (x 1)).bind fun v5=>
cnd v5 (
k .ret ⟨ar 20 (up x [(4,(.int .i64 1)),(5,v0),(6,v2),(7,(x 0)),(8,v0),(9,(x 1)),(10,v2),(11,v0),(13,v2),(14,(x 0)),(15,(x 1)),(16,v4),(17,(x 0)),(18,(x 1)),(19,v5)]),h3⟩) (
k .ret ⟨ar 20 (up x [(4,(.int .i64 0)),(5,v0),(6,v2),(7,(x 0)),(8,v0),(9,(x 1)),(10,v2),(11,v0),(13,v2),(14,(x 0)),(15,(x 1)),(16,v4),(17,(x 0)),(18,(x 1)),(19,v5)]),h3⟩)))):=by kernel_rfl
theorem call102 (a0 a1:Value):evC Tryz.prog 102 #[a0,a1] h=cK c102_0 20 (up un [(0,a0),(1,a1)]) (nm h) (zBb Tryz.f102 Tryz.prog h):=
 (zAo 102 Tryz.f102 c102_0 Tryz.func102 (by kernel_rfl) #[a0,a1] h).trans (by kernel_rfl)
theorem ret102:zBb Tryz.f102 Tryz.prog g .ret ⟨ar 20 x,h⟩=fin g (some (x 4)) h:=by kernel_rfl
end Go.Am
namespace Go.Am
open Go.Proofs
set_option maxRecDepth 100000
variable {β:Type} (x:Nat->Value) (h:Heap) (k:Ex->St->Option β) (r m:List Nat) (g:Heap)
noncomputable def c100_0:Code:=zAk Tryz.f100 []
noncomputable def c100_1:Code:=zAk Tryz.f100 [true,true,false,true,false,false]
noncomputable def c100_2:Code:=zAk Tryz.f100 [true,true,true]
theorem c100_0_eq:cK c100_0 18 x h k =
(ln 68 (x 0) h).bind fun v0=>
lK c100_1 18 (up x [(2,(.int .i64 0)),(3,(.int .i64 0)),(6,(x 0)),(7,v0),(8,(.int .i64 0))]) h (zAu 0 (sK c100_2 k)):=by kernel_rfl
theorem c100_1_eq:cK c100_1 18 x h k =
(bn .lss 3 (x 8) (x 7)).bind fun v1=>
cnd v1 (
(ia 68 (x 6) (x 8)).bind fun v2=>
(ld 3 v2 h).bind fun v3=>
(bn .neq 3 v3 (x 3)).bind fun v4=>
cnd v4 (
k .ret ⟨ar 18 (up x [(2,v3),(5,v3),(9,v1),(10,v2),(11,v3),(12,v3),(13,(x 3)),(14,v4),(15,v3)]),h⟩) (
(bn .add 3 (x 8) (.int .i64 1)).bind fun v5=>
k .normal ⟨ar 18 (up x [(5,v3),(8,v5),(9,v1),(10,v2),(11,v3),(12,v3),(13,(x 3)),(14,v4),(16,v5)]),h⟩)) (
k (.exit 0) ⟨ar 18 (up x [(9,v1)]),h⟩):=by kernel_rfl
theorem c100_2_eq:cK c100_2 18 x h k =
k .ret ⟨ar 18 (up x [(2,(x 3)),(17,(x 3))]),h⟩:=by kernel_rfl
theorem call100 (a0:Value):evC Tryz.prog 100 #[a0] h=cK c100_0 18 (up un [(0,a0)]) (nm h) (zBb Tryz.f100 Tryz.prog h):=
 (zAo 100 Tryz.f100 c100_0 Tryz.func100 (by kernel_rfl) #[a0] h).trans (by kernel_rfl)
theorem ret100:zBb Tryz.f100 Tryz.prog g .ret ⟨ar 18 x,h⟩=fin g (some (x 2)) h:=by kernel_rfl
end Go.Am
namespace Go.Am
open Go.Proofs
set_option maxRecDepth 100000
variable {β:Type} (x:Nat->Value) (h:Heap) (k:Ex->St->Option β) (r m:List Nat) (g:Heap)
noncomputable def c78_0:Code:=zAk Tryz.f78 []
theorem c78_0_eq:cK c78_0 17 x h k =
obH (boxV Tryz.prog 99 (x 0) h) fun v0 h1=>
obH (boxV Tryz.prog 99 (x 1) h1) fun v2 h3=>
(fa 99 v0 0).bind fun v4=>
(ld 3 v4 h3).bind fun v5=>
(fa 99 v2 0).bind fun v6=>
(ld 3 v6 h3).bind fun v7=>
obH (ev 101 #[v5,v7] (nm h3)) fun v8 h9=>
(fa 99 v0 1).bind fun v10=>
(ld 30 v10 (am h9 h3)).bind fun v11=>
(fa 99 v2 1).bind fun v12=>
(ld 30 v12 (am h9 h3)).bind fun v13=>
obH (ev 102 #[v11,v13] (am h9 h3)) fun v14 h15=>
obH (zAi Tryz.prog 68 2 #[(0,v8),(1,v14)] h15) fun v16 h17=>
obH (ev 100 #[v16] h17) fun v18 h19=>
chk ((rb v12)++((rb v10)++[])) (h9.mods++[]) (
k .ret ⟨ar 17 (up x [(2,v0),(3,v2),(4,v18),(5,v4),(6,v5),(7,v6),(8,v7),(9,v8),(10,v10),(11,v11),(12,v12),(13,v13),(14,v14),(15,v16),(16,v18)]),h19⟩):=by kernel_rfl
theorem call78 (a0 a1:Value):evC Tryz.prog 78 #[a0,a1] h=cK c78_0 17 (up un [(0,a0),(1,a1)]) (nm h) (zBb Tryz.f78 Tryz.prog h):=
 (zAo 78 Tryz.f78 c78_0 Tryz.func78 (by kernel_rfl) #[a0,a1] h).trans (by kernel_rfl)
theorem ret78:zBb Tryz.f78 Tryz.prog g .ret ⟨ar 17 x,h⟩=fin g (some (x 4)) h:=by kernel_rfl
end Go.Am
namespace Go.Am
open Go.Proofs
set_option maxRecDepth 100000
variable (Aa Ab Ac:Value)
noncomputable def c71_0:Code:=zAk Tryz.f71 []
theorem c71_0_eq {β:Type} (h:Heap) (k:Ex->St->Option β):zAy Tryz.prog (evC Tryz.prog) zAx c71_0 ⟨#[Aa,Ab,Ac],h⟩ k =
(buildV Tryz.prog 176 #[]).bind fun t1_0=>
obH (boxV Tryz.prog 176 t1_0 h) fun t2_1 h2=>
k .ret ⟨#[t2_1,t1_0,t2_1],h2⟩:=by kernel_rfl
theorem call71 (h:Heap):evC Tryz.prog 71 #[] h=zAy Tryz.prog (evC Tryz.prog) zAx c71_0 ⟨#[undef,undef,undef],nm h⟩ (zBb Tryz.f71 Tryz.prog h):=
 (zAo 71 Tryz.f71 c71_0 Tryz.func71 (by kernel_rfl) #[] h).trans (by kernel_rfl)
theorem ret71 (h0 h:Heap):zBb Tryz.f71 Tryz.prog h0 .ret ⟨#[Aa,Ab,Ac],h⟩=fin h0 (some Aa) h:=by kernel_rfl
end Go.Am
namespace Go.Am
open Go.Proofs
set_option maxRecDepth 100000
variable (Aa Ab Ac Ad Ae Af Ag Ah Ai Aj Ak Al An:Value)
noncomputable def c72_0:Code:=zAk Tryz.f72 []
theorem c72_0_eq {β:Type} (h:Heap) (k:Ex->St->Option β):zAy Tryz.prog (evC Tryz.prog) zAx c72_0 ⟨#[Aa,Ab,Ac,Ad,Ae,Af,Ag,Ah,Ai,Aj,Ak,Al,An],h⟩ k =
(zAm Tryz.prog Aa).bind fun t6_0=>
(zAe Tryz.prog 176 t6_0 0).bind fun t7_1=>
(zAw Tryz.prog 35 t7_1 h).bind fun t8_2=>
obH (evC Tryz.prog 99 #[t8_2,Ab] h) fun t10_3 h4=>
(zAm Tryz.prog Aa).bind fun t11_5=>
(zAe Tryz.prog 176 t11_5 0).bind fun t12_6=>
(zBc Tryz.prog 35 t12_6 t10_3 h4).bind fun h7=>
k .normal ⟨#[Aa,Ab,Ac,Ad,Aa,Aa,t6_0,t7_1,t8_2,Ab,t10_3,t11_5,t12_6],h7⟩:=by kernel_rfl
theorem call72 (h:Heap):evC Tryz.prog 72 #[Aa,Ab] h=zAy Tryz.prog (evC Tryz.prog) zAx c72_0 ⟨#[Aa,Ab,undef,undef,undef,undef,undef,undef,undef,undef,undef,undef,undef],nm h⟩ (zBb Tryz.f72 Tryz.prog h):=
 (zAo 72 Tryz.f72 c72_0 Tryz.func72 (by kernel_rfl) #[Aa,Ab] h).trans (by kernel_rfl)
theorem retn72 (h0 h:Heap):zBb Tryz.f72 Tryz.prog h0 .normal ⟨#[Aa,Ab,Ac,Ad,Ae,Af,Ag,Ah,Ai,Aj,Ak,Al,An],h⟩=fin h0 (some (.tuple #[])) h:=by kernel_rfl
end Go.Am
namespace Go.Am
open Go.Proofs
set_option maxRecDepth 100000
variable (Aa Ab Ac Ad Ae Af Ag Ah:Value)
noncomputable def c74_0:Code:=zAk Tryz.f74 []
theorem c74_0_eq {β:Type} (h:Heap) (k:Ex->St->Option β):zAy Tryz.prog (evC Tryz.prog) zAx c74_0 ⟨#[Aa,Ab,Ac,Ad,Ae,Af,Ag,Ah],h⟩ k =
(zAm Tryz.prog Aa).bind fun t4_0=>
(zAe Tryz.prog 176 t4_0 0).bind fun t5_1=>
(zAw Tryz.prog 35 t5_1 h).bind fun t6_2=>
obH (evC Tryz.prog 95 #[t6_2] h) fun t7_3 h4=>
k .ret ⟨#[Aa,Ab,t7_3,Aa,t4_0,t5_1,t6_2,t7_3],h4⟩:=by kernel_rfl
theorem call74 (h:Heap):evC Tryz.prog 74 #[Aa] h=zAy Tryz.prog (evC Tryz.prog) zAx c74_0 ⟨#[Aa,undef,undef,undef,undef,undef,undef,undef],nm h⟩ (zBb Tryz.f74 Tryz.prog h):=
 (zAo 74 Tryz.f74 c74_0 Tryz.func74 (by kernel_rfl) #[Aa] h).trans (by kernel_rfl)
theorem ret74 (h0 h:Heap):zBb Tryz.f74 Tryz.prog h0 .ret ⟨#[Aa,Ab,Ac,Ad,Ae,Af,Ag,Ah],h⟩=fin h0 (some Ac) h:=by kernel_rfl
end Go.Am
namespace Go.Am
open Go.Proofs
set_option maxRecDepth 100000
variable (Aa Ab Ac Ad Ae Af Ag:Value)
noncomputable def c65_0:Code:=zAk Tryz.f65 []
theorem c65_0_eq {β:Type} (h:Heap) (k:Ex->St->Option β):zAy Tryz.prog (evC Tryz.prog) zAx c65_0 ⟨#[Aa,Ab,Ac,Ad,Ae,Af,Ag],h⟩ k =
obH (evC Tryz.prog 95 #[Aa] h) fun t4_0 h1=>
(buildV Tryz.prog 169 #[(0,t4_0)]).bind fun t5_2=>
obH (boxV Tryz.prog 169 t5_2 h1) fun t6_3 h4=>
k .ret ⟨#[Aa,Ab,t6_3,Aa,t4_0,t5_2,t6_3],h4⟩:=by kernel_rfl
theorem call65 (h:Heap):evC Tryz.prog 65 #[Aa] h=zAy Tryz.prog (evC Tryz.prog) zAx c65_0 ⟨#[Aa,undef,undef,undef,undef,undef,undef],nm h⟩ (zBb Tryz.f65 Tryz.prog h):=
 (zAo 65 Tryz.f65 c65_0 Tryz.func65 (by kernel_rfl) #[Aa] h).trans (by kernel_rfl)
theorem ret65 (h0 h:Heap):zBb Tryz.f65 Tryz.prog h0 .ret ⟨#[Aa,Ab,Ac,Ad,Ae,Af,Ag],h⟩=fin h0 (some Ac) h:=by kernel_rfl
end Go.Am
namespace Go.Am
open Go.Proofs
set_option maxRecDepth 100000
variable (Aa Ab Ac Ad Ae Af Ag Ah Ai Aj Ak Al An Ao Ap Aq Ar As Au Av Aw Ax Ay Az Ba Bb Bc Bd Be Bf Bg Bh Bi Bj:Value)
noncomputable def c66_0:Code:=zAk Tryz.f66 []
theorem c66_0_eq {β:Type} (h:Heap) (k:Ex->St->Option β):zAy Tryz.prog (evC Tryz.prog) zAx c66_0 ⟨#[Aa,Ab,Ac,Ad,Ae,Af,Ag,Ah,Ai,Aj,Ak,Al,An,Ao,Ap,Aq,Ar,As,Au,Av,Aw,Ax,Ay,Az,Ba,Bb,Bc,Bd,Be,Bf,Bg,Bh,Bi,Bj],h⟩ k =
(zAm Tryz.prog Aa).bind fun t9_0=>
(zAe Tryz.prog 169 t9_0 0).bind fun t10_1=>
(zAw Tryz.prog 35 t10_1 h).bind fun t11_2=>
obH (evC Tryz.prog 96 #[t11_2] h) fun t12_3 h4=>
(zBf t12_3 0).bind fun t13_5=>
(zBf t12_3 1).bind fun t14_6=>
(zBk Tryz.prog .eql 3 (.tmp 16) (.const (Go.Value.int Go.IntKind.i64 0)) t14_6 (Go.Value.int Go.IntKind.i64 0)).bind fun t17_7=>
(gd (wt t17_7 false) (zBk Tryz.prog .gtr 30 (.tmp 19) (.tmp 20) (gdV (wt t17_7 false) t13_5) (gdV (wt t17_7 false) Ab))).bind fun t21_8=>
(zBo t17_7 (Go.Value.bool Bool.true) t21_8).bind fun t22_9=>
obH (evC Tryz.prog 97 #[Aa,t22_9] h4) fun t23_10 h11=>
cnd t23_10 (
k .ret ⟨#[Aa,Ab,Ac,Ad,(Go.Value.int Go.IntKind.u64 0),t13_5,t14_6,t12_3,Aa,t9_0,t10_1,t11_2,t12_3,t13_5,t14_6,Aa,t14_6,t17_7,t17_7,(gdV (wt t17_7 false) t13_5),(gdV (wt t17_7 false) Ab),t21_8,t22_9,t23_10,Ba,Bb,Bc,Bd,Be,Bf,Bg,Bh,Bi,Bj],h11⟩) (
(zAm Tryz.prog Aa).bind fun t26_12=>
(zAe Tryz.prog 169 t26_12 0).bind fun t27_13=>
(zAw Tryz.prog 35 t27_13 h11).bind fun t28_14=>
(sliceV Tryz.prog 35 t28_14 (some t14_6) none none h11).bind fun t30_15=>
(zAm Tryz.prog Aa).bind fun t31_16=>
(zAe Tryz.prog 169 t31_16 0).bind fun t32_17=>
(zBc Tryz.prog 35 t32_17 t30_15 h11).bind fun h18=>
k .ret ⟨#[Aa,Ab,Ac,Ad,t13_5,t13_5,t14_6,t12_3,Aa,t9_0,t10_1,t11_2,t12_3,t13_5,t14_6,Aa,t14_6,t17_7,t17_7,(gdV (wt t17_7 false) t13_5),(gdV (wt t17_7 false) Ab),t21_8,t22_9,t23_10,Aa,Aa,t26_12,t27_13,t28_14,t14_6,t30_15,t31_16,t32_17,t13_5],h18⟩):=by kernel_rfl
theorem call66 (h:Heap):evC Tryz.prog 66 #[Aa,Ab] h=zAy Tryz.prog (evC Tryz.prog) zAx c66_0 ⟨#[Aa,Ab,undef,undef,undef,undef,undef,undef,undef,undef,undef,undef,undef,undef,undef,undef,undef,undef,undef,undef,undef,undef,undef,undef,undef,undef,undef,undef,undef,undef,undef,undef,undef,undef],nm h⟩ (zBb Tryz.f66 Tryz.prog h):=
 (zAo 66 Tryz.f66 c66_0 Tryz.func66 (by kernel_rfl) #[Aa,Ab] h).trans (by kernel_rfl)
theorem ret66 (h0 h:Heap):zBb Tryz.f66 Tryz.prog h0 .ret ⟨#[Aa,Ab,Ac,Ad,Ae,Af,Ag,Ah,Ai,Aj,Ak,Al,An,Ao,Ap,Aq,Ar,As,Au,Av,Aw,Ax,Ay,Az,Ba,Bb,Bc,Bd,Be,Bf,Bg,Bh,Bi,Bj],h⟩=fin h0 (some Ae) h:=by kernel_rfl
end Go.Am
namespace Go.Am
open Go.Proofs
set_option maxRecDepth 100000
variable (Aa Ab Ac Ad Ae Af Ag Ah Ai Aj Ak Al An Ao Ap Aq:Value)
noncomputable def c68_0:Code:=zAk Tryz.f68 []
theorem c68_0_eq {β:Type} (h:Heap) (k:Ex->St->Option β):zAy Tryz.prog (evC Tryz.prog) zAx c68_0 ⟨#[Aa,Ab,Ac,Ad,Ae,Af,Ag,Ah,Ai,Aj,Ak,Al,An,Ao,Ap,Aq],h⟩ k =
(zAm Tryz.prog Aa).bind fun t4_0=>
(zAe Tryz.prog 169 t4_0 1).bind fun t5_1=>
(zAw Tryz.prog 4 t5_1 h).bind fun t6_2=>
(unV Tryz.prog .not t6_2).bind fun t7_3=>
(gd (wt t7_3 true) (zAm Tryz.prog (gdV (wt t7_3 true) Aa))).bind fun t10_4=>
(gd (wt t7_3 true) (zAe Tryz.prog 169 t10_4 0)).bind fun t11_5=>
(gd (wt t7_3 true) (zAw Tryz.prog 35 t11_5 h)).bind fun t12_6=>
(gd (wt t7_3 true) (lenV Tryz.prog 35 t12_6 h)).bind fun t13_7=>
(gd (wt t7_3 true) (zBk Tryz.prog .eql 3 (.tmp 13) (.const (Go.Value.int Go.IntKind.i64 0)) t13_7 (Go.Value.int Go.IntKind.i64 0))).bind fun t14_8=>
(zBo t7_3 t14_8 (Go.Value.bool Bool.false)).bind fun t15_9=>
k .ret ⟨#[Aa,Ab,t15_9,Aa,t4_0,t5_1,t6_2,t7_3,t7_3,(gdV (wt t7_3 true) Aa),t10_4,t11_5,t12_6,t13_7,t14_8,t15_9],h⟩:=by kernel_rfl
theorem call68 (h:Heap):evC Tryz.prog 68 #[Aa] h=zAy Tryz.prog (evC Tryz.prog) zAx c68_0 ⟨#[Aa,undef,undef,undef,undef,undef,undef,undef,undef,undef,undef,undef,undef,undef,undef,undef],nm h⟩ (zBb Tryz.f68 Tryz.prog h):=
 (zAo 68 Tryz.f68 c68_0 Tryz.func68 (by kernel_rfl) #[Aa] h).trans (by kernel_rfl)
theorem ret68 (h0 h:Heap):zBb Tryz.f68 Tryz.prog h0 .ret ⟨#[Aa,Ab,Ac,Ad,Ae,Af,Ag,Ah,Ai,Aj,Ak,Al,An,Ao,Ap,Aq],h⟩=fin h0 (some Ac) h:=by kernel_rfl
end Go.Am
namespace Go.Am
open Go.Proofs
set_option maxRecDepth 100000
variable (Aa Ab Ac Ad Ae Af Ag Ah Ai Aj Ak Al An Ao Ap Aq:Value)
noncomputable def c97_0:Code:=zAk Tryz.f97 []
noncomputable def c97_1:Code:=zAk Tryz.f97 [true,true]
theorem c97_0_eq {β:Type} (h:Heap) (k:Ex->St->Option β):zAy Tryz.prog (evC Tryz.prog) zAx c97_0 ⟨#[Aa,Ab,Ac,Ad,Ae,Af,Ag,Ah,Ai,Aj,Ak,Al,An,Ao,Ap,Aq],h⟩ k =
cnd Ab (
(zAm Tryz.prog Aa).bind fun t8_0=>
(zAe Tryz.prog 169 t8_0 0).bind fun t9_1=>
(zBc Tryz.prog 35 t9_1 (Go.Value.slice Option.none 0 0) h).bind fun h2=>
(zAm Tryz.prog Aa).bind fun t10_3=>
(zAe Tryz.prog 169 t10_3 1).bind fun t11_4=>
(zBc Tryz.prog 4 t11_4 (Go.Value.bool Bool.true) h2).bind fun h5=>
zAy Tryz.prog (evC Tryz.prog) zAx c97_1 ⟨#[Aa,Ab,Ac,Ad,(Go.Value.bool Bool.false),Ab,Aa,Aa,t8_0,t9_1,t10_3,t11_4,An,Ao,Ap,Aq],h5⟩ k) (
zAy Tryz.prog (evC Tryz.prog) zAx c97_1 ⟨#[Aa,Ab,Ac,Ad,(Go.Value.bool Bool.false),Ab,Ag,Ah,Ai,Aj,Ak,Al,An,Ao,Ap,Aq],h⟩ k):=by kernel_rfl
theorem c97_1_eq {β:Type} (h:Heap) (k:Ex->St->Option β):zAy Tryz.prog (evC Tryz.prog) zAx c97_1 ⟨#[Aa,Ab,Ac,Ad,Ae,Af,Ag,Ah,Ai,Aj,Ak,Al,An,Ao,Ap,Aq],h⟩ k =
(zAm Tryz.prog Aa).bind fun t13_6=>
(zAe Tryz.prog 169 t13_6 1).bind fun t14_7=>
(zAw Tryz.prog 4 t14_7 h).bind fun t15_8=>
k .ret ⟨#[Aa,Ab,Ac,Ad,t15_8,Af,Ag,Ah,Ai,Aj,Ak,Al,Aa,t13_6,t14_7,t15_8],h⟩:=by kernel_rfl
theorem call97 (h:Heap):evC Tryz.prog 97 #[Aa,Ab] h=zAy Tryz.prog (evC Tryz.prog) zAx c97_0 ⟨#[Aa,Ab,undef,undef,undef,undef,undef,undef,undef,undef,undef,undef,undef,undef,undef,undef],nm h⟩ (zBb Tryz.f97 Tryz.prog h):=
 (zAo 97 Tryz.f97 c97_0 Tryz.func97 (by kernel_rfl) #[Aa,Ab] h).trans (by kernel_rfl)
theorem ret97 (h0 h:Heap):zBb Tryz.f97 Tryz.prog h0 .ret ⟨#[Aa,Ab,Ac,Ad,Ae,Af,Ag,Ah,Ai,Aj,Ak,Al,An,Ao,Ap,Aq],h⟩=fin h0 (some Ae) h:=by kernel_rfl
end Go.Am
namespace Go.Am
open Go.Proofs
set_option maxRecDepth 100000
variable (Aa Ab Ac Ad Ae Af Ag Ah Ai Aj Ak Al An Ao Ap Aq Ar As Au Av Aw Ax Ay Az:Value)
end Go.Am
namespace Go.Am
open Go.Proofs
set_option maxRecDepth 100000
variable (Aa Ab Ac Ad Ae Af Ag Ah Ai Aj Ak Al An Ao Ap Aq Ar As Au Av Aw Ax Ay Az Ba Bb Bc Bd Be Bf Bg Bh Bi Bj Bk Bl Bm Bn Bo Bp Bq Br Bs Bt Bu Bv Bw:Value)
end Go.Am
namespace Go.Am
open Go.Proofs
set_option maxRecDepth 100000
variable (Aa Ab Ac Ad Ae Af Ag Ah Ai Aj Ak Al An:Value)
end Go.Am
namespace Go.Am
open Go.Proofs
set_option maxRecDepth 100000
variable (Aa Ab Ac Ad Ae Af Ag Ah Ai Aj Ak Al An Ao Ap Aq Ar As Au Av Aw Ax Ay Az Ba Bb Bc Bd Be Bf Bg Bh Bi Bj Bk Bl Bm Bn Bo Bp:Value)
end Go.Am
namespace Go.Am
open Go.Proofs
set_option maxRecDepth 100000
variable (Aa Ab Ac Ad Ae Af Ag Ah Ai Aj Ak Al An Ao Ap Aq:Value)
end Go.Am
namespace Go.Am
open Go.Proofs
set_option maxRecDepth 100000
variable (Aa Ab Ac Ad Ae Af Ag Ah:Value)
end Go.Am
namespace Go.Am
open Go.Proofs
set_option maxRecDepth 100000
variable (Aa Ab Ac Ad Ae Af Ag Ah Ai Aj Ak Al An Ao Ap Aq Ar As Au Av Aw Ax Ay Az Ba Bb Bc Bd Be Bf Bg Bh Bi Bj Bk:Value)
noncomputable def c67_0:Code:=zAk Tryz.f67 []
theorem c67_0_eq {β:Type} (h:Heap) (k:Ex->St->Option β):zAy Tryz.prog (evC Tryz.prog) zAx c67_0 ⟨#[Aa,Ab,Ac,Ad,Ae,Af,Ag,Ah,Ai,Aj,Ak,Al,An,Ao,Ap,Aq,Ar,As,Au,Av,Aw,Ax,Ay,Az,Ba,Bb,Bc,Bd,Be,Bf,Bg,Bh,Bi,Bj,Bk],h⟩ k =
(zAm Tryz.prog Aa).bind fun t9_0=>
(zAe Tryz.prog 169 t9_0 0).bind fun t10_1=>
(zAw Tryz.prog 35 t10_1 h).bind fun t11_2=>
obH (evC Tryz.prog 96 #[t11_2] h) fun t12_3 h4=>
(zBf t12_3 0).bind fun t13_5=>
(zBf t12_3 1).bind fun t14_6=>
(zBk Tryz.prog .eql 3 (.tmp 16) (.const (Go.Value.int Go.IntKind.i64 0)) t14_6 (Go.Value.int Go.IntKind.i64 0)).bind fun t17_7=>
obH (gdH (wt t17_7 false) h4 (evC Tryz.prog 98 #[(gdV (wt t17_7 false) t13_5),(gdV (wt t17_7 false) Ab)] h4)) fun t21_8 h9=>
(gd (wt t17_7 false) (unV Tryz.prog .not t21_8)).bind fun t22_10=>
(zBo t17_7 (Go.Value.bool Bool.true) t22_10).bind fun t23_11=>
obH (evC Tryz.prog 97 #[Aa,t23_11] h9) fun t24_12 h13=>
cnd t24_12 (
k .ret ⟨#[Aa,Ab,Ac,Ad,(Go.Value.int Go.IntKind.u64 0),t13_5,t14_6,t12_3,Aa,t9_0,t10_1,t11_2,t12_3,t13_5,t14_6,Aa,t14_6,t17_7,t17_7,(gdV (wt t17_7 false) t13_5),(gdV (wt t17_7 false) Ab),t21_8,t22_10,t23_11,t24_12,Bb,Bc,Bd,Be,Bf,Bg,Bh,Bi,Bj,Bk],h13⟩) (
(zAm Tryz.prog Aa).bind fun t27_14=>
(zAe Tryz.prog 169 t27_14 0).bind fun t28_15=>
(zAw Tryz.prog 35 t28_15 h13).bind fun t29_16=>
(sliceV Tryz.prog 35 t29_16 (some t14_6) none none h13).bind fun t31_17=>
(zAm Tryz.prog Aa).bind fun t32_18=>
(zAe Tryz.prog 169 t32_18 0).bind fun t33_19=>
(zBc Tryz.prog 35 t33_19 t31_17 h13).bind fun h20=>
k .ret ⟨#[Aa,Ab,Ac,Ad,t13_5,t13_5,t14_6,t12_3,Aa,t9_0,t10_1,t11_2,t12_3,t13_5,t14_6,Aa,t14_6,t17_7,t17_7,(gdV (wt t17_7 false) t13_5),(gdV (wt t17_7 false) Ab),t21_8,t22_10,t23_11,t24_12,Aa,Aa,t27_14,t28_15,t29_16,t14_6,t31_17,t32_18,t33_19,t13_5],h20⟩):=by kernel_rfl
theorem call67 (h:Heap):evC Tryz.prog 67 #[Aa,Ab] h=zAy Tryz.prog (evC Tryz.prog) zAx c67_0 ⟨#[Aa,Ab,undef,undef,undef,undef,undef,undef,undef,undef,undef,undef,undef,undef,undef,undef,undef,undef,undef,undef,undef,undef,undef,undef,undef,undef,undef,undef,undef,undef,undef,undef,undef,undef,undef],nm h⟩ (zBb Tryz.f67 Tryz.prog h):=
 (zAo 67 Tryz.f67 c67_0 Tryz.func67 (by kernel_rfl) #[Aa,Ab] h).trans (by kernel_rfl)
theorem ret67 (h0 h:Heap):zBb Tryz.f67 Tryz.prog h0 .ret ⟨#[Aa,Ab,Ac,Ad,Ae,Af,Ag,Ah,Ai,Aj,Ak,Al,An,Ao,Ap,Aq,Ar,As,Au,Av,Aw,Ax,Ay,Az,Ba,Bb,Bc,Bd,Be,Bf,Bg,Bh,Bi,Bj,Bk],h⟩=fin h0 (some Ae) h:=by kernel_rfl
end Go.Am
namespace Go.Am
open Go.Proofs
set_option maxRecDepth 100000
variable (Aa Ab Ac Ad Ae Af Ag:Value)
noncomputable def c73_0:Code:=zAk Tryz.f73 []
theorem c73_0_eq {β:Type} (h:Heap) (k:Ex->St->Option β):zAy Tryz.prog (evC Tryz.prog) zAx c73_0 ⟨#[Aa,Ab,Ac,Ad,Ae,Af,Ag],h⟩ k =
obH (evC Tryz.prog 72 #[Aa,Ab] h) fun t6_0 h1=>
k .normal ⟨#[Aa,Ab,Ac,Ad,Aa,Ab,t6_0],h1⟩:=by kernel_rfl
theorem call73 (h:Heap):evC Tryz.prog 73 #[Aa,Ab] h=zAy Tryz.prog (evC Tryz.prog) zAx c73_0 ⟨#[Aa,Ab,undef,undef,undef,undef,undef],nm h⟩ (zBb Tryz.f73 Tryz.prog h):=
 (zAo 73 Tryz.f73 c73_0 Tryz.func73 (by kernel_rfl) #[Aa,Ab] h).trans (by kernel_rfl)
theorem retn73 (h0 h:Heap):zBb Tryz.f73 Tryz.prog h0 .normal ⟨#[Aa,Ab,Ac,Ad,Ae,Af,Ag],h⟩=fin h0 (some (.tuple #[])) h:=by kernel_rfl
end Go.Am
namespace Go.Am
open Go.Proofs
set_option maxRecDepth 100000
variable (Aa Ab Ac Ad Ae Af Ag Ah Ai:Value)
noncomputable def c98_0:Code:=zAk Tryz.f98 []
theorem c98_0_eq {β:Type} (h:Heap) (k:Ex->St->Option β):zAy Tryz.prog (evC Tryz.prog) zAx c98_0 ⟨#[Aa,Ab,Ac,Ad,Ae,Af,Ag,Ah,Ai],h⟩ k =
(zBk Tryz.prog .andNot 39 (.tmp 5) (.tmp 6) Aa Ab).bind fun t7_0=>
(zBk Tryz.prog .eql 39 (.tmp 7) (.const (Go.Value.int Go.IntKind.u64 0)) t7_0 (Go.Value.int Go.IntKind.u64 0)).bind fun t8_1=>
k .ret ⟨#[Aa,Ab,Ac,Ad,t8_1,Aa,Ab,t7_0,t8_1],h⟩:=by kernel_rfl
theorem call98 (h:Heap):evC Tryz.prog 98 #[Aa,Ab] h=zAy Tryz.prog (evC Tryz.prog) zAx c98_0 ⟨#[Aa,Ab,undef,undef,undef,undef,undef,undef,undef],nm h⟩ (zBb Tryz.f98 Tryz.prog h):=
 (zAo 98 Tryz.f98 c98_0 Tryz.func98 (by kernel_rfl) #[Aa,Ab] h).trans (by kernel_rfl)
theorem ret98 (h0 h:Heap):zBb Tryz.f98 Tryz.prog h0 .ret ⟨#[Aa,Ab,Ac,Ad,Ae,Af,Ag,Ah,Ai],h⟩=fin h0 (some Ae) h:=by kernel_rfl
end Go.Am
namespace Go.Am
open Go.Proofs
set_option maxRecDepth 100000
variable {β:Type} (x:Nat->Value) (h:Heap) (k:Ex->St->Option β) (r m:List Nat) (g:Heap)
noncomputable def c76_0:Code:=zAk Tryz.f76 []
noncomputable def c76_1:Code:=zAk Tryz.f76 [false]
noncomputable def c76_2:Code:=zAk Tryz.f76 [true]
noncomputable def d76_0:Array Oper:=opsC (zAk Tryz.f76 [true,false])
noncomputable def c76_3:Code:=zAk Tryz.f76 [true,false]
noncomputable def c76_4:Code:=zAk Tryz.f76 [true,true]
theorem c76_0_eq:cK c76_0 22 x h k =
cK c76_1 22 x h (sK c76_2 k):=zBm _ _ _ _ _ (by kernel_rfl) _ _
theorem c76_1_eq:cK c76_1 22 x h k =
obH (boxV Tryz.prog 99 (x 0) h) fun v0 h1=>
k .normal ⟨ar 22 (up x [(1,v0),(2,(.bool false))]),h1⟩:=by kernel_rfl
theorem c76_2_eq:cK c76_2 22 x h k =
cK c76_3 22 x h (sK c76_4 k):=zBm _ _ _ _ _ (by kernel_rfl) _ _
theorem d76_0_0 (k:St->Option β):rD d76_0 0 22 x h r m k =
(fa 99 (x 1) 0).bind fun v2=>
rD d76_0 1 22 (up x [(3,v2)]) h r m k:=(zAd _ _ d76_0 0 (by kernel_rfl) _ _ _ _).trans (by kernel_rfl)
theorem d76_0_1 (k:St->Option β):rD d76_0 1 22 x h r m k =
(ld 3 (x 3) h).bind fun v3=>
rD d76_0 2 22 (up x [(4,v3)]) h r m k:=(zAd _ _ d76_0 1 (by kernel_rfl) _ _ _ _).trans (by kernel_rfl)
theorem d76_0_2 (k:St->Option β):rD d76_0 2 22 x h r m k =
(bn .geq 3 (x 4) (.int .i64 0)).bind fun v4=>
rD d76_0 3 22 (up x [(5,v4)]) h r m k:=(zAd _ _ d76_0 2 (by kernel_rfl) _ _ _ _).trans (by kernel_rfl)
theorem d76_0_3 (k:St->Option β):rD d76_0 3 22 x h r m k =
rD d76_0 4 22 (up x [(6,(x 5))]) h r m k:=zAz _ _ d76_0 3 (by kernel_rfl) (by kernel_rfl) (by kernel_rfl) _ _ _ _ _ _ (by kernel_rfl) (by kernel_rfl)
theorem d76_0_4 (k:St->Option β):rD d76_0 4 22 x h r m k =
(gd (wt (x 6) true) (fa 99 (x 1) 0)).bind fun v5=>
rD d76_0 5 22 (up x [(7,v5)]) h r m k:=(zAd _ _ d76_0 4 (by kernel_rfl) _ _ _ _).trans (by kernel_rfl)
theorem d76_0_5 (k:St->Option β):rD d76_0 5 22 x h r m k =
(gd (wt (x 6) true) (ld 3 (x 7) h)).bind fun v6=>
rD d76_0 6 22 (up x [(8,v6)]) h r m k:=(zAd _ _ d76_0 5 (by kernel_rfl) _ _ _ _).trans (by kernel_rfl)
theorem d76_0_6 (k:St->Option β):rD d76_0 6 22 x h r m k =
(gd (wt (x 6) true) (bn .lss 3 (x 8) (.int .i64 16))).bind fun v7=>
rD d76_0 7 22 (up x [(9,v7)]) h r m k:=(zAd _ _ d76_0 6 (by kernel_rfl) _ _ _ _).trans (by kernel_rfl)
theorem d76_0_7 (k:St->Option β):rD d76_0 7 22 x h r m k =
(zBo (x 6) (x 9) (.bool false)).bind fun v8=>
rD d76_0 8 22 (up x [(10,v8)]) h r m k:=(zAd _ _ d76_0 7 (by kernel_rfl) _ _ _ _).trans (by kernel_rfl)
theorem d76_0_8 (k:St->Option β):rD d76_0 8 22 x h r m k =
rD d76_0 9 22 (up x [(11,(x 10))]) h r m k:=zAz _ _ d76_0 8 (by kernel_rfl) (by kernel_rfl) (by kernel_rfl) _ _ _ _ _ _ (by kernel_rfl) (by kernel_rfl)
theorem d76_0_9 (k:St->Option β):rD d76_0 9 22 x h r m k =
(gd (wt (x 11) true) (fa 99 (x 1) 1)).bind fun v9=>
rD d76_0 10 22 (up x [(12,v9)]) h r m k:=(zAd _ _ d76_0 9 (by kernel_rfl) _ _ _ _).trans (by kernel_rfl)
theorem d76_0_10 (k:St->Option β):rD d76_0 10 22 x h r m k =
(gd (wt (x 11) true) (ld 30 (x 12) h)).bind fun v10=>
rD d76_0 11 22 (up x [(13,v10)]) h r m k:=(zAd _ _ d76_0 10 (by kernel_rfl) _ _ _ _).trans (by kernel_rfl)
theorem d76_0_11 (k:St->Option β):rD d76_0 11 22 x h r m k =
(gd (wt (x 11) true) (bn .gtr 30 (x 13) (.int .u64 0))).bind fun v11=>
rD d76_0 12 22 (up x [(14,v11)]) h r m k:=(zAd _ _ d76_0 11 (by kernel_rfl) _ _ _ _).trans (by kernel_rfl)
theorem d76_0_12 (k:St->Option β):rD d76_0 12 22 x h r m k =
(zBo (x 11) (x 14) (.bool false)).bind fun v12=>
rD d76_0 13 22 (up x [(15,v12)]) h r m k:=(zAd _ _ d76_0 12 (by kernel_rfl) _ _ _ _).trans (by kernel_rfl)
theorem d76_0_13 (k:St->Option β):rD d76_0 13 22 x h r m k =
rD d76_0 14 22 (up x [(16,(x 15))]) h r m k:=zAz _ _ d76_0 13 (by kernel_rfl) (by kernel_rfl) (by kernel_rfl) _ _ _ _ _ _ (by kernel_rfl) (by kernel_rfl)
theorem d76_0_14 (k:St->Option β):rD d76_0 14 22 x h r m k =
(gd (wt (x 16) true) (fa 99 (x 1) 2)).bind fun v13=>
rD d76_0 15 22 (up x [(17,v13)]) h r m k:=(zAd _ _ d76_0 14 (by kernel_rfl) _ _ _ _).trans (by kernel_rfl)
theorem d76_0_15 (k:St->Option β):rD d76_0 15 22 x h r m k =
(gd (wt (x 16) true) (ld 39 (x 17) h)).bind fun v14=>
rD d76_0 16 22 (up x [(18,v14)]) h (rdL (wt (x 16) true) (rb (x 17))++r) m k:=(zAd _ _ d76_0 15 (by kernel_rfl) _ _ _ _).trans (by kernel_rfl)
theorem d76_0_16 (k:St->Option β):rD d76_0 16 22 x h r m k =
obH (gdH (wt (x 16) true) (nm h) (ev 31 #[(.int .i64 16)] (nm h))) fun v15 h16=>
rD d76_0 17 22 (up x [(19,v15)]) (am h16 h) r (h16.mods++m) k:=(zAd _ _ d76_0 16 (by kernel_rfl) _ _ _ _).trans (by kernel_rfl)
theorem d76_0_17 (k:St->Option β):rD d76_0 17 22 x h r m k =
obH (gdH (wt (x 16) true) h (ev 98 #[x 18,x 19] h)) fun v17 h18=>
rD d76_0 18 22 (up x [(20,v17)]) h18 r m k:=(zAd _ _ d76_0 17 (by kernel_rfl) _ _ _ _).trans (by kernel_rfl)
theorem d76_0_18 (k:St->Option β):rD d76_0 18 22 x h r m k =
(zBo (x 16) (x 20) (.bool false)).bind fun v19=>
rD d76_0 19 22 (up x [(21,v19)]) h r m k:=(zAd _ _ d76_0 18 (by kernel_rfl) _ _ _ _).trans (by kernel_rfl)
theorem d76_0_19 (k:St->Option β):rD d76_0 19 22 x h r m k =
rD d76_0 20 22 (up x [(2,(x 21))]) h r m k:=zAz _ _ d76_0 19 (by kernel_rfl) (by kernel_rfl) (by kernel_rfl) _ _ _ _ _ _ (by kernel_rfl) (by kernel_rfl)
theorem d76_0_20 (k:St->Option β):rD d76_0 20 22 x h r m k =
chk r m (k ⟨ar 22 x,h⟩):=by kernel_rfl
theorem c76_3_eq:cK c76_3 22 x h k =
rD d76_0 0 22 x h [] [] (fun s=>k .normal s):=by kernel_rfl
theorem c76_4_eq:cK c76_4 22 x h k =
k .ret ⟨ar 22 x,h⟩:=by kernel_rfl
theorem call76 (a0:Value):evC Tryz.prog 76 #[a0] h=cK c76_0 22 (up un [(0,a0)]) (nm h) (zBb Tryz.f76 Tryz.prog h):=
 (zAo 76 Tryz.f76 c76_0 Tryz.func76 (by kernel_rfl) #[a0] h).trans (by kernel_rfl)
theorem ret76:zBb Tryz.f76 Tryz.prog g .ret ⟨ar 22 x,h⟩=fin g (some (x 2)) h:=by kernel_rfl
end Go.Am
namespace Go.Am
open Go.Proofs
set_option maxRecDepth 100000
variable {β:Type} (x:Nat->Value) (h:Heap) (k:Ex->St->Option β) (r m:List Nat) (g:Heap)
noncomputable def c69_0:Code:=zAk Tryz.f69 []
noncomputable def c69_1:Code:=zAk Tryz.f69 [true,false,true,false,false]
noncomputable def c69_2:Code:=zAk Tryz.f69 [true,true]
theorem c69_0_eq:cK c69_0 32 x h k =
obH (boxV Tryz.prog 51 (x 0) h) fun v0 h1=>
(fa 51 v0 0).bind fun v2=>
(ld 49 v2 h1).bind fun v3=>
(ln 49 v3 h1).bind fun v4=>
lK c69_1 32 (up x [(1,v0),(2,(.bool false)),(5,v2),(6,v3),(7,v4),(8,(.int .i64 0))]) h1 (zAu 0 (sK c69_2 k)):=by kernel_rfl
theorem c69_1_eq:cK c69_1 32 x h k =
(bn .lss 3 (x 8) (x 7)).bind fun v5=>
cnd v5 (
(ia 49 (x 6) (x 8)).bind fun v6=>
(ld 99 v6 h).bind fun v7=>
obH (zBp Tryz.prog 99 h) fun v8 h9=>
(sto 99 v8 v7 h9).bind fun h10=>
(ld 99 v8 h10).bind fun v11=>
obH (ev 76 #[v11] h10) fun v12 h13=>
(unV Tryz.prog .not v12).bind fun v14=>
(gd (wt v14 false) (bn .gtr 3 (gdV (wt v14 false) (x 8)) (.int .i64 0))).bind fun v15=>
(gd (wt (gdV (wt v14 false) v15) true) (fa 51 (x 1) 0)).bind fun v16=>
(gd (wt (gdV (wt v14 false) v15) true) (ld 49 v16 h13)).bind fun v17=>
(gd (wt (gdV (wt v14 false) v15) true) (bn .sub 3 (gdV (wt (gdV (wt v14 false) v15) true) (x 8)) (.int .i64 1))).bind fun v18=>
(gd (wt (gdV (wt v14 false) v15) true) (ia 49 v17 v18)).bind fun v19=>
(gd (wt (gdV (wt v14 false) v15) true) (ld 99 v19 h13)).bind fun v20=>
(gd (wt (gdV (wt v14 false) v15) true) (ld 99 v8 h13)).bind fun v21=>
obH (gdH (wt (gdV (wt v14 false) v15) true) h13 (ev 78 #[v20,v21] h13)) fun v22 h23=>
(gd (wt (gdV (wt v14 false) v15) true) (bn .geq 3 v22 (.int .i64 0))).bind fun v24=>
(gd (wt v14 false) (zBo (gdV (wt v14 false) v15) v24 (.bool false))).bind fun v25=>
(zBo v14 (.bool true) v25).bind fun v26=>
cnd v26 (
k .ret ⟨ar 32 (up x [(2,(.bool false)),(3,(x 8)),(4,v8),(9,v5),(10,(x 8)),(11,v6),(12,v7),(13,v11),(14,v12),(15,v14),(16,v14),(17,(gdV (wt v14 false) (x 8))),(18,v15),(19,(gdV (wt v14 false) v15)),(20,v16),(21,v17),(22,(gdV (wt (gdV (wt v14 false) v15) true) (x 8))),(23,v18),(24,v19),(25,v20),(26,v21),(27,v22),(28,v24),(29,v25),(30,v26)]),h23⟩) (
(bn .add 3 (x 8) (.int .i64 1)).bind fun v27=>
k .normal ⟨ar 32 (up x [(3,(x 8)),(4,v8),(8,v27),(9,v5),(10,(x 8)),(11,v6),(12,v7),(13,v11),(14,v12),(15,v14),(16,v14),(17,(gdV (wt v14 false) (x 8))),(18,v15),(19,(gdV (wt v14 false) v15)),(20,v16),(21,v17),(22,(gdV (wt (gdV (wt v14 false) v15) true) (x 8))),(23,v18),(24,v19),(25,v20),(26,v21),(27,v22),(28,v24),(29,v25),(30,v26),(31,v27)]),h23⟩)) (
k (.exit 0) ⟨ar 32 (up x [(9,v5)]),h⟩):=by kernel_rfl
theorem c69_2_eq:cK c69_2 32 x h k =
k .ret ⟨ar 32 (up x [(2,(.bool true))]),h⟩:=by kernel_rfl
theorem call69 (a0:Value):evC Tryz.prog 69 #[a0] h=cK c69_0 32 (up un [(0,a0)]) (nm h) (zBb Tryz.f69 Tryz.prog h):=
 (zAo 69 Tryz.f69 c69_0 Tryz.func69 (by kernel_rfl) #[a0] h).trans (by kernel_rfl)
theorem ret69:zBb Tryz.f69 Tryz.prog g .ret ⟨ar 32 x,h⟩=fin g (some (x 2)) h:=by kernel_rfl
end Go.Am
namespace Go.Am
open Go.Proofs
set_option maxRecDepth 100000
variable {β:Type} (x:Nat->Value) (h:Heap) (k:Ex->St->Option β) (r m:List Nat) (g:Heap)
noncomputable def c75_0:Code:=zAk Tryz.f75 []
theorem c75_0_eq:cK c75_0 7 x h k =
obH (boxV Tryz.prog 51 (x 0) h) fun v0 h1=>
obH (zBp Tryz.prog 51 h1) fun v2 h3=>
(fa 51 v0 0).bind fun v4=>
(ld 49 v4 h3).bind fun v5=>
obH (ev 53 #[v5] h3) fun v6 h7=>
(buildV Tryz.prog 51 #[(0,v6)]).bind fun v8=>
(sto 51 v2 v8 h7).bind fun h9=>
k .ret ⟨ar 7 (up x [(1,v0),(2,v2),(3,v4),(4,v5),(5,v6),(6,v8)]),h9⟩:=by kernel_rfl
theorem call75 (a0:Value):evC Tryz.prog 75 #[a0] h=cK c75_0 7 (up un [(0,a0)]) (nm h) (zBb Tryz.f75 Tryz.prog h):=
 (zAo 75 Tryz.f75 c75_0 Tryz.func75 (by kernel_rfl) #[a0] h).trans (by kernel_rfl)
theorem ret75:zBb Tryz.f75 Tryz.prog g .ret ⟨ar 7 x,h⟩=fin g (rvals ((ld 51 (x 2) h).bind fun r0=>some [r0])) h:=by kernel_rfl
end Go.Am
namespace Go.Am
open Go.Proofs
set_option maxRecDepth 100000
variable {β:Type} (x:Nat->Value) (h:Heap) (k:Ex->St->Option β) (r m:List Nat) (g:Heap)
noncomputable def c53_0:Code:=zAk Tryz.f53 []
theorem c53_0_eq:cK c53_0 8 x h k =
(bn .eql 49 (x 0) (.slice Option.none 0 0)).bind fun v0=>
cnd v0 (
k .ret ⟨ar 8 (up x [(2,(.slice Option.none 0 0)),(3,(x 0)),(4,v0)]),h⟩) (
obH (zAi Tryz.prog 49 0 #[] h) fun v1 h2=>
obH (ap 49 (some 49) v1 (x 0) h2) fun v3 h4=>
k .ret ⟨ar 8 (up x [(2,v3),(3,(x 0)),(4,v0),(5,v1),(6,(x 0)),(7,v3)]),h4⟩):=by kernel_rfl
theorem call53 (a0:Value):evC Tryz.prog 53 #[a0] h=cK c53_0 8 (up un [(0,a0)]) (nm h) (zBb Tryz.f53 Tryz.prog h):=
 (zAo 53 Tryz.f53 c53_0 Tryz.func53 (by kernel_rfl) #[a0] h).trans (by kernel_rfl)
theorem ret53:zBb Tryz.f53 Tryz.prog g .ret ⟨ar 8 x,h⟩=fin g (some (x 2)) h:=by kernel_rfl
end Go.Am
namespace Go.Am
open Go.Proofs
set_option maxRecDepth 100000
variable {β:Type} (x:Nat->Value) (h:Heap) (k:Ex->St->Option β) (r m:List Nat) (g:Heap)
noncomputable def c16_0:Code:=zAk Tryz.f16 []
noncomputable def c16_1:Code:=zAk Tryz.f16 [true,true,false,true,false,false]
noncomputable def c16_2:Code:=zAk Tryz.f16 [true,true,true]
theorem c16_0_eq:cK c16_0 31 x h k =
lK c16_1 31 (up x [(2,(.slice Option.none 0 0)),(3,(.slice Option.none 0 0)),(4,(.int .i64 0))]) h (zAu 0 (sK c16_2 k)):=by kernel_rfl
theorem c16_1_eq:cK c16_1 31 x h k =
(ln 49 (x 0) h).bind fun v0=>
(bn .lss 3 (x 4) v0).bind fun v1=>
cnd v1 (
(ia 49 (x 0) (x 4)).bind fun v2=>
(fa 99 v2 0).bind fun v3=>
(ld 3 v3 h).bind fun v4=>
(ia 49 (x 0) (x 4)).bind fun v5=>
(fa 99 v5 1).bind fun v6=>
(ld 30 v6 h).bind fun v7=>
(ia 49 (x 0) (x 4)).bind fun v8=>
(fa 99 v8 2).bind fun v9=>
(ld 39 v9 h).bind fun v10=>
(buildV Tryz.prog 87 #[(0,v4),(1,v7),(2,v10)]).bind fun v11=>
obH (zAi Tryz.prog 31 1 #[(0,v11)] h) fun v12 h13=>
obH (ap 31 (some 31) (x 3) v12 h13) fun v14 h15=>
(bn .add 3 (x 4) (.int .i64 1)).bind fun v16=>
k .normal ⟨ar 31 (up x [(3,v14),(4,v16),(5,(x 4)),(6,(x 0)),(7,v0),(8,v1),(9,(x 4)),(10,v16),(11,(x 3)),(12,(x 0)),(13,(x 4)),(14,v2),(15,v3),(16,v4),(17,(x 0)),(18,(x 4)),(19,v5),(20,v6),(21,v7),(22,(x 0)),(23,(x 4)),(24,v8),(25,v9),(26,v10),(27,v11),(28,v12),(29,v14)]),h15⟩) (
k (.exit 0) ⟨ar 31 (up x [(5,(x 4)),(6,(x 0)),(7,v0),(8,v1)]),h⟩):=by kernel_rfl
theorem c16_2_eq:cK c16_2 31 x h k =
k .ret ⟨ar 31 (up x [(2,(x 3)),(30,(x 3))]),h⟩:=by kernel_rfl
theorem call16 (a0:Value):evC Tryz.prog 16 #[a0] h=cK c16_0 31 (up un [(0,a0)]) (nm h) (zBb Tryz.f16 Tryz.prog h):=
 (zAo 16 Tryz.f16 c16_0 Tryz.func16 (by kernel_rfl) #[a0] h).trans (by kernel_rfl)
theorem ret16:zBb Tryz.f16 Tryz.prog g .ret ⟨ar 31 x,h⟩=fin g (some (x 2)) h:=by kernel_rfl
end Go.Am
namespace Go.Am
open Go.Proofs
set_option maxRecDepth 100000
variable {β:Type} (x:Nat->Value) (h:Heap) (k:Ex->St->Option β) (r m:List Nat) (g:Heap)
noncomputable def c15_0:Code:=zAk Tryz.f15 []
noncomputable def c15_1:Code:=zAk Tryz.f15 [true,true,false,true,false,false]
noncomputable def c15_2:Code:=zAk Tryz.f15 [true,true,true]
theorem c15_0_eq:cK c15_0 26 x h k =
(ln 31 (x 0) h).bind fun v0=>
(ln 31 (x 1) h).bind fun v1=>
(bn .neq 3 v0 v1).bind fun v2=>
cnd v2 (
k .ret ⟨ar 26 (up x [(4,(.bool false)),(6,(x 0)),(7,v0),(8,(x 1)),(9,v1),(10,v2)]),h⟩) (
lK c15_1 26 (up x [(4,(.bool false)),(5,(.int .i64 0)),(6,(x 0)),(7,v0),(8,(x 1)),(9,v1),(10,v2)]) h (zAu 0 (sK c15_2 k))):=by kernel_rfl
theorem c15_1_eq:cK c15_1 26 x h k =
(ln 31 (x 0) h).bind fun v3=>
(bn .lss 3 (x 5) v3).bind fun v4=>
cnd v4 (
(ia 31 (x 0) (x 5)).bind fun v5=>
(ld 87 v5 h).bind fun v6=>
(ia 31 (x 1) (x 5)).bind fun v7=>
(ld 87 v7 h).bind fun v8=>
(bn .neq 87 v6 v8).bind fun v9=>
cnd v9 (
k .ret ⟨ar 26 (up x [(4,(.bool false)),(11,(x 5)),(12,(x 0)),(13,v3),(14,v4),(17,(x 0)),(18,(x 5)),(19,v5),(20,v6),(21,(x 1)),(22,(x 5)),(23,v7),(24,v8),(25,v9)]),h⟩) (
(bn .add 3 (x 5) (.int .i64 1)).bind fun v10=>
k .normal ⟨ar 26 (up x [(5,v10),(11,(x 5)),(12,(x 0)),(13,v3),(14,v4),(15,(x 5)),(16,v10),(17,(x 0)),(18,(x 5)),(19,v5),(20,v6),(21,(x 1)),(22,(x 5)),(23,v7),(24,v8),(25,v9)]),h⟩)) (
k (.exit 0) ⟨ar 26 (up x [(11,(x 5)),(12,(x 0)),(13,v3),(14,v4)]),h⟩):=by kernel_rfl
theorem c15_2_eq:cK c15_2 26 x h k =
k .ret ⟨ar 26 (up x [(4,(.bool true))]),h⟩:=by kernel_rfl
theorem call15 (a0 a1:Value):evC Tryz.prog 15 #[a0,a1] h=cK c15_0 26 (up un [(0,a0),(1,a1)]) (nm h) (zBb Tryz.f15 Tryz.prog h):=
 (zAo 15 Tryz.f15 c15_0 Tryz.func15 (by kernel_rfl) #[a0,a1] h).trans (by kernel_rfl)
theorem ret15:zBb Tryz.f15 Tryz.prog g .ret ⟨ar 26 x,h⟩=fin g (some (x 4)) h:=by kernel_rfl
end Go.Am
namespace Go.Am
open Go.Proofs
set_option maxRecDepth 100000
variable {β:Type} (x:Nat->Value) (h:Heap) (k:Ex->St->Option β) (r m:List Nat) (g:Heap)
noncomputable def c77_0:Code:=zAk Tryz.f77 []
noncomputable def c77_1:Code:=zAk Tryz.f77 [true,true,true,false,false,false]
noncomputable def c77_2:Code:=zAk Tryz.f77 [true,true,true,true]
theorem c77_0_eq:cK c77_0 49 x h k =
obH (boxV Tryz.prog 99 (x 1) h) fun v0 h1=>
(ln 49 (x 0) h1).bind fun v2=>
lK c77_1 49 (up x [(4,v0),(6,(.int .i64 0)),(7,(.bool false)),(8,v2),(9,(.int .i64 0)),(10,v2),(12,(x 0)),(13,v2),(14,v2)]) h1 (zAu 0 (sK c77_2 k)):=by kernel_rfl
theorem c77_1_eq:cK c77_1 49 x h k =
(bn .lss 3 (x 9) (x 10)).bind fun v3=>
cnd v3 (
(bn .add 3 (x 9) (x 10)).bind fun v4=>
obH (cv 3 66 v4 h) fun v5 h6=>
(bn .shr 66 v5 (.int .u64 1)).bind fun v7=>
obH (cv 66 3 v7 h6) fun v8 h9=>
(ia 49 (x 0) v8).bind fun v10=>
(ld 99 v10 h9).bind fun v11=>
(ld 99 (x 4) h9).bind fun v12=>
obH (callV Tryz.prog (evC Tryz.prog) (x 2) #[v11,v12] h9) fun v13 h14=>
(bn .lss 3 v13 (.int .i64 0)).bind fun v15=>
cnd v15 (
(bn .add 3 v8 (.int .i64 1)).bind fun v16=>
k .normal ⟨ar 49 (up x [(9,v16),(11,v8),(15,(x 9)),(16,(x 10)),(17,v3),(18,(x 9)),(19,(x 10)),(20,v4),(21,v5),(22,v7),(23,v8),(24,(x 2)),(25,(x 0)),(26,v8),(27,v10),(28,v11),(29,v12),(30,v13),(31,v15),(32,v8),(33,v16)]),h14⟩) (
k .normal ⟨ar 49 (up x [(10,v8),(11,v8),(15,(x 9)),(16,(x 10)),(17,v3),(18,(x 9)),(19,(x 10)),(20,v4),(21,v5),(22,v7),(23,v8),(24,(x 2)),(25,(x 0)),(26,v8),(27,v10),(28,v11),(29,v12),(30,v13),(31,v15),(34,v8)]),h14⟩)) (
k (.exit 0) ⟨ar 49 (up x [(15,(x 9)),(16,(x 10)),(17,v3)]),h⟩):=by kernel_rfl
theorem c77_2_eq:cK c77_2 49 x h k =
(bn .lss 3 (x 9) (x 8)).bind fun v17=>
(gd (wt v17 true) (ia 49 (gdV (wt v17 true) (x 0)) (gdV (wt v17 true) (x 9)))).bind fun v18=>
(gd (wt v17 true) (ld 99 v18 h)).bind fun v19=>
(gd (wt v17 true) (ld 99 (x 4) h)).bind fun v20=>
obH (gdH (wt v17 true) h (callV Tryz.prog (evC Tryz.prog) (gdV (wt v17 true) (x 2)) #[v19,v20] h)) fun v21 h22=>
(gd (wt v17 true) (bn .eql 3 v21 (.int .i64 0))).bind fun v23=>
(zBo v17 v23 (.bool false)).bind fun v24=>
k .ret ⟨ar 49 (up x [(6,(x 9)),(7,v24),(35,(x 9)),(36,(x 9)),(37,(x 8)),(38,v17),(39,v17),(40,(gdV (wt v17 true) (x 2))),(41,(gdV (wt v17 true) (x 0))),(42,(gdV (wt v17 true) (x 9))),(43,v18),(44,v19),(45,v20),(46,v21),(47,v23),(48,v24)]),h22⟩:=by kernel_rfl
theorem call77 (a0 a1 a2:Value):evC Tryz.prog 77 #[a0,a1,a2] h=cK c77_0 49 (up un [(0,a0),(1,a1),(2,a2)]) (nm h) (zBb Tryz.f77 Tryz.prog h):=
 (zAo 77 Tryz.f77 c77_0 Tryz.func77 (by kernel_rfl) #[a0,a1,a2] h).trans (by kernel_rfl)
theorem ret77:zBb Tryz.f77 Tryz.prog g .ret ⟨ar 49 x,h⟩=fin g (some (.tuple #[x 6,(x 7)])) h:=by kernel_rfl
end Go.Am
namespace Go.Am
open Go.Proofs
set_option maxRecDepth 100000
variable {β:Type} (x:Nat->Value) (h:Heap) (k:Ex->St->Option β) (r m:List Nat) (g:Heap)
noncomputable def c36_0:Code:=zAk Tryz.f36 []
theorem c36_0_eq:cK c36_0 39 x h k =
obH (boxV Tryz.prog 51 (x 0) h) fun v0 h1=>
obH (boxV Tryz.prog 99 (x 1) h1) fun v2 h3=>
obH (zBp Tryz.prog 51 h3) fun v4 h5=>
(ld 51 v0 h5).bind fun v6=>
obH (ev 75 #[v6] h5) fun v7 h8=>
(sto 51 v0 v7 h8).bind fun h9=>
(ld 51 v0 h9).bind fun v10=>
obH (ev 69 #[v10] h9) fun v11 h12=>
(unV Tryz.prog .not v11).bind fun v13=>
(gd (wt v13 false) (ld 99 v2 h12)).bind fun v14=>
obH (gdH (wt v13 false) h12 (ev 76 #[v14] h12)) fun v15 h16=>
(gd (wt v13 false) (unV Tryz.prog .not v15)).bind fun v17=>
(zBo v13 (.bool true) v17).bind fun v18=>
cnd v18 (
(ld 51 v0 h16).bind fun v19=>
(sto 51 v4 v19 h16).bind fun h20=>
k .ret ⟨ar 39 (up x [(2,v0),(3,v2),(4,v4),(7,v6),(8,v7),(9,v10),(10,v11),(11,v13),(12,v13),(13,v14),(14,v15),(15,v17),(16,v18),(17,v19)]),h20⟩) (
(fa 51 v0 0).bind fun v21=>
(ld 49 v21 h16).bind fun v22=>
(ld 99 v2 h16).bind fun v23=>
obH (ev 77 #[v22,v23,(.func (.func 78) #[] #[])] h16) fun v24 h25=>
(zBf v24 0).bind fun v26=>
(zBf v24 1).bind fun v27=>
cnd v27 (
(fa 51 v0 0).bind fun v28=>
(ld 49 v28 h25).bind fun v29=>
(ld 99 v2 h25).bind fun v30=>
(ia 49 v29 v26).bind fun v31=>
(sto 99 v31 v30 h25).bind fun h32=>
(ld 51 v0 h32).bind fun v33=>
(sto 51 v4 v33 h32).bind fun h34=>
k .ret ⟨ar 39 (up x [(2,v0),(3,v2),(4,v4),(5,v26),(6,v27),(7,v6),(8,v7),(9,v10),(10,v11),(11,v13),(12,v13),(13,v14),(14,v15),(15,v17),(16,v18),(18,v24),(19,v21),(20,v22),(21,v23),(22,v24),(23,v26),(24,v27),(25,v27),(26,v28),(27,v29),(28,v26),(29,v30),(30,v31),(38,v33)]),h34⟩) (
(fa 51 v0 0).bind fun v35=>
(ld 49 v35 h25).bind fun v36=>
(ld 99 v2 h25).bind fun v37=>
obH (zAi Tryz.prog 49 1 #[(0,v37)] h25) fun v38 h39=>
obH (ev 79 #[v36,v26,v38] h39) fun v40 h41=>
(fa 51 v0 0).bind fun v42=>
(sto 49 v42 v40 h41).bind fun h43=>
(ld 51 v0 h43).bind fun v44=>
(sto 51 v4 v44 h43).bind fun h45=>
k .ret ⟨ar 39 (up x [(2,v0),(3,v2),(4,v4),(5,v26),(6,v27),(7,v6),(8,v7),(9,v10),(10,v11),(11,v13),(12,v13),(13,v14),(14,v15),(15,v17),(16,v18),(18,v24),(19,v21),(20,v22),(21,v23),(22,v24),(23,v26),(24,v27),(25,v27),(31,v35),(32,v36),(33,v26),(34,v37),(35,v38),(36,v40),(37,v42),(38,v44)]),h45⟩)):=by kernel_rfl
theorem call36 (a0 a1:Value):evC Tryz.prog 36 #[a0,a1] h=cK c36_0 39 (up un [(0,a0),(1,a1)]) (nm h) (zBb Tryz.f36 Tryz.prog h):=
 (zAo 36 Tryz.f36 c36_0 Tryz.func36 (by kernel_rfl) #[a0,a1] h).trans (by kernel_rfl)
theorem ret36:zBb Tryz.f36 Tryz.prog g .ret ⟨ar 39 x,h⟩=fin g (rvals ((ld 51 (x 4) h).bind fun r0=>some [r0])) h:=by kernel_rfl
end Go.Am
namespace Go.Am
open Go.Proofs
set_option maxRecDepth 100000
variable {β:Type} (x:Nat->Value) (h:Heap) (k:Ex->St->Option β) (r m:List Nat) (g:Heap)
noncomputable def c106_0:Code:=zAk Tryz.f106 []
noncomputable def c106_1:Code:=zAk Tryz.f106 [true,true,false,true,false,false]
noncomputable def c106_2:Code:=zAk Tryz.f106 [true,true,true]
theorem c106_0_eq:cK c106_0 21 x h k =
obH (boxV Tryz.prog 51 (x 0) h) fun v0 h1=>
obH (some (makeMapV h1)) fun v2 h3=>
(fa 51 v0 0).bind fun v4=>
(ld 49 v4 h3).bind fun v5=>
(ln 49 v5 h3).bind fun v6=>
lK c106_1 21 (up x [(1,v0),(2,(.map Option.none)),(3,v2),(6,v2),(7,v4),(8,v5),(9,v6),(10,(.int .i64 0))]) h3 (zAu 0 (sK c106_2 k)):=by kernel_rfl
theorem c106_1_eq:cK c106_1 21 x h k =
(bn .lss 3 (x 10) (x 9)).bind fun v7=>
cnd v7 (
(ia 49 (x 8) (x 10)).bind fun v8=>
(ld 99 v8 h).bind fun v9=>
obH (zBp Tryz.prog 99 h) fun v10 h11=>
(sto 99 v10 v9 h11).bind fun h12=>
(fa 99 v10 0).bind fun v13=>
(ld 3 v13 h12).bind fun v14=>
(fa 99 v10 1).bind fun v15=>
(ld 30 v15 h12).bind fun v16=>
(mapUpdateV Tryz.prog 183 (x 3) v14 v16 h12).bind fun h17=>
(bn .add 3 (x 10) (.int .i64 1)).bind fun v18=>
k .normal ⟨ar 21 (up x [(5,v10),(10,v18),(11,v7),(12,v8),(13,v9),(14,(x 3)),(15,v13),(16,v14),(17,v15),(18,v16),(19,v18)]),h17⟩) (
k (.exit 0) ⟨ar 21 (up x [(11,v7)]),h⟩):=by kernel_rfl
theorem c106_2_eq:cK c106_2 21 x h k =
k .ret ⟨ar 21 (up x [(2,(x 3)),(20,(x 3))]),h⟩:=by kernel_rfl
theorem call106 (a0:Value):evC Tryz.prog 106 #[a0] h=cK c106_0 21 (up un [(0,a0)]) (nm h) (zBb Tryz.f106 Tryz.prog h):=
 (zAo 106 Tryz.f106 c106_0 Tryz.func106 (by kernel_rfl) #[a0] h).trans (by kernel_rfl)
theorem ret106:zBb Tryz.f106 Tryz.prog g .ret ⟨ar 21 x,h⟩=fin g (some (x 2)) h:=by kernel_rfl
end Go.Am
namespace Go.Am
open Go.Proofs
set_option maxRecDepth 100000
variable {β:Type} (x:Nat->Value) (h:Heap) (k:Ex->St->Option β) (r m:List Nat) (g:Heap)
noncomputable def c84_0:Code:=zAk Tryz.f84 []
noncomputable def c84_1:Code:=zAk Tryz.f84 [true,true,true,false,true,false,false]
noncomputable def c84_2:Code:=zAk Tryz.f84 [true,true,true,true]
theorem c84_0_eq:cK c84_0 44 x h k =
obH (boxV Tryz.prog 51 (x 0) h) fun v0 h1=>
obH (boxV Tryz.prog 51 (x 1) h1) fun v2 h3=>
(ld 51 v2 h3).bind fun v4=>
obH (ev 106 #[v4] h3) fun v5 h6=>
(fa 51 v0 0).bind fun v7=>
(ld 49 v7 h6).bind fun v8=>
(ln 49 v8 h6).bind fun v9=>
lK c84_1 44 (up x [(2,v0),(3,v2),(4,(.slice Option.none 0 0)),(5,v5),(6,(.slice Option.none 0 0)),(11,v4),(12,v5),(13,v7),(14,v8),(15,v9),(16,(.int .i64 0))]) h6 (zAu 0 (sK c84_2 k)):=by kernel_rfl
theorem c84_1_eq:cK c84_1 44 x h k =
(bn .lss 3 (x 16) (x 15)).bind fun v10=>
cnd v10 (
(ia 49 (x 14) (x 16)).bind fun v11=>
(ld 99 v11 h).bind fun v12=>
obH (zBp Tryz.prog 99 h) fun v13 h14=>
(sto 99 v13 v12 h14).bind fun h15=>
(fa 51 (x 3) 0).bind fun v16=>
(ld 49 v16 h15).bind fun v17=>
(ld 99 v13 h15).bind fun v18=>
obH (ev 77 #[v17,v18,(.func (.func 78) #[] #[])] h15) fun v19 h20=>
(zBf v19 0).bind fun v21=>
(zBf v19 1).bind fun v22=>
(unV Tryz.prog .not v22).bind fun v23=>
(gd (wt v23 true) (fa 99 v13 0)).bind fun v24=>
(gd (wt v23 true) (ld 3 v24 h20)).bind fun v25=>
(gd (wt v23 true) (lookupV Tryz.prog 183 (gdV (wt v23 true) (x 5)) v25 false h20)).bind fun v26=>
(gd (wt v23 true) (fa 99 v13 1)).bind fun v27=>
(gd (wt v23 true) (ld 30 v27 h20)).bind fun v28=>
(gd (wt v23 true) (bn .lss 30 v26 v28)).bind fun v29=>
(zBo v23 v29 (.bool false)).bind fun v30=>
cnd v30 (
(ld 99 v13 h20).bind fun v31=>
obH (zAi Tryz.prog 49 1 #[(0,v31)] h20) fun v32 h33=>
obH (ap 49 (some 49) (x 6) v32 h33) fun v34 h35=>
(bn .add 3 (x 16) (.int .i64 1)).bind fun v36=>
k .normal ⟨ar 44 (up x [(6,v34),(8,v13),(9,v21),(10,v22),(16,v36),(17,v10),(18,v11),(19,v12),(20,v19),(21,v16),(22,v17),(23,v18),(24,v19),(25,v21),(26,v22),(27,v22),(28,v23),(29,v23),(30,(gdV (wt v23 true) (x 5))),(31,v24),(32,v25),(33,v26),(34,v27),(35,v28),(36,v29),(37,v30),(38,(x 6)),(39,v31),(40,v32),(41,v34),(42,v36)]),h35⟩) (
(bn .add 3 (x 16) (.int .i64 1)).bind fun v37=>
k .normal ⟨ar 44 (up x [(8,v13),(9,v21),(10,v22),(16,v37),(17,v10),(18,v11),(19,v12),(20,v19),(21,v16),(22,v17),(23,v18),(24,v19),(25,v21),(26,v22),(27,v22),(28,v23),(29,v23),(30,(gdV (wt v23 true) (x 5))),(31,v24),(32,v25),(33,v26),(34,v27),(35,v28),(36,v29),(37,v30),(42,v37)]),h20⟩)) (
k (.exit 0) ⟨ar 44 (up x [(17,v10)]),h⟩):=by kernel_rfl
theorem c84_2_eq:cK c84_2 44 x h k =
k .ret ⟨ar 44 (up x [(4,(x 6)),(43,(x 6))]),h⟩:=by kernel_rfl
theorem call84 (a0 a1:Value):evC Tryz.prog 84 #[a0,a1] h=cK c84_0 44 (up un [(0,a0),(1,a1)]) (nm h) (zBb Tryz.f84 Tryz.prog h):=
 (zAo 84 Tryz.f84 c84_0 Tryz.func84 (by kernel_rfl) #[a0,a1] h).trans (by kernel_rfl)
theorem ret84:zBb Tryz.f84 Tryz.prog g .ret ⟨ar 44 x,h⟩=fin g (some (x 4)) h:=by kernel_rfl
end Go.Am
namespace Go.Am
open Go.Proofs
set_option maxRecDepth 100000
variable {β:Type} (x:Nat->Value) (h:Heap) (k:Ex->St->Option β) (r m:List Nat) (g:Heap)
noncomputable def c43_0:Code:=zAk Tryz.f43 []
noncomputable def c43_1:Code:=zAk Tryz.f43 [true,true,true,false,true,false,false]
noncomputable def c43_2:Code:=zAk Tryz.f43 [true,true,true,true]
theorem c43_0_eq:cK c43_0 61 x h k =
obH (boxV Tryz.prog 51 (x 0) h) fun v0 h1=>
obH (boxV Tryz.prog 51 (x 1) h1) fun v2 h3=>
obH (zBp Tryz.prog 51 h3) fun v4 h5=>
(ld 51 v0 h5).bind fun v6=>
obH (ev 69 #[v6] h5) fun v7 h8=>
(unV Tryz.prog .not v7).bind fun v9=>
(gd (wt v9 false) (ld 51 v2 h8)).bind fun v10=>
obH (gdH (wt v9 false) h8 (ev 69 #[v10] h8)) fun v11 h12=>
(gd (wt v9 false) (unV Tryz.prog .not v11)).bind fun v13=>
(zBo v9 (.bool true) v13).bind fun v14=>
cnd v14 (
(ld 51 v0 h12).bind fun v15=>
obH (ev 75 #[v15] h12) fun v16 h17=>
(sto 51 v4 v16 h17).bind fun h18=>
k .ret ⟨ar 61 (up x [(2,v0),(3,v2),(4,v4),(10,v6),(11,v7),(12,v9),(13,v9),(14,v10),(15,v11),(16,v13),(17,v14),(18,v15),(19,v16)]),h18⟩) (
(ld 51 v0 h12).bind fun v19=>
(ld 51 v2 h12).bind fun v20=>
obH (ev 84 #[v19,v20] (nm h12)) fun v21 h22=>
(ld 51 v2 (am h22 h12)).bind fun v23=>
(ld 51 v0 (am h22 h12)).bind fun v24=>
obH (ev 84 #[v23,v24] (am h22 h12)) fun v25 h26=>
obH (ap 49 (some 49) v21 v25 h26) fun v27 h28=>
chk ((rb v0)++((rb v2)++[])) (h22.mods++[]) (
(fa 51 v0 0).bind fun v29=>
(ld 49 v29 h28).bind fun v30=>
(ln 49 v30 h28).bind fun v31=>
lK c43_1 61 (up x [(2,v0),(3,v2),(4,v4),(5,v27),(10,v6),(11,v7),(12,v9),(13,v9),(14,v10),(15,v11),(16,v13),(17,v14),(20,v19),(21,v20),(22,v21),(23,v23),(24,v24),(25,v25),(26,v27),(27,v29),(28,v30),(29,v31),(30,(.int .i64 0))]) h28 (zAu 0 (sK c43_2 k)))):=by kernel_rfl
theorem c43_1_eq:cK c43_1 61 x h k =
(bn .lss 3 (x 30) (x 29)).bind fun v32=>
cnd v32 (
(ia 49 (x 28) (x 30)).bind fun v33=>
(ld 99 v33 h).bind fun v34=>
obH (zBp Tryz.prog 99 h) fun v35 h36=>
(sto 99 v35 v34 h36).bind fun h37=>
(fa 51 (x 3) 0).bind fun v38=>
(ld 49 v38 h37).bind fun v39=>
(ld 99 v35 h37).bind fun v40=>
obH (ev 77 #[v39,v40,(.func (.func 78) #[] #[])] h37) fun v41 h42=>
(zBf v41 0).bind fun v43=>
(zBf v41 1).bind fun v44=>
cnd v44 (
(fa 99 v35 2).bind fun v45=>
(ld 39 v45 h42).bind fun v46=>
(fa 51 (x 3) 0).bind fun v47=>
(ld 49 v47 h42).bind fun v48=>
(ia 49 v48 v43).bind fun v49=>
(fa 99 v49 2).bind fun v50=>
(ld 39 v50 h42).bind fun v51=>
(bn .and 39 v46 v51).bind fun v52=>
(fa 99 v35 2).bind fun v53=>
(sto 39 v53 v52 h42).bind fun h54=>
(ld 99 v35 h54).bind fun v55=>
obH (zAi Tryz.prog 49 1 #[(0,v55)] h54) fun v56 h57=>
obH (ap 49 (some 49) (x 5) v56 h57) fun v58 h59=>
(bn .add 3 (x 30) (.int .i64 1)).bind fun v60=>
k .normal ⟨ar 61 (up x [(5,v58),(7,v35),(8,v43),(9,v44),(30,v60),(31,v32),(32,v33),(33,v34),(34,v41),(35,v38),(36,v39),(37,v40),(38,v41),(39,v43),(40,v44),(41,v44),(42,v45),(43,v46),(44,v47),(45,v48),(46,v43),(47,v49),(48,v50),(49,v51),(50,v52),(51,v53),(52,(x 5)),(53,v55),(54,v56),(55,v58),(56,v60)]),h59⟩) (
(bn .add 3 (x 30) (.int .i64 1)).bind fun v61=>
k .normal ⟨ar 61 (up x [(7,v35),(8,v43),(9,v44),(30,v61),(31,v32),(32,v33),(33,v34),(34,v41),(35,v38),(36,v39),(37,v40),(38,v41),(39,v43),(40,v44),(41,v44),(56,v61)]),h42⟩)) (
k (.exit 0) ⟨ar 61 (up x [(31,v32)]),h⟩):=by kernel_rfl
theorem c43_2_eq:cK c43_2 61 x h k =
obH (ev 85 #[x 5,(.func (.func 78) #[] #[])] h) fun v62 h63=>
(buildV Tryz.prog 51 #[(0,(x 5))]).bind fun v64=>
(sto 51 (x 4) v64 h63).bind fun h65=>
k .ret ⟨ar 61 (up x [(57,(x 5)),(58,v62),(59,(x 5)),(60,v64)]),h65⟩:=by kernel_rfl
theorem call43 (a0 a1:Value):evC Tryz.prog 43 #[a0,a1] h=cK c43_0 61 (up un [(0,a0),(1,a1)]) (nm h) (zBb Tryz.f43 Tryz.prog h):=
 (zAo 43 Tryz.f43 c43_0 Tryz.func43 (by kernel_rfl) #[a0,a1] h).trans (by kernel_rfl)
theorem ret43:zBb Tryz.f43 Tryz.prog g .ret ⟨ar 61 x,h⟩=fin g (rvals ((ld 51 (x 4) h).bind fun r0=>some [r0])) h:=by kernel_rfl
end Go.Am
namespace Go.Am
open Go.Proofs
set_option maxRecDepth 100000
variable {β:Type} (x:Nat->Value) (h:Heap) (k:Ex->St->Option β) (r m:List Nat) (g:Heap)
noncomputable def c37_0:Code:=zAk Tryz.f37 []
noncomputable def c37_1:Code:=zAk Tryz.f37 [true,true,true,false,true,false,false]
noncomputable def c37_2:Code:=zAk Tryz.f37 [true,true,true,true]
theorem c37_0_eq:cK c37_0 30 x h k =
obH (boxV Tryz.prog 51 (x 0) h) fun v0 h1=>
obH (zBp Tryz.prog 51 h1) fun v2 h3=>
(ld 51 v0 h3).bind fun v4=>
obH (ev 75 #[v4] h3) fun v5 h6=>
(sto 51 v0 v5 h6).bind fun h7=>
(ld 51 v0 h7).bind fun v8=>
obH (ev 69 #[v8] h7) fun v9 h10=>
(unV Tryz.prog .not v9).bind fun v11=>
cnd v11 (
(ld 51 v0 h10).bind fun v12=>
(sto 51 v2 v12 h10).bind fun h13=>
k .ret ⟨ar 30 (up x [(2,v0),(4,v2),(6,v4),(7,v5),(8,v8),(9,v9),(10,v11),(11,v12)]),h13⟩) (
(fa 51 v0 0).bind fun v14=>
(ld 49 v14 h10).bind fun v15=>
(ln 49 v15 h10).bind fun v16=>
lK c37_1 30 (up x [(2,v0),(4,v2),(6,v4),(7,v5),(8,v8),(9,v9),(10,v11),(12,v14),(13,v15),(14,v16),(15,(.int .i64 0))]) h10 (zAu 0 (sK c37_2 k))):=by kernel_rfl
theorem c37_1_eq:cK c37_1 30 x h k =
(bn .lss 3 (x 15) (x 14)).bind fun v17=>
cnd v17 (
(fa 51 (x 2) 0).bind fun v18=>
(ld 49 v18 h).bind fun v19=>
(ia 49 v19 (x 15)).bind fun v20=>
(fa 99 v20 2).bind fun v21=>
(ld 39 v21 h).bind fun v22=>
(bn .andNot 39 v22 (x 1)).bind fun v23=>
(ia 49 v19 (x 15)).bind fun v24=>
(fa 99 v24 2).bind fun v25=>
(sto 39 v25 v23 h).bind fun h26=>
(bn .add 3 (x 15) (.int .i64 1)).bind fun v27=>
k .normal ⟨ar 30 (up x [(5,(x 15)),(15,v27),(16,v17),(17,(x 15)),(18,v18),(19,v19),(20,(x 15)),(21,v20),(22,v21),(23,v22),(24,(x 1)),(25,v23),(26,v24),(27,v25),(28,v27)]),h26⟩) (
k (.exit 0) ⟨ar 30 (up x [(16,v17)]),h⟩):=by kernel_rfl
theorem c37_2_eq:cK c37_2 30 x h k =
(ld 51 (x 2) h).bind fun v28=>
(sto 51 (x 4) v28 h).bind fun h29=>
k .ret ⟨ar 30 (up x [(29,v28)]),h29⟩:=by kernel_rfl
theorem call37 (a0 a1:Value):evC Tryz.prog 37 #[a0,a1] h=cK c37_0 30 (up un [(0,a0),(1,a1)]) (nm h) (zBb Tryz.f37 Tryz.prog h):=
 (zAo 37 Tryz.f37 c37_0 Tryz.func37 (by kernel_rfl) #[a0,a1] h).trans (by kernel_rfl)
theorem ret37:zBb Tryz.f37 Tryz.prog g .ret ⟨ar 30 x,h⟩=fin g (rvals ((ld 51 (x 4) h).bind fun r0=>some [r0])) h:=by kernel_rfl
end Go.Am
namespace Go.Am
open Go.Proofs
set_option maxRecDepth 100000
variable {β:Type} (x:Nat->Value) (h:Heap) (k:Ex->St->Option β) (r m:List Nat) (g:Heap)
noncomputable def c35_0:Code:=zAk Tryz.f35 []
theorem c35_0_eq:cK c35_0 14 x h k =
obH (boxV Tryz.prog 51 (x 0) h) fun v0 h1=>
obH (zBp Tryz.prog 51 h1) fun v2 h3=>
(ld 51 v0 h3).bind fun v4=>
obH (zAi Tryz.prog 68 1 #[(0,(x 2))] h3) fun v5 h6=>
obH (ev 28 #[v5] (nm h6)) fun v7 h8=>
(bn .andNot 39 (x 1) v7).bind fun v9=>
obH (ev 37 #[v4,v9] (am h8 h6)) fun v10 h11=>
(sto 51 v2 v10 h11).bind fun h12=>
chk ((rb v0)++[]) (h8.mods++[]) (
k .ret ⟨ar 14 (up x [(3,v0),(6,v2),(7,v4),(8,(x 1)),(9,(x 2)),(10,v5),(11,v7),(12,v9),(13,v10)]),h12⟩):=by kernel_rfl
theorem call35 (a0 a1 a2:Value):evC Tryz.prog 35 #[a0,a1,a2] h=cK c35_0 14 (up un [(0,a0),(1,a1),(2,a2)]) (nm h) (zBb Tryz.f35 Tryz.prog h):=
 (zAo 35 Tryz.f35 c35_0 Tryz.func35 (by kernel_rfl) #[a0,a1,a2] h).trans (by kernel_rfl)
theorem ret35:zBb Tryz.f35 Tryz.prog g .ret ⟨ar 14 x,h⟩=fin g (rvals ((ld 51 (x 6) h).bind fun r0=>some [r0])) h:=by kernel_rfl
end Go.Am
namespace Go.Am
open Go.Proofs
set_option maxRecDepth 100000
variable {β:Type} (x:Nat->Value) (h:Heap) (k:Ex->St->Option β) (r m:List Nat) (g:Heap)
noncomputable def c28_0:Code:=zAk Tryz.f28 []
noncomputable def c28_1:Code:=zAk Tryz.f28 [true,true,false,true,false,false]
noncomputable def c28_2:Code:=zAk Tryz.f28 [true,true,true]
theorem c28_0_eq:cK c28_0 24 x h k =
(ln 68 (x 0) h).bind fun v0=>
lK c28_1 24 (up x [(2,(.int .u64 0)),(3,(.int .u64 0)),(6,(x 0)),(7,v0),(8,(.int .i64 0))]) h (zAu 0 (sK c28_2 k)):=by kernel_rfl
theorem c28_1_eq:cK c28_1 24 x h k =
(bn .lss 3 (x 8) (x 7)).bind fun v1=>
cnd v1 (
(ia 68 (x 6) (x 8)).bind fun v2=>
(ld 3 v2 h).bind fun v3=>
(bn .geq 3 v3 (.int .i64 0)).bind fun v4=>
(gd (wt v4 true) (bn .lss 3 (gdV (wt v4 true) v3) (.int .i64 64))).bind fun v5=>
(zBo v4 v5 (.bool false)).bind fun v6=>
cnd v6 (
(bn .shl 39 (.int .u64 1) v3).bind fun v7=>
(bn .or 39 (x 3) v7).bind fun v8=>
(bn .add 3 (x 8) (.int .i64 1)).bind fun v9=>
k .normal ⟨ar 24 (up x [(3,v8),(5,v3),(8,v9),(9,v1),(10,v2),(11,v3),(12,v3),(13,v4),(14,v4),(15,(gdV (wt v4 true) v3)),(16,v5),(17,v6),(18,(x 3)),(19,v3),(20,v7),(21,v8),(22,v9)]),h⟩) (
(bn .add 3 (x 8) (.int .i64 1)).bind fun v10=>
k .normal ⟨ar 24 (up x [(5,v3),(8,v10),(9,v1),(10,v2),(11,v3),(12,v3),(13,v4),(14,v4),(15,(gdV (wt v4 true) v3)),(16,v5),(17,v6),(22,v10)]),h⟩)) (
k (.exit 0) ⟨ar 24 (up x [(9,v1)]),h⟩):=by kernel_rfl
theorem c28_2_eq:cK c28_2 24 x h k =
k .ret ⟨ar 24 (up x [(2,(x 3)),(23,(x 3))]),h⟩:=by kernel_rfl
theorem call28 (a0:Value):evC Tryz.prog 28 #[a0] h=cK c28_0 24 (up un [(0,a0)]) (nm h) (zBb Tryz.f28 Tryz.prog h):=
 (zAo 28 Tryz.f28 c28_0 Tryz.func28 (by kernel_rfl) #[a0] h).trans (by kernel_rfl)
theorem ret28:zBb Tryz.f28 Tryz.prog g .ret ⟨ar 24 x,h⟩=fin g (some (x 2)) h:=by kernel_rfl
end Go.Am
namespace Go.Am
open Go.Proofs
set_option maxRecDepth 100000
variable {β:Type} (x:Nat->Value) (h:Heap) (k:Ex->St->Option β) (r m:List Nat) (g:Heap)
noncomputable def c32_0:Code:=zAk Tryz.f32 []
noncomputable def c32_1:Code:=zAk Tryz.f32 [true,true,false,false,false]
noncomputable def c32_2:Code:=zAk Tryz.f32 [true,true,true]
theorem c32_0_eq:cK c32_0 16 x h k =
lK c32_1 16 (up x [(2,(.slice Option.none 0 0)),(3,(.slice Option.none 0 0))]) h (zAu 0 (sK c32_2 k)):=by kernel_rfl
theorem c32_1_eq:cK c32_1 16 x h k =
(bn .neq 39 (x 0) (.int .u64 0)).bind fun v0=>
cnd v0 (
obH (ev 70 #[x 0] h) fun v1 h2=>
obH (zAi Tryz.prog 68 1 #[(0,v1)] h2) fun v3 h4=>
obH (ap 68 (some 68) (x 3) v3 h4) fun v5 h6=>
(bn .sub 39 (x 0) (.int .u64 1)).bind fun v7=>
(bn .and 39 (x 0) v7).bind fun v8=>
k .normal ⟨ar 16 (up x [(0,v8),(3,v5),(4,(x 0)),(5,v0),(6,(x 3)),(7,(x 0)),(8,v1),(9,v3),(10,v5),(11,(x 0)),(12,(x 0)),(13,v7),(14,v8)]),h6⟩) (
k (.exit 0) ⟨ar 16 (up x [(4,(x 0)),(5,v0)]),h⟩):=by kernel_rfl
theorem c32_2_eq:cK c32_2 16 x h k =
k .ret ⟨ar 16 (up x [(2,(x 3)),(15,(x 3))]),h⟩:=by kernel_rfl
theorem call32 (a0:Value):evC Tryz.prog 32 #[a0] h=cK c32_0 16 (up un [(0,a0)]) (nm h) (zBb Tryz.f32 Tryz.prog h):=
 (zAo 32 Tryz.f32 c32_0 Tryz.func32 (by kernel_rfl) #[a0] h).trans (by kernel_rfl)
theorem ret32:zBb Tryz.f32 Tryz.prog g .ret ⟨ar 16 x,h⟩=fin g (some (x 2)) h:=by kernel_rfl
end Go.Am
namespace Go.Am
open Go.Proofs
set_option maxRecDepth 100000
variable {β:Type} (x:Nat->Value) (h:Heap) (k:Ex->St->Option β) (r m:List Nat) (g:Heap)
noncomputable def c34_0:Code:=zAk Tryz.f34 []
noncomputable def c34_1:Code:=zAk Tryz.f34 [true,true,true,true,false,true,false,false]
noncomputable def c34_2:Code:=zAk Tryz.f34 [true,true,true,true,true]
theorem c34_0_eq:cK c34_0 50 x h k =
obH (boxV Tryz.prog 51 (x 0) h) fun v0 h1=>
obH (zBp Tryz.prog 51 h1) fun v2 h3=>
(ld 51 v0 h3).bind fun v4=>
obH (ev 75 #[v4] h3) fun v5 h6=>
(sto 51 v0 v5 h6).bind fun h7=>
(ld 51 v0 h7).bind fun v8=>
obH (ev 69 #[v8] h7) fun v9 h10=>
(unV Tryz.prog .not v9).bind fun v11=>
cnd v11 (
(ld 51 v0 h10).bind fun v12=>
(sto 51 v2 v12 h10).bind fun h13=>
k .ret ⟨ar 50 (up x [(1,v0),(2,v2),(6,v4),(7,v5),(8,v8),(9,v9),(10,v11),(11,v12)]),h13⟩) (
(fa 51 v0 0).bind fun v14=>
(ld 49 v14 h10).bind fun v15=>
(ln 49 v15 h10).bind fun v16=>
lK c34_1 50 (up x [(1,v0),(2,v2),(3,(.slice Option.none 0 0)),(6,v4),(7,v5),(8,v8),(9,v9),(10,v11),(12,v14),(13,v15),(14,v16),(15,(.int .i64 0))]) h10 (zAu 0 (sK c34_2 k))):=by kernel_rfl
theorem c34_1_eq:cK c34_1 50 x h k =
(bn .lss 3 (x 15) (x 14)).bind fun v17=>
cnd v17 (
(ia 49 (x 13) (x 15)).bind fun v18=>
(ld 99 v18 h).bind fun v19=>
obH (zBp Tryz.prog 99 h) fun v20 h21=>
(sto 99 v20 v19 h21).bind fun h22=>
(fa 99 v20 2).bind fun v23=>
(ld 39 v23 h22).bind fun v24=>
(bn .neq 39 v24 (.int .u64 0)).bind fun v25=>
(gd (wt v25 false) (fa 51 (x 1) 0)).bind fun v26=>
(gd (wt v25 false) (ld 49 v26 h22)).bind fun v27=>
(gd (wt v25 false) (ln 49 v27 h22)).bind fun v28=>
(gd (wt v25 false) (bn .sub 3 v28 (.int .i64 1))).bind fun v29=>
(gd (wt v25 false) (bn .eql 3 (gdV (wt v25 false) (x 15)) v29)).bind fun v30=>
(zBo v25 (.bool true) v30).bind fun v31=>
(gd (wt v31 false) (fa 51 (x 1) 0)).bind fun v32=>
(gd (wt v31 false) (ld 49 v32 h22)).bind fun v33=>
(gd (wt v31 false) (bn .add 3 (gdV (wt v31 false) (x 15)) (.int .i64 1))).bind fun v34=>
(gd (wt v31 false) (ia 49 v33 v34)).bind fun v35=>
(gd (wt v31 false) (fa 99 v35 0)).bind fun v36=>
(gd (wt v31 false) (ld 3 v36 h22)).bind fun v37=>
(gd (wt v31 false) (fa 99 v20 0)).bind fun v38=>
(gd (wt v31 false) (ld 3 v38 h22)).bind fun v39=>
(gd (wt v31 false) (bn .neq 3 v37 v39)).bind fun v40=>
(zBo v31 (.bool true) v40).bind fun v41=>
cnd v41 (
(ld 99 v20 h22).bind fun v42=>
obH (zAi Tryz.prog 49 1 #[(0,v42)] h22) fun v43 h44=>
obH (ap 49 (some 49) (x 3) v43 h44) fun v45 h46=>
(bn .add 3 (x 15) (.int .i64 1)).bind fun v47=>
k .normal ⟨ar 50 (up x [(3,v45),(4,(x 15)),(5,v20),(15,v47),(16,v17),(17,(x 15)),(18,v18),(19,v19),(20,v23),(21,v24),(22,v25),(23,v25),(24,(gdV (wt v25 false) (x 15))),(25,v26),(26,v27),(27,v28),(28,v29),(29,v30),(30,v31),(31,v31),(32,v32),(33,v33),(34,(gdV (wt v31 false) (x 15))),(35,v34),(36,v35),(37,v36),(38,v37),(39,v38),(40,v39),(41,v40),(42,v41),(43,(x 3)),(44,v42),(45,v43),(46,v45),(47,v47)]),h46⟩) (
(bn .add 3 (x 15) (.int .i64 1)).bind fun v48=>
k .normal ⟨ar 50 (up x [(4,(x 15)),(5,v20),(15,v48),(16,v17),(17,(x 15)),(18,v18),(19,v19),(20,v23),(21,v24),(22,v25),(23,v25),(24,(gdV (wt v25 false) (x 15))),(25,v26),(26,v27),(27,v28),(28,v29),(29,v30),(30,v31),(31,v31),(32,v32),(33,v33),(34,(gdV (wt v31 false) (x 15))),(35,v34),(36,v35),(37,v36),(38,v37),(39,v38),(40,v39),(41,v40),(42,v41),(47,v48)]),h22⟩)) (
k (.exit 0) ⟨ar 50 (up x [(16,v17)]),h⟩):=by kernel_rfl
theorem c34_2_eq:cK c34_2 50 x h k =
(buildV Tryz.prog 51 #[(0,(x 3))]).bind fun v49=>
(sto 51 (x 2) v49 h).bind fun h50=>
k .ret ⟨ar 50 (up x [(48,(x 3)),(49,v49)]),h50⟩:=by kernel_rfl
theorem call34 (a0:Value):evC Tryz.prog 34 #[a0] h=cK c34_0 50 (up un [(0,a0)]) (nm h) (zBb Tryz.f34 Tryz.prog h):=
 (zAo 34 Tryz.f34 c34_0 Tryz.func34 (by kernel_rfl) #[a0] h).trans (by kernel_rfl)
theorem ret34:zBb Tryz.f34 Tryz.prog g .ret ⟨ar 50 x,h⟩=fin g (rvals ((ld 51 (x 2) h).bind fun r0=>some [r0])) h:=by kernel_rfl
end Go.Am
namespace Go.Am
open Go.Proofs
set_option maxRecDepth 100000
variable {β:Type} (x:Nat->Value) (h:Heap) (k:Ex->St->Option β) (r m:List Nat) (g:Heap)
noncomputable def c33_0:Code:=zAk Tryz.f33 []
noncomputable def c33_1:Code:=zAk Tryz.f33 [true,true,true,true,false,true,false,false]
noncomputable def c33_2:Code:=zAk Tryz.f33 [true,true,true,true,true]
theorem c33_0_eq:cK c33_0 39 x h k =
obH (boxV Tryz.prog 51 (x 0) h) fun v0 h1=>
(ld 51 v0 h1).bind fun v2=>
obH (ev 69 #[v2] h1) fun v3 h4=>
(unV Tryz.prog .not v3).bind fun v5=>
cnd v5 (
k .ret ⟨ar 39 (up x [(1,v0),(2,(.slice Option.none 0 0)),(6,v2),(7,v3),(8,v5)]),h4⟩) (
obH (ev 71 #[] h4) fun v6 h7=>
(fa 51 v0 0).bind fun v8=>
(ld 49 v8 h7).bind fun v9=>
(ln 49 v9 h7).bind fun v10=>
obH (cv 3 30 v10 h7) fun v11 h12=>
obH (ev 72 #[v6,v11] h12) fun v13 h14=>
(fa 51 v0 0).bind fun v15=>
(ld 49 v15 h14).bind fun v16=>
(ln 49 v16 h14).bind fun v17=>
lK c33_1 39 (up x [(1,v0),(2,(.slice Option.none 0 0)),(3,v6),(6,v2),(7,v3),(8,v5),(9,v6),(10,v6),(11,v8),(12,v9),(13,v10),(14,v11),(15,v13),(16,v15),(17,v16),(18,v17),(19,(.int .i64 0))]) h14 (zAu 0 (sK c33_2 k))):=by kernel_rfl
theorem c33_1_eq:cK c33_1 39 x h k =
(bn .lss 3 (x 19) (x 18)).bind fun v18=>
cnd v18 (
(ia 49 (x 17) (x 19)).bind fun v19=>
(ld 99 v19 h).bind fun v20=>
obH (zBp Tryz.prog 99 h) fun v21 h22=>
(sto 99 v21 v20 h22).bind fun h23=>
(fa 99 v21 0).bind fun v24=>
(ld 3 v24 h23).bind fun v25=>
obH (cv 3 30 v25 h23) fun v26 h27=>
obH (ev 72 #[x 3,v26] h27) fun v28 h29=>
(fa 99 v21 1).bind fun v30=>
(ld 30 v30 h29).bind fun v31=>
obH (ev 72 #[x 3,v31] h29) fun v32 h33=>
(fa 99 v21 2).bind fun v34=>
(ld 39 v34 h33).bind fun v35=>
obH (ev 73 #[x 3,v35] h33) fun v36 h37=>
(bn .add 3 (x 19) (.int .i64 1)).bind fun v38=>
k .normal ⟨ar 39 (up x [(5,v21),(19,v38),(20,v18),(21,v19),(22,v20),(23,(x 3)),(24,v24),(25,v25),(26,v26),(27,v28),(28,(x 3)),(29,v30),(30,v31),(31,v32),(32,(x 3)),(33,v34),(34,v35),(35,v36),(36,v38)]),h37⟩) (
k (.exit 0) ⟨ar 39 (up x [(20,v18)]),h⟩):=by kernel_rfl
theorem c33_2_eq:cK c33_2 39 x h k =
obH (ev 74 #[x 3] h) fun v39 h40=>
k .ret ⟨ar 39 (up x [(2,v39),(37,(x 3)),(38,v39)]),h40⟩:=by kernel_rfl
theorem call33 (a0:Value):evC Tryz.prog 33 #[a0] h=cK c33_0 39 (up un [(0,a0)]) (nm h) (zBb Tryz.f33 Tryz.prog h):=
 (zAo 33 Tryz.f33 c33_0 Tryz.func33 (by kernel_rfl) #[a0] h).trans (by kernel_rfl)
theorem ret33:zBb Tryz.f33 Tryz.prog g .ret ⟨ar 39 x,h⟩=fin g (some (x 2)) h:=by kernel_rfl
end Go.Am
namespace Go.Am
open Go.Proofs
set_option maxRecDepth 100000
variable {β:Type} (x:Nat->Value) (h:Heap) (k:Ex->St->Option β) (r m:List Nat) (g:Heap)
noncomputable def c29_0:Code:=zAk Tryz.f29 []
noncomputable def c29_1:Code:=zAk Tryz.f29 [true,true,true,false,true,false,false]
noncomputable def c29_2:Code:=zAk Tryz.f29 [true,true,true,true]
theorem c29_0_eq:cK c29_0 42 x h k =
obH (zBp Tryz.prog 51 h) fun v0 h1=>
obH (ev 65 #[x 0] h1) fun v2 h3=>
obH (zBp Tryz.prog 51 h3) fun v4 h5=>
(ln 35 (x 0) h5).bind fun v6=>
obH (cv 3 30 v6 h5) fun v7 h8=>
obH (ev 66 #[v2,v7] h8) fun v9 h10=>
lK c29_1 42 (up x [(2,v0),(3,(.bool false)),(4,v2),(5,v4),(6,v9),(7,(x 0)),(8,v2),(9,v2),(10,(x 0)),(11,v6),(12,v7),(13,v9)]) h10 (zAu 0 (sK c29_2 k)):=by kernel_rfl
theorem c29_1_eq:cK c29_1 42 x h k =
(bn .gtr 30 (x 6) (.int .u64 0)).bind fun v11=>
cnd v11 (
(fa 51 (x 5) 0).bind fun v12=>
(ld 49 v12 h).bind fun v13=>
obH (ev 66 #[x 4,(.int .u64 16)] (nm h)) fun v14 h15=>
obH (cv 30 3 v14 (am h15 h)) fun v16 h17=>
obH (ev 66 #[x 4,(.int .u64 18446744073709551615)] (nm h17)) fun v18 h19=>
obH (ev 31 #[(.int .i64 16)] (nm (am h19 h17))) fun v20 h21=>
obH (ev 67 #[x 4,v20] (nm (am h21 (am h19 h17)))) fun v22 h23=>
(buildV Tryz.prog 99 #[(0,v16),(1,v18),(2,v22)]).bind fun v24=>
obH (zAi Tryz.prog 49 1 #[(0,v24)] (am h23 (am h21 (am h19 h17)))) fun v25 h26=>
obH (ap 49 (some 49) v13 v25 h26) fun v27 h28=>
(fa 51 (x 5) 0).bind fun v29=>
(sto 49 v29 v27 h28).bind fun h30=>
chk ((rb v12)++[]) (h23.mods++(h21.mods++(h19.mods++(h15.mods++[])))) (
(bn .sub 30 (x 6) (.int .u64 1)).bind fun v31=>
k .normal ⟨ar 42 (up x [(6,v31),(14,(x 6)),(15,v11),(16,(x 6)),(17,v31),(18,v12),(19,v13),(20,(x 4)),(21,v14),(22,v16),(23,(x 4)),(24,v18),(25,(x 4)),(26,v20),(27,v22),(28,v24),(29,v25),(30,v27),(31,v29)]),h30⟩)) (
k (.exit 0) ⟨ar 42 (up x [(14,(x 6)),(15,v11)]),h⟩):=by kernel_rfl
theorem c29_2_eq:cK c29_2 42 x h k =
obH (ev 68 #[x 4] h) fun v32 h33=>
(unV Tryz.prog .not v32).bind fun v34=>
(gd (wt v34 false) (ld 51 (x 5) h33)).bind fun v35=>
obH (gdH (wt v34 false) h33 (ev 69 #[v35] h33)) fun v36 h37=>
(gd (wt v34 false) (unV Tryz.prog .not v36)).bind fun v38=>
(zBo v34 (.bool true) v38).bind fun v39=>
cnd v39 (
(buildV Tryz.prog 51 #[]).bind fun v40=>
(sto 51 (x 2) v40 h37).bind fun h41=>
k .ret ⟨ar 42 (up x [(3,(.bool false)),(32,(x 4)),(33,v32),(34,v34),(35,v34),(36,v35),(37,v36),(38,v38),(39,v39),(40,v40)]),h41⟩) (
(ld 51 (x 5) h37).bind fun v42=>
(sto 51 (x 2) v42 h37).bind fun h43=>
k .ret ⟨ar 42 (up x [(3,(.bool true)),(32,(x 4)),(33,v32),(34,v34),(35,v34),(36,v35),(37,v36),(38,v38),(39,v39),(41,v42)]),h43⟩):=by kernel_rfl
theorem call29 (a0:Value):evC Tryz.prog 29 #[a0] h=cK c29_0 42 (up un [(0,a0)]) (nm h) (zBb Tryz.f29 Tryz.prog h):=
 (zAo 29 Tryz.f29 c29_0 Tryz.func29 (by kernel_rfl) #[a0] h).trans (by kernel_rfl)
theorem ret29:zBb Tryz.f29 Tryz.prog g .ret ⟨ar 42 x,h⟩=fin g (rvals ((ld 51 (x 2) h).bind fun r0=>some [r0,(x 3)])) h:=by kernel_rfl
end Go.Am
namespace Go.Am
open Go.Proofs
set_option maxRecDepth 100000
variable {β:Type} (x:Nat->Value) (h:Heap) (k:Ex->St->Option β) (r m:List Nat) (g:Heap)
noncomputable def c30_0:Code:=zAk Tryz.f30 []
theorem c30_0_eq:cK c30_0 7 x h k =
obH (builtinV Tryz.prog .max #[3,3] #[x 0,(.int .i64 0)] h) fun v0 h1=>
obH (builtinV Tryz.prog .min #[3,3] #[v0,(.int .i64 64)] h1) fun v2 h3=>
obH (zBd Tryz.prog 45 v2 v2 h3) fun v4 h5=>
k .ret ⟨ar 7 (up x [(2,v4),(3,(x 0)),(4,v0),(5,v2),(6,v4)]),h5⟩:=by kernel_rfl
theorem call30 (a0:Value):evC Tryz.prog 30 #[a0] h=cK c30_0 7 (up un [(0,a0)]) (nm h) (zBb Tryz.f30 Tryz.prog h):=
 (zAo 30 Tryz.f30 c30_0 Tryz.func30 (by kernel_rfl) #[a0] h).trans (by kernel_rfl)
theorem ret30:zBb Tryz.f30 Tryz.prog g .ret ⟨ar 7 x,h⟩=fin g (some (x 2)) h:=by kernel_rfl
end Go.Am
namespace Go.Am
open Go.Proofs
set_option maxRecDepth 100000
variable {β:Type} (x:Nat->Value) (h:Heap) (k:Ex->St->Option β) (r m:List Nat) (g:Heap)
noncomputable def c49_0:Code:=zAk Tryz.f49 []
theorem c49_0_eq:cK c49_0 17 x h k =
(bn .lss 3 (x 1) (.int .i64 0)).bind fun v0=>
(gd (wt v0 false) (ln 45 (gdV (wt v0 false) (x 0)) h)).bind fun v1=>
(gd (wt v0 false) (bn .geq 3 (gdV (wt v0 false) (x 1)) v1)).bind fun v2=>
(zBo v0 (.bool true) v2).bind fun v3=>
cnd v3 (
k .ret ⟨ar 17 (up x [(4,(.int .u64 0)),(5,(x 1)),(6,v0),(7,v0),(8,(gdV (wt v0 false) (x 1))),(9,(gdV (wt v0 false) (x 0))),(10,v1),(11,v2),(12,v3)]),h⟩) (
(ia 45 (x 0) (x 1)).bind fun v4=>
(ld 30 v4 h).bind fun v5=>
k .ret ⟨ar 17 (up x [(4,v5),(5,(x 1)),(6,v0),(7,v0),(8,(gdV (wt v0 false) (x 1))),(9,(gdV (wt v0 false) (x 0))),(10,v1),(11,v2),(12,v3),(13,(x 0)),(14,(x 1)),(15,v4),(16,v5)]),h⟩):=by kernel_rfl
theorem call49 (a0 a1:Value):evC Tryz.prog 49 #[a0,a1] h=cK c49_0 17 (up un [(0,a0),(1,a1)]) (nm h) (zBb Tryz.f49 Tryz.prog h):=
 (zAo 49 Tryz.f49 c49_0 Tryz.func49 (by kernel_rfl) #[a0,a1] h).trans (by kernel_rfl)
theorem ret49:zBb Tryz.f49 Tryz.prog g .ret ⟨ar 17 x,h⟩=fin g (some (x 4)) h:=by kernel_rfl
end Go.Am
namespace Go.Am
open Go.Proofs
set_option maxRecDepth 100000
variable {β:Type} (x:Nat->Value) (h:Heap) (k:Ex->St->Option β) (r m:List Nat) (g:Heap)
noncomputable def c6_0:Code:=zAk Tryz.f6 []
theorem c6_0_eq:cK c6_0 27 x h k =
(bn .lss 3 (x 0) (.int .i64 1)).bind fun v0=>
(gd (wt v0 false) (bn .gtr 3 (gdV (wt v0 false) (x 0)) (.int .i64 16))).bind fun v1=>
(zBo v0 (.bool true) v1).bind fun v2=>
(gd (wt v2 false) (bn .lss 3 (gdV (wt v2 false) (x 1)) (.int .i64 0))).bind fun v3=>
(zBo v2 (.bool true) v3).bind fun v4=>
(gd (wt v4 false) (bn .geq 3 (gdV (wt v4 false) (x 1)) (gdV (wt v4 false) (x 0)))).bind fun v5=>
(zBo v4 (.bool true) v5).bind fun v6=>
cnd v6 (
k .ret ⟨ar 27 (up x [(4,(.pointer Option.none)),(5,(.int .i64 1)),(6,(x 0)),(7,v0),(8,v0),(9,(gdV (wt v0 false) (x 0))),(10,v1),(11,v2),(12,v2),(13,(gdV (wt v2 false) (x 1))),(14,v3),(15,v4),(16,v4),(17,(gdV (wt v4 false) (x 1))),(18,(gdV (wt v4 false) (x 0))),(19,v5),(20,v6)]),h⟩) (
obH (ev 30 #[x 0] h) fun v7 h8=>
(buildV Tryz.prog 90 #[(0,(x 0)),(1,(x 1)),(4,v7)]).bind fun v9=>
obH (boxV Tryz.prog 90 v9 h8) fun v10 h11=>
k .ret ⟨ar 27 (up x [(4,v10),(5,(.int .i64 0)),(6,(x 0)),(7,v0),(8,v0),(9,(gdV (wt v0 false) (x 0))),(10,v1),(11,v2),(12,v2),(13,(gdV (wt v2 false) (x 1))),(14,v3),(15,v4),(16,v4),(17,(gdV (wt v4 false) (x 1))),(18,(gdV (wt v4 false) (x 0))),(19,v5),(20,v6),(21,(x 0)),(22,(x 1)),(23,(x 0)),(24,v7),(25,v9),(26,v10)]),h11⟩):=by kernel_rfl
theorem call6 (a0 a1:Value):evC Tryz.prog 6 #[a0,a1] h=cK c6_0 27 (up un [(0,a0),(1,a1)]) (nm h) (zBb Tryz.f6 Tryz.prog h):=
 (zAo 6 Tryz.f6 c6_0 Tryz.func6 (by kernel_rfl) #[a0,a1] h).trans (by kernel_rfl)
theorem ret6:zBb Tryz.f6 Tryz.prog g .ret ⟨ar 27 x,h⟩=fin g (some (.tuple #[x 4,(x 5)])) h:=by kernel_rfl
end Go.Am
namespace Go.Am
open Go.Proofs
set_option maxRecDepth 100000
variable {β:Type} (x:Nat->Value) (h:Heap) (k:Ex->St->Option β) (r m:List Nat) (g:Heap)
noncomputable def c11_0:Code:=zAk Tryz.f11 []
theorem c11_0_eq:cK c11_0 47 x h k =
obH (boxV Tryz.prog 24 (x 0) h) fun v0 h1=>
obH (ev 29 #[x 3] h1) fun v2 h3=>
(zBf v2 0).bind fun v4=>
(zBf v2 1).bind fun v5=>
obH (zBp Tryz.prog 51 h3) fun v6 h7=>
(sto 51 v6 v4 h7).bind fun h8=>
(unV Tryz.prog .not v5).bind fun v9=>
(gd (wt v9 false) (bn .lss 3 (gdV (wt v9 false) (x 1)) (.int .i64 0))).bind fun v10=>
(zBo v9 (.bool true) v10).bind fun v11=>
(gd (wt v11 false) (ld 24 v0 h8)).bind fun v12=>
(gd (wt v11 false) (zAm Tryz.prog v12)).bind fun v13=>
(gd (wt v11 false) (fa 90 v13 0)).bind fun v14=>
(gd (wt v11 false) (ld 3 v14 h8)).bind fun v15=>
(gd (wt v11 false) (bn .geq 3 (gdV (wt v11 false) (x 1)) v15)).bind fun v16=>
(zBo v11 (.bool true) v16).bind fun v17=>
(gd (wt v17 false) (ld 24 v0 h8)).bind fun v18=>
(gd (wt v17 false) (zAm Tryz.prog v18)).bind fun v19=>
(gd (wt v17 false) (fa 90 v19 1)).bind fun v20=>
(gd (wt v17 false) (ld 3 v20 h8)).bind fun v21=>
(gd (wt v17 false) (bn .eql 3 (gdV (wt v17 false) (x 1)) v21)).bind fun v22=>
(zBo v17 (.bool true) v22).bind fun v23=>
(gd (wt v23 false) (bn .lss 30 (gdV (wt v23 false) (x 2)) (.int .u64 1))).bind fun v24=>
(zBo v23 (.bool true) v24).bind fun v25=>
cnd v25 (
k .ret ⟨ar 47 (up x [(4,v0),(8,(.bool false)),(9,v6),(10,v5),(11,v2),(12,(x 3)),(13,v2),(14,v4),(15,v5),(16,v5),(17,v9),(18,v9),(19,(gdV (wt v9 false) (x 1))),(20,v10),(21,v11),(22,v11),(23,(gdV (wt v11 false) (x 1))),(24,v12),(25,v13),(26,v14),(27,v15),(28,v16),(29,v17),(30,v17),(31,(gdV (wt v17 false) (x 1))),(32,v18),(33,v19),(34,v20),(35,v21),(36,v22),(37,v23),(38,v23),(39,(gdV (wt v23 false) (x 2))),(40,v24),(41,v25)]),h8⟩) (
(fa 51 v6 0).bind fun v26=>
(ld 49 v26 h8).bind fun v27=>
obH (ev 46 #[v27,(.func (Go.Fn.func 47) #[] #[v0])] h8) fun v28 h29=>
(unV Tryz.prog .not v28).bind fun v30=>
k .ret ⟨ar 47 (up x [(4,v0),(8,v30),(9,v6),(10,v5),(11,v2),(12,(x 3)),(13,v2),(14,v4),(15,v5),(16,v5),(17,v9),(18,v9),(19,(gdV (wt v9 false) (x 1))),(20,v10),(21,v11),(22,v11),(23,(gdV (wt v11 false) (x 1))),(24,v12),(25,v13),(26,v14),(27,v15),(28,v16),(29,v17),(30,v17),(31,(gdV (wt v17 false) (x 1))),(32,v18),(33,v19),(34,v20),(35,v21),(36,v22),(37,v23),(38,v23),(39,(gdV (wt v23 false) (x 2))),(40,v24),(41,v25),(42,v26),(43,v27),(44,(.func (Go.Fn.func 47) #[] #[v0])),(45,v28),(46,v30)]),h29⟩):=by kernel_rfl
theorem call11 (a0 a1 a2 a3:Value):evC Tryz.prog 11 #[a0,a1,a2,a3] h=cK c11_0 47 (up un [(0,a0),(1,a1),(2,a2),(3,a3)]) (nm h) (zBb Tryz.f11 Tryz.prog h):=
 (zAo 11 Tryz.f11 c11_0 Tryz.func11 (by kernel_rfl) #[a0,a1,a2,a3] h).trans (by kernel_rfl)
theorem ret11:zBb Tryz.f11 Tryz.prog g .ret ⟨ar 47 x,h⟩=fin g (some (x 8)) h:=by kernel_rfl
end Go.Am
namespace Go.Am
open Go.Proofs
set_option maxRecDepth 100000
variable {β:Type} (x:Nat->Value) (h:Heap) (k:Ex->St->Option β) (r m:List Nat) (g:Heap)
noncomputable def c47_0:Code:=zAk Tryz.f47 []
noncomputable def c47_1:Code:=zAk Tryz.f47 [false]
noncomputable def c47_2:Code:=zAk Tryz.f47 [true]
noncomputable def zBl:Array Oper:=opsC (zAk Tryz.f47 [true,false])
noncomputable def c47_3:Code:=zAk Tryz.f47 [true,false]
noncomputable def c47_4:Code:=zAk Tryz.f47 [true,true]
theorem c47_0_eq:cK c47_0 32 x h k =
cK c47_1 32 x h (sK c47_2 k):=zBm _ _ _ _ _ (by kernel_rfl) _ _
theorem c47_1_eq:cK c47_1 32 x h k =
obH (boxV Tryz.prog 99 (x 0) h) fun v0 h1=>
k .normal ⟨ar 32 (up x [(2,v0),(3,(.bool false))]),h1⟩:=by kernel_rfl
theorem c47_2_eq:cK c47_2 32 x h k =
cK c47_3 32 x h (sK c47_4 k):=zBm _ _ _ _ _ (by kernel_rfl) _ _
theorem d47_0_0 (k:St->Option β):rD zBl 0 32 x h r m k =
(fa 99 (x 2) 2).bind fun v2=>
rD zBl 1 32 (up x [(4,v2)]) h r m k:=(zAd _ _ zBl 0 (by kernel_rfl) _ _ _ _).trans (by kernel_rfl)
theorem d47_0_1 (k:St->Option β):rD zBl 1 32 x h r m k =
(ld 39 (x 4) h).bind fun v3=>
rD zBl 2 32 (up x [(5,v3)]) h r m k:=(zAd _ _ zBl 1 (by kernel_rfl) _ _ _ _).trans (by kernel_rfl)
theorem d47_0_2 (k:St->Option β):rD zBl 2 32 x h r m k =
(ld 24 (x 1) h).bind fun v4=>
rD zBl 3 32 (up x [(6,v4)]) h r m k:=(zAd _ _ zBl 2 (by kernel_rfl) _ _ _ _).trans (by kernel_rfl)
theorem d47_0_3 (k:St->Option β):rD zBl 3 32 x h r m k =
(zAm Tryz.prog (x 6)).bind fun v5=>
rD zBl 4 32 (up x [(7,v5)]) h r m k:=(zAd _ _ zBl 3 (by kernel_rfl) _ _ _ _).trans (by kernel_rfl)
theorem d47_0_4 (k:St->Option β):rD zBl 4 32 x h r m k =
(fa 90 (x 7) 1).bind fun v6=>
rD zBl 5 32 (up x [(8,v6)]) h r m k:=(zAd _ _ zBl 4 (by kernel_rfl) _ _ _ _).trans (by kernel_rfl)
theorem d47_0_5 (k:St->Option β):rD zBl 5 32 x h r m k =
(ld 3 (x 8) h).bind fun v7=>
rD zBl 6 32 (up x [(9,v7)]) h r m k:=(zAd _ _ zBl 5 (by kernel_rfl) _ _ _ _).trans (by kernel_rfl)
theorem d47_0_6 (k:St->Option β):rD zBl 6 32 x h r m k =
obH (ev 48 #[x 5,x 9] h) fun v8 h9=>
rD zBl 7 32 (up x [(10,v8)]) h9 r m k:=(zAd _ _ zBl 6 (by kernel_rfl) _ _ _ _).trans (by kernel_rfl)
theorem d47_0_7 (k:St->Option β):rD zBl 7 32 x h r m k =
rD zBl 8 32 (up x [(11,(x 10))]) h r m k:=zAz _ _ zBl 7 (by kernel_rfl) (by kernel_rfl) (by kernel_rfl) _ _ _ _ _ _ (by kernel_rfl) (by kernel_rfl)
theorem d47_0_8 (k:St->Option β):rD zBl 8 32 x h r m k =
(gd (wt (x 11) true) (fa 99 (x 2) 0)).bind fun v10=>
rD zBl 9 32 (up x [(12,v10)]) h r m k:=(zAd _ _ zBl 8 (by kernel_rfl) _ _ _ _).trans (by kernel_rfl)
theorem d47_0_9 (k:St->Option β):rD zBl 9 32 x h r m k =
(gd (wt (x 11) true) (ld 3 (x 12) h)).bind fun v11=>
rD zBl 10 32 (up x [(13,v11)]) h r m k:=(zAd _ _ zBl 9 (by kernel_rfl) _ _ _ _).trans (by kernel_rfl)
theorem d47_0_10 (k:St->Option β):rD zBl 10 32 x h r m k =
(gd (wt (x 11) true) (ld 24 (x 1) h)).bind fun v12=>
rD zBl 11 32 (up x [(14,v12)]) h r m k:=(zAd _ _ zBl 10 (by kernel_rfl) _ _ _ _).trans (by kernel_rfl)
theorem d47_0_11 (k:St->Option β):rD zBl 11 32 x h r m k =
(gd (wt (x 11) true) (zAm Tryz.prog (x 14))).bind fun v13=>
rD zBl 12 32 (up x [(15,v13)]) h r m k:=(zAd _ _ zBl 11 (by kernel_rfl) _ _ _ _).trans (by kernel_rfl)
theorem d47_0_12 (k:St->Option β):rD zBl 12 32 x h r m k =
(gd (wt (x 11) true) (fa 90 (x 15) 1)).bind fun v14=>
rD zBl 13 32 (up x [(16,v14)]) h r m k:=(zAd _ _ zBl 12 (by kernel_rfl) _ _ _ _).trans (by kernel_rfl)
theorem d47_0_13 (k:St->Option β):rD zBl 13 32 x h r m k =
(gd (wt (x 11) true) (ld 3 (x 16) h)).bind fun v15=>
rD zBl 14 32 (up x [(17,v15)]) h r m k:=(zAd _ _ zBl 13 (by kernel_rfl) _ _ _ _).trans (by kernel_rfl)
theorem d47_0_14 (k:St->Option β):rD zBl 14 32 x h r m k =
(gd (wt (x 11) true) (bn .neq 3 (x 13) (x 17))).bind fun v16=>
rD zBl 15 32 (up x [(18,v16)]) h r m k:=(zAd _ _ zBl 14 (by kernel_rfl) _ _ _ _).trans (by kernel_rfl)
theorem d47_0_15 (k:St->Option β):rD zBl 15 32 x h r m k =
(zBo (x 11) (x 18) (.bool false)).bind fun v17=>
rD zBl 16 32 (up x [(19,v17)]) h r m k:=(zAd _ _ zBl 15 (by kernel_rfl) _ _ _ _).trans (by kernel_rfl)
theorem d47_0_16 (k:St->Option β):rD zBl 16 32 x h r m k =
rD zBl 17 32 (up x [(20,(x 19))]) h r m k:=zAz _ _ zBl 16 (by kernel_rfl) (by kernel_rfl) (by kernel_rfl) _ _ _ _ _ _ (by kernel_rfl) (by kernel_rfl)
theorem d47_0_17 (k:St->Option β):rD zBl 17 32 x h r m k =
(gd (wt (x 20) true) (ld 24 (x 1) h)).bind fun v18=>
rD zBl 18 32 (up x [(21,v18)]) h r m k:=(zAd _ _ zBl 17 (by kernel_rfl) _ _ _ _).trans (by kernel_rfl)
theorem d47_0_18 (k:St->Option β):rD zBl 18 32 x h r m k =
(gd (wt (x 20) true) (zAm Tryz.prog (x 21))).bind fun v19=>
rD zBl 19 32 (up x [(22,v19)]) h r m k:=(zAd _ _ zBl 18 (by kernel_rfl) _ _ _ _).trans (by kernel_rfl)
theorem d47_0_19 (k:St->Option β):rD zBl 19 32 x h r m k =
(gd (wt (x 20) true) (fa 90 (x 22) 4)).bind fun v20=>
rD zBl 20 32 (up x [(23,v20)]) h r m k:=(zAd _ _ zBl 19 (by kernel_rfl) _ _ _ _).trans (by kernel_rfl)
theorem d47_0_20 (k:St->Option β):rD zBl 20 32 x h r m k =
(gd (wt (x 20) true) (ld 45 (x 23) h)).bind fun v21=>
rD zBl 21 32 (up x [(24,v21)]) h r m k:=(zAd _ _ zBl 20 (by kernel_rfl) _ _ _ _).trans (by kernel_rfl)
theorem d47_0_21 (k:St->Option β):rD zBl 21 32 x h r m k =
(gd (wt (x 20) true) (fa 99 (x 2) 0)).bind fun v22=>
rD zBl 22 32 (up x [(25,v22)]) h r m k:=(zAd _ _ zBl 21 (by kernel_rfl) _ _ _ _).trans (by kernel_rfl)
theorem d47_0_22 (k:St->Option β):rD zBl 22 32 x h r m k =
(gd (wt (x 20) true) (ld 3 (x 25) h)).bind fun v23=>
rD zBl 23 32 (up x [(26,v23)]) h r m k:=(zAd _ _ zBl 22 (by kernel_rfl) _ _ _ _).trans (by kernel_rfl)
theorem d47_0_23 (k:St->Option β):rD zBl 23 32 x h r m k =
obH (gdH (wt (x 20) true) (nm h) (ev 49 #[x 24,x 26] (nm h))) fun v24 h25=>
rD zBl 24 32 (up x [(27,v24)]) (am h25 h) r (h25.mods++m) k:=(zAd _ _ zBl 23 (by kernel_rfl) _ _ _ _).trans (by kernel_rfl)
theorem d47_0_24 (k:St->Option β):rD zBl 24 32 x h r m k =
(gd (wt (x 20) true) (fa 99 (x 2) 1)).bind fun v26=>
rD zBl 25 32 (up x [(28,v26)]) h r m k:=(zAd _ _ zBl 24 (by kernel_rfl) _ _ _ _).trans (by kernel_rfl)
theorem d47_0_25 (k:St->Option β):rD zBl 25 32 x h r m k =
(gd (wt (x 20) true) (ld 30 (x 28) h)).bind fun v27=>
rD zBl 26 32 (up x [(29,v27)]) h (rdL (wt (x 20) true) (rb (x 28))++r) m k:=(zAd _ _ zBl 25 (by kernel_rfl) _ _ _ _).trans (by kernel_rfl)
theorem d47_0_26 (k:St->Option β):rD zBl 26 32 x h r m k =
(gd (wt (x 20) true) (bn .lss 30 (x 27) (x 29))).bind fun v28=>
rD zBl 27 32 (up x [(30,v28)]) h r m k:=(zAd _ _ zBl 26 (by kernel_rfl) _ _ _ _).trans (by kernel_rfl)
theorem d47_0_27 (k:St->Option β):rD zBl 27 32 x h r m k =
(zBo (x 20) (x 30) (.bool false)).bind fun v29=>
rD zBl 28 32 (up x [(31,v29)]) h r m k:=(zAd _ _ zBl 27 (by kernel_rfl) _ _ _ _).trans (by kernel_rfl)
theorem d47_0_28 (k:St->Option β):rD zBl 28 32 x h r m k =
rD zBl 29 32 (up x [(3,(x 31))]) h r m k:=zAz _ _ zBl 28 (by kernel_rfl) (by kernel_rfl) (by kernel_rfl) _ _ _ _ _ _ (by kernel_rfl) (by kernel_rfl)
theorem d47_0_29 (k:St->Option β):rD zBl 29 32 x h r m k =
chk r m (k ⟨ar 32 x,h⟩):=by kernel_rfl
theorem c47_3_eq:cK c47_3 32 x h k =
rD zBl 0 32 x h [] [] (fun s=>k .normal s):=by kernel_rfl
theorem c47_4_eq:cK c47_4 32 x h k =
k .ret ⟨ar 32 x,h⟩:=by kernel_rfl
theorem ret47:zBb Tryz.f47 Tryz.prog g .ret ⟨ar 32 x,h⟩=fin g (some (x 3)) h:=by kernel_rfl
end Go.Am
namespace Go.Am
open Go.Proofs
set_option maxRecDepth 100000
variable {β:Type} (x:Nat->Value) (h:Heap) (k:Ex->St->Option β) (r m:List Nat) (g:Heap)
noncomputable def c46_0:Code:=zAk Tryz.f46 []
theorem c46_0_eq:cK c46_0 9 x h k =
obH (ev 89 #[x 0,x 1] h) fun v0 h1=>
(bn .geq 3 v0 (.int .i64 0)).bind fun v2=>
k .ret ⟨ar 9 (up x [(4,v2),(5,(x 0)),(6,(x 1)),(7,v0),(8,v2)]),h1⟩:=by kernel_rfl
theorem call46 (a0 a1:Value):evC Tryz.prog 46 #[a0,a1] h=cK c46_0 9 (up un [(0,a0),(1,a1)]) (nm h) (zBb Tryz.f46 Tryz.prog h):=
 (zAo 46 Tryz.f46 c46_0 Tryz.func46 (by kernel_rfl) #[a0,a1] h).trans (by kernel_rfl)
theorem ret46:zBb Tryz.f46 Tryz.prog g .ret ⟨ar 9 x,h⟩=fin g (some (x 4)) h:=by kernel_rfl
end Go.Am
namespace Go.Am
open Go.Proofs
set_option maxRecDepth 100000
variable {β:Type} (x:Nat->Value) (h:Heap) (k:Ex->St->Option β) (r m:List Nat) (g:Heap)
noncomputable def c89_0:Code:=zAk Tryz.f89 []
noncomputable def c89_1:Code:=zAk Tryz.f89 [true,false,true,false,false]
noncomputable def c89_2:Code:=zAk Tryz.f89 [true,true]
theorem c89_0_eq:cK c89_0 19 x h k =
(ln 49 (x 0) h).bind fun v0=>
lK c89_1 19 (up x [(4,(.int .i64 0)),(6,(x 0)),(7,v0),(8,(.int .i64 0))]) h (zAu 0 (sK c89_2 k)):=by kernel_rfl
theorem c89_1_eq:cK c89_1 19 x h k =
(bn .lss 3 (x 8) (x 7)).bind fun v1=>
cnd v1 (
(ia 49 (x 0) (x 8)).bind fun v2=>
(ld 99 v2 h).bind fun v3=>
obH (callV Tryz.prog (evC Tryz.prog) (x 1) #[v3] h) fun v4 h5=>
cnd v4 (
k .ret ⟨ar 19 (up x [(4,(x 8)),(5,(x 8)),(9,v1),(10,(x 8)),(11,(x 1)),(12,(x 0)),(13,(x 8)),(14,v2),(15,v3),(16,v4),(17,(x 8))]),h5⟩) (
(bn .add 3 (x 8) (.int .i64 1)).bind fun v6=>
k .normal ⟨ar 19 (up x [(5,(x 8)),(8,v6),(9,v1),(10,(x 8)),(11,(x 1)),(12,(x 0)),(13,(x 8)),(14,v2),(15,v3),(16,v4),(18,v6)]),h5⟩)) (
k (.exit 0) ⟨ar 19 (up x [(9,v1)]),h⟩):=by kernel_rfl
theorem c89_2_eq:cK c89_2 19 x h k =
k .ret ⟨ar 19 (up x [(4,(.int .i64 (-1)))]),h⟩:=by kernel_rfl
theorem call89 (a0 a1:Value):evC Tryz.prog 89 #[a0,a1] h=cK c89_0 19 (up un [(0,a0),(1,a1)]) (nm h) (zBb Tryz.f89 Tryz.prog h):=
 (zAo 89 Tryz.f89 c89_0 Tryz.func89 (by kernel_rfl) #[a0,a1] h).trans (by kernel_rfl)
theorem ret89:zBb Tryz.f89 Tryz.prog g .ret ⟨ar 19 x,h⟩=fin g (some (x 4)) h:=by kernel_rfl
end Go.Am
namespace Go.Am
open Go.Proofs
set_option maxRecDepth 100000
variable {β:Type} (x:Nat->Value) (h:Heap) (k:Ex->St->Option β) (r m:List Nat) (g:Heap)
noncomputable def c17_0:Code:=zAk Tryz.f17 []
theorem c17_0_eq:cK c17_0 10 x h k =
obH (zBp Tryz.prog 51 h) fun v0 h1=>
(zAm Tryz.prog (x 0)).bind fun v2=>
(fa 90 v2 2).bind fun v3=>
(fa 51 v3 0).bind fun v4=>
(ld 49 v4 h1).bind fun v5=>
obH (ev 53 #[v5] h1) fun v6 h7=>
(buildV Tryz.prog 51 #[(0,v6)]).bind fun v8=>
(sto 51 v0 v8 h7).bind fun h9=>
k .ret ⟨ar 10 (up x [(2,v0),(3,(x 0)),(4,v2),(5,v3),(6,v4),(7,v5),(8,v6),(9,v8)]),h9⟩:=by kernel_rfl
theorem call17 (a0:Value):evC Tryz.prog 17 #[a0] h=cK c17_0 10 (up un [(0,a0)]) (nm h) (zBb Tryz.f17 Tryz.prog h):=
 (zAo 17 Tryz.f17 c17_0 Tryz.func17 (by kernel_rfl) #[a0] h).trans (by kernel_rfl)
theorem ret17:zBb Tryz.f17 Tryz.prog g .ret ⟨ar 10 x,h⟩=fin g (rvals ((ld 51 (x 2) h).bind fun r0=>some [r0])) h:=by kernel_rfl
end Go.Am
namespace Go.Am
open Go.Proofs
set_option maxRecDepth 100000
variable {β:Type} (x:Nat->Value) (h:Heap) (k:Ex->St->Option β) (r m:List Nat) (g:Heap)
end Go.Am
namespace Go.Am
open Go.Proofs
set_option maxRecDepth 100000
variable {β:Type} (x:Nat->Value) (h:Heap) (k:Ex->St->Option β) (r m:List Nat) (g:Heap)
noncomputable def c52_0:Code:=zAk Tryz.f52 []
theorem c52_0_eq:cK c52_0 8 x h k =
(bn .eql 45 (x 0) (.slice Option.none 0 0)).bind fun v0=>
cnd v0 (
k .ret ⟨ar 8 (up x [(2,(.slice Option.none 0 0)),(3,(x 0)),(4,v0)]),h⟩) (
obH (zAi Tryz.prog 45 0 #[] h) fun v1 h2=>
obH (ap 45 (some 45) v1 (x 0) h2) fun v3 h4=>
k .ret ⟨ar 8 (up x [(2,v3),(3,(x 0)),(4,v0),(5,v1),(6,(x 0)),(7,v3)]),h4⟩):=by kernel_rfl
theorem call52 (a0:Value):evC Tryz.prog 52 #[a0] h=cK c52_0 8 (up un [(0,a0)]) (nm h) (zBb Tryz.f52 Tryz.prog h):=
 (zAo 52 Tryz.f52 c52_0 Tryz.func52 (by kernel_rfl) #[a0] h).trans (by kernel_rfl)
theorem ret52:zBb Tryz.f52 Tryz.prog g .ret ⟨ar 8 x,h⟩=fin g (some (x 2)) h:=by kernel_rfl
end Go.Am
namespace Go.Am
open Go.Proofs
set_option maxRecDepth 100000
variable {β:Type} (x:Nat->Value) (h:Heap) (k:Ex->St->Option β) (r m:List Nat) (g:Heap)
noncomputable def c7_0:Code:=zAk Tryz.f7 []
noncomputable def c7_1:Code:=zAk Tryz.f7 [true,true,true,true,false,true,false,false]
noncomputable def c7_2:Code:=zAk Tryz.f7 [true,true,true,true,true]
theorem c7_0_eq:cK c7_0 71 x h k =
(zAm Tryz.prog (x 0)).bind fun v0=>
(fa 90 v0 0).bind fun v1=>
(ld 3 v1 h).bind fun v2=>
obH (ev 31 #[v2] (nm h)) fun v3 h4=>
(zAm Tryz.prog (x 0)).bind fun v5=>
(fa 90 v5 1).bind fun v6=>
(ld 3 v6 (am h4 h)).bind fun v7=>
obH (zAi Tryz.prog 68 1 #[(0,v7)] (am h4 h)) fun v8 h9=>
obH (ev 28 #[v8] h9) fun v10 h11=>
(bn .andNot 39 v3 v10).bind fun v12=>
(bn .and 39 (x 1) v12).bind fun v13=>
chk ([(am h4 h).blks.length]++((rb v6)++[])) (h4.mods++[]) (
(zAm Tryz.prog (x 0)).bind fun v14=>
(fa 90 v14 3).bind fun v15=>
(ld 30 v15 h11).bind fun v16=>
(bn .add 30 v16 (.int .u64 1)).bind fun v17=>
(zAm Tryz.prog (x 0)).bind fun v18=>
(fa 90 v18 3).bind fun v19=>
(sto 30 v19 v17 h11).bind fun h20=>
obH (ev 32 #[v13] h20) fun v21 h22=>
(ln 68 v21 h22).bind fun v23=>
lK c7_1 71 (up x [(1,v13),(4,(.slice Option.none 0 0)),(5,(.slice Option.none 0 0)),(8,(x 1)),(9,(x 0)),(10,v0),(11,v1),(12,v2),(13,v3),(14,(x 0)),(15,v5),(16,v6),(17,v7),(18,v8),(19,v10),(20,v12),(21,v13),(22,(x 0)),(23,v14),(24,v15),(25,v16),(26,v17),(27,v18),(28,v19),(29,v13),(30,v21),(31,v23),(32,(.int .i64 0))]) h22 (zAu 0 (sK c7_2 k))):=by kernel_rfl
theorem c7_1_eq:cK c7_1 71 x h k =
(bn .lss 3 (x 32) (x 31)).bind fun v24=>
cnd v24 (
(ia 68 (x 30) (x 32)).bind fun v25=>
(ld 3 v25 h).bind fun v26=>
(zAm Tryz.prog (x 0)).bind fun v27=>
(fa 90 v27 2).bind fun v28=>
(ld 51 v28 h).bind fun v29=>
obH (ev 35 #[v29,x 1,v26] h) fun v30 h31=>
obH (ev 34 #[v30] h31) fun v32 h33=>
obH (ev 33 #[v32] h33) fun v34 h35=>
obH (zAi Tryz.prog 34 1 #[(0,v34)] h35) fun v36 h37=>
obH (ap 34 (some 34) (x 5) v36 h37) fun v38 h39=>
(bn .add 3 (x 32) (.int .i64 1)).bind fun v40=>
k .normal ⟨ar 71 (up x [(5,v38),(7,v26),(32,v40),(33,v24),(34,v25),(35,v26),(36,(x 5)),(37,(x 0)),(38,v27),(39,v28),(40,v29),(41,(x 1)),(42,v26),(43,v30),(44,v32),(45,v34),(46,v36),(47,v38),(48,v40)]),h39⟩) (
k (.exit 0) ⟨ar 71 (up x [(33,v24)]),h⟩):=by kernel_rfl
theorem c7_2_eq:cK c7_2 71 x h k =
(zAm Tryz.prog (x 0)).bind fun v41=>
(fa 90 v41 2).bind fun v42=>
(ld 51 v42 h).bind fun v43=>
obH (ev 37 #[v43,x 1] (nm h)) fun v44 h45=>
(zAm Tryz.prog (x 0)).bind fun v46=>
(fa 90 v46 1).bind fun v47=>
(ld 3 v47 (am h45 h)).bind fun v48=>
(zAm Tryz.prog (x 0)).bind fun v49=>
(fa 90 v49 3).bind fun v50=>
(ld 30 v50 (am h45 h)).bind fun v51=>
(buildV Tryz.prog 99 #[(0,v48),(1,v51),(2,(x 1))]).bind fun v52=>
obH (ev 36 #[v44,v52] (am h45 h)) fun v53 h54=>
obH (ev 34 #[v53] h54) fun v55 h56=>
(zAm Tryz.prog (x 0)).bind fun v57=>
(fa 90 v57 2).bind fun v58=>
(sto 51 v58 v55 h56).bind fun h59=>
chk ((rb v50)++((rb v47)++[])) (h45.mods++[]) (
k .ret ⟨ar 71 (up x [(4,(x 5)),(49,(x 0)),(50,(x 0)),(51,v41),(52,v42),(53,v43),(54,(x 1)),(55,v44),(56,(x 0)),(57,v46),(58,v47),(59,v48),(60,(x 0)),(61,v49),(62,v50),(63,v51),(64,(x 1)),(65,v52),(66,v53),(67,v55),(68,v57),(69,v58),(70,(x 5))]),h59⟩):=by kernel_rfl
theorem call7 (a0 a1:Value):evC Tryz.prog 7 #[a0,a1] h=cK c7_0 71 (up un [(0,a0),(1,a1)]) (nm h) (zBb Tryz.f7 Tryz.prog h):=
 (zAo 7 Tryz.f7 c7_0 Tryz.func7 (by kernel_rfl) #[a0,a1] h).trans (by kernel_rfl)
theorem ret7:zBb Tryz.f7 Tryz.prog g .ret ⟨ar 71 x,h⟩=fin g (some (x 4)) h:=by kernel_rfl
end Go.Am
namespace Go.Am
open Go.Proofs
set_option maxRecDepth 100000
variable {β:Type} (x:Nat->Value) (h:Heap) (k:Ex->St->Option β) (r m:List Nat) (g:Heap)
noncomputable def c9_0:Code:=zAk Tryz.f9 []
theorem c9_0_eq:cK c9_0 59 x h k =
obH (ev 11 #[x 0,x 1,x 2,x 4] h) fun v0 h1=>
(unV Tryz.prog .not v0).bind fun v2=>
cnd v2 (
k .ret ⟨ar 59 (up x [(10,(.bool false)),(15,(x 0)),(16,(x 1)),(17,(x 2)),(18,(x 4)),(19,v0),(20,v2)]),h1⟩) (
(zAm Tryz.prog (x 0)).bind fun v3=>
(fa 90 v3 4).bind fun v4=>
(ld 45 v4 h1).bind fun v5=>
(ia 45 v5 (x 1)).bind fun v6=>
(sto 30 v6 (x 2) h1).bind fun h7=>
(zAm Tryz.prog (x 0)).bind fun v8=>
(fa 90 v8 1).bind fun v9=>
(ld 3 v9 h7).bind fun v10=>
obH (zAi Tryz.prog 68 1 #[(0,v10)] h7) fun v11 h12=>
obH (ev 28 #[v11] h12) fun v13 h14=>
obH (ev 29 #[x 4] h14) fun v15 h16=>
(zBf v15 0).bind fun v17=>
(zBf v15 1).bind fun v18=>
obH (zBp Tryz.prog 51 h16) fun v19 h20=>
(sto 51 v19 v17 h20).bind fun h21=>
(ld 51 v19 h21).bind fun v22=>
(buildV Tryz.prog 99 #[(0,(x 1)),(1,(x 2)),(2,(x 3))]).bind fun v23=>
obH (ev 36 #[v22,v23] h21) fun v24 h25=>
obH (ev 37 #[v24,v13] h25) fun v26 h27=>
obH (zBp Tryz.prog 51 h27) fun v28 h29=>
(sto 51 v28 v26 h29).bind fun h30=>
(zAm Tryz.prog (x 0)).bind fun v31=>
(fa 90 v31 2).bind fun v32=>
(ld 51 v32 h30).bind fun v33=>
(ld 51 v28 h30).bind fun v34=>
obH (ev 43 #[v33,v34] h30) fun v35 h36=>
obH (ev 37 #[v35,v13] h36) fun v37 h38=>
obH (ev 34 #[v37] h38) fun v39 h40=>
(zAm Tryz.prog (x 0)).bind fun v41=>
(fa 90 v41 2).bind fun v42=>
(sto 51 v42 v39 h40).bind fun h43=>
k .ret ⟨ar 59 (up x [(10,(.bool true)),(11,v13),(12,v19),(13,v18),(14,v28),(15,(x 0)),(16,(x 1)),(17,(x 2)),(18,(x 4)),(19,v0),(20,v2),(21,(x 0)),(22,v3),(23,v4),(24,v5),(25,(x 1)),(26,(x 2)),(27,v6),(28,(x 0)),(29,v8),(30,v9),(31,v10),(32,v11),(33,v13),(34,v15),(35,(x 4)),(36,v15),(37,v17),(38,v18),(39,v22),(40,(x 1)),(41,(x 2)),(42,(x 3)),(43,v23),(44,v24),(45,v13),(46,v26),(47,(x 0)),(48,(x 0)),(49,v31),(50,v32),(51,v33),(52,v34),(53,v35),(54,v13),(55,v37),(56,v39),(57,v41),(58,v42)]),h43⟩):=by kernel_rfl
theorem call9 (a0 a1 a2 a3 a4:Value):evC Tryz.prog 9 #[a0,a1,a2,a3,a4] h=cK c9_0 59 (up un [(0,a0),(1,a1),(2,a2),(3,a3),(4,a4)]) (nm h) (zBb Tryz.f9 Tryz.prog h):=
 (zAo 9 Tryz.f9 c9_0 Tryz.func9 (by kernel_rfl) #[a0,a1,a2,a3,a4] h).trans (by kernel_rfl)
theorem ret9:zBb Tryz.f9 Tryz.prog g .ret ⟨ar 59 x,h⟩=fin g (some (x 10)) h:=by kernel_rfl
end Go.Am
namespace Go.Am
open Go.Proofs
set_option maxRecDepth 100000
variable {β:Type} (x:Nat->Value) (h:Heap) (k:Ex->St->Option β) (r m:List Nat) (g:Heap)
noncomputable def c5_0:Code:=zAk Tryz.f5 []
theorem c5_0_eq:cK c5_0 52 x h k =
obH (ev 6 #[(.int .i64 2),(.int .i64 0)] h) fun v0 h1=>
(zBf v0 0).bind fun v2=>
(zBf v0 1).bind fun v3=>
(bn .neq 25 v3 (.int .i64 0)).bind fun v4=>
(gd (wt v4 false) (bn .eql 24 (gdV (wt v4 false) v2) (.pointer Option.none))).bind fun v5=>
(zBo v4 (.bool true) v5).bind fun v6=>
cnd v6 (
k .ret ⟨ar 52 (up x [(0,(.bool false)),(1,v2),(2,v3),(6,v0),(7,v0),(8,v2),(9,v3),(10,v3),(11,v4),(12,v4),(13,(gdV (wt v4 false) v2)),(14,v5),(15,v6)]),h1⟩) (
obH (zAi Tryz.prog 68 1 #[(0,(.int .i64 1))] h1) fun v7 h8=>
obH (ev 28 #[v7] h8) fun v9 h10=>
obH (ev 7 #[v2,v9] h10) fun v11 h12=>
obH (zAi Tryz.prog 68 1 #[(0,(.int .i64 1))] h12) fun v13 h14=>
obH (ev 28 #[v13] h14) fun v15 h16=>
obH (ev 7 #[v2,v15] h16) fun v17 h18=>
(ln 34 v17 h18).bind fun v19=>
(bn .neq 3 v19 (.int .i64 1)).bind fun v20=>
cnd v20 (
k .ret ⟨ar 52 (up x [(0,(.bool false)),(1,v2),(2,v3),(3,v17),(6,v0),(7,v0),(8,v2),(9,v3),(10,v3),(11,v4),(12,v4),(13,(gdV (wt v4 false) v2)),(14,v5),(15,v6),(16,v2),(17,v7),(18,v9),(19,v11),(20,v2),(21,v13),(22,v15),(23,v17),(24,v17),(25,v19),(26,v20)]),h18⟩) (
(ia 34 v17 (.int .i64 0)).bind fun v21=>
(ld 35 v21 h18).bind fun v22=>
obH (ev 29 #[v22] h18) fun v23 h24=>
(zBf v23 0).bind fun v25=>
(zBf v23 1).bind fun v26=>
obH (zBp Tryz.prog 51 h24) fun v27 h28=>
(sto 51 v27 v25 h28).bind fun h29=>
(gd (wt v26 true) (fa 51 v27 0)).bind fun v30=>
(gd (wt v26 true) (ld 49 v30 h29)).bind fun v31=>
obH (gdH (wt v26 true) h29 (ev 16 #[v31] h29)) fun v32 h33=>
(gd (wt v26 true) (buildV Tryz.prog 87 #[(0,(.int .i64 0)),(1,(.int .u64 1)),(2,(.int .u64 2))])).bind fun v34=>
obH (gdH (wt v26 true) h33 (zAi Tryz.prog 31 1 #[(0,v34)] h33)) fun v35 h36=>
obH (gdH (wt v26 true) h36 (ev 15 #[v32,v35] h36)) fun v37 h38=>
(zBo v26 v37 (.bool false)).bind fun v39=>
obH (gdH (wt v39 true) h38 (ev 17 #[(gdV (wt v39 true) v2)] h38)) fun v40 h41=>
(gd (wt v39 true) (fv 51 v40 0)).bind fun v42=>
obH (gdH (wt v39 true) h41 (ev 16 #[v42] h41)) fun v43 h44=>
(gd (wt v39 true) (buildV Tryz.prog 87 #[(0,(.int .i64 0)),(1,(.int .u64 2)),(2,(.int .u64 2))])).bind fun v45=>
obH (gdH (wt v39 true) h44 (zAi Tryz.prog 31 1 #[(0,v45)] h44)) fun v46 h47=>
obH (gdH (wt v39 true) h47 (ev 15 #[v43,v46] h47)) fun v48 h49=>
(zBo v39 v48 (.bool false)).bind fun v50=>
k .ret ⟨ar 52 (up x [(0,v50),(1,v2),(2,v3),(3,v17),(4,v27),(5,v26),(6,v0),(7,v0),(8,v2),(9,v3),(10,v3),(11,v4),(12,v4),(13,(gdV (wt v4 false) v2)),(14,v5),(15,v6),(16,v2),(17,v7),(18,v9),(19,v11),(20,v2),(21,v13),(22,v15),(23,v17),(24,v17),(25,v19),(26,v20),(27,v23),(28,v17),(29,v21),(30,v22),(31,v23),(32,v25),(33,v26),(34,v26),(35,v26),(36,v30),(37,v31),(38,v32),(39,v34),(40,v35),(41,v37),(42,v39),(43,v39),(44,(gdV (wt v39 true) v2)),(45,v40),(46,v42),(47,v43),(48,v45),(49,v46),(50,v48),(51,v50)]),h49⟩)):=by kernel_rfl
theorem call5  : evC Tryz.prog 5 #[] h=cK c5_0 52 un (nm h) (zBb Tryz.f5 Tryz.prog h):=
 (zAo 5 Tryz.f5 c5_0 Tryz.func5 (by kernel_rfl) #[] h).trans (by kernel_rfl)
theorem ret5:zBb Tryz.f5 Tryz.prog g .ret ⟨ar 52 x,h⟩=fin g (some (x 0)) h:=by kernel_rfl
end Go.Am
namespace Go.Am
open Go.Proofs
set_option maxRecDepth 100000
variable {β:Type} (x:Nat->Value) (h:Heap) (k:Ex->St->Option β) (r m:List Nat) (g:Heap)
end Go.Am
namespace Go.Am
open Go.Proofs
set_option maxRecDepth 100000
variable (Aa Ab Ac Ad Ae Af Ag Ah Ai Aj Ak Al An Ao Ap Aq Ar As Au:Value)
noncomputable def c93_0:Code:=zAk Tryz.f93 []
theorem c93_0_eq {β:Type} (h:Heap) (k:Ex->St->Option β):zAy Tryz.prog (evC Tryz.prog) zAx c93_0 ⟨#[Aa,Ab,Ac,Ad,Ae,Af,Ag,Ah,Ai,Aj,Ak,Al,An,Ao,Ap,Aq,Ar,As,Au],h⟩ k =
obH (evC Tryz.prog 52 #[Aa] h) fun t7_0 h1=>
(lenV Tryz.prog 45 t7_0 h1).bind fun t10_2=>
(zBk Tryz.prog .gtr 3 (.tmp 8) (.tmp 10) Ab t10_2).bind fun t11_3=>
cnd t11_3 (
(lenV Tryz.prog 45 t7_0 h1).bind fun t15_4=>
(zBk Tryz.prog .sub 3 (.tmp 13) (.tmp 15) Ab t15_4).bind fun t16_5=>
obH (zBh Tryz.prog 45 (some 3) t7_0 t16_5 h1) fun t17_6 h7=>
k .ret ⟨#[Aa,Ab,Ac,Ad,t17_6,t17_6,Aa,t7_0,Ab,t7_0,t10_2,t11_3,t7_0,Ab,t7_0,t15_4,t16_5,t17_6,t17_6],h7⟩) (
k .ret ⟨#[Aa,Ab,Ac,Ad,t7_0,t7_0,Aa,t7_0,Ab,t7_0,t10_2,t11_3,An,Ao,Ap,Aq,Ar,As,t7_0],h1⟩):=by kernel_rfl
theorem call93 (h:Heap):evC Tryz.prog 93 #[Aa,Ab] h=zAy Tryz.prog (evC Tryz.prog) zAx c93_0 ⟨#[Aa,Ab,undef,undef,undef,undef,undef,undef,undef,undef,undef,undef,undef,undef,undef,undef,undef,undef,undef],nm h⟩ (zBb Tryz.f93 Tryz.prog h):=
 (zAo 93 Tryz.f93 c93_0 Tryz.func93 (by kernel_rfl) #[Aa,Ab] h).trans (by kernel_rfl)
theorem ret93 (h0 h:Heap):zBb Tryz.f93 Tryz.prog h0 .ret ⟨#[Aa,Ab,Ac,Ad,Ae,Af,Ag,Ah,Ai,Aj,Ak,Al,An,Ao,Ap,Aq,Ar,As,Au],h⟩=fin h0 (some Ae) h:=by kernel_rfl
end Go.Am
namespace Go.Am
open Go.Proofs
set_option maxRecDepth 100000
variable (Aa Ab Ac Ad Ae Af Ag Ah Ai Aj Ak Al An Ao Ap Aq Ar As Au Av Aw Ax Ay Az Ba Bb Bc Bd Be Bf Bg Bh:Value)
noncomputable def c63_0:Code:=zAk Tryz.f63 []
theorem c63_0_eq {β:Type} (h:Heap) (k:Ex->St->Option β):zAy Tryz.prog (evC Tryz.prog) zAx c63_0 ⟨#[Aa,Ab,Ac,Ad,Ae,Af,Ag,Ah,Ai,Aj,Ak,Al,An,Ao,Ap,Aq,Ar,As,Au,Av,Aw,Ax,Ay,Az,Ba,Bb,Bc,Bd,Be,Bf,Bg,Bh],h⟩ k =
(zBk Tryz.prog .lss 3 (.tmp 7) (.const (Go.Value.int Go.IntKind.i64 0)) Ab (Go.Value.int Go.IntKind.i64 0)).bind fun t8_0=>
(gd (wt t8_0 false) (zBk Tryz.prog .geq 3 (.tmp 10) (.const (Go.Value.int Go.IntKind.i64 64)) (gdV (wt t8_0 false) Ab) (Go.Value.int Go.IntKind.i64 64))).bind fun t11_1=>
(zBo t8_0 (Go.Value.bool Bool.true) t11_1).bind fun t12_2=>
obH (gdH (wt t12_2 false) h (evC Tryz.prog 49 #[(gdV (wt t12_2 false) Aa),(gdV (wt t12_2 false) Ab)] h)) fun t16_3 h4=>
(gd (wt t12_2 false) (zBk Tryz.prog .eql 30 (.tmp 16) (.const (Go.Value.int Go.IntKind.u64 18446744073709551615)) t16_3 (Go.Value.int Go.IntKind.u64 18446744073709551615))).bind fun t17_5=>
(zBo t12_2 (Go.Value.bool Bool.true) t17_5).bind fun t18_6=>
cnd t18_6 (
obH (evC Tryz.prog 52 #[Aa] h4) fun t20_7 h8=>
k .ret ⟨#[Aa,Ab,Ac,Ad,t20_7,(Go.Value.bool Bool.false),Ag,Ab,t8_0,t8_0,(gdV (wt t8_0 false) Ab),t11_1,t12_2,t12_2,(gdV (wt t12_2 false) Aa),(gdV (wt t12_2 false) Ab),t16_3,t17_5,t18_6,Aa,t20_7,Ax,Ay,Az,Ba,Bb,Bc,Bd,Be,Bf,Bg,Bh],h8⟩) (
(zBk Tryz.prog .add 3 (.tmp 22) (.const (Go.Value.int Go.IntKind.i64 1)) Ab (Go.Value.int Go.IntKind.i64 1)).bind fun t23_9=>
obH (evC Tryz.prog 93 #[Aa,t23_9] h4) fun t24_10 h11=>
(zAh Tryz.prog 45 t24_10 Ab).bind fun t27_12=>
(zAw Tryz.prog 30 t27_12 h11).bind fun t28_13=>
(zBk Tryz.prog .add 30 (.tmp 28) (.const (Go.Value.int Go.IntKind.u64 1)) t28_13 (Go.Value.int Go.IntKind.u64 1)).bind fun t29_14=>
(zAh Tryz.prog 45 t24_10 Ab).bind fun t30_15=>
(zBc Tryz.prog 30 t30_15 t29_14 h11).bind fun h16=>
k .ret ⟨#[Aa,Ab,Ac,Ad,t24_10,(Go.Value.bool Bool.true),t24_10,Ab,t8_0,t8_0,(gdV (wt t8_0 false) Ab),t11_1,t12_2,t12_2,(gdV (wt t12_2 false) Aa),(gdV (wt t12_2 false) Ab),t16_3,t17_5,t18_6,Av,Aw,Aa,Ab,t23_9,t24_10,t24_10,Ab,t27_12,t28_13,t29_14,t30_15,t24_10],h16⟩):=by kernel_rfl
theorem call63 (h:Heap):evC Tryz.prog 63 #[Aa,Ab] h=zAy Tryz.prog (evC Tryz.prog) zAx c63_0 ⟨#[Aa,Ab,undef,undef,undef,undef,undef,undef,undef,undef,undef,undef,undef,undef,undef,undef,undef,undef,undef,undef,undef,undef,undef,undef,undef,undef,undef,undef,undef,undef,undef,undef],nm h⟩ (zBb Tryz.f63 Tryz.prog h):=
 (zAo 63 Tryz.f63 c63_0 Tryz.func63 (by kernel_rfl) #[Aa,Ab] h).trans (by kernel_rfl)
theorem ret63 (h0 h:Heap):zBb Tryz.f63 Tryz.prog h0 .ret ⟨#[Aa,Ab,Ac,Ad,Ae,Af,Ag,Ah,Ai,Aj,Ak,Al,An,Ao,Ap,Aq,Ar,As,Au,Av,Aw,Ax,Ay,Az,Ba,Bb,Bc,Bd,Be,Bf,Bg,Bh],h⟩=fin h0 (some (.tuple #[Ae,Af])) h:=by kernel_rfl
end Go.Am
namespace Go.Am
open Go.Proofs
set_option maxRecDepth 100000
variable (Aa Ab Ac Ad Ae Af Ag Ah Ai Aj Ak Al An Ao Ap Aq Ar As Au Av Aw Ax Ay Az Ba Bb Bc Bd Be Bf:Value)
noncomputable def c94_0:Code:=zAk Tryz.f94 []
noncomputable def c94_1:Code:=zAk Tryz.f94 [true,true,false,true,false,false]
noncomputable def c94_2:Code:=zAk Tryz.f94 [true,true,true]
theorem c94_0_eq {β:Type} (h:Heap) (k:Ex->St->Option β):zAy Tryz.prog (evC Tryz.prog) zAx c94_0 ⟨#[Aa,Ab,Ac,Ad,Ae,Af,Ag,Ah,Ai,Aj,Ak,Al,An,Ao,Ap,Aq,Ar,As,Au,Av,Aw,Ax,Ay,Az,Ba,Bb,Bc,Bd,Be,Bf],h⟩ k =
(lenV Tryz.prog 45 Ab h).bind fun t10_0=>
obH (evC Tryz.prog 93 #[Aa,t10_0] h) fun t11_1 h2=>
(lenV Tryz.prog 45 Ab h2).bind fun t13_3=>
loopK Tryz.prog (evC Tryz.prog) c94_1 ⟨#[Aa,Ab,Ac,Ad,(Go.Value.slice Option.none 0 0),t11_1,Ag,Ah,Aa,Ab,t10_0,t11_1,Ab,t13_3,(Go.Value.int Go.IntKind.i64 0),Aq,Ar,As,Au,Av,Aw,Ax,Ay,Az,Ba,Bb,Bc,Bd,Be,Bf],h2⟩ (zAu 0 (seqK Tryz.prog (evC Tryz.prog) c94_2 k)):=by kernel_rfl
theorem c94_1_eq {β:Type} (h:Heap) (k:Ex->St->Option β):zAy Tryz.prog (evC Tryz.prog) zAx c94_1 ⟨#[Aa,Ab,Ac,Ad,Ae,Af,Ag,Ah,Ai,Aj,Ak,Al,An,Ao,Ap,Aq,Ar,As,Au,Av,Aw,Ax,Ay,Az,Ba,Bb,Bc,Bd,Be,Bf],h⟩ k =
(zBk Tryz.prog .lss 3 (.tmp 14) (.tmp 13) Ap Ao).bind fun t15_4=>
cnd t15_4 (
(zAh Tryz.prog 45 An Ap).bind fun t17_5=>
(zAw Tryz.prog 30 t17_5 h).bind fun t18_6=>
(zAh Tryz.prog 45 Af Ap).bind fun t23_7=>
(zAw Tryz.prog 30 t23_7 h).bind fun t24_8=>
obH (builtinV Tryz.prog .max #[30,30] #[t24_8,t18_6] h) fun t26_9 h10=>
(zAh Tryz.prog 45 Af Ap).bind fun t27_11=>
(zBc Tryz.prog 30 t27_11 t26_9 h10).bind fun h12=>
(zBk Tryz.prog .add 3 (.tmp 14) (.const (Go.Value.int Go.IntKind.i64 1)) Ap (Go.Value.int Go.IntKind.i64 1)).bind fun t28_13=>
k .normal ⟨#[Aa,Ab,Ac,Ad,Ae,Af,Ap,t18_6,Ai,Aj,Ak,Al,An,Ao,t28_13,t15_4,Ap,t17_5,t18_6,Af,Ap,Af,Ap,t23_7,t24_8,t18_6,t26_9,t27_11,t28_13,Bf],h12⟩) (
k (.exit 0) ⟨#[Aa,Ab,Ac,Ad,Ae,Af,Ag,Ah,Ai,Aj,Ak,Al,An,Ao,Ap,t15_4,Ar,As,Au,Av,Aw,Ax,Ay,Az,Ba,Bb,Bc,Bd,Be,Bf],h⟩):=by kernel_rfl
theorem c94_2_eq {β:Type} (h:Heap) (k:Ex->St->Option β):zAy Tryz.prog (evC Tryz.prog) zAx c94_2 ⟨#[Aa,Ab,Ac,Ad,Ae,Af,Ag,Ah,Ai,Aj,Ak,Al,An,Ao,Ap,Aq,Ar,As,Au,Av,Aw,Ax,Ay,Az,Ba,Bb,Bc,Bd,Be,Bf],h⟩ k =
k .ret ⟨#[Aa,Ab,Ac,Ad,Af,Af,Ag,Ah,Ai,Aj,Ak,Al,An,Ao,Ap,Aq,Ar,As,Au,Av,Aw,Ax,Ay,Az,Ba,Bb,Bc,Bd,Be,Af],h⟩:=by kernel_rfl
theorem call94 (h:Heap):evC Tryz.prog 94 #[Aa,Ab] h=zAy Tryz.prog (evC Tryz.prog) zAx c94_0 ⟨#[Aa,Ab,undef,undef,undef,undef,undef,undef,undef,undef,undef,undef,undef,undef,undef,undef,undef,undef,undef,undef,undef,undef,undef,undef,undef,undef,undef,undef,undef,undef],nm h⟩ (zBb Tryz.f94 Tryz.prog h):=
 (zAo 94 Tryz.f94 c94_0 Tryz.func94 (by kernel_rfl) #[Aa,Ab] h).trans (by kernel_rfl)
theorem ret94 (h0 h:Heap):zBb Tryz.f94 Tryz.prog h0 .ret ⟨#[Aa,Ab,Ac,Ad,Ae,Af,Ag,Ah,Ai,Aj,Ak,Al,An,Ao,Ap,Aq,Ar,As,Au,Av,Aw,Ax,Ay,Az,Ba,Bb,Bc,Bd,Be,Bf],h⟩=fin h0 (some Ae) h:=by kernel_rfl
end Go.Am
namespace Go.Am
open Go.Proofs
set_option maxRecDepth 100000
variable {β:Type} (x:Nat->Value) (h:Heap) (k:Ex->St->Option β) (r m:List Nat) (g:Heap)
end Go.Am
namespace Go.Am
open Go.Proofs
set_option maxRecDepth 100000
variable (Aa Ab Ac Ad Ae Af Ag Ah Ai Aj Ak Al An Ao Ap Aq Ar As Au Av Aw Ax Ay Az Ba Bb:Value)
noncomputable def c54_0:Code:=zAk Tryz.f54 []
noncomputable def c54_1:Code:=zAk Tryz.f54 [true,true,true,false,true,false,false]
noncomputable def c54_2:Code:=zAk Tryz.f54 [true,true,true,true]
theorem c54_0_eq {β:Type} (h:Heap) (k:Ex->St->Option β):zAy Tryz.prog (evC Tryz.prog) zAx c54_0 ⟨#[Aa,Ab,Ac,Ad,Ae,Af,Ag,Ah,Ai,Aj,Ak,Al,An,Ao,Ap,Aq,Ar,As,Au,Av,Aw,Ax,Ay,Az,Ba,Bb],h⟩ k =
obH (zBp Tryz.prog 119 h) fun t2_0 h1=>
(zBk Tryz.prog .lss 3 (.tmp 5) (.const (Go.Value.int Go.IntKind.i64 1)) Aa (Go.Value.int Go.IntKind.i64 1)).bind fun t6_2=>
(gd (wt t6_2 false) (zBk Tryz.prog .gtr 3 (.tmp 8) (.const (Go.Value.int Go.IntKind.i64 16)) (gdV (wt t6_2 false) Aa) (Go.Value.int Go.IntKind.i64 16))).bind fun t9_3=>
(zBo t6_2 (Go.Value.bool Bool.true) t9_3).bind fun t10_4=>
cnd t10_4 (
(buildV Tryz.prog 119 #[]).bind fun t11_5=>
(zBc Tryz.prog 119 t2_0 t11_5 h1).bind fun h6=>
k .ret ⟨#[Aa,Ab,t2_0,(Go.Value.int Go.IntKind.i64 1),Ae,Aa,t6_2,t6_2,(gdV (wt t6_2 false) Aa),t9_3,t10_4,t11_5,An,Ao,Ap,Aq,Ar,As,Au,Av,Aw,Ax,Ay,Az,Ba,Bb],h6⟩) (
(buildV Tryz.prog 119 #[(0,Aa)]).bind fun t13_7=>
obH (zBp Tryz.prog 119 h1) fun t4_8 h9=>
(zBc Tryz.prog 119 t4_8 t13_7 h9).bind fun h10=>
loopK Tryz.prog (evC Tryz.prog) c54_1 ⟨#[Aa,Ab,t2_0,(Go.Value.int Go.IntKind.i64 0),t4_8,Aa,t6_2,t6_2,(gdV (wt t6_2 false) Aa),t9_3,t10_4,Al,Aa,t13_7,Aa,(Go.Value.int Go.IntKind.i64 0),Ar,As,Au,Av,Aw,Ax,Ay,Az,Ba,Bb],h10⟩ (zAu 0 (seqK Tryz.prog (evC Tryz.prog) c54_2 k))):=by kernel_rfl
theorem c54_1_eq {β:Type} (h:Heap) (k:Ex->St->Option β):zAy Tryz.prog (evC Tryz.prog) zAx c54_1 ⟨#[Aa,Ab,Ac,Ad,Ae,Af,Ag,Ah,Ai,Aj,Ak,Al,An,Ao,Ap,Aq,Ar,As,Au,Av,Aw,Ax,Ay,Az,Ba,Bb],h⟩ k =
(zBk Tryz.prog .lss 3 (.tmp 15) (.tmp 14) Aq Ap).bind fun t16_11=>
cnd t16_11 (
(zAe Tryz.prog 119 Ae 1).bind fun t17_12=>
(zAw Tryz.prog 117 t17_12 h).bind fun t18_13=>
obH (evC Tryz.prog 30 #[Aa] (nm h)) fun t20_14 h15=>
obH (zAi Tryz.prog 117 1 #[(0,t20_14)] (am h15 h)) fun t21_16 h17=>
obH (zBh Tryz.prog 117 (some 117) t18_13 t21_16 h17) fun t22_18 h19=>
(zAe Tryz.prog 119 Ae 1).bind fun t23_20=>
(zBc Tryz.prog 117 t23_20 t22_18 h19).bind fun h21=>
chk ((rb t17_12)++[]) (h15.mods++[]) (
(zBk Tryz.prog .add 3 (.tmp 15) (.const (Go.Value.int Go.IntKind.i64 1)) Aq (Go.Value.int Go.IntKind.i64 1)).bind fun t24_22=>
k .normal ⟨#[Aa,Ab,Ac,Ad,Ae,Af,Ag,Ah,Ai,Aj,Ak,Al,An,Ao,Ap,t24_22,t16_11,t17_12,t18_13,Aa,t20_14,t21_16,t22_18,t23_20,t24_22,Bb],h21⟩)) (
k (.exit 0) ⟨#[Aa,Ab,Ac,Ad,Ae,Af,Ag,Ah,Ai,Aj,Ak,Al,An,Ao,Ap,Aq,t16_11,As,Au,Av,Aw,Ax,Ay,Az,Ba,Bb],h⟩):=by kernel_rfl
theorem c54_2_eq {β:Type} (h:Heap) (k:Ex->St->Option β):zAy Tryz.prog (evC Tryz.prog) zAx c54_2 ⟨#[Aa,Ab,Ac,Ad,Ae,Af,Ag,Ah,Ai,Aj,Ak,Al,An,Ao,Ap,Aq,Ar,As,Au,Av,Aw,Ax,Ay,Az,Ba,Bb],h⟩ k =
(zAw Tryz.prog 119 Ae h).bind fun t25_23=>
(zBc Tryz.prog 119 Ac t25_23 h).bind fun h24=>
k .ret ⟨#[Aa,Ab,Ac,(Go.Value.int Go.IntKind.i64 0),Ae,Af,Ag,Ah,Ai,Aj,Ak,Al,An,Ao,Ap,Aq,Ar,As,Au,Av,Aw,Ax,Ay,Az,Ba,t25_23],h24⟩:=by kernel_rfl
theorem call54 (h:Heap):evC Tryz.prog 54 #[Aa] h=zAy Tryz.prog (evC Tryz.prog) zAx c54_0 ⟨#[Aa,undef,undef,undef,undef,undef,undef,undef,undef,undef,undef,undef,undef,undef,undef,undef,undef,undef,undef,undef,undef,undef,undef,undef,undef,undef],nm h⟩ (zBb Tryz.f54 Tryz.prog h):=
 (zAo 54 Tryz.f54 c54_0 Tryz.func54 (by kernel_rfl) #[Aa] h).trans (by kernel_rfl)
theorem ret54 (h0 h:Heap):zBb Tryz.f54 Tryz.prog h0 .ret ⟨#[Aa,Ab,Ac,Ad,Ae,Af,Ag,Ah,Ai,Aj,Ak,Al,An,Ao,Ap,Aq,Ar,As,Au,Av,Aw,Ax,Ay,Az,Ba,Bb],h⟩=fin h0 (rvals ((zAw Tryz.prog 119 Ac h).bind fun r0=>some [r0,Ad])) h:=by kernel_rfl
end Go.Am
namespace Go.Am
open Go.Proofs
set_option maxRecDepth 100000
variable (Aa Ab Ac Ad Ae Af Ag Ah Ai Aj Ak Al An Ao Ap Aq Ar As Au Av Aw Ax Ay Az:Value)
noncomputable def c91_0:Code:=zAk Tryz.f91 []
theorem c91_0_eq {β:Type} (h:Heap) (k:Ex->St->Option β):zAy Tryz.prog (evC Tryz.prog) zAx c91_0 ⟨#[Aa,Ab,Ac,Ad,Ae,Af,Ag,Ah,Ai,Aj,Ak,Al,An,Ao,Ap,Aq,Ar,As,Au,Av,Aw,Ax,Ay,Az],h⟩ k =
obH (boxV Tryz.prog 119 Aa h) fun t1_0 h1=>
(zAe Tryz.prog 119 t1_0 0).bind fun t3_2=>
(zAw Tryz.prog 3 t3_2 h1).bind fun t4_3=>
(zBk Tryz.prog .lss 3 (.tmp 4) (.const (Go.Value.int Go.IntKind.i64 1)) t4_3 (Go.Value.int Go.IntKind.i64 1)).bind fun t5_4=>
(gd (wt t5_4 false) (zAe Tryz.prog 119 t1_0 0)).bind fun t7_5=>
(gd (wt t5_4 false) (zAw Tryz.prog 3 t7_5 h1)).bind fun t8_6=>
(gd (wt t5_4 false) (zBk Tryz.prog .gtr 3 (.tmp 8) (.const (Go.Value.int Go.IntKind.i64 16)) t8_6 (Go.Value.int Go.IntKind.i64 16))).bind fun t9_7=>
(zBo t5_4 (Go.Value.bool Bool.true) t9_7).bind fun t10_8=>
(gd (wt t10_8 false) (zAe Tryz.prog 119 t1_0 1)).bind fun t12_9=>
(gd (wt t10_8 false) (zAw Tryz.prog 117 t12_9 h1)).bind fun t13_10=>
(gd (wt t10_8 false) (lenV Tryz.prog 117 t13_10 h1)).bind fun t14_11=>
(gd (wt t10_8 false) (zAe Tryz.prog 119 t1_0 0)).bind fun t15_12=>
(gd (wt t10_8 false) (zAw Tryz.prog 3 t15_12 h1)).bind fun t16_13=>
(gd (wt t10_8 false) (zBk Tryz.prog .neq 3 (.tmp 14) (.tmp 16) t14_11 t16_13)).bind fun t17_14=>
(zBo t10_8 (Go.Value.bool Bool.true) t17_14).bind fun t18_15=>
cnd t18_15 (
k .ret ⟨#[Aa,t1_0,(Go.Value.bool Bool.false),t3_2,t4_3,t5_4,t5_4,t7_5,t8_6,t9_7,t10_8,t10_8,t12_9,t13_10,t14_11,t15_12,t16_13,t17_14,t18_15,Av,Aw,Ax,Ay,Az],h1⟩) (
(zAe Tryz.prog 119 t1_0 1).bind fun t19_16=>
(zAw Tryz.prog 117 t19_16 h1).bind fun t20_17=>
obH (evC Tryz.prog 111 #[t20_17,(.func (Go.Fn.func 112) #[] #[t1_0])] h1) fun t22_18 h19=>
(unV Tryz.prog .not t22_18).bind fun t23_20=>
k .ret ⟨#[Aa,t1_0,t23_20,t3_2,t4_3,t5_4,t5_4,t7_5,t8_6,t9_7,t10_8,t10_8,t12_9,t13_10,t14_11,t15_12,t16_13,t17_14,t18_15,t19_16,t20_17,(.func (Go.Fn.func 112) #[] #[t1_0]),t22_18,t23_20],h19⟩):=by kernel_rfl
theorem call91 (h:Heap):evC Tryz.prog 91 #[Aa] h=zAy Tryz.prog (evC Tryz.prog) zAx c91_0 ⟨#[Aa,undef,undef,undef,undef,undef,undef,undef,undef,undef,undef,undef,undef,undef,undef,undef,undef,undef,undef,undef,undef,undef,undef,undef],nm h⟩ (zBb Tryz.f91 Tryz.prog h):=
 (zAo 91 Tryz.f91 c91_0 Tryz.func91 (by kernel_rfl) #[Aa] h).trans (by kernel_rfl)
theorem ret91 (h0 h:Heap):zBb Tryz.f91 Tryz.prog h0 .ret ⟨#[Aa,Ab,Ac,Ad,Ae,Af,Ag,Ah,Ai,Aj,Ak,Al,An,Ao,Ap,Aq,Ar,As,Au,Av,Aw,Ax,Ay,Az],h⟩=fin h0 (some Ac) h:=by kernel_rfl
end Go.Am
namespace Go.Am
open Go.Proofs
set_option maxRecDepth 100000
variable (Aa Ab Ac Ad Ae Af Ag Ah Ai:Value)
noncomputable def c112_0:Code:=zAk Tryz.f112 []
theorem c112_0_eq {β:Type} (h:Heap) (k:Ex->St->Option β):zAy Tryz.prog (evC Tryz.prog) zAx c112_0 ⟨#[Aa,Ab,Ac,Ad,Ae,Af,Ag,Ah,Ai],h⟩ k =
(lenV Tryz.prog 45 Aa h).bind fun t5_0=>
(zAe Tryz.prog 119 Ab 0).bind fun t6_1=>
(zAw Tryz.prog 3 t6_1 h).bind fun t7_2=>
(zBk Tryz.prog .neq 3 (.tmp 5) (.tmp 7) t5_0 t7_2).bind fun t8_3=>
k .ret ⟨#[Aa,Ab,Ac,t8_3,Aa,t5_0,t6_1,t7_2,t8_3],h⟩:=by kernel_rfl
theorem ret112 (h0 h:Heap):zBb Tryz.f112 Tryz.prog h0 .ret ⟨#[Aa,Ab,Ac,Ad,Ae,Af,Ag,Ah,Ai],h⟩=fin h0 (some Ad) h:=by kernel_rfl
end Go.Am
namespace Go.Am
open Go.Proofs
set_option maxRecDepth 100000
variable (Aa Ab Ac Ad Ae Af Ag Ah Ai:Value)
noncomputable def c111_0:Code:=zAk Tryz.f111 []
theorem c111_0_eq {β:Type} (h:Heap) (k:Ex->St->Option β):zAy Tryz.prog (evC Tryz.prog) zAx c111_0 ⟨#[Aa,Ab,Ac,Ad,Ae,Af,Ag,Ah,Ai],h⟩ k =
obH (evC Tryz.prog 127 #[Aa,Ab] h) fun t7_0 h1=>
(zBk Tryz.prog .geq 3 (.tmp 7) (.const (Go.Value.int Go.IntKind.i64 0)) t7_0 (Go.Value.int Go.IntKind.i64 0)).bind fun t8_2=>
k .ret ⟨#[Aa,Ab,Ac,Ad,t8_2,Aa,Ab,t7_0,t8_2],h1⟩:=by kernel_rfl
theorem call111 (h:Heap):evC Tryz.prog 111 #[Aa,Ab] h=zAy Tryz.prog (evC Tryz.prog) zAx c111_0 ⟨#[Aa,Ab,undef,undef,undef,undef,undef,undef,undef],nm h⟩ (zBb Tryz.f111 Tryz.prog h):=
 (zAo 111 Tryz.f111 c111_0 Tryz.func111 (by kernel_rfl) #[Aa,Ab] h).trans (by kernel_rfl)
theorem ret111 (h0 h:Heap):zBb Tryz.f111 Tryz.prog h0 .ret ⟨#[Aa,Ab,Ac,Ad,Ae,Af,Ag,Ah,Ai],h⟩=fin h0 (some Ae) h:=by kernel_rfl
end Go.Am
namespace Go.Am
open Go.Proofs
set_option maxRecDepth 100000
variable (Aa Ab Ac Ad Ae Af Ag Ah Ai Aj Ak Al An Ao Ap Aq Ar As Au:Value)
noncomputable def c127_0:Code:=zAk Tryz.f127 []
noncomputable def c127_1:Code:=zAk Tryz.f127 [true,false,true,false,false]
noncomputable def c127_2:Code:=zAk Tryz.f127 [true,true]
theorem c127_0_eq {β:Type} (h:Heap) (k:Ex->St->Option β):zAy Tryz.prog (evC Tryz.prog) zAx c127_0 ⟨#[Aa,Ab,Ac,Ad,Ae,Af,Ag,Ah,Ai,Aj,Ak,Al,An,Ao,Ap,Aq,Ar,As,Au],h⟩ k =
(lenV Tryz.prog 117 Aa h).bind fun t7_0=>
loopK Tryz.prog (evC Tryz.prog) c127_1 ⟨#[Aa,Ab,Ac,Ad,(Go.Value.int Go.IntKind.i64 0),Af,Aa,t7_0,(Go.Value.int Go.IntKind.i64 0),Aj,Ak,Al,An,Ao,Ap,Aq,Ar,As,Au],h⟩ (zAu 0 (seqK Tryz.prog (evC Tryz.prog) c127_2 k)):=by kernel_rfl
theorem c127_1_eq {β:Type} (h:Heap) (k:Ex->St->Option β):zAy Tryz.prog (evC Tryz.prog) zAx c127_1 ⟨#[Aa,Ab,Ac,Ad,Ae,Af,Ag,Ah,Ai,Aj,Ak,Al,An,Ao,Ap,Aq,Ar,As,Au],h⟩ k =
(zBk Tryz.prog .lss 3 (.tmp 8) (.tmp 7) Ai Ah).bind fun t9_1=>
cnd t9_1 (
(zAh Tryz.prog 117 Aa Ai).bind fun t14_2=>
(zAw Tryz.prog 45 t14_2 h).bind fun t15_3=>
obH (callV Tryz.prog (evC Tryz.prog) Ab #[t15_3] h) fun t16_4 h5=>
cnd t16_4 (
k .ret ⟨#[Aa,Ab,Ac,Ad,Ai,Ai,Ag,Ah,Ai,t9_1,Ai,Ab,Aa,Ai,t14_2,t15_3,t16_4,Ai,Au],h5⟩) (
(zBk Tryz.prog .add 3 (.tmp 8) (.const (Go.Value.int Go.IntKind.i64 1)) Ai (Go.Value.int Go.IntKind.i64 1)).bind fun t18_6=>
k .normal ⟨#[Aa,Ab,Ac,Ad,Ae,Ai,Ag,Ah,t18_6,t9_1,Ai,Ab,Aa,Ai,t14_2,t15_3,t16_4,As,t18_6],h5⟩)) (
k (.exit 0) ⟨#[Aa,Ab,Ac,Ad,Ae,Af,Ag,Ah,Ai,t9_1,Ak,Al,An,Ao,Ap,Aq,Ar,As,Au],h⟩):=by kernel_rfl
theorem c127_2_eq {β:Type} (h:Heap) (k:Ex->St->Option β):zAy Tryz.prog (evC Tryz.prog) zAx c127_2 ⟨#[Aa,Ab,Ac,Ad,Ae,Af,Ag,Ah,Ai,Aj,Ak,Al,An,Ao,Ap,Aq,Ar,As,Au],h⟩ k =
k .ret ⟨#[Aa,Ab,Ac,Ad,(Go.Value.int Go.IntKind.i64 (-1)),Af,Ag,Ah,Ai,Aj,Ak,Al,An,Ao,Ap,Aq,Ar,As,Au],h⟩:=by kernel_rfl
theorem call127 (h:Heap):evC Tryz.prog 127 #[Aa,Ab] h=zAy Tryz.prog (evC Tryz.prog) zAx c127_0 ⟨#[Aa,Ab,undef,undef,undef,undef,undef,undef,undef,undef,undef,undef,undef,undef,undef,undef,undef,undef,undef],nm h⟩ (zBb Tryz.f127 Tryz.prog h):=
 (zAo 127 Tryz.f127 c127_0 Tryz.func127 (by kernel_rfl) #[Aa,Ab] h).trans (by kernel_rfl)
theorem ret127 (h0 h:Heap):zBb Tryz.f127 Tryz.prog h0 .ret ⟨#[Aa,Ab,Ac,Ad,Ae,Af,Ag,Ah,Ai,Aj,Ak,Al,An,Ao,Ap,Aq,Ar,As,Au],h⟩=fin h0 (some Ae) h:=by kernel_rfl
end Go.Am
namespace Go.Am
open Go.Proofs
set_option maxRecDepth 100000
variable (Aa Ab Ac Ad Ae Af Ag Ah Ai Aj Ak Al An Ao Ap Aq Ar As Au Av Aw Ax Ay Az Ba:Value)
noncomputable def c92_0:Code:=zAk Tryz.f92 []
noncomputable def c92_1:Code:=zAk Tryz.f92 [true,true,false,true,false,false]
noncomputable def c92_2:Code:=zAk Tryz.f92 [true,true,true]
theorem c92_0_eq {β:Type} (h:Heap) (k:Ex->St->Option β):zAy Tryz.prog (evC Tryz.prog) zAx c92_0 ⟨#[Aa,Ab,Ac,Ad,Ae,Af,Ag,Ah,Ai,Aj,Ak,Al,An,Ao,Ap,Aq,Ar,As,Au,Av,Aw,Ax,Ay,Az,Ba],h⟩ k =
obH (boxV Tryz.prog 119 Aa h) fun t1_0 h1=>
obH (zBp Tryz.prog 119 h1) fun t2_2 h3=>
(zAe Tryz.prog 119 t1_0 0).bind fun t6_4=>
(zAw Tryz.prog 3 t6_4 h3).bind fun t7_5=>
(buildV Tryz.prog 119 #[(0,t7_5)]).bind fun t8_6=>
obH (zBp Tryz.prog 119 h3) fun t3_7 h8=>
(zBc Tryz.prog 119 t3_7 t8_6 h8).bind fun h9=>
(zAe Tryz.prog 119 t1_0 1).bind fun t9_10=>
(zAw Tryz.prog 117 t9_10 h9).bind fun t10_11=>
(lenV Tryz.prog 117 t10_11 h9).bind fun t11_12=>
loopK Tryz.prog (evC Tryz.prog) c92_1 ⟨#[Aa,t1_0,t2_2,t3_7,Ae,Af,t6_4,t7_5,t8_6,t9_10,t10_11,t11_12,(Go.Value.int Go.IntKind.i64 0),Ao,Ap,Aq,Ar,As,Au,Av,Aw,Ax,Ay,Az,Ba],h9⟩ (zAu 0 (seqK Tryz.prog (evC Tryz.prog) c92_2 k)):=by kernel_rfl
theorem c92_1_eq {β:Type} (h:Heap) (k:Ex->St->Option β):zAy Tryz.prog (evC Tryz.prog) zAx c92_1 ⟨#[Aa,Ab,Ac,Ad,Ae,Af,Ag,Ah,Ai,Aj,Ak,Al,An,Ao,Ap,Aq,Ar,As,Au,Av,Aw,Ax,Ay,Az,Ba],h⟩ k =
(zBk Tryz.prog .lss 3 (.tmp 12) (.tmp 11) An Al).bind fun t13_13=>
cnd t13_13 (
(zAh Tryz.prog 117 Ak An).bind fun t14_14=>
(zAw Tryz.prog 45 t14_14 h).bind fun t15_15=>
(zAe Tryz.prog 119 Ad 1).bind fun t16_16=>
(zAw Tryz.prog 117 t16_16 h).bind fun t17_17=>
obH (evC Tryz.prog 52 #[t15_15] (nm h)) fun t19_18 h19=>
obH (zAi Tryz.prog 117 1 #[(0,t19_18)] (am h19 h)) fun t20_20 h21=>
obH (zBh Tryz.prog 117 (some 117) t17_17 t20_20 h21) fun t21_22 h23=>
(zAe Tryz.prog 119 Ad 1).bind fun t22_24=>
(zBc Tryz.prog 117 t22_24 t21_22 h23).bind fun h25=>
chk ((rb t16_16)++[]) (h19.mods++[]) (
(zBk Tryz.prog .add 3 (.tmp 12) (.const (Go.Value.int Go.IntKind.i64 1)) An (Go.Value.int Go.IntKind.i64 1)).bind fun t23_26=>
k .normal ⟨#[Aa,Ab,Ac,Ad,Ae,t15_15,Ag,Ah,Ai,Aj,Ak,Al,t23_26,t13_13,t14_14,t15_15,t16_16,t17_17,t15_15,t19_18,t20_20,t21_22,t22_24,t23_26,Ba],h25⟩)) (
k (.exit 0) ⟨#[Aa,Ab,Ac,Ad,Ae,Af,Ag,Ah,Ai,Aj,Ak,Al,An,t13_13,Ap,Aq,Ar,As,Au,Av,Aw,Ax,Ay,Az,Ba],h⟩):=by kernel_rfl
theorem c92_2_eq {β:Type} (h:Heap) (k:Ex->St->Option β):zAy Tryz.prog (evC Tryz.prog) zAx c92_2 ⟨#[Aa,Ab,Ac,Ad,Ae,Af,Ag,Ah,Ai,Aj,Ak,Al,An,Ao,Ap,Aq,Ar,As,Au,Av,Aw,Ax,Ay,Az,Ba],h⟩ k =
(zAw Tryz.prog 119 Ad h).bind fun t24_27=>
(zBc Tryz.prog 119 Ac t24_27 h).bind fun h28=>
k .ret ⟨#[Aa,Ab,Ac,Ad,Ae,Af,Ag,Ah,Ai,Aj,Ak,Al,An,Ao,Ap,Aq,Ar,As,Au,Av,Aw,Ax,Ay,Az,t24_27],h28⟩:=by kernel_rfl
theorem call92 (h:Heap):evC Tryz.prog 92 #[Aa] h=zAy Tryz.prog (evC Tryz.prog) zAx c92_0 ⟨#[Aa,undef,undef,undef,undef,undef,undef,undef,undef,undef,undef,undef,undef,undef,undef,undef,undef,undef,undef,undef,undef,undef,undef,undef,undef],nm h⟩ (zBb Tryz.f92 Tryz.prog h):=
 (zAo 92 Tryz.f92 c92_0 Tryz.func92 (by kernel_rfl) #[Aa] h).trans (by kernel_rfl)
theorem ret92 (h0 h:Heap):zBb Tryz.f92 Tryz.prog h0 .ret ⟨#[Aa,Ab,Ac,Ad,Ae,Af,Ag,Ah,Ai,Aj,Ak,Al,An,Ao,Ap,Aq,Ar,As,Au,Av,Aw,Ax,Ay,Az,Ba],h⟩=fin h0 (rvals ((zAw Tryz.prog 119 Ac h).bind fun r0=>some [r0])) h:=by kernel_rfl
end Go.Am
namespace Go.Am
open Go.Proofs
set_option maxRecDepth 100000
variable (Aa Ab Ac Ad Ae Af Ag Ah Ai Aj Ak Al An Ao Ap Aq Ar As Au Av Aw Ax Ay Az Ba Bb Bc Bd Be Bf Bg Bh Bi Bj Bk Bl Bm Bn Bo Bp Bq Br Bs Bt Bu Bv Bw Bx By Bz Ca Cb Cc Cd Ce Cf:Value)
noncomputable def c57_0:Code:=zAk Tryz.f57 []
noncomputable def c57_1:Code:=zAk Tryz.f57 [true,true,true,false,true,false,false]
noncomputable def c57_2:Code:=zAk Tryz.f57 [true,true,true,true]
theorem c57_0_eq {β:Type} (h:Heap) (k:Ex->St->Option β):zAy Tryz.prog (evC Tryz.prog) zAx c57_0 ⟨#[Aa,Ab,Ac,Ad,Ae,Af,Ag,Ah,Ai,Aj,Ak,Al,An,Ao,Ap,Aq,Ar,As,Au,Av,Aw,Ax,Ay,Az,Ba,Bb,Bc,Bd,Be,Bf,Bg,Bh,Bi,Bj,Bk,Bl,Bm,Bn,Bo,Bp,Bq,Br,Bs,Bt,Bu,Bv,Bw,Bx,By,Bz,Ca,Cb,Cc,Cd,Ce,Cf],h⟩ k =
obH (boxV Tryz.prog 119 Aa h) fun t3_0 h1=>
obH (zBp Tryz.prog 119 h1) fun t6_2 h3=>
(zAw Tryz.prog 119 t3_0 h3).bind fun t10_4=>
obH (evC Tryz.prog 92 #[t10_4] h3) fun t11_5 h6=>
obH (zBp Tryz.prog 119 h6) fun t7_7 h8=>
(zBc Tryz.prog 119 t7_7 t11_5 h8).bind fun h9=>
(zAw Tryz.prog 119 t3_0 h9).bind fun t12_10=>
obH (evC Tryz.prog 91 #[t12_10] h9) fun t13_11 h12=>
(unV Tryz.prog .not t13_11).bind fun t14_13=>
(gd (wt t14_13 false) (zBk Tryz.prog .lss 3 (.tmp 16) (.const (Go.Value.int Go.IntKind.i64 0)) (gdV (wt t14_13 false) Ab) (Go.Value.int Go.IntKind.i64 0))).bind fun t17_14=>
(zBo t14_13 (Go.Value.bool Bool.true) t17_14).bind fun t18_15=>
(gd (wt t18_15 false) (zAe Tryz.prog 119 t3_0 0)).bind fun t21_16=>
(gd (wt t18_15 false) (zAw Tryz.prog 3 t21_16 h12)).bind fun t22_17=>
(gd (wt t18_15 false) (zBk Tryz.prog .geq 3 (.tmp 20) (.tmp 22) (gdV (wt t18_15 false) Ab) t22_17)).bind fun t23_18=>
(zBo t18_15 (Go.Value.bool Bool.true) t23_18).bind fun t24_19=>
cnd t24_19 (
(zAw Tryz.prog 119 t7_7 h12).bind fun t25_20=>
(zBc Tryz.prog 119 t6_2 t25_20 h12).bind fun h21=>
k .ret ⟨#[Aa,Ab,Ac,t3_0,Ae,Af,t6_2,t7_7,Ai,Aj,t10_4,t11_5,t12_10,t13_11,t14_13,t14_13,(gdV (wt t14_13 false) Ab),t17_14,t18_15,t18_15,(gdV (wt t18_15 false) Ab),t21_16,t22_17,t23_18,t24_19,t25_20,Bc,Bd,Be,Bf,Bg,Bh,Bi,Bj,Bk,Bl,Bm,Bn,Bo,Bp,Bq,Br,Bs,Bt,Bu,Bv,Bw,Bx,By,Bz,Ca,Cb,Cc,Cd,Ce,Cf],h21⟩) (
(zAe Tryz.prog 119 t7_7 1).bind fun t26_22=>
(zAw Tryz.prog 117 t26_22 h12).bind fun t27_23=>
(zAh Tryz.prog 117 t27_23 Ab).bind fun t29_24=>
(zAw Tryz.prog 45 t29_24 h12).bind fun t30_25=>
(lenV Tryz.prog 45 t30_25 h12).bind fun t31_26=>
loopK Tryz.prog (evC Tryz.prog) c57_1 ⟨#[Aa,Ab,Ac,t3_0,Ae,Af,t6_2,t7_7,Ai,Aj,t10_4,t11_5,t12_10,t13_11,t14_13,t14_13,(gdV (wt t14_13 false) Ab),t17_14,t18_15,t18_15,(gdV (wt t18_15 false) Ab),t21_16,t22_17,t23_18,t24_19,Bb,t26_22,t27_23,Ab,t29_24,t30_25,t31_26,(Go.Value.int Go.IntKind.i64 0),Bj,Bk,Bl,Bm,Bn,Bo,Bp,Bq,Br,Bs,Bt,Bu,Bv,Bw,Bx,By,Bz,Ca,Cb,Cc,Cd,Ce,Cf],h12⟩ (zAu 0 (seqK Tryz.prog (evC Tryz.prog) c57_2 k))):=by kernel_rfl
theorem c57_1_eq {β:Type} (h:Heap) (k:Ex->St->Option β):zAy Tryz.prog (evC Tryz.prog) zAx c57_1 ⟨#[Aa,Ab,Ac,Ad,Ae,Af,Ag,Ah,Ai,Aj,Ak,Al,An,Ao,Ap,Aq,Ar,As,Au,Av,Aw,Ax,Ay,Az,Ba,Bb,Bc,Bd,Be,Bf,Bg,Bh,Bi,Bj,Bk,Bl,Bm,Bn,Bo,Bp,Bq,Br,Bs,Bt,Bu,Bv,Bw,Bx,By,Bz,Ca,Cb,Cc,Cd,Ce,Cf],h⟩ k =
(zBk Tryz.prog .lss 3 (.tmp 32) (.tmp 31) Bi Bh).bind fun t33_27=>
cnd t33_27 (
(zAh Tryz.prog 45 Bg Bi).bind fun t35_28=>
(zAw Tryz.prog 30 t35_28 h).bind fun t36_29=>
obH (evC Tryz.prog 48 #[Ac,Bi] h) fun t39_30 h31=>
(gd (wt t39_30 true) (zBk Tryz.prog .lss 30 (.tmp 41) (.const (Go.Value.int Go.IntKind.u64 18446744073709551615)) (gdV (wt t39_30 true) t36_29) (Go.Value.int Go.IntKind.u64 18446744073709551615))).bind fun t42_32=>
(zBo t39_30 t42_32 (Go.Value.bool Bool.false)).bind fun t43_33=>
cnd t43_33 (
(zAe Tryz.prog 119 Ah 1).bind fun t44_34=>
(zAw Tryz.prog 117 t44_34 h31).bind fun t45_35=>
(zAh Tryz.prog 117 t45_35 Ab).bind fun t47_36=>
(zAw Tryz.prog 45 t47_36 h31).bind fun t48_37=>
(zAh Tryz.prog 45 t48_37 Bi).bind fun t50_38=>
(zAw Tryz.prog 30 t50_38 h31).bind fun t51_39=>
(zBk Tryz.prog .add 30 (.tmp 51) (.const (Go.Value.int Go.IntKind.u64 1)) t51_39 (Go.Value.int Go.IntKind.u64 1)).bind fun t52_40=>
(zAh Tryz.prog 45 t48_37 Bi).bind fun t53_41=>
(zBc Tryz.prog 30 t53_41 t52_40 h31).bind fun h42=>
(zBk Tryz.prog .add 3 (.tmp 32) (.const (Go.Value.int Go.IntKind.i64 1)) Bi (Go.Value.int Go.IntKind.i64 1)).bind fun t54_43=>
k .normal ⟨#[Aa,Ab,Ac,Ad,Ae,Af,Ag,Ah,Bi,t36_29,Ak,Al,An,Ao,Ap,Aq,Ar,As,Au,Av,Aw,Ax,Ay,Az,Ba,Bb,Bc,Bd,Be,Bf,Bg,Bh,t54_43,t33_27,Bi,t35_28,t36_29,Ac,Bi,t39_30,t39_30,(gdV (wt t39_30 true) t36_29),t42_32,t43_33,t44_34,t45_35,Ab,t47_36,t48_37,Bi,t50_38,t51_39,t52_40,t53_41,t54_43,Cf],h42⟩) (
(zBk Tryz.prog .add 3 (.tmp 32) (.const (Go.Value.int Go.IntKind.i64 1)) Bi (Go.Value.int Go.IntKind.i64 1)).bind fun t54_44=>
k .normal ⟨#[Aa,Ab,Ac,Ad,Ae,Af,Ag,Ah,Bi,t36_29,Ak,Al,An,Ao,Ap,Aq,Ar,As,Au,Av,Aw,Ax,Ay,Az,Ba,Bb,Bc,Bd,Be,Bf,Bg,Bh,t54_44,t33_27,Bi,t35_28,t36_29,Ac,Bi,t39_30,t39_30,(gdV (wt t39_30 true) t36_29),t42_32,t43_33,Bu,Bv,Bw,Bx,By,Bz,Ca,Cb,Cc,Cd,t54_44,Cf],h31⟩)) (
k (.exit 0) ⟨#[Aa,Ab,Ac,Ad,Ae,Af,Ag,Ah,Ai,Aj,Ak,Al,An,Ao,Ap,Aq,Ar,As,Au,Av,Aw,Ax,Ay,Az,Ba,Bb,Bc,Bd,Be,Bf,Bg,Bh,Bi,t33_27,Bk,Bl,Bm,Bn,Bo,Bp,Bq,Br,Bs,Bt,Bu,Bv,Bw,Bx,By,Bz,Ca,Cb,Cc,Cd,Ce,Cf],h⟩):=by kernel_rfl
theorem c57_2_eq {β:Type} (h:Heap) (k:Ex->St->Option β):zAy Tryz.prog (evC Tryz.prog) zAx c57_2 ⟨#[Aa,Ab,Ac,Ad,Ae,Af,Ag,Ah,Ai,Aj,Ak,Al,An,Ao,Ap,Aq,Ar,As,Au,Av,Aw,Ax,Ay,Az,Ba,Bb,Bc,Bd,Be,Bf,Bg,Bh,Bi,Bj,Bk,Bl,Bm,Bn,Bo,Bp,Bq,Br,Bs,Bt,Bu,Bv,Bw,Bx,By,Bz,Ca,Cb,Cc,Cd,Ce,Cf],h⟩ k =
(zAw Tryz.prog 119 Ah h).bind fun t55_45=>
(zBc Tryz.prog 119 Ag t55_45 h).bind fun h46=>
k .ret ⟨#[Aa,Ab,Ac,Ad,Ae,Af,Ag,Ah,Ai,Aj,Ak,Al,An,Ao,Ap,Aq,Ar,As,Au,Av,Aw,Ax,Ay,Az,Ba,Bb,Bc,Bd,Be,Bf,Bg,Bh,Bi,Bj,Bk,Bl,Bm,Bn,Bo,Bp,Bq,Br,Bs,Bt,Bu,Bv,Bw,Bx,By,Bz,Ca,Cb,Cc,Cd,Ce,t55_45],h46⟩:=by kernel_rfl
theorem call57 (h:Heap):evC Tryz.prog 57 #[Aa,Ab,Ac] h=zAy Tryz.prog (evC Tryz.prog) zAx c57_0 ⟨#[Aa,Ab,Ac,undef,undef,undef,undef,undef,undef,undef,undef,undef,undef,undef,undef,undef,undef,undef,undef,undef,undef,undef,undef,undef,undef,undef,undef,undef,undef,undef,undef,undef,undef,undef,undef,undef,undef,undef,undef,undef,undef,undef,undef,undef,undef,undef,undef,undef,undef,undef,undef,undef,undef,undef,undef,undef],nm h⟩ (zBb Tryz.f57 Tryz.prog h):=
 (zAo 57 Tryz.f57 c57_0 Tryz.func57 (by kernel_rfl) #[Aa,Ab,Ac] h).trans (by kernel_rfl)
theorem ret57 (h0 h:Heap):zBb Tryz.f57 Tryz.prog h0 .ret ⟨#[Aa,Ab,Ac,Ad,Ae,Af,Ag,Ah,Ai,Aj,Ak,Al,An,Ao,Ap,Aq,Ar,As,Au,Av,Aw,Ax,Ay,Az,Ba,Bb,Bc,Bd,Be,Bf,Bg,Bh,Bi,Bj,Bk,Bl,Bm,Bn,Bo,Bp,Bq,Br,Bs,Bt,Bu,Bv,Bw,Bx,By,Bz,Ca,Cb,Cc,Cd,Ce,Cf],h⟩=fin h0 (rvals ((zAw Tryz.prog 119 Ag h).bind fun r0=>some [r0])) h:=by kernel_rfl
end Go.Am
namespace Go.Am
open Go.Proofs
set_option maxRecDepth 100000
variable (Aa Ab Ac Ad Ae Af Ag Ah Ai Aj Ak Al An Ao Ap Aq Ar As Au Av Aw Ax Ay Az Ba Bb Bc Bd Be Bf Bg Bh Bi Bj Bk Bl Bm Bn Bo Bp Bq Br Bs Bt Bu Bv Bw Bx By Bz:Value)
noncomputable def c64_0:Code:=zAk Tryz.f64 []
noncomputable def c64_1:Code:=zAk Tryz.f64 [true,true,true,false,true,false,false]
noncomputable def c64_2:Code:=zAk Tryz.f64 [true,true,true,true]
theorem c64_0_eq {β:Type} (h:Heap) (k:Ex->St->Option β):zAy Tryz.prog (evC Tryz.prog) zAx c64_0 ⟨#[Aa,Ab,Ac,Ad,Ae,Af,Ag,Ah,Ai,Aj,Ak,Al,An,Ao,Ap,Aq,Ar,As,Au,Av,Aw,Ax,Ay,Az,Ba,Bb,Bc,Bd,Be,Bf,Bg,Bh,Bi,Bj,Bk,Bl,Bm,Bn,Bo,Bp,Bq,Br,Bs,Bt,Bu,Bv,Bw,Bx,By,Bz],h⟩ k =
obH (boxV Tryz.prog 119 Aa h) fun t2_0 h1=>
obH (boxV Tryz.prog 119 Ab h1) fun t3_2 h3=>
obH (zBp Tryz.prog 119 h3) fun t4_4 h5=>
(zAw Tryz.prog 119 t2_0 h5).bind fun t9_6=>
obH (evC Tryz.prog 91 #[t9_6] h5) fun t10_7 h8=>
(unV Tryz.prog .not t10_7).bind fun t11_9=>
(gd (wt t11_9 false) (zAw Tryz.prog 119 t3_2 h8)).bind fun t13_10=>
obH (gdH (wt t11_9 false) h8 (evC Tryz.prog 91 #[t13_10] h8)) fun t14_11 h12=>
(gd (wt t11_9 false) (unV Tryz.prog .not t14_11)).bind fun t15_13=>
(zBo t11_9 (Go.Value.bool Bool.true) t15_13).bind fun t16_14=>
(gd (wt t16_14 false) (zAe Tryz.prog 119 t2_0 0)).bind fun t18_15=>
(gd (wt t16_14 false) (zAw Tryz.prog 3 t18_15 h12)).bind fun t19_16=>
(gd (wt t16_14 false) (zAe Tryz.prog 119 t3_2 0)).bind fun t20_17=>
(gd (wt t16_14 false) (zAw Tryz.prog 3 t20_17 h12)).bind fun t21_18=>
(gd (wt t16_14 false) (zBk Tryz.prog .neq 3 (.tmp 19) (.tmp 21) t19_16 t21_18)).bind fun t22_19=>
(zBo t16_14 (Go.Value.bool Bool.true) t22_19).bind fun t23_20=>
cnd t23_20 (
(buildV Tryz.prog 119 #[]).bind fun t24_21=>
(zBc Tryz.prog 119 t4_4 t24_21 h12).bind fun h22=>
k .ret ⟨#[Aa,Ab,t2_0,t3_2,t4_4,(Go.Value.int Go.IntKind.i64 1),Ag,Ah,Ai,t9_6,t10_7,t11_9,t11_9,t13_10,t14_11,t15_13,t16_14,t16_14,t18_15,t19_16,t20_17,t21_18,t22_19,t23_20,t24_21,Bb,Bc,Bd,Be,Bf,Bg,Bh,Bi,Bj,Bk,Bl,Bm,Bn,Bo,Bp,Bq,Br,Bs,Bt,Bu,Bv,Bw,Bx,By,Bz],h22⟩) (
(zAe Tryz.prog 119 t2_0 0).bind fun t25_23=>
(zAw Tryz.prog 3 t25_23 h12).bind fun t26_24=>
(buildV Tryz.prog 119 #[(0,t26_24)]).bind fun t27_25=>
obH (zBp Tryz.prog 119 h12) fun t6_26 h27=>
(zBc Tryz.prog 119 t6_26 t27_25 h27).bind fun h28=>
(zAe Tryz.prog 119 t2_0 1).bind fun t28_29=>
(zAw Tryz.prog 117 t28_29 h28).bind fun t29_30=>
(lenV Tryz.prog 117 t29_30 h28).bind fun t30_31=>
loopK Tryz.prog (evC Tryz.prog) c64_1 ⟨#[Aa,Ab,t2_0,t3_2,t4_4,(Go.Value.int Go.IntKind.i64 0),t6_26,Ah,Ai,t9_6,t10_7,t11_9,t11_9,t13_10,t14_11,t15_13,t16_14,t16_14,t18_15,t19_16,t20_17,t21_18,t22_19,t23_20,Ba,t25_23,t26_24,t27_25,t28_29,t29_30,t30_31,(Go.Value.int Go.IntKind.i64 0),Bi,Bj,Bk,Bl,Bm,Bn,Bo,Bp,Bq,Br,Bs,Bt,Bu,Bv,Bw,Bx,By,Bz],h28⟩ (zAu 0 (seqK Tryz.prog (evC Tryz.prog) c64_2 k))):=by kernel_rfl
theorem c64_1_eq {β:Type} (h:Heap) (k:Ex->St->Option β):zAy Tryz.prog (evC Tryz.prog) zAx c64_1 ⟨#[Aa,Ab,Ac,Ad,Ae,Af,Ag,Ah,Ai,Aj,Ak,Al,An,Ao,Ap,Aq,Ar,As,Au,Av,Aw,Ax,Ay,Az,Ba,Bb,Bc,Bd,Be,Bf,Bg,Bh,Bi,Bj,Bk,Bl,Bm,Bn,Bo,Bp,Bq,Br,Bs,Bt,Bu,Bv,Bw,Bx,By,Bz],h⟩ k =
(zBk Tryz.prog .lss 3 (.tmp 31) (.tmp 30) Bh Bg).bind fun t32_32=>
cnd t32_32 (
(zAh Tryz.prog 117 Bf Bh).bind fun t34_33=>
(zAw Tryz.prog 45 t34_33 h).bind fun t35_34=>
(zAe Tryz.prog 119 Ag 1).bind fun t36_35=>
(zAw Tryz.prog 117 t36_35 h).bind fun t37_36=>
(zAe Tryz.prog 119 Ad 1).bind fun t39_37=>
(zAw Tryz.prog 117 t39_37 h).bind fun t40_38=>
(zAh Tryz.prog 117 t40_38 Bh).bind fun t42_39=>
(zAw Tryz.prog 45 t42_39 h).bind fun t43_40=>
obH (evC Tryz.prog 94 #[t35_34,t43_40] (nm h)) fun t44_41 h42=>
obH (zAi Tryz.prog 117 1 #[(0,t44_41)] (am h42 h)) fun t45_43 h44=>
obH (zBh Tryz.prog 117 (some 117) t37_36 t45_43 h44) fun t46_45 h46=>
(zAe Tryz.prog 119 Ag 1).bind fun t47_47=>
(zBc Tryz.prog 117 t47_47 t46_45 h46).bind fun h48=>
chk ((rb t36_35)++[]) (h42.mods++[]) (
(zBk Tryz.prog .add 3 (.tmp 31) (.const (Go.Value.int Go.IntKind.i64 1)) Bh (Go.Value.int Go.IntKind.i64 1)).bind fun t48_49=>
k .normal ⟨#[Aa,Ab,Ac,Ad,Ae,Af,Ag,Bh,t35_34,Aj,Ak,Al,An,Ao,Ap,Aq,Ar,As,Au,Av,Aw,Ax,Ay,Az,Ba,Bb,Bc,Bd,Be,Bf,Bg,t48_49,t32_32,Bh,t34_33,t35_34,t36_35,t37_36,t35_34,t39_37,t40_38,Bh,t42_39,t43_40,t44_41,t45_43,t46_45,t47_47,t48_49,Bz],h48⟩)) (
k (.exit 0) ⟨#[Aa,Ab,Ac,Ad,Ae,Af,Ag,Ah,Ai,Aj,Ak,Al,An,Ao,Ap,Aq,Ar,As,Au,Av,Aw,Ax,Ay,Az,Ba,Bb,Bc,Bd,Be,Bf,Bg,Bh,t32_32,Bj,Bk,Bl,Bm,Bn,Bo,Bp,Bq,Br,Bs,Bt,Bu,Bv,Bw,Bx,By,Bz],h⟩):=by kernel_rfl
theorem c64_2_eq {β:Type} (h:Heap) (k:Ex->St->Option β):zAy Tryz.prog (evC Tryz.prog) zAx c64_2 ⟨#[Aa,Ab,Ac,Ad,Ae,Af,Ag,Ah,Ai,Aj,Ak,Al,An,Ao,Ap,Aq,Ar,As,Au,Av,Aw,Ax,Ay,Az,Ba,Bb,Bc,Bd,Be,Bf,Bg,Bh,Bi,Bj,Bk,Bl,Bm,Bn,Bo,Bp,Bq,Br,Bs,Bt,Bu,Bv,Bw,Bx,By,Bz],h⟩ k =
(zAw Tryz.prog 119 Ag h).bind fun t49_50=>
(zBc Tryz.prog 119 Ae t49_50 h).bind fun h51=>
k .ret ⟨#[Aa,Ab,Ac,Ad,Ae,(Go.Value.int Go.IntKind.i64 0),Ag,Ah,Ai,Aj,Ak,Al,An,Ao,Ap,Aq,Ar,As,Au,Av,Aw,Ax,Ay,Az,Ba,Bb,Bc,Bd,Be,Bf,Bg,Bh,Bi,Bj,Bk,Bl,Bm,Bn,Bo,Bp,Bq,Br,Bs,Bt,Bu,Bv,Bw,Bx,By,t49_50],h51⟩:=by kernel_rfl
theorem call64 (h:Heap):evC Tryz.prog 64 #[Aa,Ab] h=zAy Tryz.prog (evC Tryz.prog) zAx c64_0 ⟨#[Aa,Ab,undef,undef,undef,undef,undef,undef,undef,undef,undef,undef,undef,undef,undef,undef,undef,undef,undef,undef,undef,undef,undef,undef,undef,undef,undef,undef,undef,undef,undef,undef,undef,undef,undef,undef,undef,undef,undef,undef,undef,undef,undef,undef,undef,undef,undef,undef,undef,undef],nm h⟩ (zBb Tryz.f64 Tryz.prog h):=
 (zAo 64 Tryz.f64 c64_0 Tryz.func64 (by kernel_rfl) #[Aa,Ab] h).trans (by kernel_rfl)
theorem ret64 (h0 h:Heap):zBb Tryz.f64 Tryz.prog h0 .ret ⟨#[Aa,Ab,Ac,Ad,Ae,Af,Ag,Ah,Ai,Aj,Ak,Al,An,Ao,Ap,Aq,Ar,As,Au,Av,Aw,Ax,Ay,Az,Ba,Bb,Bc,Bd,Be,Bf,Bg,Bh,Bi,Bj,Bk,Bl,Bm,Bn,Bo,Bp,Bq,Br,Bs,Bt,Bu,Bv,Bw,Bx,By,Bz],h⟩=fin h0 (rvals ((zAw Tryz.prog 119 Ae h).bind fun r0=>some [r0,Af])) h:=by kernel_rfl
end Go.Am
namespace Go.Am
open Go.Proofs
set_option maxRecDepth 100000
variable (Aa Ab Ac Ad Ae Af Ag Ah Ai Aj Ak Al An Ao Ap Aq Ar As Au Av Aw Ax Ay Az Ba Bb Bc Bd Be Bf Bg Bh Bi Bj Bk Bl Bm:Value)
noncomputable def c62_0:Code:=zAk Tryz.f62 []
noncomputable def c62_1:Code:=zAk Tryz.f62 [true,true,true,false,true,false,false]
noncomputable def c62_2:Code:=zAk Tryz.f62 [true,true,true,true]
theorem c62_0_eq {β:Type} (h:Heap) (k:Ex->St->Option β):zAy Tryz.prog (evC Tryz.prog) zAx c62_0 ⟨#[Aa,Ab,Ac,Ad,Ae,Af,Ag,Ah,Ai,Aj,Ak,Al,An,Ao,Ap,Aq,Ar,As,Au,Av,Aw,Ax,Ay,Az,Ba,Bb,Bc,Bd,Be,Bf,Bg,Bh,Bi,Bj,Bk,Bl,Bm],h⟩ k =
obH (boxV Tryz.prog 119 Aa h) fun t2_0 h1=>
(zAw Tryz.prog 119 t2_0 h1).bind fun t8_2=>
obH (evC Tryz.prog 91 #[t8_2] h1) fun t9_3 h4=>
(unV Tryz.prog .not t9_3).bind fun t10_5=>
(gd (wt t10_5 false) (zBk Tryz.prog .lss 3 (.tmp 12) (.const (Go.Value.int Go.IntKind.i64 0)) (gdV (wt t10_5 false) Ab) (Go.Value.int Go.IntKind.i64 0))).bind fun t13_6=>
(zBo t10_5 (Go.Value.bool Bool.true) t13_6).bind fun t14_7=>
(gd (wt t14_7 false) (zAe Tryz.prog 119 t2_0 0)).bind fun t17_8=>
(gd (wt t14_7 false) (zAw Tryz.prog 3 t17_8 h4)).bind fun t18_9=>
(gd (wt t14_7 false) (zBk Tryz.prog .geq 3 (.tmp 16) (.tmp 18) (gdV (wt t14_7 false) Ab) t18_9)).bind fun t19_10=>
(zBo t14_7 (Go.Value.bool Bool.true) t19_10).bind fun t20_11=>
cnd t20_11 (
k .ret ⟨#[Aa,Ab,t2_0,Ad,(Go.Value.slice Option.none 0 0),Af,Ag,Ah,t8_2,t9_3,t10_5,t10_5,(gdV (wt t10_5 false) Ab),t13_6,t14_7,t14_7,(gdV (wt t14_7 false) Ab),t17_8,t18_9,t19_10,t20_11,Ax,Ay,Az,Ba,Bb,Bc,Bd,Be,Bf,Bg,Bh,Bi,Bj,Bk,Bl,Bm],h4⟩) (
(zAe Tryz.prog 119 t2_0 1).bind fun t21_12=>
(zAw Tryz.prog 117 t21_12 h4).bind fun t22_13=>
(lenV Tryz.prog 117 t22_13 h4).bind fun t23_14=>
loopK Tryz.prog (evC Tryz.prog) c62_1 ⟨#[Aa,Ab,t2_0,Ad,(Go.Value.slice Option.none 0 0),(Go.Value.slice Option.none 0 0),Ag,Ah,t8_2,t9_3,t10_5,t10_5,(gdV (wt t10_5 false) Ab),t13_6,t14_7,t14_7,(gdV (wt t14_7 false) Ab),t17_8,t18_9,t19_10,t20_11,t21_12,t22_13,t23_14,(Go.Value.int Go.IntKind.i64 0),Bb,Bc,Bd,Be,Bf,Bg,Bh,Bi,Bj,Bk,Bl,Bm],h4⟩ (zAu 0 (seqK Tryz.prog (evC Tryz.prog) c62_2 k))):=by kernel_rfl
theorem c62_1_eq {β:Type} (h:Heap) (k:Ex->St->Option β):zAy Tryz.prog (evC Tryz.prog) zAx c62_1 ⟨#[Aa,Ab,Ac,Ad,Ae,Af,Ag,Ah,Ai,Aj,Ak,Al,An,Ao,Ap,Aq,Ar,As,Au,Av,Aw,Ax,Ay,Az,Ba,Bb,Bc,Bd,Be,Bf,Bg,Bh,Bi,Bj,Bk,Bl,Bm],h⟩ k =
(zBk Tryz.prog .lss 3 (.tmp 24) (.tmp 23) Ba Az).bind fun t25_15=>
cnd t25_15 (
(zAh Tryz.prog 117 Ay Ba).bind fun t26_16=>
(zAw Tryz.prog 45 t26_16 h).bind fun t27_17=>
(zAh Tryz.prog 45 t27_17 Ab).bind fun t31_18=>
(zAw Tryz.prog 30 t31_18 h).bind fun t32_19=>
obH (zAi Tryz.prog 45 1 #[(0,t32_19)] h) fun t33_20 h21=>
obH (zBh Tryz.prog 45 (some 45) Af t33_20 h21) fun t34_22 h23=>
(zBk Tryz.prog .add 3 (.tmp 24) (.const (Go.Value.int Go.IntKind.i64 1)) Ba (Go.Value.int Go.IntKind.i64 1)).bind fun t35_24=>
k .normal ⟨#[Aa,Ab,Ac,Ad,Ae,t34_22,Ag,t27_17,Ai,Aj,Ak,Al,An,Ao,Ap,Aq,Ar,As,Au,Av,Aw,Ax,Ay,Az,t35_24,t25_15,t26_16,t27_17,Af,t27_17,Ab,t31_18,t32_19,t33_20,t34_22,t35_24,Bm],h23⟩) (
k (.exit 0) ⟨#[Aa,Ab,Ac,Ad,Ae,Af,Ag,Ah,Ai,Aj,Ak,Al,An,Ao,Ap,Aq,Ar,As,Au,Av,Aw,Ax,Ay,Az,Ba,t25_15,Bc,Bd,Be,Bf,Bg,Bh,Bi,Bj,Bk,Bl,Bm],h⟩):=by kernel_rfl
theorem c62_2_eq {β:Type} (h:Heap) (k:Ex->St->Option β):zAy Tryz.prog (evC Tryz.prog) zAx c62_2 ⟨#[Aa,Ab,Ac,Ad,Ae,Af,Ag,Ah,Ai,Aj,Ak,Al,An,Ao,Ap,Aq,Ar,As,Au,Av,Aw,Ax,Ay,Az,Ba,Bb,Bc,Bd,Be,Bf,Bg,Bh,Bi,Bj,Bk,Bl,Bm],h⟩ k =
k .ret ⟨#[Aa,Ab,Ac,Ad,Af,Af,Ag,Ah,Ai,Aj,Ak,Al,An,Ao,Ap,Aq,Ar,As,Au,Av,Aw,Ax,Ay,Az,Ba,Bb,Bc,Bd,Be,Bf,Bg,Bh,Bi,Bj,Bk,Bl,Af],h⟩:=by kernel_rfl
theorem call62 (h:Heap):evC Tryz.prog 62 #[Aa,Ab] h=zAy Tryz.prog (evC Tryz.prog) zAx c62_0 ⟨#[Aa,Ab,undef,undef,undef,undef,undef,undef,undef,undef,undef,undef,undef,undef,undef,undef,undef,undef,undef,undef,undef,undef,undef,undef,undef,undef,undef,undef,undef,undef,undef,undef,undef,undef,undef,undef,undef],nm h⟩ (zBb Tryz.f62 Tryz.prog h):=
 (zAo 62 Tryz.f62 c62_0 Tryz.func62 (by kernel_rfl) #[Aa,Ab] h).trans (by kernel_rfl)
theorem ret62 (h0 h:Heap):zBb Tryz.f62 Tryz.prog h0 .ret ⟨#[Aa,Ab,Ac,Ad,Ae,Af,Ag,Ah,Ai,Aj,Ak,Al,An,Ao,Ap,Aq,Ar,As,Au,Av,Aw,Ax,Ay,Az,Ba,Bb,Bc,Bd,Be,Bf,Bg,Bh,Bi,Bj,Bk,Bl,Bm],h⟩=fin h0 (some Ae) h:=by kernel_rfl
end Go.Am
namespace Go.Am
open Go.Proofs
set_option maxRecDepth 100000
variable (Aa Ab Ac Ad Ae Af Ag Ah Ai Aj Ak Al An Ao Ap Aq Ar As Au Av Aw Ax Ay Az Ba Bb Bc Bd Be Bf Bg Bh:Value)
noncomputable def c56_0:Code:=zAk Tryz.f56 []
noncomputable def c56_1:Code:=zAk Tryz.f56 [true,true,true,false,true,false,false]
noncomputable def c56_2:Code:=zAk Tryz.f56 [true,true,true,true]
noncomputable def c56_3:Code:=zAk Tryz.f56 [true,true,true,false,true,false,false,true,true,false,false,true,true,false,false]
noncomputable def c56_4:Code:=zAk Tryz.f56 [true,true,true,false,true,false,false,true,true,true]
theorem c56_0_eq {β:Type} (h:Heap) (k:Ex->St->Option β):zAy Tryz.prog (evC Tryz.prog) zAx c56_0 ⟨#[Aa,Ab,Ac,Ad,Ae,Af,Ag,Ah,Ai,Aj,Ak,Al,An,Ao,Ap,Aq,Ar,As,Au,Av,Aw,Ax,Ay,Az,Ba,Bb,Bc,Bd,Be,Bf,Bg,Bh],h⟩ k =
obH (boxV Tryz.prog 119 Aa h) fun t1_0 h1=>
(zAw Tryz.prog 119 t1_0 h1).bind fun t8_2=>
obH (evC Tryz.prog 91 #[t8_2] h1) fun t9_3 h4=>
(unV Tryz.prog .not t9_3).bind fun t10_5=>
cnd t10_5 (
k .ret ⟨#[Aa,t1_0,(Go.Value.slice Option.none 0 0),Ad,Ae,Af,Ag,Ah,t8_2,t9_3,t10_5,Al,An,Ao,Ap,Aq,Ar,As,Au,Av,Aw,Ax,Ay,Az,Ba,Bb,Bc,Bd,Be,Bf,Bg,Bh],h4⟩) (
obH (evC Tryz.prog 71 #[] h4) fun t11_6 h7=>
(zAe Tryz.prog 119 t1_0 1).bind fun t12_8=>
(zAw Tryz.prog 117 t12_8 h7).bind fun t13_9=>
(lenV Tryz.prog 117 t13_9 h7).bind fun t14_10=>
loopK Tryz.prog (evC Tryz.prog) c56_1 ⟨#[Aa,t1_0,(Go.Value.slice Option.none 0 0),t11_6,Ae,Af,Ag,Ah,t8_2,t9_3,t10_5,t11_6,t12_8,t13_9,t14_10,(Go.Value.int Go.IntKind.i64 0),Ar,As,Au,Av,Aw,Ax,Ay,Az,Ba,Bb,Bc,Bd,Be,Bf,Bg,Bh],h7⟩ (zAu 0 (seqK Tryz.prog (evC Tryz.prog) c56_2 k))):=by kernel_rfl
theorem c56_1_eq {β:Type} (h:Heap) (k:Ex->St->Option β):zAy Tryz.prog (evC Tryz.prog) zAx c56_1 ⟨#[Aa,Ab,Ac,Ad,Ae,Af,Ag,Ah,Ai,Aj,Ak,Al,An,Ao,Ap,Aq,Ar,As,Au,Av,Aw,Ax,Ay,Az,Ba,Bb,Bc,Bd,Be,Bf,Bg,Bh],h⟩ k =
(zBk Tryz.prog .lss 3 (.tmp 15) (.tmp 14) Aq Ap).bind fun t16_11=>
cnd t16_11 (
(zAh Tryz.prog 117 Ao Aq).bind fun t17_12=>
(zAw Tryz.prog 45 t17_12 h).bind fun t18_13=>
(lenV Tryz.prog 45 t18_13 h).bind fun t20_14=>
loopK Tryz.prog (evC Tryz.prog) c56_3 ⟨#[Aa,Ab,Ac,Ad,Ae,t18_13,Ag,Ah,Ai,Aj,Ak,Al,An,Ao,Ap,Aq,t16_11,t17_12,t18_13,t18_13,t20_14,(Go.Value.int Go.IntKind.i64 0),Ay,Az,Ba,Bb,Bc,Bd,Be,Bf,Bg,Bh],h⟩ (zAu 2 (zAu 1 (seqK Tryz.prog (evC Tryz.prog) c56_4 k)))) (
k (.exit 0) ⟨#[Aa,Ab,Ac,Ad,Ae,Af,Ag,Ah,Ai,Aj,Ak,Al,An,Ao,Ap,Aq,t16_11,As,Au,Av,Aw,Ax,Ay,Az,Ba,Bb,Bc,Bd,Be,Bf,Bg,Bh],h⟩):=by kernel_rfl
theorem c56_2_eq {β:Type} (h:Heap) (k:Ex->St->Option β):zAy Tryz.prog (evC Tryz.prog) zAx c56_2 ⟨#[Aa,Ab,Ac,Ad,Ae,Af,Ag,Ah,Ai,Aj,Ak,Al,An,Ao,Ap,Aq,Ar,As,Au,Av,Aw,Ax,Ay,Az,Ba,Bb,Bc,Bd,Be,Bf,Bg,Bh],h⟩ k =
obH (evC Tryz.prog 74 #[Ad] h) fun t31_15 h16=>
k .ret ⟨#[Aa,Ab,t31_15,Ad,Ae,Af,Ag,Ah,Ai,Aj,Ak,Al,An,Ao,Ap,Aq,Ar,As,Au,Av,Aw,Ax,Ay,Az,Ba,Bb,Bc,Bd,Be,Bf,Ad,t31_15],h16⟩:=by kernel_rfl
theorem c56_3_eq {β:Type} (h:Heap) (k:Ex->St->Option β):zAy Tryz.prog (evC Tryz.prog) zAx c56_3 ⟨#[Aa,Ab,Ac,Ad,Ae,Af,Ag,Ah,Ai,Aj,Ak,Al,An,Ao,Ap,Aq,Ar,As,Au,Av,Aw,Ax,Ay,Az,Ba,Bb,Bc,Bd,Be,Bf,Bg,Bh],h⟩ k =
(zBk Tryz.prog .lss 3 (.tmp 21) (.tmp 20) Ax Aw).bind fun t22_17=>
cnd t22_17 (
(zAh Tryz.prog 45 Av Ax).bind fun t23_18=>
(zAw Tryz.prog 30 t23_18 h).bind fun t24_19=>
obH (evC Tryz.prog 72 #[Ad,t24_19] h) fun t27_20 h21=>
(zBk Tryz.prog .add 3 (.tmp 21) (.const (Go.Value.int Go.IntKind.i64 1)) Ax (Go.Value.int Go.IntKind.i64 1)).bind fun t28_22=>
k .normal ⟨#[Aa,Ab,Ac,Ad,Ae,Af,Ag,t24_19,Ai,Aj,Ak,Al,An,Ao,Ap,Aq,Ar,As,Au,Av,Aw,t28_22,t22_17,t23_18,t24_19,Ad,t24_19,t27_20,t28_22,Bf,Bg,Bh],h21⟩) (
k (.exit 2) ⟨#[Aa,Ab,Ac,Ad,Ae,Af,Ag,Ah,Ai,Aj,Ak,Al,An,Ao,Ap,Aq,Ar,As,Au,Av,Aw,Ax,t22_17,Az,Ba,Bb,Bc,Bd,Be,Bf,Bg,Bh],h⟩):=by kernel_rfl
theorem c56_4_eq {β:Type} (h:Heap) (k:Ex->St->Option β):zAy Tryz.prog (evC Tryz.prog) zAx c56_4 ⟨#[Aa,Ab,Ac,Ad,Ae,Af,Ag,Ah,Ai,Aj,Ak,Al,An,Ao,Ap,Aq,Ar,As,Au,Av,Aw,Ax,Ay,Az,Ba,Bb,Bc,Bd,Be,Bf,Bg,Bh],h⟩ k =
(zBk Tryz.prog .add 3 (.tmp 15) (.const (Go.Value.int Go.IntKind.i64 1)) Aq (Go.Value.int Go.IntKind.i64 1)).bind fun t29_23=>
k .normal ⟨#[Aa,Ab,Ac,Ad,Ae,Af,Ag,Ah,Ai,Aj,Ak,Al,An,Ao,Ap,t29_23,Ar,As,Au,Av,Aw,Ax,Ay,Az,Ba,Bb,Bc,Bd,Be,t29_23,Bg,Bh],h⟩:=by kernel_rfl
theorem call56 (h:Heap):evC Tryz.prog 56 #[Aa] h=zAy Tryz.prog (evC Tryz.prog) zAx c56_0 ⟨#[Aa,undef,undef,undef,undef,undef,undef,undef,undef,undef,undef,undef,undef,undef,undef,undef,undef,undef,undef,undef,undef,undef,undef,undef,undef,undef,undef,undef,undef,undef,undef,undef],nm h⟩ (zBb Tryz.f56 Tryz.prog h):=
 (zAo 56 Tryz.f56 c56_0 Tryz.func56 (by kernel_rfl) #[Aa] h).trans (by kernel_rfl)
theorem ret56 (h0 h:Heap):zBb Tryz.f56 Tryz.prog h0 .ret ⟨#[Aa,Ab,Ac,Ad,Ae,Af,Ag,Ah,Ai,Aj,Ak,Al,An,Ao,Ap,Aq,Ar,As,Au,Av,Aw,Ax,Ay,Az,Ba,Bb,Bc,Bd,Be,Bf,Bg,Bh],h⟩=fin h0 (some Ac) h:=by kernel_rfl
end Go.Am
namespace Go.Am
open Go.Proofs
set_option maxRecDepth 100000
variable (Aa Ab Ac Ad Ae Af Ag Ah Ai Aj Ak Al An Ao Ap Aq Ar As Au Av Aw Ax Ay Az Ba Bb Bc Bd Be Bf Bg Bh Bi Bj Bk Bl Bm Bn Bo Bp Bq Br Bs Bt Bu Bv:Value)
noncomputable def c61_0:Code:=zAk Tryz.f61 []
noncomputable def c61_1:Code:=zAk Tryz.f61 [true,true,true,true,false,true,false,false]
noncomputable def c61_2:Code:=zAk Tryz.f61 [true,true,true,true,true]
noncomputable def c61_3:Code:=zAk Tryz.f61 [true,true,true,true,false,true,false,false,true,true,false,false,true,true,false,false]
noncomputable def c61_4:Code:=zAk Tryz.f61 [true,true,true,true,false,true,false,false,true,true,true]
theorem c61_0_eq {β:Type} (h:Heap) (k:Ex->St->Option β):zAy Tryz.prog (evC Tryz.prog) zAx c61_0 ⟨#[Aa,Ab,Ac,Ad,Ae,Af,Ag,Ah,Ai,Aj,Ak,Al,An,Ao,Ap,Aq,Ar,As,Au,Av,Aw,Ax,Ay,Az,Ba,Bb,Bc,Bd,Be,Bf,Bg,Bh,Bi,Bj,Bk,Bl,Bm,Bn,Bo,Bp,Bq,Br,Bs,Bt,Bu,Bv],h⟩ k =
obH (zBp Tryz.prog 119 h) fun t4_0 h1=>
obH (evC Tryz.prog 54 #[Aa] h1) fun t14_2 h3=>
(zBf t14_2 0).bind fun t15_4=>
(zBf t14_2 1).bind fun t16_5=>
obH (zBp Tryz.prog 119 h3) fun t6_6 h7=>
(zBc Tryz.prog 119 t6_6 t15_4 h7).bind fun h8=>
(zBk Tryz.prog .neq 25 (.tmp 17) (.const (Go.Value.int Go.IntKind.i64 0)) t16_5 (Go.Value.int Go.IntKind.i64 0)).bind fun t18_9=>
cnd t18_9 (
(buildV Tryz.prog 119 #[]).bind fun t19_10=>
(zBc Tryz.prog 119 t4_0 t19_10 h8).bind fun h11=>
k .ret ⟨#[Aa,Ab,Ac,Ad,t4_0,(Go.Value.bool Bool.false),t6_6,t16_5,Ai,Aj,Ak,Al,t14_2,Aa,t14_2,t15_4,t16_5,t16_5,t18_9,t19_10,Aw,Ax,Ay,Az,Ba,Bb,Bc,Bd,Be,Bf,Bg,Bh,Bi,Bj,Bk,Bl,Bm,Bn,Bo,Bp,Bq,Br,Bs,Bt,Bu,Bv],h11⟩) (
obH (evC Tryz.prog 65 #[Ab] h8) fun t21_12 h13=>
(zAe Tryz.prog 119 t6_6 1).bind fun t22_14=>
(zAw Tryz.prog 117 t22_14 h13).bind fun t23_15=>
(lenV Tryz.prog 117 t23_15 h13).bind fun t24_16=>
loopK Tryz.prog (evC Tryz.prog) c61_1 ⟨#[Aa,Ab,Ac,Ad,t4_0,(Go.Value.bool Bool.false),t6_6,t16_5,t21_12,Aj,Ak,Al,t14_2,Aa,t14_2,t15_4,t16_5,t16_5,t18_9,Av,Ab,t21_12,t22_14,t23_15,t24_16,(Go.Value.int Go.IntKind.i64 0),Bc,Bd,Be,Bf,Bg,Bh,Bi,Bj,Bk,Bl,Bm,Bn,Bo,Bp,Bq,Br,Bs,Bt,Bu,Bv],h13⟩ (zAu 0 (seqK Tryz.prog (evC Tryz.prog) c61_2 k))):=by kernel_rfl
theorem c61_1_eq {β:Type} (h:Heap) (k:Ex->St->Option β):zAy Tryz.prog (evC Tryz.prog) zAx c61_1 ⟨#[Aa,Ab,Ac,Ad,Ae,Af,Ag,Ah,Ai,Aj,Ak,Al,An,Ao,Ap,Aq,Ar,As,Au,Av,Aw,Ax,Ay,Az,Ba,Bb,Bc,Bd,Be,Bf,Bg,Bh,Bi,Bj,Bk,Bl,Bm,Bn,Bo,Bp,Bq,Br,Bs,Bt,Bu,Bv],h⟩ k =
(zBk Tryz.prog .lss 3 (.tmp 25) (.tmp 24) Bb Ba).bind fun t26_17=>
cnd t26_17 (
(zAh Tryz.prog 117 Az Bb).bind fun t27_18=>
(zAw Tryz.prog 45 t27_18 h).bind fun t28_19=>
(lenV Tryz.prog 45 t28_19 h).bind fun t30_20=>
loopK Tryz.prog (evC Tryz.prog) c61_3 ⟨#[Aa,Ab,Ac,Ad,Ae,Af,Ag,Ah,Ai,Aj,t28_19,Al,An,Ao,Ap,Aq,Ar,As,Au,Av,Aw,Ax,Ay,Az,Ba,Bb,t26_17,t27_18,t28_19,t28_19,t30_20,(Go.Value.int Go.IntKind.i64 0),Bi,Bj,Bk,Bl,Bm,Bn,Bo,Bp,Bq,Br,Bs,Bt,Bu,Bv],h⟩ (zAu 2 (zAu 1 (seqK Tryz.prog (evC Tryz.prog) c61_4 k)))) (
k (.exit 0) ⟨#[Aa,Ab,Ac,Ad,Ae,Af,Ag,Ah,Ai,Aj,Ak,Al,An,Ao,Ap,Aq,Ar,As,Au,Av,Aw,Ax,Ay,Az,Ba,Bb,t26_17,Bd,Be,Bf,Bg,Bh,Bi,Bj,Bk,Bl,Bm,Bn,Bo,Bp,Bq,Br,Bs,Bt,Bu,Bv],h⟩):=by kernel_rfl
theorem c61_2_eq {β:Type} (h:Heap) (k:Ex->St->Option β):zAy Tryz.prog (evC Tryz.prog) zAx c61_2 ⟨#[Aa,Ab,Ac,Ad,Ae,Af,Ag,Ah,Ai,Aj,Ak,Al,An,Ao,Ap,Aq,Ar,As,Au,Av,Aw,Ax,Ay,Az,Ba,Bb,Bc,Bd,Be,Bf,Bg,Bh,Bi,Bj,Bk,Bl,Bm,Bn,Bo,Bp,Bq,Br,Bs,Bt,Bu,Bv],h⟩ k =
obH (evC Tryz.prog 68 #[Ai] h) fun t42_21 h22=>
(unV Tryz.prog .not t42_21).bind fun t43_23=>
cnd t43_23 (
(buildV Tryz.prog 119 #[]).bind fun t44_24=>
(zBc Tryz.prog 119 Ae t44_24 h22).bind fun h25=>
k .ret ⟨#[Aa,Ab,Ac,Ad,Ae,(Go.Value.bool Bool.false),Ag,Ah,Ai,Aj,Ak,Al,An,Ao,Ap,Aq,Ar,As,Au,Av,Aw,Ax,Ay,Az,Ba,Bb,Bc,Bd,Be,Bf,Bg,Bh,Bi,Bj,Bk,Bl,Bm,Bn,Bo,Bp,Bq,Ai,t42_21,t43_23,t44_24,Bv],h25⟩) (
(zAw Tryz.prog 119 Ag h22).bind fun t45_26=>
(zBc Tryz.prog 119 Ae t45_26 h22).bind fun h27=>
k .ret ⟨#[Aa,Ab,Ac,Ad,Ae,(Go.Value.bool Bool.true),Ag,Ah,Ai,Aj,Ak,Al,An,Ao,Ap,Aq,Ar,As,Au,Av,Aw,Ax,Ay,Az,Ba,Bb,Bc,Bd,Be,Bf,Bg,Bh,Bi,Bj,Bk,Bl,Bm,Bn,Bo,Bp,Bq,Ai,t42_21,t43_23,Bu,t45_26],h27⟩):=by kernel_rfl
theorem c61_3_eq {β:Type} (h:Heap) (k:Ex->St->Option β):zAy Tryz.prog (evC Tryz.prog) zAx c61_3 ⟨#[Aa,Ab,Ac,Ad,Ae,Af,Ag,Ah,Ai,Aj,Ak,Al,An,Ao,Ap,Aq,Ar,As,Au,Av,Aw,Ax,Ay,Az,Ba,Bb,Bc,Bd,Be,Bf,Bg,Bh,Bi,Bj,Bk,Bl,Bm,Bn,Bo,Bp,Bq,Br,Bs,Bt,Bu,Bv],h⟩ k =
(zBk Tryz.prog .lss 3 (.tmp 31) (.tmp 30) Bh Bg).bind fun t32_28=>
cnd t32_28 (
obH (evC Tryz.prog 66 #[Ai,(Go.Value.int Go.IntKind.u64 18446744073709551615)] h) fun t37_29 h30=>
(zAh Tryz.prog 45 Ak Bh).bind fun t38_31=>
(zBc Tryz.prog 30 t38_31 t37_29 h30).bind fun h32=>
(zBk Tryz.prog .add 3 (.tmp 31) (.const (Go.Value.int Go.IntKind.i64 1)) Bh (Go.Value.int Go.IntKind.i64 1)).bind fun t39_33=>
k .normal ⟨#[Aa,Ab,Ac,Ad,Ae,Af,Ag,Ah,Ai,Aj,Ak,Bh,An,Ao,Ap,Aq,Ar,As,Au,Av,Aw,Ax,Ay,Az,Ba,Bb,Bc,Bd,Be,Bf,Bg,t39_33,t32_28,Bh,Ak,Bh,Ai,t37_29,t38_31,t39_33,Bq,Br,Bs,Bt,Bu,Bv],h32⟩) (
k (.exit 2) ⟨#[Aa,Ab,Ac,Ad,Ae,Af,Ag,Ah,Ai,Aj,Ak,Al,An,Ao,Ap,Aq,Ar,As,Au,Av,Aw,Ax,Ay,Az,Ba,Bb,Bc,Bd,Be,Bf,Bg,Bh,t32_28,Bj,Bk,Bl,Bm,Bn,Bo,Bp,Bq,Br,Bs,Bt,Bu,Bv],h⟩):=by kernel_rfl
theorem c61_4_eq {β:Type} (h:Heap) (k:Ex->St->Option β):zAy Tryz.prog (evC Tryz.prog) zAx c61_4 ⟨#[Aa,Ab,Ac,Ad,Ae,Af,Ag,Ah,Ai,Aj,Ak,Al,An,Ao,Ap,Aq,Ar,As,Au,Av,Aw,Ax,Ay,Az,Ba,Bb,Bc,Bd,Be,Bf,Bg,Bh,Bi,Bj,Bk,Bl,Bm,Bn,Bo,Bp,Bq,Br,Bs,Bt,Bu,Bv],h⟩ k =
(zBk Tryz.prog .add 3 (.tmp 25) (.const (Go.Value.int Go.IntKind.i64 1)) Bb (Go.Value.int Go.IntKind.i64 1)).bind fun t40_34=>
k .normal ⟨#[Aa,Ab,Ac,Ad,Ae,Af,Ag,Ah,Ai,Aj,Ak,Al,An,Ao,Ap,Aq,Ar,As,Au,Av,Aw,Ax,Ay,Az,Ba,t40_34,Bc,Bd,Be,Bf,Bg,Bh,Bi,Bj,Bk,Bl,Bm,Bn,Bo,Bp,t40_34,Br,Bs,Bt,Bu,Bv],h⟩:=by kernel_rfl
theorem call61 (h:Heap):evC Tryz.prog 61 #[Aa,Ab] h=zAy Tryz.prog (evC Tryz.prog) zAx c61_0 ⟨#[Aa,Ab,undef,undef,undef,undef,undef,undef,undef,undef,undef,undef,undef,undef,undef,undef,undef,undef,undef,undef,undef,undef,undef,undef,undef,undef,undef,undef,undef,undef,undef,undef,undef,undef,undef,undef,undef,undef,undef,undef,undef,undef,undef,undef,undef,undef],nm h⟩ (zBb Tryz.f61 Tryz.prog h):=
 (zAo 61 Tryz.f61 c61_0 Tryz.func61 (by kernel_rfl) #[Aa,Ab] h).trans (by kernel_rfl)
theorem ret61 (h0 h:Heap):zBb Tryz.f61 Tryz.prog h0 .ret ⟨#[Aa,Ab,Ac,Ad,Ae,Af,Ag,Ah,Ai,Aj,Ak,Al,An,Ao,Ap,Aq,Ar,As,Au,Av,Aw,Ax,Ay,Az,Ba,Bb,Bc,Bd,Be,Bf,Bg,Bh,Bi,Bj,Bk,Bl,Bm,Bn,Bo,Bp,Bq,Br,Bs,Bt,Bu,Bv],h⟩=fin h0 (rvals ((zAw Tryz.prog 119 Ae h).bind fun r0=>some [r0,Af])) h:=by kernel_rfl
end Go.Am
namespace Go.Am
open Go.Proofs
set_option maxRecDepth 100000
variable (Aa Ab Ac Ad Ae:Value)
noncomputable def c55_0:Code:=zAk Tryz.f55 []
theorem c55_0_eq {β:Type} (h:Heap) (k:Ex->St->Option β):zAy Tryz.prog (evC Tryz.prog) zAx c55_0 ⟨#[Aa,Ab,Ac,Ad,Ae],h⟩ k =
obH (evC Tryz.prog 90 #[Aa] h) fun t4_0 h1=>
k .ret ⟨#[Aa,Ab,t4_0,Aa,t4_0],h1⟩:=by kernel_rfl
theorem call55 (h:Heap):evC Tryz.prog 55 #[Aa] h=zAy Tryz.prog (evC Tryz.prog) zAx c55_0 ⟨#[Aa,undef,undef,undef,undef],nm h⟩ (zBb Tryz.f55 Tryz.prog h):=
 (zAo 55 Tryz.f55 c55_0 Tryz.func55 (by kernel_rfl) #[Aa] h).trans (by kernel_rfl)
theorem ret55 (h0 h:Heap):zBb Tryz.f55 Tryz.prog h0 .ret ⟨#[Aa,Ab,Ac,Ad,Ae],h⟩=fin h0 (some Ac) h:=by kernel_rfl
end Go.Am
namespace Go.Am
open Go.Proofs
set_option maxRecDepth 100000
variable (Aa Ab Ac Ad Ae Af Ag Ah Ai Aj Ak Al An Ao Ap Aq Ar As Au Av Aw Ax Ay Az Ba Bb Bc Bd Be Bf Bg Bh Bi Bj Bk:Value)
noncomputable def c90_0:Code:=zAk Tryz.f90 []
theorem c90_0_eq {β:Type} (h:Heap) (k:Ex->St->Option β):zAy Tryz.prog (evC Tryz.prog) zAx c90_0 ⟨#[Aa,Ab,Ac,Ad,Ae,Af,Ag,Ah,Ai,Aj,Ak,Al,An,Ao,Ap,Aq,Ar,As,Au,Av,Aw,Ax,Ay,Az,Ba,Bb,Bc,Bd,Be,Bf,Bg,Bh,Bi,Bj,Bk],h⟩ k =
(zBk Tryz.prog .shr 30 (.tmp 3) (.const (Go.Value.int Go.IntKind.u64 1)) Aa (Go.Value.int Go.IntKind.u64 1)).bind fun t4_0=>
(zBk Tryz.prog .and 30 (.tmp 4) (.const (Go.Value.int Go.IntKind.u64 6148914691236517205)) t4_0 (Go.Value.int Go.IntKind.u64 6148914691236517205)).bind fun t5_1=>
(zBk Tryz.prog .and 30 (.tmp 6) (.const (Go.Value.int Go.IntKind.u64 6148914691236517205)) Aa (Go.Value.int Go.IntKind.u64 6148914691236517205)).bind fun t7_2=>
(zBk Tryz.prog .add 30 (.tmp 5) (.tmp 7) t5_1 t7_2).bind fun t8_3=>
(zBk Tryz.prog .shr 30 (.tmp 9) (.const (Go.Value.int Go.IntKind.u64 2)) t8_3 (Go.Value.int Go.IntKind.u64 2)).bind fun t10_4=>
(zBk Tryz.prog .and 30 (.tmp 10) (.const (Go.Value.int Go.IntKind.u64 3689348814741910323)) t10_4 (Go.Value.int Go.IntKind.u64 3689348814741910323)).bind fun t11_5=>
(zBk Tryz.prog .and 30 (.tmp 12) (.const (Go.Value.int Go.IntKind.u64 3689348814741910323)) t8_3 (Go.Value.int Go.IntKind.u64 3689348814741910323)).bind fun t13_6=>
(zBk Tryz.prog .add 30 (.tmp 11) (.tmp 13) t11_5 t13_6).bind fun t14_7=>
(zBk Tryz.prog .shr 30 (.tmp 15) (.const (Go.Value.int Go.IntKind.u64 4)) t14_7 (Go.Value.int Go.IntKind.u64 4)).bind fun t16_8=>
(zBk Tryz.prog .add 30 (.tmp 16) (.tmp 17) t16_8 t14_7).bind fun t18_9=>
(zBk Tryz.prog .and 30 (.tmp 18) (.const (Go.Value.int Go.IntKind.u64 1085102592571150095)) t18_9 (Go.Value.int Go.IntKind.u64 1085102592571150095)).bind fun t19_10=>
(zBk Tryz.prog .shr 30 (.tmp 21) (.const (Go.Value.int Go.IntKind.u64 8)) t19_10 (Go.Value.int Go.IntKind.u64 8)).bind fun t22_11=>
(zBk Tryz.prog .add 30 (.tmp 20) (.tmp 22) t19_10 t22_11).bind fun t23_12=>
(zBk Tryz.prog .shr 30 (.tmp 25) (.const (Go.Value.int Go.IntKind.u64 16)) t23_12 (Go.Value.int Go.IntKind.u64 16)).bind fun t26_13=>
(zBk Tryz.prog .add 30 (.tmp 24) (.tmp 26) t23_12 t26_13).bind fun t27_14=>
(zBk Tryz.prog .shr 30 (.tmp 29) (.const (Go.Value.int Go.IntKind.u64 32)) t27_14 (Go.Value.int Go.IntKind.u64 32)).bind fun t30_15=>
(zBk Tryz.prog .add 30 (.tmp 28) (.tmp 30) t27_14 t30_15).bind fun t31_16=>
obH (convV Tryz.prog 30 3 t31_16 h) fun t33_17 h18=>
(zBk Tryz.prog .and 3 (.tmp 33) (.const (Go.Value.int Go.IntKind.i64 127)) t33_17 (Go.Value.int Go.IntKind.i64 127)).bind fun t34_19=>
k .ret ⟨#[t31_16,Ab,t34_19,Aa,t4_0,t5_1,Aa,t7_2,t8_3,t8_3,t10_4,t11_5,t8_3,t13_6,t14_7,t14_7,t16_8,t14_7,t18_9,t19_10,t19_10,t19_10,t22_11,t23_12,t23_12,t23_12,t26_13,t27_14,t27_14,t27_14,t30_15,t31_16,t31_16,t33_17,t34_19],h18⟩:=by kernel_rfl
theorem call90 (h:Heap):evC Tryz.prog 90 #[Aa] h=zAy Tryz.prog (evC Tryz.prog) zAx c90_0 ⟨#[Aa,undef,undef,undef,undef,undef,undef,undef,undef,undef,undef,undef,undef,undef,undef,undef,undef,undef,undef,undef,undef,undef,undef,undef,undef,undef,undef,undef,undef,undef,undef,undef,undef,undef,undef],nm h⟩ (zBb Tryz.f90 Tryz.prog h):=
 (zAo 90 Tryz.f90 c90_0 Tryz.func90 (by kernel_rfl) #[Aa] h).trans (by kernel_rfl)
theorem ret90 (h0 h:Heap):zBb Tryz.f90 Tryz.prog h0 .ret ⟨#[Aa,Ab,Ac,Ad,Ae,Af,Ag,Ah,Ai,Aj,Ak,Al,An,Ao,Ap,Aq,Ar,As,Au,Av,Aw,Ax,Ay,Az,Ba,Bb,Bc,Bd,Be,Bf,Bg,Bh,Bi,Bj,Bk],h⟩=fin h0 (some Ac) h:=by kernel_rfl
end Go.Am
namespace Go.Am
open Go.Proofs
set_option maxRecDepth 100000
variable (Aa Ab Ac Ad Ae Af Ag Ah Ai Aj Ak Al An Ao Ap Aq Ar As Au Av Aw Ax Ay Az Ba Bb Bc Bd Be Bf Bg:Value)
noncomputable def c18_0:Code:=zAk Tryz.f18 []
theorem c18_0_eq {β:Type} (h:Heap) (k:Ex->St->Option β):zAy Tryz.prog (evC Tryz.prog) zAx c18_0 ⟨#[Aa,Ab,Ac,Ad,Ae,Af,Ag,Ah,Ai,Aj,Ak,Al,An,Ao,Ap,Aq,Ar,As,Au,Av,Aw,Ax,Ay,Az,Ba,Bb,Bc,Bd,Be,Bf,Bg],h⟩ k =
obH (evC Tryz.prog 54 #[Aa] h) fun t10_0 h1=>
(zBf t10_0 0).bind fun t11_2=>
(zBf t10_0 1).bind fun t12_3=>
obH (zBp Tryz.prog 119 h1) fun t6_4 h5=>
(zBc Tryz.prog 119 t6_4 t11_2 h5).bind fun h6=>
(zBk Tryz.prog .neq 25 (.tmp 13) (.const (Go.Value.int Go.IntKind.i64 0)) t12_3 (Go.Value.int Go.IntKind.i64 0)).bind fun t14_7=>
(gd (wt t14_7 false) (zBk Tryz.prog .lss 3 (.tmp 16) (.const (Go.Value.int Go.IntKind.i64 0)) (gdV (wt t14_7 false) Ab) (Go.Value.int Go.IntKind.i64 0))).bind fun t17_8=>
(zBo t14_7 (Go.Value.bool Bool.true) t17_8).bind fun t18_9=>
(gd (wt t18_9 false) (zBk Tryz.prog .geq 3 (.tmp 20) (.tmp 21) (gdV (wt t18_9 false) Ab) (gdV (wt t18_9 false) Aa))).bind fun t22_10=>
(zBo t18_9 (Go.Value.bool Bool.true) t22_10).bind fun t23_11=>
cnd t23_11 (
k .ret ⟨#[Aa,Ab,Ac,Ad,(Go.Value.pointer Option.none),(Go.Value.int Go.IntKind.i64 1),t6_4,t12_3,t10_0,Aa,t10_0,t11_2,t12_3,t12_3,t14_7,t14_7,(gdV (wt t14_7 false) Ab),t17_8,t18_9,t18_9,(gdV (wt t18_9 false) Ab),(gdV (wt t18_9 false) Aa),t22_10,t23_11,Ba,Bb,Bc,Bd,Be,Bf,Bg],h6⟩) (
(zAw Tryz.prog 119 t6_4 h6).bind fun t26_12=>
obH (evC Tryz.prog 30 #[Aa] (nm h6)) fun t28_13 h14=>
(buildV Tryz.prog 123 #[(0,Aa),(1,Ab),(2,t26_12),(3,t28_13)]).bind fun t29_15=>
obH (boxV Tryz.prog 123 t29_15 (am h14 h6)) fun t30_16 h17=>
chk ((rb t6_4)++[]) (h14.mods++[]) (
k .ret ⟨#[Aa,Ab,Ac,Ad,t30_16,(Go.Value.int Go.IntKind.i64 0),t6_4,t12_3,t10_0,Aa,t10_0,t11_2,t12_3,t12_3,t14_7,t14_7,(gdV (wt t14_7 false) Ab),t17_8,t18_9,t18_9,(gdV (wt t18_9 false) Ab),(gdV (wt t18_9 false) Aa),t22_10,t23_11,Aa,Ab,t26_12,Aa,t28_13,t29_15,t30_16],h17⟩)):=by kernel_rfl
theorem call18 (h:Heap):evC Tryz.prog 18 #[Aa,Ab] h=zAy Tryz.prog (evC Tryz.prog) zAx c18_0 ⟨#[Aa,Ab,undef,undef,undef,undef,undef,undef,undef,undef,undef,undef,undef,undef,undef,undef,undef,undef,undef,undef,undef,undef,undef,undef,undef,undef,undef,undef,undef,undef,undef],nm h⟩ (zBb Tryz.f18 Tryz.prog h):=
 (zAo 18 Tryz.f18 c18_0 Tryz.func18 (by kernel_rfl) #[Aa,Ab] h).trans (by kernel_rfl)
theorem ret18 (h0 h:Heap):zBb Tryz.f18 Tryz.prog h0 .ret ⟨#[Aa,Ab,Ac,Ad,Ae,Af,Ag,Ah,Ai,Aj,Ak,Al,An,Ao,Ap,Aq,Ar,As,Au,Av,Aw,Ax,Ay,Az,Ba,Bb,Bc,Bd,Be,Bf,Bg],h⟩=fin h0 (some (.tuple #[Ae,Af])) h:=by kernel_rfl
end Go.Am
namespace Go.Am
open Go.Proofs
set_option maxRecDepth 100000
variable (Aa Ab Ac Ad Ae Af Ag Ah Ai Aj Ak Al An Ao Ap Aq Ar As Au Av Aw Ax Ay Az Ba Bb Bc Bd Be Bf Bg Bh Bi Bj Bk Bl Bm Bn Bo Bp Bq Br Bs Bt Bu Bv Bw:Value)
noncomputable def c21_0:Code:=zAk Tryz.f21 []
noncomputable def c21_1:Code:=zAk Tryz.f21 [true,true,true,false,true,false,false]
noncomputable def c21_2:Code:=zAk Tryz.f21 [true,true,true,true]
theorem c21_0_eq {β:Type} (h:Heap) (k:Ex->St->Option β):zAy Tryz.prog (evC Tryz.prog) zAx c21_0 ⟨#[Aa,Ab,Ac,Ad,Ae,Af,Ag,Ah,Ai,Aj,Ak,Al,An,Ao,Ap,Aq,Ar,As,Au,Av,Aw,Ax,Ay,Az,Ba,Bb,Bc,Bd,Be,Bf,Bg,Bh,Bi,Bj,Bk,Bl,Bm,Bn,Bo,Bp,Bq,Br,Bs,Bt,Bu,Bv,Bw],h⟩ k =
(zAm Tryz.prog Aa).bind fun t8_0=>
(zAe Tryz.prog 123 t8_0 0).bind fun t9_1=>
(zAw Tryz.prog 3 t9_1 h).bind fun t10_2=>
obH (evC Tryz.prog 31 #[t10_2] (nm h)) fun t11_3 h4=>
(zAm Tryz.prog Aa).bind fun t13_5=>
(zAe Tryz.prog 123 t13_5 1).bind fun t14_6=>
(zAw Tryz.prog 3 t14_6 (am h4 h)).bind fun t15_7=>
obH (zAi Tryz.prog 68 1 #[(0,t15_7)] (am h4 h)) fun t16_8 h9=>
obH (evC Tryz.prog 28 #[t16_8] h9) fun t17_10 h11=>
(zBk Tryz.prog .andNot 39 (.tmp 11) (.tmp 17) t11_3 t17_10).bind fun t18_12=>
(zBk Tryz.prog .and 39 (.tmp 6) (.tmp 18) Ab t18_12).bind fun t19_13=>
chk ([(am h4 h).blks.length]++((rb t14_6)++[])) (h4.mods++[]) (
obH (evC Tryz.prog 55 #[t19_13] h11) fun t21_14 h15=>
loopK Tryz.prog (evC Tryz.prog) c21_1 ⟨#[Aa,t19_13,Ac,Ad,(Go.Value.slice Option.none 0 0),(Go.Value.slice Option.none 0 0),Ab,Aa,t8_0,t9_1,t10_2,t11_3,Aa,t13_5,t14_6,t15_7,t16_8,t17_10,t18_12,t19_13,t19_13,t21_14,(Go.Value.int Go.IntKind.i64 0),Az,Ba,Bb,Bc,Bd,Be,Bf,Bg,Bh,Bi,Bj,Bk,Bl,Bm,Bn,Bo,Bp,Bq,Br,Bs,Bt,Bu,Bv,Bw],h15⟩ (zAu 0 (seqK Tryz.prog (evC Tryz.prog) c21_2 k))):=by kernel_rfl
theorem c21_1_eq {β:Type} (h:Heap) (k:Ex->St->Option β):zAy Tryz.prog (evC Tryz.prog) zAx c21_1 ⟨#[Aa,Ab,Ac,Ad,Ae,Af,Ag,Ah,Ai,Aj,Ak,Al,An,Ao,Ap,Aq,Ar,As,Au,Av,Aw,Ax,Ay,Az,Ba,Bb,Bc,Bd,Be,Bf,Bg,Bh,Bi,Bj,Bk,Bl,Bm,Bn,Bo,Bp,Bq,Br,Bs,Bt,Bu,Bv,Bw],h⟩ k =
(zBk Tryz.prog .lss 3 (.tmp 22) (.tmp 21) Ay Ax).bind fun t23_16=>
cnd t23_16 (
(zAm Tryz.prog Aa).bind fun t26_17=>
(zAe Tryz.prog 123 t26_17 2).bind fun t27_18=>
(zAw Tryz.prog 119 t27_18 h).bind fun t28_19=>
obH (evC Tryz.prog 56 #[t28_19] h) fun t29_20 h21=>
obH (zAi Tryz.prog 34 1 #[(0,t29_20)] h21) fun t30_22 h23=>
obH (zBh Tryz.prog 34 (some 34) Af t30_22 h23) fun t31_24 h25=>
(zBk Tryz.prog .add 3 (.tmp 22) (.const (Go.Value.int Go.IntKind.i64 1)) Ay (Go.Value.int Go.IntKind.i64 1)).bind fun t32_26=>
k .normal ⟨#[Aa,Ab,Ac,Ad,Ae,t31_24,Ag,Ah,Ai,Aj,Ak,Al,An,Ao,Ap,Aq,Ar,As,Au,Av,Aw,Ax,t32_26,t23_16,Af,Aa,t26_17,t27_18,t28_19,t29_20,t30_22,t31_24,t32_26,Bj,Bk,Bl,Bm,Bn,Bo,Bp,Bq,Br,Bs,Bt,Bu,Bv,Bw],h25⟩) (
k (.exit 0) ⟨#[Aa,Ab,Ac,Ad,Ae,Af,Ag,Ah,Ai,Aj,Ak,Al,An,Ao,Ap,Aq,Ar,As,Au,Av,Aw,Ax,Ay,t23_16,Ba,Bb,Bc,Bd,Be,Bf,Bg,Bh,Bi,Bj,Bk,Bl,Bm,Bn,Bo,Bp,Bq,Br,Bs,Bt,Bu,Bv,Bw],h⟩):=by kernel_rfl
theorem c21_2_eq {β:Type} (h:Heap) (k:Ex->St->Option β):zAy Tryz.prog (evC Tryz.prog) zAx c21_2 ⟨#[Aa,Ab,Ac,Ad,Ae,Af,Ag,Ah,Ai,Aj,Ak,Al,An,Ao,Ap,Aq,Ar,As,Au,Av,Aw,Ax,Ay,Az,Ba,Bb,Bc,Bd,Be,Bf,Bg,Bh,Bi,Bj,Bk,Bl,Bm,Bn,Bo,Bp,Bq,Br,Bs,Bt,Bu,Bv,Bw],h⟩ k =
(zAm Tryz.prog Aa).bind fun t35_27=>
(zAe Tryz.prog 123 t35_27 2).bind fun t36_28=>
(zAw Tryz.prog 119 t36_28 h).bind fun t37_29=>
(zAm Tryz.prog Aa).bind fun t39_30=>
(zAe Tryz.prog 123 t39_30 1).bind fun t40_31=>
(zAw Tryz.prog 3 t40_31 h).bind fun t41_32=>
obH (evC Tryz.prog 57 #[t37_29,t41_32,Ab] h) fun t43_33 h34=>
(zAm Tryz.prog Aa).bind fun t44_35=>
(zAe Tryz.prog 123 t44_35 2).bind fun t45_36=>
(zBc Tryz.prog 119 t45_36 t43_33 h34).bind fun h37=>
k .ret ⟨#[Aa,Ab,Ac,Ad,Af,Af,Ag,Ah,Ai,Aj,Ak,Al,An,Ao,Ap,Aq,Ar,As,Au,Av,Aw,Ax,Ay,Az,Ba,Bb,Bc,Bd,Be,Bf,Bg,Bh,Bi,Aa,Aa,t35_27,t36_28,t37_29,Aa,t39_30,t40_31,t41_32,Ab,t43_33,t44_35,t45_36,Af],h37⟩:=by kernel_rfl
theorem call21 (h:Heap):evC Tryz.prog 21 #[Aa,Ab] h=zAy Tryz.prog (evC Tryz.prog) zAx c21_0 ⟨#[Aa,Ab,undef,undef,undef,undef,undef,undef,undef,undef,undef,undef,undef,undef,undef,undef,undef,undef,undef,undef,undef,undef,undef,undef,undef,undef,undef,undef,undef,undef,undef,undef,undef,undef,undef,undef,undef,undef,undef,undef,undef,undef,undef,undef,undef,undef,undef],nm h⟩ (zBb Tryz.f21 Tryz.prog h):=
 (zAo 21 Tryz.f21 c21_0 Tryz.func21 (by kernel_rfl) #[Aa,Ab] h).trans (by kernel_rfl)
theorem ret21 (h0 h:Heap):zBb Tryz.f21 Tryz.prog h0 .ret ⟨#[Aa,Ab,Ac,Ad,Ae,Af,Ag,Ah,Ai,Aj,Ak,Al,An,Ao,Ap,Aq,Ar,As,Au,Av,Aw,Ax,Ay,Az,Ba,Bb,Bc,Bd,Be,Bf,Bg,Bh,Bi,Bj,Bk,Bl,Bm,Bn,Bo,Bp,Bq,Br,Bs,Bt,Bu,Bv,Bw],h⟩=fin h0 (some Ae) h:=by kernel_rfl
end Go.Am
namespace Go.Am
open Go.Proofs
set_option maxRecDepth 100000
variable (Aa Ab Ac Ad Ae Af Ag Ah Ai Aj Ak Al An Ao Ap Aq Ar As Au Av Aw Ax Ay Az Ba Bb Bc Bd Be Bf Bg Bh Bi Bj Bk Bl Bm Bn Bo Bp Bq Br Bs Bt Bu Bv Bw Bx By Bz Ca Cb Cc Cd Ce Cf Cg Ch Ci Cj Ck Cl Cm Cn Co Cp:Value)
noncomputable def c25_0:Code:=zAk Tryz.f25 []
noncomputable def c25_1:Code:=zAk Tryz.f25 [true,true,true,false,true,false,false]
noncomputable def c25_2:Code:=zAk Tryz.f25 [true,true,true,true]
theorem c25_0_eq {β:Type} (h:Heap) (k:Ex->St->Option β):zAy Tryz.prog (evC Tryz.prog) zAx c25_0 ⟨#[Aa,Ab,Ac,Ad,Ae,Af,Ag,Ah,Ai,Aj,Ak,Al,An,Ao,Ap,Aq,Ar,As,Au,Av,Aw,Ax,Ay,Az,Ba,Bb,Bc,Bd,Be,Bf,Bg,Bh,Bi,Bj,Bk,Bl,Bm,Bn,Bo,Bp,Bq,Br,Bs,Bt,Bu,Bv,Bw,Bx,By,Bz,Ca,Cb,Cc,Cd,Ce,Cf,Cg,Ch,Ci,Cj,Ck,Cl,Cm,Cn,Co,Cp],h⟩ k =
(zAm Tryz.prog Aa).bind fun t15_0=>
(zAe Tryz.prog 123 t15_0 0).bind fun t16_1=>
(zAw Tryz.prog 3 t16_1 h).bind fun t17_2=>
obH (evC Tryz.prog 61 #[t17_2,Ad] h) fun t19_3 h4=>
(zBf t19_3 0).bind fun t20_5=>
(zBf t19_3 1).bind fun t21_6=>
obH (zBp Tryz.prog 119 h4) fun t9_7 h8=>
(zBc Tryz.prog 119 t9_7 t20_5 h8).bind fun h9=>
(unV Tryz.prog .not t21_6).bind fun t23_10=>
(gd (wt t23_10 false) (zBk Tryz.prog .lss 3 (.tmp 25) (.const (Go.Value.int Go.IntKind.i64 0)) (gdV (wt t23_10 false) Ab) (Go.Value.int Go.IntKind.i64 0))).bind fun t26_11=>
(zBo t23_10 (Go.Value.bool Bool.true) t26_11).bind fun t27_12=>
(gd (wt t27_12 false) (zAm Tryz.prog (gdV (wt t27_12 false) Aa))).bind fun t31_13=>
(gd (wt t27_12 false) (zAe Tryz.prog 123 t31_13 0)).bind fun t32_14=>
(gd (wt t27_12 false) (zAw Tryz.prog 3 t32_14 h9)).bind fun t33_15=>
(gd (wt t27_12 false) (zBk Tryz.prog .geq 3 (.tmp 29) (.tmp 33) (gdV (wt t27_12 false) Ab) t33_15)).bind fun t34_16=>
(zBo t27_12 (Go.Value.bool Bool.true) t34_16).bind fun t35_17=>
(gd (wt t35_17 false) (zAm Tryz.prog (gdV (wt t35_17 false) Aa))).bind fun t39_18=>
(gd (wt t35_17 false) (zAe Tryz.prog 123 t39_18 1)).bind fun t40_19=>
(gd (wt t35_17 false) (zAw Tryz.prog 3 t40_19 h9)).bind fun t41_20=>
(gd (wt t35_17 false) (zBk Tryz.prog .eql 3 (.tmp 37) (.tmp 41) (gdV (wt t35_17 false) Ab) t41_20)).bind fun t42_21=>
(zBo t35_17 (Go.Value.bool Bool.true) t42_21).bind fun t43_22=>
cnd t43_22 (
k .ret ⟨#[Aa,Ab,Ac,Ad,Ae,Af,Ag,Ah,(Go.Value.bool Bool.false),t9_7,t21_6,Al,An,t19_3,Aa,t15_0,t16_1,t17_2,Ad,t19_3,t20_5,t21_6,t21_6,t23_10,t23_10,(gdV (wt t23_10 false) Ab),t26_11,t27_12,t27_12,(gdV (wt t27_12 false) Ab),(gdV (wt t27_12 false) Aa),t31_13,t32_14,t33_15,t34_16,t35_17,t35_17,(gdV (wt t35_17 false) Ab),(gdV (wt t35_17 false) Aa),t39_18,t40_19,t41_20,t42_21,t43_22,Bu,Bv,Bw,Bx,By,Bz,Ca,Cb,Cc,Cd,Ce,Cf,Cg,Ch,Ci,Cj,Ck,Cl,Cm,Cn,Co,Cp],h9⟩) (
(zAw Tryz.prog 119 t9_7 h9).bind fun t44_23=>
(zAm Tryz.prog Aa).bind fun t46_24=>
(zAe Tryz.prog 123 t46_24 1).bind fun t47_25=>
(zAw Tryz.prog 3 t47_25 h9).bind fun t48_26=>
obH (evC Tryz.prog 62 #[t44_23,t48_26] h9) fun t49_27 h28=>
(lenV Tryz.prog 45 t49_27 h28).bind fun t50_29=>
loopK Tryz.prog (evC Tryz.prog) c25_1 ⟨#[Aa,Ab,Ac,Ad,Ae,Af,Ag,Ah,(Go.Value.bool Bool.false),t9_7,t21_6,Al,An,t19_3,Aa,t15_0,t16_1,t17_2,Ad,t19_3,t20_5,t21_6,t21_6,t23_10,t23_10,(gdV (wt t23_10 false) Ab),t26_11,t27_12,t27_12,(gdV (wt t27_12 false) Ab),(gdV (wt t27_12 false) Aa),t31_13,t32_14,t33_15,t34_16,t35_17,t35_17,(gdV (wt t35_17 false) Ab),(gdV (wt t35_17 false) Aa),t39_18,t40_19,t41_20,t42_21,t43_22,t44_23,Aa,t46_24,t47_25,t48_26,t49_27,t50_29,(Go.Value.int Go.IntKind.i64 0),Cc,Cd,Ce,Cf,Cg,Ch,Ci,Cj,Ck,Cl,Cm,Cn,Co,Cp],h28⟩ (zAu 0 (seqK Tryz.prog (evC Tryz.prog) c25_2 k))):=by kernel_rfl
theorem c25_1_eq {β:Type} (h:Heap) (k:Ex->St->Option β):zAy Tryz.prog (evC Tryz.prog) zAx c25_1 ⟨#[Aa,Ab,Ac,Ad,Ae,Af,Ag,Ah,Ai,Aj,Ak,Al,An,Ao,Ap,Aq,Ar,As,Au,Av,Aw,Ax,Ay,Az,Ba,Bb,Bc,Bd,Be,Bf,Bg,Bh,Bi,Bj,Bk,Bl,Bm,Bn,Bo,Bp,Bq,Br,Bs,Bt,Bu,Bv,Bw,Bx,By,Bz,Ca,Cb,Cc,Cd,Ce,Cf,Cg,Ch,Ci,Cj,Ck,Cl,Cm,Cn,Co,Cp],h⟩ k =
(zBk Tryz.prog .lss 3 (.tmp 51) (.tmp 50) Cb Ca).bind fun t52_30=>
cnd t52_30 (
(zAh Tryz.prog 45 Bz Cb).bind fun t54_31=>
(zAw Tryz.prog 30 t54_31 h).bind fun t55_32=>
(zAm Tryz.prog Aa).bind fun t57_33=>
(zAe Tryz.prog 123 t57_33 3).bind fun t58_34=>
(zAw Tryz.prog 45 t58_34 h).bind fun t59_35=>
(zAh Tryz.prog 45 t59_35 Cb).bind fun t61_36=>
(zAw Tryz.prog 30 t61_36 h).bind fun t62_37=>
(zBk Tryz.prog .lss 30 (.tmp 62) (.tmp 63) t62_37 t55_32).bind fun t64_38=>
cnd t64_38 (
k .ret ⟨#[Aa,Ab,Ac,Ad,Ae,Af,Ag,Ah,(Go.Value.bool Bool.false),Aj,Ak,Cb,t55_32,Ao,Ap,Aq,Ar,As,Au,Av,Aw,Ax,Ay,Az,Ba,Bb,Bc,Bd,Be,Bf,Bg,Bh,Bi,Bj,Bk,Bl,Bm,Bn,Bo,Bp,Bq,Br,Bs,Bt,Bu,Bv,Bw,Bx,By,Bz,Ca,Cb,t52_30,Cb,t54_31,t55_32,Aa,t57_33,t58_34,t59_35,Cb,t61_36,t62_37,t55_32,t64_38,Cp],h⟩) (
(zBk Tryz.prog .add 3 (.tmp 51) (.const (Go.Value.int Go.IntKind.i64 1)) Cb (Go.Value.int Go.IntKind.i64 1)).bind fun t65_39=>
k .normal ⟨#[Aa,Ab,Ac,Ad,Ae,Af,Ag,Ah,Ai,Aj,Ak,Cb,t55_32,Ao,Ap,Aq,Ar,As,Au,Av,Aw,Ax,Ay,Az,Ba,Bb,Bc,Bd,Be,Bf,Bg,Bh,Bi,Bj,Bk,Bl,Bm,Bn,Bo,Bp,Bq,Br,Bs,Bt,Bu,Bv,Bw,Bx,By,Bz,Ca,t65_39,t52_30,Cb,t54_31,t55_32,Aa,t57_33,t58_34,t59_35,Cb,t61_36,t62_37,t55_32,t64_38,t65_39],h⟩)) (
k (.exit 0) ⟨#[Aa,Ab,Ac,Ad,Ae,Af,Ag,Ah,Ai,Aj,Ak,Al,An,Ao,Ap,Aq,Ar,As,Au,Av,Aw,Ax,Ay,Az,Ba,Bb,Bc,Bd,Be,Bf,Bg,Bh,Bi,Bj,Bk,Bl,Bm,Bn,Bo,Bp,Bq,Br,Bs,Bt,Bu,Bv,Bw,Bx,By,Bz,Ca,Cb,t52_30,Cd,Ce,Cf,Cg,Ch,Ci,Cj,Ck,Cl,Cm,Cn,Co,Cp],h⟩):=by kernel_rfl
theorem c25_2_eq {β:Type} (h:Heap) (k:Ex->St->Option β):zAy Tryz.prog (evC Tryz.prog) zAx c25_2 ⟨#[Aa,Ab,Ac,Ad,Ae,Af,Ag,Ah,Ai,Aj,Ak,Al,An,Ao,Ap,Aq,Ar,As,Au,Av,Aw,Ax,Ay,Az,Ba,Bb,Bc,Bd,Be,Bf,Bg,Bh,Bi,Bj,Bk,Bl,Bm,Bn,Bo,Bp,Bq,Br,Bs,Bt,Bu,Bv,Bw,Bx,By,Bz,Ca,Cb,Cc,Cd,Ce,Cf,Cg,Ch,Ci,Cj,Ck,Cl,Cm,Cn,Co,Cp],h⟩ k =
k .ret ⟨#[Aa,Ab,Ac,Ad,Ae,Af,Ag,Ah,(Go.Value.bool Bool.true),Aj,Ak,Al,An,Ao,Ap,Aq,Ar,As,Au,Av,Aw,Ax,Ay,Az,Ba,Bb,Bc,Bd,Be,Bf,Bg,Bh,Bi,Bj,Bk,Bl,Bm,Bn,Bo,Bp,Bq,Br,Bs,Bt,Bu,Bv,Bw,Bx,By,Bz,Ca,Cb,Cc,Cd,Ce,Cf,Cg,Ch,Ci,Cj,Ck,Cl,Cm,Cn,Co,Cp],h⟩:=by kernel_rfl
theorem call25 (h:Heap):evC Tryz.prog 25 #[Aa,Ab,Ac,Ad] h=zAy Tryz.prog (evC Tryz.prog) zAx c25_0 ⟨#[Aa,Ab,Ac,Ad,undef,undef,undef,undef,undef,undef,undef,undef,undef,undef,undef,undef,undef,undef,undef,undef,undef,undef,undef,undef,undef,undef,undef,undef,undef,undef,undef,undef,undef,undef,undef,undef,undef,undef,undef,undef,undef,undef,undef,undef,undef,undef,undef,undef,undef,undef,undef,undef,undef,undef,undef,undef,undef,undef,undef,undef,undef,undef,undef,undef,undef,undef],nm h⟩ (zBb Tryz.f25 Tryz.prog h):=
 (zAo 25 Tryz.f25 c25_0 Tryz.func25 (by kernel_rfl) #[Aa,Ab,Ac,Ad] h).trans (by kernel_rfl)
theorem ret25 (h0 h:Heap):zBb Tryz.f25 Tryz.prog h0 .ret ⟨#[Aa,Ab,Ac,Ad,Ae,Af,Ag,Ah,Ai,Aj,Ak,Al,An,Ao,Ap,Aq,Ar,As,Au,Av,Aw,Ax,Ay,Az,Ba,Bb,Bc,Bd,Be,Bf,Bg,Bh,Bi,Bj,Bk,Bl,Bm,Bn,Bo,Bp,Bq,Br,Bs,Bt,Bu,Bv,Bw,Bx,By,Bz,Ca,Cb,Cc,Cd,Ce,Cf,Cg,Ch,Ci,Cj,Ck,Cl,Cm,Cn,Co,Cp],h⟩=fin h0 (some Ai) h:=by kernel_rfl
end Go.Am
namespace Go.Am
open Go.Proofs
set_option maxRecDepth 100000
variable (Aa Ab Ac Ad Ae Af Ag Ah Ai Aj Ak Al An Ao Ap Aq Ar As Au Av Aw Ax Ay Az Ba Bb Bc Bd Be Bf Bg Bh Bi Bj Bk Bl Bm Bn Bo Bp Bq Br Bs Bt Bu Bv Bw Bx By Bz Ca Cb Cc Cd Ce:Value)
noncomputable def c26_0:Code:=zAk Tryz.f26 []
theorem c26_0_eq {β:Type} (h:Heap) (k:Ex->St->Option β):zAy Tryz.prog (evC Tryz.prog) zAx c26_0 ⟨#[Aa,Ab,Ac,Ad,Ae,Af,Ag,Ah,Ai,Aj,Ak,Al,An,Ao,Ap,Aq,Ar,As,Au,Av,Aw,Ax,Ay,Az,Ba,Bb,Bc,Bd,Be,Bf,Bg,Bh,Bi,Bj,Bk,Bl,Bm,Bn,Bo,Bp,Bq,Br,Bs,Bt,Bu,Bv,Bw,Bx,By,Bz,Ca,Cb,Cc,Cd,Ce],h⟩ k =
obH (evC Tryz.prog 25 #[Aa,Ab,Ac,Ae] h) fun t17_0 h1=>
(unV Tryz.prog .not t17_0).bind fun t18_2=>
cnd t18_2 (
k .ret ⟨#[Aa,Ab,Ac,Ad,Ae,Af,Ag,Ah,Ai,Aj,(Go.Value.bool Bool.false),Al,An,Aa,Ab,Ac,Ae,t17_0,t18_2,Av,Aw,Ax,Ay,Az,Ba,Bb,Bc,Bd,Be,Bf,Bg,Bh,Bi,Bj,Bk,Bl,Bm,Bn,Bo,Bp,Bq,Br,Bs,Bt,Bu,Bv,Bw,Bx,By,Bz,Ca,Cb,Cc,Cd,Ce],h1⟩) (
(zAm Tryz.prog Aa).bind fun t21_3=>
(zAe Tryz.prog 123 t21_3 0).bind fun t22_4=>
(zAw Tryz.prog 3 t22_4 h1).bind fun t23_5=>
obH (evC Tryz.prog 61 #[t23_5,Ae] h1) fun t25_6 h7=>
(zBf t25_6 0).bind fun t26_8=>
(zBf t25_6 1).bind fun t27_9=>
obH (zBp Tryz.prog 119 h7) fun t11_10 h11=>
(zBc Tryz.prog 119 t11_10 t26_8 h11).bind fun h12=>
(zAm Tryz.prog Aa).bind fun t31_13=>
(zAe Tryz.prog 123 t31_13 3).bind fun t32_14=>
(zAw Tryz.prog 45 t32_14 h12).bind fun t33_15=>
obH (evC Tryz.prog 63 #[t33_15,Ab] h12) fun t35_16 h17=>
(zBf t35_16 0).bind fun t36_18=>
(zBf t35_16 1).bind fun t37_19=>
(zAm Tryz.prog Aa).bind fun t38_20=>
(zAe Tryz.prog 123 t38_20 3).bind fun t39_21=>
(zBc Tryz.prog 45 t39_21 t36_18 h17).bind fun h22=>
(zAm Tryz.prog Aa).bind fun t43_23=>
(zAe Tryz.prog 123 t43_23 2).bind fun t44_24=>
(zAw Tryz.prog 119 t44_24 h22).bind fun t45_25=>
(zAw Tryz.prog 119 t11_10 h22).bind fun t46_26=>
obH (evC Tryz.prog 57 #[t46_26,Ab,Ad] (nm h22)) fun t49_27 h28=>
obH (evC Tryz.prog 64 #[t45_25,t49_27] (am h28 h22)) fun t50_29 h30=>
(zBf t50_29 0).bind fun t51_31=>
(zBf t50_29 1).bind fun t52_32=>
(zAm Tryz.prog Aa).bind fun t53_33=>
(zAe Tryz.prog 123 t53_33 2).bind fun t54_34=>
(zBc Tryz.prog 119 t54_34 t51_31 h30).bind fun h35=>
chk ((rb t44_24)++[]) (h28.mods++[]) (
k .ret ⟨#[Aa,Ab,Ac,Ad,Ae,Af,Ag,Ah,Ai,Aj,(Go.Value.bool Bool.true),t11_10,t27_9,Aa,Ab,Ac,Ae,t17_0,t18_2,t25_6,Aa,t21_3,t22_4,t23_5,Ae,t25_6,t26_8,t27_9,t35_16,Aa,Aa,t31_13,t32_14,t33_15,Ab,t35_16,t36_18,t37_19,t38_20,t39_21,t50_29,Aa,Aa,t43_23,t44_24,t45_25,t46_26,Ab,Ad,t49_27,t50_29,t51_31,t52_32,t53_33,t54_34],h35⟩)):=by kernel_rfl
theorem call26 (h:Heap):evC Tryz.prog 26 #[Aa,Ab,Ac,Ad,Ae] h=zAy Tryz.prog (evC Tryz.prog) zAx c26_0 ⟨#[Aa,Ab,Ac,Ad,Ae,undef,undef,undef,undef,undef,undef,undef,undef,undef,undef,undef,undef,undef,undef,undef,undef,undef,undef,undef,undef,undef,undef,undef,undef,undef,undef,undef,undef,undef,undef,undef,undef,undef,undef,undef,undef,undef,undef,undef,undef,undef,undef,undef,undef,undef,undef,undef,undef,undef,undef],nm h⟩ (zBb Tryz.f26 Tryz.prog h):=
 (zAo 26 Tryz.f26 c26_0 Tryz.func26 (by kernel_rfl) #[Aa,Ab,Ac,Ad,Ae] h).trans (by kernel_rfl)
theorem ret26 (h0 h:Heap):zBb Tryz.f26 Tryz.prog h0 .ret ⟨#[Aa,Ab,Ac,Ad,Ae,Af,Ag,Ah,Ai,Aj,Ak,Al,An,Ao,Ap,Aq,Ar,As,Au,Av,Aw,Ax,Ay,Az,Ba,Bb,Bc,Bd,Be,Bf,Bg,Bh,Bi,Bj,Bk,Bl,Bm,Bn,Bo,Bp,Bq,Br,Bs,Bt,Bu,Bv,Bw,Bx,By,Bz,Ca,Cb,Cc,Cd,Ce],h⟩=fin h0 (some Ak) h:=by kernel_rfl
end Go.Am
namespace Go.Am
open Go.Proofs
set_option maxRecDepth 100000
variable {β:Type} (x:Nat->Value) (h:Heap) (k:Ex->St->Option β) (r m:List Nat) (g:Heap)
noncomputable def c20_0:Code:=zAk Tryz.f20 []
noncomputable def c20_1:Code:=zAk Tryz.f20 [true,true,false,true,false,false]
noncomputable def c20_2:Code:=zAk Tryz.f20 [true,true,true]
theorem c20_0_eq:cK c20_0 20 x h k =
lK c20_1 20 (up x [(2,(.int .u64 0)),(3,(.int .u64 0)),(4,(.int .i64 0))]) h (zAu 0 (sK c20_2 k)):=by kernel_rfl
theorem c20_1_eq:cK c20_1 20 x h k =
(bn .lss 3 (x 4) (x 0)).bind fun v0=>
(gd (wt v0 true) (bn .lss 3 (gdV (wt v0 true) (x 4)) (.int .i64 64))).bind fun v1=>
(zBo v0 v1 (.bool false)).bind fun v2=>
cnd v2 (
obH (cv 3 66 (x 4) h) fun v3 h4=>
(bn .shl 30 (.int .u64 1) v3).bind fun v5=>
(bn .or 30 (x 3) v5).bind fun v6=>
(bn .add 3 (x 4) (.int .i64 1)).bind fun v7=>
k .normal ⟨ar 20 (up x [(3,v6),(4,v7),(5,(x 4)),(6,(x 0)),(7,v0),(8,v0),(9,(gdV (wt v0 true) (x 4))),(10,v1),(11,v2),(12,(x 4)),(13,v7),(14,(x 3)),(15,(x 4)),(16,v3),(17,v5),(18,v6)]),h4⟩) (
k (.exit 0) ⟨ar 20 (up x [(5,(x 4)),(6,(x 0)),(7,v0),(8,v0),(9,(gdV (wt v0 true) (x 4))),(10,v1),(11,v2)]),h⟩):=by kernel_rfl
theorem c20_2_eq:cK c20_2 20 x h k =
k .ret ⟨ar 20 (up x [(2,(x 3)),(19,(x 3))]),h⟩:=by kernel_rfl
theorem call20 (a0:Value):evC Tryz.prog 20 #[a0] h=cK c20_0 20 (up un [(0,a0)]) (nm h) (zBb Tryz.f20 Tryz.prog h):=
 (zAo 20 Tryz.f20 c20_0 Tryz.func20 (by kernel_rfl) #[a0] h).trans (by kernel_rfl)
theorem ret20:zBb Tryz.f20 Tryz.prog g .ret ⟨ar 20 x,h⟩=fin g (some (x 2)) h:=by kernel_rfl
end Go.Am
namespace Go.Am
open Go.Proofs
set_option maxRecDepth 100000
variable {β:Type} (x:Nat->Value) (h:Heap) (k:Ex->St->Option β) (r m:List Nat) (g:Heap)
noncomputable def c23_0:Code:=zAk Tryz.f23 []
noncomputable def c23_1:Code:=zAk Tryz.f23 [true,true,false,true,false,false]
noncomputable def c23_2:Code:=zAk Tryz.f23 [true,true,true]
theorem c23_0_eq:cK c23_0 17 x h k =
lK c23_1 17 (up x [(2,(.slice Option.none 0 0)),(3,(.slice Option.none 0 0)),(4,(.int .i64 0))]) h (zAu 0 (sK c23_2 k)):=by kernel_rfl
theorem c23_1_eq:cK c23_1 17 x h k =
(bn .lss 3 (x 4) (.int .i64 64)).bind fun v0=>
cnd v0 (
obH (ev 50 #[x 0,x 4] h) fun v1 h2=>
cnd v1 (
obH (zAi Tryz.prog 68 1 #[(0,(x 4))] h2) fun v3 h4=>
obH (ap 68 (some 68) (x 3) v3 h4) fun v5 h6=>
(bn .add 3 (x 4) (.int .i64 1)).bind fun v7=>
k .normal ⟨ar 17 (up x [(3,v5),(4,v7),(5,(x 4)),(6,v0),(7,(x 4)),(8,v7),(9,(x 0)),(10,(x 4)),(11,v1),(12,(x 3)),(13,(x 4)),(14,v3),(15,v5)]),h6⟩) (
(bn .add 3 (x 4) (.int .i64 1)).bind fun v8=>
k .normal ⟨ar 17 (up x [(4,v8),(5,(x 4)),(6,v0),(7,(x 4)),(8,v8),(9,(x 0)),(10,(x 4)),(11,v1)]),h2⟩)) (
k (.exit 0) ⟨ar 17 (up x [(5,(x 4)),(6,v0)]),h⟩):=by kernel_rfl
theorem c23_2_eq:cK c23_2 17 x h k =
k .ret ⟨ar 17 (up x [(2,(x 3)),(16,(x 3))]),h⟩:=by kernel_rfl
theorem call23 (a0:Value):evC Tryz.prog 23 #[a0] h=cK c23_0 17 (up un [(0,a0)]) (nm h) (zBb Tryz.f23 Tryz.prog h):=
 (zAo 23 Tryz.f23 c23_0 Tryz.func23 (by kernel_rfl) #[a0] h).trans (by kernel_rfl)
theorem ret23:zBb Tryz.f23 Tryz.prog g .ret ⟨ar 17 x,h⟩=fin g (some (x 2)) h:=by kernel_rfl
end Go.Am
namespace Go.Am
open Go.Proofs
set_option maxRecDepth 100000
variable {β:Type} (x:Nat->Value) (h:Heap) (k:Ex->St->Option β) (r m:List Nat) (g:Heap)
noncomputable def c60_0:Code:=zAk Tryz.f60 []
theorem c60_0_eq:cK c60_0 19 x h k =
(bn .geq 3 (x 1) (.int .i64 0)).bind fun v0=>
(gd (wt v0 true) (ln 71 (gdV (wt v0 true) (x 0)) h)).bind fun v1=>
(gd (wt v0 true) (bn .lss 3 (gdV (wt v0 true) (x 1)) v1)).bind fun v2=>
(zBo v0 v2 (.bool false)).bind fun v3=>
(gd (wt v3 true) (ia 71 (gdV (wt v3 true) (x 0)) (gdV (wt v3 true) (x 1)))).bind fun v4=>
(gd (wt v3 true) (ld 4 v4 h)).bind fun v5=>
(zBo v3 v5 (.bool false)).bind fun v6=>
k .ret ⟨ar 19 (up x [(4,v6),(5,(x 1)),(6,v0),(7,v0),(8,(gdV (wt v0 true) (x 1))),(9,(gdV (wt v0 true) (x 0))),(10,v1),(11,v2),(12,v3),(13,v3),(14,(gdV (wt v3 true) (x 0))),(15,(gdV (wt v3 true) (x 1))),(16,v4),(17,v5),(18,v6)]),h⟩:=by kernel_rfl
theorem call60 (a0 a1:Value):evC Tryz.prog 60 #[a0,a1] h=cK c60_0 19 (up un [(0,a0),(1,a1)]) (nm h) (zBb Tryz.f60 Tryz.prog h):=
 (zAo 60 Tryz.f60 c60_0 Tryz.func60 (by kernel_rfl) #[a0,a1] h).trans (by kernel_rfl)
theorem ret60:zBb Tryz.f60 Tryz.prog g .ret ⟨ar 19 x,h⟩=fin g (some (x 4)) h:=by kernel_rfl
end Go.Am
namespace Go.Am
open Go.Proofs
set_option maxRecDepth 100000
variable {β:Type} (x:Nat->Value) (h:Heap) (k:Ex->St->Option β) (r m:List Nat) (g:Heap)
noncomputable def c58_0:Code:=zAk Tryz.f58 []
noncomputable def c58_1:Code:=zAk Tryz.f58 [true,true,true,true,true,false,true,false,false]
noncomputable def c58_2:Code:=zAk Tryz.f58 [true,true,true,true,true,true]
theorem c58_0_eq:cK c58_0 48 x h k =
(bn .add 3 (x 2) (.int .i64 1)).bind fun v0=>
(ln 71 (x 0) h).bind fun v1=>
(bn .gtr 3 v1 v0).bind fun v2=>
cnd v2 (
(ln 71 (x 0) h).bind fun v3=>
(ln 71 (x 1) h).bind fun v4=>
(bn .gtr 3 v4 v3).bind fun v5=>
cnd v5 (
(ln 71 (x 1) h).bind fun v6=>
obH (zBd Tryz.prog 71 v6 v6 h) fun v7 h8=>
lK c58_1 48 (up x [(6,(.slice Option.none 0 0)),(7,v6),(8,v7),(9,(.int .i64 0)),(10,(x 2)),(11,v0),(12,(x 0)),(13,v1),(14,v0),(15,v2),(16,(x 0)),(17,v3),(18,(x 1)),(19,v4),(20,v3),(21,v5),(22,(x 1)),(23,v6),(24,v6),(25,v7)]) h8 (zAu 0 (sK c58_2 k))) (
obH (zBd Tryz.prog 71 v3 v3 h) fun v9 h10=>
lK c58_1 48 (up x [(6,(.slice Option.none 0 0)),(7,v3),(8,v9),(9,(.int .i64 0)),(10,(x 2)),(11,v0),(12,(x 0)),(13,v1),(14,v0),(15,v2),(16,(x 0)),(17,v3),(18,(x 1)),(19,v4),(20,v3),(21,v5),(24,v3),(25,v9)]) h10 (zAu 0 (sK c58_2 k)))) (
(ln 71 (x 1) h).bind fun v11=>
(bn .gtr 3 v11 v0).bind fun v12=>
cnd v12 (
(ln 71 (x 1) h).bind fun v13=>
obH (zBd Tryz.prog 71 v13 v13 h) fun v14 h15=>
lK c58_1 48 (up x [(6,(.slice Option.none 0 0)),(7,v13),(8,v14),(9,(.int .i64 0)),(10,(x 2)),(11,v0),(12,(x 0)),(13,v1),(14,v0),(15,v2),(18,(x 1)),(19,v11),(20,v0),(21,v12),(22,(x 1)),(23,v13),(24,v13),(25,v14)]) h15 (zAu 0 (sK c58_2 k))) (
obH (zBd Tryz.prog 71 v0 v0 h) fun v16 h17=>
lK c58_1 48 (up x [(6,(.slice Option.none 0 0)),(7,v0),(8,v16),(9,(.int .i64 0)),(10,(x 2)),(11,v0),(12,(x 0)),(13,v1),(14,v0),(15,v2),(18,(x 1)),(19,v11),(20,v0),(21,v12),(24,v0),(25,v16)]) h17 (zAu 0 (sK c58_2 k)))):=by kernel_rfl
theorem c58_1_eq:cK c58_1 48 x h k =
(bn .lss 3 (x 9) (x 7)).bind fun v18=>
cnd v18 (
obH (ev 60 #[x 0,x 9] h) fun v19 h20=>
obH (gdH (wt v19 false) h20 (ev 60 #[(gdV (wt v19 false) (x 1)),(gdV (wt v19 false) (x 9))] h20)) fun v21 h22=>
(zBo v19 (.bool true) v21).bind fun v23=>
(gd (wt v23 false) (bn .eql 3 (gdV (wt v23 false) (x 9)) (gdV (wt v23 false) (x 2)))).bind fun v24=>
(zBo v23 (.bool true) v24).bind fun v25=>
(ia 71 (x 8) (x 9)).bind fun v26=>
(sto 4 v26 v25 h22).bind fun h27=>
(bn .add 3 (x 9) (.int .i64 1)).bind fun v28=>
k .normal ⟨ar 48 (up x [(9,v28),(26,(x 9)),(27,(x 7)),(28,v18),(29,(x 9)),(30,v28),(31,(x 8)),(32,(x 9)),(33,(x 0)),(34,(x 9)),(35,v19),(36,v19),(37,(gdV (wt v19 false) (x 1))),(38,(gdV (wt v19 false) (x 9))),(39,v21),(40,v23),(41,v23),(42,(gdV (wt v23 false) (x 9))),(43,(gdV (wt v23 false) (x 2))),(44,v24),(45,v25),(46,v26)]),h27⟩) (
k (.exit 0) ⟨ar 48 (up x [(26,(x 9)),(27,(x 7)),(28,v18)]),h⟩):=by kernel_rfl
theorem c58_2_eq:cK c58_2 48 x h k =
k .ret ⟨ar 48 (up x [(6,(x 8)),(47,(x 8))]),h⟩:=by kernel_rfl
theorem call58 (a0 a1 a2:Value):evC Tryz.prog 58 #[a0,a1,a2] h=cK c58_0 48 (up un [(0,a0),(1,a1),(2,a2)]) (nm h) (zBb Tryz.f58 Tryz.prog h):=
 (zAo 58 Tryz.f58 c58_0 Tryz.func58 (by kernel_rfl) #[a0,a1,a2] h).trans (by kernel_rfl)
theorem ret58:zBb Tryz.f58 Tryz.prog g .ret ⟨ar 48 x,h⟩=fin g (some (x 6)) h:=by kernel_rfl
end Go.Am
namespace Go.Am
open Go.Proofs
set_option maxRecDepth 100000
variable {β:Type} (x:Nat->Value) (h:Heap) (k:Ex->St->Option β) (r m:List Nat) (g:Heap)
noncomputable def c59_0:Code:=zAk Tryz.f59 []
noncomputable def c59_1:Code:=zAk Tryz.f59 [true,false,true,false,false]
noncomputable def c59_2:Code:=zAk Tryz.f59 [true,true]
theorem c59_0_eq:cK c59_0 32 x h k =
lK c59_1 32 (up x [(6,(.bool false)),(7,(.int .i64 0))]) h (zAu 0 (sK c59_2 k)):=by kernel_rfl
theorem c59_1_eq:cK c59_1 32 x h k =
(zAm Tryz.prog (x 0)).bind fun v0=>
(fa 78 v0 3).bind fun v1=>
(ld 76 v1 h).bind fun v2=>
(ia 76 v2 (x 1)).bind fun v3=>
(ld 68 v3 h).bind fun v4=>
(ln 68 v4 h).bind fun v5=>
(bn .lss 3 (x 7) v5).bind fun v6=>
cnd v6 (
(zAm Tryz.prog (x 0)).bind fun v7=>
(fa 78 v7 3).bind fun v8=>
(ld 76 v8 h).bind fun v9=>
(ia 76 v9 (x 1)).bind fun v10=>
(ld 68 v10 h).bind fun v11=>
(ia 68 v11 (x 7)).bind fun v12=>
(ld 3 v12 h).bind fun v13=>
(bn .eql 3 v13 (x 2)).bind fun v14=>
cnd v14 (
k .ret ⟨ar 32 (up x [(6,(.bool true)),(8,(x 7)),(9,(x 0)),(10,v0),(11,v1),(12,v2),(13,(x 1)),(14,v3),(15,v4),(16,v5),(17,v6),(20,(x 0)),(21,v7),(22,v8),(23,v9),(24,(x 1)),(25,v10),(26,v11),(27,(x 7)),(28,v12),(29,v13),(30,(x 2)),(31,v14)]),h⟩) (
(bn .add 3 (x 7) (.int .i64 1)).bind fun v15=>
k .normal ⟨ar 32 (up x [(7,v15),(8,(x 7)),(9,(x 0)),(10,v0),(11,v1),(12,v2),(13,(x 1)),(14,v3),(15,v4),(16,v5),(17,v6),(18,(x 7)),(19,v15),(20,(x 0)),(21,v7),(22,v8),(23,v9),(24,(x 1)),(25,v10),(26,v11),(27,(x 7)),(28,v12),(29,v13),(30,(x 2)),(31,v14)]),h⟩)) (
k (.exit 0) ⟨ar 32 (up x [(8,(x 7)),(9,(x 0)),(10,v0),(11,v1),(12,v2),(13,(x 1)),(14,v3),(15,v4),(16,v5),(17,v6)]),h⟩):=by kernel_rfl
theorem c59_2_eq:cK c59_2 32 x h k =
k .ret ⟨ar 32 (up x [(6,(.bool false))]),h⟩:=by kernel_rfl
theorem call59 (a0 a1 a2:Value):evC Tryz.prog 59 #[a0,a1,a2] h=cK c59_0 32 (up un [(0,a0),(1,a1),(2,a2)]) (nm h) (zBb Tryz.f59 Tryz.prog h):=
 (zAo 59 Tryz.f59 c59_0 Tryz.func59 (by kernel_rfl) #[a0,a1,a2] h).trans (by kernel_rfl)
theorem ret59:zBb Tryz.f59 Tryz.prog g .ret ⟨ar 32 x,h⟩=fin g (some (x 6)) h:=by kernel_rfl
end Go.Am
namespace Go.Am
open Go.Proofs
set_option maxRecDepth 100000
variable {β:Type} (x:Nat->Value) (h:Heap) (k:Ex->St->Option β) (r m:List Nat) (g:Heap)
noncomputable def c24_0:Code:=zAk Tryz.f24 []
noncomputable def c24_1:Code:=zAk Tryz.f24 [true,true,false,true,false,false]
noncomputable def c24_2:Code:=zAk Tryz.f24 [true,true,true]
theorem c24_0_eq:cK c24_0 63 x h k =
(zAm Tryz.prog (x 0)).bind fun v0=>
(fa 78 v0 1).bind fun v1=>
(ld 74 v1 h).bind fun v2=>
(ia 74 v2 (x 2)).bind fun v3=>
(fa 73 v3 2).bind fun v4=>
(ld 30 v4 h).bind fun v5=>
obH (ev 50 #[v5,x 1] h) fun v6 h7=>
(unV Tryz.prog .not v6).bind fun v8=>
obH (gdH (wt v8 false) h7 (ev 59 #[(gdV (wt v8 false) (x 0)),(gdV (wt v8 false) (x 1)),(gdV (wt v8 false) (x 2))] h7)) fun v9 h10=>
(zBo v8 (.bool true) v9).bind fun v11=>
cnd v11 (
k .ret ⟨ar 63 (up x [(6,(.bool false)),(8,(x 0)),(9,v0),(10,v1),(11,v2),(12,(x 2)),(13,v3),(14,v4),(15,v5),(16,(x 1)),(17,v6),(18,v8),(19,v8),(20,(gdV (wt v8 false) (x 0))),(21,(gdV (wt v8 false) (x 1))),(22,(gdV (wt v8 false) (x 2))),(23,v9),(24,v11)]),h10⟩) (
lK c24_1 63 (up x [(6,(.bool false)),(7,(.int .i64 0)),(8,(x 0)),(9,v0),(10,v1),(11,v2),(12,(x 2)),(13,v3),(14,v4),(15,v5),(16,(x 1)),(17,v6),(18,v8),(19,v8),(20,(gdV (wt v8 false) (x 0))),(21,(gdV (wt v8 false) (x 1))),(22,(gdV (wt v8 false) (x 2))),(23,v9),(24,v11)]) h10 (zAu 0 (sK c24_2 k))):=by kernel_rfl
theorem c24_1_eq:cK c24_1 63 x h k =
(zAm Tryz.prog (x 0)).bind fun v12=>
(fa 78 v12 1).bind fun v13=>
(ld 74 v13 h).bind fun v14=>
(ln 74 v14 h).bind fun v15=>
(bn .lss 3 (x 7) v15).bind fun v16=>
cnd v16 (
(zAm Tryz.prog (x 0)).bind fun v17=>
(fa 78 v17 1).bind fun v18=>
(ld 74 v18 h).bind fun v19=>
(ia 74 v19 (x 2)).bind fun v20=>
(fa 73 v20 3).bind fun v21=>
(ld 71 v21 h).bind fun v22=>
obH (ev 60 #[v22,x 7] h) fun v23 h24=>
(gd (wt v23 true) (zAm Tryz.prog (gdV (wt v23 true) (x 0)))).bind fun v25=>
(gd (wt v23 true) (fa 78 v25 1)).bind fun v26=>
(gd (wt v23 true) (ld 74 v26 h24)).bind fun v27=>
(gd (wt v23 true) (ia 74 v27 (gdV (wt v23 true) (x 7)))).bind fun v28=>
(gd (wt v23 true) (fa 73 v28 2)).bind fun v29=>
(gd (wt v23 true) (ld 30 v29 h24)).bind fun v30=>
obH (gdH (wt v23 true) h24 (ev 50 #[v30,(gdV (wt v23 true) (x 1))] h24)) fun v31 h32=>
(zBo v23 v31 (.bool false)).bind fun v33=>
obH (gdH (wt v33 true) h32 (ev 59 #[(gdV (wt v33 true) (x 0)),(gdV (wt v33 true) (x 1)),(gdV (wt v33 true) (x 7))] h32)) fun v34 h35=>
(gd (wt v33 true) (unV Tryz.prog .not v34)).bind fun v36=>
(zBo v33 v36 (.bool false)).bind fun v37=>
cnd v37 (
k .ret ⟨ar 63 (up x [(6,(.bool false)),(25,(x 7)),(26,(x 0)),(27,v12),(28,v13),(29,v14),(30,v15),(31,v16),(34,(x 0)),(35,v17),(36,v18),(37,v19),(38,(x 2)),(39,v20),(40,v21),(41,v22),(42,(x 7)),(43,v23),(44,v23),(45,(gdV (wt v23 true) (x 0))),(46,v25),(47,v26),(48,v27),(49,(gdV (wt v23 true) (x 7))),(50,v28),(51,v29),(52,v30),(53,(gdV (wt v23 true) (x 1))),(54,v31),(55,v33),(56,v33),(57,(gdV (wt v33 true) (x 0))),(58,(gdV (wt v33 true) (x 1))),(59,(gdV (wt v33 true) (x 7))),(60,v34),(61,v36),(62,v37)]),h35⟩) (
(bn .add 3 (x 7) (.int .i64 1)).bind fun v38=>
k .normal ⟨ar 63 (up x [(7,v38),(25,(x 7)),(26,(x 0)),(27,v12),(28,v13),(29,v14),(30,v15),(31,v16),(32,(x 7)),(33,v38),(34,(x 0)),(35,v17),(36,v18),(37,v19),(38,(x 2)),(39,v20),(40,v21),(41,v22),(42,(x 7)),(43,v23),(44,v23),(45,(gdV (wt v23 true) (x 0))),(46,v25),(47,v26),(48,v27),(49,(gdV (wt v23 true) (x 7))),(50,v28),(51,v29),(52,v30),(53,(gdV (wt v23 true) (x 1))),(54,v31),(55,v33),(56,v33),(57,(gdV (wt v33 true) (x 0))),(58,(gdV (wt v33 true) (x 1))),(59,(gdV (wt v33 true) (x 7))),(60,v34),(61,v36),(62,v37)]),h35⟩)) (
k (.exit 0) ⟨ar 63 (up x [(25,(x 7)),(26,(x 0)),(27,v12),(28,v13),(29,v14),(30,v15),(31,v16)]),h⟩):=by kernel_rfl
theorem c24_2_eq:cK c24_2 63 x h k =
k .ret ⟨ar 63 (up x [(6,(.bool true))]),h⟩:=by kernel_rfl
theorem call24 (a0 a1 a2:Value):evC Tryz.prog 24 #[a0,a1,a2] h=cK c24_0 63 (up un [(0,a0),(1,a1),(2,a2)]) (nm h) (zBb Tryz.f24 Tryz.prog h):=
 (zAo 24 Tryz.f24 c24_0 Tryz.func24 (by kernel_rfl) #[a0,a1,a2] h).trans (by kernel_rfl)
theorem ret24:zBb Tryz.f24 Tryz.prog g .ret ⟨ar 63 x,h⟩=fin g (some (x 6)) h:=by kernel_rfl
end Go.Am
namespace Go.Am
open Go.Proofs
set_option maxRecDepth 100000
variable {β:Type} (x:Nat->Value) (h:Heap) (k:Ex->St->Option β) (r m:List Nat) (g:Heap)
noncomputable def c19_0:Code:=zAk Tryz.f19 []
theorem c19_0_eq:cK c19_0 10 x h k =
obH (zBd Tryz.prog 75 (x 0) (x 0) h) fun v0 h1=>
obH (zBd Tryz.prog 76 (x 0) (x 0) h1) fun v2 h3=>
(buildV Tryz.prog 78 #[(0,(x 0)),(2,v0),(3,v2)]).bind fun v4=>
obH (boxV Tryz.prog 78 v4 h3) fun v5 h6=>
k .ret ⟨ar 10 (up x [(2,v5),(3,(x 0)),(4,(x 0)),(5,v0),(6,(x 0)),(7,v2),(8,v4),(9,v5)]),h6⟩:=by kernel_rfl
theorem call19 (a0:Value):evC Tryz.prog 19 #[a0] h=cK c19_0 10 (up un [(0,a0)]) (nm h) (zBb Tryz.f19 Tryz.prog h):=
 (zAo 19 Tryz.f19 c19_0 Tryz.func19 (by kernel_rfl) #[a0] h).trans (by kernel_rfl)
theorem ret19:zBb Tryz.f19 Tryz.prog g .ret ⟨ar 10 x,h⟩=fin g (some (x 2)) h:=by kernel_rfl
end Go.Am
namespace Go.Am
open Go.Proofs
set_option maxRecDepth 100000
variable {β:Type} (x:Nat->Value) (h:Heap) (k:Ex->St->Option β) (r m:List Nat) (g:Heap)
noncomputable def c27_0:Code:=zAk Tryz.f27 []
theorem c27_0_eq:cK c27_0 65 x h k =
(zAm Tryz.prog (x 0)).bind fun v0=>
(fa 78 v0 1).bind fun v1=>
(ld 74 v1 h).bind fun v2=>
(ia 74 v2 (x 2)).bind fun v3=>
(fa 73 v3 2).bind fun v4=>
(ld 30 v4 h).bind fun v5=>
obH (ev 50 #[v5,x 1] h) fun v6 h7=>
(unV Tryz.prog .not v6).bind fun v8=>
obH (gdH (wt v8 false) h7 (ev 59 #[(gdV (wt v8 false) (x 0)),(gdV (wt v8 false) (x 1)),(gdV (wt v8 false) (x 2))] h7)) fun v9 h10=>
(zBo v8 (.bool true) v9).bind fun v11=>
cnd v11 (
k .ret ⟨ar 65 (up x [(6,(.bool false)),(7,(x 0)),(8,v0),(9,v1),(10,v2),(11,(x 2)),(12,v3),(13,v4),(14,v5),(15,(x 1)),(16,v6),(17,v8),(18,v8),(19,(gdV (wt v8 false) (x 0))),(20,(gdV (wt v8 false) (x 1))),(21,(gdV (wt v8 false) (x 2))),(22,v9),(23,v11)]),h10⟩) (
(zAm Tryz.prog (x 0)).bind fun v12=>
(fa 78 v12 3).bind fun v13=>
(ld 76 v13 h10).bind fun v14=>
obH (zAi Tryz.prog 68 0 #[] h10) fun v15 h16=>
(zAm Tryz.prog (x 0)).bind fun v17=>
(fa 78 v17 3).bind fun v18=>
(ld 76 v18 h16).bind fun v19=>
(ia 76 v19 (x 1)).bind fun v20=>
(ld 68 v20 h16).bind fun v21=>
obH (ap 68 (some 68) v15 v21 (nm h16)) fun v22 h23=>
obH (zAi Tryz.prog 68 1 #[(0,(x 2))] (am h23 h16)) fun v24 h25=>
obH (ap 68 (some 68) v22 v24 (nm h25)) fun v26 h27=>
(ia 76 v14 (x 1)).bind fun v28=>
(sto 68 v28 v26 (am h27 h25)).bind fun h29=>
chk ([(am h23 h16).blks.length]++((rb v13)++[])) (h27.mods++(h23.mods++[])) (
(zAm Tryz.prog (x 0)).bind fun v30=>
(fa 78 v30 2).bind fun v31=>
(ld 75 v31 h29).bind fun v32=>
(zAm Tryz.prog (x 0)).bind fun v33=>
(fa 78 v33 2).bind fun v34=>
(ld 75 v34 h29).bind fun v35=>
(ia 75 v35 (x 1)).bind fun v36=>
(ld 71 v36 h29).bind fun v37=>
(zAm Tryz.prog (x 0)).bind fun v38=>
(fa 78 v38 1).bind fun v39=>
(ld 74 v39 h29).bind fun v40=>
(ia 74 v40 (x 2)).bind fun v41=>
(fa 73 v41 3).bind fun v42=>
(ld 71 v42 h29).bind fun v43=>
obH (ev 58 #[v37,v43,x 2] (nm h29)) fun v44 h45=>
(ia 75 v32 (x 1)).bind fun v46=>
(sto 71 v46 v44 (am h45 h29)).bind fun h47=>
chk ((rb v31)++[]) (h45.mods++[]) (
k .ret ⟨ar 65 (up x [(6,(.bool true)),(7,(x 0)),(8,v0),(9,v1),(10,v2),(11,(x 2)),(12,v3),(13,v4),(14,v5),(15,(x 1)),(16,v6),(17,v8),(18,v8),(19,(gdV (wt v8 false) (x 0))),(20,(gdV (wt v8 false) (x 1))),(21,(gdV (wt v8 false) (x 2))),(22,v9),(23,v11),(24,(x 0)),(25,v12),(26,v13),(27,v14),(28,(x 1)),(29,v15),(30,(x 0)),(31,v17),(32,v18),(33,v19),(34,(x 1)),(35,v20),(36,v21),(37,v22),(38,(x 2)),(39,v24),(40,v26),(41,v28),(42,(x 0)),(43,v30),(44,v31),(45,v32),(46,(x 1)),(47,(x 0)),(48,v33),(49,v34),(50,v35),(51,(x 1)),(52,v36),(53,v37),(54,(x 0)),(55,v38),(56,v39),(57,v40),(58,(x 2)),(59,v41),(60,v42),(61,v43),(62,(x 2)),(63,v44),(64,v46)]),h47⟩))):=by kernel_rfl
theorem call27 (a0 a1 a2:Value):evC Tryz.prog 27 #[a0,a1,a2] h=cK c27_0 65 (up un [(0,a0),(1,a1),(2,a2)]) (nm h) (zBb Tryz.f27 Tryz.prog h):=
 (zAo 27 Tryz.f27 c27_0 Tryz.func27 (by kernel_rfl) #[a0,a1,a2] h).trans (by kernel_rfl)
theorem ret27:zBb Tryz.f27 Tryz.prog g .ret ⟨ar 65 x,h⟩=fin g (some (x 6)) h:=by kernel_rfl
end Go.Am
namespace Go.Am
open Go.Proofs
set_option maxRecDepth 100000
variable {β:Type} (x:Nat->Value) (h:Heap) (k:Ex->St->Option β) (r m:List Nat) (g:Heap)
noncomputable def c22_0:Code:=zAk Tryz.f22 []
noncomputable def c22_1:Code:=zAk Tryz.f22 [true,true,false,true,false,false]
noncomputable def c22_2:Code:=zAk Tryz.f22 [true,true,true]
theorem c22_0_eq:cK c22_0 74 x h k =
lK c22_1 74 (up x [(6,(.int .i64 0)),(7,(.int .u64 1)),(8,(.int .i64 0))]) h (zAu 0 (sK c22_2 k)):=by kernel_rfl
theorem c22_1_eq:cK c22_1 74 x h k =
(zAm Tryz.prog (x 0)).bind fun v0=>
(fa 78 v0 1).bind fun v1=>
(ld 74 v1 h).bind fun v2=>
(ln 74 v2 h).bind fun v3=>
(bn .lss 3 (x 8) v3).bind fun v4=>
cnd v4 (
(zAm Tryz.prog (x 0)).bind fun v5=>
(fa 78 v5 1).bind fun v6=>
(ld 74 v6 h).bind fun v7=>
(ia 74 v7 (x 8)).bind fun v8=>
(fa 73 v8 0).bind fun v9=>
(ld 3 v9 h).bind fun v10=>
(bn .eql 3 v10 (x 1)).bind fun v11=>
cnd v11 (
(bn .add 30 (x 7) (.int .u64 1)).bind fun v12=>
(bn .add 3 (x 8) (.int .i64 1)).bind fun v13=>
k .normal ⟨ar 74 (up x [(7,v12),(8,v13),(10,(x 8)),(11,(x 0)),(12,v0),(13,v1),(14,v2),(15,v3),(16,v4),(17,(x 8)),(18,v13),(19,(x 0)),(20,v5),(21,v6),(22,v7),(23,(x 8)),(24,v8),(25,v9),(26,v10),(27,(x 1)),(28,v11),(29,(x 7)),(30,v12)]),h⟩) (
(bn .add 3 (x 8) (.int .i64 1)).bind fun v14=>
k .normal ⟨ar 74 (up x [(8,v14),(10,(x 8)),(11,(x 0)),(12,v0),(13,v1),(14,v2),(15,v3),(16,v4),(17,(x 8)),(18,v14),(19,(x 0)),(20,v5),(21,v6),(22,v7),(23,(x 8)),(24,v8),(25,v9),(26,v10),(27,(x 1)),(28,v11)]),h⟩)) (
k (.exit 0) ⟨ar 74 (up x [(10,(x 8)),(11,(x 0)),(12,v0),(13,v1),(14,v2),(15,v3),(16,v4)]),h⟩):=by kernel_rfl
theorem c22_2_eq:cK c22_2 74 x h k =
(zAm Tryz.prog (x 0)).bind fun v15=>
(fa 78 v15 1).bind fun v16=>
(ld 74 v16 h).bind fun v17=>
(ln 74 v17 h).bind fun v18=>
(zAm Tryz.prog (x 0)).bind fun v19=>
(fa 78 v19 1).bind fun v20=>
(ld 74 v20 h).bind fun v21=>
obH (zAi Tryz.prog 71 0 #[] h) fun v22 h23=>
(zAm Tryz.prog (x 0)).bind fun v24=>
(fa 78 v24 2).bind fun v25=>
(ld 75 v25 h23).bind fun v26=>
(ia 75 v26 (x 1)).bind fun v27=>
(ld 71 v27 h23).bind fun v28=>
obH (ap 71 (some 71) v22 v28 (nm h23)) fun v29 h30=>
(buildV Tryz.prog 73 #[(0,(x 1)),(1,(x 7)),(2,(x 2)),(3,v29)]).bind fun v31=>
obH (zAi Tryz.prog 74 1 #[(0,v31)] (am h30 h23)) fun v32 h33=>
obH (ap 74 (some 74) v21 v32 h33) fun v34 h35=>
(zAm Tryz.prog (x 0)).bind fun v36=>
(fa 78 v36 1).bind fun v37=>
(sto 74 v37 v34 h35).bind fun h38=>
chk ((rb v20)++[]) (h30.mods++[]) (
(zAm Tryz.prog (x 0)).bind fun v39=>
(fa 78 v39 2).bind fun v40=>
(ld 75 v40 h38).bind fun v41=>
(zAm Tryz.prog (x 0)).bind fun v42=>
(fa 78 v42 2).bind fun v43=>
(ld 75 v43 h38).bind fun v44=>
(ia 75 v44 (x 1)).bind fun v45=>
(ld 71 v45 h38).bind fun v46=>
obH (ev 58 #[v46,(.slice Option.none 0 0),v18] (nm h38)) fun v47 h48=>
(ia 75 v41 (x 1)).bind fun v49=>
(sto 71 v49 v47 (am h48 h38)).bind fun h50=>
chk ((rb v40)++[]) (h48.mods++[]) (
k .ret ⟨ar 74 (up x [(6,v18),(9,v18),(31,(x 0)),(32,v15),(33,v16),(34,v17),(35,v18),(36,(x 0)),(37,(x 0)),(38,v19),(39,v20),(40,v21),(41,(x 1)),(42,(x 7)),(43,(x 2)),(44,v22),(45,(x 0)),(46,v24),(47,v25),(48,v26),(49,(x 1)),(50,v27),(51,v28),(52,v29),(53,v31),(54,v32),(55,v34),(56,v36),(57,v37),(58,(x 0)),(59,v39),(60,v40),(61,v41),(62,(x 1)),(63,(x 0)),(64,v42),(65,v43),(66,v44),(67,(x 1)),(68,v45),(69,v46),(70,v18),(71,v47),(72,v49),(73,v18)]),h50⟩)):=by kernel_rfl
theorem call22 (a0 a1 a2:Value):evC Tryz.prog 22 #[a0,a1,a2] h=cK c22_0 74 (up un [(0,a0),(1,a1),(2,a2)]) (nm h) (zBb Tryz.f22 Tryz.prog h):=
 (zAo 22 Tryz.f22 c22_0 Tryz.func22 (by kernel_rfl) #[a0,a1,a2] h).trans (by kernel_rfl)
theorem ret22:zBb Tryz.f22 Tryz.prog g .ret ⟨ar 74 x,h⟩=fin g (some (x 6)) h:=by kernel_rfl
end Go.Am
