/- What the texts of functions come to in the machine (printed by a program of this seat; Lean checks it). -/
import Derived.Test.YtckmbpfimofhdaaKB
import Derived.Test.YtckmbpfimofhdaaChecked
import Derived.KernelRfl
set_option linter.all false
namespace Go.Am
open Go.Proofs
set_option maxRecDepth 100000
variable (Aa Ab Ac Ad Ae Af Ag Ah : Value)
noncomputable def c15_0 : Code := bodyC Try.f15 []
theorem c15_0_eq {β : Type} (h : Heap) (k : Ex → St → Option β) : codeK Try.prog (evC Try.prog) loopL c15_0 ⟨#[Aa,Ab,Ac,Ad,Ae,Af,Ag,Ah], h⟩ k =
(binV Try.prog .eql 31 (.tmp 3) (.const (Go.Value.slice Option.none 0 0)) Aa (Go.Value.slice Option.none 0 0)).bind fun t4_0 =>
cnd t4_0 (
k .ret ⟨#[Aa,Ab, (Go.Value.slice Option.none 0 0),Aa, t4_0,Af,Ag,Ah], h⟩) (
obH (buildSliceV Try.prog 31 0 #[] h) fun t5_1 h2 =>
obH (appendV Try.prog 31 (some 31) t5_1 Aa h2) fun t7_3 h4 =>
k .ret ⟨#[Aa,Ab, t7_3,Aa, t4_0, t5_1,Aa, t7_3], h4⟩) := by kernel_rfl
theorem call15 (h : Heap) : evC Try.prog 15 #[Aa] h = codeK Try.prog (evC Try.prog) loopL c15_0 ⟨#[Aa, undef, undef, undef, undef, undef, undef, undef], nm h⟩ (retK Try.f15 Try.prog h) :=
  (evC_call 15 Try.f15 c15_0 Try.func15 (by kernel_rfl) #[Aa] h).trans (by kernel_rfl)
theorem ret15 (h0 h : Heap) : retK Try.f15 Try.prog h0 .ret ⟨#[Aa,Ab,Ac,Ad,Ae,Af,Ag,Ah], h⟩ = fin h0 (some Ac) h := by kernel_rfl
end Go.Am
namespace Go.Am
open Go.Proofs
set_option maxRecDepth 100000
variable (Aa Ab Ac Ad Ae Af Ag Ah Ai Aj Ak Al An Ao Ap : Value)
noncomputable def c8_0 : Code := bodyC Try.f8 []
theorem c8_0_eq {β : Type} (h : Heap) (k : Ex → St → Option β) : codeK Try.prog (evC Try.prog) loopL c8_0 ⟨#[Aa,Ab,Ac,Ad,Ae,Af,Ag,Ah,Ai,Aj,Ak,Al,An,Ao,Ap], h⟩ k =
(binV Try.prog .lss 3 (.tmp 4) (.const (Go.Value.int Go.IntKind.i64 1)) Aa (Go.Value.int Go.IntKind.i64 1)).bind fun t5_0 =>
(gd (wt t5_0 false) (binV Try.prog .gtr 3 (.tmp 7) (.const (Go.Value.int Go.IntKind.i64 16)) (gdV (wt t5_0 false) Aa) (Go.Value.int Go.IntKind.i64 16))).bind fun t8_1 =>
(pickV t5_0 (Go.Value.bool Bool.true) t8_1).bind fun t9_2 =>
cnd t9_2 (
k .ret ⟨#[Aa,Ab, (Go.Value.pointer Option.none), (Go.Value.int Go.IntKind.i64 1),Aa, t5_0, t5_0, (gdV (wt t5_0 false) Aa), t8_1, t9_2,Ak,Al,An,Ao,Ap], h⟩) (
obH (convV Try.prog 3 30 Aa h) fun t11_3 h4 =>
obH (some (makeMapV h4)) fun t12_5 h6 =>
(buildV Try.prog 55 #[(0, t11_3), (1, (Go.Value.int Go.IntKind.u64 1)), (2, t12_5)]).bind fun t13_7 =>
obH (boxV Try.prog 55 t13_7 h6) fun t14_8 h9 =>
k .ret ⟨#[Aa,Ab, t14_8, (Go.Value.int Go.IntKind.i64 0),Aa, t5_0, t5_0, (gdV (wt t5_0 false) Aa), t8_1, t9_2,Aa, t11_3, t12_5, t13_7, t14_8], h9⟩) := by kernel_rfl
theorem call8 (h : Heap) : evC Try.prog 8 #[Aa] h = codeK Try.prog (evC Try.prog) loopL c8_0 ⟨#[Aa, undef, undef, undef, undef, undef, undef, undef, undef, undef, undef, undef, undef, undef, undef], nm h⟩ (retK Try.f8 Try.prog h) :=
  (evC_call 8 Try.f8 c8_0 Try.func8 (by kernel_rfl) #[Aa] h).trans (by kernel_rfl)
theorem ret8 (h0 h : Heap) : retK Try.f8 Try.prog h0 .ret ⟨#[Aa,Ab,Ac,Ad,Ae,Af,Ag,Ah,Ai,Aj,Ak,Al,An,Ao,Ap], h⟩ = fin h0 (some (.tuple #[Ac,Ad])) h := by kernel_rfl
end Go.Am
namespace Go.Am
open Go.Proofs
set_option maxRecDepth 100000
variable (Aa Ab Ac Ad Ae Af Ag Ah Ai Aj Ak Al An Ao Ap Aq Ar As At Au Av Aw Ax Ay Az Ba Bb Bc Bd Be Bf Bg Bh Bi Bj Bk Bl Bn Bo Bp Bq Br Bs Bt Bu Bv Bw By Bz Ca Cb Cc Cd Ce Cf Cg Ch Ci Cj Ck Cl Cm Cn Co Cp Cq Cr Cs Ct Cu Cv Cw Cx Cy Cz Da Db Dc Dd De Df Dg Dh Di Dj : Value)
noncomputable def c9_0 : Code := bodyC Try.f9 []
noncomputable def c9_1 : Code := bodyC Try.f9 [true, true, true, true, false, false]
theorem c9_0_eq {β : Type} (h : Heap) (k : Ex → St → Option β) : codeK Try.prog (evC Try.prog) loopL c9_0 ⟨#[Aa,Ab,Ac,Ad,Ae,Af,Ag,Ah,Ai,Aj,Ak,Al,An,Ao,Ap,Aq,Ar,As,At,Au,Av,Aw,Ax,Ay,Az,Ba,Bb,Bc,Bd,Be,Bf,Bg,Bh,Bi,Bj,Bk,Bl,Bn,Bo,Bp,Bq,Br,Bs,Bt,Bu,Bv,Bw,By,Bz,Ca,Cb,Cc,Cd,Ce,Cf,Cg,Ch,Ci,Cj,Ck,Cl,Cm,Cn,Co,Cp,Cq,Cr,Cs,Ct,Cu,Cv,Cw,Cx,Cy,Cz,Da,Db,Dc,Dd,De,Df,Dg,Dh,Di,Dj], h⟩ k =
(nilCheckV Try.prog Aa).bind fun t15_0 =>
(fieldAddrV Try.prog 55 t15_0 2).bind fun t16_1 =>
(loadV Try.prog 53 t16_1 h).bind fun t17_2 =>
(lookupV Try.prog 53 t17_2 Ab true h).bind fun t19_3 =>
(extractV t19_3 0).bind fun t20_4 =>
(extractV t19_3 1).bind fun t21_5 =>
(gd (wt t21_5 false) (nilCheckV Try.prog (gdV (wt t21_5 false) Aa))).bind fun t26_6 =>
(gd (wt t21_5 false) (fieldAddrV Try.prog 55 t26_6 1)).bind fun t27_7 =>
(gd (wt t21_5 false) (loadV Try.prog 30 t27_7 h)).bind fun t28_8 =>
(gd (wt t21_5 false) (binV Try.prog .lss 30 (.tmp 24) (.tmp 28) (gdV (wt t21_5 false) Ab) t28_8)).bind fun t29_9 =>
(pickV t21_5 (Go.Value.bool Bool.true) t29_9).bind fun t30_10 =>
(gd (wt t30_10 false) (nilCheckV Try.prog (gdV (wt t30_10 false) Aa))).bind fun t34_11 =>
(gd (wt t30_10 false) (fieldAddrV Try.prog 55 t34_11 1)).bind fun t35_12 =>
(gd (wt t30_10 false) (loadV Try.prog 30 t35_12 h)).bind fun t36_13 =>
(gd (wt t30_10 false) (binV Try.prog .sub 30 (.tmp 32) (.tmp 36) (gdV (wt t30_10 false) Ab) t36_13)).bind fun t37_14 =>
(gd (wt t30_10 false) (nilCheckV Try.prog (gdV (wt t30_10 false) Aa))).bind fun t39_15 =>
(gd (wt t30_10 false) (fieldAddrV Try.prog 55 t39_15 0)).bind fun t40_16 =>
(gd (wt t30_10 false) (loadV Try.prog 30 t40_16 h)).bind fun t41_17 =>
(gd (wt t30_10 false) (binV Try.prog .geq 30 (.tmp 37) (.tmp 41) t37_14 t41_17)).bind fun t42_18 =>
(pickV t30_10 (Go.Value.bool Bool.true) t42_18).bind fun t43_19 =>
cnd t43_19 (
k .ret ⟨#[Aa,Ab,Ac,Ad,Ae,Af, (Go.Value.slice Option.none 0 0), (Go.Value.bool Bool.false), t20_4, t21_5,Ak,Al,An, t19_3,Aa, t15_0, t16_1, t17_2,Ab, t19_3, t20_4, t21_5, t21_5, t21_5, (gdV (wt t21_5 false) Ab), (gdV (wt t21_5 false) Aa), t26_6, t27_7, t28_8, t29_9, t30_10, t30_10, (gdV (wt t30_10 false) Ab), (gdV (wt t30_10 false) Aa), t34_11, t35_12, t36_13, t37_14, (gdV (wt t30_10 false) Aa), t39_15, t40_16, t41_17, t42_18, t43_19,Bu,Bv,Bw,By,Bz,Ca,Cb,Cc,Cd,Ce,Cf,Cg,Ch,Ci,Cj,Ck,Cl,Cm,Cn,Co,Cp,Cq,Cr,Cs,Ct,Cu,Cv,Cw,Cx,Cy,Cz,Da,Db,Dc,Dd,De,Df,Dg,Dh,Di,Dj], h⟩) (
(nilCheckV Try.prog Aa).bind fun t45_20 =>
(fieldAddrV Try.prog 55 t45_20 2).bind fun t46_21 =>
(loadV Try.prog 53 t46_21 h).bind fun t47_22 =>
obH (evC Try.prog 15 #[Ac] (nm h)) fun t50_23 h24 =>
(mapUpdateV Try.prog 53 t47_22 Ab t50_23 (am h24 h)).bind fun h25 =>
chk ((rb t46_21) ++ []) (h24.mods ++ []) (
loopK Try.prog (evC Try.prog) c9_1 ⟨#[Aa,Ab,Ac,Ad,Ae,Af, (Go.Value.slice Option.none 0 0), (Go.Value.bool Bool.false), t20_4, t21_5, (Go.Value.slice Option.none 0 0),Al,An, t19_3,Aa, t15_0, t16_1, t17_2,Ab, t19_3, t20_4, t21_5, t21_5, t21_5, (gdV (wt t21_5 false) Ab), (gdV (wt t21_5 false) Aa), t26_6, t27_7, t28_8, t29_9, t30_10, t30_10, (gdV (wt t30_10 false) Ab), (gdV (wt t30_10 false) Aa), t34_11, t35_12, t36_13, t37_14, (gdV (wt t30_10 false) Aa), t39_15, t40_16, t41_17, t42_18, t43_19,Aa, t45_20, t46_21, t47_22,Ab,Ac, t50_23,Cc,Cd,Ce,Cf,Cg,Ch,Ci,Cj,Ck,Cl,Cm,Cn,Co,Cp,Cq,Cr,Cs,Ct,Cu,Cv,Cw,Cx,Cy,Cz,Da,Db,Dc,Dd,De,Df,Dg,Dh,Di,Dj], h25⟩ (blockK 0 k))) := by kernel_rfl
theorem c9_1_eq {β : Type} (h : Heap) (k : Ex → St → Option β) : codeK Try.prog (evC Try.prog) loopL c9_1 ⟨#[Aa,Ab,Ac,Ad,Ae,Af,Ag,Ah,Ai,Aj,Ak,Al,An,Ao,Ap,Aq,Ar,As,At,Au,Av,Aw,Ax,Ay,Az,Ba,Bb,Bc,Bd,Be,Bf,Bg,Bh,Bi,Bj,Bk,Bl,Bn,Bo,Bp,Bq,Br,Bs,Bt,Bu,Bv,Bw,By,Bz,Ca,Cb,Cc,Cd,Ce,Cf,Cg,Ch,Ci,Cj,Ck,Cl,Cm,Cn,Co,Cp,Cq,Cr,Cs,Ct,Cu,Cv,Cw,Cx,Cy,Cz,Da,Db,Dc,Dd,De,Df,Dg,Dh,Di,Dj], h⟩ k =
(nilCheckV Try.prog Aa).bind fun t53_26 =>
(fieldAddrV Try.prog 55 t53_26 2).bind fun t54_27 =>
(loadV Try.prog 53 t54_27 h).bind fun t55_28 =>
(nilCheckV Try.prog Aa).bind fun t57_29 =>
(fieldAddrV Try.prog 55 t57_29 1).bind fun t58_30 =>
(loadV Try.prog 30 t58_30 h).bind fun t59_31 =>
(lookupV Try.prog 53 t55_28 t59_31 true h).bind fun t60_32 =>
(extractV t60_32 0).bind fun t61_33 =>
(extractV t60_32 1).bind fun t62_34 =>
(unV Try.prog .not t62_34).bind fun t64_35 =>
cnd t64_35 (
k .ret ⟨#[Aa,Ab,Ac,Ad,Ae,Af,Ak, (Go.Value.bool Bool.true),Ai,Aj,Ak, t61_33, t62_34,Ao,Ap,Aq,Ar,As,At,Au,Av,Aw,Ax,Ay,Az,Ba,Bb,Bc,Bd,Be,Bf,Bg,Bh,Bi,Bj,Bk,Bl,Bn,Bo,Bp,Bq,Br,Bs,Bt,Bu,Bv,Bw,By,Bz,Ca,Cb, t60_32,Aa, t53_26, t54_27, t55_28,Aa, t57_29, t58_30, t59_31, t60_32, t61_33, t62_34, t62_34, t64_35,Ak,Cr,Cs,Ct,Cu,Cv,Cw,Cx,Cy,Cz,Da,Db,Dc,Dd,De,Df,Dg,Dh,Di,Dj], h⟩) (
obH (buildSliceV Try.prog 27 1 #[(0, t61_33)] h) fun t68_36 h37 =>
obH (appendV Try.prog 27 (some 27) Ak t68_36 h37) fun t69_38 h39 =>
(nilCheckV Try.prog Aa).bind fun t71_40 =>
(fieldAddrV Try.prog 55 t71_40 2).bind fun t72_41 =>
(loadV Try.prog 53 t72_41 h39).bind fun t73_42 =>
(nilCheckV Try.prog Aa).bind fun t75_43 =>
(fieldAddrV Try.prog 55 t75_43 1).bind fun t76_44 =>
(loadV Try.prog 30 t76_44 h39).bind fun t77_45 =>
obH (builtinV Try.prog .delete #[53, 30] #[t73_42, t77_45] h39) fun u46 h47 =>
(nilCheckV Try.prog Aa).bind fun t79_48 =>
(fieldAddrV Try.prog 55 t79_48 1).bind fun t80_49 =>
(loadV Try.prog 30 t80_49 h47).bind fun t81_50 =>
(binV Try.prog .add 30 (.tmp 81) (.const (Go.Value.int Go.IntKind.u64 1)) t81_50 (Go.Value.int Go.IntKind.u64 1)).bind fun t82_51 =>
(nilCheckV Try.prog Aa).bind fun t83_52 =>
(fieldAddrV Try.prog 55 t83_52 1).bind fun t84_53 =>
(storeV Try.prog 30 t84_53 t82_51 h47).bind fun h54 =>
k .normal ⟨#[Aa,Ab,Ac,Ad,Ae,Af,Ag,Ah,Ai,Aj, t69_38, t61_33, t62_34,Ao,Ap,Aq,Ar,As,At,Au,Av,Aw,Ax,Ay,Az,Ba,Bb,Bc,Bd,Be,Bf,Bg,Bh,Bi,Bj,Bk,Bl,Bn,Bo,Bp,Bq,Br,Bs,Bt,Bu,Bv,Bw,By,Bz,Ca,Cb, t60_32,Aa, t53_26, t54_27, t55_28,Aa, t57_29, t58_30, t59_31, t60_32, t61_33, t62_34, t62_34, t64_35,Cq,Ak, t61_33, t68_36, t69_38,Aa, t71_40, t72_41, t73_42,Aa, t75_43, t76_44, t77_45,Aa, t79_48, t80_49, t81_50, t82_51, t83_52, t84_53], h54⟩) := by kernel_rfl
theorem call9 (h : Heap) : evC Try.prog 9 #[Aa,Ab,Ac] h = codeK Try.prog (evC Try.prog) loopL c9_0 ⟨#[Aa,Ab,Ac, undef, undef, undef, undef, undef, undef, undef, undef, undef, undef, undef, undef, undef, undef, undef, undef, undef, undef, undef, undef, undef, undef, undef, undef, undef, undef, undef, undef, undef, undef, undef, undef, undef, undef, undef, undef, undef, undef, undef, undef, undef, undef, undef, undef, undef, undef, undef, undef, undef, undef, undef, undef, undef, undef, undef, undef, undef, undef, undef, undef, undef, undef, undef, undef, undef, undef, undef, undef, undef, undef, undef, undef, undef, undef, undef, undef, undef, undef, undef, undef, undef, undef], nm h⟩ (retK Try.f9 Try.prog h) :=
  (evC_call 9 Try.f9 c9_0 Try.func9 (by kernel_rfl) #[Aa,Ab,Ac] h).trans (by kernel_rfl)
theorem ret9 (h0 h : Heap) : retK Try.f9 Try.prog h0 .ret ⟨#[Aa,Ab,Ac,Ad,Ae,Af,Ag,Ah,Ai,Aj,Ak,Al,An,Ao,Ap,Aq,Ar,As,At,Au,Av,Aw,Ax,Ay,Az,Ba,Bb,Bc,Bd,Be,Bf,Bg,Bh,Bi,Bj,Bk,Bl,Bn,Bo,Bp,Bq,Br,Bs,Bt,Bu,Bv,Bw,By,Bz,Ca,Cb,Cc,Cd,Ce,Cf,Cg,Ch,Ci,Cj,Ck,Cl,Cm,Cn,Co,Cp,Cq,Cr,Cs,Ct,Cu,Cv,Cw,Cx,Cy,Cz,Da,Db,Dc,Dd,De,Df,Dg,Dh,Di,Dj], h⟩ = fin h0 (some (.tuple #[Ag,Ah])) h := by kernel_rfl
end Go.Am
namespace Go.Am
open Go.Proofs
set_option maxRecDepth 100000
variable (Aa Ab Ac Ad Ae Af Ag : Value)
noncomputable def c14_0 : Code := bodyC Try.f14 []
theorem c14_0_eq {β : Type} (h : Heap) (k : Ex → St → Option β) : codeK Try.prog (evC Try.prog) loopL c14_0 ⟨#[Aa,Ab,Ac,Ad,Ae,Af,Ag], h⟩ k =
(nilCheckV Try.prog Aa).bind fun t4_0 =>
(fieldAddrV Try.prog 55 t4_0 1).bind fun t5_1 =>
(loadV Try.prog 30 t5_1 h).bind fun t6_2 =>
k .ret ⟨#[Aa,Ab, t6_2,Aa, t4_0, t5_1, t6_2], h⟩ := by kernel_rfl
theorem call14 (h : Heap) : evC Try.prog 14 #[Aa] h = codeK Try.prog (evC Try.prog) loopL c14_0 ⟨#[Aa, undef, undef, undef, undef, undef, undef], nm h⟩ (retK Try.f14 Try.prog h) :=
  (evC_call 14 Try.f14 c14_0 Try.func14 (by kernel_rfl) #[Aa] h).trans (by kernel_rfl)
theorem ret14 (h0 h : Heap) : retK Try.f14 Try.prog h0 .ret ⟨#[Aa,Ab,Ac,Ad,Ae,Af,Ag], h⟩ = fin h0 (some Ac) h := by kernel_rfl
end Go.Am
namespace Go.Am
open Go.Proofs
set_option maxRecDepth 100000
variable (Aa Ab Ac Ad Ae Af Ag Ah Ai Aj Ak Al An Ao Ap Aq Ar As At Au Av Aw Ax Ay Az Ba Bb : Value)
noncomputable def c11_0 : Code := bodyC Try.f11 []
noncomputable def c11_1 : Code := bodyC Try.f11 [true, true, false, true, false, false]
noncomputable def c11_2 : Code := bodyC Try.f11 [true, true, true]
theorem c11_0_eq {β : Type} (h : Heap) (k : Ex → St → Option β) : codeK Try.prog (evC Try.prog) loopL c11_0 ⟨#[Aa,Ab,Ac,Ad,Ae,Af,Ag,Ah,Ai,Aj,Ak,Al,An,Ao,Ap,Aq,Ar,As,At,Au,Av,Aw,Ax,Ay,Az,Ba,Bb], h⟩ k =
(lenV Try.prog 27 Aa h).bind fun t7_0 =>
(lenV Try.prog 35 Ab h).bind fun t9_1 =>
(binV Try.prog .neq 3 (.tmp 7) (.tmp 9) t7_0 t9_1).bind fun t10_2 =>
cnd t10_2 (
k .ret ⟨#[Aa,Ab,Ac,Ad, (Go.Value.bool Bool.false),Af,Aa, t7_0,Ab, t9_1, t10_2,Al,An,Ao,Ap,Aq,Ar,As,At,Au,Av,Aw,Ax,Ay,Az,Ba,Bb], h⟩) (
loopK Try.prog (evC Try.prog) c11_1 ⟨#[Aa,Ab,Ac,Ad, (Go.Value.bool Bool.false), (Go.Value.int Go.IntKind.i64 0),Aa, t7_0,Ab, t9_1, t10_2,Al,An,Ao,Ap,Aq,Ar,As,At,Au,Av,Aw,Ax,Ay,Az,Ba,Bb], h⟩ (blockK 0 (seqK Try.prog (evC Try.prog) c11_2 k))) := by kernel_rfl
theorem c11_1_eq {β : Type} (h : Heap) (k : Ex → St → Option β) : codeK Try.prog (evC Try.prog) loopL c11_1 ⟨#[Aa,Ab,Ac,Ad,Ae,Af,Ag,Ah,Ai,Aj,Ak,Al,An,Ao,Ap,Aq,Ar,As,At,Au,Av,Aw,Ax,Ay,Az,Ba,Bb], h⟩ k =
(lenV Try.prog 27 Aa h).bind fun t13_3 =>
(binV Try.prog .lss 3 (.tmp 11) (.tmp 13) Af t13_3).bind fun t14_4 =>
cnd t14_4 (
(indexAddrV Try.prog 27 Aa Af).bind fun t19_5 =>
(loadV Try.prog 31 t19_5 h).bind fun t20_6 =>
obH (convV Try.prog 31 9 t20_6 h) fun t21_7 h8 =>
(indexAddrV Try.prog 35 Ab Af).bind fun t24_9 =>
(loadV Try.prog 9 t24_9 h8).bind fun t25_10 =>
(binV Try.prog .neq 9 (.tmp 21) (.tmp 25) t21_7 t25_10).bind fun t26_11 =>
cnd t26_11 (
k .ret ⟨#[Aa,Ab,Ac,Ad, (Go.Value.bool Bool.false),Af,Ag,Ah,Ai,Aj,Ak,Af,Aa, t13_3, t14_4,Aq,Ar,Aa,Af, t19_5, t20_6, t21_7,Ab,Af, t24_9, t25_10, t26_11], h8⟩) (
(binV Try.prog .add 3 (.tmp 15) (.const (Go.Value.int Go.IntKind.i64 1)) Af (Go.Value.int Go.IntKind.i64 1)).bind fun t16_12 =>
k .normal ⟨#[Aa,Ab,Ac,Ad,Ae, t16_12,Ag,Ah,Ai,Aj,Ak,Af,Aa, t13_3, t14_4,Af, t16_12,Aa,Af, t19_5, t20_6, t21_7,Ab,Af, t24_9, t25_10, t26_11], h8⟩)) (
k (.exit 0) ⟨#[Aa,Ab,Ac,Ad,Ae,Af,Ag,Ah,Ai,Aj,Ak,Af,Aa, t13_3, t14_4,Aq,Ar,As,At,Au,Av,Aw,Ax,Ay,Az,Ba,Bb], h⟩) := by kernel_rfl
theorem c11_2_eq {β : Type} (h : Heap) (k : Ex → St → Option β) : codeK Try.prog (evC Try.prog) loopL c11_2 ⟨#[Aa,Ab,Ac,Ad,Ae,Af,Ag,Ah,Ai,Aj,Ak,Al,An,Ao,Ap,Aq,Ar,As,At,Au,Av,Aw,Ax,Ay,Az,Ba,Bb], h⟩ k =
k .ret ⟨#[Aa,Ab,Ac,Ad, (Go.Value.bool Bool.true),Af,Ag,Ah,Ai,Aj,Ak,Al,An,Ao,Ap,Aq,Ar,As,At,Au,Av,Aw,Ax,Ay,Az,Ba,Bb], h⟩ := by kernel_rfl
theorem call11 (h : Heap) : evC Try.prog 11 #[Aa,Ab] h = codeK Try.prog (evC Try.prog) loopL c11_0 ⟨#[Aa,Ab, undef, undef, undef, undef, undef, undef, undef, undef, undef, undef, undef, undef, undef, undef, undef, undef, undef, undef, undef, undef, undef, undef, undef, undef, undef], nm h⟩ (retK Try.f11 Try.prog h) :=
  (evC_call 11 Try.f11 c11_0 Try.func11 (by kernel_rfl) #[Aa,Ab] h).trans (by kernel_rfl)
theorem ret11 (h0 h : Heap) : retK Try.f11 Try.prog h0 .ret ⟨#[Aa,Ab,Ac,Ad,Ae,Af,Ag,Ah,Ai,Aj,Ak,Al,An,Ao,Ap,Aq,Ar,As,At,Au,Av,Aw,Ax,Ay,Az,Ba,Bb], h⟩ = fin h0 (some Ae) h := by kernel_rfl
end Go.Am
namespace Go.Am
open Go.Proofs
set_option maxRecDepth 100000
variable (Aa Ab Ac Ad Ae Af Ag Ah Ai Aj Ak Al An Ao Ap Aq Ar As At Au Av Aw Ax Ay Az Ba Bb Bc Bd Be Bf Bg Bh Bi Bj Bk Bl Bn Bo Bp Bq Br Bs Bt Bu Bv Bw By Bz Ca : Value)
noncomputable def c7_0 : Code := bodyC Try.f7 []
theorem c7_0_eq {β : Type} (h : Heap) (k : Ex → St → Option β) : codeK Try.prog (evC Try.prog) loopL c7_0 ⟨#[Aa,Ab,Ac,Ad,Ae,Af,Ag,Ah,Ai,Aj,Ak,Al,An,Ao,Ap,Aq,Ar,As,At,Au,Av,Aw,Ax,Ay,Az,Ba,Bb,Bc,Bd,Be,Bf,Bg,Bh,Bi,Bj,Bk,Bl,Bn,Bo,Bp,Bq,Br,Bs,Bt,Bu,Bv,Bw,By,Bz,Ca], h⟩ k =
obH (evC Try.prog 8 #[(Go.Value.int Go.IntKind.i64 4)] h) fun t8_0 h1 =>
(extractV t8_0 0).bind fun t9_2 =>
(extractV t8_0 1).bind fun t10_3 =>
(binV Try.prog .neq 24 (.tmp 11) (.const (Go.Value.int Go.IntKind.i64 0)) t10_3 (Go.Value.int Go.IntKind.i64 0)).bind fun t12_4 =>
(gd (wt t12_4 false) (binV Try.prog .eql 23 (.tmp 14) (.const (Go.Value.pointer Option.none)) (gdV (wt t12_4 false) t9_2) (Go.Value.pointer Option.none))).bind fun t15_5 =>
(pickV t12_4 (Go.Value.bool Bool.true) t15_5).bind fun t16_6 =>
cnd t16_6 (
k .ret ⟨#[(Go.Value.bool Bool.false), t9_2, t10_3,Ad,Ae,Af,Ag, t8_0, t8_0, t9_2, t10_3, t10_3, t12_4, t12_4, (gdV (wt t12_4 false) t9_2), t15_5, t16_6,As,At,Au,Av,Aw,Ax,Ay,Az,Ba,Bb,Bc,Bd,Be,Bf,Bg,Bh,Bi,Bj,Bk,Bl,Bn,Bo,Bp,Bq,Br,Bs,Bt,Bu,Bv,Bw,By,Bz,Ca], h1⟩) (
obH (buildSliceV Try.prog 31 1 #[(0, (Go.Value.int Go.IntKind.u8 98))] h1) fun t19_7 h8 =>
obH (convV Try.prog 31 31 t19_7 h8) fun t20_9 h10 =>
obH (evC Try.prog 9 #[t9_2, (Go.Value.int Go.IntKind.u64 2), t20_9] h10) fun t21_11 h12 =>
(extractV t21_11 0).bind fun t22_13 =>
(extractV t21_11 1).bind fun t23_14 =>
obH (buildSliceV Try.prog 31 1 #[(0, (Go.Value.int Go.IntKind.u8 97))] h12) fun t26_15 h16 =>
obH (convV Try.prog 31 31 t26_15 h16) fun t27_17 h18 =>
obH (evC Try.prog 9 #[t9_2, (Go.Value.int Go.IntKind.u64 1), t27_17] h18) fun t28_19 h20 =>
(extractV t28_19 0).bind fun t29_21 =>
(extractV t28_19 1).bind fun t30_22 =>
(lenV Try.prog 27 t22_13 h20).bind fun t32_23 =>
(binV Try.prog .eql 3 (.tmp 32) (.const (Go.Value.int Go.IntKind.i64 0)) t32_23 (Go.Value.int Go.IntKind.i64 0)).bind fun t33_24 =>
(pickV t33_24 (gdV (wt t33_24 true) t23_14) (Go.Value.bool Bool.false)).bind fun t36_25 =>
obH (gdH (wt t36_25 true) h20 (buildSliceV Try.prog 35 2 #[(0, (Go.Value.string { data := #[97] })), (1, (Go.Value.string { data := #[98] }))] h20)) fun t39_26 h27 =>
obH (gdH (wt t36_25 true) h27 (evC Try.prog 11 #[(gdV (wt t36_25 true) t29_21), t39_26] h27)) fun t40_28 h29 =>
(pickV t36_25 t40_28 (Go.Value.bool Bool.false)).bind fun t41_30 =>
(pickV t41_30 (gdV (wt t41_30 true) t30_22) (Go.Value.bool Bool.false)).bind fun t44_31 =>
obH (gdH (wt t44_31 true) h29 (evC Try.prog 14 #[(gdV (wt t44_31 true) t9_2)] h29)) fun t47_32 h33 =>
(gd (wt t44_31 true) (binV Try.prog .eql 30 (.tmp 47) (.const (Go.Value.int Go.IntKind.u64 3)) t47_32 (Go.Value.int Go.IntKind.u64 3))).bind fun t48_34 =>
(pickV t44_31 t48_34 (Go.Value.bool Bool.false)).bind fun t49_35 =>
k .ret ⟨#[t49_35, t9_2, t10_3, t22_13, t23_14, t29_21, t30_22, t8_0, t8_0, t9_2, t10_3, t10_3, t12_4, t12_4, (gdV (wt t12_4 false) t9_2), t15_5, t16_6, t21_11, t9_2, t19_7, t20_9, t21_11, t22_13, t23_14, t28_19, t9_2, t26_15, t27_17, t28_19, t29_21, t30_22, t22_13, t32_23, t33_24, t33_24, (gdV (wt t33_24 true) t23_14), t36_25, t36_25, (gdV (wt t36_25 true) t29_21), t39_26, t40_28, t41_30, t41_30, (gdV (wt t41_30 true) t30_22), t44_31, t44_31, (gdV (wt t44_31 true) t9_2), t47_32, t48_34, t49_35], h33⟩) := by kernel_rfl
theorem call7 (h : Heap) : evC Try.prog 7 #[] h = codeK Try.prog (evC Try.prog) loopL c7_0 ⟨#[undef, undef, undef, undef, undef, undef, undef, undef, undef, undef, undef, undef, undef, undef, undef, undef, undef, undef, undef, undef, undef, undef, undef, undef, undef, undef, undef, undef, undef, undef, undef, undef, undef, undef, undef, undef, undef, undef, undef, undef, undef, undef, undef, undef, undef, undef, undef, undef, undef, undef], nm h⟩ (retK Try.f7 Try.prog h) :=
  (evC_call 7 Try.f7 c7_0 Try.func7 (by kernel_rfl) #[] h).trans (by kernel_rfl)
theorem ret7 (h0 h : Heap) : retK Try.f7 Try.prog h0 .ret ⟨#[Aa,Ab,Ac,Ad,Ae,Af,Ag,Ah,Ai,Aj,Ak,Al,An,Ao,Ap,Aq,Ar,As,At,Au,Av,Aw,Ax,Ay,Az,Ba,Bb,Bc,Bd,Be,Bf,Bg,Bh,Bi,Bj,Bk,Bl,Bn,Bo,Bp,Bq,Br,Bs,Bt,Bu,Bv,Bw,By,Bz,Ca], h⟩ = fin h0 (some Aa) h := by kernel_rfl
end Go.Am
namespace Go.Am
open Go.Proofs
set_option maxRecDepth 100000
variable {β : Type} (x : Nat → Value) (h : Heap) (k : Ex → St → Option β) (r m : List Nat) (g : Heap)
noncomputable def c6_0 : Code := bodyC Try.f6 []
noncomputable def c6_1 : Code := bodyC Try.f6 [true, true, true, true, true, true, false, true, false, false]
noncomputable def c6_2 : Code := bodyC Try.f6 [true, true, true, true, true, true, true]
theorem c6_0_eq : cK c6_0 127 x h k =
obH (ev 7 #[] h) fun v0 h1 =>
(unV Try.prog .not v0).bind fun v2 =>
cnd v2 (
k .ret ⟨ar 127 (up x [(4,(.bool false)),(16,v0),(17,v2)]), h1⟩) (
(ln 35 (x 0) h1).bind fun v3 =>
(bn .gtr 3 v3 (.int .i64 30)).bind fun v4 =>
cnd v4 (
k .ret ⟨ar 127 (up x [(4,(.bool true)),(16,v0),(17,v2),(18,(x 0)),(19,v3),(20,v4)]), h1⟩) (
obH (ev 8 #[(.int .i64 2)] h1) fun v5 h6 =>
(extractV v5 0).bind fun v7 =>
(extractV v5 1).bind fun v8 =>
(bn .neq 24 v8 (.int .i64 0)).bind fun v9 =>
(gd (wt v9 false) (bn .eql 23 (gdV (wt v9 false) v7) (.pointer Option.none))).bind fun v10 =>
(pickV v9 (.bool true) v10).bind fun v11 =>
cnd v11 (
k .ret ⟨ar 127 (up x [(4,(.bool false)),(5,v7),(6,v8),(16,v0),(17,v2),(18,(x 0)),(19,v3),(20,v4),(21,v5),(22,v5),(23,v7),(24,v8),(25,v8),(26,v9),(27,v9),(28,(gdV (wt v9 false) v7)),(29,v10),(30,v11)]), h6⟩) (
lK c6_1 127 (up x [(4,(.bool false)),(5,v7),(6,v8),(7,(.int .i64 0)),(8,(.int .i64 0)),(16,v0),(17,v2),(18,(x 0)),(19,v3),(20,v4),(21,v5),(22,v5),(23,v7),(24,v8),(25,v8),(26,v9),(27,v9),(28,(gdV (wt v9 false) v7)),(29,v10),(30,v11)]) h6 (blockK 0 (sK c6_2 k))))) := by kernel_rfl
theorem c6_1_eq : cK c6_1 127 x h k =
(ln 35 (x 0) h).bind fun v12 =>
(bn .lss 3 (x 8) v12).bind fun v13 =>
cnd v13 (
(bn .quo 3 (x 8) (.int .i64 2)).bind fun v14 =>
(ln 50 (x 1) h).bind fun v15 =>
(bn .lss 3 v14 v15).bind fun v16 =>
(gd (wt v16 true) (bn .quo 3 (gdV (wt v16 true) (x 8)) (.int .i64 2))).bind fun v17 =>
(gd (wt v16 true) (ia 50 (gdV (wt v16 true) (x 1)) v17)).bind fun v18 =>
(gd (wt v16 true) (ld 3 v18 h)).bind fun v19 =>
(gd (wt v16 true) (bn .rem 3 v19 (.int .i64 2))).bind fun v20 =>
(gd (wt v16 true) (bn .neq 3 v20 (.int .i64 0))).bind fun v21 =>
(pickV v16 v21 (.bool false)).bind fun v22 =>
(gd (wt v22 true) (bn .add 3 (gdV (wt v22 true) (x 8)) (.int .i64 1))).bind fun v23 =>
(gd (wt v22 true) (ln 35 (gdV (wt v22 true) (x 0)) h)).bind fun v24 =>
(gd (wt v22 true) (bn .lss 3 v23 v24)).bind fun v25 =>
(pickV v22 v25 (.bool false)).bind fun v26 =>
(bn .add 3 (x 8) (.int .i64 1)).bind fun v27 =>
cnd v26 (
(bn .add 3 (x 8) (.int .i64 1)).bind fun v28 =>
(bn .add 3 v28 (.int .i64 1)).bind fun v29 =>
obH (cv 3 30 v29 h) fun v30 h31 =>
(ia 35 (x 0) v28).bind fun v32 =>
(ld 9 v32 h31).bind fun v33 =>
obH (cv 9 31 v33 h31) fun v34 h35 =>
obH (ev 9 #[x 5,v30,v34] h35) fun v36 h37 =>
(extractV v36 0).bind fun v38 =>
(extractV v36 1).bind fun v39 =>
(unV Try.prog .not v39).bind fun v40 =>
cnd v40 (
k .ret ⟨ar 127 (up x [(4,(.bool false)),(9,v26),(10,v28),(11,(x 8)),(12,v38),(13,v39),(31,(x 8)),(32,(x 0)),(33,v12),(34,v13),(37,(x 8)),(38,v14),(39,(x 1)),(40,v15),(41,v16),(42,v16),(43,(gdV (wt v16 true) (x 1))),(44,(gdV (wt v16 true) (x 8))),(45,v17),(46,v18),(47,v19),(48,v20),(49,v21),(50,v22),(51,v22),(52,(gdV (wt v22 true) (x 8))),(53,v23),(54,(gdV (wt v22 true) (x 0))),(55,v24),(56,v25),(57,v26),(58,(x 8)),(59,(x 8)),(60,v27),(61,v26),(62,(x 8)),(63,v28),(64,(x 8)),(65,v36),(66,(x 5)),(67,v28),(68,v29),(69,v30),(70,(x 0)),(71,v28),(72,v32),(73,v33),(74,v34),(75,v36),(76,v38),(77,v39),(78,v39),(79,v40)]), h37⟩) (
(ln 27 v38 h37).bind fun v41 =>
(bn .add 3 (x 7) v41).bind fun v42 =>
(bn .add 3 (x 8) (.int .i64 1)).bind fun v43 =>
(ln 35 (x 0) h37).bind fun v44 =>
(bn .lss 3 v43 v44).bind fun v45 =>
cnd v45 (
(bn .add 3 (x 8) (.int .i64 1)).bind fun v46 =>
obH (cv 3 30 v46 h37) fun v47 h48 =>
(ia 35 (x 0) (x 8)).bind fun v49 =>
(ld 9 v49 h48).bind fun v50 =>
obH (cv 9 31 v50 h48) fun v51 h52 =>
obH (ev 9 #[x 5,v47,v51] h52) fun v53 h54 =>
(extractV v53 0).bind fun v55 =>
(extractV v53 1).bind fun v56 =>
(unV Try.prog .not v56).bind fun v57 =>
cnd v57 (
k .ret ⟨ar 127 (up x [(4,(.bool false)),(7,v42),(9,v26),(10,v28),(11,(x 8)),(12,v38),(13,v39),(14,v55),(15,v56),(31,(x 8)),(32,(x 0)),(33,v12),(34,v13),(37,(x 8)),(38,v14),(39,(x 1)),(40,v15),(41,v16),(42,v16),(43,(gdV (wt v16 true) (x 1))),(44,(gdV (wt v16 true) (x 8))),(45,v17),(46,v18),(47,v19),(48,v20),(49,v21),(50,v22),(51,v22),(52,(gdV (wt v22 true) (x 8))),(53,v23),(54,(gdV (wt v22 true) (x 0))),(55,v24),(56,v25),(57,v26),(58,(x 8)),(59,(x 8)),(60,v27),(61,v26),(62,(x 8)),(63,v28),(64,(x 8)),(65,v36),(66,(x 5)),(67,v28),(68,v29),(69,v30),(70,(x 0)),(71,v28),(72,v32),(73,v33),(74,v34),(75,v36),(76,v38),(77,v39),(78,v39),(79,v40),(80,(x 7)),(81,v38),(82,v41),(83,v42),(84,(x 8)),(85,v43),(86,(x 0)),(87,v44),(88,v45),(89,v53),(90,(x 5)),(91,(x 8)),(92,v46),(93,v47),(94,(x 0)),(95,(x 8)),(96,v49),(97,v50),(98,v51),(99,v53),(100,v55),(101,v56),(102,v56),(103,v57)]), h54⟩) (
(ln 27 v55 h54).bind fun v58 =>
(bn .add 3 v42 v58).bind fun v59 =>
(bn .add 3 (x 8) (.int .i64 2)).bind fun v60 =>
k .normal ⟨ar 127 (up x [(7,v59),(8,v60),(9,v26),(10,v28),(11,(x 8)),(12,v38),(13,v39),(14,v55),(15,v56),(31,(x 8)),(32,(x 0)),(33,v12),(34,v13),(35,(x 8)),(36,v60),(37,(x 8)),(38,v14),(39,(x 1)),(40,v15),(41,v16),(42,v16),(43,(gdV (wt v16 true) (x 1))),(44,(gdV (wt v16 true) (x 8))),(45,v17),(46,v18),(47,v19),(48,v20),(49,v21),(50,v22),(51,v22),(52,(gdV (wt v22 true) (x 8))),(53,v23),(54,(gdV (wt v22 true) (x 0))),(55,v24),(56,v25),(57,v26),(58,(x 8)),(59,(x 8)),(60,v27),(61,v26),(62,(x 8)),(63,v28),(64,(x 8)),(65,v36),(66,(x 5)),(67,v28),(68,v29),(69,v30),(70,(x 0)),(71,v28),(72,v32),(73,v33),(74,v34),(75,v36),(76,v38),(77,v39),(78,v39),(79,v40),(80,(x 7)),(81,v38),(82,v41),(83,v42),(84,(x 8)),(85,v43),(86,(x 0)),(87,v44),(88,v45),(89,v53),(90,(x 5)),(91,(x 8)),(92,v46),(93,v47),(94,(x 0)),(95,(x 8)),(96,v49),(97,v50),(98,v51),(99,v53),(100,v55),(101,v56),(102,v56),(103,v57),(104,v42),(105,v55),(106,v58),(107,v59)]), h54⟩)) (
(bn .add 3 (x 8) (.int .i64 2)).bind fun v61 =>
k .normal ⟨ar 127 (up x [(7,v42),(8,v61),(9,v26),(10,v28),(11,(x 8)),(12,v38),(13,v39),(31,(x 8)),(32,(x 0)),(33,v12),(34,v13),(35,(x 8)),(36,v61),(37,(x 8)),(38,v14),(39,(x 1)),(40,v15),(41,v16),(42,v16),(43,(gdV (wt v16 true) (x 1))),(44,(gdV (wt v16 true) (x 8))),(45,v17),(46,v18),(47,v19),(48,v20),(49,v21),(50,v22),(51,v22),(52,(gdV (wt v22 true) (x 8))),(53,v23),(54,(gdV (wt v22 true) (x 0))),(55,v24),(56,v25),(57,v26),(58,(x 8)),(59,(x 8)),(60,v27),(61,v26),(62,(x 8)),(63,v28),(64,(x 8)),(65,v36),(66,(x 5)),(67,v28),(68,v29),(69,v30),(70,(x 0)),(71,v28),(72,v32),(73,v33),(74,v34),(75,v36),(76,v38),(77,v39),(78,v39),(79,v40),(80,(x 7)),(81,v38),(82,v41),(83,v42),(84,(x 8)),(85,v43),(86,(x 0)),(87,v44),(88,v45)]), h37⟩))) (
(bn .add 3 (x 8) (.int .i64 1)).bind fun v62 =>
obH (cv 3 30 v62 h) fun v63 h64 =>
(ia 35 (x 0) (x 8)).bind fun v65 =>
(ld 9 v65 h64).bind fun v66 =>
obH (cv 9 31 v66 h64) fun v67 h68 =>
obH (ev 9 #[x 5,v63,v67] h68) fun v69 h70 =>
(extractV v69 0).bind fun v71 =>
(extractV v69 1).bind fun v72 =>
(unV Try.prog .not v72).bind fun v73 =>
cnd v73 (
k .ret ⟨ar 127 (up x [(4,(.bool false)),(9,v26),(10,(x 8)),(11,v27),(12,v71),(13,v72),(31,(x 8)),(32,(x 0)),(33,v12),(34,v13),(37,(x 8)),(38,v14),(39,(x 1)),(40,v15),(41,v16),(42,v16),(43,(gdV (wt v16 true) (x 1))),(44,(gdV (wt v16 true) (x 8))),(45,v17),(46,v18),(47,v19),(48,v20),(49,v21),(50,v22),(51,v22),(52,(gdV (wt v22 true) (x 8))),(53,v23),(54,(gdV (wt v22 true) (x 0))),(55,v24),(56,v25),(57,v26),(58,(x 8)),(59,(x 8)),(60,v27),(61,v26),(65,v69),(66,(x 5)),(67,(x 8)),(68,v62),(69,v63),(70,(x 0)),(71,(x 8)),(72,v65),(73,v66),(74,v67),(75,v69),(76,v71),(77,v72),(78,v72),(79,v73)]), h70⟩) (
(ln 27 v71 h70).bind fun v74 =>
(bn .add 3 (x 7) v74).bind fun v75 =>
(bn .add 3 (x 8) (.int .i64 1)).bind fun v76 =>
(ln 35 (x 0) h70).bind fun v77 =>
(bn .lss 3 v76 v77).bind fun v78 =>
cnd v78 (
(bn .add 3 v27 (.int .i64 1)).bind fun v79 =>
obH (cv 3 30 v79 h70) fun v80 h81 =>
(ia 35 (x 0) v27).bind fun v82 =>
(ld 9 v82 h81).bind fun v83 =>
obH (cv 9 31 v83 h81) fun v84 h85 =>
obH (ev 9 #[x 5,v80,v84] h85) fun v86 h87 =>
(extractV v86 0).bind fun v88 =>
(extractV v86 1).bind fun v89 =>
(unV Try.prog .not v89).bind fun v90 =>
cnd v90 (
k .ret ⟨ar 127 (up x [(4,(.bool false)),(7,v75),(9,v26),(10,(x 8)),(11,v27),(12,v71),(13,v72),(14,v88),(15,v89),(31,(x 8)),(32,(x 0)),(33,v12),(34,v13),(37,(x 8)),(38,v14),(39,(x 1)),(40,v15),(41,v16),(42,v16),(43,(gdV (wt v16 true) (x 1))),(44,(gdV (wt v16 true) (x 8))),(45,v17),(46,v18),(47,v19),(48,v20),(49,v21),(50,v22),(51,v22),(52,(gdV (wt v22 true) (x 8))),(53,v23),(54,(gdV (wt v22 true) (x 0))),(55,v24),(56,v25),(57,v26),(58,(x 8)),(59,(x 8)),(60,v27),(61,v26),(65,v69),(66,(x 5)),(67,(x 8)),(68,v62),(69,v63),(70,(x 0)),(71,(x 8)),(72,v65),(73,v66),(74,v67),(75,v69),(76,v71),(77,v72),(78,v72),(79,v73),(80,(x 7)),(81,v71),(82,v74),(83,v75),(84,(x 8)),(85,v76),(86,(x 0)),(87,v77),(88,v78),(89,v86),(90,(x 5)),(91,v27),(92,v79),(93,v80),(94,(x 0)),(95,v27),(96,v82),(97,v83),(98,v84),(99,v86),(100,v88),(101,v89),(102,v89),(103,v90)]), h87⟩) (
(ln 27 v88 h87).bind fun v91 =>
(bn .add 3 v75 v91).bind fun v92 =>
(bn .add 3 (x 8) (.int .i64 2)).bind fun v93 =>
k .normal ⟨ar 127 (up x [(7,v92),(8,v93),(9,v26),(10,(x 8)),(11,v27),(12,v71),(13,v72),(14,v88),(15,v89),(31,(x 8)),(32,(x 0)),(33,v12),(34,v13),(35,(x 8)),(36,v93),(37,(x 8)),(38,v14),(39,(x 1)),(40,v15),(41,v16),(42,v16),(43,(gdV (wt v16 true) (x 1))),(44,(gdV (wt v16 true) (x 8))),(45,v17),(46,v18),(47,v19),(48,v20),(49,v21),(50,v22),(51,v22),(52,(gdV (wt v22 true) (x 8))),(53,v23),(54,(gdV (wt v22 true) (x 0))),(55,v24),(56,v25),(57,v26),(58,(x 8)),(59,(x 8)),(60,v27),(61,v26),(65,v69),(66,(x 5)),(67,(x 8)),(68,v62),(69,v63),(70,(x 0)),(71,(x 8)),(72,v65),(73,v66),(74,v67),(75,v69),(76,v71),(77,v72),(78,v72),(79,v73),(80,(x 7)),(81,v71),(82,v74),(83,v75),(84,(x 8)),(85,v76),(86,(x 0)),(87,v77),(88,v78),(89,v86),(90,(x 5)),(91,v27),(92,v79),(93,v80),(94,(x 0)),(95,v27),(96,v82),(97,v83),(98,v84),(99,v86),(100,v88),(101,v89),(102,v89),(103,v90),(104,v75),(105,v88),(106,v91),(107,v92)]), h87⟩)) (
(bn .add 3 (x 8) (.int .i64 2)).bind fun v94 =>
k .normal ⟨ar 127 (up x [(7,v75),(8,v94),(9,v26),(10,(x 8)),(11,v27),(12,v71),(13,v72),(31,(x 8)),(32,(x 0)),(33,v12),(34,v13),(35,(x 8)),(36,v94),(37,(x 8)),(38,v14),(39,(x 1)),(40,v15),(41,v16),(42,v16),(43,(gdV (wt v16 true) (x 1))),(44,(gdV (wt v16 true) (x 8))),(45,v17),(46,v18),(47,v19),(48,v20),(49,v21),(50,v22),(51,v22),(52,(gdV (wt v22 true) (x 8))),(53,v23),(54,(gdV (wt v22 true) (x 0))),(55,v24),(56,v25),(57,v26),(58,(x 8)),(59,(x 8)),(60,v27),(61,v26),(65,v69),(66,(x 5)),(67,(x 8)),(68,v62),(69,v63),(70,(x 0)),(71,(x 8)),(72,v65),(73,v66),(74,v67),(75,v69),(76,v71),(77,v72),(78,v72),(79,v73),(80,(x 7)),(81,v71),(82,v74),(83,v75),(84,(x 8)),(85,v76),(86,(x 0)),(87,v77),(88,v78)]), h70⟩)))) (
k (.exit 0) ⟨ar 127 (up x [(31,(x 8)),(32,(x 0)),(33,v12),(34,v13)]), h⟩) := by kernel_rfl
theorem c6_2_eq : cK c6_2 127 x h k =
(ln 35 (x 0) h).bind fun v95 =>
(bn .eql 3 (x 7) v95).bind fun v96 =>
obH (gdH (wt v96 true) h (ev 14 #[(gdV (wt v96 true) (x 5))] h)) fun v97 h98 =>
(gd (wt v96 true) (ln 35 (gdV (wt v96 true) (x 0)) h98)).bind fun v99 =>
(gd (wt v96 true) (bn .add 3 v99 (.int .i64 1))).bind fun v100 =>
obH (gdH (wt v96 true) h98 (cv 3 30 v100 h98)) fun v101 h102 =>
(gd (wt v96 true) (bn .eql 30 v97 v101)).bind fun v103 =>
(pickV v96 v103 (.bool false)).bind fun v104 =>
obH (gdH (wt v104 true) h102 (ev 10 #[(gdV (wt v104 true) (x 5))] h102)) fun v105 h106 =>
(gd (wt v104 true) (ln 32 v105 h106)).bind fun v107 =>
(gd (wt v104 true) (bn .eql 3 v107 (.int .i64 0))).bind fun v108 =>
(pickV v104 v108 (.bool false)).bind fun v109 =>
k .ret ⟨ar 127 (up x [(4,v109),(108,(x 7)),(109,(x 0)),(110,v95),(111,v96),(112,v96),(113,(gdV (wt v96 true) (x 5))),(114,v97),(115,(gdV (wt v96 true) (x 0))),(116,v99),(117,v100),(118,v101),(119,v103),(120,v104),(121,v104),(122,(gdV (wt v104 true) (x 5))),(123,v105),(124,v107),(125,v108),(126,v109)]), h106⟩ := by kernel_rfl
theorem call6 (a0 a1 : Value) : evC Try.prog 6 #[a0,a1] h = cK c6_0 127 (up un [(0,a0),(1,a1)]) (nm h) (retK Try.f6 Try.prog h) :=
  (evC_call 6 Try.f6 c6_0 Try.func6 (by kernel_rfl) #[a0,a1] h).trans (by kernel_rfl)
theorem ret6 : retK Try.f6 Try.prog g .ret ⟨ar 127 x, h⟩ = fin g (some (x 4)) h := by kernel_rfl
end Go.Am
