/- What the texts of functions come to in the machine (printed by a program of this seat; Lean checks it). -/
import Derived.Test.YtckmbpfimofhdaaKB
import Derived.Test.YtckmbpfimofhdaaChecked
import Derived.KernelRfl
set_option linter.all false
namespace Go.Am
open Go.Proofs
set_option maxRecDepth 100000
variable (Aa Ab Ac Ad Ae Af Ag Ah : Value)
noncomputable def c15_0 : Code := bodyC Try.f15 []
theorem c15_0_eq {β : Type} (h : Heap) (k : Ex → St → Option β) : codeK Try.prog (evC Try.prog) loopL c15_0 ⟨#[Aa,Ab,Ac,Ad,Ae,Af,Ag,Ah], h⟩ k =
(binV Try.prog .eql 31 (.tmp 3) (.const (Go.Value.slice Option.none 0 0)) Aa (Go.Value.slice Option.none 0 0)).bind fun t4_0 =>
cnd t4_0 (
k .ret ⟨#[Aa,Ab, (Go.Value.slice Option.none 0 0),Aa, t4_0,Af,Ag,Ah], h⟩) (
obH (buildSliceV Try.prog 31 0 #[] h) fun t5_1 h2 =>
obH (appendV Try.prog 31 (some 31) t5_1 Aa h2) fun t7_3 h4 =>
k .ret ⟨#[Aa,Ab, t7_3,Aa, t4_0, t5_1,Aa, t7_3], h4⟩) := by kernel_rfl
theorem call15 (h : Heap) : evC Try.prog 15 #[Aa] h = codeK Try.prog (evC Try.prog) loopL c15_0 ⟨#[Aa, undef, undef, undef, undef, undef, undef, undef], nm h⟩ (retK Try.f15 Try.prog h) :=
  (evC_call 15 Try.f15 c15_0 Try.func15 (by kernel_rfl) #[Aa] h).trans (by kernel_rfl)
theorem ret15 (h0 h : Heap) : retK Try.f15 Try.prog h0 .ret ⟨#[Aa,Ab,Ac,Ad,Ae,Af,Ag,Ah], h⟩ = fin h0 (some Ac) h := by kernel_rfl
end Go.Am
namespace Go.Am
open Go.Proofs
set_option maxRecDepth 100000
variable (Aa Ab Ac Ad Ae Af Ag Ah Ai Aj Ak Al An Ao Ap : Value)
noncomputable def c8_0 : Code := bodyC Try.f8 []
theorem c8_0_eq {β : Type} (h : Heap) (k : Ex → St → Option β) : codeK Try.prog (evC Try.prog) loopL c8_0 ⟨#[Aa,Ab,Ac,Ad,Ae,Af,Ag,Ah,Ai,Aj,Ak,Al,An,Ao,Ap], h⟩ k =
(binV Try.prog .lss 3 (.tmp 4) (.const (Go.Value.int Go.IntKind.i64 1)) Aa (Go.Value.int Go.IntKind.i64 1)).bind fun t5_0 =>
(gd (wt t5_0 false) (binV Try.prog .gtr 3 (.tmp 7) (.const (Go.Value.int Go.IntKind.i64 16)) (gdV (wt t5_0 false) Aa) (Go.Value.int Go.IntKind.i64 16))).bind fun t8_1 =>
(pickV t5_0 (Go.Value.bool Bool.true) t8_1).bind fun t9_2 =>
cnd t9_2 (
k .ret ⟨#[Aa,Ab, (Go.Value.pointer Option.none), (Go.Value.int Go.IntKind.i64 1),Aa, t5_0, t5_0, (gdV (wt t5_0 false) Aa), t8_1, t9_2,Ak,Al,An,Ao,Ap], h⟩) (
obH (convV Try.prog 3 30 Aa h) fun t11_3 h4 =>
obH (some (makeMapV h4)) fun t12_5 h6 =>
(buildV Try.prog 55 #[(0, t11_3), (1, (Go.Value.int Go.IntKind.u64 1)), (2, t12_5)]).bind fun t13_7 =>
obH (boxV Try.prog 55 t13_7 h6) fun t14_8 h9 =>
k .ret ⟨#[Aa,Ab, t14_8, (Go.Value.int Go.IntKind.i64 0),Aa, t5_0, t5_0, (gdV (wt t5_0 false) Aa), t8_1, t9_2,Aa, t11_3, t12_5, t13_7, t14_8], h9⟩) := by kernel_rfl
theorem call8 (h : Heap) : evC Try.prog 8 #[Aa] h = codeK Try.prog (evC Try.prog) loopL c8_0 ⟨#[Aa, undef, undef, undef, undef, undef, undef, undef, undef, undef, undef, undef, undef, undef, undef], nm h⟩ (retK Try.f8 Try.prog h) :=
  (evC_call 8 Try.f8 c8_0 Try.func8 (by kernel_rfl) #[Aa] h).trans (by kernel_rfl)
theorem ret8 (h0 h : Heap) : retK Try.f8 Try.prog h0 .ret ⟨#[Aa,Ab,Ac,Ad,Ae,Af,Ag,Ah,Ai,Aj,Ak,Al,An,Ao,Ap], h⟩ = fin h0 (some (.tuple #[Ac,Ad])) h := by kernel_rfl
end Go.Am
namespace Go.Am
open Go.Proofs
set_option maxRecDepth 100000
variable (Aa Ab Ac Ad Ae Af Ag Ah Ai Aj Ak Al An Ao Ap Aq Ar As At Au Av Aw Ax Ay Az Ba Bb Bc Bd Be Bf Bg Bh Bi Bj Bk Bl Bn Bo Bp Bq Br Bs Bt Bu Bv Bw By Bz Ca Cb Cc Cd Ce Cf Cg Ch Ci Cj Ck Cl Cm Cn Co Cp Cq Cr Cs Ct Cu Cv Cw Cx Cy Cz Da Db Dc Dd De Df Dg Dh Di Dj : Value)
noncomputable def c9_0 : Code := bodyC Try.f9 []
noncomputable def c9_1 : Code := bodyC Try.f9 [true, true, true, true, false, false]
theorem c9_0_eq {β : Type} (h : Heap) (k : Ex → St → Option β) : codeK Try.prog (evC Try.prog) loopL c9_0 ⟨#[Aa,Ab,Ac,Ad,Ae,Af,Ag,Ah,Ai,Aj,Ak,Al,An,Ao,Ap,Aq,Ar,As,At,Au,Av,Aw,Ax,Ay,Az,Ba,Bb,Bc,Bd,Be,Bf,Bg,Bh,Bi,Bj,Bk,Bl,Bn,Bo,Bp,Bq,Br,Bs,Bt,Bu,Bv,Bw,By,Bz,Ca,Cb,Cc,Cd,Ce,Cf,Cg,Ch,Ci,Cj,Ck,Cl,Cm,Cn,Co,Cp,Cq,Cr,Cs,Ct,Cu,Cv,Cw,Cx,Cy,Cz,Da,Db,Dc,Dd,De,Df,Dg,Dh,Di,Dj], h⟩ k =
(nilCheckV Try.prog Aa).bind fun t15_0 =>
(fieldAddrV Try.prog 55 t15_0 2).bind fun t16_1 =>
(loadV Try.prog 53 t16_1 h).bind fun t17_2 =>
(lookupV Try.prog 53 t17_2 Ab true h).bind fun t19_3 =>
(extractV t19_3 0).bind fun t20_4 =>
(extractV t19_3 1).bind fun t21_5 =>
(gd (wt t21_5 false) (nilCheckV Try.prog (gdV (wt t21_5 false) Aa))).bind fun t26_6 =>
(gd (wt t21_5 false) (fieldAddrV Try.prog 55 t26_6 1)).bind fun t27_7 =>
(gd (wt t21_5 false) (loadV Try.prog 30 t27_7 h)).bind fun t28_8 =>
(gd (wt t21_5 false) (binV Try.prog .lss 30 (.tmp 24) (.tmp 28) (gdV (wt t21_5 false) Ab) t28_8)).bind fun t29_9 =>
(pickV t21_5 (Go.Value.bool Bool.true) t29_9).bind fun t30_10 =>
(gd (wt t30_10 false) (nilCheckV Try.prog (gdV (wt t30_10 false) Aa))).bind fun t34_11 =>
(gd (wt t30_10 false) (fieldAddrV Try.prog 55 t34_11 1)).bind fun t35_12 =>
(gd (wt t30_10 false) (loadV Try.prog 30 t35_12 h)).bind fun t36_13 =>
(gd (wt t30_10 false) (binV Try.prog .sub 30 (.tmp 32) (.tmp 36) (gdV (wt t30_10 false) Ab) t36_13)).bind fun t37_14 =>
(gd (wt t30_10 false) (nilCheckV Try.prog (gdV (wt t30_10 false) Aa))).bind fun t39_15 =>
(gd (wt t30_10 false) (fieldAddrV Try.prog 55 t39_15 0)).bind fun t40_16 =>
(gd (wt t30_10 false) (loadV Try.prog 30 t40_16 h)).bind fun t41_17 =>
(gd (wt t30_10 false) (binV Try.prog .geq 30 (.tmp 37) (.tmp 41) t37_14 t41_17)).bind fun t42_18 =>
(pickV t30_10 (Go.Value.bool Bool.true) t42_18).bind fun t43_19 =>
cnd t43_19 (
k .ret ⟨#[Aa,Ab,Ac,Ad,Ae,Af, (Go.Value.slice Option.none 0 0), (Go.Value.bool Bool.false), t20_4, t21_5,Ak,Al,An, t19_3,Aa, t15_0, t16_1, t17_2,Ab, t19_3, t20_4, t21_5, t21_5, t21_5, (gdV (wt t21_5 false) Ab), (gdV (wt t21_5 false) Aa), t26_6, t27_7, t28_8, t29_9, t30_10, t30_10, (gdV (wt t30_10 false) Ab), (gdV (wt t30_10 false) Aa), t34_11, t35_12, t36_13, t37_14, (gdV (wt t30_10 false) Aa), t39_15, t40_16, t41_17, t42_18, t43_19,Bu,Bv,Bw,By,Bz,Ca,Cb,Cc,Cd,Ce,Cf,Cg,Ch,Ci,Cj,Ck,Cl,Cm,Cn,Co,Cp,Cq,Cr,Cs,Ct,Cu,Cv,Cw,Cx,Cy,Cz,Da,Db,Dc,Dd,De,Df,Dg,Dh,Di,Dj], h⟩) (
(nilCheckV Try.prog Aa).bind fun t45_20 =>
(fieldAddrV Try.prog 55 t45_20 2).bind fun t46_21 =>
(loadV Try.prog 53 t46_21 h).bind fun t47_22 =>
obH (evC Try.prog 15 #[Ac] (nm h)) fun t50_23 h24 =>
(mapUpdateV Try.prog 53 t47_22 Ab t50_23 (am h24 h)).bind fun h25 =>
chk ((rb t46_21) ++ []) (h24.mods ++ []) (
loopK Try.prog (evC Try.prog) c9_1 ⟨#[Aa,Ab,Ac,Ad,Ae,Af, (Go.Value.slice Option.none 0 0), (Go.Value.bool Bool.false), t20_4, t21_5, (Go.Value.slice Option.none 0 0),Al,An, t19_3,Aa, t15_0, t16_1, t17_2,Ab, t19_3, t20_4, t21_5, t21_5, t21_5, (gdV (wt t21_5 false) Ab), (gdV (wt t21_5 false) Aa), t26_6, t27_7, t28_8, t29_9, t30_10, t30_10, (gdV (wt t30_10 false) Ab), (gdV (wt t30_10 false) Aa), t34_11, t35_12, t36_13, t37_14, (gdV (wt t30_10 false) Aa), t39_15, t40_16, t41_17, t42_18, t43_19,Aa, t45_20, t46_21, t47_22,Ab,Ac, t50_23,Cc,Cd,Ce,Cf,Cg,Ch,Ci,Cj,Ck,Cl,Cm,Cn,Co,Cp,Cq,Cr,Cs,Ct,Cu,Cv,Cw,Cx,Cy,Cz,Da,Db,Dc,Dd,De,Df,Dg,Dh,Di,Dj], h25⟩ (blockK 0 k))) := by kernel_rfl
theorem c9_1_eq {β : Type} (h : Heap) (k : Ex → St → Option β) : codeK Try.prog (evC Try.prog) loopL c9_1 ⟨#[Aa,Ab,Ac,Ad,Ae,Af,Ag,Ah,Ai,Aj,Ak,Al,An,Ao,Ap,Aq,Ar,As,At,Au,Av,Aw,Ax,Ay,Az,Ba,Bb,Bc,Bd,Be,Bf,Bg,Bh,Bi,Bj,Bk,Bl,Bn,Bo,Bp,Bq,Br,Bs,Bt,Bu,Bv,Bw,By,Bz,Ca,Cb,Cc,Cd,Ce,Cf,Cg,Ch,Ci,Cj,Ck,Cl,Cm,Cn,Co,Cp,Cq,Cr,Cs,Ct,Cu,Cv,Cw,Cx,Cy,Cz,Da,Db,Dc,Dd,De,Df,Dg,Dh,Di,Dj], h⟩ k =
(nilCheckV Try.prog Aa).bind fun t53_26 =>
(fieldAddrV Try.prog 55 t53_26 2).bind fun t54_27 =>
(loadV Try.prog 53 t54_27 h).bind fun t55_28 =>
(nilCheckV Try.prog Aa).bind fun t57_29 =>
(fieldAddrV Try.prog 55 t57_29 1).bind fun t58_30 =>
(loadV Try.prog 30 t58_30 h).bind fun t59_31 =>
(lookupV Try.prog 53 t55_28 t59_31 true h).bind fun t60_32 =>
(extractV t60_32 0).bind fun t61_33 =>
(extractV t60_32 1).bind fun t62_34 =>
(unV Try.prog .not t62_34).bind fun t64_35 =>
cnd t64_35 (
k .ret ⟨#[Aa,Ab,Ac,Ad,Ae,Af,Ak, (Go.Value.bool Bool.true),Ai,Aj,Ak, t61_33, t62_34,Ao,Ap,Aq,Ar,As,At,Au,Av,Aw,Ax,Ay,Az,Ba,Bb,Bc,Bd,Be,Bf,Bg,Bh,Bi,Bj,Bk,Bl,Bn,Bo,Bp,Bq,Br,Bs,Bt,Bu,Bv,Bw,By,Bz,Ca,Cb, t60_32,Aa, t53_26, t54_27, t55_28,Aa, t57_29, t58_30, t59_31, t60_32, t61_33, t62_34, t62_34, t64_35,Ak,Cr,Cs,Ct,Cu,Cv,Cw,Cx,Cy,Cz,Da,Db,Dc,Dd,De,Df,Dg,Dh,Di,Dj], h⟩) (
obH (buildSliceV Try.prog 27 1 #[(0, t61_33)] h) fun t68_36 h37 =>
obH (appendV Try.prog 27 (some 27) Ak t68_36 h37) fun t69_38 h39 =>
(nilCheckV Try.prog Aa).bind fun t71_40 =>
(fieldAddrV Try.prog 55 t71_40 2).bind fun t72_41 =>
(loadV Try.prog 53 t72_41 h39).bind fun t73_42 =>
(nilCheckV Try.prog Aa).bind fun t75_43 =>
(fieldAddrV Try.prog 55 t75_43 1).bind fun t76_44 =>
(loadV Try.prog 30 t76_44 h39).bind fun t77_45 =>
obH (builtinV Try.prog .delete #[53, 30] #[t73_42, t77_45] h39) fun u46 h47 =>
(nilCheckV Try.prog Aa).bind fun t79_48 =>
(fieldAddrV Try.prog 55 t79_48 1).bind fun t80_49 =>
(loadV Try.prog 30 t80_49 h47).bind fun t81_50 =>
(binV Try.prog .add 30 (.tmp 81) (.const (Go.Value.int Go.IntKind.u64 1)) t81_50 (Go.Value.int Go.IntKind.u64 1)).bind fun t82_51 =>
(nilCheckV Try.prog Aa).bind fun t83_52 =>
(fieldAddrV Try.prog 55 t83_52 1).bind fun t84_53 =>
(storeV Try.prog 30 t84_53 t82_51 h47).bind fun h54 =>
k .normal ⟨#[Aa,Ab,Ac,Ad,Ae,Af,Ag,Ah,Ai,Aj, t69_38, t61_33, t62_34,Ao,Ap,Aq,Ar,As,At,Au,Av,Aw,Ax,Ay,Az,Ba,Bb,Bc,Bd,Be,Bf,Bg,Bh,Bi,Bj,Bk,Bl,Bn,Bo,Bp,Bq,Br,Bs,Bt,Bu,Bv,Bw,By,Bz,Ca,Cb, t60_32,Aa, t53_26, t54_27, t55_28,Aa, t57_29, t58_30, t59_31, t60_32, t61_33, t62_34, t62_34, t64_35,Cq,Ak, t61_33, t68_36, t69_38,Aa, t71_40, t72_41, t73_42,Aa, t75_43, t76_44, t77_45,Aa, t79_48, t80_49, t81_50, t82_51, t83_52, t84_53], h54⟩) := by kernel_rfl
theorem call9 (h : Heap) : evC Try.prog 9 #[Aa,Ab,Ac] h = codeK Try.prog (evC Try.prog) loopL c9_0 ⟨#[Aa,Ab,Ac, undef, undef, undef, undef, undef, undef, undef, undef, undef, undef, undef, undef, undef, undef, undef, undef, undef, undef, undef, undef, undef, undef, undef, undef, undef, undef, undef, undef, undef, undef, undef, undef, undef, undef, undef, undef, undef, undef, undef, undef, undef, undef, undef, undef, undef, undef, undef, undef, undef, undef, undef, undef, undef, undef, undef, undef, undef, undef, undef, undef, undef, undef, undef, undef, undef, undef, undef, undef, undef, undef, undef, undef, undef, undef, undef, undef, undef, undef, undef, undef, undef, undef], nm h⟩ (retK Try.f9 Try.prog h) :=
  (evC_call 9 Try.f9 c9_0 Try.func9 (by kernel_rfl) #[Aa,Ab,Ac] h).trans (by kernel_rfl)
theorem ret9 (h0 h : Heap) : retK Try.f9 Try.prog h0 .ret ⟨#[Aa,Ab,Ac,Ad,Ae,Af,Ag,Ah,Ai,Aj,Ak,Al,An,Ao,Ap,Aq,Ar,As,At,Au,Av,Aw,Ax,Ay,Az,Ba,Bb,Bc,Bd,Be,Bf,Bg,Bh,Bi,Bj,Bk,Bl,Bn,Bo,Bp,Bq,Br,Bs,Bt,Bu,Bv,Bw,By,Bz,Ca,Cb,Cc,Cd,Ce,Cf,Cg,Ch,Ci,Cj,Ck,Cl,Cm,Cn,Co,Cp,Cq,Cr,Cs,Ct,Cu,Cv,Cw,Cx,Cy,Cz,Da,Db,Dc,Dd,De,Df,Dg,Dh,Di,Dj], h⟩ = fin h0 (some (.tuple #[Ag,Ah])) h := by kernel_rfl
end Go.Am
namespace Go.Am
open Go.Proofs
set_option maxRecDepth 100000
variable (Aa Ab Ac Ad Ae Af Ag : Value)
noncomputable def c14_0 : Code := bodyC Try.f14 []
theorem c14_0_eq {β : Type} (h : Heap) (k : Ex → St → Option β) : codeK Try.prog (evC Try.prog) loopL c14_0 ⟨#[Aa,Ab,Ac,Ad,Ae,Af,Ag], h⟩ k =
(nilCheckV Try.prog Aa).bind fun t4_0 =>
(fieldAddrV Try.prog 55 t4_0 1).bind fun t5_1 =>
(loadV Try.prog 30 t5_1 h).bind fun t6_2 =>
k .ret ⟨#[Aa,Ab, t6_2,Aa, t4_0, t5_1, t6_2], h⟩ := by kernel_rfl
theorem call14 (h : Heap) : evC Try.prog 14 #[Aa] h = codeK Try.prog (evC Try.prog) loopL c14_0 ⟨#[Aa, undef, undef, undef, undef, undef, undef], nm h⟩ (retK Try.f14 Try.prog h) :=
  (evC_call 14 Try.f14 c14_0 Try.func14 (by kernel_rfl) #[Aa] h).trans (by kernel_rfl)
theorem ret14 (h0 h : Heap) : retK Try.f14 Try.prog h0 .ret ⟨#[Aa,Ab,Ac,Ad,Ae,Af,Ag], h⟩ = fin h0 (some Ac) h := by kernel_rfl
end Go.Am
namespace Go.Am
open Go.Proofs
set_option maxRecDepth 100000
variable (Aa Ab Ac Ad Ae Af Ag Ah Ai Aj Ak Al An Ao Ap Aq Ar As At Au Av Aw Ax Ay Az Ba Bb : Value)
noncomputable def c11_0 : Code := bodyC Try.f11 []
noncomputable def c11_1 : Code := bodyC Try.f11 [true, true, false, true, false, false]
noncomputable def c11_2 : Code := bodyC Try.f11 [true, true, true]
theorem c11_0_eq {β : Type} (h : Heap) (k : Ex → St → Option β) : codeK Try.prog (evC Try.prog) loopL c11_0 ⟨#[Aa,Ab,Ac,Ad,Ae,Af,Ag,Ah,Ai,Aj,Ak,Al,An,Ao,Ap,Aq,Ar,As,At,Au,Av,Aw,Ax,Ay,Az,Ba,Bb], h⟩ k =
(lenV Try.prog 27 Aa h).bind fun t7_0 =>
(lenV Try.prog 35 Ab h).bind fun t9_1 =>
(binV Try.prog .neq 3 (.tmp 7) (.tmp 9) t7_0 t9_1).bind fun t10_2 =>
cnd t10_2 (
k .ret ⟨#[Aa,Ab,Ac,Ad, (Go.Value.bool Bool.false),Af,Aa, t7_0,Ab, t9_1, t10_2,Al,An,Ao,Ap,Aq,Ar,As,At,Au,Av,Aw,Ax,Ay,Az,Ba,Bb], h⟩) (
loopK Try.prog (evC Try.prog) c11_1 ⟨#[Aa,Ab,Ac,Ad, (Go.Value.bool Bool.false), (Go.Value.int Go.IntKind.i64 0),Aa, t7_0,Ab, t9_1, t10_2,Al,An,Ao,Ap,Aq,Ar,As,At,Au,Av,Aw,Ax,Ay,Az,Ba,Bb], h⟩ (blockK 0 (seqK Try.prog (evC Try.prog) c11_2 k))) := by kernel_rfl
theorem c11_1_eq {β : Type} (h : Heap) (k : Ex → St → Option β) : codeK Try.prog (evC Try.prog) loopL c11_1 ⟨#[Aa,Ab,Ac,Ad,Ae,Af,Ag,Ah,Ai,Aj,Ak,Al,An,Ao,Ap,Aq,Ar,As,At,Au,Av,Aw,Ax,Ay,Az,Ba,Bb], h⟩ k =
(lenV Try.prog 27 Aa h).bind fun t13_3 =>
(binV Try.prog .lss 3 (.tmp 11) (.tmp 13) Af t13_3).bind fun t14_4 =>
cnd t14_4 (
(indexAddrV Try.prog 27 Aa Af).bind fun t19_5 =>
(loadV Try.prog 31 t19_5 h).bind fun t20_6 =>
obH (convV Try.prog 31 9 t20_6 h) fun t21_7 h8 =>
(indexAddrV Try.prog 35 Ab Af).bind fun t24_9 =>
(loadV Try.prog 9 t24_9 h8).bind fun t25_10 =>
(binV Try.prog .neq 9 (.tmp 21) (.tmp 25) t21_7 t25_10).bind fun t26_11 =>
cnd t26_11 (
k .ret ⟨#[Aa,Ab,Ac,Ad, (Go.Value.bool Bool.false),Af,Ag,Ah,Ai,Aj,Ak,Af,Aa, t13_3, t14_4,Aq,Ar,Aa,Af, t19_5, t20_6, t21_7,Ab,Af, t24_9, t25_10, t26_11], h8⟩) (
(binV Try.prog .add 3 (.tmp 15) (.const (Go.Value.int Go.IntKind.i64 1)) Af (Go.Value.int Go.IntKind.i64 1)).bind fun t16_12 =>
k .normal ⟨#[Aa,Ab,Ac,Ad,Ae, t16_12,Ag,Ah,Ai,Aj,Ak,Af,Aa, t13_3, t14_4,Af, t16_12,Aa,Af, t19_5, t20_6, t21_7,Ab,Af, t24_9, t25_10, t26_11], h8⟩)) (
k (.exit 0) ⟨#[Aa,Ab,Ac,Ad,Ae,Af,Ag,Ah,Ai,Aj,Ak,Af,Aa, t13_3, t14_4,Aq,Ar,As,At,Au,Av,Aw,Ax,Ay,Az,Ba,Bb], h⟩) := by kernel_rfl
theorem c11_2_eq {β : Type} (h : Heap) (k : Ex → St → Option β) : codeK Try.prog (evC Try.prog) loopL c11_2 ⟨#[Aa,Ab,Ac,Ad,Ae,Af,Ag,Ah,Ai,Aj,Ak,Al,An,Ao,Ap,Aq,Ar,As,At,Au,Av,Aw,Ax,Ay,Az,Ba,Bb], h⟩ k =
k .ret ⟨#[Aa,Ab,Ac,Ad, (Go.Value.bool Bool.true),Af,Ag,Ah,Ai,Aj,Ak,Al,An,Ao,Ap,Aq,Ar,As,At,Au,Av,Aw,Ax,Ay,Az,Ba,Bb], h⟩ := by kernel_rfl
theorem call11 (h : Heap) : evC Try.prog 11 #[Aa,Ab] h = codeK Try.prog (evC Try.prog) loopL c11_0 ⟨#[Aa,Ab, undef, undef, undef, undef, undef, undef, undef, undef, undef, undef, undef, undef, undef, undef, undef, undef, undef, undef, undef, undef, undef, undef, undef, undef, undef], nm h⟩ (retK Try.f11 Try.prog h) :=
  (evC_call 11 Try.f11 c11_0 Try.func11 (by kernel_rfl) #[Aa,Ab] h).trans (by kernel_rfl)
theorem ret11 (h0 h : Heap) : retK Try.f11 Try.prog h0 .ret ⟨#[Aa,Ab,Ac,Ad,Ae,Af,Ag,Ah,Ai,Aj,Ak,Al,An,Ao,Ap,Aq,Ar,As,At,Au,Av,Aw,Ax,Ay,Az,Ba,Bb], h⟩ = fin h0 (some Ae) h := by kernel_rfl
end Go.Am
namespace Go.Am
open Go.Proofs
set_option maxRecDepth 100000
variable (Aa Ab Ac Ad Ae Af Ag Ah Ai Aj Ak Al An Ao Ap Aq Ar As At Au Av Aw Ax Ay Az Ba Bb Bc Bd Be Bf Bg Bh Bi Bj Bk Bl Bn Bo Bp Bq Br Bs Bt Bu Bv Bw By Bz Ca : Value)
noncomputable def c7_0 : Code := bodyC Try.f7 []
theorem c7_0_eq {β : Type} (h : Heap) (k : Ex → St → Option β) : codeK Try.prog (evC Try.prog) loopL c7_0 ⟨#[Aa,Ab,Ac,Ad,Ae,Af,Ag,Ah,Ai,Aj,Ak,Al,An,Ao,Ap,Aq,Ar,As,At,Au,Av,Aw,Ax,Ay,Az,Ba,Bb,Bc,Bd,Be,Bf,Bg,Bh,Bi,Bj,Bk,Bl,Bn,Bo,Bp,Bq,Br,Bs,Bt,Bu,Bv,Bw,By,Bz,Ca], h⟩ k =
obH (evC Try.prog 8 #[(Go.Value.int Go.IntKind.i64 4)] h) fun t8_0 h1 =>
(extractV t8_0 0).bind fun t9_2 =>
(extractV t8_0 1).bind fun t10_3 =>
(binV Try.prog .neq 24 (.tmp 11) (.const (Go.Value.int Go.IntKind.i64 0)) t10_3 (Go.Value.int Go.IntKind.i64 0)).bind fun t12_4 =>
(gd (wt t12_4 false) (binV Try.prog .eql 23 (.tmp 14) (.const (Go.Value.pointer Option.none)) (gdV (wt t12_4 false) t9_2) (Go.Value.pointer Option.none))).bind fun t15_5 =>
(pickV t12_4 (Go.Value.bool Bool.true) t15_5).bind fun t16_6 =>
cnd t16_6 (
k .ret ⟨#[(Go.Value.bool Bool.false), t9_2, t10_3,Ad,Ae,Af,Ag, t8_0, t8_0, t9_2, t10_3, t10_3, t12_4, t12_4, (gdV (wt t12_4 false) t9_2), t15_5, t16_6,As,At,Au,Av,Aw,Ax,Ay,Az,Ba,Bb,Bc,Bd,Be,Bf,Bg,Bh,Bi,Bj,Bk,Bl,Bn,Bo,Bp,Bq,Br,Bs,Bt,Bu,Bv,Bw,By,Bz,Ca], h1⟩) (
obH (buildSliceV Try.prog 31 1 #[(0, (Go.Value.int Go.IntKind.u8 98))] h1) fun t19_7 h8 =>
obH (convV Try.prog 31 31 t19_7 h8) fun t20_9 h10 =>
obH (evC Try.prog 9 #[t9_2, (Go.Value.int Go.IntKind.u64 2), t20_9] h10) fun t21_11 h12 =>
(extractV t21_11 0).bind fun t22_13 =>
(extractV t21_11 1).bind fun t23_14 =>
obH (buildSliceV Try.prog 31 1 #[(0, (Go.Value.int Go.IntKind.u8 97))] h12) fun t26_15 h16 =>
obH (convV Try.prog 31 31 t26_15 h16) fun t27_17 h18 =>
obH (evC Try.prog 9 #[t9_2, (Go.Value.int Go.IntKind.u64 1), t27_17] h18) fun t28_19 h20 =>
(extractV t28_19 0).bind fun t29_21 =>
(extractV t28_19 1).bind fun t30_22 =>
(lenV Try.prog 27 t22_13 h20).bind fun t32_23 =>
(binV Try.prog .eql 3 (.tmp 32) (.const (Go.Value.int Go.IntKind.i64 0)) t32_23 (Go.Value.int Go.IntKind.i64 0)).bind fun t33_24 =>
(pickV t33_24 (gdV (wt t33_24 true) t23_14) (Go.Value.bool Bool.false)).bind fun t36_25 =>
obH (gdH (wt t36_25 true) h20 (buildSliceV Try.prog 35 2 #[(0, (Go.Value.string { data := #[97] })), (1, (Go.Value.string { data := #[98] }))] h20)) fun t39_26 h27 =>
obH (gdH (wt t36_25 true) h27 (evC Try.prog 11 #[(gdV (wt t36_25 true) t29_21), t39_26] h27)) fun t40_28 h29 =>
(pickV t36_25 t40_28 (Go.Value.bool Bool.false)).bind fun t41_30 =>
(pickV t41_30 (gdV (wt t41_30 true) t30_22) (Go.Value.bool Bool.false)).bind fun t44_31 =>
obH (gdH (wt t44_31 true) h29 (evC Try.prog 14 #[(gdV (wt t44_31 true) t9_2)] h29)) fun t47_32 h33 =>
(gd (wt t44_31 true) (binV Try.prog .eql 30 (.tmp 47) (.const (Go.Value.int Go.IntKind.u64 3)) t47_32 (Go.Value.int Go.IntKind.u64 3))).bind fun t48_34 =>
(pickV t44_31 t48_34 (Go.Value.bool Bool.false)).bind fun t49_35 =>
k .ret ⟨#[t49_35, t9_2, t10_3, t22_13, t23_14, t29_21, t30_22, t8_0, t8_0, t9_2, t10_3, t10_3, t12_4, t12_4, (gdV (wt t12_4 false) t9_2), t15_5, t16_6, t21_11, t9_2, t19_7, t20_9, t21_11, t22_13, t23_14, t28_19, t9_2, t26_15, t27_17, t28_19, t29_21, t30_22, t22_13, t32_23, t33_24, t33_24, (gdV (wt t33_24 true) t23_14), t36_25, t36_25, (gdV (wt t36_25 true) t29_21), t39_26, t40_28, t41_30, t41_30, (gdV (wt t41_30 true) t30_22), t44_31, t44_31, (gdV (wt t44_31 true) t9_2), t47_32, t48_34, t49_35], h33⟩) := by kernel_rfl
theorem call7 (h : Heap) : evC Try.prog 7 #[] h = codeK Try.prog (evC Try.prog) loopL c7_0 ⟨#[undef, undef, undef, undef, undef, undef, undef, undef, undef, undef, undef, undef, undef, undef, undef, undef, undef, undef, undef, undef, undef, undef, undef, undef, undef, undef, undef, undef, undef, undef, undef, undef, undef, undef, undef, undef, undef, undef, undef, undef, undef, undef, undef, undef, undef, undef, undef, undef, undef, undef], nm h⟩ (retK Try.f7 Try.prog h) :=
  (evC_call 7 Try.f7 c7_0 Try.func7 (by kernel_rfl) #[] h).trans (by kernel_rfl)
theorem ret7 (h0 h : Heap) : retK Try.f7 Try.prog h0 .ret ⟨#[Aa,Ab,Ac,Ad,Ae,Af,Ag,Ah,Ai,Aj,Ak,Al,An,Ao,Ap,Aq,Ar,As,At,Au,Av,Aw,Ax,Ay,Az,Ba,Bb,Bc,Bd,Be,Bf,Bg,Bh,Bi,Bj,Bk,Bl,Bn,Bo,Bp,Bq,Br,Bs,Bt,Bu,Bv,Bw,By,Bz,Ca], h⟩ = fin h0 (some Aa) h := by kernel_rfl
end Go.Am
namespace Go.Am
open Go.Proofs
set_option maxRecDepth 100000
variable {β : Type} (x : Nat → Value) (h : Heap) (k : Ex → St → Option β) (r m : List Nat) (g : Heap)
end Go.Am
namespace Go.Am
open Go.Proofs
set_option maxRecDepth 100000
variable {β : Type} (x : Nat → Value) (h : Heap) (k : Ex → St → Option β) (r m : List Nat) (g : Heap)
noncomputable def c5_0 : Code := bodyC Try.f5 []
noncomputable def c5_1 : Code := bodyC Try.f5 [true, true, true, true, true, true, false, true, false, false]
noncomputable def c5_2 : Code := bodyC Try.f5 [true, true, true, true, true, true, true]
noncomputable def c5_3 : Code := bodyC Try.f5 [true, true, true, true, true, true, false, true, false, false, true, false, false, true, true, false, true, false, false]
noncomputable def c5_4 : Code := bodyC Try.f5 [true, true, true, true, true, true, false, true, false, false, true, false, false, true, true, true]
noncomputable def c5_5 : Code := bodyC Try.f5 [true, true, true, true, true, true, false, true, false, false, true, true]
theorem c5_0_eq : cK c5_0 133 x h k =
obH (ev 7 #[] h) fun v0 h1 =>
(unV Try.prog .not v0).bind fun v2 =>
cnd v2 (
k .ret ⟨ar 133 (up x [(6,(.bool false)),(14,v0),(15,v2)]), h1⟩) (
(bn .lss 3 (x 0) (.int .i64 1)).bind fun v3 =>
(gd (wt v3 false) (bn .gtr 3 (gdV (wt v3 false) (x 0)) (.int .i64 16))).bind fun v4 =>
(pickV v3 (.bool true) v4).bind fun v5 =>
(gd (wt v5 false) (ln 35 (gdV (wt v5 false) (x 1)) h1)).bind fun v6 =>
(gd (wt v5 false) (bn .gtr 3 v6 (.int .i64 30))).bind fun v7 =>
(pickV v5 (.bool true) v7).bind fun v8 =>
(gd (wt v8 false) (ln 50 (gdV (wt v8 false) (x 2)) h1)).bind fun v9 =>
(gd (wt v8 false) (bn .gtr 3 v9 (.int .i64 100))).bind fun v10 =>
(pickV v8 (.bool true) v10).bind fun v11 =>
cnd v11 (
k .ret ⟨ar 133 (up x [(6,(.bool true)),(14,v0),(15,v2),(16,(x 0)),(17,v3),(18,v3),(19,(gdV (wt v3 false) (x 0))),(20,v4),(21,v5),(22,v5),(23,(gdV (wt v5 false) (x 1))),(24,v6),(25,v7),(26,v8),(27,v8),(28,(gdV (wt v8 false) (x 2))),(29,v9),(30,v10),(31,v11)]), h1⟩) (
obH (ev 8 #[x 0] h1) fun v12 h13 =>
(extractV v12 0).bind fun v14 =>
(extractV v12 1).bind fun v15 =>
(bn .neq 24 v15 (.int .i64 0)).bind fun v16 =>
(gd (wt v16 false) (bn .eql 23 (gdV (wt v16 false) v14) (.pointer Option.none))).bind fun v17 =>
(pickV v16 (.bool true) v17).bind fun v18 =>
cnd v18 (
k .ret ⟨ar 133 (up x [(6,(.bool false)),(7,v14),(8,v15),(14,v0),(15,v2),(16,(x 0)),(17,v3),(18,v3),(19,(gdV (wt v3 false) (x 0))),(20,v4),(21,v5),(22,v5),(23,(gdV (wt v5 false) (x 1))),(24,v6),(25,v7),(26,v8),(27,v8),(28,(gdV (wt v8 false) (x 2))),(29,v9),(30,v10),(31,v11),(32,v12),(33,(x 0)),(34,v12),(35,v14),(36,v15),(37,v15),(38,v16),(39,v16),(40,(gdV (wt v16 false) v14)),(41,v17),(42,v18)]), h13⟩) (
lK c5_1 133 (up x [(6,(.bool false)),(7,v14),(8,v15),(9,(.int .i64 0)),(10,(.int .i64 0)),(14,v0),(15,v2),(16,(x 0)),(17,v3),(18,v3),(19,(gdV (wt v3 false) (x 0))),(20,v4),(21,v5),(22,v5),(23,(gdV (wt v5 false) (x 1))),(24,v6),(25,v7),(26,v8),(27,v8),(28,(gdV (wt v8 false) (x 2))),(29,v9),(30,v10),(31,v11),(32,v12),(33,(x 0)),(34,v12),(35,v14),(36,v15),(37,v15),(38,v16),(39,v16),(40,(gdV (wt v16 false) v14)),(41,v17),(42,v18)]) h13 (blockK 0 (sK c5_2 k))))) := by kernel_rfl
theorem c5_1_eq : cK c5_1 133 x h k =
(ln 50 (x 2) h).bind fun v19 =>
(bn .lss 3 (x 10) v19).bind fun v20 =>
cnd v20 (
(ia 50 (x 2) (x 10)).bind fun v21 =>
(ld 3 v21 h).bind fun v22 =>
(bn .lss 3 v22 (.int .i64 0)).bind fun v23 =>
(gd (wt v23 false) (ia 50 (gdV (wt v23 false) (x 2)) (gdV (wt v23 false) (x 10)))).bind fun v24 =>
(gd (wt v23 false) (ld 3 v24 h)).bind fun v25 =>
(gd (wt v23 false) (ln 35 (gdV (wt v23 false) (x 1)) h)).bind fun v26 =>
(gd (wt v23 false) (bn .geq 3 v25 v26)).bind fun v27 =>
(pickV v23 (.bool true) v27).bind fun v28 =>
cnd v28 (
(bn .add 3 (x 10) (.int .i64 1)).bind fun v29 =>
k .normal ⟨ar 133 (up x [(10,v29),(43,(x 10)),(44,(x 2)),(45,v19),(46,v20),(47,(x 10)),(48,v29),(49,(x 2)),(50,(x 10)),(51,v21),(52,v22),(53,v23),(54,v23),(55,(gdV (wt v23 false) (x 2))),(56,(gdV (wt v23 false) (x 10))),(57,v24),(58,v25),(59,(gdV (wt v23 false) (x 1))),(60,v26),(61,v27),(62,v28)]), h⟩) (
(ia 50 (x 2) (x 10)).bind fun v30 =>
(ld 3 v30 h).bind fun v31 =>
(bn .add 3 v31 (.int .i64 1)).bind fun v32 =>
obH (cv 3 30 v32 h) fun v33 h34 =>
(ia 50 (x 2) (x 10)).bind fun v35 =>
(ld 3 v35 h34).bind fun v36 =>
(ia 35 (x 1) v36).bind fun v37 =>
(ld 9 v37 h34).bind fun v38 =>
obH (cv 9 31 v38 h34) fun v39 h40 =>
obH (ev 9 #[x 7,v33,v39] h40) fun v41 h42 =>
(extractV v41 0).bind fun v43 =>
(extractV v41 1).bind fun v44 =>
lK c5_3 133 (up x [(11,v43),(12,v44),(13,(.int .i64 0)),(43,(x 10)),(44,(x 2)),(45,v19),(46,v20),(49,(x 2)),(50,(x 10)),(51,v21),(52,v22),(53,v23),(54,v23),(55,(gdV (wt v23 false) (x 2))),(56,(gdV (wt v23 false) (x 10))),(57,v24),(58,v25),(59,(gdV (wt v23 false) (x 1))),(60,v26),(61,v27),(62,v28),(63,v41),(64,(x 7)),(65,(x 2)),(66,(x 10)),(67,v30),(68,v31),(69,v32),(70,v33),(71,(x 1)),(72,(x 2)),(73,(x 10)),(74,v35),(75,v36),(76,v37),(77,v38),(78,v39),(79,v41),(80,v43),(81,v44)]) h42 (blockK 2 (sK c5_4 (blockK 1 (sK c5_5 k)))))) (
k (.exit 0) ⟨ar 133 (up x [(43,(x 10)),(44,(x 2)),(45,v19),(46,v20)]), h⟩) := by kernel_rfl
theorem c5_2_eq : cK c5_2 133 x h k =
k .ret ⟨ar 133 (up x [(6,(.bool true))]), h⟩ := by kernel_rfl
theorem c5_3_eq : cK c5_3 133 x h k =
(ln 27 (x 11) h).bind fun v45 =>
(bn .lss 3 (x 13) v45).bind fun v46 =>
cnd v46 (
(ln 35 (x 1) h).bind fun v47 =>
(bn .geq 3 (x 9) v47).bind fun v48 =>
(gd (wt v48 false) (ia 27 (gdV (wt v48 false) (x 11)) (gdV (wt v48 false) (x 13)))).bind fun v49 =>
(gd (wt v48 false) (ld 31 v49 h)).bind fun v50 =>
obH (gdH (wt v48 false) h (cv 31 9 v50 h)) fun v51 h52 =>
(gd (wt v48 false) (ia 35 (gdV (wt v48 false) (x 1)) (gdV (wt v48 false) (x 9)))).bind fun v53 =>
(gd (wt v48 false) (ld 9 v53 h52)).bind fun v54 =>
(gd (wt v48 false) (bn .neq 9 v51 v54)).bind fun v55 =>
(pickV v48 (.bool true) v55).bind fun v56 =>
cnd v56 (
k .ret ⟨ar 133 (up x [(6,(.bool false)),(82,(x 13)),(83,(x 11)),(84,v45),(85,v46),(88,(x 9)),(89,(x 1)),(90,v47),(91,v48),(92,v48),(93,(gdV (wt v48 false) (x 11))),(94,(gdV (wt v48 false) (x 13))),(95,v49),(96,v50),(97,v51),(98,(gdV (wt v48 false) (x 1))),(99,(gdV (wt v48 false) (x 9))),(100,v53),(101,v54),(102,v55),(103,v56)]), h52⟩) (
(bn .add 3 (x 9) (.int .i64 1)).bind fun v57 =>
(bn .add 3 (x 13) (.int .i64 1)).bind fun v58 =>
k .normal ⟨ar 133 (up x [(9,v57),(13,v58),(82,(x 13)),(83,(x 11)),(84,v45),(85,v46),(86,(x 13)),(87,v58),(88,(x 9)),(89,(x 1)),(90,v47),(91,v48),(92,v48),(93,(gdV (wt v48 false) (x 11))),(94,(gdV (wt v48 false) (x 13))),(95,v49),(96,v50),(97,v51),(98,(gdV (wt v48 false) (x 1))),(99,(gdV (wt v48 false) (x 9))),(100,v53),(101,v54),(102,v55),(103,v56),(104,(x 9)),(105,v57)]), h52⟩)) (
k (.exit 2) ⟨ar 133 (up x [(82,(x 13)),(83,(x 11)),(84,v45),(85,v46)]), h⟩) := by kernel_rfl
theorem c5_4_eq : cK c5_4 133 x h k =
obH (ev 14 #[x 7] h) fun v59 h60 =>
(bn .add 3 (x 9) (.int .i64 1)).bind fun v61 =>
obH (cv 3 30 v61 h60) fun v62 h63 =>
(bn .neq 30 v59 v62).bind fun v64 =>
obH (gdH (wt v64 false) h63 (ev 10 #[(gdV (wt v64 false) (x 7))] h63)) fun v65 h66 =>
(gd (wt v64 false) (ln 32 v65 h66)).bind fun v67 =>
(gd (wt v64 false) (bn .geq 3 v67 (gdV (wt v64 false) (x 0)))).bind fun v68 =>
(gd (wt (gdV (wt v64 false) v68) true) (bn .gtr 3 (gdV (wt (gdV (wt v64 false) v68) true) (x 0)) (.int .i64 1))).bind fun v69 =>
(gd (wt v64 false) (pickV (gdV (wt v64 false) v68) v69 (.bool false))).bind fun v70 =>
(pickV v64 (.bool true) v70).bind fun v71 =>
(gd (wt v71 false) (bn .eql 3 (gdV (wt v71 false) (x 0)) (.int .i64 1))).bind fun v72 =>
obH (gdH (wt (gdV (wt v71 false) v72) true) h66 (ev 10 #[(gdV (wt (gdV (wt v71 false) v72) true) (x 7))] h66)) fun v73 h74 =>
(gd (wt (gdV (wt v71 false) v72) true) (ln 32 v73 h74)).bind fun v75 =>
(gd (wt (gdV (wt v71 false) v72) true) (bn .gtr 3 v75 (.int .i64 0))).bind fun v76 =>
(gd (wt v71 false) (pickV (gdV (wt v71 false) v72) v76 (.bool false))).bind fun v77 =>
(pickV v71 (.bool true) v77).bind fun v78 =>
cnd v78 (
k .ret ⟨ar 133 (up x [(6,(.bool false)),(106,(x 7)),(107,v59),(108,(x 9)),(109,v61),(110,v62),(111,v64),(112,v64),(113,(gdV (wt v64 false) (x 7))),(114,v65),(115,v67),(116,(gdV (wt v64 false) (x 0))),(117,v68),(118,(gdV (wt v64 false) v68)),(119,(gdV (wt (gdV (wt v64 false) v68) true) (x 0))),(120,v69),(121,v70),(122,v71),(123,v71),(124,(gdV (wt v71 false) (x 0))),(125,v72),(126,(gdV (wt v71 false) v72)),(127,(gdV (wt (gdV (wt v71 false) v72) true) (x 7))),(128,v73),(129,v75),(130,v76),(131,v77),(132,v78)]), h74⟩) (
k .normal ⟨ar 133 (up x [(106,(x 7)),(107,v59),(108,(x 9)),(109,v61),(110,v62),(111,v64),(112,v64),(113,(gdV (wt v64 false) (x 7))),(114,v65),(115,v67),(116,(gdV (wt v64 false) (x 0))),(117,v68),(118,(gdV (wt v64 false) v68)),(119,(gdV (wt (gdV (wt v64 false) v68) true) (x 0))),(120,v69),(121,v70),(122,v71),(123,v71),(124,(gdV (wt v71 false) (x 0))),(125,v72),(126,(gdV (wt v71 false) v72)),(127,(gdV (wt (gdV (wt v71 false) v72) true) (x 7))),(128,v73),(129,v75),(130,v76),(131,v77),(132,v78)]), h74⟩) := by kernel_rfl
theorem c5_5_eq : cK c5_5 133 x h k =
(bn .add 3 (x 10) (.int .i64 1)).bind fun v79 =>
k .normal ⟨ar 133 (up x [(10,v79),(47,(x 10)),(48,v79)]), h⟩ := by kernel_rfl
theorem call5 (a0 a1 a2 : Value) : evC Try.prog 5 #[a0,a1,a2] h = cK c5_0 133 (up un [(0,a0),(1,a1),(2,a2)]) (nm h) (retK Try.f5 Try.prog h) :=
  (evC_call 5 Try.f5 c5_0 Try.func5 (by kernel_rfl) #[a0,a1,a2] h).trans (by kernel_rfl)
theorem ret5 : retK Try.f5 Try.prog g .ret ⟨ar 133 x, h⟩ = fin g (some (x 6)) h := by kernel_rfl
end Go.Am
