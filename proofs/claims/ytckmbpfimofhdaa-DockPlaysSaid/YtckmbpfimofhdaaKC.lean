/- What the texts of functions come to in the machine (printed by a program of this seat; Lean checks it). -/
import Derived.Test.YtckmbpfimofhdaaKB
import Derived.Test.YtckmbpfimofhdaaChecked
import Derived.KernelRfl
set_option linter.all false
namespace Go.Am
open Go.Proofs
set_option maxRecDepth 100000
variable (Aa Ab Ac Ad Ae Af Ag Ah : Value)
noncomputable def c15_0 : Code := bodyC Try.f15 []
theorem c15_0_eq {β : Type} (h : Heap) (k : Ex → St → Option β) : codeK Try.prog (evC Try.prog) loopL c15_0 ⟨#[Aa,Ab,Ac,Ad,Ae,Af,Ag,Ah], h⟩ k =
(binV Try.prog .eql 31 (.tmp 3) (.const (Go.Value.slice Option.none 0 0)) Aa (Go.Value.slice Option.none 0 0)).bind fun t4_0 =>
cnd t4_0 (
k .ret ⟨#[Aa,Ab, (Go.Value.slice Option.none 0 0),Aa, t4_0,Af,Ag,Ah], h⟩) (
obH (buildSliceV Try.prog 31 0 #[] h) fun t5_1 h2 =>
obH (appendV Try.prog 31 (some 31) t5_1 Aa h2) fun t7_3 h4 =>
k .ret ⟨#[Aa,Ab, t7_3,Aa, t4_0, t5_1,Aa, t7_3], h4⟩) := by kernel_rfl
theorem call15 (h : Heap) : evC Try.prog 15 #[Aa] h = codeK Try.prog (evC Try.prog) loopL c15_0 ⟨#[Aa, undef, undef, undef, undef, undef, undef, undef], nm h⟩ (retK Try.f15 Try.prog h) :=
  (evC_call 15 Try.f15 c15_0 Try.func15 (by kernel_rfl) #[Aa] h).trans (by kernel_rfl)
theorem ret15 (h0 h : Heap) : retK Try.f15 Try.prog h0 .ret ⟨#[Aa,Ab,Ac,Ad,Ae,Af,Ag,Ah], h⟩ = fin h0 (some Ac) h := by kernel_rfl
end Go.Am
namespace Go.Am
open Go.Proofs
set_option maxRecDepth 100000
variable (Aa Ab Ac Ad Ae Af Ag Ah Ai Aj Ak Al An Ao Ap : Value)
noncomputable def c8_0 : Code := bodyC Try.f8 []
theorem c8_0_eq {β : Type} (h : Heap) (k : Ex → St → Option β) : codeK Try.prog (evC Try.prog) loopL c8_0 ⟨#[Aa,Ab,Ac,Ad,Ae,Af,Ag,Ah,Ai,Aj,Ak,Al,An,Ao,Ap], h⟩ k =
(binV Try.prog .lss 3 (.tmp 4) (.const (Go.Value.int Go.IntKind.i64 1)) Aa (Go.Value.int Go.IntKind.i64 1)).bind fun t5_0 =>
(gd (wt t5_0 false) (binV Try.prog .gtr 3 (.tmp 7) (.const (Go.Value.int Go.IntKind.i64 16)) (gdV (wt t5_0 false) Aa) (Go.Value.int Go.IntKind.i64 16))).bind fun t8_1 =>
(pickV t5_0 (Go.Value.bool Bool.true) t8_1).bind fun t9_2 =>
cnd t9_2 (
k .ret ⟨#[Aa,Ab, (Go.Value.pointer Option.none), (Go.Value.int Go.IntKind.i64 1),Aa, t5_0, t5_0, (gdV (wt t5_0 false) Aa), t8_1, t9_2,Ak,Al,An,Ao,Ap], h⟩) (
obH (convV Try.prog 3 30 Aa h) fun t11_3 h4 =>
obH (some (makeMapV h4)) fun t12_5 h6 =>
(buildV Try.prog 55 #[(0, t11_3), (1, (Go.Value.int Go.IntKind.u64 1)), (2, t12_5)]).bind fun t13_7 =>
obH (boxV Try.prog 55 t13_7 h6) fun t14_8 h9 =>
k .ret ⟨#[Aa,Ab, t14_8, (Go.Value.int Go.IntKind.i64 0),Aa, t5_0, t5_0, (gdV (wt t5_0 false) Aa), t8_1, t9_2,Aa, t11_3, t12_5, t13_7, t14_8], h9⟩) := by kernel_rfl
theorem call8 (h : Heap) : evC Try.prog 8 #[Aa] h = codeK Try.prog (evC Try.prog) loopL c8_0 ⟨#[Aa, undef, undef, undef, undef, undef, undef, undef, undef, undef, undef, undef, undef, undef, undef], nm h⟩ (retK Try.f8 Try.prog h) :=
  (evC_call 8 Try.f8 c8_0 Try.func8 (by kernel_rfl) #[Aa] h).trans (by kernel_rfl)
theorem ret8 (h0 h : Heap) : retK Try.f8 Try.prog h0 .ret ⟨#[Aa,Ab,Ac,Ad,Ae,Af,Ag,Ah,Ai,Aj,Ak,Al,An,Ao,Ap], h⟩ = fin h0 (some (.tuple #[Ac,Ad])) h := by kernel_rfl
end Go.Am
namespace Go.Am
open Go.Proofs
set_option maxRecDepth 100000
variable (Aa Ab Ac Ad Ae Af Ag Ah Ai Aj Ak Al An Ao Ap Aq Ar As At Au Av Aw Ax Ay Az Ba Bb Bc Bd Be Bf Bg Bh Bi Bj Bk Bl Bn Bo Bp Bq Br Bs Bt Bu Bv Bw By Bz Ca Cb Cc Cd Ce Cf Cg Ch Ci Cj Ck Cl Cm Cn Co Cp Cq Cr Cs Ct Cu Cv Cw Cx Cy Cz Da Db Dc Dd De Df Dg Dh Di Dj : Value)
noncomputable def c9_0 : Code := bodyC Try.f9 []
noncomputable def c9_1 : Code := bodyC Try.f9 [true, true, true, true, false, false]
theorem c9_0_eq {β : Type} (h : Heap) (k : Ex → St → Option β) : codeK Try.prog (evC Try.prog) loopL c9_0 ⟨#[Aa,Ab,Ac,Ad,Ae,Af,Ag,Ah,Ai,Aj,Ak,Al,An,Ao,Ap,Aq,Ar,As,At,Au,Av,Aw,Ax,Ay,Az,Ba,Bb,Bc,Bd,Be,Bf,Bg,Bh,Bi,Bj,Bk,Bl,Bn,Bo,Bp,Bq,Br,Bs,Bt,Bu,Bv,Bw,By,Bz,Ca,Cb,Cc,Cd,Ce,Cf,Cg,Ch,Ci,Cj,Ck,Cl,Cm,Cn,Co,Cp,Cq,Cr,Cs,Ct,Cu,Cv,Cw,Cx,Cy,Cz,Da,Db,Dc,Dd,De,Df,Dg,Dh,Di,Dj], h⟩ k =
(nilCheckV Try.prog Aa).bind fun t15_0 =>
(fieldAddrV Try.prog 55 t15_0 2).bind fun t16_1 =>
(loadV Try.prog 53 t16_1 h).bind fun t17_2 =>
(lookupV Try.prog 53 t17_2 Ab true h).bind fun t19_3 =>
(extractV t19_3 0).bind fun t20_4 =>
(extractV t19_3 1).bind fun t21_5 =>
(gd (wt t21_5 false) (nilCheckV Try.prog (gdV (wt t21_5 false) Aa))).bind fun t26_6 =>
(gd (wt t21_5 false) (fieldAddrV Try.prog 55 t26_6 1)).bind fun t27_7 =>
(gd (wt t21_5 false) (loadV Try.prog 30 t27_7 h)).bind fun t28_8 =>
(gd (wt t21_5 false) (binV Try.prog .lss 30 (.tmp 24) (.tmp 28) (gdV (wt t21_5 false) Ab) t28_8)).bind fun t29_9 =>
(pickV t21_5 (Go.Value.bool Bool.true) t29_9).bind fun t30_10 =>
(gd (wt t30_10 false) (nilCheckV Try.prog (gdV (wt t30_10 false) Aa))).bind fun t34_11 =>
(gd (wt t30_10 false) (fieldAddrV Try.prog 55 t34_11 1)).bind fun t35_12 =>
(gd (wt t30_10 false) (loadV Try.prog 30 t35_12 h)).bind fun t36_13 =>
(gd (wt t30_10 false) (binV Try.prog .sub 30 (.tmp 32) (.tmp 36) (gdV (wt t30_10 false) Ab) t36_13)).bind fun t37_14 =>
(gd (wt t30_10 false) (nilCheckV Try.prog (gdV (wt t30_10 false) Aa))).bind fun t39_15 =>
(gd (wt t30_10 false) (fieldAddrV Try.prog 55 t39_15 0)).bind fun t40_16 =>
(gd (wt t30_10 false) (loadV Try.prog 30 t40_16 h)).bind fun t41_17 =>
(gd (wt t30_10 false) (binV Try.prog .geq 30 (.tmp 37) (.tmp 41) t37_14 t41_17)).bind fun t42_18 =>
(pickV t30_10 (Go.Value.bool Bool.true) t42_18).bind fun t43_19 =>
cnd t43_19 (
k .ret ⟨#[Aa,Ab,Ac,Ad,Ae,Af, (Go.Value.slice Option.none 0 0), (Go.Value.bool Bool.false), t20_4, t21_5,Ak,Al,An, t19_3,Aa, t15_0, t16_1, t17_2,Ab, t19_3, t20_4, t21_5, t21_5, t21_5, (gdV (wt t21_5 false) Ab), (gdV (wt t21_5 false) Aa), t26_6, t27_7, t28_8, t29_9, t30_10, t30_10, (gdV (wt t30_10 false) Ab), (gdV (wt t30_10 false) Aa), t34_11, t35_12, t36_13, t37_14, (gdV (wt t30_10 false) Aa), t39_15, t40_16, t41_17, t42_18, t43_19,Bu,Bv,Bw,By,Bz,Ca,Cb,Cc,Cd,Ce,Cf,Cg,Ch,Ci,Cj,Ck,Cl,Cm,Cn,Co,Cp,Cq,Cr,Cs,Ct,Cu,Cv,Cw,Cx,Cy,Cz,Da,Db,Dc,Dd,De,Df,Dg,Dh,Di,Dj], h⟩) (
(nilCheckV Try.prog Aa).bind fun t45_20 =>
(fieldAddrV Try.prog 55 t45_20 2).bind fun t46_21 =>
(loadV Try.prog 53 t46_21 h).bind fun t47_22 =>
obH (evC Try.prog 15 #[Ac] (nm h)) fun t50_23 h24 =>
(mapUpdateV Try.prog 53 t47_22 Ab t50_23 (am h24 h)).bind fun h25 =>
chk ((rb t46_21) ++ []) (h24.mods ++ []) (
loopK Try.prog (evC Try.prog) c9_1 ⟨#[Aa,Ab,Ac,Ad,Ae,Af, (Go.Value.slice Option.none 0 0), (Go.Value.bool Bool.false), t20_4, t21_5, (Go.Value.slice Option.none 0 0),Al,An, t19_3,Aa, t15_0, t16_1, t17_2,Ab, t19_3, t20_4, t21_5, t21_5, t21_5, (gdV (wt t21_5 false) Ab), (gdV (wt t21_5 false) Aa), t26_6, t27_7, t28_8, t29_9, t30_10, t30_10, (gdV (wt t30_10 false) Ab), (gdV (wt t30_10 false) Aa), t34_11, t35_12, t36_13, t37_14, (gdV (wt t30_10 false) Aa), t39_15, t40_16, t41_17, t42_18, t43_19,Aa, t45_20, t46_21, t47_22,Ab,Ac, t50_23,Cc,Cd,Ce,Cf,Cg,Ch,Ci,Cj,Ck,Cl,Cm,Cn,Co,Cp,Cq,Cr,Cs,Ct,Cu,Cv,Cw,Cx,Cy,Cz,Da,Db,Dc,Dd,De,Df,Dg,Dh,Di,Dj], h25⟩ (blockK 0 k))) := by kernel_rfl
theorem c9_1_eq {β : Type} (h : Heap) (k : Ex → St → Option β) : codeK Try.prog (evC Try.prog) loopL c9_1 ⟨#[Aa,Ab,Ac,Ad,Ae,Af,Ag,Ah,Ai,Aj,Ak,Al,An,Ao,Ap,Aq,Ar,As,At,Au,Av,Aw,Ax,Ay,Az,Ba,Bb,Bc,Bd,Be,Bf,Bg,Bh,Bi,Bj,Bk,Bl,Bn,Bo,Bp,Bq,Br,Bs,Bt,Bu,Bv,Bw,By,Bz,Ca,Cb,Cc,Cd,Ce,Cf,Cg,Ch,Ci,Cj,Ck,Cl,Cm,Cn,Co,Cp,Cq,Cr,Cs,Ct,Cu,Cv,Cw,Cx,Cy,Cz,Da,Db,Dc,Dd,De,Df,Dg,Dh,Di,Dj], h⟩ k =
(nilCheckV Try.prog Aa).bind fun t53_26 =>
(fieldAddrV Try.prog 55 t53_26 2).bind fun t54_27 =>
(loadV Try.prog 53 t54_27 h).bind fun t55_28 =>
(nilCheckV Try.prog Aa).bind fun t57_29 =>
(fieldAddrV Try.prog 55 t57_29 1).bind fun t58_30 =>
(loadV Try.prog 30 t58_30 h).bind fun t59_31 =>
(lookupV Try.prog 53 t55_28 t59_31 true h).bind fun t60_32 =>
(extractV t60_32 0).bind fun t61_33 =>
(extractV t60_32 1).bind fun t62_34 =>
(unV Try.prog .not t62_34).bind fun t64_35 =>
cnd t64_35 (
k .ret ⟨#[Aa,Ab,Ac,Ad,Ae,Af,Ak, (Go.Value.bool Bool.true),Ai,Aj,Ak, t61_33, t62_34,Ao,Ap,Aq,Ar,As,At,Au,Av,Aw,Ax,Ay,Az,Ba,Bb,Bc,Bd,Be,Bf,Bg,Bh,Bi,Bj,Bk,Bl,Bn,Bo,Bp,Bq,Br,Bs,Bt,Bu,Bv,Bw,By,Bz,Ca,Cb, t60_32,Aa, t53_26, t54_27, t55_28,Aa, t57_29, t58_30, t59_31, t60_32, t61_33, t62_34, t62_34, t64_35,Ak,Cr,Cs,Ct,Cu,Cv,Cw,Cx,Cy,Cz,Da,Db,Dc,Dd,De,Df,Dg,Dh,Di,Dj], h⟩) (
obH (buildSliceV Try.prog 27 1 #[(0, t61_33)] h) fun t68_36 h37 =>
obH (appendV Try.prog 27 (some 27) Ak t68_36 h37) fun t69_38 h39 =>
(nilCheckV Try.prog Aa).bind fun t71_40 =>
(fieldAddrV Try.prog 55 t71_40 2).bind fun t72_41 =>
(loadV Try.prog 53 t72_41 h39).bind fun t73_42 =>
(nilCheckV Try.prog Aa).bind fun t75_43 =>
(fieldAddrV Try.prog 55 t75_43 1).bind fun t76_44 =>
(loadV Try.prog 30 t76_44 h39).bind fun t77_45 =>
obH (builtinV Try.prog .delete #[53, 30] #[t73_42, t77_45] h39) fun u46 h47 =>
(nilCheckV Try.prog Aa).bind fun t79_48 =>
(fieldAddrV Try.prog 55 t79_48 1).bind fun t80_49 =>
(loadV Try.prog 30 t80_49 h47).bind fun t81_50 =>
(binV Try.prog .add 30 (.tmp 81) (.const (Go.Value.int Go.IntKind.u64 1)) t81_50 (Go.Value.int Go.IntKind.u64 1)).bind fun t82_51 =>
(nilCheckV Try.prog Aa).bind fun t83_52 =>
(fieldAddrV Try.prog 55 t83_52 1).bind fun t84_53 =>
(storeV Try.prog 30 t84_53 t82_51 h47).bind fun h54 =>
k .normal ⟨#[Aa,Ab,Ac,Ad,Ae,Af,Ag,Ah,Ai,Aj, t69_38, t61_33, t62_34,Ao,Ap,Aq,Ar,As,At,Au,Av,Aw,Ax,Ay,Az,Ba,Bb,Bc,Bd,Be,Bf,Bg,Bh,Bi,Bj,Bk,Bl,Bn,Bo,Bp,Bq,Br,Bs,Bt,Bu,Bv,Bw,By,Bz,Ca,Cb, t60_32,Aa, t53_26, t54_27, t55_28,Aa, t57_29, t58_30, t59_31, t60_32, t61_33, t62_34, t62_34, t64_35,Cq,Ak, t61_33, t68_36, t69_38,Aa, t71_40, t72_41, t73_42,Aa, t75_43, t76_44, t77_45,Aa, t79_48, t80_49, t81_50, t82_51, t83_52, t84_53], h54⟩) := by kernel_rfl
theorem call9 (h : Heap) : evC Try.prog 9 #[Aa,Ab,Ac] h = codeK Try.prog (evC Try.prog) loopL c9_0 ⟨#[Aa,Ab,Ac, undef, undef, undef, undef, undef, undef, undef, undef, undef, undef, undef, undef, undef, undef, undef, undef, undef, undef, undef, undef, undef, undef, undef, undef, undef, undef, undef, undef, undef, undef, undef, undef, undef, undef, undef, undef, undef, undef, undef, undef, undef, undef, undef, undef, undef, undef, undef, undef, undef, undef, undef, undef, undef, undef, undef, undef, undef, undef, undef, undef, undef, undef, undef, undef, undef, undef, undef, undef, undef, undef, undef, undef, undef, undef, undef, undef, undef, undef, undef, undef, undef, undef], nm h⟩ (retK Try.f9 Try.prog h) :=
  (evC_call 9 Try.f9 c9_0 Try.func9 (by kernel_rfl) #[Aa,Ab,Ac] h).trans (by kernel_rfl)
theorem ret9 (h0 h : Heap) : retK Try.f9 Try.prog h0 .ret ⟨#[Aa,Ab,Ac,Ad,Ae,Af,Ag,Ah,Ai,Aj,Ak,Al,An,Ao,Ap,Aq,Ar,As,At,Au,Av,Aw,Ax,Ay,Az,Ba,Bb,Bc,Bd,Be,Bf,Bg,Bh,Bi,Bj,Bk,Bl,Bn,Bo,Bp,Bq,Br,Bs,Bt,Bu,Bv,Bw,By,Bz,Ca,Cb,Cc,Cd,Ce,Cf,Cg,Ch,Ci,Cj,Ck,Cl,Cm,Cn,Co,Cp,Cq,Cr,Cs,Ct,Cu,Cv,Cw,Cx,Cy,Cz,Da,Db,Dc,Dd,De,Df,Dg,Dh,Di,Dj], h⟩ = fin h0 (some (.tuple #[Ag,Ah])) h := by kernel_rfl
end Go.Am
namespace Go.Am
open Go.Proofs
set_option maxRecDepth 100000
variable (Aa Ab Ac Ad Ae Af Ag : Value)
noncomputable def c14_0 : Code := bodyC Try.f14 []
theorem c14_0_eq {β : Type} (h : Heap) (k : Ex → St → Option β) : codeK Try.prog (evC Try.prog) loopL c14_0 ⟨#[Aa,Ab,Ac,Ad,Ae,Af,Ag], h⟩ k =
(nilCheckV Try.prog Aa).bind fun t4_0 =>
(fieldAddrV Try.prog 55 t4_0 1).bind fun t5_1 =>
(loadV Try.prog 30 t5_1 h).bind fun t6_2 =>
k .ret ⟨#[Aa,Ab, t6_2,Aa, t4_0, t5_1, t6_2], h⟩ := by kernel_rfl
theorem call14 (h : Heap) : evC Try.prog 14 #[Aa] h = codeK Try.prog (evC Try.prog) loopL c14_0 ⟨#[Aa, undef, undef, undef, undef, undef, undef], nm h⟩ (retK Try.f14 Try.prog h) :=
  (evC_call 14 Try.f14 c14_0 Try.func14 (by kernel_rfl) #[Aa] h).trans (by kernel_rfl)
theorem ret14 (h0 h : Heap) : retK Try.f14 Try.prog h0 .ret ⟨#[Aa,Ab,Ac,Ad,Ae,Af,Ag], h⟩ = fin h0 (some Ac) h := by kernel_rfl
end Go.Am
namespace Go.Am
open Go.Proofs
set_option maxRecDepth 100000
variable (Aa Ab Ac Ad Ae Af Ag Ah Ai Aj Ak Al An Ao Ap Aq Ar As At Au Av Aw Ax Ay Az Ba Bb : Value)
noncomputable def c11_0 : Code := bodyC Try.f11 []
noncomputable def c11_1 : Code := bodyC Try.f11 [true, true, false, true, false, false]
noncomputable def c11_2 : Code := bodyC Try.f11 [true, true, true]
theorem c11_0_eq {β : Type} (h : Heap) (k : Ex → St → Option β) : codeK Try.prog (evC Try.prog) loopL c11_0 ⟨#[Aa,Ab,Ac,Ad,Ae,Af,Ag,Ah,Ai,Aj,Ak,Al,An,Ao,Ap,Aq,Ar,As,At,Au,Av,Aw,Ax,Ay,Az,Ba,Bb], h⟩ k =
(lenV Try.prog 27 Aa h).bind fun t7_0 =>
(lenV Try.prog 35 Ab h).bind fun t9_1 =>
(binV Try.prog .neq 3 (.tmp 7) (.tmp 9) t7_0 t9_1).bind fun t10_2 =>
cnd t10_2 (
k .ret ⟨#[Aa,Ab,Ac,Ad, (Go.Value.bool Bool.false),Af,Aa, t7_0,Ab, t9_1, t10_2,Al,An,Ao,Ap,Aq,Ar,As,At,Au,Av,Aw,Ax,Ay,Az,Ba,Bb], h⟩) (
loopK Try.prog (evC Try.prog) c11_1 ⟨#[Aa,Ab,Ac,Ad, (Go.Value.bool Bool.false), (Go.Value.int Go.IntKind.i64 0),Aa, t7_0,Ab, t9_1, t10_2,Al,An,Ao,Ap,Aq,Ar,As,At,Au,Av,Aw,Ax,Ay,Az,Ba,Bb], h⟩ (blockK 0 (seqK Try.prog (evC Try.prog) c11_2 k))) := by kernel_rfl
theorem c11_1_eq {β : Type} (h : Heap) (k : Ex → St → Option β) : codeK Try.prog (evC Try.prog) loopL c11_1 ⟨#[Aa,Ab,Ac,Ad,Ae,Af,Ag,Ah,Ai,Aj,Ak,Al,An,Ao,Ap,Aq,Ar,As,At,Au,Av,Aw,Ax,Ay,Az,Ba,Bb], h⟩ k =
(lenV Try.prog 27 Aa h).bind fun t13_3 =>
(binV Try.prog .lss 3 (.tmp 11) (.tmp 13) Af t13_3).bind fun t14_4 =>
cnd t14_4 (
(indexAddrV Try.prog 27 Aa Af).bind fun t19_5 =>
(loadV Try.prog 31 t19_5 h).bind fun t20_6 =>
obH (convV Try.prog 31 9 t20_6 h) fun t21_7 h8 =>
(indexAddrV Try.prog 35 Ab Af).bind fun t24_9 =>
(loadV Try.prog 9 t24_9 h8).bind fun t25_10 =>
(binV Try.prog .neq 9 (.tmp 21) (.tmp 25) t21_7 t25_10).bind fun t26_11 =>
cnd t26_11 (
k .ret ⟨#[Aa,Ab,Ac,Ad, (Go.Value.bool Bool.false),Af,Ag,Ah,Ai,Aj,Ak,Af,Aa, t13_3, t14_4,Aq,Ar,Aa,Af, t19_5, t20_6, t21_7,Ab,Af, t24_9, t25_10, t26_11], h8⟩) (
(binV Try.prog .add 3 (.tmp 15) (.const (Go.Value.int Go.IntKind.i64 1)) Af (Go.Value.int Go.IntKind.i64 1)).bind fun t16_12 =>
k .normal ⟨#[Aa,Ab,Ac,Ad,Ae, t16_12,Ag,Ah,Ai,Aj,Ak,Af,Aa, t13_3, t14_4,Af, t16_12,Aa,Af, t19_5, t20_6, t21_7,Ab,Af, t24_9, t25_10, t26_11], h8⟩)) (
k (.exit 0) ⟨#[Aa,Ab,Ac,Ad,Ae,Af,Ag,Ah,Ai,Aj,Ak,Af,Aa, t13_3, t14_4,Aq,Ar,As,At,Au,Av,Aw,Ax,Ay,Az,Ba,Bb], h⟩) := by kernel_rfl
theorem c11_2_eq {β : Type} (h : Heap) (k : Ex → St → Option β) : codeK Try.prog (evC Try.prog) loopL c11_2 ⟨#[Aa,Ab,Ac,Ad,Ae,Af,Ag,Ah,Ai,Aj,Ak,Al,An,Ao,Ap,Aq,Ar,As,At,Au,Av,Aw,Ax,Ay,Az,Ba,Bb], h⟩ k =
k .ret ⟨#[Aa,Ab,Ac,Ad, (Go.Value.bool Bool.true),Af,Ag,Ah,Ai,Aj,Ak,Al,An,Ao,Ap,Aq,Ar,As,At,Au,Av,Aw,Ax,Ay,Az,Ba,Bb], h⟩ := by kernel_rfl
theorem call11 (h : Heap) : evC Try.prog 11 #[Aa,Ab] h = codeK Try.prog (evC Try.prog) loopL c11_0 ⟨#[Aa,Ab, undef, undef, undef, undef, undef, undef, undef, undef, undef, undef, undef, undef, undef, undef, undef, undef, undef, undef, undef, undef, undef, undef, undef, undef, undef], nm h⟩ (retK Try.f11 Try.prog h) :=
  (evC_call 11 Try.f11 c11_0 Try.func11 (by kernel_rfl) #[Aa,Ab] h).trans (by kernel_rfl)
theorem ret11 (h0 h : Heap) : retK Try.f11 Try.prog h0 .ret ⟨#[Aa,Ab,Ac,Ad,Ae,Af,Ag,Ah,Ai,Aj,Ak,Al,An,Ao,Ap,Aq,Ar,As,At,Au,Av,Aw,Ax,Ay,Az,Ba,Bb], h⟩ = fin h0 (some Ae) h := by kernel_rfl
end Go.Am
namespace Go.Am
open Go.Proofs
set_option maxRecDepth 100000
variable (Aa Ab Ac Ad Ae Af Ag Ah Ai Aj Ak Al An Ao Ap Aq Ar As At Au Av Aw Ax Ay Az Ba Bb Bc Bd Be Bf Bg Bh Bi Bj Bk Bl Bn Bo Bp Bq Br Bs Bt Bu Bv Bw By Bz Ca : Value)
noncomputable def c7_0 : Code := bodyC Try.f7 []
theorem c7_0_eq {β : Type} (h : Heap) (k : Ex → St → Option β) : codeK Try.prog (evC Try.prog) loopL c7_0 ⟨#[Aa,Ab,Ac,Ad,Ae,Af,Ag,Ah,Ai,Aj,Ak,Al,An,Ao,Ap,Aq,Ar,As,At,Au,Av,Aw,Ax,Ay,Az,Ba,Bb,Bc,Bd,Be,Bf,Bg,Bh,Bi,Bj,Bk,Bl,Bn,Bo,Bp,Bq,Br,Bs,Bt,Bu,Bv,Bw,By,Bz,Ca], h⟩ k =
obH (evC Try.prog 8 #[(Go.Value.int Go.IntKind.i64 4)] h) fun t8_0 h1 =>
(extractV t8_0 0).bind fun t9_2 =>
(extractV t8_0 1).bind fun t10_3 =>
(binV Try.prog .neq 24 (.tmp 11) (.const (Go.Value.int Go.IntKind.i64 0)) t10_3 (Go.Value.int Go.IntKind.i64 0)).bind fun t12_4 =>
(gd (wt t12_4 false) (binV Try.prog .eql 23 (.tmp 14) (.const (Go.Value.pointer Option.none)) (gdV (wt t12_4 false) t9_2) (Go.Value.pointer Option.none))).bind fun t15_5 =>
(pickV t12_4 (Go.Value.bool Bool.true) t15_5).bind fun t16_6 =>
cnd t16_6 (
k .ret ⟨#[(Go.Value.bool Bool.false), t9_2, t10_3,Ad,Ae,Af,Ag, t8_0, t8_0, t9_2, t10_3, t10_3, t12_4, t12_4, (gdV (wt t12_4 false) t9_2), t15_5, t16_6,As,At,Au,Av,Aw,Ax,Ay,Az,Ba,Bb,Bc,Bd,Be,Bf,Bg,Bh,Bi,Bj,Bk,Bl,Bn,Bo,Bp,Bq,Br,Bs,Bt,Bu,Bv,Bw,By,Bz,Ca], h1⟩) (
obH (buildSliceV Try.prog 31 1 #[(0, (Go.Value.int Go.IntKind.u8 98))] h1) fun t19_7 h8 =>
obH (convV Try.prog 31 31 t19_7 h8) fun t20_9 h10 =>
obH (evC Try.prog 9 #[t9_2, (Go.Value.int Go.IntKind.u64 2), t20_9] h10) fun t21_11 h12 =>
(extractV t21_11 0).bind fun t22_13 =>
(extractV t21_11 1).bind fun t23_14 =>
obH (buildSliceV Try.prog 31 1 #[(0, (Go.Value.int Go.IntKind.u8 97))] h12) fun t26_15 h16 =>
obH (convV Try.prog 31 31 t26_15 h16) fun t27_17 h18 =>
obH (evC Try.prog 9 #[t9_2, (Go.Value.int Go.IntKind.u64 1), t27_17] h18) fun t28_19 h20 =>
(extractV t28_19 0).bind fun t29_21 =>
(extractV t28_19 1).bind fun t30_22 =>
(lenV Try.prog 27 t22_13 h20).bind fun t32_23 =>
(binV Try.prog .eql 3 (.tmp 32) (.const (Go.Value.int Go.IntKind.i64 0)) t32_23 (Go.Value.int Go.IntKind.i64 0)).bind fun t33_24 =>
(pickV t33_24 (gdV (wt t33_24 true) t23_14) (Go.Value.bool Bool.false)).bind fun t36_25 =>
obH (gdH (wt t36_25 true) h20 (buildSliceV Try.prog 35 2 #[(0, (Go.Value.string { data := #[97] })), (1, (Go.Value.string { data := #[98] }))] h20)) fun t39_26 h27 =>
obH (gdH (wt t36_25 true) h27 (evC Try.prog 11 #[(gdV (wt t36_25 true) t29_21), t39_26] h27)) fun t40_28 h29 =>
(pickV t36_25 t40_28 (Go.Value.bool Bool.false)).bind fun t41_30 =>
(pickV t41_30 (gdV (wt t41_30 true) t30_22) (Go.Value.bool Bool.false)).bind fun t44_31 =>
obH (gdH (wt t44_31 true) h29 (evC Try.prog 14 #[(gdV (wt t44_31 true) t9_2)] h29)) fun t47_32 h33 =>
(gd (wt t44_31 true) (binV Try.prog .eql 30 (.tmp 47) (.const (Go.Value.int Go.IntKind.u64 3)) t47_32 (Go.Value.int Go.IntKind.u64 3))).bind fun t48_34 =>
(pickV t44_31 t48_34 (Go.Value.bool Bool.false)).bind fun t49_35 =>
k .ret ⟨#[t49_35, t9_2, t10_3, t22_13, t23_14, t29_21, t30_22, t8_0, t8_0, t9_2, t10_3, t10_3, t12_4, t12_4, (gdV (wt t12_4 false) t9_2), t15_5, t16_6, t21_11, t9_2, t19_7, t20_9, t21_11, t22_13, t23_14, t28_19, t9_2, t26_15, t27_17, t28_19, t29_21, t30_22, t22_13, t32_23, t33_24, t33_24, (gdV (wt t33_24 true) t23_14), t36_25, t36_25, (gdV (wt t36_25 true) t29_21), t39_26, t40_28, t41_30, t41_30, (gdV (wt t41_30 true) t30_22), t44_31, t44_31, (gdV (wt t44_31 true) t9_2), t47_32, t48_34, t49_35], h33⟩) := by kernel_rfl
theorem call7 (h : Heap) : evC Try.prog 7 #[] h = codeK Try.prog (evC Try.prog) loopL c7_0 ⟨#[undef, undef, undef, undef, undef, undef, undef, undef, undef, undef, undef, undef, undef, undef, undef, undef, undef, undef, undef, undef, undef, undef, undef, undef, undef, undef, undef, undef, undef, undef, undef, undef, undef, undef, undef, undef, undef, undef, undef, undef, undef, undef, undef, undef, undef, undef, undef, undef, undef, undef], nm h⟩ (retK Try.f7 Try.prog h) :=
  (evC_call 7 Try.f7 c7_0 Try.func7 (by kernel_rfl) #[] h).trans (by kernel_rfl)
theorem ret7 (h0 h : Heap) : retK Try.f7 Try.prog h0 .ret ⟨#[Aa,Ab,Ac,Ad,Ae,Af,Ag,Ah,Ai,Aj,Ak,Al,An,Ao,Ap,Aq,Ar,As,At,Au,Av,Aw,Ax,Ay,Az,Ba,Bb,Bc,Bd,Be,Bf,Bg,Bh,Bi,Bj,Bk,Bl,Bn,Bo,Bp,Bq,Br,Bs,Bt,Bu,Bv,Bw,By,Bz,Ca], h⟩ = fin h0 (some Aa) h := by kernel_rfl
end Go.Am
namespace Go.Am
open Go.Proofs
set_option maxRecDepth 100000
variable {β : Type} (x : Nat → Value) (h : Heap) (k : Ex → St → Option β) (r m : List Nat) (g : Heap)
end Go.Am
namespace Go.Am
open Go.Proofs
set_option maxRecDepth 100000
variable {β : Type} (x : Nat → Value) (h : Heap) (k : Ex → St → Option β) (r m : List Nat) (g : Heap)
noncomputable def c12_0 : Code := bodyC Try.f12 []
theorem c12_0_eq : cK c12_0 6 x h k =
(buildV Try.prog 46 #[(0, (x 0)), (1, (.int .u64 1))]).bind fun v0 =>
obH (boxV Try.prog 46 v0 h) fun v1 h2 =>
k .ret ⟨ar 6 (up x [(2,v1),(3,(x 0)),(4,v0),(5,v1)]), h2⟩ := by kernel_rfl
theorem call12 (a0 : Value) : evC Try.prog 12 #[a0] h = cK c12_0 6 (up un [(0,a0)]) (nm h) (retK Try.f12 Try.prog h) :=
  (evC_call 12 Try.f12 c12_0 Try.func12 (by kernel_rfl) #[a0] h).trans (by kernel_rfl)
theorem ret12 : retK Try.f12 Try.prog g .ret ⟨ar 6 x, h⟩ = fin g (some (x 2)) h := by kernel_rfl
end Go.Am
namespace Go.Am
open Go.Proofs
set_option maxRecDepth 100000
variable {β : Type} (x : Nat → Value) (h : Heap) (k : Ex → St → Option β) (r m : List Nat) (g : Heap)
noncomputable def c13_0 : Code := bodyC Try.f13 []
noncomputable def c13_1 : Code := bodyC Try.f13 [true, true, true, false, false, false]
noncomputable def c13_2 : Code := bodyC Try.f13 [true, true, true, true]
noncomputable def c13_3 : Code := bodyC Try.f13 [true, true, true, true, true, true, true, false, false, false]
noncomputable def c13_4 : Code := bodyC Try.f13 [true, true, true, true, true, true, true, true]
theorem c13_0_eq : cK c13_0 139 x h k =
(nilCheckV Try.prog (x 0)).bind fun v0 =>
(fa 46 v0 1).bind fun v1 =>
(ld 30 v1 h).bind fun v2 =>
(bn .lss 30 (x 1) v2).bind fun v3 =>
(gd (wt v3 false) (nilCheckV Try.prog (gdV (wt v3 false) (x 0)))).bind fun v4 =>
(gd (wt v3 false) (fa 46 v4 1)).bind fun v5 =>
(gd (wt v3 false) (ld 30 v5 h)).bind fun v6 =>
(gd (wt v3 false) (bn .sub 30 (gdV (wt v3 false) (x 1)) v6)).bind fun v7 =>
(gd (wt v3 false) (nilCheckV Try.prog (gdV (wt v3 false) (x 0)))).bind fun v8 =>
(gd (wt v3 false) (fa 46 v8 0)).bind fun v9 =>
(gd (wt v3 false) (ld 3 v9 h)).bind fun v10 =>
obH (gdH (wt v3 false) h (cv 3 30 v10 h)) fun v11 h12 =>
(gd (wt v3 false) (bn .geq 30 v7 v11)).bind fun v13 =>
(pickV v3 (.bool true) v13).bind fun v14 =>
cnd v14 (
k .ret ⟨ar 139 (up x [(6,(.slice Option.none 0 0)),(7,(.bool false)),(10,(x 1)),(11,(x 0)),(12,v0),(13,v1),(14,v2),(15,v3),(16,v3),(17,(gdV (wt v3 false) (x 1))),(18,(gdV (wt v3 false) (x 0))),(19,v4),(20,v5),(21,v6),(22,v7),(23,(gdV (wt v3 false) (x 0))),(24,v8),(25,v9),(26,v10),(27,v11),(28,v13),(29,v14)]), h12⟩) (
lK c13_1 139 (up x [(6,(.slice Option.none 0 0)),(7,(.bool false)),(8,(.int .i64 0)),(10,(x 1)),(11,(x 0)),(12,v0),(13,v1),(14,v2),(15,v3),(16,v3),(17,(gdV (wt v3 false) (x 1))),(18,(gdV (wt v3 false) (x 0))),(19,v4),(20,v5),(21,v6),(22,v7),(23,(gdV (wt v3 false) (x 0))),(24,v8),(25,v9),(26,v10),(27,v11),(28,v13),(29,v14)]) h12 (blockK 0 (sK c13_2 k))) := by kernel_rfl
theorem c13_1_eq : cK c13_1 139 x h k =
(nilCheckV Try.prog (x 0)).bind fun v15 =>
(fa 46 v15 2).bind fun v16 =>
(ld 44 v16 h).bind fun v17 =>
(ln 44 v17 h).bind fun v18 =>
(bn .lss 3 (x 8) v18).bind fun v19 =>
(gd (wt v19 true) (nilCheckV Try.prog (gdV (wt v19 true) (x 0)))).bind fun v20 =>
(gd (wt v19 true) (fa 46 v20 2)).bind fun v21 =>
(gd (wt v19 true) (ld 44 v21 h)).bind fun v22 =>
(gd (wt v19 true) (ia 44 v22 (gdV (wt v19 true) (x 8)))).bind fun v23 =>
(gd (wt v19 true) (fa 48 v23 0)).bind fun v24 =>
(gd (wt v19 true) (ld 30 v24 h)).bind fun v25 =>
(gd (wt v19 true) (bn .lss 30 v25 (gdV (wt v19 true) (x 1)))).bind fun v26 =>
(pickV v19 v26 (.bool false)).bind fun v27 =>
cnd v27 (
(bn .add 3 (x 8) (.int .i64 1)).bind fun v28 =>
k .normal ⟨ar 139 (up x [(8,v28),(30,(x 8)),(31,(x 0)),(32,v15),(33,v16),(34,v17),(35,v18),(36,v19),(37,v19),(38,(gdV (wt v19 true) (x 0))),(39,v20),(40,v21),(41,v22),(42,(gdV (wt v19 true) (x 8))),(43,v23),(44,v24),(45,v25),(46,(gdV (wt v19 true) (x 1))),(47,v26),(48,v27),(49,(x 8)),(50,v28)]), h⟩) (
k (.exit 0) ⟨ar 139 (up x [(30,(x 8)),(31,(x 0)),(32,v15),(33,v16),(34,v17),(35,v18),(36,v19),(37,v19),(38,(gdV (wt v19 true) (x 0))),(39,v20),(40,v21),(41,v22),(42,(gdV (wt v19 true) (x 8))),(43,v23),(44,v24),(45,v25),(46,(gdV (wt v19 true) (x 1))),(47,v26),(48,v27)]), h⟩) := by kernel_rfl
theorem c13_2_eq : cK c13_2 139 x h k =
(nilCheckV Try.prog (x 0)).bind fun v29 =>
(fa 46 v29 2).bind fun v30 =>
(ld 44 v30 h).bind fun v31 =>
(ln 44 v31 h).bind fun v32 =>
(bn .lss 3 (x 8) v32).bind fun v33 =>
(gd (wt v33 true) (nilCheckV Try.prog (gdV (wt v33 true) (x 0)))).bind fun v34 =>
(gd (wt v33 true) (fa 46 v34 2)).bind fun v35 =>
(gd (wt v33 true) (ld 44 v35 h)).bind fun v36 =>
(gd (wt v33 true) (ia 44 v36 (gdV (wt v33 true) (x 8)))).bind fun v37 =>
(gd (wt v33 true) (fa 48 v37 0)).bind fun v38 =>
(gd (wt v33 true) (ld 30 v38 h)).bind fun v39 =>
(gd (wt v33 true) (bn .eql 30 v39 (gdV (wt v33 true) (x 1)))).bind fun v40 =>
(pickV v33 v40 (.bool false)).bind fun v41 =>
cnd v41 (
k .ret ⟨ar 139 (up x [(6,(.slice Option.none 0 0)),(7,(.bool false)),(51,(x 8)),(52,(x 0)),(53,v29),(54,v30),(55,v31),(56,v32),(57,v33),(58,v33),(59,(gdV (wt v33 true) (x 0))),(60,v34),(61,v35),(62,v36),(63,(gdV (wt v33 true) (x 8))),(64,v37),(65,v38),(66,v39),(67,(gdV (wt v33 true) (x 1))),(68,v40),(69,v41)]), h⟩) (
obH (buildSliceV Try.prog 44 0 #[] h) fun v42 h43 =>
(nilCheckV Try.prog (x 0)).bind fun v44 =>
(fa 46 v44 2).bind fun v45 =>
(ld 44 v45 h43).bind fun v46 =>
(sliceV Try.prog 44 v46 none (some (x 8)) none h43).bind fun v47 =>
obH (ap 44 (some 44) v42 v47 (nm h43)) fun v48 h49 =>
(buildV Try.prog 48 #[(0, (x 1)), (1, (x 2))]).bind fun v50 =>
obH (buildSliceV Try.prog 44 1 #[(0, v50)] (am h49 h43)) fun v51 h52 =>
obH (ap 44 (some 44) v48 v51 (nm h52)) fun v53 h54 =>
(nilCheckV Try.prog (x 0)).bind fun v55 =>
(fa 46 v55 2).bind fun v56 =>
(ld 44 v56 (am h54 h52)).bind fun v57 =>
(sliceV Try.prog 44 v57 (some (x 8)) none none (am h54 h52)).bind fun v58 =>
obH (ap 44 (some 44) v53 v58 (am h54 h52)) fun v59 h60 =>
(nilCheckV Try.prog (x 0)).bind fun v61 =>
(fa 46 v61 2).bind fun v62 =>
(sto 44 v62 v59 h60).bind fun h63 =>
chk ((rb v56) ++ ([(am h49 h43).blks.length] ++ [])) (h54.mods ++ (h49.mods ++ [])) (
lK c13_3 139 (up x [(9,(.slice Option.none 0 0)),(51,(x 8)),(52,(x 0)),(53,v29),(54,v30),(55,v31),(56,v32),(57,v33),(58,v33),(59,(gdV (wt v33 true) (x 0))),(60,v34),(61,v35),(62,v36),(63,(gdV (wt v33 true) (x 8))),(64,v37),(65,v38),(66,v39),(67,(gdV (wt v33 true) (x 1))),(68,v40),(69,v41),(70,(x 0)),(71,v42),(72,(x 0)),(73,v44),(74,v45),(75,v46),(76,(x 8)),(77,v47),(78,v48),(79,(x 1)),(80,(x 2)),(81,v50),(82,v51),(83,v53),(84,(x 0)),(85,v55),(86,v56),(87,v57),(88,(x 8)),(89,v58),(90,v59),(91,v61),(92,v62)]) h63 (blockK 2 (sK c13_4 k)))) := by kernel_rfl
theorem c13_3_eq : cK c13_3 139 x h k =
(nilCheckV Try.prog (x 0)).bind fun v64 =>
(fa 46 v64 2).bind fun v65 =>
(ld 44 v65 h).bind fun v66 =>
(ln 44 v66 h).bind fun v67 =>
(bn .gtr 3 v67 (.int .i64 0)).bind fun v68 =>
(gd (wt v68 true) (nilCheckV Try.prog (gdV (wt v68 true) (x 0)))).bind fun v69 =>
(gd (wt v68 true) (fa 46 v69 2)).bind fun v70 =>
(gd (wt v68 true) (ld 44 v70 h)).bind fun v71 =>
(gd (wt v68 true) (ia 44 v71 (.int .i64 0))).bind fun v72 =>
(gd (wt v68 true) (fa 48 v72 0)).bind fun v73 =>
(gd (wt v68 true) (ld 30 v73 h)).bind fun v74 =>
(gd (wt v68 true) (nilCheckV Try.prog (gdV (wt v68 true) (x 0)))).bind fun v75 =>
(gd (wt v68 true) (fa 46 v75 1)).bind fun v76 =>
(gd (wt v68 true) (ld 30 v76 h)).bind fun v77 =>
(gd (wt v68 true) (bn .eql 30 v74 v77)).bind fun v78 =>
(pickV v68 v78 (.bool false)).bind fun v79 =>
cnd v79 (
(nilCheckV Try.prog (x 0)).bind fun v80 =>
(fa 46 v80 2).bind fun v81 =>
(ld 44 v81 h).bind fun v82 =>
(ia 44 v82 (.int .i64 0)).bind fun v83 =>
(fa 48 v83 1).bind fun v84 =>
(ld 9 v84 h).bind fun v85 =>
obH (buildSliceV Try.prog 35 1 #[(0, v85)] h) fun v86 h87 =>
obH (ap 35 (some 35) (x 9) v86 h87) fun v88 h89 =>
(nilCheckV Try.prog (x 0)).bind fun v90 =>
(fa 46 v90 2).bind fun v91 =>
(ld 44 v91 h89).bind fun v92 =>
(sliceV Try.prog 44 v92 (some (.int .i64 1)) none none h89).bind fun v93 =>
(nilCheckV Try.prog (x 0)).bind fun v94 =>
(fa 46 v94 2).bind fun v95 =>
(sto 44 v95 v93 h89).bind fun h96 =>
(nilCheckV Try.prog (x 0)).bind fun v97 =>
(fa 46 v97 1).bind fun v98 =>
(ld 30 v98 h96).bind fun v99 =>
(bn .add 30 v99 (.int .u64 1)).bind fun v100 =>
(nilCheckV Try.prog (x 0)).bind fun v101 =>
(fa 46 v101 1).bind fun v102 =>
(sto 30 v102 v100 h96).bind fun h103 =>
k .normal ⟨ar 139 (up x [(9,v88),(93,(x 0)),(94,v64),(95,v65),(96,v66),(97,v67),(98,v68),(99,v68),(100,(gdV (wt v68 true) (x 0))),(101,v69),(102,v70),(103,v71),(104,v72),(105,v73),(106,v74),(107,(gdV (wt v68 true) (x 0))),(108,v75),(109,v76),(110,v77),(111,v78),(112,v79),(113,(x 9)),(114,(x 0)),(115,v80),(116,v81),(117,v82),(118,v83),(119,v84),(120,v85),(121,v86),(122,v88),(123,(x 0)),(124,(x 0)),(125,v90),(126,v91),(127,v92),(128,v93),(129,v94),(130,v95),(131,(x 0)),(132,v97),(133,v98),(134,v99),(135,v100),(136,v101),(137,v102)]), h103⟩) (
k (.exit 2) ⟨ar 139 (up x [(93,(x 0)),(94,v64),(95,v65),(96,v66),(97,v67),(98,v68),(99,v68),(100,(gdV (wt v68 true) (x 0))),(101,v69),(102,v70),(103,v71),(104,v72),(105,v73),(106,v74),(107,(gdV (wt v68 true) (x 0))),(108,v75),(109,v76),(110,v77),(111,v78),(112,v79)]), h⟩) := by kernel_rfl
theorem c13_4_eq : cK c13_4 139 x h k =
k .ret ⟨ar 139 (up x [(6,(x 9)),(7,(.bool true)),(138,(x 9))]), h⟩ := by kernel_rfl
theorem call13 (a0 a1 a2 : Value) : evC Try.prog 13 #[a0,a1,a2] h = cK c13_0 139 (up un [(0,a0),(1,a1),(2,a2)]) (nm h) (retK Try.f13 Try.prog h) :=
  (evC_call 13 Try.f13 c13_0 Try.func13 (by kernel_rfl) #[a0,a1,a2] h).trans (by kernel_rfl)
theorem ret13 : retK Try.f13 Try.prog g .ret ⟨ar 139 x, h⟩ = fin g (some (.tuple #[x 6, (x 7)])) h := by kernel_rfl
end Go.Am
namespace Go.Am
open Go.Proofs
set_option maxRecDepth 100000
variable {β : Type} (x : Nat → Value) (h : Heap) (k : Ex → St → Option β) (r m : List Nat) (g : Heap)
noncomputable def c4_0 : Code := bodyC Try.f4 []
noncomputable def c4_1 : Code := bodyC Try.f4 [true, true, true, true, true, true, false, true, false, false]
noncomputable def c4_2 : Code := bodyC Try.f4 [true, true, true, true, true, true, true]
noncomputable def c4_3 : Code := bodyC Try.f4 [true, true, true, true, true, true, false, true, false, false, false]
noncomputable def c4_4 : Code := bodyC Try.f4 [true, true, true, true, true, true, false, true, false, false, true]
noncomputable def c4_5 : Code := bodyC Try.f4 [true, true, true, true, true, true, false, true, false, false, true, false]
noncomputable def c4_6 : Code := bodyC Try.f4 [true, true, true, true, true, true, false, true, false, false, true, true]
noncomputable def c4_7 : Code := bodyC Try.f4 [true, true, true, true, true, true, false, true, false, false, true, false, false]
noncomputable def c4_8 : Code := bodyC Try.f4 [true, true, true, true, true, true, false, true, false, false, true, false, false, false]
noncomputable def c4_9 : Code := bodyC Try.f4 [true, true, true, true, true, true, false, true, false, false, true, false, false, true]
noncomputable def c4_10 : Code := bodyC Try.f4 [true, true, true, true, true, true, false, true, false, false, true, false, false, true, false]
noncomputable def c4_11 : Code := bodyC Try.f4 [true, true, true, true, true, true, false, true, false, false, true, false, false, true, true]
noncomputable def c4_12 : Code := bodyC Try.f4 [true, true, true, true, true, true, false, true, false, false, true, false, false, true, true, false]
noncomputable def c4_13 : Code := bodyC Try.f4 [true, true, true, true, true, true, false, true, false, false, true, false, false, true, true, true]
noncomputable def c4_14 : Code := bodyC Try.f4 [true, true, true, true, true, true, false, true, false, false, true, false, false, true, true, true, false]
noncomputable def c4_15 : Code := bodyC Try.f4 [true, true, true, true, true, true, false, true, false, false, true, false, false, true, true, true, true]
noncomputable def c4_16 : Code := bodyC Try.f4 [true, true, true, true, true, true, false, true, false, false, true, false, false, true, true, true, true, false]
noncomputable def c4_17 : Code := bodyC Try.f4 [true, true, true, true, true, true, false, true, false, false, true, false, false, true, true, true, true, true]
noncomputable def d4_0 : Array Oper := opsC (bodyC Try.f4 [true, true, true, true, true, true, false, true, false, false, true, false, false, true, true, true, true, false, false])
noncomputable def c4_18 : Code := bodyC Try.f4 [true, true, true, true, true, true, false, true, false, false, true, false, false, true, true, true, true, false, false]
noncomputable def c4_19 : Code := bodyC Try.f4 [true, true, true, true, true, true, false, true, false, false, true, false, false, true, true, true, true, false, true]
noncomputable def c4_20 : Code := bodyC Try.f4 [true, true, true, true, true, true, false, true, false, false, true, false, false, true, true, true, true, true, true, false, false]
theorem c4_0_eq : cK c4_0 146 x h k =
obH (ev 7 #[] h) fun v0 h1 =>
(unV Try.prog .not v0).bind fun v2 =>
cnd v2 (
k .ret ⟨ar 146 (up x [(4,(.bool false)),(15,v0),(16,v2)]), h1⟩) (
obH (ev 8 #[x 0] h1) fun v3 h4 =>
(extractV v3 0).bind fun v5 =>
(extractV v3 1).bind fun v6 =>
(bn .lss 3 (x 0) (.int .i64 1)).bind fun v7 =>
(gd (wt v7 false) (bn .gtr 3 (gdV (wt v7 false) (x 0)) (.int .i64 16))).bind fun v8 =>
(pickV v7 (.bool true) v8).bind fun v9 =>
cnd v9 (
(bn .eql 24 v6 (.int .i64 1)).bind fun v10 =>
(gd (wt v10 true) (bn .eql 23 (gdV (wt v10 true) v5) (.pointer Option.none))).bind fun v11 =>
(pickV v10 v11 (.bool false)).bind fun v12 =>
k .ret ⟨ar 146 (up x [(4,v12),(5,v5),(6,v6),(15,v0),(16,v2),(17,v3),(18,(x 0)),(19,v3),(20,v5),(21,v6),(22,(x 0)),(23,v7),(24,v7),(25,(gdV (wt v7 false) (x 0))),(26,v8),(27,v9),(28,v6),(29,v10),(30,v10),(31,(gdV (wt v10 true) v5)),(32,v11),(33,v12)]), h4⟩) (
(bn .neq 24 v6 (.int .i64 0)).bind fun v13 =>
(gd (wt v13 false) (bn .eql 23 (gdV (wt v13 false) v5) (.pointer Option.none))).bind fun v14 =>
(pickV v13 (.bool true) v14).bind fun v15 =>
(gd (wt v15 false) (ln 36 (gdV (wt v15 false) (x 1)) h4)).bind fun v16 =>
(gd (wt v15 false) (bn .gtr 3 v16 (.int .i64 100))).bind fun v17 =>
(pickV v15 (.bool true) v17).bind fun v18 =>
cnd v18 (
(bn .eql 24 v6 (.int .i64 0)).bind fun v19 =>
(gd (wt v19 true) (bn .neq 23 (gdV (wt v19 true) v5) (.pointer Option.none))).bind fun v20 =>
(pickV v19 v20 (.bool false)).bind fun v21 =>
k .ret ⟨ar 146 (up x [(4,v21),(5,v5),(6,v6),(15,v0),(16,v2),(17,v3),(18,(x 0)),(19,v3),(20,v5),(21,v6),(22,(x 0)),(23,v7),(24,v7),(25,(gdV (wt v7 false) (x 0))),(26,v8),(27,v9),(34,v6),(35,v13),(36,v13),(37,(gdV (wt v13 false) v5)),(38,v14),(39,v15),(40,v15),(41,(gdV (wt v15 false) (x 1))),(42,v16),(43,v17),(44,v18),(45,v6),(46,v19),(47,v19),(48,(gdV (wt v19 true) v5)),(49,v20),(50,v21)]), h4⟩) (
obH (ev 12 #[x 0] h4) fun v22 h23 =>
lK c4_1 146 (up x [(4,(.bool false)),(5,v5),(6,v6),(7,v22),(8,(.int .i64 0)),(15,v0),(16,v2),(17,v3),(18,(x 0)),(19,v3),(20,v5),(21,v6),(22,(x 0)),(23,v7),(24,v7),(25,(gdV (wt v7 false) (x 0))),(26,v8),(27,v9),(34,v6),(35,v13),(36,v13),(37,(gdV (wt v13 false) v5)),(38,v14),(39,v15),(40,v15),(41,(gdV (wt v15 false) (x 1))),(42,v16),(43,v17),(44,v18),(51,(x 0)),(52,v22)]) h23 (blockK 0 (sK c4_2 k))))) := by kernel_rfl
theorem c4_1_eq : cK c4_1 146 x h k =
cK c4_3 146 x h (sK c4_4 k) := codeK_seq _ _ _ _ _ (by kernel_rfl) _ _
theorem c4_2_eq : cK c4_2 146 x h k =
k .ret ⟨ar 146 (up x [(4,(.bool true))]), h⟩ := by kernel_rfl
theorem c4_3_eq : cK c4_3 146 x h k =
(ln 36 (x 1) h).bind fun v24 =>
(bn .lss 3 (x 8) v24).bind fun v25 =>
cnd v25 (
k .normal ⟨ar 146 (up x [(53,(x 8)),(54,(x 1)),(55,v24),(56,v25)]), h⟩) (
k (.exit 0) ⟨ar 146 (up x [(53,(x 8)),(54,(x 1)),(55,v24),(56,v25)]), h⟩) := by kernel_rfl
theorem c4_4_eq : cK c4_4 146 x h k =
cK c4_5 146 x h (sK c4_6 k) := codeK_seq _ _ _ _ _ (by kernel_rfl) _ _
theorem c4_5_eq : cK c4_5 146 x h k =
cK c4_7 146 x h (blockK 1 k) := codeK_block _ _ _ _ _ (by kernel_rfl) _ _
theorem c4_6_eq : cK c4_6 146 x h k =
(bn .add 3 (x 8) (.int .i64 1)).bind fun v26 =>
k .normal ⟨ar 146 (up x [(8,v26),(57,(x 8)),(58,v26)]), h⟩ := by kernel_rfl
theorem c4_7_eq : cK c4_7 146 x h k =
cK c4_8 146 x h (sK c4_9 k) := codeK_seq _ _ _ _ _ (by kernel_rfl) _ _
theorem c4_8_eq : cK c4_8 146 x h k =
(ia 36 (x 1) (x 8)).bind fun v27 =>
(fa 40 v27 1).bind fun v28 =>
(ld 9 v28 h).bind fun v29 =>
(ln 9 v29 h).bind fun v30 =>
(bn .gtr 3 v30 (.int .i64 50)).bind fun v31 =>
cnd v31 (
k .ret ⟨ar 146 (up x [(4,(.bool true)),(59,(x 1)),(60,(x 8)),(61,v27),(62,v28),(63,v29),(64,v30),(65,v31)]), h⟩) (
k .normal ⟨ar 146 (up x [(59,(x 1)),(60,(x 8)),(61,v27),(62,v28),(63,v29),(64,v30),(65,v31)]), h⟩) := by kernel_rfl
theorem c4_9_eq : cK c4_9 146 x h k =
cK c4_10 146 x h (sK c4_11 k) := codeK_seq _ _ _ _ _ (by kernel_rfl) _ _
theorem c4_10_eq : cK c4_10 146 x h k =
(ia 36 (x 1) (x 8)).bind fun v32 =>
(fa 40 v32 0).bind fun v33 =>
(ld 30 v33 h).bind fun v34 =>
(ia 36 (x 1) (x 8)).bind fun v35 =>
(fa 40 v35 1).bind fun v36 =>
(ld 9 v36 h).bind fun v37 =>
obH (cv 9 31 v37 h) fun v38 h39 =>
obH (ev 9 #[x 5,v34,v38] h39) fun v40 h41 =>
(extractV v40 0).bind fun v42 =>
(extractV v40 1).bind fun v43 =>
k .normal ⟨ar 146 (up x [(9,v42),(10,v43),(66,v40),(67,(x 5)),(68,(x 1)),(69,(x 8)),(70,v32),(71,v33),(72,v34),(73,(x 1)),(74,(x 8)),(75,v35),(76,v36),(77,v37),(78,v38),(79,v40),(80,v42),(81,v43)]), h41⟩ := by kernel_rfl
theorem c4_11_eq : cK c4_11 146 x h k =
cK c4_12 146 x h (sK c4_13 k) := codeK_seq _ _ _ _ _ (by kernel_rfl) _ _
theorem c4_12_eq : cK c4_12 146 x h k =
(ia 36 (x 1) (x 8)).bind fun v44 =>
(fa 40 v44 0).bind fun v45 =>
(ld 30 v45 h).bind fun v46 =>
(ia 36 (x 1) (x 8)).bind fun v47 =>
(fa 40 v47 1).bind fun v48 =>
(ld 9 v48 h).bind fun v49 =>
obH (ev 13 #[x 7,v46,v49] h) fun v50 h51 =>
(extractV v50 0).bind fun v52 =>
(extractV v50 1).bind fun v53 =>
k .normal ⟨ar 146 (up x [(11,v52),(12,v53),(82,v50),(83,(x 7)),(84,(x 1)),(85,(x 8)),(86,v44),(87,v45),(88,v46),(89,(x 1)),(90,(x 8)),(91,v47),(92,v48),(93,v49),(94,v50),(95,v52),(96,v53)]), h51⟩ := by kernel_rfl
theorem c4_13_eq : cK c4_13 146 x h k =
cK c4_14 146 x h (sK c4_15 k) := codeK_seq _ _ _ _ _ (by kernel_rfl) _ _
theorem c4_14_eq : cK c4_14 146 x h k =
obH (ev 10 #[x 5] h) fun v54 h55 =>
k .normal ⟨ar 146 (up x [(13,v54),(97,(x 5)),(98,v54)]), h55⟩ := by kernel_rfl
theorem c4_15_eq : cK c4_15 146 x h k =
cK c4_16 146 x h (sK c4_17 k) := codeK_seq _ _ _ _ _ (by kernel_rfl) _ _
theorem c4_16_eq : cK c4_16 146 x h k =
cK c4_18 146 x h (sK c4_19 k) := codeK_seq _ _ _ _ _ (by kernel_rfl) _ _
theorem c4_17_eq : cK c4_17 146 x h k =
lK c4_20 146 (up x [(14,(.int .i64 0))]) h (blockK 2 k) := by kernel_rfl
theorem d4_0_0 (k : St → Option β) : rD d4_0 0 146 x h r m k =
rD d4_0 1 146 (up x [(99,(x 9))]) h r m k := regD_move _ _ d4_0 0 (by kernel_rfl) (by kernel_rfl) (by kernel_rfl) _ _ _ _ _ _ (by kernel_rfl) (by kernel_rfl)
theorem d4_0_1 (k : St → Option β) : rD d4_0 1 146 x h r m k =
rD d4_0 2 146 (up x [(100,(x 11))]) h r m k := regD_move _ _ d4_0 1 (by kernel_rfl) (by kernel_rfl) (by kernel_rfl) _ _ _ _ _ _ (by kernel_rfl) (by kernel_rfl)
theorem d4_0_2 (k : St → Option β) : rD d4_0 2 146 x h r m k =
obH (ev 11 #[x 99,x 100] h) fun v56 h57 =>
rD d4_0 3 146 (up x [(101,v56)]) h57 r m k := (regD_step _ _ d4_0 2 (by kernel_rfl) _ _ _ _).trans (by kernel_rfl)
theorem d4_0_3 (k : St → Option β) : rD d4_0 3 146 x h r m k =
(unV Try.prog .not (x 101)).bind fun v58 =>
rD d4_0 4 146 (up x [(102,v58)]) h r m k := (regD_step _ _ d4_0 3 (by kernel_rfl) _ _ _ _).trans (by kernel_rfl)
theorem d4_0_4 (k : St → Option β) : rD d4_0 4 146 x h r m k =
rD d4_0 5 146 (up x [(103,(x 102))]) h r m k := regD_move _ _ d4_0 4 (by kernel_rfl) (by kernel_rfl) (by kernel_rfl) _ _ _ _ _ _ (by kernel_rfl) (by kernel_rfl)
theorem d4_0_5 (k : St → Option β) : rD d4_0 5 146 x h r m k =
rD d4_0 6 146 (up x [(104,(gdV (wt (x 103) false) (x 10)))]) h r m k := regD_move _ _ d4_0 5 (by kernel_rfl) (by kernel_rfl) (by kernel_rfl) _ _ _ _ _ _ (by kernel_rfl) (by kernel_rfl)
theorem d4_0_6 (k : St → Option β) : rD d4_0 6 146 x h r m k =
rD d4_0 7 146 (up x [(105,(gdV (wt (x 103) false) (x 12)))]) h r m k := regD_move _ _ d4_0 6 (by kernel_rfl) (by kernel_rfl) (by kernel_rfl) _ _ _ _ _ _ (by kernel_rfl) (by kernel_rfl)
theorem d4_0_7 (k : St → Option β) : rD d4_0 7 146 x h r m k =
(gd (wt (x 103) false) (bn .neq 4 (x 104) (x 105))).bind fun v59 =>
rD d4_0 8 146 (up x [(106,v59)]) h r m k := (regD_step _ _ d4_0 7 (by kernel_rfl) _ _ _ _).trans (by kernel_rfl)
theorem d4_0_8 (k : St → Option β) : rD d4_0 8 146 x h r m k =
(pickV (x 103) (.bool true) (x 106)).bind fun v60 =>
rD d4_0 9 146 (up x [(107,v60)]) h r m k := (regD_step _ _ d4_0 8 (by kernel_rfl) _ _ _ _).trans (by kernel_rfl)
theorem d4_0_9 (k : St → Option β) : rD d4_0 9 146 x h r m k =
rD d4_0 10 146 (up x [(108,(x 107))]) h r m k := regD_move _ _ d4_0 9 (by kernel_rfl) (by kernel_rfl) (by kernel_rfl) _ _ _ _ _ _ (by kernel_rfl) (by kernel_rfl)
theorem d4_0_10 (k : St → Option β) : rD d4_0 10 146 x h r m k =
rD d4_0 11 146 (up x [(109,(gdV (wt (x 108) false) (x 5)))]) h r m k := regD_move _ _ d4_0 10 (by kernel_rfl) (by kernel_rfl) (by kernel_rfl) _ _ _ _ _ _ (by kernel_rfl) (by kernel_rfl)
theorem d4_0_11 (k : St → Option β) : rD d4_0 11 146 x h r m k =
obH (gdH (wt (x 108) false) (nm h) (ev 14 #[x 109] (nm h))) fun v61 h62 =>
rD d4_0 12 146 (up x [(110,v61)]) (am h62 h) r (h62.mods ++ m) k := (regD_step _ _ d4_0 11 (by kernel_rfl) _ _ _ _).trans (by kernel_rfl)
theorem d4_0_12 (k : St → Option β) : rD d4_0 12 146 x h r m k =
rD d4_0 13 146 (up x [(111,(gdV (wt (x 108) false) (x 7)))]) h r m k := regD_move _ _ d4_0 12 (by kernel_rfl) (by kernel_rfl) (by kernel_rfl) _ _ _ _ _ _ (by kernel_rfl) (by kernel_rfl)
theorem d4_0_13 (k : St → Option β) : rD d4_0 13 146 x h r m k =
(gd (wt (x 108) false) (nilCheckV Try.prog (x 111))).bind fun v63 =>
rD d4_0 14 146 (up x [(112,v63)]) h r m k := (regD_step _ _ d4_0 13 (by kernel_rfl) _ _ _ _).trans (by kernel_rfl)
theorem d4_0_14 (k : St → Option β) : rD d4_0 14 146 x h r m k =
(gd (wt (x 108) false) (fa 46 (x 112) 1)).bind fun v64 =>
rD d4_0 15 146 (up x [(113,v64)]) h r m k := (regD_step _ _ d4_0 14 (by kernel_rfl) _ _ _ _).trans (by kernel_rfl)
theorem d4_0_15 (k : St → Option β) : rD d4_0 15 146 x h r m k =
(gd (wt (x 108) false) (ld 30 (x 113) h)).bind fun v65 =>
rD d4_0 16 146 (up x [(114,v65)]) h (rdL (wt (x 108) false) (rb (x 113)) ++ r) m k := (regD_step _ _ d4_0 15 (by kernel_rfl) _ _ _ _).trans (by kernel_rfl)
theorem d4_0_16 (k : St → Option β) : rD d4_0 16 146 x h r m k =
(gd (wt (x 108) false) (bn .neq 30 (x 110) (x 114))).bind fun v66 =>
rD d4_0 17 146 (up x [(115,v66)]) h r m k := (regD_step _ _ d4_0 16 (by kernel_rfl) _ _ _ _).trans (by kernel_rfl)
theorem d4_0_17 (k : St → Option β) : rD d4_0 17 146 x h r m k =
(pickV (x 108) (.bool true) (x 115)).bind fun v67 =>
rD d4_0 18 146 (up x [(116,v67)]) h r m k := (regD_step _ _ d4_0 17 (by kernel_rfl) _ _ _ _).trans (by kernel_rfl)
theorem d4_0_18 (k : St → Option β) : rD d4_0 18 146 x h r m k =
rD d4_0 19 146 (up x [(117,(x 116))]) h r m k := regD_move _ _ d4_0 18 (by kernel_rfl) (by kernel_rfl) (by kernel_rfl) _ _ _ _ _ _ (by kernel_rfl) (by kernel_rfl)
theorem d4_0_19 (k : St → Option β) : rD d4_0 19 146 x h r m k =
rD d4_0 20 146 (up x [(118,(gdV (wt (x 117) false) (x 13)))]) h r m k := regD_move _ _ d4_0 19 (by kernel_rfl) (by kernel_rfl) (by kernel_rfl) _ _ _ _ _ _ (by kernel_rfl) (by kernel_rfl)
theorem d4_0_20 (k : St → Option β) : rD d4_0 20 146 x h r m k =
(gd (wt (x 117) false) (ln 32 (x 118) h)).bind fun v68 =>
rD d4_0 21 146 (up x [(119,v68)]) h r m k := (regD_step _ _ d4_0 20 (by kernel_rfl) _ _ _ _).trans (by kernel_rfl)
theorem d4_0_21 (k : St → Option β) : rD d4_0 21 146 x h r m k =
rD d4_0 22 146 (up x [(120,(gdV (wt (x 117) false) (x 7)))]) h r m k := regD_move _ _ d4_0 21 (by kernel_rfl) (by kernel_rfl) (by kernel_rfl) _ _ _ _ _ _ (by kernel_rfl) (by kernel_rfl)
theorem d4_0_22 (k : St → Option β) : rD d4_0 22 146 x h r m k =
(gd (wt (x 117) false) (nilCheckV Try.prog (x 120))).bind fun v69 =>
rD d4_0 23 146 (up x [(121,v69)]) h r m k := (regD_step _ _ d4_0 22 (by kernel_rfl) _ _ _ _).trans (by kernel_rfl)
theorem d4_0_23 (k : St → Option β) : rD d4_0 23 146 x h r m k =
(gd (wt (x 117) false) (fa 46 (x 121) 2)).bind fun v70 =>
rD d4_0 24 146 (up x [(122,v70)]) h r m k := (regD_step _ _ d4_0 23 (by kernel_rfl) _ _ _ _).trans (by kernel_rfl)
theorem d4_0_24 (k : St → Option β) : rD d4_0 24 146 x h r m k =
(gd (wt (x 117) false) (ld 44 (x 122) h)).bind fun v71 =>
rD d4_0 25 146 (up x [(123,v71)]) h r m k := (regD_step _ _ d4_0 24 (by kernel_rfl) _ _ _ _).trans (by kernel_rfl)
theorem d4_0_25 (k : St → Option β) : rD d4_0 25 146 x h r m k =
(gd (wt (x 117) false) (ln 44 (x 123) h)).bind fun v72 =>
rD d4_0 26 146 (up x [(124,v72)]) h r m k := (regD_step _ _ d4_0 25 (by kernel_rfl) _ _ _ _).trans (by kernel_rfl)
theorem d4_0_26 (k : St → Option β) : rD d4_0 26 146 x h r m k =
(gd (wt (x 117) false) (bn .neq 3 (x 119) (x 124))).bind fun v73 =>
rD d4_0 27 146 (up x [(125,v73)]) h r m k := (regD_step _ _ d4_0 26 (by kernel_rfl) _ _ _ _).trans (by kernel_rfl)
theorem d4_0_27 (k : St → Option β) : rD d4_0 27 146 x h r m k =
(pickV (x 117) (.bool true) (x 125)).bind fun v74 =>
rD d4_0 28 146 (up x [(126,v74)]) h r m k := (regD_step _ _ d4_0 27 (by kernel_rfl) _ _ _ _).trans (by kernel_rfl)
theorem d4_0_28 (k : St → Option β) : rD d4_0 28 146 x h r m k =
chk r m (k ⟨ar 146 x, h⟩) := by kernel_rfl
theorem c4_18_eq : cK c4_18 146 x h k =
rD d4_0 0 146 x h [] [] (fun s => k .normal s) := by kernel_rfl
theorem c4_19_eq : cK c4_19 146 x h k =
cnd (x 126) (
k .ret ⟨ar 146 (up x [(4,(.bool false))]), h⟩) (
k .normal ⟨ar 146 x, h⟩) := by kernel_rfl
theorem c4_20_eq : cK c4_20 146 x h k =
(ln 32 (x 13) h).bind fun v75 =>
(bn .lss 3 (x 14) v75).bind fun v76 =>
cnd v76 (
(ia 32 (x 13) (x 14)).bind fun v77 =>
(ld 30 v77 h).bind fun v78 =>
(nilCheckV Try.prog (x 7)).bind fun v79 =>
(fa 46 v79 2).bind fun v80 =>
(ld 44 v80 h).bind fun v81 =>
(ia 44 v81 (x 14)).bind fun v82 =>
(fa 48 v82 0).bind fun v83 =>
(ld 30 v83 h).bind fun v84 =>
(bn .neq 30 v78 v84).bind fun v85 =>
cnd v85 (
k .ret ⟨ar 146 (up x [(4,(.bool false)),(127,(x 14)),(128,(x 13)),(129,v75),(130,v76),(133,(x 13)),(134,(x 14)),(135,v77),(136,v78),(137,(x 7)),(138,v79),(139,v80),(140,v81),(141,(x 14)),(142,v82),(143,v83),(144,v84),(145,v85)]), h⟩) (
(bn .add 3 (x 14) (.int .i64 1)).bind fun v86 =>
k .normal ⟨ar 146 (up x [(14,v86),(127,(x 14)),(128,(x 13)),(129,v75),(130,v76),(131,(x 14)),(132,v86),(133,(x 13)),(134,(x 14)),(135,v77),(136,v78),(137,(x 7)),(138,v79),(139,v80),(140,v81),(141,(x 14)),(142,v82),(143,v83),(144,v84),(145,v85)]), h⟩)) (
k (.exit 2) ⟨ar 146 (up x [(127,(x 14)),(128,(x 13)),(129,v75),(130,v76)]), h⟩) := by kernel_rfl
theorem call4 (a0 a1 : Value) : evC Try.prog 4 #[a0,a1] h = cK c4_0 146 (up un [(0,a0),(1,a1)]) (nm h) (retK Try.f4 Try.prog h) :=
  (evC_call 4 Try.f4 c4_0 Try.func4 (by kernel_rfl) #[a0,a1] h).trans (by kernel_rfl)
theorem ret4 : retK Try.f4 Try.prog g .ret ⟨ar 146 x, h⟩ = fin g (some (x 4)) h := by kernel_rfl
end Go.Am
