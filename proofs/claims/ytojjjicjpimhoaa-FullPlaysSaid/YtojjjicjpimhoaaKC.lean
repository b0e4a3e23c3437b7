/- What the texts of functions come to in the machine (printed by a program of this seat; Lean checks it). -/
import Derived.Test.YtojjjicjpimhoaaKB
import Derived.Test.YtojjjicjpimhoaaChecked
import Derived.KernelRfl
set_option linter.all false
namespace Go.Am
open Go.Proofs
set_option maxRecDepth 100000
variable (Aa Ab Ac Ad Ae Af Ag Ah Ai Aj Ak Al An Ao Ap Aq Ar : Value)
noncomputable def c87_0 : Code := bodyC Try.f87 []
theorem c87_0_eq {β : Type} (h : Heap) (k : Ex → St → Option β) : codeK Try.prog (evC Try.prog) loopL c87_0 ⟨#[Aa,Ab,Ac,Ad,Ae,Af,Ag,Ah,Ai,Aj,Ak,Al,An,Ao,Ap,Aq,Ar], h⟩ k =
(binV Try.prog .lss 3 (.tmp 5) (.const (Go.Value.int Go.IntKind.i64 0)) Ab (Go.Value.int Go.IntKind.i64 0)).bind fun t6_0 =>
(gd (wt t6_0 false) (lenV Try.prog 53 (gdV (wt t6_0 false) Aa) h)).bind fun t10_1 =>
(gd (wt t6_0 false) (binV Try.prog .geq 3 (.tmp 8) (.tmp 10) (gdV (wt t6_0 false) Ab) t10_1)).bind fun t11_2 =>
(pickV t6_0 (Go.Value.bool Bool.true) t11_2).bind fun t12_3 =>
cnd t12_3 (
k .ret ⟨#[Aa,Ab,Ac,Ad, (Go.Value.int Go.IntKind.u64 0),Ab, t6_0, t6_0, (gdV (wt t6_0 false) Ab), (gdV (wt t6_0 false) Aa), t10_1, t11_2, t12_3,Ao,Ap,Aq,Ar], h⟩) (
(indexAddrV Try.prog 53 Aa Ab).bind fun t15_4 =>
(loadV Try.prog 46 t15_4 h).bind fun t16_5 =>
k .ret ⟨#[Aa,Ab,Ac,Ad, t16_5,Ab, t6_0, t6_0, (gdV (wt t6_0 false) Ab), (gdV (wt t6_0 false) Aa), t10_1, t11_2, t12_3,Aa,Ab, t15_4, t16_5], h⟩) := by kernel_rfl
theorem call87 (h : Heap) : evC Try.prog 87 #[Aa,Ab] h = codeK Try.prog (evC Try.prog) loopL c87_0 ⟨#[Aa,Ab, undef, undef, undef, undef, undef, undef, undef, undef, undef, undef, undef, undef, undef, undef, undef], nm h⟩ (retK Try.f87 Try.prog h) :=
  (evC_call 87 Try.f87 c87_0 Try.func87 (by kernel_rfl) #[Aa,Ab] h).trans (by kernel_rfl)
theorem ret87 (h0 h : Heap) : retK Try.f87 Try.prog h0 .ret ⟨#[Aa,Ab,Ac,Ad,Ae,Af,Ag,Ah,Ai,Aj,Ak,Al,An,Ao,Ap,Aq,Ar], h⟩ = fin h0 (some Ae) h := by kernel_rfl
theorem retn87 (h0 h : Heap) : retK Try.f87 Try.prog h0 .normal ⟨#[Aa,Ab,Ac,Ad,Ae,Af,Ag,Ah,Ai,Aj,Ak,Al,An,Ao,Ap,Aq,Ar], h⟩ = fin h0 (some Ae) h := by kernel_rfl
end Go.Am
namespace Go.Am
open Go.Proofs
set_option maxRecDepth 100000
variable (Aa Ab Ac Ad Ae Af Ag : Value)
noncomputable def c79_0 : Code := bodyC Try.f79 []
theorem c79_0_eq {β : Type} (h : Heap) (k : Ex → St → Option β) : codeK Try.prog (evC Try.prog) loopL c79_0 ⟨#[Aa,Ab,Ac,Ad,Ae,Af,Ag], h⟩ k =
obH (builtinV Try.prog .max #[3, 3] #[Aa, (Go.Value.int Go.IntKind.i64 0)] h) fun t4_0 h1 =>
obH (builtinV Try.prog .min #[3, 3] #[t4_0, (Go.Value.int Go.IntKind.i64 64)] h1) fun t5_2 h3 =>
obH (makeSliceV Try.prog 53 t5_2 t5_2 h3) fun t6_4 h5 =>
k .ret ⟨#[Aa,Ab, t6_4,Aa, t4_0, t5_2, t6_4], h5⟩ := by kernel_rfl
theorem call79 (h : Heap) : evC Try.prog 79 #[Aa] h = codeK Try.prog (evC Try.prog) loopL c79_0 ⟨#[Aa, undef, undef, undef, undef, undef, undef], nm h⟩ (retK Try.f79 Try.prog h) :=
  (evC_call 79 Try.f79 c79_0 Try.func79 (by kernel_rfl) #[Aa] h).trans (by kernel_rfl)
theorem ret79 (h0 h : Heap) : retK Try.f79 Try.prog h0 .ret ⟨#[Aa,Ab,Ac,Ad,Ae,Af,Ag], h⟩ = fin h0 (some Ac) h := by kernel_rfl
theorem retn79 (h0 h : Heap) : retK Try.f79 Try.prog h0 .normal ⟨#[Aa,Ab,Ac,Ad,Ae,Af,Ag], h⟩ = fin h0 (some Ac) h := by kernel_rfl
end Go.Am
namespace Go.Am
open Go.Proofs
set_option maxRecDepth 100000
variable (Aa Ab Ac Ad Ae Af Ag Ah Ai Aj Ak Al An Ao Ap Aq Ar Au Av Aw Ax Ay Az Ba Bb Bc Bd Be Bf Bg Bh Bi Bj Bk Bl Bm Bn Bo Bp Bq Br Bs Bt Bu Bv Bw : Value)
noncomputable def c93_0 : Code := bodyC Try.f93 []
noncomputable def c93_1 : Code := bodyC Try.f93 [true, true, false, true, false, false]
noncomputable def c93_2 : Code := bodyC Try.f93 [true, true, true]
theorem c93_0_eq {β : Type} (h : Heap) (k : Ex → St → Option β) : codeK Try.prog (evC Try.prog) loopL c93_0 ⟨#[Aa,Ab,Ac,Ad,Ae,Af,Ag,Ah,Ai,Aj,Ak,Al,An,Ao,Ap,Aq,Ar,Au,Av,Aw,Ax,Ay,Az,Ba,Bb,Bc,Bd,Be,Bf,Bg,Bh,Bi,Bj,Bk,Bl,Bm,Bn,Bo,Bp,Bq,Br,Bs,Bt,Bu,Bv,Bw], h⟩ k =
(lenV Try.prog 53 Aa h).bind fun t11_0 =>
(lenV Try.prog 53 Ab h).bind fun t13_1 =>
obH (builtinV Try.prog .max #[3, 3] #[t11_0, t13_1] h) fun t14_2 h3 =>
loopK Try.prog (evC Try.prog) c93_1 ⟨#[Aa,Ab,Ac,Ad, (Go.Value.int Go.IntKind.i64 0), (Go.Value.bool Bool.false), (Go.Value.bool Bool.false),Ah,Ai,Aj,Aa, t11_0,Ab, t13_1, t14_2, (Go.Value.int Go.IntKind.i64 0),Ar,Au,Av,Aw,Ax,Ay,Az,Ba,Bb,Bc,Bd,Be,Bf,Bg,Bh,Bi,Bj,Bk,Bl,Bm,Bn,Bo,Bp,Bq,Br,Bs,Bt,Bu,Bv,Bw], h3⟩ (blockK 0 (seqK Try.prog (evC Try.prog) c93_2 k)) := by kernel_rfl
theorem c93_1_eq {β : Type} (h : Heap) (k : Ex → St → Option β) : codeK Try.prog (evC Try.prog) loopL c93_1 ⟨#[Aa,Ab,Ac,Ad,Ae,Af,Ag,Ah,Ai,Aj,Ak,Al,An,Ao,Ap,Aq,Ar,Au,Av,Aw,Ax,Ay,Az,Ba,Bb,Bc,Bd,Be,Bf,Bg,Bh,Bi,Bj,Bk,Bl,Bm,Bn,Bo,Bp,Bq,Br,Bs,Bt,Bu,Bv,Bw], h⟩ k =
(binV Try.prog .lss 3 (.tmp 15) (.tmp 14) Aq Ap).bind fun t16_4 =>
cnd t16_4 (
obH (evC Try.prog 87 #[Aa,Aq] h) fun t20_5 h6 =>
obH (evC Try.prog 87 #[Ab,Aq] h6) fun t23_7 h8 =>
(gd (wt Af false) (binV Try.prog .lss 46 (.tmp 26) (.tmp 27) (gdV (wt Af false) t20_5) (gdV (wt Af false) t23_7))).bind fun t28_9 =>
(pickV Af (Go.Value.bool Bool.true) t28_9).bind fun t29_10 =>
(gd (wt Ag false) (binV Try.prog .gtr 46 (.tmp 32) (.tmp 33) (gdV (wt Ag false) t20_5) (gdV (wt Ag false) t23_7))).bind fun t34_11 =>
(pickV Ag (Go.Value.bool Bool.true) t34_11).bind fun t35_12 =>
(binV Try.prog .add 3 (.tmp 15) (.const (Go.Value.int Go.IntKind.i64 1)) Aq (Go.Value.int Go.IntKind.i64 1)).bind fun t36_13 =>
k .normal ⟨#[Aa,Ab,Ac,Ad,Ae, t29_10, t35_12,Aq, t20_5, t23_7,Ak,Al,An,Ao,Ap, t36_13, t16_4,Aq,Aa,Aq, t20_5,Ab,Aq, t23_7,Af,Af, (gdV (wt Af false) t20_5), (gdV (wt Af false) t23_7), t28_9, t29_10,Ag,Ag, (gdV (wt Ag false) t20_5), (gdV (wt Ag false) t23_7), t34_11, t35_12, t36_13,Bo,Bp,Bq,Br,Bs,Bt,Bu,Bv,Bw], h8⟩) (
k (.exit 0) ⟨#[Aa,Ab,Ac,Ad,Ae,Af,Ag,Ah,Ai,Aj,Ak,Al,An,Ao,Ap,Aq, t16_4,Au,Av,Aw,Ax,Ay,Az,Ba,Bb,Bc,Bd,Be,Bf,Bg,Bh,Bi,Bj,Bk,Bl,Bm,Bn,Bo,Bp,Bq,Br,Bs,Bt,Bu,Bv,Bw], h⟩) := by kernel_rfl
theorem c93_2_eq {β : Type} (h : Heap) (k : Ex → St → Option β) : codeK Try.prog (evC Try.prog) loopL c93_2 ⟨#[Aa,Ab,Ac,Ad,Ae,Af,Ag,Ah,Ai,Aj,Ak,Al,An,Ao,Ap,Aq,Ar,Au,Av,Aw,Ax,Ay,Az,Ba,Bb,Bc,Bd,Be,Bf,Bg,Bh,Bi,Bj,Bk,Bl,Bm,Bn,Bo,Bp,Bq,Br,Bs,Bt,Bu,Bv,Bw], h⟩ k =
(pickV Af (gdV (wt Af true) Ag) (Go.Value.bool Bool.false)).bind fun t41_14 =>
cnd t41_14 (
k .ret ⟨#[Aa,Ab,Ac,Ad, (Go.Value.int Go.IntKind.i64 2),Af,Ag,Ah,Ai,Aj,Ak,Al,An,Ao,Ap,Aq,Ar,Au,Av,Aw,Ax,Ay,Az,Ba,Bb,Bc,Bd,Be,Bf,Bg,Bh,Bi,Bj,Bk,Bl,Bm,Bn, t41_14,Af,Af, (gdV (wt Af true) Ag), t41_14,Bt,Bu,Bv,Bw], h⟩) (
cnd Af (
k .ret ⟨#[Aa,Ab,Ac,Ad, (Go.Value.int Go.IntKind.i64 (-1)),Af,Ag,Ah,Ai,Aj,Ak,Al,An,Ao,Ap,Aq,Ar,Au,Av,Aw,Ax,Ay,Az,Ba,Bb,Bc,Bd,Be,Bf,Bg,Bh,Bi,Bj,Bk,Bl,Bm,Bn, t41_14,Af,Af, (gdV (wt Af true) Ag), t41_14,Af,Af,Bv,Bw], h⟩) (
cnd Ag (
k .ret ⟨#[Aa,Ab,Ac,Ad, (Go.Value.int Go.IntKind.i64 1),Af,Ag,Ah,Ai,Aj,Ak,Al,An,Ao,Ap,Aq,Ar,Au,Av,Aw,Ax,Ay,Az,Ba,Bb,Bc,Bd,Be,Bf,Bg,Bh,Bi,Bj,Bk,Bl,Bm,Bn, t41_14,Af,Af, (gdV (wt Af true) Ag), t41_14,Af,Af,Ag,Ag], h⟩) (
k .ret ⟨#[Aa,Ab,Ac,Ad, (Go.Value.int Go.IntKind.i64 0),Af,Ag,Ah,Ai,Aj,Ak,Al,An,Ao,Ap,Aq,Ar,Au,Av,Aw,Ax,Ay,Az,Ba,Bb,Bc,Bd,Be,Bf,Bg,Bh,Bi,Bj,Bk,Bl,Bm,Bn, t41_14,Af,Af, (gdV (wt Af true) Ag), t41_14,Af,Af,Ag,Ag], h⟩))) := by kernel_rfl
theorem call93 (h : Heap) : evC Try.prog 93 #[Aa,Ab] h = codeK Try.prog (evC Try.prog) loopL c93_0 ⟨#[Aa,Ab, undef, undef, undef, undef, undef, undef, undef, undef, undef, undef, undef, undef, undef, undef, undef, undef, undef, undef, undef, undef, undef, undef, undef, undef, undef, undef, undef, undef, undef, undef, undef, undef, undef, undef, undef, undef, undef, undef, undef, undef, undef, undef, undef, undef], nm h⟩ (retK Try.f93 Try.prog h) :=
  (evC_call 93 Try.f93 c93_0 Try.func93 (by kernel_rfl) #[Aa,Ab] h).trans (by kernel_rfl)
theorem ret93 (h0 h : Heap) : retK Try.f93 Try.prog h0 .ret ⟨#[Aa,Ab,Ac,Ad,Ae,Af,Ag,Ah,Ai,Aj,Ak,Al,An,Ao,Ap,Aq,Ar,Au,Av,Aw,Ax,Ay,Az,Ba,Bb,Bc,Bd,Be,Bf,Bg,Bh,Bi,Bj,Bk,Bl,Bm,Bn,Bo,Bp,Bq,Br,Bs,Bt,Bu,Bv,Bw], h⟩ = fin h0 (some Ae) h := by kernel_rfl
theorem retn93 (h0 h : Heap) : retK Try.f93 Try.prog h0 .normal ⟨#[Aa,Ab,Ac,Ad,Ae,Af,Ag,Ah,Ai,Aj,Ak,Al,An,Ao,Ap,Aq,Ar,Au,Av,Aw,Ax,Ay,Az,Ba,Bb,Bc,Bd,Be,Bf,Bg,Bh,Bi,Bj,Bk,Bl,Bm,Bn,Bo,Bp,Bq,Br,Bs,Bt,Bu,Bv,Bw], h⟩ = fin h0 (some Ae) h := by kernel_rfl
end Go.Am
namespace Go.Am
open Go.Proofs
set_option maxRecDepth 100000
variable (Aa Ab Ac Ad Ae Af Ag Ah Ai Aj Ak Al An Ao Ap Aq Ar Au Av : Value)
noncomputable def c119_0 : Code := bodyC Try.f119 []
theorem c119_0_eq {β : Type} (h : Heap) (k : Ex → St → Option β) : codeK Try.prog (evC Try.prog) loopL c119_0 ⟨#[Aa,Ab,Ac,Ad,Ae,Af,Ag,Ah,Ai,Aj,Ak,Al,An,Ao,Ap,Aq,Ar,Au,Av], h⟩ k =
obH (evC Try.prog 86 #[Aa] h) fun t7_0 h1 =>
(lenV Try.prog 53 t7_0 h1).bind fun t10_2 =>
(binV Try.prog .gtr 3 (.tmp 8) (.tmp 10) Ab t10_2).bind fun t11_3 =>
cnd t11_3 (
(lenV Try.prog 53 t7_0 h1).bind fun t15_4 =>
(binV Try.prog .sub 3 (.tmp 13) (.tmp 15) Ab t15_4).bind fun t16_5 =>
obH (appendV Try.prog 53 (some 3) t7_0 t16_5 h1) fun t17_6 h7 =>
k .ret ⟨#[Aa,Ab,Ac,Ad, t17_6, t17_6,Aa, t7_0,Ab, t7_0, t10_2, t11_3, t7_0,Ab, t7_0, t15_4, t16_5, t17_6, t17_6], h7⟩) (
k .ret ⟨#[Aa,Ab,Ac,Ad, t7_0, t7_0,Aa, t7_0,Ab, t7_0, t10_2, t11_3,An,Ao,Ap,Aq,Ar,Au, t7_0], h1⟩) := by kernel_rfl
theorem call119 (h : Heap) : evC Try.prog 119 #[Aa,Ab] h = codeK Try.prog (evC Try.prog) loopL c119_0 ⟨#[Aa,Ab, undef, undef, undef, undef, undef, undef, undef, undef, undef, undef, undef, undef, undef, undef, undef, undef, undef], nm h⟩ (retK Try.f119 Try.prog h) :=
  (evC_call 119 Try.f119 c119_0 Try.func119 (by kernel_rfl) #[Aa,Ab] h).trans (by kernel_rfl)
theorem ret119 (h0 h : Heap) : retK Try.f119 Try.prog h0 .ret ⟨#[Aa,Ab,Ac,Ad,Ae,Af,Ag,Ah,Ai,Aj,Ak,Al,An,Ao,Ap,Aq,Ar,Au,Av], h⟩ = fin h0 (some Ae) h := by kernel_rfl
theorem retn119 (h0 h : Heap) : retK Try.f119 Try.prog h0 .normal ⟨#[Aa,Ab,Ac,Ad,Ae,Af,Ag,Ah,Ai,Aj,Ak,Al,An,Ao,Ap,Aq,Ar,Au,Av], h⟩ = fin h0 (some Ae) h := by kernel_rfl
end Go.Am
namespace Go.Am
open Go.Proofs
set_option maxRecDepth 100000
variable (Aa Ab Ac Ad Ae Af Ag Ah Ai Aj Ak Al An Ao Ap Aq Ar Au Av Aw Ax Ay Az Ba Bb Bc Bd Be Bf Bg Bh Bi : Value)
noncomputable def c83_0 : Code := bodyC Try.f83 []
theorem c83_0_eq {β : Type} (h : Heap) (k : Ex → St → Option β) : codeK Try.prog (evC Try.prog) loopL c83_0 ⟨#[Aa,Ab,Ac,Ad,Ae,Af,Ag,Ah,Ai,Aj,Ak,Al,An,Ao,Ap,Aq,Ar,Au,Av,Aw,Ax,Ay,Az,Ba,Bb,Bc,Bd,Be,Bf,Bg,Bh,Bi], h⟩ k =
(binV Try.prog .lss 3 (.tmp 7) (.const (Go.Value.int Go.IntKind.i64 0)) Ab (Go.Value.int Go.IntKind.i64 0)).bind fun t8_0 =>
(gd (wt t8_0 false) (binV Try.prog .geq 3 (.tmp 10) (.const (Go.Value.int Go.IntKind.i64 64)) (gdV (wt t8_0 false) Ab) (Go.Value.int Go.IntKind.i64 64))).bind fun t11_1 =>
(pickV t8_0 (Go.Value.bool Bool.true) t11_1).bind fun t12_2 =>
obH (gdH (wt t12_2 false) h (evC Try.prog 87 #[(gdV (wt t12_2 false) Aa), (gdV (wt t12_2 false) Ab)] h)) fun t16_3 h4 =>
(gd (wt t12_2 false) (binV Try.prog .eql 46 (.tmp 16) (.const (Go.Value.int Go.IntKind.u64 18446744073709551615)) t16_3 (Go.Value.int Go.IntKind.u64 18446744073709551615))).bind fun t17_5 =>
(pickV t12_2 (Go.Value.bool Bool.true) t17_5).bind fun t18_6 =>
cnd t18_6 (
obH (evC Try.prog 86 #[Aa] h4) fun t20_7 h8 =>
k .ret ⟨#[Aa,Ab,Ac,Ad, t20_7, (Go.Value.bool Bool.false),Ag,Ab, t8_0, t8_0, (gdV (wt t8_0 false) Ab), t11_1, t12_2, t12_2, (gdV (wt t12_2 false) Aa), (gdV (wt t12_2 false) Ab), t16_3, t17_5, t18_6,Aa, t20_7,Ay,Az,Ba,Bb,Bc,Bd,Be,Bf,Bg,Bh,Bi], h8⟩) (
(binV Try.prog .add 3 (.tmp 22) (.const (Go.Value.int Go.IntKind.i64 1)) Ab (Go.Value.int Go.IntKind.i64 1)).bind fun t23_9 =>
obH (evC Try.prog 119 #[Aa, t23_9] h4) fun t24_10 h11 =>
(indexAddrV Try.prog 53 t24_10 Ab).bind fun t27_12 =>
(loadV Try.prog 46 t27_12 h11).bind fun t28_13 =>
(binV Try.prog .add 46 (.tmp 28) (.const (Go.Value.int Go.IntKind.u64 1)) t28_13 (Go.Value.int Go.IntKind.u64 1)).bind fun t29_14 =>
(indexAddrV Try.prog 53 t24_10 Ab).bind fun t30_15 =>
(storeV Try.prog 46 t30_15 t29_14 h11).bind fun h16 =>
k .ret ⟨#[Aa,Ab,Ac,Ad, t24_10, (Go.Value.bool Bool.true), t24_10,Ab, t8_0, t8_0, (gdV (wt t8_0 false) Ab), t11_1, t12_2, t12_2, (gdV (wt t12_2 false) Aa), (gdV (wt t12_2 false) Ab), t16_3, t17_5, t18_6,Aw,Ax,Aa,Ab, t23_9, t24_10, t24_10,Ab, t27_12, t28_13, t29_14, t30_15, t24_10], h16⟩) := by kernel_rfl
theorem call83 (h : Heap) : evC Try.prog 83 #[Aa,Ab] h = codeK Try.prog (evC Try.prog) loopL c83_0 ⟨#[Aa,Ab, undef, undef, undef, undef, undef, undef, undef, undef, undef, undef, undef, undef, undef, undef, undef, undef, undef, undef, undef, undef, undef, undef, undef, undef, undef, undef, undef, undef, undef, undef], nm h⟩ (retK Try.f83 Try.prog h) :=
  (evC_call 83 Try.f83 c83_0 Try.func83 (by kernel_rfl) #[Aa,Ab] h).trans (by kernel_rfl)
theorem ret83 (h0 h : Heap) : retK Try.f83 Try.prog h0 .ret ⟨#[Aa,Ab,Ac,Ad,Ae,Af,Ag,Ah,Ai,Aj,Ak,Al,An,Ao,Ap,Aq,Ar,Au,Av,Aw,Ax,Ay,Az,Ba,Bb,Bc,Bd,Be,Bf,Bg,Bh,Bi], h⟩ = fin h0 (some (.tuple #[Ae,Af])) h := by kernel_rfl
theorem retn83 (h0 h : Heap) : retK Try.f83 Try.prog h0 .normal ⟨#[Aa,Ab,Ac,Ad,Ae,Af,Ag,Ah,Ai,Aj,Ak,Al,An,Ao,Ap,Aq,Ar,Au,Av,Aw,Ax,Ay,Az,Ba,Bb,Bc,Bd,Be,Bf,Bg,Bh,Bi], h⟩ = fin h0 (some (.tuple #[Ae,Af])) h := by kernel_rfl
end Go.Am
namespace Go.Am
open Go.Proofs
set_option maxRecDepth 100000
variable (Aa Ab Ac Ad Ae Af Ag Ah Ai Aj Ak Al An Ao Ap Aq Ar Au Av Aw Ax Ay Az Ba Bb Bc Bd Be Bf Bg : Value)
noncomputable def c120_0 : Code := bodyC Try.f120 []
noncomputable def c120_1 : Code := bodyC Try.f120 [true, true, false, true, false, false]
noncomputable def c120_2 : Code := bodyC Try.f120 [true, true, true]
theorem c120_0_eq {β : Type} (h : Heap) (k : Ex → St → Option β) : codeK Try.prog (evC Try.prog) loopL c120_0 ⟨#[Aa,Ab,Ac,Ad,Ae,Af,Ag,Ah,Ai,Aj,Ak,Al,An,Ao,Ap,Aq,Ar,Au,Av,Aw,Ax,Ay,Az,Ba,Bb,Bc,Bd,Be,Bf,Bg], h⟩ k =
(lenV Try.prog 53 Ab h).bind fun t10_0 =>
obH (evC Try.prog 119 #[Aa, t10_0] h) fun t11_1 h2 =>
(lenV Try.prog 53 Ab h2).bind fun t13_3 =>
loopK Try.prog (evC Try.prog) c120_1 ⟨#[Aa,Ab,Ac,Ad, (Go.Value.slice Option.none 0 0), t11_1,Ag,Ah,Aa,Ab, t10_0, t11_1,Ab, t13_3, (Go.Value.int Go.IntKind.i64 0),Aq,Ar,Au,Av,Aw,Ax,Ay,Az,Ba,Bb,Bc,Bd,Be,Bf,Bg], h2⟩ (blockK 0 (seqK Try.prog (evC Try.prog) c120_2 k)) := by kernel_rfl
theorem c120_1_eq {β : Type} (h : Heap) (k : Ex → St → Option β) : codeK Try.prog (evC Try.prog) loopL c120_1 ⟨#[Aa,Ab,Ac,Ad,Ae,Af,Ag,Ah,Ai,Aj,Ak,Al,An,Ao,Ap,Aq,Ar,Au,Av,Aw,Ax,Ay,Az,Ba,Bb,Bc,Bd,Be,Bf,Bg], h⟩ k =
(binV Try.prog .lss 3 (.tmp 14) (.tmp 13) Ap Ao).bind fun t15_4 =>
cnd t15_4 (
(indexAddrV Try.prog 53 An Ap).bind fun t17_5 =>
(loadV Try.prog 46 t17_5 h).bind fun t18_6 =>
(indexAddrV Try.prog 53 Af Ap).bind fun t23_7 =>
(loadV Try.prog 46 t23_7 h).bind fun t24_8 =>
obH (builtinV Try.prog .max #[46, 46] #[t24_8, t18_6] h) fun t26_9 h10 =>
(indexAddrV Try.prog 53 Af Ap).bind fun t27_11 =>
(storeV Try.prog 46 t27_11 t26_9 h10).bind fun h12 =>
(binV Try.prog .add 3 (.tmp 14) (.const (Go.Value.int Go.IntKind.i64 1)) Ap (Go.Value.int Go.IntKind.i64 1)).bind fun t28_13 =>
k .normal ⟨#[Aa,Ab,Ac,Ad,Ae,Af,Ap, t18_6,Ai,Aj,Ak,Al,An,Ao, t28_13, t15_4,Ap, t17_5, t18_6,Af,Ap,Af,Ap, t23_7, t24_8, t18_6, t26_9, t27_11, t28_13,Bg], h12⟩) (
k (.exit 0) ⟨#[Aa,Ab,Ac,Ad,Ae,Af,Ag,Ah,Ai,Aj,Ak,Al,An,Ao,Ap, t15_4,Ar,Au,Av,Aw,Ax,Ay,Az,Ba,Bb,Bc,Bd,Be,Bf,Bg], h⟩) := by kernel_rfl
theorem c120_2_eq {β : Type} (h : Heap) (k : Ex → St → Option β) : codeK Try.prog (evC Try.prog) loopL c120_2 ⟨#[Aa,Ab,Ac,Ad,Ae,Af,Ag,Ah,Ai,Aj,Ak,Al,An,Ao,Ap,Aq,Ar,Au,Av,Aw,Ax,Ay,Az,Ba,Bb,Bc,Bd,Be,Bf,Bg], h⟩ k =
k .ret ⟨#[Aa,Ab,Ac,Ad,Af,Af,Ag,Ah,Ai,Aj,Ak,Al,An,Ao,Ap,Aq,Ar,Au,Av,Aw,Ax,Ay,Az,Ba,Bb,Bc,Bd,Be,Bf,Af], h⟩ := by kernel_rfl
theorem call120 (h : Heap) : evC Try.prog 120 #[Aa,Ab] h = codeK Try.prog (evC Try.prog) loopL c120_0 ⟨#[Aa,Ab, undef, undef, undef, undef, undef, undef, undef, undef, undef, undef, undef, undef, undef, undef, undef, undef, undef, undef, undef, undef, undef, undef, undef, undef, undef, undef, undef, undef], nm h⟩ (retK Try.f120 Try.prog h) :=
  (evC_call 120 Try.f120 c120_0 Try.func120 (by kernel_rfl) #[Aa,Ab] h).trans (by kernel_rfl)
theorem ret120 (h0 h : Heap) : retK Try.f120 Try.prog h0 .ret ⟨#[Aa,Ab,Ac,Ad,Ae,Af,Ag,Ah,Ai,Aj,Ak,Al,An,Ao,Ap,Aq,Ar,Au,Av,Aw,Ax,Ay,Az,Ba,Bb,Bc,Bd,Be,Bf,Bg], h⟩ = fin h0 (some Ae) h := by kernel_rfl
theorem retn120 (h0 h : Heap) : retK Try.f120 Try.prog h0 .normal ⟨#[Aa,Ab,Ac,Ad,Ae,Af,Ag,Ah,Ai,Aj,Ak,Al,An,Ao,Ap,Aq,Ar,Au,Av,Aw,Ax,Ay,Az,Ba,Bb,Bc,Bd,Be,Bf,Bg], h⟩ = fin h0 (some Ae) h := by kernel_rfl
end Go.Am
namespace Go.Am
open Go.Proofs
set_option maxRecDepth 100000
variable (Aa Ab Ac Ad Ae Af Ag Ah : Value)
noncomputable def c86_0 : Code := bodyC Try.f86 []
theorem c86_0_eq {β : Type} (h : Heap) (k : Ex → St → Option β) : codeK Try.prog (evC Try.prog) loopL c86_0 ⟨#[Aa,Ab,Ac,Ad,Ae,Af,Ag,Ah], h⟩ k =
(binV Try.prog .eql 53 (.tmp 3) (.const (Go.Value.slice Option.none 0 0)) Aa (Go.Value.slice Option.none 0 0)).bind fun t4_0 =>
cnd t4_0 (
k .ret ⟨#[Aa,Ab, (Go.Value.slice Option.none 0 0),Aa, t4_0,Af,Ag,Ah], h⟩) (
obH (buildSliceV Try.prog 53 0 #[] h) fun t5_1 h2 =>
obH (appendV Try.prog 53 (some 53) t5_1 Aa h2) fun t7_3 h4 =>
k .ret ⟨#[Aa,Ab, t7_3,Aa, t4_0, t5_1,Aa, t7_3], h4⟩) := by kernel_rfl
theorem call86 (h : Heap) : evC Try.prog 86 #[Aa] h = codeK Try.prog (evC Try.prog) loopL c86_0 ⟨#[Aa, undef, undef, undef, undef, undef, undef, undef], nm h⟩ (retK Try.f86 Try.prog h) :=
  (evC_call 86 Try.f86 c86_0 Try.func86 (by kernel_rfl) #[Aa] h).trans (by kernel_rfl)
theorem ret86 (h0 h : Heap) : retK Try.f86 Try.prog h0 .ret ⟨#[Aa,Ab,Ac,Ad,Ae,Af,Ag,Ah], h⟩ = fin h0 (some Ac) h := by kernel_rfl
theorem retn86 (h0 h : Heap) : retK Try.f86 Try.prog h0 .normal ⟨#[Aa,Ab,Ac,Ad,Ae,Af,Ag,Ah], h⟩ = fin h0 (some Ac) h := by kernel_rfl
end Go.Am
namespace Go.Am
open Go.Proofs
set_option maxRecDepth 100000
variable (Aa Ab Ac Ad Ae Af Ag Ah Ai Aj Ak Al An Ao Ap Aq Ar : Value)
noncomputable def c122_0 : Code := bodyC Try.f122 []
theorem c122_0_eq {β : Type} (h : Heap) (k : Ex → St → Option β) : codeK Try.prog (evC Try.prog) loopL c122_0 ⟨#[Aa,Ab,Ac,Ad,Ae,Af,Ag,Ah,Ai,Aj,Ak,Al,An,Ao,Ap,Aq,Ar], h⟩ k =
(binV Try.prog .lss 3 (.tmp 5) (.const (Go.Value.int Go.IntKind.i64 0)) Ab (Go.Value.int Go.IntKind.i64 0)).bind fun t6_0 =>
(gd (wt t6_0 false) (lenV Try.prog 52 (gdV (wt t6_0 false) Aa) h)).bind fun t10_1 =>
(gd (wt t6_0 false) (binV Try.prog .geq 3 (.tmp 8) (.tmp 10) (gdV (wt t6_0 false) Ab) t10_1)).bind fun t11_2 =>
(pickV t6_0 (Go.Value.bool Bool.true) t11_2).bind fun t12_3 =>
cnd t12_3 (
k .ret ⟨#[Aa,Ab,Ac,Ad, (Go.Value.int Go.IntKind.u64 0),Ab, t6_0, t6_0, (gdV (wt t6_0 false) Ab), (gdV (wt t6_0 false) Aa), t10_1, t11_2, t12_3,Ao,Ap,Aq,Ar], h⟩) (
(indexAddrV Try.prog 52 Aa Ab).bind fun t15_4 =>
(loadV Try.prog 46 t15_4 h).bind fun t16_5 =>
k .ret ⟨#[Aa,Ab,Ac,Ad, t16_5,Ab, t6_0, t6_0, (gdV (wt t6_0 false) Ab), (gdV (wt t6_0 false) Aa), t10_1, t11_2, t12_3,Aa,Ab, t15_4, t16_5], h⟩) := by kernel_rfl
theorem call122 (h : Heap) : evC Try.prog 122 #[Aa,Ab] h = codeK Try.prog (evC Try.prog) loopL c122_0 ⟨#[Aa,Ab, undef, undef, undef, undef, undef, undef, undef, undef, undef, undef, undef, undef, undef, undef, undef], nm h⟩ (retK Try.f122 Try.prog h) :=
  (evC_call 122 Try.f122 c122_0 Try.func122 (by kernel_rfl) #[Aa,Ab] h).trans (by kernel_rfl)
theorem ret122 (h0 h : Heap) : retK Try.f122 Try.prog h0 .ret ⟨#[Aa,Ab,Ac,Ad,Ae,Af,Ag,Ah,Ai,Aj,Ak,Al,An,Ao,Ap,Aq,Ar], h⟩ = fin h0 (some Ae) h := by kernel_rfl
theorem retn122 (h0 h : Heap) : retK Try.f122 Try.prog h0 .normal ⟨#[Aa,Ab,Ac,Ad,Ae,Af,Ag,Ah,Ai,Aj,Ak,Al,An,Ao,Ap,Aq,Ar], h⟩ = fin h0 (some Ae) h := by kernel_rfl
end Go.Am
namespace Go.Am
open Go.Proofs
set_option maxRecDepth 100000
variable (Aa Ab Ac Ad Ae Af Ag Ah Ai Aj Ak Al An Ao Ap Aq Ar Au Av Aw Ax Ay Az Ba Bb Bc Bd Be Bf Bg Bh Bi Bj Bk Bl Bm Bn : Value)
noncomputable def c91_0 : Code := bodyC Try.f91 []
noncomputable def c91_1 : Code := bodyC Try.f91 [true, true, true, false, false, false]
noncomputable def c91_2 : Code := bodyC Try.f91 [true, true, true, true]
theorem c91_0_eq {β : Type} (h : Heap) (k : Ex → St → Option β) : codeK Try.prog (evC Try.prog) loopL c91_0 ⟨#[Aa,Ab,Ac,Ad,Ae,Af,Ag,Ah,Ai,Aj,Ak,Al,An,Ao,Ap,Aq,Ar,Au,Av,Aw,Ax,Ay,Az,Ba,Bb,Bc,Bd,Be,Bf,Bg,Bh,Bi,Bj,Bk,Bl,Bm,Bn], h⟩ k =
obH (buildSliceV Try.prog 52 0 #[] h) fun t7_0 h1 =>
obH (appendV Try.prog 52 (some 52) t7_0 Aa h1) fun t9_2 h3 =>
(binV Try.prog .lss 3 (.tmp 10) (.const (Go.Value.int Go.IntKind.i64 0)) Ab (Go.Value.int Go.IntKind.i64 0)).bind fun t11_4 =>
(gd (wt t11_4 false) (binV Try.prog .gtr 3 (.tmp 13) (.const (Go.Value.int Go.IntKind.i64 63)) (gdV (wt t11_4 false) Ab) (Go.Value.int Go.IntKind.i64 63))).bind fun t14_5 =>
(pickV t11_4 (Go.Value.bool Bool.true) t14_5).bind fun t15_6 =>
obH (gdH (wt t15_6 false) h3 (evC Try.prog 122 #[(gdV (wt t15_6 false) Aa), (gdV (wt t15_6 false) Ab)] h3)) fun t19_7 h8 =>
(gd (wt t15_6 false) (binV Try.prog .eql 46 (.tmp 19) (.const (Go.Value.int Go.IntKind.u64 18446744073709551615)) t19_7 (Go.Value.int Go.IntKind.u64 18446744073709551615))).bind fun t20_9 =>
(pickV t15_6 (Go.Value.bool Bool.true) t20_9).bind fun t21_10 =>
cnd t21_10 (
k .ret ⟨#[Aa,Ab,Ac,Ad, t9_2, (Go.Value.bool Bool.false), t9_2, t7_0,Aa, t9_2,Ab, t11_4, t11_4, (gdV (wt t11_4 false) Ab), t14_5, t15_6, t15_6, (gdV (wt t15_6 false) Aa), (gdV (wt t15_6 false) Ab), t19_7, t20_9, t21_10, t9_2,Ba,Bb,Bc,Bd,Be,Bf,Bg,Bh,Bi,Bj,Bk,Bl,Bm,Bn], h8⟩) (
loopK Try.prog (evC Try.prog) c91_1 ⟨#[Aa,Ab,Ac,Ad, (Go.Value.slice Option.none 0 0), (Go.Value.bool Bool.false), t9_2, t7_0,Aa, t9_2,Ab, t11_4, t11_4, (gdV (wt t11_4 false) Ab), t14_5, t15_6, t15_6, (gdV (wt t15_6 false) Aa), (gdV (wt t15_6 false) Ab), t19_7, t20_9, t21_10,Az,Ba,Bb,Bc,Bd,Be,Bf,Bg,Bh,Bi,Bj,Bk,Bl,Bm,Bn], h8⟩ (blockK 0 (seqK Try.prog (evC Try.prog) c91_2 k))) := by kernel_rfl
theorem c91_1_eq {β : Type} (h : Heap) (k : Ex → St → Option β) : codeK Try.prog (evC Try.prog) loopL c91_1 ⟨#[Aa,Ab,Ac,Ad,Ae,Af,Ag,Ah,Ai,Aj,Ak,Al,An,Ao,Ap,Aq,Ar,Au,Av,Aw,Ax,Ay,Az,Ba,Bb,Bc,Bd,Be,Bf,Bg,Bh,Bi,Bj,Bk,Bl,Bm,Bn], h⟩ k =
(lenV Try.prog 52 Ag h).bind fun t24_11 =>
(binV Try.prog .leq 3 (.tmp 24) (.tmp 25) t24_11 Ab).bind fun t26_12 =>
cnd t26_12 (
obH (buildSliceV Try.prog 52 1 #[(0, (Go.Value.int Go.IntKind.u64 0))] h) fun t28_13 h14 =>
obH (appendV Try.prog 52 (some 52) Ag t28_13 h14) fun t29_15 h16 =>
k .normal ⟨#[Aa,Ab,Ac,Ad,Ae,Af, t29_15,Ah,Ai,Aj,Ak,Al,An,Ao,Ap,Aq,Ar,Au,Av,Aw,Ax,Ay,Az,Ag, t24_11,Ab, t26_12,Ag, t28_13, t29_15,Bh,Bi,Bj,Bk,Bl,Bm,Bn], h16⟩) (
k (.exit 0) ⟨#[Aa,Ab,Ac,Ad,Ae,Af,Ag,Ah,Ai,Aj,Ak,Al,An,Ao,Ap,Aq,Ar,Au,Av,Aw,Ax,Ay,Az,Ag, t24_11,Ab, t26_12,Be,Bf,Bg,Bh,Bi,Bj,Bk,Bl,Bm,Bn], h⟩) := by kernel_rfl
theorem c91_2_eq {β : Type} (h : Heap) (k : Ex → St → Option β) : codeK Try.prog (evC Try.prog) loopL c91_2 ⟨#[Aa,Ab,Ac,Ad,Ae,Af,Ag,Ah,Ai,Aj,Ak,Al,An,Ao,Ap,Aq,Ar,Au,Av,Aw,Ax,Ay,Az,Ba,Bb,Bc,Bd,Be,Bf,Bg,Bh,Bi,Bj,Bk,Bl,Bm,Bn], h⟩ k =
(indexAddrV Try.prog 52 Ag Ab).bind fun t32_17 =>
(loadV Try.prog 46 t32_17 h).bind fun t33_18 =>
(binV Try.prog .add 46 (.tmp 33) (.const (Go.Value.int Go.IntKind.u64 1)) t33_18 (Go.Value.int Go.IntKind.u64 1)).bind fun t34_19 =>
(indexAddrV Try.prog 52 Ag Ab).bind fun t35_20 =>
(storeV Try.prog 46 t35_20 t34_19 h).bind fun h21 =>
k .ret ⟨#[Aa,Ab,Ac,Ad,Ag, (Go.Value.bool Bool.true),Ag,Ah,Ai,Aj,Ak,Al,An,Ao,Ap,Aq,Ar,Au,Av,Aw,Ax,Ay,Az,Ba,Bb,Bc,Bd,Be,Bf,Bg,Ag,Ab, t32_17, t33_18, t34_19, t35_20,Ag], h21⟩ := by kernel_rfl
theorem call91 (h : Heap) : evC Try.prog 91 #[Aa,Ab] h = codeK Try.prog (evC Try.prog) loopL c91_0 ⟨#[Aa,Ab, undef, undef, undef, undef, undef, undef, undef, undef, undef, undef, undef, undef, undef, undef, undef, undef, undef, undef, undef, undef, undef, undef, undef, undef, undef, undef, undef, undef, undef, undef, undef, undef, undef, undef, undef], nm h⟩ (retK Try.f91 Try.prog h) :=
  (evC_call 91 Try.f91 c91_0 Try.func91 (by kernel_rfl) #[Aa,Ab] h).trans (by kernel_rfl)
theorem ret91 (h0 h : Heap) : retK Try.f91 Try.prog h0 .ret ⟨#[Aa,Ab,Ac,Ad,Ae,Af,Ag,Ah,Ai,Aj,Ak,Al,An,Ao,Ap,Aq,Ar,Au,Av,Aw,Ax,Ay,Az,Ba,Bb,Bc,Bd,Be,Bf,Bg,Bh,Bi,Bj,Bk,Bl,Bm,Bn], h⟩ = fin h0 (some (.tuple #[Ae,Af])) h := by kernel_rfl
theorem retn91 (h0 h : Heap) : retK Try.f91 Try.prog h0 .normal ⟨#[Aa,Ab,Ac,Ad,Ae,Af,Ag,Ah,Ai,Aj,Ak,Al,An,Ao,Ap,Aq,Ar,Au,Av,Aw,Ax,Ay,Az,Ba,Bb,Bc,Bd,Be,Bf,Bg,Bh,Bi,Bj,Bk,Bl,Bm,Bn], h⟩ = fin h0 (some (.tuple #[Ae,Af])) h := by kernel_rfl
end Go.Am
namespace Go.Am
open Go.Proofs
set_option maxRecDepth 100000
variable (Aa Ab Ac Ad Ae Af Ag Ah Ai Aj Ak Al An Ao Ap Aq Ar Au Av Aw Ax Ay Az Ba Bb Bc Bd Be Bf Bg Bh Bi Bj Bk Bl Bm : Value)
noncomputable def c123_0 : Code := bodyC Try.f123 []
noncomputable def c123_1 : Code := bodyC Try.f123 [true, true, false, true, false, false]
noncomputable def c123_2 : Code := bodyC Try.f123 [true, true, true]
theorem c123_0_eq {β : Type} (h : Heap) (k : Ex → St → Option β) : codeK Try.prog (evC Try.prog) loopL c123_0 ⟨#[Aa,Ab,Ac,Ad,Ae,Af,Ag,Ah,Ai,Aj,Ak,Al,An,Ao,Ap,Aq,Ar,Au,Av,Aw,Ax,Ay,Az,Ba,Bb,Bc,Bd,Be,Bf,Bg,Bh,Bi,Bj,Bk,Bl,Bm], h⟩ k =
loopK Try.prog (evC Try.prog) c123_1 ⟨#[Aa,Ab,Ac,Ad, (Go.Value.slice Option.none 0 0), (Go.Value.slice Option.none 0 0), (Go.Value.int Go.IntKind.i64 0),Ah,Ai,Aj,Ak,Al,An,Ao,Ap,Aq,Ar,Au,Av,Aw,Ax,Ay,Az,Ba,Bb,Bc,Bd,Be,Bf,Bg,Bh,Bi,Bj,Bk,Bl,Bm], h⟩ (blockK 0 (seqK Try.prog (evC Try.prog) c123_2 k)) := by kernel_rfl
theorem c123_1_eq {β : Type} (h : Heap) (k : Ex → St → Option β) : codeK Try.prog (evC Try.prog) loopL c123_1 ⟨#[Aa,Ab,Ac,Ad,Ae,Af,Ag,Ah,Ai,Aj,Ak,Al,An,Ao,Ap,Aq,Ar,Au,Av,Aw,Ax,Ay,Az,Ba,Bb,Bc,Bd,Be,Bf,Bg,Bh,Bi,Bj,Bk,Bl,Bm], h⟩ k =
(lenV Try.prog 52 Aa h).bind fun t10_0 =>
(binV Try.prog .lss 3 (.tmp 8) (.tmp 10) Ag t10_0).bind fun t11_1 =>
(gd (wt t11_1 false) (lenV Try.prog 52 (gdV (wt t11_1 false) Ab) h)).bind fun t15_2 =>
(gd (wt t11_1 false) (binV Try.prog .lss 3 (.tmp 13) (.tmp 15) (gdV (wt t11_1 false) Ag) t15_2)).bind fun t16_3 =>
(pickV t11_1 (Go.Value.bool Bool.true) t16_3).bind fun t17_4 =>
cnd t17_4 (
obH (evC Try.prog 122 #[Aa,Ag] h) fun t22_5 h6 =>
obH (evC Try.prog 122 #[Ab,Ag] h6) fun t25_7 h8 =>
(binV Try.prog .gtr 46 (.tmp 25) (.tmp 26) t25_7 t22_5).bind fun t27_9 =>
cnd t27_9 (
obH (evC Try.prog 122 #[Ab,Ag] h8) fun t30_10 h11 =>
obH (buildSliceV Try.prog 52 1 #[(0, t30_10)] h11) fun t33_12 h13 =>
obH (appendV Try.prog 52 (some 52) Af t33_12 h13) fun t34_14 h15 =>
(binV Try.prog .add 3 (.tmp 18) (.const (Go.Value.int Go.IntKind.i64 1)) Ag (Go.Value.int Go.IntKind.i64 1)).bind fun t19_16 =>
k .normal ⟨#[Aa,Ab,Ac,Ad,Ae, t34_14, t19_16, t30_10,Ag,Aa, t10_0, t11_1, t11_1, (gdV (wt t11_1 false) Ag), (gdV (wt t11_1 false) Ab), t15_2, t16_3, t17_4,Ag, t19_16,Aa,Ag, t22_5,Ab,Ag, t25_7, t22_5, t27_9,Ab,Ag, t30_10,Af, t30_10, t33_12, t34_14,Bm], h15⟩) (
obH (buildSliceV Try.prog 52 1 #[(0, t22_5)] h8) fun t33_17 h18 =>
obH (appendV Try.prog 52 (some 52) Af t33_17 h18) fun t34_19 h20 =>
(binV Try.prog .add 3 (.tmp 18) (.const (Go.Value.int Go.IntKind.i64 1)) Ag (Go.Value.int Go.IntKind.i64 1)).bind fun t19_21 =>
k .normal ⟨#[Aa,Ab,Ac,Ad,Ae, t34_19, t19_21, t22_5,Ag,Aa, t10_0, t11_1, t11_1, (gdV (wt t11_1 false) Ag), (gdV (wt t11_1 false) Ab), t15_2, t16_3, t17_4,Ag, t19_21,Aa,Ag, t22_5,Ab,Ag, t25_7, t22_5, t27_9,Bf,Bg,Bh,Af, t22_5, t33_17, t34_19,Bm], h20⟩)) (
k (.exit 0) ⟨#[Aa,Ab,Ac,Ad,Ae,Af,Ag,Ah,Ag,Aa, t10_0, t11_1, t11_1, (gdV (wt t11_1 false) Ag), (gdV (wt t11_1 false) Ab), t15_2, t16_3, t17_4,Av,Aw,Ax,Ay,Az,Ba,Bb,Bc,Bd,Be,Bf,Bg,Bh,Bi,Bj,Bk,Bl,Bm], h⟩) := by kernel_rfl
theorem c123_2_eq {β : Type} (h : Heap) (k : Ex → St → Option β) : codeK Try.prog (evC Try.prog) loopL c123_2 ⟨#[Aa,Ab,Ac,Ad,Ae,Af,Ag,Ah,Ai,Aj,Ak,Al,An,Ao,Ap,Aq,Ar,Au,Av,Aw,Ax,Ay,Az,Ba,Bb,Bc,Bd,Be,Bf,Bg,Bh,Bi,Bj,Bk,Bl,Bm], h⟩ k =
k .ret ⟨#[Aa,Ab,Ac,Ad,Af,Af,Ag,Ah,Ai,Aj,Ak,Al,An,Ao,Ap,Aq,Ar,Au,Av,Aw,Ax,Ay,Az,Ba,Bb,Bc,Bd,Be,Bf,Bg,Bh,Bi,Bj,Bk,Bl,Af], h⟩ := by kernel_rfl
theorem call123 (h : Heap) : evC Try.prog 123 #[Aa,Ab] h = codeK Try.prog (evC Try.prog) loopL c123_0 ⟨#[Aa,Ab, undef, undef, undef, undef, undef, undef, undef, undef, undef, undef, undef, undef, undef, undef, undef, undef, undef, undef, undef, undef, undef, undef, undef, undef, undef, undef, undef, undef, undef, undef, undef, undef, undef, undef], nm h⟩ (retK Try.f123 Try.prog h) :=
  (evC_call 123 Try.f123 c123_0 Try.func123 (by kernel_rfl) #[Aa,Ab] h).trans (by kernel_rfl)
theorem ret123 (h0 h : Heap) : retK Try.f123 Try.prog h0 .ret ⟨#[Aa,Ab,Ac,Ad,Ae,Af,Ag,Ah,Ai,Aj,Ak,Al,An,Ao,Ap,Aq,Ar,Au,Av,Aw,Ax,Ay,Az,Ba,Bb,Bc,Bd,Be,Bf,Bg,Bh,Bi,Bj,Bk,Bl,Bm], h⟩ = fin h0 (some Ae) h := by kernel_rfl
theorem retn123 (h0 h : Heap) : retK Try.f123 Try.prog h0 .normal ⟨#[Aa,Ab,Ac,Ad,Ae,Af,Ag,Ah,Ai,Aj,Ak,Al,An,Ao,Ap,Aq,Ar,Au,Av,Aw,Ax,Ay,Az,Ba,Bb,Bc,Bd,Be,Bf,Bg,Bh,Bi,Bj,Bk,Bl,Bm], h⟩ = fin h0 (some Ae) h := by kernel_rfl
end Go.Am
namespace Go.Am
open Go.Proofs
set_option maxRecDepth 100000
variable (Aa Ab Ac Ad Ae Af Ag Ah Ai Aj Ak Al An Ao Ap Aq Ar Au Av Aw Ax Ay Az Ba Bb Bc : Value)
noncomputable def c78_0 : Code := bodyC Try.f78 []
noncomputable def c78_1 : Code := bodyC Try.f78 [true, true, true, false, true, false, false]
noncomputable def c78_2 : Code := bodyC Try.f78 [true, true, true, true]
theorem c78_0_eq {β : Type} (h : Heap) (k : Ex → St → Option β) : codeK Try.prog (evC Try.prog) loopL c78_0 ⟨#[Aa,Ab,Ac,Ad,Ae,Af,Ag,Ah,Ai,Aj,Ak,Al,An,Ao,Ap,Aq,Ar,Au,Av,Aw,Ax,Ay,Az,Ba,Bb,Bc], h⟩ k =
obH (allocV Try.prog 29 h) fun t2_0 h1 =>
(binV Try.prog .lss 3 (.tmp 5) (.const (Go.Value.int Go.IntKind.i64 1)) Aa (Go.Value.int Go.IntKind.i64 1)).bind fun t6_2 =>
(gd (wt t6_2 false) (binV Try.prog .gtr 3 (.tmp 8) (.const (Go.Value.int Go.IntKind.i64 16)) (gdV (wt t6_2 false) Aa) (Go.Value.int Go.IntKind.i64 16))).bind fun t9_3 =>
(pickV t6_2 (Go.Value.bool Bool.true) t9_3).bind fun t10_4 =>
cnd t10_4 (
(buildV Try.prog 29 #[]).bind fun t11_5 =>
(storeV Try.prog 29 t2_0 t11_5 h1).bind fun h6 =>
k .ret ⟨#[Aa,Ab, t2_0, (Go.Value.int Go.IntKind.i64 1),Ae,Aa, t6_2, t6_2, (gdV (wt t6_2 false) Aa), t9_3, t10_4, t11_5,An,Ao,Ap,Aq,Ar,Au,Av,Aw,Ax,Ay,Az,Ba,Bb,Bc], h6⟩) (
(buildV Try.prog 29 #[(0,Aa)]).bind fun t13_7 =>
obH (allocV Try.prog 29 h1) fun t4_8 h9 =>
(storeV Try.prog 29 t4_8 t13_7 h9).bind fun h10 =>
loopK Try.prog (evC Try.prog) c78_1 ⟨#[Aa,Ab, t2_0, (Go.Value.int Go.IntKind.i64 0), t4_8,Aa, t6_2, t6_2, (gdV (wt t6_2 false) Aa), t9_3, t10_4,Al,Aa, t13_7,Aa, (Go.Value.int Go.IntKind.i64 0),Ar,Au,Av,Aw,Ax,Ay,Az,Ba,Bb,Bc], h10⟩ (blockK 0 (seqK Try.prog (evC Try.prog) c78_2 k))) := by kernel_rfl
theorem c78_1_eq {β : Type} (h : Heap) (k : Ex → St → Option β) : codeK Try.prog (evC Try.prog) loopL c78_1 ⟨#[Aa,Ab,Ac,Ad,Ae,Af,Ag,Ah,Ai,Aj,Ak,Al,An,Ao,Ap,Aq,Ar,Au,Av,Aw,Ax,Ay,Az,Ba,Bb,Bc], h⟩ k =
(binV Try.prog .lss 3 (.tmp 15) (.tmp 14) Aq Ap).bind fun t16_11 =>
cnd t16_11 (
(fieldAddrV Try.prog 29 Ae 1).bind fun t17_12 =>
(loadV Try.prog 27 t17_12 h).bind fun t18_13 =>
obH (evC Try.prog 79 #[Aa] (nm h)) fun t20_14 h15 =>
obH (buildSliceV Try.prog 27 1 #[(0, t20_14)] (am h15 h)) fun t21_16 h17 =>
obH (appendV Try.prog 27 (some 27) t18_13 t21_16 h17) fun t22_18 h19 =>
(fieldAddrV Try.prog 29 Ae 1).bind fun t23_20 =>
(storeV Try.prog 27 t23_20 t22_18 h19).bind fun h21 =>
chk ((rb t17_12) ++ []) (h15.mods ++ []) (
(binV Try.prog .add 3 (.tmp 15) (.const (Go.Value.int Go.IntKind.i64 1)) Aq (Go.Value.int Go.IntKind.i64 1)).bind fun t24_22 =>
k .normal ⟨#[Aa,Ab,Ac,Ad,Ae,Af,Ag,Ah,Ai,Aj,Ak,Al,An,Ao,Ap, t24_22, t16_11, t17_12, t18_13,Aa, t20_14, t21_16, t22_18, t23_20, t24_22,Bc], h21⟩)) (
k (.exit 0) ⟨#[Aa,Ab,Ac,Ad,Ae,Af,Ag,Ah,Ai,Aj,Ak,Al,An,Ao,Ap,Aq, t16_11,Au,Av,Aw,Ax,Ay,Az,Ba,Bb,Bc], h⟩) := by kernel_rfl
theorem c78_2_eq {β : Type} (h : Heap) (k : Ex → St → Option β) : codeK Try.prog (evC Try.prog) loopL c78_2 ⟨#[Aa,Ab,Ac,Ad,Ae,Af,Ag,Ah,Ai,Aj,Ak,Al,An,Ao,Ap,Aq,Ar,Au,Av,Aw,Ax,Ay,Az,Ba,Bb,Bc], h⟩ k =
(loadV Try.prog 29 Ae h).bind fun t25_23 =>
(storeV Try.prog 29 Ac t25_23 h).bind fun h24 =>
k .ret ⟨#[Aa,Ab,Ac, (Go.Value.int Go.IntKind.i64 0),Ae,Af,Ag,Ah,Ai,Aj,Ak,Al,An,Ao,Ap,Aq,Ar,Au,Av,Aw,Ax,Ay,Az,Ba,Bb, t25_23], h24⟩ := by kernel_rfl
theorem call78 (h : Heap) : evC Try.prog 78 #[Aa] h = codeK Try.prog (evC Try.prog) loopL c78_0 ⟨#[Aa, undef, undef, undef, undef, undef, undef, undef, undef, undef, undef, undef, undef, undef, undef, undef, undef, undef, undef, undef, undef, undef, undef, undef, undef, undef], nm h⟩ (retK Try.f78 Try.prog h) :=
  (evC_call 78 Try.f78 c78_0 Try.func78 (by kernel_rfl) #[Aa] h).trans (by kernel_rfl)
theorem ret78 (h0 h : Heap) : retK Try.f78 Try.prog h0 .ret ⟨#[Aa,Ab,Ac,Ad,Ae,Af,Ag,Ah,Ai,Aj,Ak,Al,An,Ao,Ap,Aq,Ar,Au,Av,Aw,Ax,Ay,Az,Ba,Bb,Bc], h⟩ = fin h0 (rvals ((loadV Try.prog 29 Ac h).bind fun r0 => some [r0,Ad])) h := by kernel_rfl
theorem retn78 (h0 h : Heap) : retK Try.f78 Try.prog h0 .normal ⟨#[Aa,Ab,Ac,Ad,Ae,Af,Ag,Ah,Ai,Aj,Ak,Al,An,Ao,Ap,Aq,Ar,Au,Av,Aw,Ax,Ay,Az,Ba,Bb,Bc], h⟩ = fin h0 (rvals ((loadV Try.prog 29 Ac h).bind fun r0 => some [r0,Ad])) h := by kernel_rfl
end Go.Am
namespace Go.Am
open Go.Proofs
set_option maxRecDepth 100000
variable (Aa Ab Ac Ad Ae Af Ag Ah Ai Aj Ak Al An Ao Ap Aq Ar Au Av Aw Ax Ay Az Ba : Value)
noncomputable def c77_0 : Code := bodyC Try.f77 []
theorem c77_0_eq {β : Type} (h : Heap) (k : Ex → St → Option β) : codeK Try.prog (evC Try.prog) loopL c77_0 ⟨#[Aa,Ab,Ac,Ad,Ae,Af,Ag,Ah,Ai,Aj,Ak,Al,An,Ao,Ap,Aq,Ar,Au,Av,Aw,Ax,Ay,Az,Ba], h⟩ k =
obH (boxV Try.prog 29 Aa h) fun t1_0 h1 =>
(fieldAddrV Try.prog 29 t1_0 0).bind fun t3_2 =>
(loadV Try.prog 3 t3_2 h1).bind fun t4_3 =>
(binV Try.prog .lss 3 (.tmp 4) (.const (Go.Value.int Go.IntKind.i64 1)) t4_3 (Go.Value.int Go.IntKind.i64 1)).bind fun t5_4 =>
(gd (wt t5_4 false) (fieldAddrV Try.prog 29 t1_0 0)).bind fun t7_5 =>
(gd (wt t5_4 false) (loadV Try.prog 3 t7_5 h1)).bind fun t8_6 =>
(gd (wt t5_4 false) (binV Try.prog .gtr 3 (.tmp 8) (.const (Go.Value.int Go.IntKind.i64 16)) t8_6 (Go.Value.int Go.IntKind.i64 16))).bind fun t9_7 =>
(pickV t5_4 (Go.Value.bool Bool.true) t9_7).bind fun t10_8 =>
(gd (wt t10_8 false) (fieldAddrV Try.prog 29 t1_0 1)).bind fun t12_9 =>
(gd (wt t10_8 false) (loadV Try.prog 27 t12_9 h1)).bind fun t13_10 =>
(gd (wt t10_8 false) (lenV Try.prog 27 t13_10 h1)).bind fun t14_11 =>
(gd (wt t10_8 false) (fieldAddrV Try.prog 29 t1_0 0)).bind fun t15_12 =>
(gd (wt t10_8 false) (loadV Try.prog 3 t15_12 h1)).bind fun t16_13 =>
(gd (wt t10_8 false) (binV Try.prog .neq 3 (.tmp 14) (.tmp 16) t14_11 t16_13)).bind fun t17_14 =>
(pickV t10_8 (Go.Value.bool Bool.true) t17_14).bind fun t18_15 =>
cnd t18_15 (
k .ret ⟨#[Aa, t1_0, (Go.Value.bool Bool.false), t3_2, t4_3, t5_4, t5_4, t7_5, t8_6, t9_7, t10_8, t10_8, t12_9, t13_10, t14_11, t15_12, t16_13, t17_14, t18_15,Aw,Ax,Ay,Az,Ba], h1⟩) (
(fieldAddrV Try.prog 29 t1_0 1).bind fun t19_16 =>
(loadV Try.prog 27 t19_16 h1).bind fun t20_17 =>
obH (evC Try.prog 115 #[t20_17, (.func (Go.Fn.func 116) #[] #[t1_0])] h1) fun t22_18 h19 =>
(unV Try.prog .not t22_18).bind fun t23_20 =>
k .ret ⟨#[Aa, t1_0, t23_20, t3_2, t4_3, t5_4, t5_4, t7_5, t8_6, t9_7, t10_8, t10_8, t12_9, t13_10, t14_11, t15_12, t16_13, t17_14, t18_15, t19_16, t20_17, (.func (Go.Fn.func 116) #[] #[t1_0]), t22_18, t23_20], h19⟩) := by kernel_rfl
theorem call77 (h : Heap) : evC Try.prog 77 #[Aa] h = codeK Try.prog (evC Try.prog) loopL c77_0 ⟨#[Aa, undef, undef, undef, undef, undef, undef, undef, undef, undef, undef, undef, undef, undef, undef, undef, undef, undef, undef, undef, undef, undef, undef, undef], nm h⟩ (retK Try.f77 Try.prog h) :=
  (evC_call 77 Try.f77 c77_0 Try.func77 (by kernel_rfl) #[Aa] h).trans (by kernel_rfl)
theorem ret77 (h0 h : Heap) : retK Try.f77 Try.prog h0 .ret ⟨#[Aa,Ab,Ac,Ad,Ae,Af,Ag,Ah,Ai,Aj,Ak,Al,An,Ao,Ap,Aq,Ar,Au,Av,Aw,Ax,Ay,Az,Ba], h⟩ = fin h0 (some Ac) h := by kernel_rfl
theorem retn77 (h0 h : Heap) : retK Try.f77 Try.prog h0 .normal ⟨#[Aa,Ab,Ac,Ad,Ae,Af,Ag,Ah,Ai,Aj,Ak,Al,An,Ao,Ap,Aq,Ar,Au,Av,Aw,Ax,Ay,Az,Ba], h⟩ = fin h0 (some Ac) h := by kernel_rfl
end Go.Am
namespace Go.Am
open Go.Proofs
set_option maxRecDepth 100000
variable (Aa Ab Ac Ad Ae Af Ag Ah Ai : Value)
noncomputable def c116_0 : Code := bodyC Try.f116 []
theorem c116_0_eq {β : Type} (h : Heap) (k : Ex → St → Option β) : codeK Try.prog (evC Try.prog) loopL c116_0 ⟨#[Aa,Ab,Ac,Ad,Ae,Af,Ag,Ah,Ai], h⟩ k =
(lenV Try.prog 53 Aa h).bind fun t5_0 =>
(fieldAddrV Try.prog 29 Ab 0).bind fun t6_1 =>
(loadV Try.prog 3 t6_1 h).bind fun t7_2 =>
(binV Try.prog .neq 3 (.tmp 5) (.tmp 7) t5_0 t7_2).bind fun t8_3 =>
k .ret ⟨#[Aa,Ab,Ac, t8_3,Aa, t5_0, t6_1, t7_2, t8_3], h⟩ := by kernel_rfl
theorem call116 (h : Heap) : evC Try.prog 116 #[Aa] h = codeK Try.prog (evC Try.prog) loopL c116_0 ⟨#[Aa, undef, undef, undef, undef, undef, undef, undef, undef], nm h⟩ (retK Try.f116 Try.prog h) :=
  (evC_call 116 Try.f116 c116_0 Try.func116 (by kernel_rfl) #[Aa] h).trans (by kernel_rfl)
theorem ret116 (h0 h : Heap) : retK Try.f116 Try.prog h0 .ret ⟨#[Aa,Ab,Ac,Ad,Ae,Af,Ag,Ah,Ai], h⟩ = fin h0 (some Ad) h := by kernel_rfl
theorem retn116 (h0 h : Heap) : retK Try.f116 Try.prog h0 .normal ⟨#[Aa,Ab,Ac,Ad,Ae,Af,Ag,Ah,Ai], h⟩ = fin h0 (some Ad) h := by kernel_rfl
end Go.Am
namespace Go.Am
open Go.Proofs
set_option maxRecDepth 100000
variable (Aa Ab Ac Ad Ae Af Ag Ah Ai Aj Ak Al An Ao Ap Aq Ar Au Av Aw Ax Ay Az : Value)
noncomputable def c34_0 : Code := bodyC Try.f34 []
theorem c34_0_eq {β : Type} (h : Heap) (k : Ex → St → Option β) : codeK Try.prog (evC Try.prog) loopL c34_0 ⟨#[Aa,Ab,Ac,Ad,Ae,Af,Ag,Ah,Ai,Aj,Ak,Al,An,Ao,Ap,Aq,Ar,Au,Av,Aw,Ax,Ay,Az], h⟩ k =
obH (boxV Try.prog 29 Aa h) fun t3_0 h1 =>
(binV Try.prog .lss 3 (.tmp 7) (.const (Go.Value.int Go.IntKind.i64 0)) Ab (Go.Value.int Go.IntKind.i64 0)).bind fun t8_2 =>
(gd (wt t8_2 false) (fieldAddrV Try.prog 29 t3_0 1)).bind fun t11_3 =>
(gd (wt t8_2 false) (loadV Try.prog 27 t11_3 h1)).bind fun t12_4 =>
(gd (wt t8_2 false) (lenV Try.prog 27 t12_4 h1)).bind fun t13_5 =>
(gd (wt t8_2 false) (binV Try.prog .geq 3 (.tmp 10) (.tmp 13) (gdV (wt t8_2 false) Ab) t13_5)).bind fun t14_6 =>
(pickV t8_2 (Go.Value.bool Bool.true) t14_6).bind fun t15_7 =>
cnd t15_7 (
k .ret ⟨#[Aa,Ab,Ac, t3_0,Ae,Af, (Go.Value.int Go.IntKind.u64 0),Ab, t8_2, t8_2, (gdV (wt t8_2 false) Ab), t11_3, t12_4, t13_5, t14_6, t15_7,Ar,Au,Av,Aw,Ax,Ay,Az], h1⟩) (
(fieldAddrV Try.prog 29 t3_0 1).bind fun t16_8 =>
(loadV Try.prog 27 t16_8 h1).bind fun t17_9 =>
(indexAddrV Try.prog 27 t17_9 Ab).bind fun t19_10 =>
(loadV Try.prog 53 t19_10 h1).bind fun t20_11 =>
obH (evC Try.prog 87 #[t20_11,Ac] h1) fun t22_12 h13 =>
k .ret ⟨#[Aa,Ab,Ac, t3_0,Ae,Af, t22_12,Ab, t8_2, t8_2, (gdV (wt t8_2 false) Ab), t11_3, t12_4, t13_5, t14_6, t15_7, t16_8, t17_9,Ab, t19_10, t20_11,Ac, t22_12], h13⟩) := by kernel_rfl
theorem call34 (h : Heap) : evC Try.prog 34 #[Aa,Ab,Ac] h = codeK Try.prog (evC Try.prog) loopL c34_0 ⟨#[Aa,Ab,Ac, undef, undef, undef, undef, undef, undef, undef, undef, undef, undef, undef, undef, undef, undef, undef, undef, undef, undef, undef, undef], nm h⟩ (retK Try.f34 Try.prog h) :=
  (evC_call 34 Try.f34 c34_0 Try.func34 (by kernel_rfl) #[Aa,Ab,Ac] h).trans (by kernel_rfl)
theorem ret34 (h0 h : Heap) : retK Try.f34 Try.prog h0 .ret ⟨#[Aa,Ab,Ac,Ad,Ae,Af,Ag,Ah,Ai,Aj,Ak,Al,An,Ao,Ap,Aq,Ar,Au,Av,Aw,Ax,Ay,Az], h⟩ = fin h0 (some Ag) h := by kernel_rfl
theorem retn34 (h0 h : Heap) : retK Try.f34 Try.prog h0 .normal ⟨#[Aa,Ab,Ac,Ad,Ae,Af,Ag,Ah,Ai,Aj,Ak,Al,An,Ao,Ap,Aq,Ar,Au,Av,Aw,Ax,Ay,Az], h⟩ = fin h0 (some Ag) h := by kernel_rfl
end Go.Am
namespace Go.Am
open Go.Proofs
set_option maxRecDepth 100000
variable (Aa Ab Ac Ad Ae Af Ag Ah Ai : Value)
noncomputable def c115_0 : Code := bodyC Try.f115 []
theorem c115_0_eq {β : Type} (h : Heap) (k : Ex → St → Option β) : codeK Try.prog (evC Try.prog) loopL c115_0 ⟨#[Aa,Ab,Ac,Ad,Ae,Af,Ag,Ah,Ai], h⟩ k =
obH (evC Try.prog 127 #[Aa,Ab] h) fun t7_0 h1 =>
(binV Try.prog .geq 3 (.tmp 7) (.const (Go.Value.int Go.IntKind.i64 0)) t7_0 (Go.Value.int Go.IntKind.i64 0)).bind fun t8_2 =>
k .ret ⟨#[Aa,Ab,Ac,Ad, t8_2,Aa,Ab, t7_0, t8_2], h1⟩ := by kernel_rfl
theorem call115 (h : Heap) : evC Try.prog 115 #[Aa,Ab] h = codeK Try.prog (evC Try.prog) loopL c115_0 ⟨#[Aa,Ab, undef, undef, undef, undef, undef, undef, undef], nm h⟩ (retK Try.f115 Try.prog h) :=
  (evC_call 115 Try.f115 c115_0 Try.func115 (by kernel_rfl) #[Aa,Ab] h).trans (by kernel_rfl)
theorem ret115 (h0 h : Heap) : retK Try.f115 Try.prog h0 .ret ⟨#[Aa,Ab,Ac,Ad,Ae,Af,Ag,Ah,Ai], h⟩ = fin h0 (some Ae) h := by kernel_rfl
theorem retn115 (h0 h : Heap) : retK Try.f115 Try.prog h0 .normal ⟨#[Aa,Ab,Ac,Ad,Ae,Af,Ag,Ah,Ai], h⟩ = fin h0 (some Ae) h := by kernel_rfl
end Go.Am
namespace Go.Am
open Go.Proofs
set_option maxRecDepth 100000
variable (Aa Ab Ac Ad Ae Af Ag Ah Ai Aj Ak Al An Ao Ap Aq Ar Au Av : Value)
noncomputable def c127_0 : Code := bodyC Try.f127 []
noncomputable def c127_1 : Code := bodyC Try.f127 [true, false, true, false, false]
noncomputable def c127_2 : Code := bodyC Try.f127 [true, true]
theorem c127_0_eq {β : Type} (h : Heap) (k : Ex → St → Option β) : codeK Try.prog (evC Try.prog) loopL c127_0 ⟨#[Aa,Ab,Ac,Ad,Ae,Af,Ag,Ah,Ai,Aj,Ak,Al,An,Ao,Ap,Aq,Ar,Au,Av], h⟩ k =
(lenV Try.prog 27 Aa h).bind fun t7_0 =>
loopK Try.prog (evC Try.prog) c127_1 ⟨#[Aa,Ab,Ac,Ad, (Go.Value.int Go.IntKind.i64 0),Af,Aa, t7_0, (Go.Value.int Go.IntKind.i64 0),Aj,Ak,Al,An,Ao,Ap,Aq,Ar,Au,Av], h⟩ (blockK 0 (seqK Try.prog (evC Try.prog) c127_2 k)) := by kernel_rfl
theorem c127_1_eq {β : Type} (h : Heap) (k : Ex → St → Option β) : codeK Try.prog (evC Try.prog) loopL c127_1 ⟨#[Aa,Ab,Ac,Ad,Ae,Af,Ag,Ah,Ai,Aj,Ak,Al,An,Ao,Ap,Aq,Ar,Au,Av], h⟩ k =
(binV Try.prog .lss 3 (.tmp 8) (.tmp 7) Ai Ah).bind fun t9_1 =>
cnd t9_1 (
(indexAddrV Try.prog 27 Aa Ai).bind fun t14_2 =>
(loadV Try.prog 53 t14_2 h).bind fun t15_3 =>
obH (callV Try.prog (evC Try.prog) Ab #[t15_3] h) fun t16_4 h5 =>
cnd t16_4 (
k .ret ⟨#[Aa,Ab,Ac,Ad,Ai,Ai,Ag,Ah,Ai, t9_1,Ai,Ab,Aa,Ai, t14_2, t15_3, t16_4,Ai,Av], h5⟩) (
(binV Try.prog .add 3 (.tmp 8) (.const (Go.Value.int Go.IntKind.i64 1)) Ai (Go.Value.int Go.IntKind.i64 1)).bind fun t18_6 =>
k .normal ⟨#[Aa,Ab,Ac,Ad,Ae,Ai,Ag,Ah, t18_6, t9_1,Ai,Ab,Aa,Ai, t14_2, t15_3, t16_4,Au, t18_6], h5⟩)) (
k (.exit 0) ⟨#[Aa,Ab,Ac,Ad,Ae,Af,Ag,Ah,Ai, t9_1,Ak,Al,An,Ao,Ap,Aq,Ar,Au,Av], h⟩) := by kernel_rfl
theorem c127_2_eq {β : Type} (h : Heap) (k : Ex → St → Option β) : codeK Try.prog (evC Try.prog) loopL c127_2 ⟨#[Aa,Ab,Ac,Ad,Ae,Af,Ag,Ah,Ai,Aj,Ak,Al,An,Ao,Ap,Aq,Ar,Au,Av], h⟩ k =
k .ret ⟨#[Aa,Ab,Ac,Ad, (Go.Value.int Go.IntKind.i64 (-1)),Af,Ag,Ah,Ai,Aj,Ak,Al,An,Ao,Ap,Aq,Ar,Au,Av], h⟩ := by kernel_rfl
theorem call127 (h : Heap) : evC Try.prog 127 #[Aa,Ab] h = codeK Try.prog (evC Try.prog) loopL c127_0 ⟨#[Aa,Ab, undef, undef, undef, undef, undef, undef, undef, undef, undef, undef, undef, undef, undef, undef, undef, undef, undef], nm h⟩ (retK Try.f127 Try.prog h) :=
  (evC_call 127 Try.f127 c127_0 Try.func127 (by kernel_rfl) #[Aa,Ab] h).trans (by kernel_rfl)
theorem ret127 (h0 h : Heap) : retK Try.f127 Try.prog h0 .ret ⟨#[Aa,Ab,Ac,Ad,Ae,Af,Ag,Ah,Ai,Aj,Ak,Al,An,Ao,Ap,Aq,Ar,Au,Av], h⟩ = fin h0 (some Ae) h := by kernel_rfl
theorem retn127 (h0 h : Heap) : retK Try.f127 Try.prog h0 .normal ⟨#[Aa,Ab,Ac,Ad,Ae,Af,Ag,Ah,Ai,Aj,Ak,Al,An,Ao,Ap,Aq,Ar,Au,Av], h⟩ = fin h0 (some Ae) h := by kernel_rfl
end Go.Am
namespace Go.Am
open Go.Proofs
set_option maxRecDepth 100000
variable (Aa Ab Ac Ad Ae Af Ag Ah Ai Aj Ak Al An Ao Ap Aq Ar Au Av Aw Ax Ay Az Ba Bb : Value)
noncomputable def c118_0 : Code := bodyC Try.f118 []
noncomputable def c118_1 : Code := bodyC Try.f118 [true, true, false, true, false, false]
noncomputable def c118_2 : Code := bodyC Try.f118 [true, true, true]
theorem c118_0_eq {β : Type} (h : Heap) (k : Ex → St → Option β) : codeK Try.prog (evC Try.prog) loopL c118_0 ⟨#[Aa,Ab,Ac,Ad,Ae,Af,Ag,Ah,Ai,Aj,Ak,Al,An,Ao,Ap,Aq,Ar,Au,Av,Aw,Ax,Ay,Az,Ba,Bb], h⟩ k =
obH (boxV Try.prog 29 Aa h) fun t1_0 h1 =>
obH (allocV Try.prog 29 h1) fun t2_2 h3 =>
(fieldAddrV Try.prog 29 t1_0 0).bind fun t6_4 =>
(loadV Try.prog 3 t6_4 h3).bind fun t7_5 =>
(buildV Try.prog 29 #[(0, t7_5)]).bind fun t8_6 =>
obH (allocV Try.prog 29 h3) fun t3_7 h8 =>
(storeV Try.prog 29 t3_7 t8_6 h8).bind fun h9 =>
(fieldAddrV Try.prog 29 t1_0 1).bind fun t9_10 =>
(loadV Try.prog 27 t9_10 h9).bind fun t10_11 =>
(lenV Try.prog 27 t10_11 h9).bind fun t11_12 =>
loopK Try.prog (evC Try.prog) c118_1 ⟨#[Aa, t1_0, t2_2, t3_7,Ae,Af, t6_4, t7_5, t8_6, t9_10, t10_11, t11_12, (Go.Value.int Go.IntKind.i64 0),Ao,Ap,Aq,Ar,Au,Av,Aw,Ax,Ay,Az,Ba,Bb], h9⟩ (blockK 0 (seqK Try.prog (evC Try.prog) c118_2 k)) := by kernel_rfl
theorem c118_1_eq {β : Type} (h : Heap) (k : Ex → St → Option β) : codeK Try.prog (evC Try.prog) loopL c118_1 ⟨#[Aa,Ab,Ac,Ad,Ae,Af,Ag,Ah,Ai,Aj,Ak,Al,An,Ao,Ap,Aq,Ar,Au,Av,Aw,Ax,Ay,Az,Ba,Bb], h⟩ k =
(binV Try.prog .lss 3 (.tmp 12) (.tmp 11) An Al).bind fun t13_13 =>
cnd t13_13 (
(indexAddrV Try.prog 27 Ak An).bind fun t14_14 =>
(loadV Try.prog 53 t14_14 h).bind fun t15_15 =>
(fieldAddrV Try.prog 29 Ad 1).bind fun t16_16 =>
(loadV Try.prog 27 t16_16 h).bind fun t17_17 =>
obH (evC Try.prog 86 #[t15_15] (nm h)) fun t19_18 h19 =>
obH (buildSliceV Try.prog 27 1 #[(0, t19_18)] (am h19 h)) fun t20_20 h21 =>
obH (appendV Try.prog 27 (some 27) t17_17 t20_20 h21) fun t21_22 h23 =>
(fieldAddrV Try.prog 29 Ad 1).bind fun t22_24 =>
(storeV Try.prog 27 t22_24 t21_22 h23).bind fun h25 =>
chk ((rb t16_16) ++ []) (h19.mods ++ []) (
(binV Try.prog .add 3 (.tmp 12) (.const (Go.Value.int Go.IntKind.i64 1)) An (Go.Value.int Go.IntKind.i64 1)).bind fun t23_26 =>
k .normal ⟨#[Aa,Ab,Ac,Ad,Ae, t15_15,Ag,Ah,Ai,Aj,Ak,Al, t23_26, t13_13, t14_14, t15_15, t16_16, t17_17, t15_15, t19_18, t20_20, t21_22, t22_24, t23_26,Bb], h25⟩)) (
k (.exit 0) ⟨#[Aa,Ab,Ac,Ad,Ae,Af,Ag,Ah,Ai,Aj,Ak,Al,An, t13_13,Ap,Aq,Ar,Au,Av,Aw,Ax,Ay,Az,Ba,Bb], h⟩) := by kernel_rfl
theorem c118_2_eq {β : Type} (h : Heap) (k : Ex → St → Option β) : codeK Try.prog (evC Try.prog) loopL c118_2 ⟨#[Aa,Ab,Ac,Ad,Ae,Af,Ag,Ah,Ai,Aj,Ak,Al,An,Ao,Ap,Aq,Ar,Au,Av,Aw,Ax,Ay,Az,Ba,Bb], h⟩ k =
(loadV Try.prog 29 Ad h).bind fun t24_27 =>
(storeV Try.prog 29 Ac t24_27 h).bind fun h28 =>
k .ret ⟨#[Aa,Ab,Ac,Ad,Ae,Af,Ag,Ah,Ai,Aj,Ak,Al,An,Ao,Ap,Aq,Ar,Au,Av,Aw,Ax,Ay,Az,Ba, t24_27], h28⟩ := by kernel_rfl
theorem call118 (h : Heap) : evC Try.prog 118 #[Aa] h = codeK Try.prog (evC Try.prog) loopL c118_0 ⟨#[Aa, undef, undef, undef, undef, undef, undef, undef, undef, undef, undef, undef, undef, undef, undef, undef, undef, undef, undef, undef, undef, undef, undef, undef, undef], nm h⟩ (retK Try.f118 Try.prog h) :=
  (evC_call 118 Try.f118 c118_0 Try.func118 (by kernel_rfl) #[Aa] h).trans (by kernel_rfl)
theorem ret118 (h0 h : Heap) : retK Try.f118 Try.prog h0 .ret ⟨#[Aa,Ab,Ac,Ad,Ae,Af,Ag,Ah,Ai,Aj,Ak,Al,An,Ao,Ap,Aq,Ar,Au,Av,Aw,Ax,Ay,Az,Ba,Bb], h⟩ = fin h0 (rvals ((loadV Try.prog 29 Ac h).bind fun r0 => some [r0])) h := by kernel_rfl
theorem retn118 (h0 h : Heap) : retK Try.f118 Try.prog h0 .normal ⟨#[Aa,Ab,Ac,Ad,Ae,Af,Ag,Ah,Ai,Aj,Ak,Al,An,Ao,Ap,Aq,Ar,Au,Av,Aw,Ax,Ay,Az,Ba,Bb], h⟩ = fin h0 (rvals ((loadV Try.prog 29 Ac h).bind fun r0 => some [r0])) h := by kernel_rfl
end Go.Am
namespace Go.Am
open Go.Proofs
set_option maxRecDepth 100000
variable (Aa Ab Ac Ad Ae Af Ag Ah Ai Aj Ak Al An Ao Ap Aq Ar Au Av Aw Ax Ay Az Ba Bb Bc Bd Be Bf Bg Bh Bi Bj Bk Bl Bm Bn Bo Bp Bq Br Bs Bt Bu Bv Bw Bx By Bz Ca Cb Cc Cd Ce Cf Cg : Value)
noncomputable def c82_0 : Code := bodyC Try.f82 []
noncomputable def c82_1 : Code := bodyC Try.f82 [true, true, true, false, true, false, false]
noncomputable def c82_2 : Code := bodyC Try.f82 [true, true, true, true]
theorem c82_0_eq {β : Type} (h : Heap) (k : Ex → St → Option β) : codeK Try.prog (evC Try.prog) loopL c82_0 ⟨#[Aa,Ab,Ac,Ad,Ae,Af,Ag,Ah,Ai,Aj,Ak,Al,An,Ao,Ap,Aq,Ar,Au,Av,Aw,Ax,Ay,Az,Ba,Bb,Bc,Bd,Be,Bf,Bg,Bh,Bi,Bj,Bk,Bl,Bm,Bn,Bo,Bp,Bq,Br,Bs,Bt,Bu,Bv,Bw,Bx,By,Bz,Ca,Cb,Cc,Cd,Ce,Cf,Cg], h⟩ k =
obH (boxV Try.prog 29 Aa h) fun t3_0 h1 =>
obH (allocV Try.prog 29 h1) fun t6_2 h3 =>
(loadV Try.prog 29 t3_0 h3).bind fun t10_4 =>
obH (evC Try.prog 118 #[t10_4] h3) fun t11_5 h6 =>
obH (allocV Try.prog 29 h6) fun t7_7 h8 =>
(storeV Try.prog 29 t7_7 t11_5 h8).bind fun h9 =>
(loadV Try.prog 29 t3_0 h9).bind fun t12_10 =>
obH (evC Try.prog 77 #[t12_10] h9) fun t13_11 h12 =>
(unV Try.prog .not t13_11).bind fun t14_13 =>
(gd (wt t14_13 false) (binV Try.prog .lss 3 (.tmp 16) (.const (Go.Value.int Go.IntKind.i64 0)) (gdV (wt t14_13 false) Ab) (Go.Value.int Go.IntKind.i64 0))).bind fun t17_14 =>
(pickV t14_13 (Go.Value.bool Bool.true) t17_14).bind fun t18_15 =>
(gd (wt t18_15 false) (fieldAddrV Try.prog 29 t3_0 0)).bind fun t21_16 =>
(gd (wt t18_15 false) (loadV Try.prog 3 t21_16 h12)).bind fun t22_17 =>
(gd (wt t18_15 false) (binV Try.prog .geq 3 (.tmp 20) (.tmp 22) (gdV (wt t18_15 false) Ab) t22_17)).bind fun t23_18 =>
(pickV t18_15 (Go.Value.bool Bool.true) t23_18).bind fun t24_19 =>
cnd t24_19 (
(loadV Try.prog 29 t7_7 h12).bind fun t25_20 =>
(storeV Try.prog 29 t6_2 t25_20 h12).bind fun h21 =>
k .ret ⟨#[Aa,Ab,Ac, t3_0,Ae,Af, t6_2, t7_7,Ai,Aj, t10_4, t11_5, t12_10, t13_11, t14_13, t14_13, (gdV (wt t14_13 false) Ab), t17_14, t18_15, t18_15, (gdV (wt t18_15 false) Ab), t21_16, t22_17, t23_18, t24_19, t25_20,Bd,Be,Bf,Bg,Bh,Bi,Bj,Bk,Bl,Bm,Bn,Bo,Bp,Bq,Br,Bs,Bt,Bu,Bv,Bw,Bx,By,Bz,Ca,Cb,Cc,Cd,Ce,Cf,Cg], h21⟩) (
(fieldAddrV Try.prog 29 t7_7 1).bind fun t26_22 =>
(loadV Try.prog 27 t26_22 h12).bind fun t27_23 =>
(indexAddrV Try.prog 27 t27_23 Ab).bind fun t29_24 =>
(loadV Try.prog 53 t29_24 h12).bind fun t30_25 =>
(lenV Try.prog 53 t30_25 h12).bind fun t31_26 =>
loopK Try.prog (evC Try.prog) c82_1 ⟨#[Aa,Ab,Ac, t3_0,Ae,Af, t6_2, t7_7,Ai,Aj, t10_4, t11_5, t12_10, t13_11, t14_13, t14_13, (gdV (wt t14_13 false) Ab), t17_14, t18_15, t18_15, (gdV (wt t18_15 false) Ab), t21_16, t22_17, t23_18, t24_19,Bc, t26_22, t27_23,Ab, t29_24, t30_25, t31_26, (Go.Value.int Go.IntKind.i64 0),Bk,Bl,Bm,Bn,Bo,Bp,Bq,Br,Bs,Bt,Bu,Bv,Bw,Bx,By,Bz,Ca,Cb,Cc,Cd,Ce,Cf,Cg], h12⟩ (blockK 0 (seqK Try.prog (evC Try.prog) c82_2 k))) := by kernel_rfl
theorem c82_1_eq {β : Type} (h : Heap) (k : Ex → St → Option β) : codeK Try.prog (evC Try.prog) loopL c82_1 ⟨#[Aa,Ab,Ac,Ad,Ae,Af,Ag,Ah,Ai,Aj,Ak,Al,An,Ao,Ap,Aq,Ar,Au,Av,Aw,Ax,Ay,Az,Ba,Bb,Bc,Bd,Be,Bf,Bg,Bh,Bi,Bj,Bk,Bl,Bm,Bn,Bo,Bp,Bq,Br,Bs,Bt,Bu,Bv,Bw,Bx,By,Bz,Ca,Cb,Cc,Cd,Ce,Cf,Cg], h⟩ k =
(binV Try.prog .lss 3 (.tmp 32) (.tmp 31) Bj Bi).bind fun t33_27 =>
cnd t33_27 (
(indexAddrV Try.prog 53 Bh Bj).bind fun t35_28 =>
(loadV Try.prog 46 t35_28 h).bind fun t36_29 =>
obH (evC Try.prog 112 #[Ac,Bj] h) fun t39_30 h31 =>
(gd (wt t39_30 true) (binV Try.prog .lss 46 (.tmp 41) (.const (Go.Value.int Go.IntKind.u64 18446744073709551615)) (gdV (wt t39_30 true) t36_29) (Go.Value.int Go.IntKind.u64 18446744073709551615))).bind fun t42_32 =>
(pickV t39_30 t42_32 (Go.Value.bool Bool.false)).bind fun t43_33 =>
cnd t43_33 (
(fieldAddrV Try.prog 29 Ah 1).bind fun t44_34 =>
(loadV Try.prog 27 t44_34 h31).bind fun t45_35 =>
(indexAddrV Try.prog 27 t45_35 Ab).bind fun t47_36 =>
(loadV Try.prog 53 t47_36 h31).bind fun t48_37 =>
(indexAddrV Try.prog 53 t48_37 Bj).bind fun t50_38 =>
(loadV Try.prog 46 t50_38 h31).bind fun t51_39 =>
(binV Try.prog .add 46 (.tmp 51) (.const (Go.Value.int Go.IntKind.u64 1)) t51_39 (Go.Value.int Go.IntKind.u64 1)).bind fun t52_40 =>
(indexAddrV Try.prog 53 t48_37 Bj).bind fun t53_41 =>
(storeV Try.prog 46 t53_41 t52_40 h31).bind fun h42 =>
(binV Try.prog .add 3 (.tmp 32) (.const (Go.Value.int Go.IntKind.i64 1)) Bj (Go.Value.int Go.IntKind.i64 1)).bind fun t54_43 =>
k .normal ⟨#[Aa,Ab,Ac,Ad,Ae,Af,Ag,Ah,Bj, t36_29,Ak,Al,An,Ao,Ap,Aq,Ar,Au,Av,Aw,Ax,Ay,Az,Ba,Bb,Bc,Bd,Be,Bf,Bg,Bh,Bi, t54_43, t33_27,Bj, t35_28, t36_29,Ac,Bj, t39_30, t39_30, (gdV (wt t39_30 true) t36_29), t42_32, t43_33, t44_34, t45_35,Ab, t47_36, t48_37,Bj, t50_38, t51_39, t52_40, t53_41, t54_43,Cg], h42⟩) (
(binV Try.prog .add 3 (.tmp 32) (.const (Go.Value.int Go.IntKind.i64 1)) Bj (Go.Value.int Go.IntKind.i64 1)).bind fun t54_44 =>
k .normal ⟨#[Aa,Ab,Ac,Ad,Ae,Af,Ag,Ah,Bj, t36_29,Ak,Al,An,Ao,Ap,Aq,Ar,Au,Av,Aw,Ax,Ay,Az,Ba,Bb,Bc,Bd,Be,Bf,Bg,Bh,Bi, t54_44, t33_27,Bj, t35_28, t36_29,Ac,Bj, t39_30, t39_30, (gdV (wt t39_30 true) t36_29), t42_32, t43_33,Bv,Bw,Bx,By,Bz,Ca,Cb,Cc,Cd,Ce, t54_44,Cg], h31⟩)) (
k (.exit 0) ⟨#[Aa,Ab,Ac,Ad,Ae,Af,Ag,Ah,Ai,Aj,Ak,Al,An,Ao,Ap,Aq,Ar,Au,Av,Aw,Ax,Ay,Az,Ba,Bb,Bc,Bd,Be,Bf,Bg,Bh,Bi,Bj, t33_27,Bl,Bm,Bn,Bo,Bp,Bq,Br,Bs,Bt,Bu,Bv,Bw,Bx,By,Bz,Ca,Cb,Cc,Cd,Ce,Cf,Cg], h⟩) := by kernel_rfl
theorem c82_2_eq {β : Type} (h : Heap) (k : Ex → St → Option β) : codeK Try.prog (evC Try.prog) loopL c82_2 ⟨#[Aa,Ab,Ac,Ad,Ae,Af,Ag,Ah,Ai,Aj,Ak,Al,An,Ao,Ap,Aq,Ar,Au,Av,Aw,Ax,Ay,Az,Ba,Bb,Bc,Bd,Be,Bf,Bg,Bh,Bi,Bj,Bk,Bl,Bm,Bn,Bo,Bp,Bq,Br,Bs,Bt,Bu,Bv,Bw,Bx,By,Bz,Ca,Cb,Cc,Cd,Ce,Cf,Cg], h⟩ k =
(loadV Try.prog 29 Ah h).bind fun t55_45 =>
(storeV Try.prog 29 Ag t55_45 h).bind fun h46 =>
k .ret ⟨#[Aa,Ab,Ac,Ad,Ae,Af,Ag,Ah,Ai,Aj,Ak,Al,An,Ao,Ap,Aq,Ar,Au,Av,Aw,Ax,Ay,Az,Ba,Bb,Bc,Bd,Be,Bf,Bg,Bh,Bi,Bj,Bk,Bl,Bm,Bn,Bo,Bp,Bq,Br,Bs,Bt,Bu,Bv,Bw,Bx,By,Bz,Ca,Cb,Cc,Cd,Ce,Cf, t55_45], h46⟩ := by kernel_rfl
theorem call82 (h : Heap) : evC Try.prog 82 #[Aa,Ab,Ac] h = codeK Try.prog (evC Try.prog) loopL c82_0 ⟨#[Aa,Ab,Ac, undef, undef, undef, undef, undef, undef, undef, undef, undef, undef, undef, undef, undef, undef, undef, undef, undef, undef, undef, undef, undef, undef, undef, undef, undef, undef, undef, undef, undef, undef, undef, undef, undef, undef, undef, undef, undef, undef, undef, undef, undef, undef, undef, undef, undef, undef, undef, undef, undef, undef, undef, undef, undef], nm h⟩ (retK Try.f82 Try.prog h) :=
  (evC_call 82 Try.f82 c82_0 Try.func82 (by kernel_rfl) #[Aa,Ab,Ac] h).trans (by kernel_rfl)
theorem ret82 (h0 h : Heap) : retK Try.f82 Try.prog h0 .ret ⟨#[Aa,Ab,Ac,Ad,Ae,Af,Ag,Ah,Ai,Aj,Ak,Al,An,Ao,Ap,Aq,Ar,Au,Av,Aw,Ax,Ay,Az,Ba,Bb,Bc,Bd,Be,Bf,Bg,Bh,Bi,Bj,Bk,Bl,Bm,Bn,Bo,Bp,Bq,Br,Bs,Bt,Bu,Bv,Bw,Bx,By,Bz,Ca,Cb,Cc,Cd,Ce,Cf,Cg], h⟩ = fin h0 (rvals ((loadV Try.prog 29 Ag h).bind fun r0 => some [r0])) h := by kernel_rfl
theorem retn82 (h0 h : Heap) : retK Try.f82 Try.prog h0 .normal ⟨#[Aa,Ab,Ac,Ad,Ae,Af,Ag,Ah,Ai,Aj,Ak,Al,An,Ao,Ap,Aq,Ar,Au,Av,Aw,Ax,Ay,Az,Ba,Bb,Bc,Bd,Be,Bf,Bg,Bh,Bi,Bj,Bk,Bl,Bm,Bn,Bo,Bp,Bq,Br,Bs,Bt,Bu,Bv,Bw,Bx,By,Bz,Ca,Cb,Cc,Cd,Ce,Cf,Cg], h⟩ = fin h0 (rvals ((loadV Try.prog 29 Ag h).bind fun r0 => some [r0])) h := by kernel_rfl
end Go.Am
namespace Go.Am
open Go.Proofs
set_option maxRecDepth 100000
variable (Aa Ab Ac Ad Ae Af Ag Ah Ai Aj Ak Al An Ao Ap Aq Ar Au Av Aw Ax Ay Az Ba Bb Bc Bd Be Bf Bg Bh Bi Bj Bk Bl Bm Bn Bo Bp Bq Br Bs Bt Bu Bv Bw Bx By Bz Ca : Value)
noncomputable def c84_0 : Code := bodyC Try.f84 []
noncomputable def c84_1 : Code := bodyC Try.f84 [true, true, true, false, true, false, false]
noncomputable def c84_2 : Code := bodyC Try.f84 [true, true, true, true]
theorem c84_0_eq {β : Type} (h : Heap) (k : Ex → St → Option β) : codeK Try.prog (evC Try.prog) loopL c84_0 ⟨#[Aa,Ab,Ac,Ad,Ae,Af,Ag,Ah,Ai,Aj,Ak,Al,An,Ao,Ap,Aq,Ar,Au,Av,Aw,Ax,Ay,Az,Ba,Bb,Bc,Bd,Be,Bf,Bg,Bh,Bi,Bj,Bk,Bl,Bm,Bn,Bo,Bp,Bq,Br,Bs,Bt,Bu,Bv,Bw,Bx,By,Bz,Ca], h⟩ k =
obH (boxV Try.prog 29 Aa h) fun t2_0 h1 =>
obH (boxV Try.prog 29 Ab h1) fun t3_2 h3 =>
obH (allocV Try.prog 29 h3) fun t4_4 h5 =>
(loadV Try.prog 29 t2_0 h5).bind fun t9_6 =>
obH (evC Try.prog 77 #[t9_6] h5) fun t10_7 h8 =>
(unV Try.prog .not t10_7).bind fun t11_9 =>
(gd (wt t11_9 false) (loadV Try.prog 29 t3_2 h8)).bind fun t13_10 =>
obH (gdH (wt t11_9 false) h8 (evC Try.prog 77 #[t13_10] h8)) fun t14_11 h12 =>
(gd (wt t11_9 false) (unV Try.prog .not t14_11)).bind fun t15_13 =>
(pickV t11_9 (Go.Value.bool Bool.true) t15_13).bind fun t16_14 =>
(gd (wt t16_14 false) (fieldAddrV Try.prog 29 t2_0 0)).bind fun t18_15 =>
(gd (wt t16_14 false) (loadV Try.prog 3 t18_15 h12)).bind fun t19_16 =>
(gd (wt t16_14 false) (fieldAddrV Try.prog 29 t3_2 0)).bind fun t20_17 =>
(gd (wt t16_14 false) (loadV Try.prog 3 t20_17 h12)).bind fun t21_18 =>
(gd (wt t16_14 false) (binV Try.prog .neq 3 (.tmp 19) (.tmp 21) t19_16 t21_18)).bind fun t22_19 =>
(pickV t16_14 (Go.Value.bool Bool.true) t22_19).bind fun t23_20 =>
cnd t23_20 (
(buildV Try.prog 29 #[]).bind fun t24_21 =>
(storeV Try.prog 29 t4_4 t24_21 h12).bind fun h22 =>
k .ret ⟨#[Aa,Ab, t2_0, t3_2, t4_4, (Go.Value.int Go.IntKind.i64 1),Ag,Ah,Ai, t9_6, t10_7, t11_9, t11_9, t13_10, t14_11, t15_13, t16_14, t16_14, t18_15, t19_16, t20_17, t21_18, t22_19, t23_20, t24_21,Bc,Bd,Be,Bf,Bg,Bh,Bi,Bj,Bk,Bl,Bm,Bn,Bo,Bp,Bq,Br,Bs,Bt,Bu,Bv,Bw,Bx,By,Bz,Ca], h22⟩) (
(fieldAddrV Try.prog 29 t2_0 0).bind fun t25_23 =>
(loadV Try.prog 3 t25_23 h12).bind fun t26_24 =>
(buildV Try.prog 29 #[(0, t26_24)]).bind fun t27_25 =>
obH (allocV Try.prog 29 h12) fun t6_26 h27 =>
(storeV Try.prog 29 t6_26 t27_25 h27).bind fun h28 =>
(fieldAddrV Try.prog 29 t2_0 1).bind fun t28_29 =>
(loadV Try.prog 27 t28_29 h28).bind fun t29_30 =>
(lenV Try.prog 27 t29_30 h28).bind fun t30_31 =>
loopK Try.prog (evC Try.prog) c84_1 ⟨#[Aa,Ab, t2_0, t3_2, t4_4, (Go.Value.int Go.IntKind.i64 0), t6_26,Ah,Ai, t9_6, t10_7, t11_9, t11_9, t13_10, t14_11, t15_13, t16_14, t16_14, t18_15, t19_16, t20_17, t21_18, t22_19, t23_20,Bb, t25_23, t26_24, t27_25, t28_29, t29_30, t30_31, (Go.Value.int Go.IntKind.i64 0),Bj,Bk,Bl,Bm,Bn,Bo,Bp,Bq,Br,Bs,Bt,Bu,Bv,Bw,Bx,By,Bz,Ca], h28⟩ (blockK 0 (seqK Try.prog (evC Try.prog) c84_2 k))) := by kernel_rfl
theorem c84_1_eq {β : Type} (h : Heap) (k : Ex → St → Option β) : codeK Try.prog (evC Try.prog) loopL c84_1 ⟨#[Aa,Ab,Ac,Ad,Ae,Af,Ag,Ah,Ai,Aj,Ak,Al,An,Ao,Ap,Aq,Ar,Au,Av,Aw,Ax,Ay,Az,Ba,Bb,Bc,Bd,Be,Bf,Bg,Bh,Bi,Bj,Bk,Bl,Bm,Bn,Bo,Bp,Bq,Br,Bs,Bt,Bu,Bv,Bw,Bx,By,Bz,Ca], h⟩ k =
(binV Try.prog .lss 3 (.tmp 31) (.tmp 30) Bi Bh).bind fun t32_32 =>
cnd t32_32 (
(indexAddrV Try.prog 27 Bg Bi).bind fun t34_33 =>
(loadV Try.prog 53 t34_33 h).bind fun t35_34 =>
(fieldAddrV Try.prog 29 Ag 1).bind fun t36_35 =>
(loadV Try.prog 27 t36_35 h).bind fun t37_36 =>
(fieldAddrV Try.prog 29 Ad 1).bind fun t39_37 =>
(loadV Try.prog 27 t39_37 h).bind fun t40_38 =>
(indexAddrV Try.prog 27 t40_38 Bi).bind fun t42_39 =>
(loadV Try.prog 53 t42_39 h).bind fun t43_40 =>
obH (evC Try.prog 120 #[t35_34, t43_40] (nm h)) fun t44_41 h42 =>
obH (buildSliceV Try.prog 27 1 #[(0, t44_41)] (am h42 h)) fun t45_43 h44 =>
obH (appendV Try.prog 27 (some 27) t37_36 t45_43 h44) fun t46_45 h46 =>
(fieldAddrV Try.prog 29 Ag 1).bind fun t47_47 =>
(storeV Try.prog 27 t47_47 t46_45 h46).bind fun h48 =>
chk ((rb t36_35) ++ []) (h42.mods ++ []) (
(binV Try.prog .add 3 (.tmp 31) (.const (Go.Value.int Go.IntKind.i64 1)) Bi (Go.Value.int Go.IntKind.i64 1)).bind fun t48_49 =>
k .normal ⟨#[Aa,Ab,Ac,Ad,Ae,Af,Ag,Bi, t35_34,Aj,Ak,Al,An,Ao,Ap,Aq,Ar,Au,Av,Aw,Ax,Ay,Az,Ba,Bb,Bc,Bd,Be,Bf,Bg,Bh, t48_49, t32_32,Bi, t34_33, t35_34, t36_35, t37_36, t35_34, t39_37, t40_38,Bi, t42_39, t43_40, t44_41, t45_43, t46_45, t47_47, t48_49,Ca], h48⟩)) (
k (.exit 0) ⟨#[Aa,Ab,Ac,Ad,Ae,Af,Ag,Ah,Ai,Aj,Ak,Al,An,Ao,Ap,Aq,Ar,Au,Av,Aw,Ax,Ay,Az,Ba,Bb,Bc,Bd,Be,Bf,Bg,Bh,Bi, t32_32,Bk,Bl,Bm,Bn,Bo,Bp,Bq,Br,Bs,Bt,Bu,Bv,Bw,Bx,By,Bz,Ca], h⟩) := by kernel_rfl
theorem c84_2_eq {β : Type} (h : Heap) (k : Ex → St → Option β) : codeK Try.prog (evC Try.prog) loopL c84_2 ⟨#[Aa,Ab,Ac,Ad,Ae,Af,Ag,Ah,Ai,Aj,Ak,Al,An,Ao,Ap,Aq,Ar,Au,Av,Aw,Ax,Ay,Az,Ba,Bb,Bc,Bd,Be,Bf,Bg,Bh,Bi,Bj,Bk,Bl,Bm,Bn,Bo,Bp,Bq,Br,Bs,Bt,Bu,Bv,Bw,Bx,By,Bz,Ca], h⟩ k =
(loadV Try.prog 29 Ag h).bind fun t49_50 =>
(storeV Try.prog 29 Ae t49_50 h).bind fun h51 =>
k .ret ⟨#[Aa,Ab,Ac,Ad,Ae, (Go.Value.int Go.IntKind.i64 0),Ag,Ah,Ai,Aj,Ak,Al,An,Ao,Ap,Aq,Ar,Au,Av,Aw,Ax,Ay,Az,Ba,Bb,Bc,Bd,Be,Bf,Bg,Bh,Bi,Bj,Bk,Bl,Bm,Bn,Bo,Bp,Bq,Br,Bs,Bt,Bu,Bv,Bw,Bx,By,Bz, t49_50], h51⟩ := by kernel_rfl
theorem call84 (h : Heap) : evC Try.prog 84 #[Aa,Ab] h = codeK Try.prog (evC Try.prog) loopL c84_0 ⟨#[Aa,Ab, undef, undef, undef, undef, undef, undef, undef, undef, undef, undef, undef, undef, undef, undef, undef, undef, undef, undef, undef, undef, undef, undef, undef, undef, undef, undef, undef, undef, undef, undef, undef, undef, undef, undef, undef, undef, undef, undef, undef, undef, undef, undef, undef, undef, undef, undef, undef, undef], nm h⟩ (retK Try.f84 Try.prog h) :=
  (evC_call 84 Try.f84 c84_0 Try.func84 (by kernel_rfl) #[Aa,Ab] h).trans (by kernel_rfl)
theorem ret84 (h0 h : Heap) : retK Try.f84 Try.prog h0 .ret ⟨#[Aa,Ab,Ac,Ad,Ae,Af,Ag,Ah,Ai,Aj,Ak,Al,An,Ao,Ap,Aq,Ar,Au,Av,Aw,Ax,Ay,Az,Ba,Bb,Bc,Bd,Be,Bf,Bg,Bh,Bi,Bj,Bk,Bl,Bm,Bn,Bo,Bp,Bq,Br,Bs,Bt,Bu,Bv,Bw,Bx,By,Bz,Ca], h⟩ = fin h0 (rvals ((loadV Try.prog 29 Ae h).bind fun r0 => some [r0,Af])) h := by kernel_rfl
theorem retn84 (h0 h : Heap) : retK Try.f84 Try.prog h0 .normal ⟨#[Aa,Ab,Ac,Ad,Ae,Af,Ag,Ah,Ai,Aj,Ak,Al,An,Ao,Ap,Aq,Ar,Au,Av,Aw,Ax,Ay,Az,Ba,Bb,Bc,Bd,Be,Bf,Bg,Bh,Bi,Bj,Bk,Bl,Bm,Bn,Bo,Bp,Bq,Br,Bs,Bt,Bu,Bv,Bw,Bx,By,Bz,Ca], h⟩ = fin h0 (rvals ((loadV Try.prog 29 Ae h).bind fun r0 => some [r0,Af])) h := by kernel_rfl
end Go.Am
namespace Go.Am
open Go.Proofs
set_option maxRecDepth 100000
variable (Aa Ab Ac Ad Ae Af Ag Ah Ai Aj Ak Al An Ao Ap Aq Ar Au Av Aw Ax Ay Az Ba Bb Bc Bd Be Bf Bg Bh Bi Bj Bk Bl Bm Bn : Value)
noncomputable def c85_0 : Code := bodyC Try.f85 []
noncomputable def c85_1 : Code := bodyC Try.f85 [true, true, true, false, true, false, false]
noncomputable def c85_2 : Code := bodyC Try.f85 [true, true, true, true]
theorem c85_0_eq {β : Type} (h : Heap) (k : Ex → St → Option β) : codeK Try.prog (evC Try.prog) loopL c85_0 ⟨#[Aa,Ab,Ac,Ad,Ae,Af,Ag,Ah,Ai,Aj,Ak,Al,An,Ao,Ap,Aq,Ar,Au,Av,Aw,Ax,Ay,Az,Ba,Bb,Bc,Bd,Be,Bf,Bg,Bh,Bi,Bj,Bk,Bl,Bm,Bn], h⟩ k =
obH (boxV Try.prog 29 Aa h) fun t2_0 h1 =>
(loadV Try.prog 29 t2_0 h1).bind fun t8_2 =>
obH (evC Try.prog 77 #[t8_2] h1) fun t9_3 h4 =>
(unV Try.prog .not t9_3).bind fun t10_5 =>
(gd (wt t10_5 false) (binV Try.prog .lss 3 (.tmp 12) (.const (Go.Value.int Go.IntKind.i64 0)) (gdV (wt t10_5 false) Ab) (Go.Value.int Go.IntKind.i64 0))).bind fun t13_6 =>
(pickV t10_5 (Go.Value.bool Bool.true) t13_6).bind fun t14_7 =>
(gd (wt t14_7 false) (fieldAddrV Try.prog 29 t2_0 0)).bind fun t17_8 =>
(gd (wt t14_7 false) (loadV Try.prog 3 t17_8 h4)).bind fun t18_9 =>
(gd (wt t14_7 false) (binV Try.prog .geq 3 (.tmp 16) (.tmp 18) (gdV (wt t14_7 false) Ab) t18_9)).bind fun t19_10 =>
(pickV t14_7 (Go.Value.bool Bool.true) t19_10).bind fun t20_11 =>
cnd t20_11 (
k .ret ⟨#[Aa,Ab, t2_0,Ad, (Go.Value.slice Option.none 0 0),Af,Ag,Ah, t8_2, t9_3, t10_5, t10_5, (gdV (wt t10_5 false) Ab), t13_6, t14_7, t14_7, (gdV (wt t14_7 false) Ab), t17_8, t18_9, t19_10, t20_11,Ay,Az,Ba,Bb,Bc,Bd,Be,Bf,Bg,Bh,Bi,Bj,Bk,Bl,Bm,Bn], h4⟩) (
(fieldAddrV Try.prog 29 t2_0 1).bind fun t21_12 =>
(loadV Try.prog 27 t21_12 h4).bind fun t22_13 =>
(lenV Try.prog 27 t22_13 h4).bind fun t23_14 =>
loopK Try.prog (evC Try.prog) c85_1 ⟨#[Aa,Ab, t2_0,Ad, (Go.Value.slice Option.none 0 0), (Go.Value.slice Option.none 0 0),Ag,Ah, t8_2, t9_3, t10_5, t10_5, (gdV (wt t10_5 false) Ab), t13_6, t14_7, t14_7, (gdV (wt t14_7 false) Ab), t17_8, t18_9, t19_10, t20_11, t21_12, t22_13, t23_14, (Go.Value.int Go.IntKind.i64 0),Bc,Bd,Be,Bf,Bg,Bh,Bi,Bj,Bk,Bl,Bm,Bn], h4⟩ (blockK 0 (seqK Try.prog (evC Try.prog) c85_2 k))) := by kernel_rfl
theorem c85_1_eq {β : Type} (h : Heap) (k : Ex → St → Option β) : codeK Try.prog (evC Try.prog) loopL c85_1 ⟨#[Aa,Ab,Ac,Ad,Ae,Af,Ag,Ah,Ai,Aj,Ak,Al,An,Ao,Ap,Aq,Ar,Au,Av,Aw,Ax,Ay,Az,Ba,Bb,Bc,Bd,Be,Bf,Bg,Bh,Bi,Bj,Bk,Bl,Bm,Bn], h⟩ k =
(binV Try.prog .lss 3 (.tmp 24) (.tmp 23) Bb Ba).bind fun t25_15 =>
cnd t25_15 (
(indexAddrV Try.prog 27 Az Bb).bind fun t26_16 =>
(loadV Try.prog 53 t26_16 h).bind fun t27_17 =>
(indexAddrV Try.prog 53 t27_17 Ab).bind fun t31_18 =>
(loadV Try.prog 46 t31_18 h).bind fun t32_19 =>
obH (buildSliceV Try.prog 53 1 #[(0, t32_19)] h) fun t33_20 h21 =>
obH (appendV Try.prog 53 (some 53) Af t33_20 h21) fun t34_22 h23 =>
(binV Try.prog .add 3 (.tmp 24) (.const (Go.Value.int Go.IntKind.i64 1)) Bb (Go.Value.int Go.IntKind.i64 1)).bind fun t35_24 =>
k .normal ⟨#[Aa,Ab,Ac,Ad,Ae, t34_22,Ag, t27_17,Ai,Aj,Ak,Al,An,Ao,Ap,Aq,Ar,Au,Av,Aw,Ax,Ay,Az,Ba, t35_24, t25_15, t26_16, t27_17,Af, t27_17,Ab, t31_18, t32_19, t33_20, t34_22, t35_24,Bn], h23⟩) (
k (.exit 0) ⟨#[Aa,Ab,Ac,Ad,Ae,Af,Ag,Ah,Ai,Aj,Ak,Al,An,Ao,Ap,Aq,Ar,Au,Av,Aw,Ax,Ay,Az,Ba,Bb, t25_15,Bd,Be,Bf,Bg,Bh,Bi,Bj,Bk,Bl,Bm,Bn], h⟩) := by kernel_rfl
theorem c85_2_eq {β : Type} (h : Heap) (k : Ex → St → Option β) : codeK Try.prog (evC Try.prog) loopL c85_2 ⟨#[Aa,Ab,Ac,Ad,Ae,Af,Ag,Ah,Ai,Aj,Ak,Al,An,Ao,Ap,Aq,Ar,Au,Av,Aw,Ax,Ay,Az,Ba,Bb,Bc,Bd,Be,Bf,Bg,Bh,Bi,Bj,Bk,Bl,Bm,Bn], h⟩ k =
k .ret ⟨#[Aa,Ab,Ac,Ad,Af,Af,Ag,Ah,Ai,Aj,Ak,Al,An,Ao,Ap,Aq,Ar,Au,Av,Aw,Ax,Ay,Az,Ba,Bb,Bc,Bd,Be,Bf,Bg,Bh,Bi,Bj,Bk,Bl,Bm,Af], h⟩ := by kernel_rfl
theorem call85 (h : Heap) : evC Try.prog 85 #[Aa,Ab] h = codeK Try.prog (evC Try.prog) loopL c85_0 ⟨#[Aa,Ab, undef, undef, undef, undef, undef, undef, undef, undef, undef, undef, undef, undef, undef, undef, undef, undef, undef, undef, undef, undef, undef, undef, undef, undef, undef, undef, undef, undef, undef, undef, undef, undef, undef, undef, undef], nm h⟩ (retK Try.f85 Try.prog h) :=
  (evC_call 85 Try.f85 c85_0 Try.func85 (by kernel_rfl) #[Aa,Ab] h).trans (by kernel_rfl)
theorem ret85 (h0 h : Heap) : retK Try.f85 Try.prog h0 .ret ⟨#[Aa,Ab,Ac,Ad,Ae,Af,Ag,Ah,Ai,Aj,Ak,Al,An,Ao,Ap,Aq,Ar,Au,Av,Aw,Ax,Ay,Az,Ba,Bb,Bc,Bd,Be,Bf,Bg,Bh,Bi,Bj,Bk,Bl,Bm,Bn], h⟩ = fin h0 (some Ae) h := by kernel_rfl
theorem retn85 (h0 h : Heap) : retK Try.f85 Try.prog h0 .normal ⟨#[Aa,Ab,Ac,Ad,Ae,Af,Ag,Ah,Ai,Aj,Ak,Al,An,Ao,Ap,Aq,Ar,Au,Av,Aw,Ax,Ay,Az,Ba,Bb,Bc,Bd,Be,Bf,Bg,Bh,Bi,Bj,Bk,Bl,Bm,Bn], h⟩ = fin h0 (some Ae) h := by kernel_rfl
end Go.Am
namespace Go.Am
open Go.Proofs
set_option maxRecDepth 100000
variable (Aa Ab Ac Ad Ae Af Ag Ah Ai Aj Ak Al An Ao Ap Aq Ar Au Av Aw Ax Ay Az Ba Bb Bc Bd Be Bf Bg Bh Bi Bj Bk Bl Bm Bn Bo Bp Bq Br Bs Bt Bu Bv : Value)
noncomputable def c40_0 : Code := bodyC Try.f40 []
noncomputable def c40_1 : Code := bodyC Try.f40 [true, true, false, true, false, false]
noncomputable def c40_2 : Code := bodyC Try.f40 [true, true, true]
theorem c40_0_eq {β : Type} (h : Heap) (k : Ex → St → Option β) : codeK Try.prog (evC Try.prog) loopL c40_0 ⟨#[Aa,Ab,Ac,Ad,Ae,Af,Ag,Ah,Ai,Aj,Ak,Al,An,Ao,Ap,Aq,Ar,Au,Av,Aw,Ax,Ay,Az,Ba,Bb,Bc,Bd,Be,Bf,Bg,Bh,Bi,Bj,Bk,Bl,Bm,Bn,Bo,Bp,Bq,Br,Bs,Bt,Bu,Bv], h⟩ k =
obH (boxV Try.prog 29 Aa h) fun t2_0 h1 =>
obH (boxV Try.prog 29 Ab h1) fun t3_2 h3 =>
(loadV Try.prog 29 t2_0 h3).bind fun t8_4 =>
obH (evC Try.prog 77 #[t8_4] h3) fun t9_5 h6 =>
(unV Try.prog .not t9_5).bind fun t10_7 =>
(gd (wt t10_7 false) (loadV Try.prog 29 t3_2 h6)).bind fun t12_8 =>
obH (gdH (wt t10_7 false) h6 (evC Try.prog 77 #[t12_8] h6)) fun t13_9 h10 =>
(gd (wt t10_7 false) (unV Try.prog .not t13_9)).bind fun t14_11 =>
(pickV t10_7 (Go.Value.bool Bool.true) t14_11).bind fun t15_12 =>
(gd (wt t15_12 false) (fieldAddrV Try.prog 29 t2_0 0)).bind fun t17_13 =>
(gd (wt t15_12 false) (loadV Try.prog 3 t17_13 h10)).bind fun t18_14 =>
(gd (wt t15_12 false) (fieldAddrV Try.prog 29 t3_2 0)).bind fun t19_15 =>
(gd (wt t15_12 false) (loadV Try.prog 3 t19_15 h10)).bind fun t20_16 =>
(gd (wt t15_12 false) (binV Try.prog .neq 3 (.tmp 18) (.tmp 20) t18_14 t20_16)).bind fun t21_17 =>
(pickV t15_12 (Go.Value.bool Bool.true) t21_17).bind fun t22_18 =>
cnd t22_18 (
k .ret ⟨#[Aa,Ab, t2_0, t3_2, (Go.Value.bool Bool.false),Af,Ag,Ah, t8_4, t9_5, t10_7, t10_7, t12_8, t13_9, t14_11, t15_12, t15_12, t17_13, t18_14, t19_15, t20_16, t21_17, t22_18,Ba,Bb,Bc,Bd,Be,Bf,Bg,Bh,Bi,Bj,Bk,Bl,Bm,Bn,Bo,Bp,Bq,Br,Bs,Bt,Bu,Bv], h10⟩) (
(fieldAddrV Try.prog 29 t2_0 1).bind fun t23_19 =>
(loadV Try.prog 27 t23_19 h10).bind fun t24_20 =>
(lenV Try.prog 27 t24_20 h10).bind fun t25_21 =>
loopK Try.prog (evC Try.prog) c40_1 ⟨#[Aa,Ab, t2_0, t3_2, (Go.Value.bool Bool.false),Af,Ag,Ah, t8_4, t9_5, t10_7, t10_7, t12_8, t13_9, t14_11, t15_12, t15_12, t17_13, t18_14, t19_15, t20_16, t21_17, t22_18, t23_19, t24_20, t25_21, (Go.Value.int Go.IntKind.i64 0),Be,Bf,Bg,Bh,Bi,Bj,Bk,Bl,Bm,Bn,Bo,Bp,Bq,Br,Bs,Bt,Bu,Bv], h10⟩ (blockK 0 (seqK Try.prog (evC Try.prog) c40_2 k))) := by kernel_rfl
theorem c40_1_eq {β : Type} (h : Heap) (k : Ex → St → Option β) : codeK Try.prog (evC Try.prog) loopL c40_1 ⟨#[Aa,Ab,Ac,Ad,Ae,Af,Ag,Ah,Ai,Aj,Ak,Al,An,Ao,Ap,Aq,Ar,Au,Av,Aw,Ax,Ay,Az,Ba,Bb,Bc,Bd,Be,Bf,Bg,Bh,Bi,Bj,Bk,Bl,Bm,Bn,Bo,Bp,Bq,Br,Bs,Bt,Bu,Bv], h⟩ k =
(binV Try.prog .lss 3 (.tmp 26) (.tmp 25) Bd Bc).bind fun t27_22 =>
cnd t27_22 (
(indexAddrV Try.prog 27 Bb Bd).bind fun t29_23 =>
(loadV Try.prog 53 t29_23 h).bind fun t30_24 =>
(fieldAddrV Try.prog 29 Ad 1).bind fun t32_25 =>
(loadV Try.prog 27 t32_25 h).bind fun t33_26 =>
(indexAddrV Try.prog 27 t33_26 Bd).bind fun t35_27 =>
(loadV Try.prog 53 t35_27 h).bind fun t36_28 =>
obH (evC Try.prog 93 #[t30_24, t36_28] h) fun t37_29 h30 =>
(binV Try.prog .neq 3 (.tmp 38) (.const (Go.Value.int Go.IntKind.i64 0)) t37_29 (Go.Value.int Go.IntKind.i64 0)).bind fun t39_31 =>
(gd (wt t39_31 true) (binV Try.prog .neq 3 (.tmp 41) (.const (Go.Value.int Go.IntKind.i64 (-1))) (gdV (wt t39_31 true) t37_29) (Go.Value.int Go.IntKind.i64 (-1)))).bind fun t42_32 =>
(pickV t39_31 t42_32 (Go.Value.bool Bool.false)).bind fun t43_33 =>
cnd t43_33 (
k .ret ⟨#[Aa,Ab,Ac,Ad, (Go.Value.bool Bool.false),Bd, t30_24, t37_29,Ai,Aj,Ak,Al,An,Ao,Ap,Aq,Ar,Au,Av,Aw,Ax,Ay,Az,Ba,Bb,Bc,Bd, t27_22,Bd, t29_23, t30_24, t30_24, t32_25, t33_26,Bd, t35_27, t36_28, t37_29, t37_29, t39_31, t39_31, (gdV (wt t39_31 true) t37_29), t42_32, t43_33,Bv], h30⟩) (
(binV Try.prog .add 3 (.tmp 26) (.const (Go.Value.int Go.IntKind.i64 1)) Bd (Go.Value.int Go.IntKind.i64 1)).bind fun t44_34 =>
k .normal ⟨#[Aa,Ab,Ac,Ad,Ae,Bd, t30_24, t37_29,Ai,Aj,Ak,Al,An,Ao,Ap,Aq,Ar,Au,Av,Aw,Ax,Ay,Az,Ba,Bb,Bc, t44_34, t27_22,Bd, t29_23, t30_24, t30_24, t32_25, t33_26,Bd, t35_27, t36_28, t37_29, t37_29, t39_31, t39_31, (gdV (wt t39_31 true) t37_29), t42_32, t43_33, t44_34], h30⟩)) (
k (.exit 0) ⟨#[Aa,Ab,Ac,Ad,Ae,Af,Ag,Ah,Ai,Aj,Ak,Al,An,Ao,Ap,Aq,Ar,Au,Av,Aw,Ax,Ay,Az,Ba,Bb,Bc,Bd, t27_22,Bf,Bg,Bh,Bi,Bj,Bk,Bl,Bm,Bn,Bo,Bp,Bq,Br,Bs,Bt,Bu,Bv], h⟩) := by kernel_rfl
theorem c40_2_eq {β : Type} (h : Heap) (k : Ex → St → Option β) : codeK Try.prog (evC Try.prog) loopL c40_2 ⟨#[Aa,Ab,Ac,Ad,Ae,Af,Ag,Ah,Ai,Aj,Ak,Al,An,Ao,Ap,Aq,Ar,Au,Av,Aw,Ax,Ay,Az,Ba,Bb,Bc,Bd,Be,Bf,Bg,Bh,Bi,Bj,Bk,Bl,Bm,Bn,Bo,Bp,Bq,Br,Bs,Bt,Bu,Bv], h⟩ k =
k .ret ⟨#[Aa,Ab,Ac,Ad, (Go.Value.bool Bool.true),Af,Ag,Ah,Ai,Aj,Ak,Al,An,Ao,Ap,Aq,Ar,Au,Av,Aw,Ax,Ay,Az,Ba,Bb,Bc,Bd,Be,Bf,Bg,Bh,Bi,Bj,Bk,Bl,Bm,Bn,Bo,Bp,Bq,Br,Bs,Bt,Bu,Bv], h⟩ := by kernel_rfl
theorem call40 (h : Heap) : evC Try.prog 40 #[Aa,Ab] h = codeK Try.prog (evC Try.prog) loopL c40_0 ⟨#[Aa,Ab, undef, undef, undef, undef, undef, undef, undef, undef, undef, undef, undef, undef, undef, undef, undef, undef, undef, undef, undef, undef, undef, undef, undef, undef, undef, undef, undef, undef, undef, undef, undef, undef, undef, undef, undef, undef, undef, undef, undef, undef, undef, undef, undef], nm h⟩ (retK Try.f40 Try.prog h) :=
  (evC_call 40 Try.f40 c40_0 Try.func40 (by kernel_rfl) #[Aa,Ab] h).trans (by kernel_rfl)
theorem ret40 (h0 h : Heap) : retK Try.f40 Try.prog h0 .ret ⟨#[Aa,Ab,Ac,Ad,Ae,Af,Ag,Ah,Ai,Aj,Ak,Al,An,Ao,Ap,Aq,Ar,Au,Av,Aw,Ax,Ay,Az,Ba,Bb,Bc,Bd,Be,Bf,Bg,Bh,Bi,Bj,Bk,Bl,Bm,Bn,Bo,Bp,Bq,Br,Bs,Bt,Bu,Bv], h⟩ = fin h0 (some Ae) h := by kernel_rfl
theorem retn40 (h0 h : Heap) : retK Try.f40 Try.prog h0 .normal ⟨#[Aa,Ab,Ac,Ad,Ae,Af,Ag,Ah,Ai,Aj,Ak,Al,An,Ao,Ap,Aq,Ar,Au,Av,Aw,Ax,Ay,Az,Ba,Bb,Bc,Bd,Be,Bf,Bg,Bh,Bi,Bj,Bk,Bl,Bm,Bn,Bo,Bp,Bq,Br,Bs,Bt,Bu,Bv], h⟩ = fin h0 (some Ae) h := by kernel_rfl
end Go.Am
namespace Go.Am
open Go.Proofs
set_option maxRecDepth 100000
variable (Aa Ab Ac Ad Ae Af Ag Ah Ai Aj Ak Al An Ao Ap Aq Ar Au : Value)
noncomputable def c112_0 : Code := bodyC Try.f112 []
theorem c112_0_eq {β : Type} (h : Heap) (k : Ex → St → Option β) : codeK Try.prog (evC Try.prog) loopL c112_0 ⟨#[Aa,Ab,Ac,Ad,Ae,Af,Ag,Ah,Ai,Aj,Ak,Al,An,Ao,Ap,Aq,Ar,Au], h⟩ k =
(binV Try.prog .geq 3 (.tmp 5) (.const (Go.Value.int Go.IntKind.i64 0)) Ab (Go.Value.int Go.IntKind.i64 0)).bind fun t6_0 =>
(gd (wt t6_0 true) (binV Try.prog .lss 3 (.tmp 8) (.const (Go.Value.int Go.IntKind.i64 64)) (gdV (wt t6_0 true) Ab) (Go.Value.int Go.IntKind.i64 64))).bind fun t9_1 =>
(pickV t6_0 t9_1 (Go.Value.bool Bool.false)).bind fun t10_2 =>
(gd (wt t10_2 true) (binV Try.prog .shr 47 (.tmp 12) (.tmp 13) (gdV (wt t10_2 true) Aa) (gdV (wt t10_2 true) Ab))).bind fun t14_3 =>
(gd (wt t10_2 true) (binV Try.prog .and 47 (.tmp 14) (.const (Go.Value.int Go.IntKind.u64 1)) t14_3 (Go.Value.int Go.IntKind.u64 1))).bind fun t15_4 =>
(gd (wt t10_2 true) (binV Try.prog .eql 47 (.tmp 15) (.const (Go.Value.int Go.IntKind.u64 1)) t15_4 (Go.Value.int Go.IntKind.u64 1))).bind fun t16_5 =>
(pickV t10_2 t16_5 (Go.Value.bool Bool.false)).bind fun t17_6 =>
k .ret ⟨#[Aa,Ab,Ac,Ad, t17_6,Ab, t6_0, t6_0, (gdV (wt t6_0 true) Ab), t9_1, t10_2, t10_2, (gdV (wt t10_2 true) Aa), (gdV (wt t10_2 true) Ab), t14_3, t15_4, t16_5, t17_6], h⟩ := by kernel_rfl
theorem call112 (h : Heap) : evC Try.prog 112 #[Aa,Ab] h = codeK Try.prog (evC Try.prog) loopL c112_0 ⟨#[Aa,Ab, undef, undef, undef, undef, undef, undef, undef, undef, undef, undef, undef, undef, undef, undef, undef, undef], nm h⟩ (retK Try.f112 Try.prog h) :=
  (evC_call 112 Try.f112 c112_0 Try.func112 (by kernel_rfl) #[Aa,Ab] h).trans (by kernel_rfl)
theorem ret112 (h0 h : Heap) : retK Try.f112 Try.prog h0 .ret ⟨#[Aa,Ab,Ac,Ad,Ae,Af,Ag,Ah,Ai,Aj,Ak,Al,An,Ao,Ap,Aq,Ar,Au], h⟩ = fin h0 (some Ae) h := by kernel_rfl
theorem retn112 (h0 h : Heap) : retK Try.f112 Try.prog h0 .normal ⟨#[Aa,Ab,Ac,Ad,Ae,Af,Ag,Ah,Ai,Aj,Ak,Al,An,Ao,Ap,Aq,Ar,Au], h⟩ = fin h0 (some Ae) h := by kernel_rfl
end Go.Am
namespace Go.Am
open Go.Proofs
set_option maxRecDepth 100000
variable (Aa Ab Ac Ad Ae Af Ag Ah Ai Aj Ak Al An Ao Ap Aq Ar Au Av Aw Ax Ay Az Ba Bb Bc Bd Be Bf Bg : Value)
noncomputable def c26_0 : Code := bodyC Try.f26 []
noncomputable def c26_1 : Code := bodyC Try.f26 [true, true, false, true, false, false]
noncomputable def c26_2 : Code := bodyC Try.f26 [true, true, true]
theorem c26_0_eq {β : Type} (h : Heap) (k : Ex → St → Option β) : codeK Try.prog (evC Try.prog) loopL c26_0 ⟨#[Aa,Ab,Ac,Ad,Ae,Af,Ag,Ah,Ai,Aj,Ak,Al,An,Ao,Ap,Aq,Ar,Au,Av,Aw,Ax,Ay,Az,Ba,Bb,Bc,Bd,Be,Bf,Bg], h⟩ k =
(binV Try.prog .lss 3 (.tmp 6) (.const (Go.Value.int Go.IntKind.i64 1)) Aa (Go.Value.int Go.IntKind.i64 1)).bind fun t7_0 =>
(gd (wt t7_0 false) (binV Try.prog .gtr 3 (.tmp 9) (.const (Go.Value.int Go.IntKind.i64 16)) (gdV (wt t7_0 false) Aa) (Go.Value.int Go.IntKind.i64 16))).bind fun t10_1 =>
(pickV t7_0 (Go.Value.bool Bool.true) t10_1).bind fun t11_2 =>
(gd (wt t11_2 false) (lenV Try.prog 22 (gdV (wt t11_2 false) Ab) h)).bind fun t14_3 =>
(gd (wt t11_2 false) (binV Try.prog .neq 3 (.tmp 14) (.tmp 15) t14_3 (gdV (wt t11_2 false) Aa))).bind fun t16_4 =>
(pickV t11_2 (Go.Value.bool Bool.true) t16_4).bind fun t17_5 =>
cnd t17_5 (
k .ret ⟨#[Aa,Ab,Ac,Ad, (Go.Value.bool Bool.false),Af,Aa, t7_0, t7_0, (gdV (wt t7_0 false) Aa), t10_1, t11_2, t11_2, (gdV (wt t11_2 false) Ab), t14_3, (gdV (wt t11_2 false) Aa), t16_4, t17_5,Av,Aw,Ax,Ay,Az,Ba,Bb,Bc,Bd,Be,Bf,Bg], h⟩) (
loopK Try.prog (evC Try.prog) c26_1 ⟨#[Aa,Ab,Ac,Ad, (Go.Value.bool Bool.false), (Go.Value.int Go.IntKind.i64 0),Aa, t7_0, t7_0, (gdV (wt t7_0 false) Aa), t10_1, t11_2, t11_2, (gdV (wt t11_2 false) Ab), t14_3, (gdV (wt t11_2 false) Aa), t16_4, t17_5,Av,Aw,Ax,Ay,Az,Ba,Bb,Bc,Bd,Be,Bf,Bg], h⟩ (blockK 0 (seqK Try.prog (evC Try.prog) c26_2 k))) := by kernel_rfl
theorem c26_1_eq {β : Type} (h : Heap) (k : Ex → St → Option β) : codeK Try.prog (evC Try.prog) loopL c26_1 ⟨#[Aa,Ab,Ac,Ad,Ae,Af,Ag,Ah,Ai,Aj,Ak,Al,An,Ao,Ap,Aq,Ar,Au,Av,Aw,Ax,Ay,Az,Ba,Bb,Bc,Bd,Be,Bf,Bg], h⟩ k =
(binV Try.prog .lss 3 (.tmp 18) (.tmp 19) Af Aa).bind fun t20_6 =>
cnd t20_6 (
(indexAddrV Try.prog 22 Ab Af).bind fun t25_7 =>
(loadV Try.prog 52 t25_7 h).bind fun t26_8 =>
(lenV Try.prog 52 t26_8 h).bind fun t27_9 =>
(binV Try.prog .neq 3 (.tmp 27) (.tmp 28) t27_9 Aa).bind fun t29_10 =>
cnd t29_10 (
k .ret ⟨#[Aa,Ab,Ac,Ad, (Go.Value.bool Bool.false),Af,Ag,Ah,Ai,Aj,Ak,Al,An,Ao,Ap,Aq,Ar,Au,Af,Aa, t20_6,Ay,Az,Ab,Af, t25_7, t26_8, t27_9,Aa, t29_10], h⟩) (
(binV Try.prog .add 3 (.tmp 21) (.const (Go.Value.int Go.IntKind.i64 1)) Af (Go.Value.int Go.IntKind.i64 1)).bind fun t22_11 =>
k .normal ⟨#[Aa,Ab,Ac,Ad,Ae, t22_11,Ag,Ah,Ai,Aj,Ak,Al,An,Ao,Ap,Aq,Ar,Au,Af,Aa, t20_6,Af, t22_11,Ab,Af, t25_7, t26_8, t27_9,Aa, t29_10], h⟩)) (
k (.exit 0) ⟨#[Aa,Ab,Ac,Ad,Ae,Af,Ag,Ah,Ai,Aj,Ak,Al,An,Ao,Ap,Aq,Ar,Au,Af,Aa, t20_6,Ay,Az,Ba,Bb,Bc,Bd,Be,Bf,Bg], h⟩) := by kernel_rfl
theorem c26_2_eq {β : Type} (h : Heap) (k : Ex → St → Option β) : codeK Try.prog (evC Try.prog) loopL c26_2 ⟨#[Aa,Ab,Ac,Ad,Ae,Af,Ag,Ah,Ai,Aj,Ak,Al,An,Ao,Ap,Aq,Ar,Au,Av,Aw,Ax,Ay,Az,Ba,Bb,Bc,Bd,Be,Bf,Bg], h⟩ k =
k .ret ⟨#[Aa,Ab,Ac,Ad, (Go.Value.bool Bool.true),Af,Ag,Ah,Ai,Aj,Ak,Al,An,Ao,Ap,Aq,Ar,Au,Av,Aw,Ax,Ay,Az,Ba,Bb,Bc,Bd,Be,Bf,Bg], h⟩ := by kernel_rfl
theorem call26 (h : Heap) : evC Try.prog 26 #[Aa,Ab] h = codeK Try.prog (evC Try.prog) loopL c26_0 ⟨#[Aa,Ab, undef, undef, undef, undef, undef, undef, undef, undef, undef, undef, undef, undef, undef, undef, undef, undef, undef, undef, undef, undef, undef, undef, undef, undef, undef, undef, undef, undef], nm h⟩ (retK Try.f26 Try.prog h) :=
  (evC_call 26 Try.f26 c26_0 Try.func26 (by kernel_rfl) #[Aa,Ab] h).trans (by kernel_rfl)
theorem ret26 (h0 h : Heap) : retK Try.f26 Try.prog h0 .ret ⟨#[Aa,Ab,Ac,Ad,Ae,Af,Ag,Ah,Ai,Aj,Ak,Al,An,Ao,Ap,Aq,Ar,Au,Av,Aw,Ax,Ay,Az,Ba,Bb,Bc,Bd,Be,Bf,Bg], h⟩ = fin h0 (some Ae) h := by kernel_rfl
theorem retn26 (h0 h : Heap) : retK Try.f26 Try.prog h0 .normal ⟨#[Aa,Ab,Ac,Ad,Ae,Af,Ag,Ah,Ai,Aj,Ak,Al,An,Ao,Ap,Aq,Ar,Au,Av,Aw,Ax,Ay,Az,Ba,Bb,Bc,Bd,Be,Bf,Bg], h⟩ = fin h0 (some Ae) h := by kernel_rfl
end Go.Am
namespace Go.Am
open Go.Proofs
set_option maxRecDepth 100000
variable (Aa Ab Ac Ad Ae Af Ag Ah Ai Aj Ak Al An Ao Ap Aq Ar Au Av Aw Ax : Value)
noncomputable def c121_0 : Code := bodyC Try.f121 []
noncomputable def c121_1 : Code := bodyC Try.f121 [true, true, false, true, false, false]
noncomputable def c121_2 : Code := bodyC Try.f121 [true, true, true]
theorem c121_0_eq {β : Type} (h : Heap) (k : Ex → St → Option β) : codeK Try.prog (evC Try.prog) loopL c121_0 ⟨#[Aa,Ab,Ac,Ad,Ae,Af,Ag,Ah,Ai,Aj,Ak,Al,An,Ao,Ap,Aq,Ar,Au,Av,Aw,Ax], h⟩ k =
loopK Try.prog (evC Try.prog) c121_1 ⟨#[Aa,Ab, (Go.Value.slice Option.none 0 0), (Go.Value.slice Option.none 0 0), (Go.Value.int Go.IntKind.i64 0),Af,Ag,Ah,Ai,Aj,Ak,Al,An,Ao,Ap,Aq,Ar,Au,Av,Aw,Ax], h⟩ (blockK 0 (seqK Try.prog (evC Try.prog) c121_2 k)) := by kernel_rfl
theorem c121_1_eq {β : Type} (h : Heap) (k : Ex → St → Option β) : codeK Try.prog (evC Try.prog) loopL c121_1 ⟨#[Aa,Ab,Ac,Ad,Ae,Af,Ag,Ah,Ai,Aj,Ak,Al,An,Ao,Ap,Aq,Ar,Au,Av,Aw,Ax], h⟩ k =
(lenV Try.prog 22 Aa h).bind fun t7_0 =>
(binV Try.prog .lss 3 (.tmp 5) (.tmp 7) Ae t7_0).bind fun t8_1 =>
cnd t8_1 (
obH (buildSliceV Try.prog 52 0 #[] h) fun t12_2 h3 =>
(indexAddrV Try.prog 22 Aa Ae).bind fun t15_4 =>
(loadV Try.prog 52 t15_4 h3).bind fun t16_5 =>
obH (appendV Try.prog 52 (some 52) t12_2 t16_5 h3) fun t17_6 h7 =>
obH (buildSliceV Try.prog 22 1 #[(0, t17_6)] h7) fun t18_8 h9 =>
obH (appendV Try.prog 22 (some 22) Ad t18_8 h9) fun t19_10 h11 =>
(binV Try.prog .add 3 (.tmp 9) (.const (Go.Value.int Go.IntKind.i64 1)) Ae (Go.Value.int Go.IntKind.i64 1)).bind fun t10_12 =>
k .normal ⟨#[Aa,Ab,Ac, t19_10, t10_12,Ae,Aa, t7_0, t8_1,Ae, t10_12,Ad, t12_2,Aa,Ae, t15_4, t16_5, t17_6, t18_8, t19_10,Ax], h11⟩) (
k (.exit 0) ⟨#[Aa,Ab,Ac,Ad,Ae,Ae,Aa, t7_0, t8_1,Aj,Ak,Al,An,Ao,Ap,Aq,Ar,Au,Av,Aw,Ax], h⟩) := by kernel_rfl
theorem c121_2_eq {β : Type} (h : Heap) (k : Ex → St → Option β) : codeK Try.prog (evC Try.prog) loopL c121_2 ⟨#[Aa,Ab,Ac,Ad,Ae,Af,Ag,Ah,Ai,Aj,Ak,Al,An,Ao,Ap,Aq,Ar,Au,Av,Aw,Ax], h⟩ k =
k .ret ⟨#[Aa,Ab,Ad,Ad,Ae,Af,Ag,Ah,Ai,Aj,Ak,Al,An,Ao,Ap,Aq,Ar,Au,Av,Aw,Ad], h⟩ := by kernel_rfl
theorem call121 (h : Heap) : evC Try.prog 121 #[Aa] h = codeK Try.prog (evC Try.prog) loopL c121_0 ⟨#[Aa, undef, undef, undef, undef, undef, undef, undef, undef, undef, undef, undef, undef, undef, undef, undef, undef, undef, undef, undef, undef], nm h⟩ (retK Try.f121 Try.prog h) :=
  (evC_call 121 Try.f121 c121_0 Try.func121 (by kernel_rfl) #[Aa] h).trans (by kernel_rfl)
theorem ret121 (h0 h : Heap) : retK Try.f121 Try.prog h0 .ret ⟨#[Aa,Ab,Ac,Ad,Ae,Af,Ag,Ah,Ai,Aj,Ak,Al,An,Ao,Ap,Aq,Ar,Au,Av,Aw,Ax], h⟩ = fin h0 (some Ac) h := by kernel_rfl
theorem retn121 (h0 h : Heap) : retK Try.f121 Try.prog h0 .normal ⟨#[Aa,Ab,Ac,Ad,Ae,Af,Ag,Ah,Ai,Aj,Ak,Al,An,Ao,Ap,Aq,Ar,Au,Av,Aw,Ax], h⟩ = fin h0 (some Ac) h := by kernel_rfl
end Go.Am
namespace Go.Am
open Go.Proofs
set_option maxRecDepth 100000
variable (Aa Ab Ac Ad Ae Af Ag Ah Ai Aj Ak Al An Ao Ap Aq Ar Au Av Aw Ax Ay Az Ba Bb Bc Bd Be Bf Bg Bh Bi Bj Bk Bl Bm Bn Bo Bp Bq Br Bs Bt Bu Bv Bw Bx By Bz Ca Cb Cc Cd Ce Cf : Value)
noncomputable def c89_0 : Code := bodyC Try.f89 []
noncomputable def c89_1 : Code := bodyC Try.f89 [true, true, true, false, true, false, false]
noncomputable def c89_2 : Code := bodyC Try.f89 [true, true, true, true]
theorem c89_0_eq {β : Type} (h : Heap) (k : Ex → St → Option β) : codeK Try.prog (evC Try.prog) loopL c89_0 ⟨#[Aa,Ab,Ac,Ad,Ae,Af,Ag,Ah,Ai,Aj,Ak,Al,An,Ao,Ap,Aq,Ar,Au,Av,Aw,Ax,Ay,Az,Ba,Bb,Bc,Bd,Be,Bf,Bg,Bh,Bi,Bj,Bk,Bl,Bm,Bn,Bo,Bp,Bq,Br,Bs,Bt,Bu,Bv,Bw,Bx,By,Bz,Ca,Cb,Cc,Cd,Ce,Cf], h⟩ k =
obH (evC Try.prog 121 #[Ab] h) fun t12_0 h1 =>
obH (evC Try.prog 26 #[Aa,Ab] h1) fun t15_2 h3 =>
(unV Try.prog .not t15_2).bind fun t16_4 =>
(gd (wt t16_4 false) (binV Try.prog .lss 3 (.tmp 18) (.const (Go.Value.int Go.IntKind.i64 0)) (gdV (wt t16_4 false) Ac) (Go.Value.int Go.IntKind.i64 0))).bind fun t19_5 =>
(pickV t16_4 (Go.Value.bool Bool.true) t19_5).bind fun t20_6 =>
(gd (wt t20_6 false) (binV Try.prog .geq 3 (.tmp 22) (.tmp 23) (gdV (wt t20_6 false) Ac) (gdV (wt t20_6 false) Aa))).bind fun t24_7 =>
(pickV t20_6 (Go.Value.bool Bool.true) t24_7).bind fun t25_8 =>
cnd t25_8 (
k .ret ⟨#[Aa,Ab,Ac,Ad,Ae,Af,Ag,Ah, t12_0, t12_0,Ak,Ab, t12_0,Aa,Ab, t15_2, t16_4, t16_4, (gdV (wt t16_4 false) Ac), t19_5, t20_6, t20_6, (gdV (wt t20_6 false) Ac), (gdV (wt t20_6 false) Aa), t24_7, t25_8, t12_0,Be,Bf,Bg,Bh,Bi,Bj,Bk,Bl,Bm,Bn,Bo,Bp,Bq,Br,Bs,Bt,Bu,Bv,Bw,Bx,By,Bz,Ca,Cb,Cc,Cd,Ce,Cf], h3⟩) (
loopK Try.prog (evC Try.prog) c89_1 ⟨#[Aa,Ab,Ac,Ad,Ae,Af,Ag,Ah, (Go.Value.slice Option.none 0 0), t12_0, (Go.Value.int Go.IntKind.i64 0),Ab, t12_0,Aa,Ab, t15_2, t16_4, t16_4, (gdV (wt t16_4 false) Ac), t19_5, t20_6, t20_6, (gdV (wt t20_6 false) Ac), (gdV (wt t20_6 false) Aa), t24_7, t25_8,Bd,Be,Bf,Bg,Bh,Bi,Bj,Bk,Bl,Bm,Bn,Bo,Bp,Bq,Br,Bs,Bt,Bu,Bv,Bw,Bx,By,Bz,Ca,Cb,Cc,Cd,Ce,Cf], h3⟩ (blockK 0 (seqK Try.prog (evC Try.prog) c89_2 k))) := by kernel_rfl
theorem c89_1_eq {β : Type} (h : Heap) (k : Ex → St → Option β) : codeK Try.prog (evC Try.prog) loopL c89_1 ⟨#[Aa,Ab,Ac,Ad,Ae,Af,Ag,Ah,Ai,Aj,Ak,Al,An,Ao,Ap,Aq,Ar,Au,Av,Aw,Ax,Ay,Az,Ba,Bb,Bc,Bd,Be,Bf,Bg,Bh,Bi,Bj,Bk,Bl,Bm,Bn,Bo,Bp,Bq,Br,Bs,Bt,Bu,Bv,Bw,Bx,By,Bz,Ca,Cb,Cc,Cd,Ce,Cf], h⟩ k =
(binV Try.prog .lss 3 (.tmp 27) (.tmp 28) Ak Aa).bind fun t29_9 =>
cnd t29_9 (
obH (evC Try.prog 114 #[Ad,Ak] h) fun t34_10 h11 =>
(gd (wt t34_10 true) (indexAddrV Try.prog 22 (gdV (wt t34_10 true) Aj) (gdV (wt t34_10 true) Ac))).bind fun t38_12 =>
(gd (wt t34_10 true) (loadV Try.prog 52 t38_12 h11)).bind fun t39_13 =>
(gd (wt t34_10 true) (indexAddrV Try.prog 52 t39_13 (gdV (wt t34_10 true) Ak))).bind fun t41_14 =>
(gd (wt t34_10 true) (loadV Try.prog 46 t41_14 h11)).bind fun t42_15 =>
(gd (wt t34_10 true) (binV Try.prog .lss 46 (.tmp 42) (.const (Go.Value.int Go.IntKind.u64 18446744073709551615)) t42_15 (Go.Value.int Go.IntKind.u64 18446744073709551615))).bind fun t43_16 =>
(pickV t34_10 t43_16 (Go.Value.bool Bool.false)).bind fun t44_17 =>
cnd t44_17 (
(indexAddrV Try.prog 22 Aj Ac).bind fun t47_18 =>
(loadV Try.prog 52 t47_18 h11).bind fun t48_19 =>
(indexAddrV Try.prog 52 t48_19 Ak).bind fun t50_20 =>
(loadV Try.prog 46 t50_20 h11).bind fun t51_21 =>
(binV Try.prog .add 46 (.tmp 51) (.const (Go.Value.int Go.IntKind.u64 1)) t51_21 (Go.Value.int Go.IntKind.u64 1)).bind fun t52_22 =>
(indexAddrV Try.prog 52 t48_19 Ak).bind fun t53_23 =>
(storeV Try.prog 46 t53_23 t52_22 h11).bind fun h24 =>
(binV Try.prog .add 3 (.tmp 30) (.const (Go.Value.int Go.IntKind.i64 1)) Ak (Go.Value.int Go.IntKind.i64 1)).bind fun t31_25 =>
k .normal ⟨#[Aa,Ab,Ac,Ad,Ae,Af,Ag,Ah,Ai,Aj, t31_25,Al,An,Ao,Ap,Aq,Ar,Au,Av,Aw,Ax,Ay,Az,Ba,Bb,Bc,Bd,Ak,Aa, t29_9,Ak, t31_25,Ad,Ak, t34_10, t34_10, (gdV (wt t34_10 true) Aj), (gdV (wt t34_10 true) Ac), t38_12, t39_13, (gdV (wt t34_10 true) Ak), t41_14, t42_15, t43_16, t44_17,Aj,Ac, t47_18, t48_19,Ak, t50_20, t51_21, t52_22, t53_23,Cf], h24⟩) (
(binV Try.prog .add 3 (.tmp 30) (.const (Go.Value.int Go.IntKind.i64 1)) Ak (Go.Value.int Go.IntKind.i64 1)).bind fun t31_26 =>
k .normal ⟨#[Aa,Ab,Ac,Ad,Ae,Af,Ag,Ah,Ai,Aj, t31_26,Al,An,Ao,Ap,Aq,Ar,Au,Av,Aw,Ax,Ay,Az,Ba,Bb,Bc,Bd,Ak,Aa, t29_9,Ak, t31_26,Ad,Ak, t34_10, t34_10, (gdV (wt t34_10 true) Aj), (gdV (wt t34_10 true) Ac), t38_12, t39_13, (gdV (wt t34_10 true) Ak), t41_14, t42_15, t43_16, t44_17,Bw,Bx,By,Bz,Ca,Cb,Cc,Cd,Ce,Cf], h11⟩)) (
k (.exit 0) ⟨#[Aa,Ab,Ac,Ad,Ae,Af,Ag,Ah,Ai,Aj,Ak,Al,An,Ao,Ap,Aq,Ar,Au,Av,Aw,Ax,Ay,Az,Ba,Bb,Bc,Bd,Ak,Aa, t29_9,Bh,Bi,Bj,Bk,Bl,Bm,Bn,Bo,Bp,Bq,Br,Bs,Bt,Bu,Bv,Bw,Bx,By,Bz,Ca,Cb,Cc,Cd,Ce,Cf], h⟩) := by kernel_rfl
theorem c89_2_eq {β : Type} (h : Heap) (k : Ex → St → Option β) : codeK Try.prog (evC Try.prog) loopL c89_2 ⟨#[Aa,Ab,Ac,Ad,Ae,Af,Ag,Ah,Ai,Aj,Ak,Al,An,Ao,Ap,Aq,Ar,Au,Av,Aw,Ax,Ay,Az,Ba,Bb,Bc,Bd,Be,Bf,Bg,Bh,Bi,Bj,Bk,Bl,Bm,Bn,Bo,Bp,Bq,Br,Bs,Bt,Bu,Bv,Bw,Bx,By,Bz,Ca,Cb,Cc,Cd,Ce,Cf], h⟩ k =
k .ret ⟨#[Aa,Ab,Ac,Ad,Ae,Af,Ag,Ah,Aj,Aj,Ak,Al,An,Ao,Ap,Aq,Ar,Au,Av,Aw,Ax,Ay,Az,Ba,Bb,Bc,Bd,Be,Bf,Bg,Bh,Bi,Bj,Bk,Bl,Bm,Bn,Bo,Bp,Bq,Br,Bs,Bt,Bu,Bv,Bw,Bx,By,Bz,Ca,Cb,Cc,Cd,Ce,Aj], h⟩ := by kernel_rfl
theorem call89 (h : Heap) : evC Try.prog 89 #[Aa,Ab,Ac,Ad] h = codeK Try.prog (evC Try.prog) loopL c89_0 ⟨#[Aa,Ab,Ac,Ad, undef, undef, undef, undef, undef, undef, undef, undef, undef, undef, undef, undef, undef, undef, undef, undef, undef, undef, undef, undef, undef, undef, undef, undef, undef, undef, undef, undef, undef, undef, undef, undef, undef, undef, undef, undef, undef, undef, undef, undef, undef, undef, undef, undef, undef, undef, undef, undef, undef, undef, undef], nm h⟩ (retK Try.f89 Try.prog h) :=
  (evC_call 89 Try.f89 c89_0 Try.func89 (by kernel_rfl) #[Aa,Ab,Ac,Ad] h).trans (by kernel_rfl)
theorem ret89 (h0 h : Heap) : retK Try.f89 Try.prog h0 .ret ⟨#[Aa,Ab,Ac,Ad,Ae,Af,Ag,Ah,Ai,Aj,Ak,Al,An,Ao,Ap,Aq,Ar,Au,Av,Aw,Ax,Ay,Az,Ba,Bb,Bc,Bd,Be,Bf,Bg,Bh,Bi,Bj,Bk,Bl,Bm,Bn,Bo,Bp,Bq,Br,Bs,Bt,Bu,Bv,Bw,Bx,By,Bz,Ca,Cb,Cc,Cd,Ce,Cf], h⟩ = fin h0 (some Ai) h := by kernel_rfl
theorem retn89 (h0 h : Heap) : retK Try.f89 Try.prog h0 .normal ⟨#[Aa,Ab,Ac,Ad,Ae,Af,Ag,Ah,Ai,Aj,Ak,Al,An,Ao,Ap,Aq,Ar,Au,Av,Aw,Ax,Ay,Az,Ba,Bb,Bc,Bd,Be,Bf,Bg,Bh,Bi,Bj,Bk,Bl,Bm,Bn,Bo,Bp,Bq,Br,Bs,Bt,Bu,Bv,Bw,Bx,By,Bz,Ca,Cb,Cc,Cd,Ce,Cf], h⟩ = fin h0 (some Ai) h := by kernel_rfl
end Go.Am
namespace Go.Am
open Go.Proofs
set_option maxRecDepth 100000
variable (Aa Ab Ac Ad Ae Af Ag Ah Ai Aj Ak Al An Ao Ap Aq Ar Au Av Aw Ax Ay Az Ba Bb Bc Bd Be : Value)
noncomputable def c92_0 : Code := bodyC Try.f92 []
noncomputable def c92_1 : Code := bodyC Try.f92 [true, true, false, true, false, false]
noncomputable def c92_2 : Code := bodyC Try.f92 [true, true, true]
theorem c92_0_eq {β : Type} (h : Heap) (k : Ex → St → Option β) : codeK Try.prog (evC Try.prog) loopL c92_0 ⟨#[Aa,Ab,Ac,Ad,Ae,Af,Ag,Ah,Ai,Aj,Ak,Al,An,Ao,Ap,Aq,Ar,Au,Av,Aw,Ax,Ay,Az,Ba,Bb,Bc,Bd,Be], h⟩ k =
obH (evC Try.prog 121 #[Aa] h) fun t8_0 h1 =>
loopK Try.prog (evC Try.prog) c92_1 ⟨#[Aa,Ab,Ac,Ad, (Go.Value.slice Option.none 0 0), t8_0, (Go.Value.int Go.IntKind.i64 0),Aa, t8_0,Aj,Ak,Al,An,Ao,Ap,Aq,Ar,Au,Av,Aw,Ax,Ay,Az,Ba,Bb,Bc,Bd,Be], h1⟩ (blockK 0 (seqK Try.prog (evC Try.prog) c92_2 k)) := by kernel_rfl
theorem c92_1_eq {β : Type} (h : Heap) (k : Ex → St → Option β) : codeK Try.prog (evC Try.prog) loopL c92_1 ⟨#[Aa,Ab,Ac,Ad,Ae,Af,Ag,Ah,Ai,Aj,Ak,Al,An,Ao,Ap,Aq,Ar,Au,Av,Aw,Ax,Ay,Az,Ba,Bb,Bc,Bd,Be], h⟩ k =
(lenV Try.prog 22 Af h).bind fun t11_2 =>
(binV Try.prog .lss 3 (.tmp 9) (.tmp 11) Ag t11_2).bind fun t12_3 =>
cnd t12_3 (
(indexAddrV Try.prog 22 Af Ag).bind fun t19_4 =>
(loadV Try.prog 52 t19_4 h).bind fun t20_5 =>
(indexAddrV Try.prog 22 Ab Ag).bind fun t23_6 =>
(loadV Try.prog 52 t23_6 h).bind fun t24_7 =>
obH (evC Try.prog 123 #[t20_5, t24_7] h) fun t25_8 h9 =>
(indexAddrV Try.prog 22 Af Ag).bind fun t26_10 =>
(storeV Try.prog 52 t26_10 t25_8 h9).bind fun h11 =>
(binV Try.prog .add 3 (.tmp 13) (.const (Go.Value.int Go.IntKind.i64 1)) Ag (Go.Value.int Go.IntKind.i64 1)).bind fun t14_12 =>
k .normal ⟨#[Aa,Ab,Ac,Ad,Ae,Af, t14_12,Ah,Ai,Ag,Af, t11_2, t12_3,Ag, t14_12,Af,Ag,Af,Ag, t19_4, t20_5,Ab,Ag, t23_6, t24_7, t25_8, t26_10,Be], h11⟩) (
k (.exit 0) ⟨#[Aa,Ab,Ac,Ad,Ae,Af,Ag,Ah,Ai,Ag,Af, t11_2, t12_3,Ao,Ap,Aq,Ar,Au,Av,Aw,Ax,Ay,Az,Ba,Bb,Bc,Bd,Be], h⟩) := by kernel_rfl
theorem c92_2_eq {β : Type} (h : Heap) (k : Ex → St → Option β) : codeK Try.prog (evC Try.prog) loopL c92_2 ⟨#[Aa,Ab,Ac,Ad,Ae,Af,Ag,Ah,Ai,Aj,Ak,Al,An,Ao,Ap,Aq,Ar,Au,Av,Aw,Ax,Ay,Az,Ba,Bb,Bc,Bd,Be], h⟩ k =
k .ret ⟨#[Aa,Ab,Ac,Ad,Af,Af,Ag,Ah,Ai,Aj,Ak,Al,An,Ao,Ap,Aq,Ar,Au,Av,Aw,Ax,Ay,Az,Ba,Bb,Bc,Bd,Af], h⟩ := by kernel_rfl
theorem call92 (h : Heap) : evC Try.prog 92 #[Aa,Ab] h = codeK Try.prog (evC Try.prog) loopL c92_0 ⟨#[Aa,Ab, undef, undef, undef, undef, undef, undef, undef, undef, undef, undef, undef, undef, undef, undef, undef, undef, undef, undef, undef, undef, undef, undef, undef, undef, undef, undef], nm h⟩ (retK Try.f92 Try.prog h) :=
  (evC_call 92 Try.f92 c92_0 Try.func92 (by kernel_rfl) #[Aa,Ab] h).trans (by kernel_rfl)
theorem ret92 (h0 h : Heap) : retK Try.f92 Try.prog h0 .ret ⟨#[Aa,Ab,Ac,Ad,Ae,Af,Ag,Ah,Ai,Aj,Ak,Al,An,Ao,Ap,Aq,Ar,Au,Av,Aw,Ax,Ay,Az,Ba,Bb,Bc,Bd,Be], h⟩ = fin h0 (some Ae) h := by kernel_rfl
theorem retn92 (h0 h : Heap) : retK Try.f92 Try.prog h0 .normal ⟨#[Aa,Ab,Ac,Ad,Ae,Af,Ag,Ah,Ai,Aj,Ak,Al,An,Ao,Ap,Aq,Ar,Au,Av,Aw,Ax,Ay,Az,Ba,Bb,Bc,Bd,Be], h⟩ = fin h0 (some Ae) h := by kernel_rfl
end Go.Am
namespace Go.Am
open Go.Proofs
set_option maxRecDepth 100000
variable (Aa Ab Ac Ad Ae Af Ag Ah Ai Aj Ak Al An Ao Ap Aq Ar Au Av : Value)
noncomputable def c114_0 : Code := bodyC Try.f114 []
theorem c114_0_eq {β : Type} (h : Heap) (k : Ex → St → Option β) : codeK Try.prog (evC Try.prog) loopL c114_0 ⟨#[Aa,Ab,Ac,Ad,Ae,Af,Ag,Ah,Ai,Aj,Ak,Al,An,Ao,Ap,Aq,Ar,Au,Av], h⟩ k =
(binV Try.prog .geq 3 (.tmp 5) (.const (Go.Value.int Go.IntKind.i64 0)) Ab (Go.Value.int Go.IntKind.i64 0)).bind fun t6_0 =>
(gd (wt t6_0 true) (binV Try.prog .leq 3 (.tmp 8) (.const (Go.Value.int Go.IntKind.i64 63)) (gdV (wt t6_0 true) Ab) (Go.Value.int Go.IntKind.i64 63))).bind fun t9_1 =>
(pickV t6_0 t9_1 (Go.Value.bool Bool.false)).bind fun t10_2 =>
obH (gdH (wt t10_2 true) h (convV Try.prog 3 138 (gdV (wt t10_2 true) Ab) h)) fun t14_3 h4 =>
(gd (wt t10_2 true) (binV Try.prog .shr 46 (.tmp 12) (.tmp 14) (gdV (wt t10_2 true) Aa) t14_3)).bind fun t15_5 =>
(gd (wt t10_2 true) (binV Try.prog .and 46 (.tmp 15) (.const (Go.Value.int Go.IntKind.u64 1)) t15_5 (Go.Value.int Go.IntKind.u64 1))).bind fun t16_6 =>
(gd (wt t10_2 true) (binV Try.prog .eql 46 (.tmp 16) (.const (Go.Value.int Go.IntKind.u64 1)) t16_6 (Go.Value.int Go.IntKind.u64 1))).bind fun t17_7 =>
(pickV t10_2 t17_7 (Go.Value.bool Bool.false)).bind fun t18_8 =>
k .ret ⟨#[Aa,Ab,Ac,Ad, t18_8,Ab, t6_0, t6_0, (gdV (wt t6_0 true) Ab), t9_1, t10_2, t10_2, (gdV (wt t10_2 true) Aa), (gdV (wt t10_2 true) Ab), t14_3, t15_5, t16_6, t17_7, t18_8], h4⟩ := by kernel_rfl
theorem call114 (h : Heap) : evC Try.prog 114 #[Aa,Ab] h = codeK Try.prog (evC Try.prog) loopL c114_0 ⟨#[Aa,Ab, undef, undef, undef, undef, undef, undef, undef, undef, undef, undef, undef, undef, undef, undef, undef, undef, undef], nm h⟩ (retK Try.f114 Try.prog h) :=
  (evC_call 114 Try.f114 c114_0 Try.func114 (by kernel_rfl) #[Aa,Ab] h).trans (by kernel_rfl)
theorem ret114 (h0 h : Heap) : retK Try.f114 Try.prog h0 .ret ⟨#[Aa,Ab,Ac,Ad,Ae,Af,Ag,Ah,Ai,Aj,Ak,Al,An,Ao,Ap,Aq,Ar,Au,Av], h⟩ = fin h0 (some Ae) h := by kernel_rfl
theorem retn114 (h0 h : Heap) : retK Try.f114 Try.prog h0 .normal ⟨#[Aa,Ab,Ac,Ad,Ae,Af,Ag,Ah,Ai,Aj,Ak,Al,An,Ao,Ap,Aq,Ar,Au,Av], h⟩ = fin h0 (some Ae) h := by kernel_rfl
end Go.Am
namespace Go.Am
open Go.Proofs
set_option maxRecDepth 100000
variable (Aa Ab Ac Ad Ae Af Ag Ah Ai Aj Ak Al An Ao Ap Aq Ar Au Av Aw Ax Ay Az Ba : Value)
noncomputable def c29_0 : Code := bodyC Try.f29 []
noncomputable def c29_1 : Code := bodyC Try.f29 [true, true, false, true, false, false]
noncomputable def c29_2 : Code := bodyC Try.f29 [true, true, true]
theorem c29_0_eq {β : Type} (h : Heap) (k : Ex → St → Option β) : codeK Try.prog (evC Try.prog) loopL c29_0 ⟨#[Aa,Ab,Ac,Ad,Ae,Af,Ag,Ah,Ai,Aj,Ak,Al,An,Ao,Ap,Aq,Ar,Au,Av,Aw,Ax,Ay,Az,Ba], h⟩ k =
(lenV Try.prog 73 Aa h).bind fun t7_0 =>
loopK Try.prog (evC Try.prog) c29_1 ⟨#[Aa,Ab, (Go.Value.int Go.IntKind.u64 0), (Go.Value.int Go.IntKind.u64 0),Ae,Af,Aa, t7_0, (Go.Value.int Go.IntKind.i64 0),Aj,Ak,Al,An,Ao,Ap,Aq,Ar,Au,Av,Aw,Ax,Ay,Az,Ba], h⟩ (blockK 0 (seqK Try.prog (evC Try.prog) c29_2 k)) := by kernel_rfl
theorem c29_1_eq {β : Type} (h : Heap) (k : Ex → St → Option β) : codeK Try.prog (evC Try.prog) loopL c29_1 ⟨#[Aa,Ab,Ac,Ad,Ae,Af,Ag,Ah,Ai,Aj,Ak,Al,An,Ao,Ap,Aq,Ar,Au,Av,Aw,Ax,Ay,Az,Ba], h⟩ k =
(binV Try.prog .lss 3 (.tmp 8) (.tmp 7) Ai Ah).bind fun t9_1 =>
cnd t9_1 (
(indexAddrV Try.prog 73 Ag Ai).bind fun t10_2 =>
(loadV Try.prog 3 t10_2 h).bind fun t11_3 =>
(binV Try.prog .geq 3 (.tmp 12) (.const (Go.Value.int Go.IntKind.i64 0)) t11_3 (Go.Value.int Go.IntKind.i64 0)).bind fun t13_4 =>
(gd (wt t13_4 true) (binV Try.prog .lss 3 (.tmp 15) (.const (Go.Value.int Go.IntKind.i64 64)) (gdV (wt t13_4 true) t11_3) (Go.Value.int Go.IntKind.i64 64))).bind fun t16_5 =>
(pickV t13_4 t16_5 (Go.Value.bool Bool.false)).bind fun t17_6 =>
cnd t17_6 (
(binV Try.prog .shl 47 (.const (Go.Value.int Go.IntKind.u64 1)) (.tmp 19) (Go.Value.int Go.IntKind.u64 1) t11_3).bind fun t20_7 =>
(binV Try.prog .or 47 (.tmp 18) (.tmp 20) Ad t20_7).bind fun t21_8 =>
(binV Try.prog .add 3 (.tmp 8) (.const (Go.Value.int Go.IntKind.i64 1)) Ai (Go.Value.int Go.IntKind.i64 1)).bind fun t22_9 =>
k .normal ⟨#[Aa,Ab,Ac, t21_8,Ae, t11_3,Ag,Ah, t22_9, t9_1, t10_2, t11_3, t11_3, t13_4, t13_4, (gdV (wt t13_4 true) t11_3), t16_5, t17_6,Ad, t11_3, t20_7, t21_8, t22_9,Ba], h⟩) (
(binV Try.prog .add 3 (.tmp 8) (.const (Go.Value.int Go.IntKind.i64 1)) Ai (Go.Value.int Go.IntKind.i64 1)).bind fun t22_10 =>
k .normal ⟨#[Aa,Ab,Ac,Ad,Ae, t11_3,Ag,Ah, t22_10, t9_1, t10_2, t11_3, t11_3, t13_4, t13_4, (gdV (wt t13_4 true) t11_3), t16_5, t17_6,Av,Aw,Ax,Ay, t22_10,Ba], h⟩)) (
k (.exit 0) ⟨#[Aa,Ab,Ac,Ad,Ae,Af,Ag,Ah,Ai, t9_1,Ak,Al,An,Ao,Ap,Aq,Ar,Au,Av,Aw,Ax,Ay,Az,Ba], h⟩) := by kernel_rfl
theorem c29_2_eq {β : Type} (h : Heap) (k : Ex → St → Option β) : codeK Try.prog (evC Try.prog) loopL c29_2 ⟨#[Aa,Ab,Ac,Ad,Ae,Af,Ag,Ah,Ai,Aj,Ak,Al,An,Ao,Ap,Aq,Ar,Au,Av,Aw,Ax,Ay,Az,Ba], h⟩ k =
k .ret ⟨#[Aa,Ab,Ad,Ad,Ae,Af,Ag,Ah,Ai,Aj,Ak,Al,An,Ao,Ap,Aq,Ar,Au,Av,Aw,Ax,Ay,Az,Ad], h⟩ := by kernel_rfl
theorem call29 (h : Heap) : evC Try.prog 29 #[Aa] h = codeK Try.prog (evC Try.prog) loopL c29_0 ⟨#[Aa, undef, undef, undef, undef, undef, undef, undef, undef, undef, undef, undef, undef, undef, undef, undef, undef, undef, undef, undef, undef, undef, undef, undef], nm h⟩ (retK Try.f29 Try.prog h) :=
  (evC_call 29 Try.f29 c29_0 Try.func29 (by kernel_rfl) #[Aa] h).trans (by kernel_rfl)
theorem ret29 (h0 h : Heap) : retK Try.f29 Try.prog h0 .ret ⟨#[Aa,Ab,Ac,Ad,Ae,Af,Ag,Ah,Ai,Aj,Ak,Al,An,Ao,Ap,Aq,Ar,Au,Av,Aw,Ax,Ay,Az,Ba], h⟩ = fin h0 (some Ac) h := by kernel_rfl
theorem retn29 (h0 h : Heap) : retK Try.f29 Try.prog h0 .normal ⟨#[Aa,Ab,Ac,Ad,Ae,Af,Ag,Ah,Ai,Aj,Ak,Al,An,Ao,Ap,Aq,Ar,Au,Av,Aw,Ax,Ay,Az,Ba], h⟩ = fin h0 (some Ac) h := by kernel_rfl
end Go.Am
namespace Go.Am
open Go.Proofs
set_option maxRecDepth 100000
variable (Aa Ab Ac Ad Ae Af Ag Ah Ai : Value)
noncomputable def c80_0 : Code := bodyC Try.f80 []
theorem c80_0_eq {β : Type} (h : Heap) (k : Ex → St → Option β) : codeK Try.prog (evC Try.prog) loopL c80_0 ⟨#[Aa,Ab,Ac,Ad,Ae,Af,Ag,Ah,Ai], h⟩ k =
obH (builtinV Try.prog .max #[3, 3] #[Aa, (Go.Value.int Go.IntKind.i64 0)] h) fun t4_0 h1 =>
obH (builtinV Try.prog .min #[3, 3] #[t4_0, (Go.Value.int Go.IntKind.i64 64)] h1) fun t5_2 h3 =>
(binV Try.prog .shl 47 (.const (Go.Value.int Go.IntKind.u64 1)) (.tmp 6) (Go.Value.int Go.IntKind.u64 1) t5_2).bind fun t7_4 =>
(binV Try.prog .sub 47 (.tmp 7) (.const (Go.Value.int Go.IntKind.u64 1)) t7_4 (Go.Value.int Go.IntKind.u64 1)).bind fun t8_5 =>
k .ret ⟨#[t5_2,Ab, t8_5,Aa, t4_0, t5_2, t5_2, t7_4, t8_5], h3⟩ := by kernel_rfl
theorem call80 (h : Heap) : evC Try.prog 80 #[Aa] h = codeK Try.prog (evC Try.prog) loopL c80_0 ⟨#[Aa, undef, undef, undef, undef, undef, undef, undef, undef], nm h⟩ (retK Try.f80 Try.prog h) :=
  (evC_call 80 Try.f80 c80_0 Try.func80 (by kernel_rfl) #[Aa] h).trans (by kernel_rfl)
theorem ret80 (h0 h : Heap) : retK Try.f80 Try.prog h0 .ret ⟨#[Aa,Ab,Ac,Ad,Ae,Af,Ag,Ah,Ai], h⟩ = fin h0 (some Ac) h := by kernel_rfl
theorem retn80 (h0 h : Heap) : retK Try.f80 Try.prog h0 .normal ⟨#[Aa,Ab,Ac,Ad,Ae,Af,Ag,Ah,Ai], h⟩ = fin h0 (some Ac) h := by kernel_rfl
end Go.Am
namespace Go.Am
open Go.Proofs
set_option maxRecDepth 100000
variable (Aa Ab Ac Ad Ae : Value)
noncomputable def c81_0 : Code := bodyC Try.f81 []
theorem c81_0_eq {β : Type} (h : Heap) (k : Ex → St → Option β) : codeK Try.prog (evC Try.prog) loopL c81_0 ⟨#[Aa,Ab,Ac,Ad,Ae], h⟩ k =
obH (evC Try.prog 117 #[Aa] h) fun t4_0 h1 =>
k .ret ⟨#[Aa,Ab, t4_0,Aa, t4_0], h1⟩ := by kernel_rfl
theorem call81 (h : Heap) : evC Try.prog 81 #[Aa] h = codeK Try.prog (evC Try.prog) loopL c81_0 ⟨#[Aa, undef, undef, undef, undef], nm h⟩ (retK Try.f81 Try.prog h) :=
  (evC_call 81 Try.f81 c81_0 Try.func81 (by kernel_rfl) #[Aa] h).trans (by kernel_rfl)
theorem ret81 (h0 h : Heap) : retK Try.f81 Try.prog h0 .ret ⟨#[Aa,Ab,Ac,Ad,Ae], h⟩ = fin h0 (some Ac) h := by kernel_rfl
theorem retn81 (h0 h : Heap) : retK Try.f81 Try.prog h0 .normal ⟨#[Aa,Ab,Ac,Ad,Ae], h⟩ = fin h0 (some Ac) h := by kernel_rfl
end Go.Am
namespace Go.Am
open Go.Proofs
set_option maxRecDepth 100000
variable (Aa Ab Ac Ad Ae Af Ag Ah Ai Aj Ak Al An Ao Ap Aq Ar Au Av Aw Ax Ay Az Ba Bb Bc Bd Be Bf Bg Bh Bi Bj Bk Bl : Value)
noncomputable def c117_0 : Code := bodyC Try.f117 []
theorem c117_0_eq {β : Type} (h : Heap) (k : Ex → St → Option β) : codeK Try.prog (evC Try.prog) loopL c117_0 ⟨#[Aa,Ab,Ac,Ad,Ae,Af,Ag,Ah,Ai,Aj,Ak,Al,An,Ao,Ap,Aq,Ar,Au,Av,Aw,Ax,Ay,Az,Ba,Bb,Bc,Bd,Be,Bf,Bg,Bh,Bi,Bj,Bk,Bl], h⟩ k =
(binV Try.prog .shr 46 (.tmp 3) (.const (Go.Value.int Go.IntKind.u64 1)) Aa (Go.Value.int Go.IntKind.u64 1)).bind fun t4_0 =>
(binV Try.prog .and 46 (.tmp 4) (.const (Go.Value.int Go.IntKind.u64 6148914691236517205)) t4_0 (Go.Value.int Go.IntKind.u64 6148914691236517205)).bind fun t5_1 =>
(binV Try.prog .and 46 (.tmp 6) (.const (Go.Value.int Go.IntKind.u64 6148914691236517205)) Aa (Go.Value.int Go.IntKind.u64 6148914691236517205)).bind fun t7_2 =>
(binV Try.prog .add 46 (.tmp 5) (.tmp 7) t5_1 t7_2).bind fun t8_3 =>
(binV Try.prog .shr 46 (.tmp 9) (.const (Go.Value.int Go.IntKind.u64 2)) t8_3 (Go.Value.int Go.IntKind.u64 2)).bind fun t10_4 =>
(binV Try.prog .and 46 (.tmp 10) (.const (Go.Value.int Go.IntKind.u64 3689348814741910323)) t10_4 (Go.Value.int Go.IntKind.u64 3689348814741910323)).bind fun t11_5 =>
(binV Try.prog .and 46 (.tmp 12) (.const (Go.Value.int Go.IntKind.u64 3689348814741910323)) t8_3 (Go.Value.int Go.IntKind.u64 3689348814741910323)).bind fun t13_6 =>
(binV Try.prog .add 46 (.tmp 11) (.tmp 13) t11_5 t13_6).bind fun t14_7 =>
(binV Try.prog .shr 46 (.tmp 15) (.const (Go.Value.int Go.IntKind.u64 4)) t14_7 (Go.Value.int Go.IntKind.u64 4)).bind fun t16_8 =>
(binV Try.prog .add 46 (.tmp 16) (.tmp 17) t16_8 t14_7).bind fun t18_9 =>
(binV Try.prog .and 46 (.tmp 18) (.const (Go.Value.int Go.IntKind.u64 1085102592571150095)) t18_9 (Go.Value.int Go.IntKind.u64 1085102592571150095)).bind fun t19_10 =>
(binV Try.prog .shr 46 (.tmp 21) (.const (Go.Value.int Go.IntKind.u64 8)) t19_10 (Go.Value.int Go.IntKind.u64 8)).bind fun t22_11 =>
(binV Try.prog .add 46 (.tmp 20) (.tmp 22) t19_10 t22_11).bind fun t23_12 =>
(binV Try.prog .shr 46 (.tmp 25) (.const (Go.Value.int Go.IntKind.u64 16)) t23_12 (Go.Value.int Go.IntKind.u64 16)).bind fun t26_13 =>
(binV Try.prog .add 46 (.tmp 24) (.tmp 26) t23_12 t26_13).bind fun t27_14 =>
(binV Try.prog .shr 46 (.tmp 29) (.const (Go.Value.int Go.IntKind.u64 32)) t27_14 (Go.Value.int Go.IntKind.u64 32)).bind fun t30_15 =>
(binV Try.prog .add 46 (.tmp 28) (.tmp 30) t27_14 t30_15).bind fun t31_16 =>
obH (convV Try.prog 46 3 t31_16 h) fun t33_17 h18 =>
(binV Try.prog .and 3 (.tmp 33) (.const (Go.Value.int Go.IntKind.i64 127)) t33_17 (Go.Value.int Go.IntKind.i64 127)).bind fun t34_19 =>
k .ret ⟨#[t31_16,Ab, t34_19,Aa, t4_0, t5_1,Aa, t7_2, t8_3, t8_3, t10_4, t11_5, t8_3, t13_6, t14_7, t14_7, t16_8, t14_7, t18_9, t19_10, t19_10, t19_10, t22_11, t23_12, t23_12, t23_12, t26_13, t27_14, t27_14, t27_14, t30_15, t31_16, t31_16, t33_17, t34_19], h18⟩ := by kernel_rfl
theorem call117 (h : Heap) : evC Try.prog 117 #[Aa] h = codeK Try.prog (evC Try.prog) loopL c117_0 ⟨#[Aa, undef, undef, undef, undef, undef, undef, undef, undef, undef, undef, undef, undef, undef, undef, undef, undef, undef, undef, undef, undef, undef, undef, undef, undef, undef, undef, undef, undef, undef, undef, undef, undef, undef, undef], nm h⟩ (retK Try.f117 Try.prog h) :=
  (evC_call 117 Try.f117 c117_0 Try.func117 (by kernel_rfl) #[Aa] h).trans (by kernel_rfl)
theorem ret117 (h0 h : Heap) : retK Try.f117 Try.prog h0 .ret ⟨#[Aa,Ab,Ac,Ad,Ae,Af,Ag,Ah,Ai,Aj,Ak,Al,An,Ao,Ap,Aq,Ar,Au,Av,Aw,Ax,Ay,Az,Ba,Bb,Bc,Bd,Be,Bf,Bg,Bh,Bi,Bj,Bk,Bl], h⟩ = fin h0 (some Ac) h := by kernel_rfl
theorem retn117 (h0 h : Heap) : retK Try.f117 Try.prog h0 .normal ⟨#[Aa,Ab,Ac,Ad,Ae,Af,Ag,Ah,Ai,Aj,Ak,Al,An,Ao,Ap,Aq,Ar,Au,Av,Aw,Ax,Ay,Az,Ba,Bb,Bc,Bd,Be,Bf,Bg,Bh,Bi,Bj,Bk,Bl], h⟩ = fin h0 (some Ac) h := by kernel_rfl
end Go.Am
namespace Go.Am
open Go.Proofs
set_option maxRecDepth 100000
variable (Aa Ab Ac Ad Ae Af Ag Ah Ai Aj Ak : Value)
noncomputable def c124_0 : Code := bodyC Try.f124 []
noncomputable def c124_1 : Code := bodyC Try.f124 [true, true, false, false, false]
noncomputable def c124_2 : Code := bodyC Try.f124 [true, true, true]
theorem c124_0_eq {β : Type} (h : Heap) (k : Ex → St → Option β) : codeK Try.prog (evC Try.prog) loopL c124_0 ⟨#[Aa,Ab,Ac,Ad,Ae,Af,Ag,Ah,Ai,Aj,Ak], h⟩ k =
loopK Try.prog (evC Try.prog) c124_1 ⟨#[Aa,Ab, (Go.Value.int Go.IntKind.i64 0), (Go.Value.int Go.IntKind.i64 1),Ae,Af,Ag,Ah,Ai,Aj,Ak], h⟩ (blockK 0 (seqK Try.prog (evC Try.prog) c124_2 k)) := by kernel_rfl
theorem c124_1_eq {β : Type} (h : Heap) (k : Ex → St → Option β) : codeK Try.prog (evC Try.prog) loopL c124_1 ⟨#[Aa,Ab,Ac,Ad,Ae,Af,Ag,Ah,Ai,Aj,Ak], h⟩ k =
(binV Try.prog .geq 46 (.tmp 4) (.const (Go.Value.int Go.IntKind.u64 128)) Aa (Go.Value.int Go.IntKind.u64 128)).bind fun t5_0 =>
cnd t5_0 (
(binV Try.prog .shr 46 (.tmp 6) (.const (Go.Value.int Go.IntKind.u64 7)) Aa (Go.Value.int Go.IntKind.u64 7)).bind fun t7_1 =>
(binV Try.prog .add 3 (.tmp 8) (.const (Go.Value.int Go.IntKind.i64 1)) Ad (Go.Value.int Go.IntKind.i64 1)).bind fun t9_2 =>
k .normal ⟨#[t7_1,Ab,Ac, t9_2,Aa, t5_0,Aa, t7_1,Ad, t9_2,Ak], h⟩) (
k (.exit 0) ⟨#[Aa,Ab,Ac,Ad,Aa, t5_0,Ag,Ah,Ai,Aj,Ak], h⟩) := by kernel_rfl
theorem c124_2_eq {β : Type} (h : Heap) (k : Ex → St → Option β) : codeK Try.prog (evC Try.prog) loopL c124_2 ⟨#[Aa,Ab,Ac,Ad,Ae,Af,Ag,Ah,Ai,Aj,Ak], h⟩ k =
k .ret ⟨#[Aa,Ab,Ad,Ad,Ae,Af,Ag,Ah,Ai,Aj,Ad], h⟩ := by kernel_rfl
theorem call124 (h : Heap) : evC Try.prog 124 #[Aa] h = codeK Try.prog (evC Try.prog) loopL c124_0 ⟨#[Aa, undef, undef, undef, undef, undef, undef, undef, undef, undef, undef], nm h⟩ (retK Try.f124 Try.prog h) :=
  (evC_call 124 Try.f124 c124_0 Try.func124 (by kernel_rfl) #[Aa] h).trans (by kernel_rfl)
theorem ret124 (h0 h : Heap) : retK Try.f124 Try.prog h0 .ret ⟨#[Aa,Ab,Ac,Ad,Ae,Af,Ag,Ah,Ai,Aj,Ak], h⟩ = fin h0 (some Ac) h := by kernel_rfl
theorem retn124 (h0 h : Heap) : retK Try.f124 Try.prog h0 .normal ⟨#[Aa,Ab,Ac,Ad,Ae,Af,Ag,Ah,Ai,Aj,Ak], h⟩ = fin h0 (some Ac) h := by kernel_rfl
end Go.Am
namespace Go.Am
open Go.Proofs
set_option maxRecDepth 100000
variable (Aa Ab Ac Ad Ae Af Ag Ah Ai Aj Ak Al An Ao Ap Aq Ar Au Av Aw Ax Ay Az : Value)
noncomputable def c94_0 : Code := bodyC Try.f94 []
noncomputable def c94_1 : Code := bodyC Try.f94 [true, true, false, false, false]
noncomputable def c94_2 : Code := bodyC Try.f94 [true, true, true]
theorem c94_0_eq {β : Type} (h : Heap) (k : Ex → St → Option β) : codeK Try.prog (evC Try.prog) loopL c94_0 ⟨#[Aa,Ab,Ac,Ad,Ae,Af,Ag,Ah,Ai,Aj,Ak,Al,An,Ao,Ap,Aq,Ar,Au,Av,Aw,Ax,Ay,Az], h⟩ k =
obH (appendV Try.prog 23 (some 23) (Go.Value.slice Option.none 0 0) Aa h) fun t7_0 h1 =>
loopK Try.prog (evC Try.prog) c94_1 ⟨#[Aa,Ab,Ac,Ad, (Go.Value.slice Option.none 0 0), t7_0,Aa, t7_0,Ai,Aj,Ak,Al,An,Ao,Ap,Aq,Ar,Au,Av,Aw,Ax,Ay,Az], h1⟩ (blockK 0 (seqK Try.prog (evC Try.prog) c94_2 k)) := by kernel_rfl
theorem c94_1_eq {β : Type} (h : Heap) (k : Ex → St → Option β) : codeK Try.prog (evC Try.prog) loopL c94_1 ⟨#[Aa,Ab,Ac,Ad,Ae,Af,Ag,Ah,Ai,Aj,Ak,Al,An,Ao,Ap,Aq,Ar,Au,Av,Aw,Ax,Ay,Az], h⟩ k =
(binV Try.prog .geq 46 (.tmp 8) (.const (Go.Value.int Go.IntKind.u64 128)) Ab (Go.Value.int Go.IntKind.u64 128)).bind fun t9_2 =>
cnd t9_2 (
obH (convV Try.prog 46 5 Ab h) fun t12_3 h4 =>
(binV Try.prog .or 5 (.tmp 12) (.const (Go.Value.int Go.IntKind.u8 128)) t12_3 (Go.Value.int Go.IntKind.u8 128)).bind fun t13_5 =>
obH (buildSliceV Try.prog 23 1 #[(0, t13_5)] h4) fun t14_6 h7 =>
obH (appendV Try.prog 23 (some 23) Af t14_6 h7) fun t15_8 h9 =>
(binV Try.prog .shr 46 (.tmp 16) (.const (Go.Value.int Go.IntKind.u64 7)) Ab (Go.Value.int Go.IntKind.u64 7)).bind fun t17_10 =>
k .normal ⟨#[Aa, t17_10,Ac,Ad,Ae, t15_8,Ag,Ah,Ab, t9_2,Af,Ab, t12_3, t13_5, t14_6, t15_8,Ab, t17_10,Av,Aw,Ax,Ay,Az], h9⟩) (
k (.exit 0) ⟨#[Aa,Ab,Ac,Ad,Ae,Af,Ag,Ah,Ab, t9_2,Ak,Al,An,Ao,Ap,Aq,Ar,Au,Av,Aw,Ax,Ay,Az], h⟩) := by kernel_rfl
theorem c94_2_eq {β : Type} (h : Heap) (k : Ex → St → Option β) : codeK Try.prog (evC Try.prog) loopL c94_2 ⟨#[Aa,Ab,Ac,Ad,Ae,Af,Ag,Ah,Ai,Aj,Ak,Al,An,Ao,Ap,Aq,Ar,Au,Av,Aw,Ax,Ay,Az], h⟩ k =
obH (convV Try.prog 46 5 Ab h) fun t20_11 h12 =>
obH (buildSliceV Try.prog 23 1 #[(0, t20_11)] h12) fun t21_13 h14 =>
obH (appendV Try.prog 23 (some 23) Af t21_13 h14) fun t22_15 h16 =>
k .ret ⟨#[Aa,Ab,Ac,Ad, t22_15,Af,Ag,Ah,Ai,Aj,Ak,Al,An,Ao,Ap,Aq,Ar,Au,Af,Ab, t20_11, t21_13, t22_15], h16⟩ := by kernel_rfl
theorem call94 (h : Heap) : evC Try.prog 94 #[Aa,Ab] h = codeK Try.prog (evC Try.prog) loopL c94_0 ⟨#[Aa,Ab, undef, undef, undef, undef, undef, undef, undef, undef, undef, undef, undef, undef, undef, undef, undef, undef, undef, undef, undef, undef, undef], nm h⟩ (retK Try.f94 Try.prog h) :=
  (evC_call 94 Try.f94 c94_0 Try.func94 (by kernel_rfl) #[Aa,Ab] h).trans (by kernel_rfl)
theorem ret94 (h0 h : Heap) : retK Try.f94 Try.prog h0 .ret ⟨#[Aa,Ab,Ac,Ad,Ae,Af,Ag,Ah,Ai,Aj,Ak,Al,An,Ao,Ap,Aq,Ar,Au,Av,Aw,Ax,Ay,Az], h⟩ = fin h0 (some Ae) h := by kernel_rfl
theorem retn94 (h0 h : Heap) : retK Try.f94 Try.prog h0 .normal ⟨#[Aa,Ab,Ac,Ad,Ae,Af,Ag,Ah,Ai,Aj,Ak,Al,An,Ao,Ap,Aq,Ar,Au,Av,Aw,Ax,Ay,Az], h⟩ = fin h0 (some Ae) h := by kernel_rfl
end Go.Am
namespace Go.Am
open Go.Proofs
set_option maxRecDepth 100000
variable (Aa Ab Ac Ad Ae Af Ag Ah Ai Aj Ak Al An Ao Ap Aq Ar Au Av Aw Ax Ay Az Ba Bb Bc Bd Be Bf Bg Bh Bi Bj Bk Bl Bm Bn Bo Bp Bq Br Bs : Value)
noncomputable def c96_0 : Code := bodyC Try.f96 []
noncomputable def c96_1 : Code := bodyC Try.f96 [true, false, true, false, false]
noncomputable def c96_2 : Code := bodyC Try.f96 [true, true]
theorem c96_0_eq {β : Type} (h : Heap) (k : Ex → St → Option β) : codeK Try.prog (evC Try.prog) loopL c96_0 ⟨#[Aa,Ab,Ac,Ad,Ae,Af,Ag,Ah,Ai,Aj,Ak,Al,An,Ao,Ap,Aq,Ar,Au,Av,Aw,Ax,Ay,Az,Ba,Bb,Bc,Bd,Be,Bf,Bg,Bh,Bi,Bj,Bk,Bl,Bm,Bn,Bo,Bp,Bq,Br,Bs], h⟩ k =
(lenV Try.prog 23 Aa h).bind fun t7_0 =>
loopK Try.prog (evC Try.prog) c96_1 ⟨#[Aa,Ab, (Go.Value.int Go.IntKind.u64 0), (Go.Value.int Go.IntKind.i64 0),Ae,Af,Aa, t7_0, (Go.Value.int Go.IntKind.i64 0),Aj,Ak,Al,An,Ao,Ap,Aq,Ar,Au,Av,Aw,Ax,Ay,Az,Ba,Bb,Bc,Bd,Be,Bf,Bg,Bh,Bi,Bj,Bk,Bl,Bm,Bn,Bo,Bp,Bq,Br,Bs], h⟩ (blockK 0 (seqK Try.prog (evC Try.prog) c96_2 k)) := by kernel_rfl
theorem c96_1_eq {β : Type} (h : Heap) (k : Ex → St → Option β) : codeK Try.prog (evC Try.prog) loopL c96_1 ⟨#[Aa,Ab,Ac,Ad,Ae,Af,Ag,Ah,Ai,Aj,Ak,Al,An,Ao,Ap,Aq,Ar,Au,Av,Aw,Ax,Ay,Az,Ba,Bb,Bc,Bd,Be,Bf,Bg,Bh,Bi,Bj,Bk,Bl,Bm,Bn,Bo,Bp,Bq,Br,Bs], h⟩ k =
(binV Try.prog .lss 3 (.tmp 8) (.tmp 7) Ai Ah).bind fun t9_1 =>
cnd t9_1 (
(indexAddrV Try.prog 23 Ag Ai).bind fun t11_2 =>
(loadV Try.prog 5 t11_2 h).bind fun t12_3 =>
(binV Try.prog .eql 3 (.tmp 13) (.const (Go.Value.int Go.IntKind.i64 10)) Ai (Go.Value.int Go.IntKind.i64 10)).bind fun t14_4 =>
cnd t14_4 (
k (.exit 0) ⟨#[Aa,Ab,Ac,Ad,Ai, t12_3,Ag,Ah,Ai, t9_1,Ai, t11_2, t12_3,Ai, t14_4,Aq,Ar,Au,Av,Aw,Ax,Ay,Az,Ba,Bb,Bc,Bd,Be,Bf,Bg,Bh,Bi,Bj,Bk,Bl,Bm,Bn,Bo,Bp,Bq,Br,Bs], h⟩) (
(binV Try.prog .and 5 (.tmp 16) (.const (Go.Value.int Go.IntKind.u8 127)) t12_3 (Go.Value.int Go.IntKind.u8 127)).bind fun t17_5 =>
obH (convV Try.prog 5 46 t17_5 h) fun t18_6 h7 =>
(binV Try.prog .mul 3 (.const (Go.Value.int Go.IntKind.i64 7)) (.tmp 19) (Go.Value.int Go.IntKind.i64 7) Ai).bind fun t20_8 =>
(binV Try.prog .shl 46 (.tmp 18) (.tmp 20) t18_6 t20_8).bind fun t21_9 =>
(binV Try.prog .or 46 (.tmp 15) (.tmp 21) Ac t21_9).bind fun t22_10 =>
(binV Try.prog .lss 5 (.tmp 23) (.const (Go.Value.int Go.IntKind.u8 128)) t12_3 (Go.Value.int Go.IntKind.u8 128)).bind fun t24_11 =>
cnd t24_11 (
obH (evC Try.prog 124 #[t22_10] h7) fun t26_12 h13 =>
(binV Try.prog .add 3 (.tmp 27) (.const (Go.Value.int Go.IntKind.i64 1)) Ai (Go.Value.int Go.IntKind.i64 1)).bind fun t28_14 =>
(binV Try.prog .neq 3 (.tmp 26) (.tmp 28) t26_12 t28_14).bind fun t29_15 =>
(gd (wt t29_15 false) (binV Try.prog .eql 3 (.tmp 31) (.const (Go.Value.int Go.IntKind.i64 9)) (gdV (wt t29_15 false) Ai) (Go.Value.int Go.IntKind.i64 9))).bind fun t32_16 =>
(gd (wt (gdV (wt t29_15 false) t32_16) true) (binV Try.prog .gtr 5 (.tmp 34) (.const (Go.Value.int Go.IntKind.u8 1)) (gdV (wt (gdV (wt t29_15 false) t32_16) true) t12_3) (Go.Value.int Go.IntKind.u8 1))).bind fun t35_17 =>
(gd (wt t29_15 false) (pickV (gdV (wt t29_15 false) t32_16) t35_17 (Go.Value.bool Bool.false))).bind fun t36_18 =>
(pickV t29_15 (Go.Value.bool Bool.true) t36_18).bind fun t37_19 =>
cnd t37_19 (
k (.exit 0) ⟨#[Aa,Ab, t22_10,Ad,Ai, t12_3,Ag,Ah,Ai, t9_1,Ai, t11_2, t12_3,Ai, t14_4,Ac, t12_3, t17_5, t18_6,Ai, t20_8, t21_9, t22_10, t12_3, t24_11, t22_10, t26_12,Ai, t28_14, t29_15, t29_15, (gdV (wt t29_15 false) Ai), t32_16, (gdV (wt t29_15 false) t32_16), (gdV (wt (gdV (wt t29_15 false) t32_16) true) t12_3), t35_17, t36_18, t37_19,Bp,Bq,Br,Bs], h13⟩) (
(binV Try.prog .add 3 (.tmp 39) (.const (Go.Value.int Go.IntKind.i64 1)) Ai (Go.Value.int Go.IntKind.i64 1)).bind fun t40_20 =>
k .ret ⟨#[Aa,Ab, t22_10, t40_20,Ai, t12_3,Ag,Ah,Ai, t9_1,Ai, t11_2, t12_3,Ai, t14_4,Ac, t12_3, t17_5, t18_6,Ai, t20_8, t21_9, t22_10, t12_3, t24_11, t22_10, t26_12,Ai, t28_14, t29_15, t29_15, (gdV (wt t29_15 false) Ai), t32_16, (gdV (wt t29_15 false) t32_16), (gdV (wt (gdV (wt t29_15 false) t32_16) true) t12_3), t35_17, t36_18, t37_19, t22_10,Ai, t40_20,Bs], h13⟩)) (
(binV Try.prog .add 3 (.tmp 8) (.const (Go.Value.int Go.IntKind.i64 1)) Ai (Go.Value.int Go.IntKind.i64 1)).bind fun t41_21 =>
k .normal ⟨#[Aa,Ab, t22_10,Ad,Ai, t12_3,Ag,Ah, t41_21, t9_1,Ai, t11_2, t12_3,Ai, t14_4,Ac, t12_3, t17_5, t18_6,Ai, t20_8, t21_9, t22_10, t12_3, t24_11,Bc,Bd,Be,Bf,Bg,Bh,Bi,Bj,Bk,Bl,Bm,Bn,Bo,Bp,Bq,Br, t41_21], h7⟩))) (
k (.exit 0) ⟨#[Aa,Ab,Ac,Ad,Ae,Af,Ag,Ah,Ai, t9_1,Ak,Al,An,Ao,Ap,Aq,Ar,Au,Av,Aw,Ax,Ay,Az,Ba,Bb,Bc,Bd,Be,Bf,Bg,Bh,Bi,Bj,Bk,Bl,Bm,Bn,Bo,Bp,Bq,Br,Bs], h⟩) := by kernel_rfl
theorem c96_2_eq {β : Type} (h : Heap) (k : Ex → St → Option β) : codeK Try.prog (evC Try.prog) loopL c96_2 ⟨#[Aa,Ab,Ac,Ad,Ae,Af,Ag,Ah,Ai,Aj,Ak,Al,An,Ao,Ap,Aq,Ar,Au,Av,Aw,Ax,Ay,Az,Ba,Bb,Bc,Bd,Be,Bf,Bg,Bh,Bi,Bj,Bk,Bl,Bm,Bn,Bo,Bp,Bq,Br,Bs], h⟩ k =
k .ret ⟨#[Aa,Ab, (Go.Value.int Go.IntKind.u64 0), (Go.Value.int Go.IntKind.i64 0),Ae,Af,Ag,Ah,Ai,Aj,Ak,Al,An,Ao,Ap,Aq,Ar,Au,Av,Aw,Ax,Ay,Az,Ba,Bb,Bc,Bd,Be,Bf,Bg,Bh,Bi,Bj,Bk,Bl,Bm,Bn,Bo,Bp,Bq,Br,Bs], h⟩ := by kernel_rfl
theorem call96 (h : Heap) : evC Try.prog 96 #[Aa] h = codeK Try.prog (evC Try.prog) loopL c96_0 ⟨#[Aa, undef, undef, undef, undef, undef, undef, undef, undef, undef, undef, undef, undef, undef, undef, undef, undef, undef, undef, undef, undef, undef, undef, undef, undef, undef, undef, undef, undef, undef, undef, undef, undef, undef, undef, undef, undef, undef, undef, undef, undef, undef], nm h⟩ (retK Try.f96 Try.prog h) :=
  (evC_call 96 Try.f96 c96_0 Try.func96 (by kernel_rfl) #[Aa] h).trans (by kernel_rfl)
theorem ret96 (h0 h : Heap) : retK Try.f96 Try.prog h0 .ret ⟨#[Aa,Ab,Ac,Ad,Ae,Af,Ag,Ah,Ai,Aj,Ak,Al,An,Ao,Ap,Aq,Ar,Au,Av,Aw,Ax,Ay,Az,Ba,Bb,Bc,Bd,Be,Bf,Bg,Bh,Bi,Bj,Bk,Bl,Bm,Bn,Bo,Bp,Bq,Br,Bs], h⟩ = fin h0 (some (.tuple #[Ac,Ad])) h := by kernel_rfl
theorem retn96 (h0 h : Heap) : retK Try.f96 Try.prog h0 .normal ⟨#[Aa,Ab,Ac,Ad,Ae,Af,Ag,Ah,Ai,Aj,Ak,Al,An,Ao,Ap,Aq,Ar,Au,Av,Aw,Ax,Ay,Az,Ba,Bb,Bc,Bd,Be,Bf,Bg,Bh,Bi,Bj,Bk,Bl,Bm,Bn,Bo,Bp,Bq,Br,Bs], h⟩ = fin h0 (some (.tuple #[Ac,Ad])) h := by kernel_rfl
end Go.Am
namespace Go.Am
open Go.Proofs
set_option maxRecDepth 100000
variable (Aa Ab Ac Ad Ae Af Ag Ah : Value)
noncomputable def c95_0 : Code := bodyC Try.f95 []
theorem c95_0_eq {β : Type} (h : Heap) (k : Ex → St → Option β) : codeK Try.prog (evC Try.prog) loopL c95_0 ⟨#[Aa,Ab,Ac,Ad,Ae,Af,Ag,Ah], h⟩ k =
(binV Try.prog .eql 23 (.tmp 3) (.const (Go.Value.slice Option.none 0 0)) Aa (Go.Value.slice Option.none 0 0)).bind fun t4_0 =>
cnd t4_0 (
k .ret ⟨#[Aa,Ab, (Go.Value.slice Option.none 0 0),Aa, t4_0,Af,Ag,Ah], h⟩) (
obH (buildSliceV Try.prog 23 0 #[] h) fun t5_1 h2 =>
obH (appendV Try.prog 23 (some 23) t5_1 Aa h2) fun t7_3 h4 =>
k .ret ⟨#[Aa,Ab, t7_3,Aa, t4_0, t5_1,Aa, t7_3], h4⟩) := by kernel_rfl
theorem call95 (h : Heap) : evC Try.prog 95 #[Aa] h = codeK Try.prog (evC Try.prog) loopL c95_0 ⟨#[Aa, undef, undef, undef, undef, undef, undef, undef], nm h⟩ (retK Try.f95 Try.prog h) :=
  (evC_call 95 Try.f95 c95_0 Try.func95 (by kernel_rfl) #[Aa] h).trans (by kernel_rfl)
theorem ret95 (h0 h : Heap) : retK Try.f95 Try.prog h0 .ret ⟨#[Aa,Ab,Ac,Ad,Ae,Af,Ag,Ah], h⟩ = fin h0 (some Ac) h := by kernel_rfl
theorem retn95 (h0 h : Heap) : retK Try.f95 Try.prog h0 .normal ⟨#[Aa,Ab,Ac,Ad,Ae,Af,Ag,Ah], h⟩ = fin h0 (some Ac) h := by kernel_rfl
end Go.Am
namespace Go.Am
open Go.Proofs
set_option maxRecDepth 100000
variable (Aa Ab Ac : Value)
noncomputable def c42_0 : Code := bodyC Try.f42 []
theorem c42_0_eq {β : Type} (h : Heap) (k : Ex → St → Option β) : codeK Try.prog (evC Try.prog) loopL c42_0 ⟨#[Aa,Ab,Ac], h⟩ k =
(buildV Try.prog 146 #[]).bind fun t1_0 =>
obH (boxV Try.prog 146 t1_0 h) fun t2_1 h2 =>
k .ret ⟨#[t2_1, t1_0, t2_1], h2⟩ := by kernel_rfl
theorem call42 (h : Heap) : evC Try.prog 42 #[] h = codeK Try.prog (evC Try.prog) loopL c42_0 ⟨#[undef, undef, undef], nm h⟩ (retK Try.f42 Try.prog h) :=
  (evC_call 42 Try.f42 c42_0 Try.func42 (by kernel_rfl) #[] h).trans (by kernel_rfl)
theorem ret42 (h0 h : Heap) : retK Try.f42 Try.prog h0 .ret ⟨#[Aa,Ab,Ac], h⟩ = fin h0 (some Aa) h := by kernel_rfl
theorem retn42 (h0 h : Heap) : retK Try.f42 Try.prog h0 .normal ⟨#[Aa,Ab,Ac], h⟩ = fin h0 (some Aa) h := by kernel_rfl
end Go.Am
namespace Go.Am
open Go.Proofs
set_option maxRecDepth 100000
variable (Aa Ab Ac Ad Ae Af Ag Ah Ai Aj Ak Al An : Value)
noncomputable def c43_0 : Code := bodyC Try.f43 []
theorem c43_0_eq {β : Type} (h : Heap) (k : Ex → St → Option β) : codeK Try.prog (evC Try.prog) loopL c43_0 ⟨#[Aa,Ab,Ac,Ad,Ae,Af,Ag,Ah,Ai,Aj,Ak,Al,An], h⟩ k =
(nilCheckV Aa).bind fun t6_0 =>
(fieldAddrV Try.prog 146 t6_0 0).bind fun t7_1 =>
(loadV Try.prog 23 t7_1 h).bind fun t8_2 =>
obH (evC Try.prog 94 #[t8_2,Ab] h) fun t10_3 h4 =>
(nilCheckV Aa).bind fun t11_5 =>
(fieldAddrV Try.prog 146 t11_5 0).bind fun t12_6 =>
(storeV Try.prog 23 t12_6 t10_3 h4).bind fun h7 =>
k .normal ⟨#[Aa,Ab,Ac,Ad,Aa,Aa, t6_0, t7_1, t8_2,Ab, t10_3, t11_5, t12_6], h7⟩ := by kernel_rfl
theorem call43 (h : Heap) : evC Try.prog 43 #[Aa,Ab] h = codeK Try.prog (evC Try.prog) loopL c43_0 ⟨#[Aa,Ab, undef, undef, undef, undef, undef, undef, undef, undef, undef, undef, undef], nm h⟩ (retK Try.f43 Try.prog h) :=
  (evC_call 43 Try.f43 c43_0 Try.func43 (by kernel_rfl) #[Aa,Ab] h).trans (by kernel_rfl)
theorem ret43 (h0 h : Heap) : retK Try.f43 Try.prog h0 .ret ⟨#[Aa,Ab,Ac,Ad,Ae,Af,Ag,Ah,Ai,Aj,Ak,Al,An], h⟩ = fin h0 (some (.tuple #[])) h := by kernel_rfl
theorem retn43 (h0 h : Heap) : retK Try.f43 Try.prog h0 .normal ⟨#[Aa,Ab,Ac,Ad,Ae,Af,Ag,Ah,Ai,Aj,Ak,Al,An], h⟩ = fin h0 (some (.tuple #[])) h := by kernel_rfl
end Go.Am
namespace Go.Am
open Go.Proofs
set_option maxRecDepth 100000
variable (Aa Ab Ac Ad Ae Af Ag Ah Ai Aj Ak Al An Ao Ap Aq Ar Au : Value)
noncomputable def c61_0 : Code := bodyC Try.f61 []
theorem c61_0_eq {β : Type} (h : Heap) (k : Ex → St → Option β) : codeK Try.prog (evC Try.prog) loopL c61_0 ⟨#[Aa,Ab,Ac,Ad,Ae,Af,Ag,Ah,Ai,Aj,Ak,Al,An,Ao,Ap,Aq,Ar,Au], h⟩ k =
(lenV Try.prog 23 Ab h).bind fun t6_0 =>
obH (convV Try.prog 3 46 t6_0 h) fun t7_1 h2 =>
obH (evC Try.prog 43 #[Aa, t7_1] h2) fun t8_3 h4 =>
(nilCheckV Aa).bind fun t11_5 =>
(fieldAddrV Try.prog 146 t11_5 0).bind fun t12_6 =>
(loadV Try.prog 23 t12_6 h4).bind fun t13_7 =>
obH (appendV Try.prog 23 (some 23) t13_7 Ab h4) fun t15_8 h9 =>
(nilCheckV Aa).bind fun t16_10 =>
(fieldAddrV Try.prog 146 t16_10 0).bind fun t17_11 =>
(storeV Try.prog 23 t17_11 t15_8 h9).bind fun h12 =>
k .normal ⟨#[Aa,Ab,Ac,Ad,Aa,Ab, t6_0, t7_1, t8_3,Aa,Aa, t11_5, t12_6, t13_7,Ab, t15_8, t16_10, t17_11], h12⟩ := by kernel_rfl
theorem call61 (h : Heap) : evC Try.prog 61 #[Aa,Ab] h = codeK Try.prog (evC Try.prog) loopL c61_0 ⟨#[Aa,Ab, undef, undef, undef, undef, undef, undef, undef, undef, undef, undef, undef, undef, undef, undef, undef, undef], nm h⟩ (retK Try.f61 Try.prog h) :=
  (evC_call 61 Try.f61 c61_0 Try.func61 (by kernel_rfl) #[Aa,Ab] h).trans (by kernel_rfl)
theorem ret61 (h0 h : Heap) : retK Try.f61 Try.prog h0 .ret ⟨#[Aa,Ab,Ac,Ad,Ae,Af,Ag,Ah,Ai,Aj,Ak,Al,An,Ao,Ap,Aq,Ar,Au], h⟩ = fin h0 (some (.tuple #[])) h := by kernel_rfl
theorem retn61 (h0 h : Heap) : retK Try.f61 Try.prog h0 .normal ⟨#[Aa,Ab,Ac,Ad,Ae,Af,Ag,Ah,Ai,Aj,Ak,Al,An,Ao,Ap,Aq,Ar,Au], h⟩ = fin h0 (some (.tuple #[])) h := by kernel_rfl
end Go.Am
namespace Go.Am
open Go.Proofs
set_option maxRecDepth 100000
variable (Aa Ab Ac Ad Ae Af Ag Ah : Value)
noncomputable def c44_0 : Code := bodyC Try.f44 []
theorem c44_0_eq {β : Type} (h : Heap) (k : Ex → St → Option β) : codeK Try.prog (evC Try.prog) loopL c44_0 ⟨#[Aa,Ab,Ac,Ad,Ae,Af,Ag,Ah], h⟩ k =
(nilCheckV Aa).bind fun t4_0 =>
(fieldAddrV Try.prog 146 t4_0 0).bind fun t5_1 =>
(loadV Try.prog 23 t5_1 h).bind fun t6_2 =>
obH (evC Try.prog 95 #[t6_2] h) fun t7_3 h4 =>
k .ret ⟨#[Aa,Ab, t7_3,Aa, t4_0, t5_1, t6_2, t7_3], h4⟩ := by kernel_rfl
theorem call44 (h : Heap) : evC Try.prog 44 #[Aa] h = codeK Try.prog (evC Try.prog) loopL c44_0 ⟨#[Aa, undef, undef, undef, undef, undef, undef, undef], nm h⟩ (retK Try.f44 Try.prog h) :=
  (evC_call 44 Try.f44 c44_0 Try.func44 (by kernel_rfl) #[Aa] h).trans (by kernel_rfl)
theorem ret44 (h0 h : Heap) : retK Try.f44 Try.prog h0 .ret ⟨#[Aa,Ab,Ac,Ad,Ae,Af,Ag,Ah], h⟩ = fin h0 (some Ac) h := by kernel_rfl
theorem retn44 (h0 h : Heap) : retK Try.f44 Try.prog h0 .normal ⟨#[Aa,Ab,Ac,Ad,Ae,Af,Ag,Ah], h⟩ = fin h0 (some Ac) h := by kernel_rfl
end Go.Am
namespace Go.Am
open Go.Proofs
set_option maxRecDepth 100000
variable (Aa Ab Ac Ad Ae Af Ag : Value)
noncomputable def c45_0 : Code := bodyC Try.f45 []
theorem c45_0_eq {β : Type} (h : Heap) (k : Ex → St → Option β) : codeK Try.prog (evC Try.prog) loopL c45_0 ⟨#[Aa,Ab,Ac,Ad,Ae,Af,Ag], h⟩ k =
obH (evC Try.prog 95 #[Aa] h) fun t4_0 h1 =>
(buildV Try.prog 150 #[(0, t4_0)]).bind fun t5_2 =>
obH (boxV Try.prog 150 t5_2 h1) fun t6_3 h4 =>
k .ret ⟨#[Aa,Ab, t6_3,Aa, t4_0, t5_2, t6_3], h4⟩ := by kernel_rfl
theorem call45 (h : Heap) : evC Try.prog 45 #[Aa] h = codeK Try.prog (evC Try.prog) loopL c45_0 ⟨#[Aa, undef, undef, undef, undef, undef, undef], nm h⟩ (retK Try.f45 Try.prog h) :=
  (evC_call 45 Try.f45 c45_0 Try.func45 (by kernel_rfl) #[Aa] h).trans (by kernel_rfl)
theorem ret45 (h0 h : Heap) : retK Try.f45 Try.prog h0 .ret ⟨#[Aa,Ab,Ac,Ad,Ae,Af,Ag], h⟩ = fin h0 (some Ac) h := by kernel_rfl
theorem retn45 (h0 h : Heap) : retK Try.f45 Try.prog h0 .normal ⟨#[Aa,Ab,Ac,Ad,Ae,Af,Ag], h⟩ = fin h0 (some Ac) h := by kernel_rfl
end Go.Am
namespace Go.Am
open Go.Proofs
set_option maxRecDepth 100000
variable (Aa Ab Ac Ad Ae Af Ag Ah Ai Aj Ak Al An Ao Ap Aq Ar Au Av Aw Ax Ay Az Ba Bb Bc Bd Be Bf Bg Bh Bi Bj Bk : Value)
noncomputable def c46_0 : Code := bodyC Try.f46 []
theorem c46_0_eq {β : Type} (h : Heap) (k : Ex → St → Option β) : codeK Try.prog (evC Try.prog) loopL c46_0 ⟨#[Aa,Ab,Ac,Ad,Ae,Af,Ag,Ah,Ai,Aj,Ak,Al,An,Ao,Ap,Aq,Ar,Au,Av,Aw,Ax,Ay,Az,Ba,Bb,Bc,Bd,Be,Bf,Bg,Bh,Bi,Bj,Bk], h⟩ k =
(nilCheckV Aa).bind fun t9_0 =>
(fieldAddrV Try.prog 150 t9_0 0).bind fun t10_1 =>
(loadV Try.prog 23 t10_1 h).bind fun t11_2 =>
obH (evC Try.prog 96 #[t11_2] h) fun t12_3 h4 =>
(extractV t12_3 0).bind fun t13_5 =>
(extractV t12_3 1).bind fun t14_6 =>
(binV Try.prog .eql 3 (.tmp 16) (.const (Go.Value.int Go.IntKind.i64 0)) t14_6 (Go.Value.int Go.IntKind.i64 0)).bind fun t17_7 =>
(gd (wt t17_7 false) (binV Try.prog .gtr 46 (.tmp 19) (.tmp 20) (gdV (wt t17_7 false) t13_5) (gdV (wt t17_7 false) Ab))).bind fun t21_8 =>
(pickV t17_7 (Go.Value.bool Bool.true) t21_8).bind fun t22_9 =>
obH (evC Try.prog 97 #[Aa, t22_9] h4) fun t23_10 h11 =>
cnd t23_10 (
k .ret ⟨#[Aa,Ab,Ac,Ad, (Go.Value.int Go.IntKind.u64 0), t13_5, t14_6, t12_3,Aa, t9_0, t10_1, t11_2, t12_3, t13_5, t14_6,Aa, t14_6, t17_7, t17_7, (gdV (wt t17_7 false) t13_5), (gdV (wt t17_7 false) Ab), t21_8, t22_9, t23_10,Bb,Bc,Bd,Be,Bf,Bg,Bh,Bi,Bj,Bk], h11⟩) (
(nilCheckV Aa).bind fun t26_12 =>
(fieldAddrV Try.prog 150 t26_12 0).bind fun t27_13 =>
(loadV Try.prog 23 t27_13 h11).bind fun t28_14 =>
(sliceV Try.prog 23 t28_14 (some t14_6) none none h11).bind fun t30_15 =>
(nilCheckV Aa).bind fun t31_16 =>
(fieldAddrV Try.prog 150 t31_16 0).bind fun t32_17 =>
(storeV Try.prog 23 t32_17 t30_15 h11).bind fun h18 =>
k .ret ⟨#[Aa,Ab,Ac,Ad, t13_5, t13_5, t14_6, t12_3,Aa, t9_0, t10_1, t11_2, t12_3, t13_5, t14_6,Aa, t14_6, t17_7, t17_7, (gdV (wt t17_7 false) t13_5), (gdV (wt t17_7 false) Ab), t21_8, t22_9, t23_10,Aa,Aa, t26_12, t27_13, t28_14, t14_6, t30_15, t31_16, t32_17, t13_5], h18⟩) := by kernel_rfl
theorem call46 (h : Heap) : evC Try.prog 46 #[Aa,Ab] h = codeK Try.prog (evC Try.prog) loopL c46_0 ⟨#[Aa,Ab, undef, undef, undef, undef, undef, undef, undef, undef, undef, undef, undef, undef, undef, undef, undef, undef, undef, undef, undef, undef, undef, undef, undef, undef, undef, undef, undef, undef, undef, undef, undef, undef], nm h⟩ (retK Try.f46 Try.prog h) :=
  (evC_call 46 Try.f46 c46_0 Try.func46 (by kernel_rfl) #[Aa,Ab] h).trans (by kernel_rfl)
theorem ret46 (h0 h : Heap) : retK Try.f46 Try.prog h0 .ret ⟨#[Aa,Ab,Ac,Ad,Ae,Af,Ag,Ah,Ai,Aj,Ak,Al,An,Ao,Ap,Aq,Ar,Au,Av,Aw,Ax,Ay,Az,Ba,Bb,Bc,Bd,Be,Bf,Bg,Bh,Bi,Bj,Bk], h⟩ = fin h0 (some Ae) h := by kernel_rfl
theorem retn46 (h0 h : Heap) : retK Try.f46 Try.prog h0 .normal ⟨#[Aa,Ab,Ac,Ad,Ae,Af,Ag,Ah,Ai,Aj,Ak,Al,An,Ao,Ap,Aq,Ar,Au,Av,Aw,Ax,Ay,Az,Ba,Bb,Bc,Bd,Be,Bf,Bg,Bh,Bi,Bj,Bk], h⟩ = fin h0 (some Ae) h := by kernel_rfl
end Go.Am
namespace Go.Am
open Go.Proofs
set_option maxRecDepth 100000
variable (Aa Ab Ac Ad Ae Af Ag Ah Ai Aj Ak Al An Ao Ap : Value)
noncomputable def c54_0 : Code := bodyC Try.f54 []
theorem c54_0_eq {β : Type} (h : Heap) (k : Ex → St → Option β) : codeK Try.prog (evC Try.prog) loopL c54_0 ⟨#[Aa,Ab,Ac,Ad,Ae,Af,Ag,Ah,Ai,Aj,Ak,Al,An,Ao,Ap], h⟩ k =
obH (builtinV Try.prog .max #[3, 3] #[Ab, (Go.Value.int Go.IntKind.i64 0)] h) fun t8_0 h1 =>
obH (convV Try.prog 3 46 t8_0 h1) fun t9_2 h3 =>
obH (evC Try.prog 46 #[Aa, t9_2] h3) fun t10_4 h5 =>
obH (evC Try.prog 102 #[Aa, t10_4] h5) fun t13_6 h7 =>
obH (evC Try.prog 95 #[t13_6] h7) fun t14_8 h9 =>
k .ret ⟨#[Aa,Ab,Ac,Ad, t14_8, t10_4,Aa,Ab, t8_0, t9_2, t10_4,Aa, t10_4, t13_6, t14_8], h9⟩ := by kernel_rfl
theorem call54 (h : Heap) : evC Try.prog 54 #[Aa,Ab] h = codeK Try.prog (evC Try.prog) loopL c54_0 ⟨#[Aa,Ab, undef, undef, undef, undef, undef, undef, undef, undef, undef, undef, undef, undef, undef], nm h⟩ (retK Try.f54 Try.prog h) :=
  (evC_call 54 Try.f54 c54_0 Try.func54 (by kernel_rfl) #[Aa,Ab] h).trans (by kernel_rfl)
theorem ret54 (h0 h : Heap) : retK Try.f54 Try.prog h0 .ret ⟨#[Aa,Ab,Ac,Ad,Ae,Af,Ag,Ah,Ai,Aj,Ak,Al,An,Ao,Ap], h⟩ = fin h0 (some Ae) h := by kernel_rfl
theorem retn54 (h0 h : Heap) : retK Try.f54 Try.prog h0 .normal ⟨#[Aa,Ab,Ac,Ad,Ae,Af,Ag,Ah,Ai,Aj,Ak,Al,An,Ao,Ap], h⟩ = fin h0 (some Ae) h := by kernel_rfl
end Go.Am
namespace Go.Am
open Go.Proofs
set_option maxRecDepth 100000
variable (Aa Ab Ac Ad Ae Af Ag Ah Ai Aj Ak Al An Ao Ap Aq : Value)
noncomputable def c47_0 : Code := bodyC Try.f47 []
theorem c47_0_eq {β : Type} (h : Heap) (k : Ex → St → Option β) : codeK Try.prog (evC Try.prog) loopL c47_0 ⟨#[Aa,Ab,Ac,Ad,Ae,Af,Ag,Ah,Ai,Aj,Ak,Al,An,Ao,Ap,Aq], h⟩ k =
(nilCheckV Aa).bind fun t4_0 =>
(fieldAddrV Try.prog 150 t4_0 1).bind fun t5_1 =>
(loadV Try.prog 4 t5_1 h).bind fun t6_2 =>
(unV Try.prog .not t6_2).bind fun t7_3 =>
(gd (wt t7_3 true) (nilCheckV (gdV (wt t7_3 true) Aa))).bind fun t10_4 =>
(gd (wt t7_3 true) (fieldAddrV Try.prog 150 t10_4 0)).bind fun t11_5 =>
(gd (wt t7_3 true) (loadV Try.prog 23 t11_5 h)).bind fun t12_6 =>
(gd (wt t7_3 true) (lenV Try.prog 23 t12_6 h)).bind fun t13_7 =>
(gd (wt t7_3 true) (binV Try.prog .eql 3 (.tmp 13) (.const (Go.Value.int Go.IntKind.i64 0)) t13_7 (Go.Value.int Go.IntKind.i64 0))).bind fun t14_8 =>
(pickV t7_3 t14_8 (Go.Value.bool Bool.false)).bind fun t15_9 =>
k .ret ⟨#[Aa,Ab, t15_9,Aa, t4_0, t5_1, t6_2, t7_3, t7_3, (gdV (wt t7_3 true) Aa), t10_4, t11_5, t12_6, t13_7, t14_8, t15_9], h⟩ := by kernel_rfl
theorem call47 (h : Heap) : evC Try.prog 47 #[Aa] h = codeK Try.prog (evC Try.prog) loopL c47_0 ⟨#[Aa, undef, undef, undef, undef, undef, undef, undef, undef, undef, undef, undef, undef, undef, undef, undef], nm h⟩ (retK Try.f47 Try.prog h) :=
  (evC_call 47 Try.f47 c47_0 Try.func47 (by kernel_rfl) #[Aa] h).trans (by kernel_rfl)
theorem ret47 (h0 h : Heap) : retK Try.f47 Try.prog h0 .ret ⟨#[Aa,Ab,Ac,Ad,Ae,Af,Ag,Ah,Ai,Aj,Ak,Al,An,Ao,Ap,Aq], h⟩ = fin h0 (some Ac) h := by kernel_rfl
theorem retn47 (h0 h : Heap) : retK Try.f47 Try.prog h0 .normal ⟨#[Aa,Ab,Ac,Ad,Ae,Af,Ag,Ah,Ai,Aj,Ak,Al,An,Ao,Ap,Aq], h⟩ = fin h0 (some Ac) h := by kernel_rfl
end Go.Am
namespace Go.Am
open Go.Proofs
set_option maxRecDepth 100000
variable (Aa Ab Ac Ad Ae Af Ag Ah Ai Aj Ak Al An Ao Ap Aq : Value)
noncomputable def c97_0 : Code := bodyC Try.f97 []
noncomputable def c97_1 : Code := bodyC Try.f97 [true, true]
theorem c97_0_eq {β : Type} (h : Heap) (k : Ex → St → Option β) : codeK Try.prog (evC Try.prog) loopL c97_0 ⟨#[Aa,Ab,Ac,Ad,Ae,Af,Ag,Ah,Ai,Aj,Ak,Al,An,Ao,Ap,Aq], h⟩ k =
cnd Ab (
(nilCheckV Aa).bind fun t8_0 =>
(fieldAddrV Try.prog 150 t8_0 0).bind fun t9_1 =>
(storeV Try.prog 23 t9_1 (Go.Value.slice Option.none 0 0) h).bind fun h2 =>
(nilCheckV Aa).bind fun t10_3 =>
(fieldAddrV Try.prog 150 t10_3 1).bind fun t11_4 =>
(storeV Try.prog 4 t11_4 (Go.Value.bool Bool.true) h2).bind fun h5 =>
codeK Try.prog (evC Try.prog) loopL c97_1 ⟨#[Aa,Ab,Ac,Ad, (Go.Value.bool Bool.false),Ab,Aa,Aa, t8_0, t9_1, t10_3, t11_4,An,Ao,Ap,Aq], h5⟩ k) (
codeK Try.prog (evC Try.prog) loopL c97_1 ⟨#[Aa,Ab,Ac,Ad, (Go.Value.bool Bool.false),Ab,Ag,Ah,Ai,Aj,Ak,Al,An,Ao,Ap,Aq], h⟩ k) := by kernel_rfl
theorem c97_1_eq {β : Type} (h : Heap) (k : Ex → St → Option β) : codeK Try.prog (evC Try.prog) loopL c97_1 ⟨#[Aa,Ab,Ac,Ad,Ae,Af,Ag,Ah,Ai,Aj,Ak,Al,An,Ao,Ap,Aq], h⟩ k =
(nilCheckV Aa).bind fun t13_6 =>
(fieldAddrV Try.prog 150 t13_6 1).bind fun t14_7 =>
(loadV Try.prog 4 t14_7 h).bind fun t15_8 =>
k .ret ⟨#[Aa,Ab,Ac,Ad, t15_8,Af,Ag,Ah,Ai,Aj,Ak,Al,Aa, t13_6, t14_7, t15_8], h⟩ := by kernel_rfl
theorem call97 (h : Heap) : evC Try.prog 97 #[Aa,Ab] h = codeK Try.prog (evC Try.prog) loopL c97_0 ⟨#[Aa,Ab, undef, undef, undef, undef, undef, undef, undef, undef, undef, undef, undef, undef, undef, undef], nm h⟩ (retK Try.f97 Try.prog h) :=
  (evC_call 97 Try.f97 c97_0 Try.func97 (by kernel_rfl) #[Aa,Ab] h).trans (by kernel_rfl)
theorem ret97 (h0 h : Heap) : retK Try.f97 Try.prog h0 .ret ⟨#[Aa,Ab,Ac,Ad,Ae,Af,Ag,Ah,Ai,Aj,Ak,Al,An,Ao,Ap,Aq], h⟩ = fin h0 (some Ae) h := by kernel_rfl
theorem retn97 (h0 h : Heap) : retK Try.f97 Try.prog h0 .normal ⟨#[Aa,Ab,Ac,Ad,Ae,Af,Ag,Ah,Ai,Aj,Ak,Al,An,Ao,Ap,Aq], h⟩ = fin h0 (some Ae) h := by kernel_rfl
end Go.Am
namespace Go.Am
open Go.Proofs
set_option maxRecDepth 100000
variable (Aa Ab Ac Ad Ae Af Ag Ah Ai Aj Ak Al An Ao Ap Aq Ar Au Av Aw Ax Ay Az Ba Bb Bc Bd Be Bf Bg Bh Bi : Value)
noncomputable def c102_0 : Code := bodyC Try.f102 []
theorem c102_0_eq {β : Type} (h : Heap) (k : Ex → St → Option β) : codeK Try.prog (evC Try.prog) loopL c102_0 ⟨#[Aa,Ab,Ac,Ad,Ae,Af,Ag,Ah,Ai,Aj,Ak,Al,An,Ao,Ap,Aq,Ar,Au,Av,Aw,Ax,Ay,Az,Ba,Bb,Bc,Bd,Be,Bf,Bg,Bh,Bi], h⟩ k =
(nilCheckV Aa).bind fun t9_0 =>
(fieldAddrV Try.prog 150 t9_0 0).bind fun t10_1 =>
(loadV Try.prog 23 t10_1 h).bind fun t11_2 =>
(lenV Try.prog 23 t11_2 h).bind fun t12_3 =>
obH (convV Try.prog 3 46 t12_3 h) fun t13_4 h5 =>
(binV Try.prog .gtr 46 (.tmp 7) (.tmp 13) Ab t13_4).bind fun t14_6 =>
obH (evC Try.prog 97 #[Aa, t14_6] h5) fun t15_7 h8 =>
cnd t15_7 (
k .ret ⟨#[Aa,Ab,Ac,Ad, (Go.Value.slice Option.none 0 0),Af,Aa,Ab,Aa, t9_0, t10_1, t11_2, t12_3, t13_4, t14_6, t15_7,Ar,Au,Av,Aw,Ax,Ay,Az,Ba,Bb,Bc,Bd,Be,Bf,Bg,Bh,Bi], h8⟩) (
(nilCheckV Aa).bind fun t17_9 =>
(fieldAddrV Try.prog 150 t17_9 0).bind fun t18_10 =>
(loadV Try.prog 23 t18_10 h8).bind fun t19_11 =>
(sliceV Try.prog 23 t19_11 none (some Ab) none h8).bind fun t21_12 =>
(nilCheckV Aa).bind fun t24_13 =>
(fieldAddrV Try.prog 150 t24_13 0).bind fun t25_14 =>
(loadV Try.prog 23 t25_14 h8).bind fun t26_15 =>
(sliceV Try.prog 23 t26_15 (some Ab) none none h8).bind fun t28_16 =>
(nilCheckV Aa).bind fun t29_17 =>
(fieldAddrV Try.prog 150 t29_17 0).bind fun t30_18 =>
(storeV Try.prog 23 t30_18 t28_16 h8).bind fun h19 =>
k .ret ⟨#[Aa,Ab,Ac,Ad, t21_12, t21_12,Aa,Ab,Aa, t9_0, t10_1, t11_2, t12_3, t13_4, t14_6, t15_7,Aa, t17_9, t18_10, t19_11,Ab, t21_12,Aa,Aa, t24_13, t25_14, t26_15,Ab, t28_16, t29_17, t30_18, t21_12], h19⟩) := by kernel_rfl
theorem call102 (h : Heap) : evC Try.prog 102 #[Aa,Ab] h = codeK Try.prog (evC Try.prog) loopL c102_0 ⟨#[Aa,Ab, undef, undef, undef, undef, undef, undef, undef, undef, undef, undef, undef, undef, undef, undef, undef, undef, undef, undef, undef, undef, undef, undef, undef, undef, undef, undef, undef, undef, undef, undef], nm h⟩ (retK Try.f102 Try.prog h) :=
  (evC_call 102 Try.f102 c102_0 Try.func102 (by kernel_rfl) #[Aa,Ab] h).trans (by kernel_rfl)
theorem ret102 (h0 h : Heap) : retK Try.f102 Try.prog h0 .ret ⟨#[Aa,Ab,Ac,Ad,Ae,Af,Ag,Ah,Ai,Aj,Ak,Al,An,Ao,Ap,Aq,Ar,Au,Av,Aw,Ax,Ay,Az,Ba,Bb,Bc,Bd,Be,Bf,Bg,Bh,Bi], h⟩ = fin h0 (some Ae) h := by kernel_rfl
theorem retn102 (h0 h : Heap) : retK Try.f102 Try.prog h0 .normal ⟨#[Aa,Ab,Ac,Ad,Ae,Af,Ag,Ah,Ai,Aj,Ak,Al,An,Ao,Ap,Aq,Ar,Au,Av,Aw,Ax,Ay,Az,Ba,Bb,Bc,Bd,Be,Bf,Bg,Bh,Bi], h⟩ = fin h0 (some Ae) h := by kernel_rfl
end Go.Am
namespace Go.Am
open Go.Proofs
set_option maxRecDepth 100000
variable (Aa Ab Ac Ad Ae Af Ag Ah Ai Aj Ak Al An Ao Ap Aq Ar Au Av Aw Ax Ay Az Ba : Value)
noncomputable def c106_0 : Code := bodyC Try.f106 []
noncomputable def c106_1 : Code := bodyC Try.f106 [true, true, false, false, false]
noncomputable def c106_2 : Code := bodyC Try.f106 [true, true, true]
theorem c106_0_eq {β : Type} (h : Heap) (k : Ex → St → Option β) : codeK Try.prog (evC Try.prog) loopL c106_0 ⟨#[Aa,Ab,Ac,Ad,Ae,Af,Ag,Ah,Ai,Aj,Ak,Al,An,Ao,Ap,Aq,Ar,Au,Av,Aw,Ax,Ay,Az,Ba], h⟩ k =
obH (buildSliceV Try.prog 23 0 #[] h) fun t5_0 h1 =>
obH (appendV Try.prog 23 (some 23) t5_0 Aa h1) fun t7_2 h3 =>
loopK Try.prog (evC Try.prog) c106_1 ⟨#[t7_2,Ab,Ac,Ad, (Go.Value.slice Option.none 0 0), t5_0,Aa, t7_2,Ai,Aj,Ak,Al,An,Ao,Ap,Aq,Ar,Au,Av,Aw,Ax,Ay,Az,Ba], h3⟩ (blockK 0 (seqK Try.prog (evC Try.prog) c106_2 k)) := by kernel_rfl
theorem c106_1_eq {β : Type} (h : Heap) (k : Ex → St → Option β) : codeK Try.prog (evC Try.prog) loopL c106_1 ⟨#[Aa,Ab,Ac,Ad,Ae,Af,Ag,Ah,Ai,Aj,Ak,Al,An,Ao,Ap,Aq,Ar,Au,Av,Aw,Ax,Ay,Az,Ba], h⟩ k =
(binV Try.prog .geq 46 (.tmp 8) (.const (Go.Value.int Go.IntKind.u64 128)) Ab (Go.Value.int Go.IntKind.u64 128)).bind fun t9_4 =>
cnd t9_4 (
(binV Try.prog .rem 46 (.tmp 11) (.const (Go.Value.int Go.IntKind.u64 128)) Ab (Go.Value.int Go.IntKind.u64 128)).bind fun t12_5 =>
obH (convV Try.prog 46 5 t12_5 h) fun t13_6 h7 =>
(binV Try.prog .add 5 (.tmp 13) (.const (Go.Value.int Go.IntKind.u8 128)) t13_6 (Go.Value.int Go.IntKind.u8 128)).bind fun t14_8 =>
obH (buildSliceV Try.prog 23 1 #[(0, t14_8)] h7) fun t15_9 h10 =>
obH (appendV Try.prog 23 (some 23) Aa t15_9 h10) fun t16_11 h12 =>
(binV Try.prog .quo 46 (.tmp 17) (.const (Go.Value.int Go.IntKind.u64 128)) Ab (Go.Value.int Go.IntKind.u64 128)).bind fun t18_13 =>
k .normal ⟨#[t16_11, t18_13,Ac,Ad,Ae,Af,Ag,Ah,Ab, t9_4,Aa,Ab, t12_5, t13_6, t14_8, t15_9, t16_11,Ab, t18_13,Aw,Ax,Ay,Az,Ba], h12⟩) (
k (.exit 0) ⟨#[Aa,Ab,Ac,Ad,Ae,Af,Ag,Ah,Ab, t9_4,Ak,Al,An,Ao,Ap,Aq,Ar,Au,Av,Aw,Ax,Ay,Az,Ba], h⟩) := by kernel_rfl
theorem c106_2_eq {β : Type} (h : Heap) (k : Ex → St → Option β) : codeK Try.prog (evC Try.prog) loopL c106_2 ⟨#[Aa,Ab,Ac,Ad,Ae,Af,Ag,Ah,Ai,Aj,Ak,Al,An,Ao,Ap,Aq,Ar,Au,Av,Aw,Ax,Ay,Az,Ba], h⟩ k =
obH (convV Try.prog 46 5 Ab h) fun t21_14 h15 =>
obH (buildSliceV Try.prog 23 1 #[(0, t21_14)] h15) fun t22_16 h17 =>
obH (appendV Try.prog 23 (some 23) Aa t22_16 h17) fun t23_18 h19 =>
k .ret ⟨#[Aa,Ab,Ac,Ad, t23_18,Af,Ag,Ah,Ai,Aj,Ak,Al,An,Ao,Ap,Aq,Ar,Au,Av,Aa,Ab, t21_14, t22_16, t23_18], h19⟩ := by kernel_rfl
theorem call106 (h : Heap) : evC Try.prog 106 #[Aa,Ab] h = codeK Try.prog (evC Try.prog) loopL c106_0 ⟨#[Aa,Ab, undef, undef, undef, undef, undef, undef, undef, undef, undef, undef, undef, undef, undef, undef, undef, undef, undef, undef, undef, undef, undef, undef], nm h⟩ (retK Try.f106 Try.prog h) :=
  (evC_call 106 Try.f106 c106_0 Try.func106 (by kernel_rfl) #[Aa,Ab] h).trans (by kernel_rfl)
theorem ret106 (h0 h : Heap) : retK Try.f106 Try.prog h0 .ret ⟨#[Aa,Ab,Ac,Ad,Ae,Af,Ag,Ah,Ai,Aj,Ak,Al,An,Ao,Ap,Aq,Ar,Au,Av,Aw,Ax,Ay,Az,Ba], h⟩ = fin h0 (some Ae) h := by kernel_rfl
theorem retn106 (h0 h : Heap) : retK Try.f106 Try.prog h0 .normal ⟨#[Aa,Ab,Ac,Ad,Ae,Af,Ag,Ah,Ai,Aj,Ak,Al,An,Ao,Ap,Aq,Ar,Au,Av,Aw,Ax,Ay,Az,Ba], h⟩ = fin h0 (some Ae) h := by kernel_rfl
end Go.Am
namespace Go.Am
open Go.Proofs
set_option maxRecDepth 100000
variable (Aa Ab Ac Ad Ae Af Ag Ah Ai Aj Ak Al An Ao Ap Aq Ar Au Av Aw Ax Ay Az Ba Bb Bc Bd Be Bf Bg Bh Bi Bj Bk Bl Bm Bn Bo Bp Bq Br Bs Bt Bu Bv Bw Bx : Value)
noncomputable def c98_0 : Code := bodyC Try.f98 []
noncomputable def c98_1 : Code := bodyC Try.f98 [true, true, false, true, false, false]
noncomputable def c98_2 : Code := bodyC Try.f98 [true, true, true]
theorem c98_0_eq {β : Type} (h : Heap) (k : Ex → St → Option β) : codeK Try.prog (evC Try.prog) loopL c98_0 ⟨#[Aa,Ab,Ac,Ad,Ae,Af,Ag,Ah,Ai,Aj,Ak,Al,An,Ao,Ap,Aq,Ar,Au,Av,Aw,Ax,Ay,Az,Ba,Bb,Bc,Bd,Be,Bf,Bg,Bh,Bi,Bj,Bk,Bl,Bm,Bn,Bo,Bp,Bq,Br,Bs,Bt,Bu,Bv,Bw,Bx], h⟩ k =
loopK Try.prog (evC Try.prog) c98_1 ⟨#[Aa,Ab, (Go.Value.int Go.IntKind.u64 0), (Go.Value.int Go.IntKind.i64 0), (Go.Value.int Go.IntKind.u64 0), (Go.Value.int Go.IntKind.i64 0),Ag,Ah,Ai,Aj,Ak,Al,An,Ao,Ap,Aq,Ar,Au,Av,Aw,Ax,Ay,Az,Ba,Bb,Bc,Bd,Be,Bf,Bg,Bh,Bi,Bj,Bk,Bl,Bm,Bn,Bo,Bp,Bq,Br,Bs,Bt,Bu,Bv,Bw,Bx], h⟩ (blockK 0 (seqK Try.prog (evC Try.prog) c98_2 k)) := by kernel_rfl
theorem c98_1_eq {β : Type} (h : Heap) (k : Ex → St → Option β) : codeK Try.prog (evC Try.prog) loopL c98_1 ⟨#[Aa,Ab,Ac,Ad,Ae,Af,Ag,Ah,Ai,Aj,Ak,Al,An,Ao,Ap,Aq,Ar,Au,Av,Aw,Ax,Ay,Az,Ba,Bb,Bc,Bd,Be,Bf,Bg,Bh,Bi,Bj,Bk,Bl,Bm,Bn,Bo,Bp,Bq,Br,Bs,Bt,Bu,Bv,Bw,Bx], h⟩ k =
(lenV Try.prog 23 Aa h).bind fun t9_0 =>
(binV Try.prog .lss 3 (.tmp 7) (.tmp 9) Af t9_0).bind fun t10_1 =>
(gd (wt t10_1 true) (binV Try.prog .lss 3 (.tmp 12) (.const (Go.Value.int Go.IntKind.i64 10)) (gdV (wt t10_1 true) Af) (Go.Value.int Go.IntKind.i64 10))).bind fun t13_2 =>
(pickV t10_1 t13_2 (Go.Value.bool Bool.false)).bind fun t14_3 =>
cnd t14_3 (
(indexAddrV Try.prog 23 Aa Af).bind fun t19_4 =>
(loadV Try.prog 5 t19_4 h).bind fun t20_5 =>
(binV Try.prog .eql 3 (.tmp 21) (.const (Go.Value.int Go.IntKind.i64 9)) Af (Go.Value.int Go.IntKind.i64 9)).bind fun t22_6 =>
(gd (wt t22_6 true) (binV Try.prog .gtr 5 (.tmp 24) (.const (Go.Value.int Go.IntKind.u8 1)) (gdV (wt t22_6 true) t20_5) (Go.Value.int Go.IntKind.u8 1))).bind fun t25_7 =>
(pickV t22_6 t25_7 (Go.Value.bool Bool.false)).bind fun t26_8 =>
cnd t26_8 (
k .ret ⟨#[Aa,Ab, (Go.Value.int Go.IntKind.u64 0), (Go.Value.int Go.IntKind.i64 0),Ae,Af, t20_5,Af,Aa, t9_0, t10_1, t10_1, (gdV (wt t10_1 true) Af), t13_2, t14_3,Aq,Ar,Aa,Af, t19_4, t20_5,Af, t22_6, t22_6, (gdV (wt t22_6 true) t20_5), t25_7, t26_8,Be,Bf,Bg,Bh,Bi,Bj,Bk,Bl,Bm,Bn,Bo,Bp,Bq,Br,Bs,Bt,Bu,Bv,Bw,Bx], h⟩) (
(binV Try.prog .and 5 (.tmp 28) (.const (Go.Value.int Go.IntKind.u8 127)) t20_5 (Go.Value.int Go.IntKind.u8 127)).bind fun t29_9 =>
obH (convV Try.prog 5 46 t29_9 h) fun t30_10 h11 =>
(binV Try.prog .mul 3 (.const (Go.Value.int Go.IntKind.i64 7)) (.tmp 31) (Go.Value.int Go.IntKind.i64 7) Af).bind fun t32_12 =>
obH (convV Try.prog 3 138 t32_12 h11) fun t33_13 h14 =>
(binV Try.prog .shl 46 (.tmp 30) (.tmp 33) t30_10 t33_13).bind fun t34_15 =>
(binV Try.prog .or 46 (.tmp 27) (.tmp 34) Ae t34_15).bind fun t35_16 =>
(binV Try.prog .lss 5 (.tmp 36) (.const (Go.Value.int Go.IntKind.u8 128)) t20_5 (Go.Value.int Go.IntKind.u8 128)).bind fun t37_17 =>
cnd t37_17 (
(binV Try.prog .eql 5 (.tmp 38) (.const (Go.Value.int Go.IntKind.u8 0)) t20_5 (Go.Value.int Go.IntKind.u8 0)).bind fun t39_18 =>
(gd (wt t39_18 true) (binV Try.prog .gtr 3 (.tmp 41) (.const (Go.Value.int Go.IntKind.i64 0)) (gdV (wt t39_18 true) Af) (Go.Value.int Go.IntKind.i64 0))).bind fun t42_19 =>
(pickV t39_18 t42_19 (Go.Value.bool Bool.false)).bind fun t43_20 =>
cnd t43_20 (
k .ret ⟨#[Aa,Ab, (Go.Value.int Go.IntKind.u64 0), (Go.Value.int Go.IntKind.i64 0), t35_16,Af, t20_5,Af,Aa, t9_0, t10_1, t10_1, (gdV (wt t10_1 true) Af), t13_2, t14_3,Aq,Ar,Aa,Af, t19_4, t20_5,Af, t22_6, t22_6, (gdV (wt t22_6 true) t20_5), t25_7, t26_8,Ae, t20_5, t29_9, t30_10,Af, t32_12, t33_13, t34_15, t35_16, t20_5, t37_17, t20_5, t39_18, t39_18, (gdV (wt t39_18 true) Af), t42_19, t43_20,Bv,Bw,Bx], h14⟩) (
(binV Try.prog .add 3 (.tmp 45) (.const (Go.Value.int Go.IntKind.i64 1)) Af (Go.Value.int Go.IntKind.i64 1)).bind fun t46_21 =>
k .ret ⟨#[Aa,Ab, t35_16, t46_21, t35_16,Af, t20_5,Af,Aa, t9_0, t10_1, t10_1, (gdV (wt t10_1 true) Af), t13_2, t14_3,Aq,Ar,Aa,Af, t19_4, t20_5,Af, t22_6, t22_6, (gdV (wt t22_6 true) t20_5), t25_7, t26_8,Ae, t20_5, t29_9, t30_10,Af, t32_12, t33_13, t34_15, t35_16, t20_5, t37_17, t20_5, t39_18, t39_18, (gdV (wt t39_18 true) Af), t42_19, t43_20, t35_16,Af, t46_21], h14⟩)) (
(binV Try.prog .add 3 (.tmp 15) (.const (Go.Value.int Go.IntKind.i64 1)) Af (Go.Value.int Go.IntKind.i64 1)).bind fun t16_22 =>
k .normal ⟨#[Aa,Ab,Ac,Ad, t35_16, t16_22, t20_5,Af,Aa, t9_0, t10_1, t10_1, (gdV (wt t10_1 true) Af), t13_2, t14_3,Af, t16_22,Aa,Af, t19_4, t20_5,Af, t22_6, t22_6, (gdV (wt t22_6 true) t20_5), t25_7, t26_8,Ae, t20_5, t29_9, t30_10,Af, t32_12, t33_13, t34_15, t35_16, t20_5, t37_17,Bp,Bq,Br,Bs,Bt,Bu,Bv,Bw,Bx], h14⟩))) (
k (.exit 0) ⟨#[Aa,Ab,Ac,Ad,Ae,Af,Ag,Af,Aa, t9_0, t10_1, t10_1, (gdV (wt t10_1 true) Af), t13_2, t14_3,Aq,Ar,Au,Av,Aw,Ax,Ay,Az,Ba,Bb,Bc,Bd,Be,Bf,Bg,Bh,Bi,Bj,Bk,Bl,Bm,Bn,Bo,Bp,Bq,Br,Bs,Bt,Bu,Bv,Bw,Bx], h⟩) := by kernel_rfl
theorem c98_2_eq {β : Type} (h : Heap) (k : Ex → St → Option β) : codeK Try.prog (evC Try.prog) loopL c98_2 ⟨#[Aa,Ab,Ac,Ad,Ae,Af,Ag,Ah,Ai,Aj,Ak,Al,An,Ao,Ap,Aq,Ar,Au,Av,Aw,Ax,Ay,Az,Ba,Bb,Bc,Bd,Be,Bf,Bg,Bh,Bi,Bj,Bk,Bl,Bm,Bn,Bo,Bp,Bq,Br,Bs,Bt,Bu,Bv,Bw,Bx], h⟩ k =
k .ret ⟨#[Aa,Ab, (Go.Value.int Go.IntKind.u64 0), (Go.Value.int Go.IntKind.i64 0),Ae,Af,Ag,Ah,Ai,Aj,Ak,Al,An,Ao,Ap,Aq,Ar,Au,Av,Aw,Ax,Ay,Az,Ba,Bb,Bc,Bd,Be,Bf,Bg,Bh,Bi,Bj,Bk,Bl,Bm,Bn,Bo,Bp,Bq,Br,Bs,Bt,Bu,Bv,Bw,Bx], h⟩ := by kernel_rfl
theorem call98 (h : Heap) : evC Try.prog 98 #[Aa] h = codeK Try.prog (evC Try.prog) loopL c98_0 ⟨#[Aa, undef, undef, undef, undef, undef, undef, undef, undef, undef, undef, undef, undef, undef, undef, undef, undef, undef, undef, undef, undef, undef, undef, undef, undef, undef, undef, undef, undef, undef, undef, undef, undef, undef, undef, undef, undef, undef, undef, undef, undef, undef, undef, undef, undef, undef, undef], nm h⟩ (retK Try.f98 Try.prog h) :=
  (evC_call 98 Try.f98 c98_0 Try.func98 (by kernel_rfl) #[Aa] h).trans (by kernel_rfl)
theorem ret98 (h0 h : Heap) : retK Try.f98 Try.prog h0 .ret ⟨#[Aa,Ab,Ac,Ad,Ae,Af,Ag,Ah,Ai,Aj,Ak,Al,An,Ao,Ap,Aq,Ar,Au,Av,Aw,Ax,Ay,Az,Ba,Bb,Bc,Bd,Be,Bf,Bg,Bh,Bi,Bj,Bk,Bl,Bm,Bn,Bo,Bp,Bq,Br,Bs,Bt,Bu,Bv,Bw,Bx], h⟩ = fin h0 (some (.tuple #[Ac,Ad])) h := by kernel_rfl
theorem retn98 (h0 h : Heap) : retK Try.f98 Try.prog h0 .normal ⟨#[Aa,Ab,Ac,Ad,Ae,Af,Ag,Ah,Ai,Aj,Ak,Al,An,Ao,Ap,Aq,Ar,Au,Av,Aw,Ax,Ay,Az,Ba,Bb,Bc,Bd,Be,Bf,Bg,Bh,Bi,Bj,Bk,Bl,Bm,Bn,Bo,Bp,Bq,Br,Bs,Bt,Bu,Bv,Bw,Bx], h⟩ = fin h0 (some (.tuple #[Ac,Ad])) h := by kernel_rfl
end Go.Am
namespace Go.Am
open Go.Proofs
set_option maxRecDepth 100000
variable (Aa Ab Ac Ad Ae Af Ag Ah Ai Aj Ak Al An : Value)
noncomputable def c58_0 : Code := bodyC Try.f58 []
theorem c58_0_eq {β : Type} (h : Heap) (k : Ex → St → Option β) : codeK Try.prog (evC Try.prog) loopL c58_0 ⟨#[Aa,Ab,Ac,Ad,Ae,Af,Ag,Ah,Ai,Aj,Ak,Al,An], h⟩ k =
(nilCheckV Aa).bind fun t6_0 =>
(fieldAddrV Try.prog 97 t6_0 0).bind fun t7_1 =>
(loadV Try.prog 23 t7_1 h).bind fun t8_2 =>
obH (evC Try.prog 106 #[t8_2,Ab] h) fun t10_3 h4 =>
(nilCheckV Aa).bind fun t11_5 =>
(fieldAddrV Try.prog 97 t11_5 0).bind fun t12_6 =>
(storeV Try.prog 23 t12_6 t10_3 h4).bind fun h7 =>
k .normal ⟨#[Aa,Ab,Ac,Ad,Aa,Aa, t6_0, t7_1, t8_2,Ab, t10_3, t11_5, t12_6], h7⟩ := by kernel_rfl
theorem call58 (h : Heap) : evC Try.prog 58 #[Aa,Ab] h = codeK Try.prog (evC Try.prog) loopL c58_0 ⟨#[Aa,Ab, undef, undef, undef, undef, undef, undef, undef, undef, undef, undef, undef], nm h⟩ (retK Try.f58 Try.prog h) :=
  (evC_call 58 Try.f58 c58_0 Try.func58 (by kernel_rfl) #[Aa,Ab] h).trans (by kernel_rfl)
theorem ret58 (h0 h : Heap) : retK Try.f58 Try.prog h0 .ret ⟨#[Aa,Ab,Ac,Ad,Ae,Af,Ag,Ah,Ai,Aj,Ak,Al,An], h⟩ = fin h0 (some (.tuple #[])) h := by kernel_rfl
theorem retn58 (h0 h : Heap) : retK Try.f58 Try.prog h0 .normal ⟨#[Aa,Ab,Ac,Ad,Ae,Af,Ag,Ah,Ai,Aj,Ak,Al,An], h⟩ = fin h0 (some (.tuple #[])) h := by kernel_rfl
end Go.Am
namespace Go.Am
open Go.Proofs
set_option maxRecDepth 100000
variable (Aa Ab Ac Ad Ae Af Ag Ah Ai Aj Ak Al An Ao Ap Aq Ar Au : Value)
noncomputable def c62_0 : Code := bodyC Try.f62 []
theorem c62_0_eq {β : Type} (h : Heap) (k : Ex → St → Option β) : codeK Try.prog (evC Try.prog) loopL c62_0 ⟨#[Aa,Ab,Ac,Ad,Ae,Af,Ag,Ah,Ai,Aj,Ak,Al,An,Ao,Ap,Aq,Ar,Au], h⟩ k =
(lenV Try.prog 23 Ab h).bind fun t6_0 =>
obH (convV Try.prog 3 46 t6_0 h) fun t7_1 h2 =>
obH (evC Try.prog 58 #[Aa, t7_1] h2) fun t8_3 h4 =>
(nilCheckV Aa).bind fun t11_5 =>
(fieldAddrV Try.prog 97 t11_5 0).bind fun t12_6 =>
(loadV Try.prog 23 t12_6 h4).bind fun t13_7 =>
obH (appendV Try.prog 23 (some 23) t13_7 Ab h4) fun t15_8 h9 =>
(nilCheckV Aa).bind fun t16_10 =>
(fieldAddrV Try.prog 97 t16_10 0).bind fun t17_11 =>
(storeV Try.prog 23 t17_11 t15_8 h9).bind fun h12 =>
k .normal ⟨#[Aa,Ab,Ac,Ad,Aa,Ab, t6_0, t7_1, t8_3,Aa,Aa, t11_5, t12_6, t13_7,Ab, t15_8, t16_10, t17_11], h12⟩ := by kernel_rfl
theorem call62 (h : Heap) : evC Try.prog 62 #[Aa,Ab] h = codeK Try.prog (evC Try.prog) loopL c62_0 ⟨#[Aa,Ab, undef, undef, undef, undef, undef, undef, undef, undef, undef, undef, undef, undef, undef, undef, undef, undef], nm h⟩ (retK Try.f62 Try.prog h) :=
  (evC_call 62 Try.f62 c62_0 Try.func62 (by kernel_rfl) #[Aa,Ab] h).trans (by kernel_rfl)
theorem ret62 (h0 h : Heap) : retK Try.f62 Try.prog h0 .ret ⟨#[Aa,Ab,Ac,Ad,Ae,Af,Ag,Ah,Ai,Aj,Ak,Al,An,Ao,Ap,Aq,Ar,Au], h⟩ = fin h0 (some (.tuple #[])) h := by kernel_rfl
theorem retn62 (h0 h : Heap) : retK Try.f62 Try.prog h0 .normal ⟨#[Aa,Ab,Ac,Ad,Ae,Af,Ag,Ah,Ai,Aj,Ak,Al,An,Ao,Ap,Aq,Ar,Au], h⟩ = fin h0 (some (.tuple #[])) h := by kernel_rfl
end Go.Am
namespace Go.Am
open Go.Proofs
set_option maxRecDepth 100000
variable (Aa Ab Ac Ad Ae Af Ag Ah Ai Aj Ak Al An Ao Ap Aq Ar Au Av Aw Ax Ay Az Ba Bb Bc Bd Be Bf Bg Bh Bi Bj Bk Bl Bm Bn Bo Bp Bq : Value)
noncomputable def c48_0 : Code := bodyC Try.f48 []
theorem c48_0_eq {β : Type} (h : Heap) (k : Ex → St → Option β) : codeK Try.prog (evC Try.prog) loopL c48_0 ⟨#[Aa,Ab,Ac,Ad,Ae,Af,Ag,Ah,Ai,Aj,Ak,Al,An,Ao,Ap,Aq,Ar,Au,Av,Aw,Ax,Ay,Az,Ba,Bb,Bc,Bd,Be,Bf,Bg,Bh,Bi,Bj,Bk,Bl,Bm,Bn,Bo,Bp,Bq], h⟩ k =
(nilCheckV Aa).bind fun t9_0 =>
(fieldAddrV Try.prog 83 t9_0 0).bind fun t10_1 =>
(loadV Try.prog 23 t10_1 h).bind fun t11_2 =>
obH (evC Try.prog 98 #[t11_2] h) fun t12_3 h4 =>
(extractV t12_3 0).bind fun t13_5 =>
(extractV t12_3 1).bind fun t14_6 =>
(nilCheckV Aa).bind fun t16_7 =>
(fieldAddrV Try.prog 83 t16_7 1).bind fun t17_8 =>
(loadV Try.prog 4 t17_8 h4).bind fun t18_9 =>
(gd (wt t18_9 false) (binV Try.prog .eql 3 (.tmp 20) (.const (Go.Value.int Go.IntKind.i64 0)) (gdV (wt t18_9 false) t14_6) (Go.Value.int Go.IntKind.i64 0))).bind fun t21_10 =>
(pickV t18_9 (Go.Value.bool Bool.true) t21_10).bind fun t22_11 =>
(gd (wt t22_11 false) (binV Try.prog .gtr 46 (.tmp 24) (.tmp 25) (gdV (wt t22_11 false) t13_5) (gdV (wt t22_11 false) Ab))).bind fun t26_12 =>
(pickV t22_11 (Go.Value.bool Bool.true) t26_12).bind fun t27_13 =>
cnd t27_13 (
obH (evC Try.prog 99 #[Aa] h4) fun t29_14 h15 =>
k .ret ⟨#[Aa,Ab,Ac,Ad, (Go.Value.int Go.IntKind.u64 0), t13_5, t14_6, t12_3,Aa, t9_0, t10_1, t11_2, t12_3, t13_5, t14_6,Aa, t16_7, t17_8, t18_9, t18_9, (gdV (wt t18_9 false) t14_6), t21_10, t22_11, t22_11, (gdV (wt t22_11 false) t13_5), (gdV (wt t22_11 false) Ab), t26_12, t27_13,Aa, t29_14,Bh,Bi,Bj,Bk,Bl,Bm,Bn,Bo,Bp,Bq], h15⟩) (
(nilCheckV Aa).bind fun t32_16 =>
(fieldAddrV Try.prog 83 t32_16 0).bind fun t33_17 =>
(loadV Try.prog 23 t33_17 h4).bind fun t34_18 =>
(sliceV Try.prog 23 t34_18 (some t14_6) none none h4).bind fun t36_19 =>
(nilCheckV Aa).bind fun t37_20 =>
(fieldAddrV Try.prog 83 t37_20 0).bind fun t38_21 =>
(storeV Try.prog 23 t38_21 t36_19 h4).bind fun h22 =>
k .ret ⟨#[Aa,Ab,Ac,Ad, t13_5, t13_5, t14_6, t12_3,Aa, t9_0, t10_1, t11_2, t12_3, t13_5, t14_6,Aa, t16_7, t17_8, t18_9, t18_9, (gdV (wt t18_9 false) t14_6), t21_10, t22_11, t22_11, (gdV (wt t22_11 false) t13_5), (gdV (wt t22_11 false) Ab), t26_12, t27_13,Bf,Bg,Aa,Aa, t32_16, t33_17, t34_18, t14_6, t36_19, t37_20, t38_21, t13_5], h22⟩) := by kernel_rfl
theorem call48 (h : Heap) : evC Try.prog 48 #[Aa,Ab] h = codeK Try.prog (evC Try.prog) loopL c48_0 ⟨#[Aa,Ab, undef, undef, undef, undef, undef, undef, undef, undef, undef, undef, undef, undef, undef, undef, undef, undef, undef, undef, undef, undef, undef, undef, undef, undef, undef, undef, undef, undef, undef, undef, undef, undef, undef, undef, undef, undef, undef, undef], nm h⟩ (retK Try.f48 Try.prog h) :=
  (evC_call 48 Try.f48 c48_0 Try.func48 (by kernel_rfl) #[Aa,Ab] h).trans (by kernel_rfl)
theorem ret48 (h0 h : Heap) : retK Try.f48 Try.prog h0 .ret ⟨#[Aa,Ab,Ac,Ad,Ae,Af,Ag,Ah,Ai,Aj,Ak,Al,An,Ao,Ap,Aq,Ar,Au,Av,Aw,Ax,Ay,Az,Ba,Bb,Bc,Bd,Be,Bf,Bg,Bh,Bi,Bj,Bk,Bl,Bm,Bn,Bo,Bp,Bq], h⟩ = fin h0 (some Ae) h := by kernel_rfl
theorem retn48 (h0 h : Heap) : retK Try.f48 Try.prog h0 .normal ⟨#[Aa,Ab,Ac,Ad,Ae,Af,Ag,Ah,Ai,Aj,Ak,Al,An,Ao,Ap,Aq,Ar,Au,Av,Aw,Ax,Ay,Az,Ba,Bb,Bc,Bd,Be,Bf,Bg,Bh,Bi,Bj,Bk,Bl,Bm,Bn,Bo,Bp,Bq], h⟩ = fin h0 (some Ae) h := by kernel_rfl
end Go.Am
namespace Go.Am
open Go.Proofs
set_option maxRecDepth 100000
variable (Aa Ab Ac Ad Ae Af Ag Ah Ai Aj Ak Al An Ao Ap Aq Ar Au Av Aw Ax Ay Az Ba Bb Bc Bd Be Bf Bg Bh Bi Bj Bk Bl Bm Bn Bo Bp Bq Br Bs Bt Bu Bv Bw Bx By Bz Ca Cb Cc Cd Ce Cf Cg Ch Ci Cj Ck Cl Cm Cn Co Cp Cq Cr Cs Ct Cu Cv Cw Cx Cy Cz Da Db Dc Dd De Df Dg Dh Di Dj Dk Dl Dm Dn Do Dp Dq Dr Ds Dt : Value)
noncomputable def c55_0 : Code := bodyC Try.f55 []
theorem c55_0_eq {β : Type} (h : Heap) (k : Ex → St → Option β) : codeK Try.prog (evC Try.prog) loopL c55_0 ⟨#[Aa,Ab,Ac,Ad,Ae,Af,Ag,Ah,Ai,Aj,Ak,Al,An,Ao,Ap,Aq,Ar,Au,Av,Aw,Ax,Ay,Az,Ba,Bb,Bc,Bd,Be,Bf,Bg,Bh,Bi,Bj,Bk,Bl,Bm,Bn,Bo,Bp,Bq,Br,Bs,Bt,Bu,Bv,Bw,Bx,By,Bz,Ca,Cb,Cc,Cd,Ce,Cf,Cg,Ch,Ci,Cj,Ck,Cl,Cm,Cn,Co,Cp,Cq,Cr,Cs,Ct,Cu,Cv,Cw,Cx,Cy,Cz,Da,Db,Dc,Dd,De,Df,Dg,Dh,Di,Dj,Dk,Dl,Dm,Dn,Do,Dp,Dq,Dr,Ds,Dt], h⟩ k =
(nilCheckV Aa).bind fun t10_0 =>
(fieldAddrV Try.prog 83 t10_0 0).bind fun t11_1 =>
(loadV Try.prog 23 t11_1 h).bind fun t12_2 =>
obH (evC Try.prog 98 #[t12_2] h) fun t13_3 h4 =>
(extractV t13_3 0).bind fun t14_5 =>
(extractV t13_3 1).bind fun t15_6 =>
(nilCheckV Aa).bind fun t17_7 =>
(fieldAddrV Try.prog 83 t17_7 1).bind fun t18_8 =>
(loadV Try.prog 4 t18_8 h4).bind fun t19_9 =>
(gd (wt t19_9 false) (binV Try.prog .eql 3 (.tmp 21) (.const (Go.Value.int Go.IntKind.i64 0)) (gdV (wt t19_9 false) t15_6) (Go.Value.int Go.IntKind.i64 0))).bind fun t22_10 =>
(pickV t19_9 (Go.Value.bool Bool.true) t22_10).bind fun t23_11 =>
(gd (wt t23_11 false) (binV Try.prog .lss 3 (.tmp 25) (.const (Go.Value.int Go.IntKind.i64 0)) (gdV (wt t23_11 false) Ab) (Go.Value.int Go.IntKind.i64 0))).bind fun t26_12 =>
(pickV t23_11 (Go.Value.bool Bool.true) t26_12).bind fun t27_13 =>
obH (gdH (wt t27_13 false) h4 (convV Try.prog 3 46 (gdV (wt t27_13 false) Ab) h4)) fun t31_14 h15 =>
(gd (wt t27_13 false) (binV Try.prog .gtr 46 (.tmp 29) (.tmp 31) (gdV (wt t27_13 false) t14_5) t31_14)).bind fun t32_16 =>
(pickV t27_13 (Go.Value.bool Bool.true) t32_16).bind fun t33_17 =>
(gd (wt t33_17 false) (nilCheckV (gdV (wt t33_17 false) Aa))).bind fun t37_18 =>
(gd (wt t33_17 false) (fieldAddrV Try.prog 83 t37_18 0)).bind fun t38_19 =>
(gd (wt t33_17 false) (loadV Try.prog 23 t38_19 h15)).bind fun t39_20 =>
(gd (wt t33_17 false) (lenV Try.prog 23 t39_20 h15)).bind fun t40_21 =>
(gd (wt t33_17 false) (binV Try.prog .sub 3 (.tmp 40) (.tmp 41) t40_21 (gdV (wt t33_17 false) t15_6))).bind fun t42_22 =>
obH (gdH (wt t33_17 false) h15 (convV Try.prog 3 46 t42_22 h15)) fun t43_23 h24 =>
(gd (wt t33_17 false) (binV Try.prog .gtr 46 (.tmp 35) (.tmp 43) (gdV (wt t33_17 false) t14_5) t43_23)).bind fun t44_25 =>
(pickV t33_17 (Go.Value.bool Bool.true) t44_25).bind fun t45_26 =>
cnd t45_26 (
(nilCheckV Aa).bind fun t47_27 =>
(fieldAddrV Try.prog 83 t47_27 1).bind fun t48_28 =>
(loadV Try.prog 4 t48_28 h24).bind fun t49_29 =>
(unV Try.prog .not t49_29).bind fun t50_30 =>
(gd (wt t50_30 true) (binV Try.prog .gtr 3 (.tmp 52) (.const (Go.Value.int Go.IntKind.i64 0)) (gdV (wt t50_30 true) t15_6) (Go.Value.int Go.IntKind.i64 0))).bind fun t53_31 =>
(pickV t50_30 t53_31 (Go.Value.bool Bool.false)).bind fun t54_32 =>
(gd (wt t54_32 true) (binV Try.prog .eql 46 (.tmp 56) (.const (Go.Value.int Go.IntKind.u64 0)) (gdV (wt t54_32 true) t14_5) (Go.Value.int Go.IntKind.u64 0))).bind fun t57_33 =>
(pickV t54_32 t57_33 (Go.Value.bool Bool.false)).bind fun t58_34 =>
cnd t58_34 (
(nilCheckV Aa).bind fun t61_35 =>
(fieldAddrV Try.prog 83 t61_35 0).bind fun t62_36 =>
(loadV Try.prog 23 t62_36 h24).bind fun t63_37 =>
(sliceV Try.prog 23 t63_37 (some t15_6) none none h24).bind fun t65_38 =>
(nilCheckV Aa).bind fun t66_39 =>
(fieldAddrV Try.prog 83 t66_39 0).bind fun t67_40 =>
(storeV Try.prog 23 t67_40 t65_38 h24).bind fun h41 =>
k .ret ⟨#[Aa,Ab,Ac,Ad, (Go.Value.slice Option.none 0 0), t14_5, t15_6,Ah, t13_3,Aa, t10_0, t11_1, t12_2, t13_3, t14_5, t15_6,Aa, t17_7, t18_8, t19_9, t19_9, (gdV (wt t19_9 false) t15_6), t22_10, t23_11, t23_11, (gdV (wt t23_11 false) Ab), t26_12, t27_13, t27_13, (gdV (wt t27_13 false) t14_5), (gdV (wt t27_13 false) Ab), t31_14, t32_16, t33_17, t33_17, (gdV (wt t33_17 false) t14_5), (gdV (wt t33_17 false) Aa), t37_18, t38_19, t39_20, t40_21, (gdV (wt t33_17 false) t15_6), t42_22, t43_23, t44_25, t45_26,Aa, t47_27, t48_28, t49_29, t50_30, t50_30, (gdV (wt t50_30 true) t15_6), t53_31, t54_32, t54_32, (gdV (wt t54_32 true) t14_5), t57_33, t58_34,Aa,Aa, t61_35, t62_36, t63_37, t15_6, t65_38, t66_39, t67_40,Ct,Cu,Cv,Cw,Cx,Cy,Cz,Da,Db,Dc,Dd,De,Df,Dg,Dh,Di,Dj,Dk,Dl,Dm,Dn,Do,Dp,Dq,Dr,Ds,Dt], h41⟩) (
obH (evC Try.prog 99 #[Aa] h24) fun t69_42 h43 =>
k .ret ⟨#[Aa,Ab,Ac,Ad, (Go.Value.slice Option.none 0 0), t14_5, t15_6,Ah, t13_3,Aa, t10_0, t11_1, t12_2, t13_3, t14_5, t15_6,Aa, t17_7, t18_8, t19_9, t19_9, (gdV (wt t19_9 false) t15_6), t22_10, t23_11, t23_11, (gdV (wt t23_11 false) Ab), t26_12, t27_13, t27_13, (gdV (wt t27_13 false) t14_5), (gdV (wt t27_13 false) Ab), t31_14, t32_16, t33_17, t33_17, (gdV (wt t33_17 false) t14_5), (gdV (wt t33_17 false) Aa), t37_18, t38_19, t39_20, t40_21, (gdV (wt t33_17 false) t15_6), t42_22, t43_23, t44_25, t45_26,Aa, t47_27, t48_28, t49_29, t50_30, t50_30, (gdV (wt t50_30 true) t15_6), t53_31, t54_32, t54_32, (gdV (wt t54_32 true) t14_5), t57_33, t58_34,Ck,Cl,Cm,Cn,Co,Cp,Cq,Cr,Cs,Aa, t69_42,Cv,Cw,Cx,Cy,Cz,Da,Db,Dc,Dd,De,Df,Dg,Dh,Di,Dj,Dk,Dl,Dm,Dn,Do,Dp,Dq,Dr,Ds,Dt], h43⟩)) (
obH (buildSliceV Try.prog 23 0 #[] h24) fun t70_44 h45 =>
(nilCheckV Aa).bind fun t72_46 =>
(fieldAddrV Try.prog 83 t72_46 0).bind fun t73_47 =>
(loadV Try.prog 23 t73_47 h45).bind fun t74_48 =>
obH (convV Try.prog 46 3 t14_5 h45) fun t78_49 h50 =>
(binV Try.prog .add 3 (.tmp 76) (.tmp 78) t15_6 t78_49).bind fun t79_51 =>
(sliceV Try.prog 23 t74_48 (some t15_6) (some t79_51) none h50).bind fun t80_52 =>
obH (appendV Try.prog 23 (some 23) t70_44 t80_52 h50) fun t81_53 h54 =>
(nilCheckV Aa).bind fun t84_55 =>
(fieldAddrV Try.prog 83 t84_55 0).bind fun t85_56 =>
(loadV Try.prog 23 t85_56 h54).bind fun t86_57 =>
obH (convV Try.prog 46 3 t14_5 h54) fun t89_58 h59 =>
(binV Try.prog .add 3 (.tmp 87) (.tmp 89) t15_6 t89_58).bind fun t90_60 =>
(sliceV Try.prog 23 t86_57 (some t90_60) none none h59).bind fun t91_61 =>
(nilCheckV Aa).bind fun t92_62 =>
(fieldAddrV Try.prog 83 t92_62 0).bind fun t93_63 =>
(storeV Try.prog 23 t93_63 t91_61 h59).bind fun h64 =>
k .ret ⟨#[Aa,Ab,Ac,Ad, t81_53, t14_5, t15_6, t81_53, t13_3,Aa, t10_0, t11_1, t12_2, t13_3, t14_5, t15_6,Aa, t17_7, t18_8, t19_9, t19_9, (gdV (wt t19_9 false) t15_6), t22_10, t23_11, t23_11, (gdV (wt t23_11 false) Ab), t26_12, t27_13, t27_13, (gdV (wt t27_13 false) t14_5), (gdV (wt t27_13 false) Ab), t31_14, t32_16, t33_17, t33_17, (gdV (wt t33_17 false) t14_5), (gdV (wt t33_17 false) Aa), t37_18, t38_19, t39_20, t40_21, (gdV (wt t33_17 false) t15_6), t42_22, t43_23, t44_25, t45_26,Bx,By,Bz,Ca,Cb,Cc,Cd,Ce,Cf,Cg,Ch,Ci,Cj,Ck,Cl,Cm,Cn,Co,Cp,Cq,Cr,Cs,Ct,Cu, t70_44,Aa, t72_46, t73_47, t74_48, t15_6, t15_6, t14_5, t78_49, t79_51, t80_52, t81_53,Aa,Aa, t84_55, t85_56, t86_57, t15_6, t14_5, t89_58, t90_60, t91_61, t92_62, t93_63, t81_53], h64⟩) := by kernel_rfl
theorem call55 (h : Heap) : evC Try.prog 55 #[Aa,Ab] h = codeK Try.prog (evC Try.prog) loopL c55_0 ⟨#[Aa,Ab, undef, undef, undef, undef, undef, undef, undef, undef, undef, undef, undef, undef, undef, undef, undef, undef, undef, undef, undef, undef, undef, undef, undef, undef, undef, undef, undef, undef, undef, undef, undef, undef, undef, undef, undef, undef, undef, undef, undef, undef, undef, undef, undef, undef, undef, undef, undef, undef, undef, undef, undef, undef, undef, undef, undef, undef, undef, undef, undef, undef, undef, undef, undef, undef, undef, undef, undef, undef, undef, undef, undef, undef, undef, undef, undef, undef, undef, undef, undef, undef, undef, undef, undef, undef, undef, undef, undef, undef, undef, undef, undef, undef, undef], nm h⟩ (retK Try.f55 Try.prog h) :=
  (evC_call 55 Try.f55 c55_0 Try.func55 (by kernel_rfl) #[Aa,Ab] h).trans (by kernel_rfl)
theorem ret55 (h0 h : Heap) : retK Try.f55 Try.prog h0 .ret ⟨#[Aa,Ab,Ac,Ad,Ae,Af,Ag,Ah,Ai,Aj,Ak,Al,An,Ao,Ap,Aq,Ar,Au,Av,Aw,Ax,Ay,Az,Ba,Bb,Bc,Bd,Be,Bf,Bg,Bh,Bi,Bj,Bk,Bl,Bm,Bn,Bo,Bp,Bq,Br,Bs,Bt,Bu,Bv,Bw,Bx,By,Bz,Ca,Cb,Cc,Cd,Ce,Cf,Cg,Ch,Ci,Cj,Ck,Cl,Cm,Cn,Co,Cp,Cq,Cr,Cs,Ct,Cu,Cv,Cw,Cx,Cy,Cz,Da,Db,Dc,Dd,De,Df,Dg,Dh,Di,Dj,Dk,Dl,Dm,Dn,Do,Dp,Dq,Dr,Ds,Dt], h⟩ = fin h0 (some Ae) h := by kernel_rfl
theorem retn55 (h0 h : Heap) : retK Try.f55 Try.prog h0 .normal ⟨#[Aa,Ab,Ac,Ad,Ae,Af,Ag,Ah,Ai,Aj,Ak,Al,An,Ao,Ap,Aq,Ar,Au,Av,Aw,Ax,Ay,Az,Ba,Bb,Bc,Bd,Be,Bf,Bg,Bh,Bi,Bj,Bk,Bl,Bm,Bn,Bo,Bp,Bq,Br,Bs,Bt,Bu,Bv,Bw,Bx,By,Bz,Ca,Cb,Cc,Cd,Ce,Cf,Cg,Ch,Ci,Cj,Ck,Cl,Cm,Cn,Co,Cp,Cq,Cr,Cs,Ct,Cu,Cv,Cw,Cx,Cy,Cz,Da,Db,Dc,Dd,De,Df,Dg,Dh,Di,Dj,Dk,Dl,Dm,Dn,Do,Dp,Dq,Dr,Ds,Dt], h⟩ = fin h0 (some Ae) h := by kernel_rfl
end Go.Am
namespace Go.Am
open Go.Proofs
set_option maxRecDepth 100000
variable (Aa Ab Ac Ad Ae Af Ag Ah Ai Aj Ak Al An Ao Ap Aq : Value)
noncomputable def c56_0 : Code := bodyC Try.f56 []
theorem c56_0_eq {β : Type} (h : Heap) (k : Ex → St → Option β) : codeK Try.prog (evC Try.prog) loopL c56_0 ⟨#[Aa,Ab,Ac,Ad,Ae,Af,Ag,Ah,Ai,Aj,Ak,Al,An,Ao,Ap,Aq], h⟩ k =
(nilCheckV Aa).bind fun t4_0 =>
(fieldAddrV Try.prog 83 t4_0 1).bind fun t5_1 =>
(loadV Try.prog 4 t5_1 h).bind fun t6_2 =>
(unV Try.prog .not t6_2).bind fun t7_3 =>
(gd (wt t7_3 true) (nilCheckV (gdV (wt t7_3 true) Aa))).bind fun t10_4 =>
(gd (wt t7_3 true) (fieldAddrV Try.prog 83 t10_4 0)).bind fun t11_5 =>
(gd (wt t7_3 true) (loadV Try.prog 23 t11_5 h)).bind fun t12_6 =>
(gd (wt t7_3 true) (lenV Try.prog 23 t12_6 h)).bind fun t13_7 =>
(gd (wt t7_3 true) (binV Try.prog .eql 3 (.tmp 13) (.const (Go.Value.int Go.IntKind.i64 0)) t13_7 (Go.Value.int Go.IntKind.i64 0))).bind fun t14_8 =>
(pickV t7_3 t14_8 (Go.Value.bool Bool.false)).bind fun t15_9 =>
k .ret ⟨#[Aa,Ab, t15_9,Aa, t4_0, t5_1, t6_2, t7_3, t7_3, (gdV (wt t7_3 true) Aa), t10_4, t11_5, t12_6, t13_7, t14_8, t15_9], h⟩ := by kernel_rfl
theorem call56 (h : Heap) : evC Try.prog 56 #[Aa] h = codeK Try.prog (evC Try.prog) loopL c56_0 ⟨#[Aa, undef, undef, undef, undef, undef, undef, undef, undef, undef, undef, undef, undef, undef, undef, undef], nm h⟩ (retK Try.f56 Try.prog h) :=
  (evC_call 56 Try.f56 c56_0 Try.func56 (by kernel_rfl) #[Aa] h).trans (by kernel_rfl)
theorem ret56 (h0 h : Heap) : retK Try.f56 Try.prog h0 .ret ⟨#[Aa,Ab,Ac,Ad,Ae,Af,Ag,Ah,Ai,Aj,Ak,Al,An,Ao,Ap,Aq], h⟩ = fin h0 (some Ac) h := by kernel_rfl
theorem retn56 (h0 h : Heap) : retK Try.f56 Try.prog h0 .normal ⟨#[Aa,Ab,Ac,Ad,Ae,Af,Ag,Ah,Ai,Aj,Ak,Al,An,Ao,Ap,Aq], h⟩ = fin h0 (some Ac) h := by kernel_rfl
end Go.Am
namespace Go.Am
open Go.Proofs
set_option maxRecDepth 100000
variable (Aa Ab Ac Ad Ae Af Ag Ah : Value)
noncomputable def c99_0 : Code := bodyC Try.f99 []
theorem c99_0_eq {β : Type} (h : Heap) (k : Ex → St → Option β) : codeK Try.prog (evC Try.prog) loopL c99_0 ⟨#[Aa,Ab,Ac,Ad,Ae,Af,Ag,Ah], h⟩ k =
(nilCheckV Aa).bind fun t4_0 =>
(fieldAddrV Try.prog 83 t4_0 1).bind fun t5_1 =>
(storeV Try.prog 4 t5_1 (Go.Value.bool Bool.true) h).bind fun h2 =>
(nilCheckV Aa).bind fun t6_3 =>
(fieldAddrV Try.prog 83 t6_3 0).bind fun t7_4 =>
(storeV Try.prog 23 t7_4 (Go.Value.slice Option.none 0 0) h2).bind fun h5 =>
k .normal ⟨#[Aa,Ab,Aa,Aa, t4_0, t5_1, t6_3, t7_4], h5⟩ := by kernel_rfl
theorem call99 (h : Heap) : evC Try.prog 99 #[Aa] h = codeK Try.prog (evC Try.prog) loopL c99_0 ⟨#[Aa, undef, undef, undef, undef, undef, undef, undef], nm h⟩ (retK Try.f99 Try.prog h) :=
  (evC_call 99 Try.f99 c99_0 Try.func99 (by kernel_rfl) #[Aa] h).trans (by kernel_rfl)
theorem ret99 (h0 h : Heap) : retK Try.f99 Try.prog h0 .ret ⟨#[Aa,Ab,Ac,Ad,Ae,Af,Ag,Ah], h⟩ = fin h0 (some (.tuple #[])) h := by kernel_rfl
theorem retn99 (h0 h : Heap) : retK Try.f99 Try.prog h0 .normal ⟨#[Aa,Ab,Ac,Ad,Ae,Af,Ag,Ah], h⟩ = fin h0 (some (.tuple #[])) h := by kernel_rfl
end Go.Am
namespace Go.Am
open Go.Proofs
set_option maxRecDepth 100000
variable (Aa Ab Ac Ad Ae Af Ag Ah Ai Aj Ak Al An Ao Ap Aq Ar Au Av Aw Ax Ay Az Ba Bb Bc Bd Be Bf Bg Bh Bi : Value)
noncomputable def c19_0 : Code := bodyC Try.f19 []
noncomputable def c19_1 : Code := bodyC Try.f19 [true, true, true, false, true, false, false]
noncomputable def c19_2 : Code := bodyC Try.f19 [true, true, true, true]
noncomputable def c19_3 : Code := bodyC Try.f19 [true, true, true, false, true, false, false, true, true, false, false, true, true, false, false]
noncomputable def c19_4 : Code := bodyC Try.f19 [true, true, true, false, true, false, false, true, true, true]
theorem c19_0_eq {β : Type} (h : Heap) (k : Ex → St → Option β) : codeK Try.prog (evC Try.prog) loopL c19_0 ⟨#[Aa,Ab,Ac,Ad,Ae,Af,Ag,Ah,Ai,Aj,Ak,Al,An,Ao,Ap,Aq,Ar,Au,Av,Aw,Ax,Ay,Az,Ba,Bb,Bc,Bd,Be,Bf,Bg,Bh,Bi], h⟩ k =
obH (boxV Try.prog 29 Aa h) fun t1_0 h1 =>
(loadV Try.prog 29 t1_0 h1).bind fun t8_2 =>
obH (evC Try.prog 77 #[t8_2] h1) fun t9_3 h4 =>
(unV Try.prog .not t9_3).bind fun t10_5 =>
cnd t10_5 (
k .ret ⟨#[Aa, t1_0, (Go.Value.slice Option.none 0 0),Ad,Ae,Af,Ag,Ah, t8_2, t9_3, t10_5,Al,An,Ao,Ap,Aq,Ar,Au,Av,Aw,Ax,Ay,Az,Ba,Bb,Bc,Bd,Be,Bf,Bg,Bh,Bi], h4⟩) (
obH (evC Try.prog 42 #[] h4) fun t11_6 h7 =>
(fieldAddrV Try.prog 29 t1_0 1).bind fun t12_8 =>
(loadV Try.prog 27 t12_8 h7).bind fun t13_9 =>
(lenV Try.prog 27 t13_9 h7).bind fun t14_10 =>
loopK Try.prog (evC Try.prog) c19_1 ⟨#[Aa, t1_0, (Go.Value.slice Option.none 0 0), t11_6,Ae,Af,Ag,Ah, t8_2, t9_3, t10_5, t11_6, t12_8, t13_9, t14_10, (Go.Value.int Go.IntKind.i64 0),Ar,Au,Av,Aw,Ax,Ay,Az,Ba,Bb,Bc,Bd,Be,Bf,Bg,Bh,Bi], h7⟩ (blockK 0 (seqK Try.prog (evC Try.prog) c19_2 k))) := by kernel_rfl
theorem c19_1_eq {β : Type} (h : Heap) (k : Ex → St → Option β) : codeK Try.prog (evC Try.prog) loopL c19_1 ⟨#[Aa,Ab,Ac,Ad,Ae,Af,Ag,Ah,Ai,Aj,Ak,Al,An,Ao,Ap,Aq,Ar,Au,Av,Aw,Ax,Ay,Az,Ba,Bb,Bc,Bd,Be,Bf,Bg,Bh,Bi], h⟩ k =
(binV Try.prog .lss 3 (.tmp 15) (.tmp 14) Aq Ap).bind fun t16_11 =>
cnd t16_11 (
(indexAddrV Try.prog 27 Ao Aq).bind fun t17_12 =>
(loadV Try.prog 53 t17_12 h).bind fun t18_13 =>
(lenV Try.prog 53 t18_13 h).bind fun t20_14 =>
loopK Try.prog (evC Try.prog) c19_3 ⟨#[Aa,Ab,Ac,Ad,Ae, t18_13,Ag,Ah,Ai,Aj,Ak,Al,An,Ao,Ap,Aq, t16_11, t17_12, t18_13, t18_13, t20_14, (Go.Value.int Go.IntKind.i64 0),Az,Ba,Bb,Bc,Bd,Be,Bf,Bg,Bh,Bi], h⟩ (blockK 2 (blockK 1 (seqK Try.prog (evC Try.prog) c19_4 k)))) (
k (.exit 0) ⟨#[Aa,Ab,Ac,Ad,Ae,Af,Ag,Ah,Ai,Aj,Ak,Al,An,Ao,Ap,Aq, t16_11,Au,Av,Aw,Ax,Ay,Az,Ba,Bb,Bc,Bd,Be,Bf,Bg,Bh,Bi], h⟩) := by kernel_rfl
theorem c19_2_eq {β : Type} (h : Heap) (k : Ex → St → Option β) : codeK Try.prog (evC Try.prog) loopL c19_2 ⟨#[Aa,Ab,Ac,Ad,Ae,Af,Ag,Ah,Ai,Aj,Ak,Al,An,Ao,Ap,Aq,Ar,Au,Av,Aw,Ax,Ay,Az,Ba,Bb,Bc,Bd,Be,Bf,Bg,Bh,Bi], h⟩ k =
obH (evC Try.prog 44 #[Ad] h) fun t31_15 h16 =>
k .ret ⟨#[Aa,Ab, t31_15,Ad,Ae,Af,Ag,Ah,Ai,Aj,Ak,Al,An,Ao,Ap,Aq,Ar,Au,Av,Aw,Ax,Ay,Az,Ba,Bb,Bc,Bd,Be,Bf,Bg,Ad, t31_15], h16⟩ := by kernel_rfl
theorem c19_3_eq {β : Type} (h : Heap) (k : Ex → St → Option β) : codeK Try.prog (evC Try.prog) loopL c19_3 ⟨#[Aa,Ab,Ac,Ad,Ae,Af,Ag,Ah,Ai,Aj,Ak,Al,An,Ao,Ap,Aq,Ar,Au,Av,Aw,Ax,Ay,Az,Ba,Bb,Bc,Bd,Be,Bf,Bg,Bh,Bi], h⟩ k =
(binV Try.prog .lss 3 (.tmp 21) (.tmp 20) Ay Ax).bind fun t22_17 =>
cnd t22_17 (
(indexAddrV Try.prog 53 Aw Ay).bind fun t23_18 =>
(loadV Try.prog 46 t23_18 h).bind fun t24_19 =>
obH (evC Try.prog 43 #[Ad, t24_19] h) fun t27_20 h21 =>
(binV Try.prog .add 3 (.tmp 21) (.const (Go.Value.int Go.IntKind.i64 1)) Ay (Go.Value.int Go.IntKind.i64 1)).bind fun t28_22 =>
k .normal ⟨#[Aa,Ab,Ac,Ad,Ae,Af,Ag, t24_19,Ai,Aj,Ak,Al,An,Ao,Ap,Aq,Ar,Au,Av,Aw,Ax, t28_22, t22_17, t23_18, t24_19,Ad, t24_19, t27_20, t28_22,Bg,Bh,Bi], h21⟩) (
k (.exit 2) ⟨#[Aa,Ab,Ac,Ad,Ae,Af,Ag,Ah,Ai,Aj,Ak,Al,An,Ao,Ap,Aq,Ar,Au,Av,Aw,Ax,Ay, t22_17,Ba,Bb,Bc,Bd,Be,Bf,Bg,Bh,Bi], h⟩) := by kernel_rfl
theorem c19_4_eq {β : Type} (h : Heap) (k : Ex → St → Option β) : codeK Try.prog (evC Try.prog) loopL c19_4 ⟨#[Aa,Ab,Ac,Ad,Ae,Af,Ag,Ah,Ai,Aj,Ak,Al,An,Ao,Ap,Aq,Ar,Au,Av,Aw,Ax,Ay,Az,Ba,Bb,Bc,Bd,Be,Bf,Bg,Bh,Bi], h⟩ k =
(binV Try.prog .add 3 (.tmp 15) (.const (Go.Value.int Go.IntKind.i64 1)) Aq (Go.Value.int Go.IntKind.i64 1)).bind fun t29_23 =>
k .normal ⟨#[Aa,Ab,Ac,Ad,Ae,Af,Ag,Ah,Ai,Aj,Ak,Al,An,Ao,Ap, t29_23,Ar,Au,Av,Aw,Ax,Ay,Az,Ba,Bb,Bc,Bd,Be,Bf, t29_23,Bh,Bi], h⟩ := by kernel_rfl
theorem call19 (h : Heap) : evC Try.prog 19 #[Aa] h = codeK Try.prog (evC Try.prog) loopL c19_0 ⟨#[Aa, undef, undef, undef, undef, undef, undef, undef, undef, undef, undef, undef, undef, undef, undef, undef, undef, undef, undef, undef, undef, undef, undef, undef, undef, undef, undef, undef, undef, undef, undef, undef], nm h⟩ (retK Try.f19 Try.prog h) :=
  (evC_call 19 Try.f19 c19_0 Try.func19 (by kernel_rfl) #[Aa] h).trans (by kernel_rfl)
theorem ret19 (h0 h : Heap) : retK Try.f19 Try.prog h0 .ret ⟨#[Aa,Ab,Ac,Ad,Ae,Af,Ag,Ah,Ai,Aj,Ak,Al,An,Ao,Ap,Aq,Ar,Au,Av,Aw,Ax,Ay,Az,Ba,Bb,Bc,Bd,Be,Bf,Bg,Bh,Bi], h⟩ = fin h0 (some Ac) h := by kernel_rfl
theorem retn19 (h0 h : Heap) : retK Try.f19 Try.prog h0 .normal ⟨#[Aa,Ab,Ac,Ad,Ae,Af,Ag,Ah,Ai,Aj,Ak,Al,An,Ao,Ap,Aq,Ar,Au,Av,Aw,Ax,Ay,Az,Ba,Bb,Bc,Bd,Be,Bf,Bg,Bh,Bi], h⟩ = fin h0 (some Ac) h := by kernel_rfl
end Go.Am
namespace Go.Am
open Go.Proofs
set_option maxRecDepth 100000
variable (Aa Ab Ac Ad Ae Af Ag Ah Ai Aj Ak Al An Ao Ap Aq Ar Au Av Aw Ax Ay Az Ba Bb Bc Bd Be Bf Bg Bh Bi Bj Bk Bl Bm Bn Bo Bp Bq Br Bs Bt Bu Bv Bw : Value)
noncomputable def c21_0 : Code := bodyC Try.f21 []
noncomputable def c21_1 : Code := bodyC Try.f21 [true, true, true, true, false, true, false, false]
noncomputable def c21_2 : Code := bodyC Try.f21 [true, true, true, true, true]
noncomputable def c21_3 : Code := bodyC Try.f21 [true, true, true, true, false, true, false, false, true, true, false, false, true, true, false, false]
noncomputable def c21_4 : Code := bodyC Try.f21 [true, true, true, true, false, true, false, false, true, true, true]
theorem c21_0_eq {β : Type} (h : Heap) (k : Ex → St → Option β) : codeK Try.prog (evC Try.prog) loopL c21_0 ⟨#[Aa,Ab,Ac,Ad,Ae,Af,Ag,Ah,Ai,Aj,Ak,Al,An,Ao,Ap,Aq,Ar,Au,Av,Aw,Ax,Ay,Az,Ba,Bb,Bc,Bd,Be,Bf,Bg,Bh,Bi,Bj,Bk,Bl,Bm,Bn,Bo,Bp,Bq,Br,Bs,Bt,Bu,Bv,Bw], h⟩ k =
obH (allocV Try.prog 29 h) fun t4_0 h1 =>
obH (evC Try.prog 78 #[Aa] h1) fun t14_2 h3 =>
(extractV t14_2 0).bind fun t15_4 =>
(extractV t14_2 1).bind fun t16_5 =>
obH (allocV Try.prog 29 h3) fun t6_6 h7 =>
(storeV Try.prog 29 t6_6 t15_4 h7).bind fun h8 =>
(binV Try.prog .neq 41 (.tmp 17) (.const (Go.Value.int Go.IntKind.i64 0)) t16_5 (Go.Value.int Go.IntKind.i64 0)).bind fun t18_9 =>
cnd t18_9 (
(buildV Try.prog 29 #[]).bind fun t19_10 =>
(storeV Try.prog 29 t4_0 t19_10 h8).bind fun h11 =>
k .ret ⟨#[Aa,Ab,Ac,Ad, t4_0, (Go.Value.bool Bool.false), t6_6, t16_5,Ai,Aj,Ak,Al, t14_2,Aa, t14_2, t15_4, t16_5, t16_5, t18_9, t19_10,Ax,Ay,Az,Ba,Bb,Bc,Bd,Be,Bf,Bg,Bh,Bi,Bj,Bk,Bl,Bm,Bn,Bo,Bp,Bq,Br,Bs,Bt,Bu,Bv,Bw], h11⟩) (
obH (evC Try.prog 45 #[Ab] h8) fun t21_12 h13 =>
(fieldAddrV Try.prog 29 t6_6 1).bind fun t22_14 =>
(loadV Try.prog 27 t22_14 h13).bind fun t23_15 =>
(lenV Try.prog 27 t23_15 h13).bind fun t24_16 =>
loopK Try.prog (evC Try.prog) c21_1 ⟨#[Aa,Ab,Ac,Ad, t4_0, (Go.Value.bool Bool.false), t6_6, t16_5, t21_12,Aj,Ak,Al, t14_2,Aa, t14_2, t15_4, t16_5, t16_5, t18_9,Aw,Ab, t21_12, t22_14, t23_15, t24_16, (Go.Value.int Go.IntKind.i64 0),Bd,Be,Bf,Bg,Bh,Bi,Bj,Bk,Bl,Bm,Bn,Bo,Bp,Bq,Br,Bs,Bt,Bu,Bv,Bw], h13⟩ (blockK 0 (seqK Try.prog (evC Try.prog) c21_2 k))) := by kernel_rfl
theorem c21_1_eq {β : Type} (h : Heap) (k : Ex → St → Option β) : codeK Try.prog (evC Try.prog) loopL c21_1 ⟨#[Aa,Ab,Ac,Ad,Ae,Af,Ag,Ah,Ai,Aj,Ak,Al,An,Ao,Ap,Aq,Ar,Au,Av,Aw,Ax,Ay,Az,Ba,Bb,Bc,Bd,Be,Bf,Bg,Bh,Bi,Bj,Bk,Bl,Bm,Bn,Bo,Bp,Bq,Br,Bs,Bt,Bu,Bv,Bw], h⟩ k =
(binV Try.prog .lss 3 (.tmp 25) (.tmp 24) Bc Bb).bind fun t26_17 =>
cnd t26_17 (
(indexAddrV Try.prog 27 Ba Bc).bind fun t27_18 =>
(loadV Try.prog 53 t27_18 h).bind fun t28_19 =>
(lenV Try.prog 53 t28_19 h).bind fun t30_20 =>
loopK Try.prog (evC Try.prog) c21_3 ⟨#[Aa,Ab,Ac,Ad,Ae,Af,Ag,Ah,Ai,Aj, t28_19,Al,An,Ao,Ap,Aq,Ar,Au,Av,Aw,Ax,Ay,Az,Ba,Bb,Bc, t26_17, t27_18, t28_19, t28_19, t30_20, (Go.Value.int Go.IntKind.i64 0),Bj,Bk,Bl,Bm,Bn,Bo,Bp,Bq,Br,Bs,Bt,Bu,Bv,Bw], h⟩ (blockK 2 (blockK 1 (seqK Try.prog (evC Try.prog) c21_4 k)))) (
k (.exit 0) ⟨#[Aa,Ab,Ac,Ad,Ae,Af,Ag,Ah,Ai,Aj,Ak,Al,An,Ao,Ap,Aq,Ar,Au,Av,Aw,Ax,Ay,Az,Ba,Bb,Bc, t26_17,Be,Bf,Bg,Bh,Bi,Bj,Bk,Bl,Bm,Bn,Bo,Bp,Bq,Br,Bs,Bt,Bu,Bv,Bw], h⟩) := by kernel_rfl
theorem c21_2_eq {β : Type} (h : Heap) (k : Ex → St → Option β) : codeK Try.prog (evC Try.prog) loopL c21_2 ⟨#[Aa,Ab,Ac,Ad,Ae,Af,Ag,Ah,Ai,Aj,Ak,Al,An,Ao,Ap,Aq,Ar,Au,Av,Aw,Ax,Ay,Az,Ba,Bb,Bc,Bd,Be,Bf,Bg,Bh,Bi,Bj,Bk,Bl,Bm,Bn,Bo,Bp,Bq,Br,Bs,Bt,Bu,Bv,Bw], h⟩ k =
obH (evC Try.prog 47 #[Ai] h) fun t42_21 h22 =>
(unV Try.prog .not t42_21).bind fun t43_23 =>
cnd t43_23 (
(buildV Try.prog 29 #[]).bind fun t44_24 =>
(storeV Try.prog 29 Ae t44_24 h22).bind fun h25 =>
k .ret ⟨#[Aa,Ab,Ac,Ad,Ae, (Go.Value.bool Bool.false),Ag,Ah,Ai,Aj,Ak,Al,An,Ao,Ap,Aq,Ar,Au,Av,Aw,Ax,Ay,Az,Ba,Bb,Bc,Bd,Be,Bf,Bg,Bh,Bi,Bj,Bk,Bl,Bm,Bn,Bo,Bp,Bq,Br,Ai, t42_21, t43_23, t44_24,Bw], h25⟩) (
(loadV Try.prog 29 Ag h22).bind fun t45_26 =>
(storeV Try.prog 29 Ae t45_26 h22).bind fun h27 =>
k .ret ⟨#[Aa,Ab,Ac,Ad,Ae, (Go.Value.bool Bool.true),Ag,Ah,Ai,Aj,Ak,Al,An,Ao,Ap,Aq,Ar,Au,Av,Aw,Ax,Ay,Az,Ba,Bb,Bc,Bd,Be,Bf,Bg,Bh,Bi,Bj,Bk,Bl,Bm,Bn,Bo,Bp,Bq,Br,Ai, t42_21, t43_23,Bv, t45_26], h27⟩) := by kernel_rfl
theorem c21_3_eq {β : Type} (h : Heap) (k : Ex → St → Option β) : codeK Try.prog (evC Try.prog) loopL c21_3 ⟨#[Aa,Ab,Ac,Ad,Ae,Af,Ag,Ah,Ai,Aj,Ak,Al,An,Ao,Ap,Aq,Ar,Au,Av,Aw,Ax,Ay,Az,Ba,Bb,Bc,Bd,Be,Bf,Bg,Bh,Bi,Bj,Bk,Bl,Bm,Bn,Bo,Bp,Bq,Br,Bs,Bt,Bu,Bv,Bw], h⟩ k =
(binV Try.prog .lss 3 (.tmp 31) (.tmp 30) Bi Bh).bind fun t32_28 =>
cnd t32_28 (
obH (evC Try.prog 46 #[Ai, (Go.Value.int Go.IntKind.u64 18446744073709551615)] h) fun t37_29 h30 =>
(indexAddrV Try.prog 53 Ak Bi).bind fun t38_31 =>
(storeV Try.prog 46 t38_31 t37_29 h30).bind fun h32 =>
(binV Try.prog .add 3 (.tmp 31) (.const (Go.Value.int Go.IntKind.i64 1)) Bi (Go.Value.int Go.IntKind.i64 1)).bind fun t39_33 =>
k .normal ⟨#[Aa,Ab,Ac,Ad,Ae,Af,Ag,Ah,Ai,Aj,Ak,Bi,An,Ao,Ap,Aq,Ar,Au,Av,Aw,Ax,Ay,Az,Ba,Bb,Bc,Bd,Be,Bf,Bg,Bh, t39_33, t32_28,Bi,Ak,Bi,Ai, t37_29, t38_31, t39_33,Br,Bs,Bt,Bu,Bv,Bw], h32⟩) (
k (.exit 2) ⟨#[Aa,Ab,Ac,Ad,Ae,Af,Ag,Ah,Ai,Aj,Ak,Al,An,Ao,Ap,Aq,Ar,Au,Av,Aw,Ax,Ay,Az,Ba,Bb,Bc,Bd,Be,Bf,Bg,Bh,Bi, t32_28,Bk,Bl,Bm,Bn,Bo,Bp,Bq,Br,Bs,Bt,Bu,Bv,Bw], h⟩) := by kernel_rfl
theorem c21_4_eq {β : Type} (h : Heap) (k : Ex → St → Option β) : codeK Try.prog (evC Try.prog) loopL c21_4 ⟨#[Aa,Ab,Ac,Ad,Ae,Af,Ag,Ah,Ai,Aj,Ak,Al,An,Ao,Ap,Aq,Ar,Au,Av,Aw,Ax,Ay,Az,Ba,Bb,Bc,Bd,Be,Bf,Bg,Bh,Bi,Bj,Bk,Bl,Bm,Bn,Bo,Bp,Bq,Br,Bs,Bt,Bu,Bv,Bw], h⟩ k =
(binV Try.prog .add 3 (.tmp 25) (.const (Go.Value.int Go.IntKind.i64 1)) Bc (Go.Value.int Go.IntKind.i64 1)).bind fun t40_34 =>
k .normal ⟨#[Aa,Ab,Ac,Ad,Ae,Af,Ag,Ah,Ai,Aj,Ak,Al,An,Ao,Ap,Aq,Ar,Au,Av,Aw,Ax,Ay,Az,Ba,Bb, t40_34,Bd,Be,Bf,Bg,Bh,Bi,Bj,Bk,Bl,Bm,Bn,Bo,Bp,Bq, t40_34,Bs,Bt,Bu,Bv,Bw], h⟩ := by kernel_rfl
theorem call21 (h : Heap) : evC Try.prog 21 #[Aa,Ab] h = codeK Try.prog (evC Try.prog) loopL c21_0 ⟨#[Aa,Ab, undef, undef, undef, undef, undef, undef, undef, undef, undef, undef, undef, undef, undef, undef, undef, undef, undef, undef, undef, undef, undef, undef, undef, undef, undef, undef, undef, undef, undef, undef, undef, undef, undef, undef, undef, undef, undef, undef, undef, undef, undef, undef, undef, undef], nm h⟩ (retK Try.f21 Try.prog h) :=
  (evC_call 21 Try.f21 c21_0 Try.func21 (by kernel_rfl) #[Aa,Ab] h).trans (by kernel_rfl)
theorem ret21 (h0 h : Heap) : retK Try.f21 Try.prog h0 .ret ⟨#[Aa,Ab,Ac,Ad,Ae,Af,Ag,Ah,Ai,Aj,Ak,Al,An,Ao,Ap,Aq,Ar,Au,Av,Aw,Ax,Ay,Az,Ba,Bb,Bc,Bd,Be,Bf,Bg,Bh,Bi,Bj,Bk,Bl,Bm,Bn,Bo,Bp,Bq,Br,Bs,Bt,Bu,Bv,Bw], h⟩ = fin h0 (rvals ((loadV Try.prog 29 Ae h).bind fun r0 => some [r0,Af])) h := by kernel_rfl
theorem retn21 (h0 h : Heap) : retK Try.f21 Try.prog h0 .normal ⟨#[Aa,Ab,Ac,Ad,Ae,Af,Ag,Ah,Ai,Aj,Ak,Al,An,Ao,Ap,Aq,Ar,Au,Av,Aw,Ax,Ay,Az,Ba,Bb,Bc,Bd,Be,Bf,Bg,Bh,Bi,Bj,Bk,Bl,Bm,Bn,Bo,Bp,Bq,Br,Bs,Bt,Bu,Bv,Bw], h⟩ = fin h0 (rvals ((loadV Try.prog 29 Ae h).bind fun r0 => some [r0,Af])) h := by kernel_rfl
end Go.Am
namespace Go.Am
open Go.Proofs
set_option maxRecDepth 100000
variable (Aa Ab Ac Ad Ae Af Ag Ah Ai Aj Ak Al An Ao Ap Aq Ar Au Av Aw Ax Ay Az Ba Bb Bc Bd Be Bf Bg Bh Bi Bj Bk Bl Bm Bn : Value)
noncomputable def c23_0 : Code := bodyC Try.f23 []
noncomputable def c23_1 : Code := bodyC Try.f23 [true, true, true, false, true, false, false]
noncomputable def c23_2 : Code := bodyC Try.f23 [true, true, true, true]
noncomputable def c23_3 : Code := bodyC Try.f23 [true, true, true, false, true, false, false, true, false, false, true, false, false]
noncomputable def c23_4 : Code := bodyC Try.f23 [true, true, true, false, true, false, false, true, true]
theorem c23_0_eq {β : Type} (h : Heap) (k : Ex → St → Option β) : codeK Try.prog (evC Try.prog) loopL c23_0 ⟨#[Aa,Ab,Ac,Ad,Ae,Af,Ag,Ah,Ai,Aj,Ak,Al,An,Ao,Ap,Aq,Ar,Au,Av,Aw,Ax,Ay,Az,Ba,Bb,Bc,Bd,Be,Bf,Bg,Bh,Bi,Bj,Bk,Bl,Bm,Bn], h⟩ k =
obH (evC Try.prog 26 #[Aa,Ab] h) fun t10_0 h1 =>
(unV Try.prog .not t10_0).bind fun t11_2 =>
cnd t11_2 (
k .ret ⟨#[Aa,Ab,Ac,Ad, (Go.Value.slice Option.none 0 0),Af,Ag,Ah,Aa,Ab, t10_0, t11_2,An,Ao,Ap,Aq,Ar,Au,Av,Aw,Ax,Ay,Az,Ba,Bb,Bc,Bd,Be,Bf,Bg,Bh,Bi,Bj,Bk,Bl,Bm,Bn], h1⟩) (
(buildV Try.prog 97 #[]).bind fun t12_3 =>
obH (boxV Try.prog 97 t12_3 h1) fun t13_4 h5 =>
loopK Try.prog (evC Try.prog) c23_1 ⟨#[Aa,Ab,Ac,Ad, (Go.Value.slice Option.none 0 0), t13_4, (Go.Value.int Go.IntKind.i64 0),Ah,Aa,Ab, t10_0, t11_2, t12_3, t13_4,Ap,Aq,Ar,Au,Av,Aw,Ax,Ay,Az,Ba,Bb,Bc,Bd,Be,Bf,Bg,Bh,Bi,Bj,Bk,Bl,Bm,Bn], h5⟩ (blockK 0 (seqK Try.prog (evC Try.prog) c23_2 k))) := by kernel_rfl
theorem c23_1_eq {β : Type} (h : Heap) (k : Ex → St → Option β) : codeK Try.prog (evC Try.prog) loopL c23_1 ⟨#[Aa,Ab,Ac,Ad,Ae,Af,Ag,Ah,Ai,Aj,Ak,Al,An,Ao,Ap,Aq,Ar,Au,Av,Aw,Ax,Ay,Az,Ba,Bb,Bc,Bd,Be,Bf,Bg,Bh,Bi,Bj,Bk,Bl,Bm,Bn], h⟩ k =
(binV Try.prog .lss 3 (.tmp 14) (.tmp 15) Ag Aa).bind fun t16_6 =>
cnd t16_6 (
loopK Try.prog (evC Try.prog) c23_3 ⟨#[Aa,Ab,Ac,Ad,Ae,Af,Ag, (Go.Value.int Go.IntKind.i64 0),Ai,Aj,Ak,Al,An,Ao,Ag,Aa, t16_6,Au,Av,Aw,Ax,Ay,Az,Ba,Bb,Bc,Bd,Be,Bf,Bg,Bh,Bi,Bj,Bk,Bl,Bm,Bn], h⟩ (blockK 2 (blockK 1 (seqK Try.prog (evC Try.prog) c23_4 k)))) (
k (.exit 0) ⟨#[Aa,Ab,Ac,Ad,Ae,Af,Ag,Ah,Ai,Aj,Ak,Al,An,Ao,Ag,Aa, t16_6,Au,Av,Aw,Ax,Ay,Az,Ba,Bb,Bc,Bd,Be,Bf,Bg,Bh,Bi,Bj,Bk,Bl,Bm,Bn], h⟩) := by kernel_rfl
theorem c23_2_eq {β : Type} (h : Heap) (k : Ex → St → Option β) : codeK Try.prog (evC Try.prog) loopL c23_2 ⟨#[Aa,Ab,Ac,Ad,Ae,Af,Ag,Ah,Ai,Aj,Ak,Al,An,Ao,Ap,Aq,Ar,Au,Av,Aw,Ax,Ay,Az,Ba,Bb,Bc,Bd,Be,Bf,Bg,Bh,Bi,Bj,Bk,Bl,Bm,Bn], h⟩ k =
(nilCheckV Af).bind fun t34_7 =>
(fieldAddrV Try.prog 97 t34_7 0).bind fun t35_8 =>
(loadV Try.prog 23 t35_8 h).bind fun t36_9 =>
k .ret ⟨#[Aa,Ab,Ac,Ad, t36_9,Af,Ag,Ah,Ai,Aj,Ak,Al,An,Ao,Ap,Aq,Ar,Au,Av,Aw,Ax,Ay,Az,Ba,Bb,Bc,Bd,Be,Bf,Bg,Bh,Bi,Bj,Af, t34_7, t35_8, t36_9], h⟩ := by kernel_rfl
theorem c23_3_eq {β : Type} (h : Heap) (k : Ex → St → Option β) : codeK Try.prog (evC Try.prog) loopL c23_3 ⟨#[Aa,Ab,Ac,Ad,Ae,Af,Ag,Ah,Ai,Aj,Ak,Al,An,Ao,Ap,Aq,Ar,Au,Av,Aw,Ax,Ay,Az,Ba,Bb,Bc,Bd,Be,Bf,Bg,Bh,Bi,Bj,Bk,Bl,Bm,Bn], h⟩ k =
(binV Try.prog .lss 3 (.tmp 19) (.tmp 20) Ah Aa).bind fun t21_10 =>
cnd t21_10 (
(indexAddrV Try.prog 22 Ab Ag).bind fun t27_11 =>
(loadV Try.prog 52 t27_11 h).bind fun t28_12 =>
(indexAddrV Try.prog 52 t28_12 Ah).bind fun t30_13 =>
(loadV Try.prog 46 t30_13 h).bind fun t31_14 =>
obH (evC Try.prog 58 #[Af, t31_14] h) fun t32_15 h16 =>
(binV Try.prog .add 3 (.tmp 22) (.const (Go.Value.int Go.IntKind.i64 1)) Ah (Go.Value.int Go.IntKind.i64 1)).bind fun t23_17 =>
k .normal ⟨#[Aa,Ab,Ac,Ad,Ae,Af,Ag, t23_17,Ai,Aj,Ak,Al,An,Ao,Ap,Aq,Ar,Au,Av,Ah,Aa, t21_10,Ah, t23_17,Af,Ab,Ag, t27_11, t28_12,Ah, t30_13, t31_14, t32_15,Bk,Bl,Bm,Bn], h16⟩) (
k (.exit 2) ⟨#[Aa,Ab,Ac,Ad,Ae,Af,Ag,Ah,Ai,Aj,Ak,Al,An,Ao,Ap,Aq,Ar,Au,Av,Ah,Aa, t21_10,Az,Ba,Bb,Bc,Bd,Be,Bf,Bg,Bh,Bi,Bj,Bk,Bl,Bm,Bn], h⟩) := by kernel_rfl
theorem c23_4_eq {β : Type} (h : Heap) (k : Ex → St → Option β) : codeK Try.prog (evC Try.prog) loopL c23_4 ⟨#[Aa,Ab,Ac,Ad,Ae,Af,Ag,Ah,Ai,Aj,Ak,Al,An,Ao,Ap,Aq,Ar,Au,Av,Aw,Ax,Ay,Az,Ba,Bb,Bc,Bd,Be,Bf,Bg,Bh,Bi,Bj,Bk,Bl,Bm,Bn], h⟩ k =
(binV Try.prog .add 3 (.tmp 17) (.const (Go.Value.int Go.IntKind.i64 1)) Ag (Go.Value.int Go.IntKind.i64 1)).bind fun t18_18 =>
k .normal ⟨#[Aa,Ab,Ac,Ad,Ae,Af, t18_18,Ah,Ai,Aj,Ak,Al,An,Ao,Ap,Aq,Ar,Ag, t18_18,Aw,Ax,Ay,Az,Ba,Bb,Bc,Bd,Be,Bf,Bg,Bh,Bi,Bj,Bk,Bl,Bm,Bn], h⟩ := by kernel_rfl
theorem call23 (h : Heap) : evC Try.prog 23 #[Aa,Ab] h = codeK Try.prog (evC Try.prog) loopL c23_0 ⟨#[Aa,Ab, undef, undef, undef, undef, undef, undef, undef, undef, undef, undef, undef, undef, undef, undef, undef, undef, undef, undef, undef, undef, undef, undef, undef, undef, undef, undef, undef, undef, undef, undef, undef, undef, undef, undef, undef], nm h⟩ (retK Try.f23 Try.prog h) :=
  (evC_call 23 Try.f23 c23_0 Try.func23 (by kernel_rfl) #[Aa,Ab] h).trans (by kernel_rfl)
theorem ret23 (h0 h : Heap) : retK Try.f23 Try.prog h0 .ret ⟨#[Aa,Ab,Ac,Ad,Ae,Af,Ag,Ah,Ai,Aj,Ak,Al,An,Ao,Ap,Aq,Ar,Au,Av,Aw,Ax,Ay,Az,Ba,Bb,Bc,Bd,Be,Bf,Bg,Bh,Bi,Bj,Bk,Bl,Bm,Bn], h⟩ = fin h0 (some Ae) h := by kernel_rfl
theorem retn23 (h0 h : Heap) : retK Try.f23 Try.prog h0 .normal ⟨#[Aa,Ab,Ac,Ad,Ae,Af,Ag,Ah,Ai,Aj,Ak,Al,An,Ao,Ap,Aq,Ar,Au,Av,Aw,Ax,Ay,Az,Ba,Bb,Bc,Bd,Be,Bf,Bg,Bh,Bi,Bj,Bk,Bl,Bm,Bn], h⟩ = fin h0 (some Ae) h := by kernel_rfl
end Go.Am
namespace Go.Am
open Go.Proofs
set_option maxRecDepth 100000
variable (Aa Ab Ac Ad Ae Af Ag Ah Ai Aj Ak Al An Ao Ap Aq Ar Au Av Aw Ax Ay Az Ba Bb Bc Bd Be Bf Bg Bh Bi Bj Bk Bl Bm Bn Bo Bp Bq Br Bs Bt : Value)
noncomputable def c22_0 : Code := bodyC Try.f22 []
noncomputable def c22_1 : Code := bodyC Try.f22 [true, true, true, true, false, true, false, false]
noncomputable def c22_2 : Code := bodyC Try.f22 [true, true, true, true, true]
noncomputable def c22_3 : Code := bodyC Try.f22 [true, true, true, true, false, true, false, false, true, false, false, true, false, true, false, false]
noncomputable def c22_4 : Code := bodyC Try.f22 [true, true, true, true, false, true, false, false, true, false, false, true, true]
noncomputable def c22_5 : Code := bodyC Try.f22 [true, true, true, true, false, true, false, false, true, true]
theorem c22_0_eq {β : Type} (h : Heap) (k : Ex → St → Option β) : codeK Try.prog (evC Try.prog) loopL c22_0 ⟨#[Aa,Ab,Ac,Ad,Ae,Af,Ag,Ah,Ai,Aj,Ak,Al,An,Ao,Ap,Aq,Ar,Au,Av,Aw,Ax,Ay,Az,Ba,Bb,Bc,Bd,Be,Bf,Bg,Bh,Bi,Bj,Bk,Bl,Bm,Bn,Bo,Bp,Bq,Br,Bs,Bt], h⟩ k =
(binV Try.prog .lss 3 (.tmp 11) (.const (Go.Value.int Go.IntKind.i64 1)) Aa (Go.Value.int Go.IntKind.i64 1)).bind fun t12_0 =>
(gd (wt t12_0 false) (binV Try.prog .gtr 3 (.tmp 14) (.const (Go.Value.int Go.IntKind.i64 16)) (gdV (wt t12_0 false) Aa) (Go.Value.int Go.IntKind.i64 16))).bind fun t15_1 =>
(pickV t12_0 (Go.Value.bool Bool.true) t15_1).bind fun t16_2 =>
cnd t16_2 (
k .ret ⟨#[Aa,Ab,Ac,Ad, (Go.Value.slice Option.none 0 0), (Go.Value.bool Bool.false),Ag,Ah,Ai,Aj,Ak,Aa, t12_0, t12_0, (gdV (wt t12_0 false) Aa), t15_1, t16_2,Au,Av,Aw,Ax,Ay,Az,Ba,Bb,Bc,Bd,Be,Bf,Bg,Bh,Bi,Bj,Bk,Bl,Bm,Bn,Bo,Bp,Bq,Br,Bs,Bt], h⟩) (
(buildV Try.prog 83 #[(0,Ab)]).bind fun t18_3 =>
obH (boxV Try.prog 83 t18_3 h) fun t19_4 h5 =>
loopK Try.prog (evC Try.prog) c22_1 ⟨#[Aa,Ab,Ac,Ad, (Go.Value.slice Option.none 0 0), (Go.Value.bool Bool.false), t19_4, (Go.Value.slice Option.none 0 0), (Go.Value.int Go.IntKind.i64 0),Aj,Ak,Aa, t12_0, t12_0, (gdV (wt t12_0 false) Aa), t15_1, t16_2,Ab, t18_3, t19_4,Ax,Ay,Az,Ba,Bb,Bc,Bd,Be,Bf,Bg,Bh,Bi,Bj,Bk,Bl,Bm,Bn,Bo,Bp,Bq,Br,Bs,Bt], h5⟩ (blockK 0 (seqK Try.prog (evC Try.prog) c22_2 k))) := by kernel_rfl
theorem c22_1_eq {β : Type} (h : Heap) (k : Ex → St → Option β) : codeK Try.prog (evC Try.prog) loopL c22_1 ⟨#[Aa,Ab,Ac,Ad,Ae,Af,Ag,Ah,Ai,Aj,Ak,Al,An,Ao,Ap,Aq,Ar,Au,Av,Aw,Ax,Ay,Az,Ba,Bb,Bc,Bd,Be,Bf,Bg,Bh,Bi,Bj,Bk,Bl,Bm,Bn,Bo,Bp,Bq,Br,Bs,Bt], h⟩ k =
(binV Try.prog .lss 3 (.tmp 20) (.tmp 21) Ai Aa).bind fun t22_6 =>
cnd t22_6 (
loopK Try.prog (evC Try.prog) c22_3 ⟨#[Aa,Ab,Ac,Ad,Ae,Af,Ag,Ah,Ai, (Go.Value.slice Option.none 0 0), (Go.Value.int Go.IntKind.i64 0),Al,An,Ao,Ap,Aq,Ar,Au,Av,Aw,Ai,Aa, t22_6,Ba,Bb,Bc,Bd,Be,Bf,Bg,Bh,Bi,Bj,Bk,Bl,Bm,Bn,Bo,Bp,Bq,Br,Bs,Bt], h⟩ (blockK 2 (seqK Try.prog (evC Try.prog) c22_4 (blockK 1 (seqK Try.prog (evC Try.prog) c22_5 k))))) (
k (.exit 0) ⟨#[Aa,Ab,Ac,Ad,Ae,Af,Ag,Ah,Ai,Aj,Ak,Al,An,Ao,Ap,Aq,Ar,Au,Av,Aw,Ai,Aa, t22_6,Ba,Bb,Bc,Bd,Be,Bf,Bg,Bh,Bi,Bj,Bk,Bl,Bm,Bn,Bo,Bp,Bq,Br,Bs,Bt], h⟩) := by kernel_rfl
theorem c22_2_eq {β : Type} (h : Heap) (k : Ex → St → Option β) : codeK Try.prog (evC Try.prog) loopL c22_2 ⟨#[Aa,Ab,Ac,Ad,Ae,Af,Ag,Ah,Ai,Aj,Ak,Al,An,Ao,Ap,Aq,Ar,Au,Av,Aw,Ax,Ay,Az,Ba,Bb,Bc,Bd,Be,Bf,Bg,Bh,Bi,Bj,Bk,Bl,Bm,Bn,Bo,Bp,Bq,Br,Bs,Bt], h⟩ k =
obH (evC Try.prog 56 #[Ag] h) fun t40_7 h8 =>
(unV Try.prog .not t40_7).bind fun t41_9 =>
cnd t41_9 (
k .ret ⟨#[Aa,Ab,Ac,Ad, (Go.Value.slice Option.none 0 0), (Go.Value.bool Bool.false),Ag,Ah,Ai,Aj,Ak,Al,An,Ao,Ap,Aq,Ar,Au,Av,Aw,Ax,Ay,Az,Ba,Bb,Bc,Bd,Be,Bf,Bg,Bh,Bi,Bj,Bk,Bl,Bm,Bn,Bo,Bp,Ag, t40_7, t41_9,Bt], h8⟩) (
k .ret ⟨#[Aa,Ab,Ac,Ad,Ah, (Go.Value.bool Bool.true),Ag,Ah,Ai,Aj,Ak,Al,An,Ao,Ap,Aq,Ar,Au,Av,Aw,Ax,Ay,Az,Ba,Bb,Bc,Bd,Be,Bf,Bg,Bh,Bi,Bj,Bk,Bl,Bm,Bn,Bo,Bp,Ag, t40_7, t41_9,Ah], h8⟩) := by kernel_rfl
theorem c22_3_eq {β : Type} (h : Heap) (k : Ex → St → Option β) : codeK Try.prog (evC Try.prog) loopL c22_3 ⟨#[Aa,Ab,Ac,Ad,Ae,Af,Ag,Ah,Ai,Aj,Ak,Al,An,Ao,Ap,Aq,Ar,Au,Av,Aw,Ax,Ay,Az,Ba,Bb,Bc,Bd,Be,Bf,Bg,Bh,Bi,Bj,Bk,Bl,Bm,Bn,Bo,Bp,Bq,Br,Bs,Bt], h⟩ k =
(binV Try.prog .lss 3 (.tmp 25) (.tmp 26) Ak Aa).bind fun t27_10 =>
cnd t27_10 (
obH (evC Try.prog 48 #[Ag, (Go.Value.int Go.IntKind.u64 18446744073709551615)] h) fun t32_11 h12 =>
obH (buildSliceV Try.prog 52 1 #[(0, t32_11)] h12) fun t33_13 h14 =>
obH (appendV Try.prog 52 (some 52) Aj t33_13 h14) fun t34_15 h16 =>
(binV Try.prog .add 3 (.tmp 28) (.const (Go.Value.int Go.IntKind.i64 1)) Ak (Go.Value.int Go.IntKind.i64 1)).bind fun t29_17 =>
k .normal ⟨#[Aa,Ab,Ac,Ad,Ae,Af,Ag,Ah,Ai, t34_15, t29_17,Al,An,Ao,Ap,Aq,Ar,Au,Av,Aw,Ax,Ay,Az,Ba,Bb,Ak,Aa, t27_10,Ak, t29_17,Aj,Ag, t32_11, t33_13, t34_15,Bm,Bn,Bo,Bp,Bq,Br,Bs,Bt], h16⟩) (
k (.exit 2) ⟨#[Aa,Ab,Ac,Ad,Ae,Af,Ag,Ah,Ai,Aj,Ak,Al,An,Ao,Ap,Aq,Ar,Au,Av,Aw,Ax,Ay,Az,Ba,Bb,Ak,Aa, t27_10,Bf,Bg,Bh,Bi,Bj,Bk,Bl,Bm,Bn,Bo,Bp,Bq,Br,Bs,Bt], h⟩) := by kernel_rfl
theorem c22_4_eq {β : Type} (h : Heap) (k : Ex → St → Option β) : codeK Try.prog (evC Try.prog) loopL c22_4 ⟨#[Aa,Ab,Ac,Ad,Ae,Af,Ag,Ah,Ai,Aj,Ak,Al,An,Ao,Ap,Aq,Ar,Au,Av,Aw,Ax,Ay,Az,Ba,Bb,Bc,Bd,Be,Bf,Bg,Bh,Bi,Bj,Bk,Bl,Bm,Bn,Bo,Bp,Bq,Br,Bs,Bt], h⟩ k =
obH (buildSliceV Try.prog 22 1 #[(0,Aj)] h) fun t37_18 h19 =>
obH (appendV Try.prog 22 (some 22) Ah t37_18 h19) fun t38_20 h21 =>
k .normal ⟨#[Aa,Ab,Ac,Ad,Ae,Af,Ag, t38_20,Ai,Aj,Ak,Al,An,Ao,Ap,Aq,Ar,Au,Av,Aw,Ax,Ay,Az,Ba,Bb,Bc,Bd,Be,Bf,Bg,Bh,Bi,Bj,Bk,Bl,Ah,Aj, t37_18, t38_20,Bq,Br,Bs,Bt], h21⟩ := by kernel_rfl
theorem c22_5_eq {β : Type} (h : Heap) (k : Ex → St → Option β) : codeK Try.prog (evC Try.prog) loopL c22_5 ⟨#[Aa,Ab,Ac,Ad,Ae,Af,Ag,Ah,Ai,Aj,Ak,Al,An,Ao,Ap,Aq,Ar,Au,Av,Aw,Ax,Ay,Az,Ba,Bb,Bc,Bd,Be,Bf,Bg,Bh,Bi,Bj,Bk,Bl,Bm,Bn,Bo,Bp,Bq,Br,Bs,Bt], h⟩ k =
(binV Try.prog .add 3 (.tmp 23) (.const (Go.Value.int Go.IntKind.i64 1)) Ai (Go.Value.int Go.IntKind.i64 1)).bind fun t24_22 =>
k .normal ⟨#[Aa,Ab,Ac,Ad,Ae,Af,Ag,Ah, t24_22,Aj,Ak,Al,An,Ao,Ap,Aq,Ar,Au,Av,Aw,Ax,Ay,Az,Ai, t24_22,Bc,Bd,Be,Bf,Bg,Bh,Bi,Bj,Bk,Bl,Bm,Bn,Bo,Bp,Bq,Br,Bs,Bt], h⟩ := by kernel_rfl
theorem call22 (h : Heap) : evC Try.prog 22 #[Aa,Ab] h = codeK Try.prog (evC Try.prog) loopL c22_0 ⟨#[Aa,Ab, undef, undef, undef, undef, undef, undef, undef, undef, undef, undef, undef, undef, undef, undef, undef, undef, undef, undef, undef, undef, undef, undef, undef, undef, undef, undef, undef, undef, undef, undef, undef, undef, undef, undef, undef, undef, undef, undef, undef, undef, undef], nm h⟩ (retK Try.f22 Try.prog h) :=
  (evC_call 22 Try.f22 c22_0 Try.func22 (by kernel_rfl) #[Aa,Ab] h).trans (by kernel_rfl)
theorem ret22 (h0 h : Heap) : retK Try.f22 Try.prog h0 .ret ⟨#[Aa,Ab,Ac,Ad,Ae,Af,Ag,Ah,Ai,Aj,Ak,Al,An,Ao,Ap,Aq,Ar,Au,Av,Aw,Ax,Ay,Az,Ba,Bb,Bc,Bd,Be,Bf,Bg,Bh,Bi,Bj,Bk,Bl,Bm,Bn,Bo,Bp,Bq,Br,Bs,Bt], h⟩ = fin h0 (some (.tuple #[Ae,Af])) h := by kernel_rfl
theorem retn22 (h0 h : Heap) : retK Try.f22 Try.prog h0 .normal ⟨#[Aa,Ab,Ac,Ad,Ae,Af,Ag,Ah,Ai,Aj,Ak,Al,An,Ao,Ap,Aq,Ar,Au,Av,Aw,Ax,Ay,Az,Ba,Bb,Bc,Bd,Be,Bf,Bg,Bh,Bi,Bj,Bk,Bl,Bm,Bn,Bo,Bp,Bq,Br,Bs,Bt], h⟩ = fin h0 (some (.tuple #[Ae,Af])) h := by kernel_rfl
end Go.Am
namespace Go.Am
open Go.Proofs
set_option maxRecDepth 100000
variable (Aa Ab Ac Ad Ae Af Ag Ah Ai Aj Ak Al An Ao Ap Aq Ar Au Av Aw Ax Ay Az Ba Bb Bc Bd Be Bf Bg Bh : Value)
noncomputable def c27_0 : Code := bodyC Try.f27 []
theorem c27_0_eq {β : Type} (h : Heap) (k : Ex → St → Option β) : codeK Try.prog (evC Try.prog) loopL c27_0 ⟨#[Aa,Ab,Ac,Ad,Ae,Af,Ag,Ah,Ai,Aj,Ak,Al,An,Ao,Ap,Aq,Ar,Au,Av,Aw,Ax,Ay,Az,Ba,Bb,Bc,Bd,Be,Bf,Bg,Bh], h⟩ k =
obH (evC Try.prog 78 #[Aa] h) fun t10_0 h1 =>
(extractV t10_0 0).bind fun t11_2 =>
(extractV t10_0 1).bind fun t12_3 =>
obH (allocV Try.prog 29 h1) fun t6_4 h5 =>
(storeV Try.prog 29 t6_4 t11_2 h5).bind fun h6 =>
(binV Try.prog .neq 41 (.tmp 13) (.const (Go.Value.int Go.IntKind.i64 0)) t12_3 (Go.Value.int Go.IntKind.i64 0)).bind fun t14_7 =>
(gd (wt t14_7 false) (binV Try.prog .lss 3 (.tmp 16) (.const (Go.Value.int Go.IntKind.i64 0)) (gdV (wt t14_7 false) Ab) (Go.Value.int Go.IntKind.i64 0))).bind fun t17_8 =>
(pickV t14_7 (Go.Value.bool Bool.true) t17_8).bind fun t18_9 =>
(gd (wt t18_9 false) (binV Try.prog .geq 3 (.tmp 20) (.tmp 21) (gdV (wt t18_9 false) Ab) (gdV (wt t18_9 false) Aa))).bind fun t22_10 =>
(pickV t18_9 (Go.Value.bool Bool.true) t22_10).bind fun t23_11 =>
cnd t23_11 (
k .ret ⟨#[Aa,Ab,Ac,Ad, (Go.Value.pointer Option.none), (Go.Value.int Go.IntKind.i64 1), t6_4, t12_3, t10_0,Aa, t10_0, t11_2, t12_3, t12_3, t14_7, t14_7, (gdV (wt t14_7 false) Ab), t17_8, t18_9, t18_9, (gdV (wt t18_9 false) Ab), (gdV (wt t18_9 false) Aa), t22_10, t23_11,Bb,Bc,Bd,Be,Bf,Bg,Bh], h6⟩) (
(loadV Try.prog 29 t6_4 h6).bind fun t26_12 =>
obH (evC Try.prog 79 #[Aa] (nm h6)) fun t28_13 h14 =>
(buildV Try.prog 127 #[(0,Aa), (1,Ab), (2, t26_12), (3, t28_13)]).bind fun t29_15 =>
obH (boxV Try.prog 127 t29_15 (am h14 h6)) fun t30_16 h17 =>
chk ((rb t6_4) ++ []) (h14.mods ++ []) (
k .ret ⟨#[Aa,Ab,Ac,Ad, t30_16, (Go.Value.int Go.IntKind.i64 0), t6_4, t12_3, t10_0,Aa, t10_0, t11_2, t12_3, t12_3, t14_7, t14_7, (gdV (wt t14_7 false) Ab), t17_8, t18_9, t18_9, (gdV (wt t18_9 false) Ab), (gdV (wt t18_9 false) Aa), t22_10, t23_11,Aa,Ab, t26_12,Aa, t28_13, t29_15, t30_16], h17⟩)) := by kernel_rfl
theorem call27 (h : Heap) : evC Try.prog 27 #[Aa,Ab] h = codeK Try.prog (evC Try.prog) loopL c27_0 ⟨#[Aa,Ab, undef, undef, undef, undef, undef, undef, undef, undef, undef, undef, undef, undef, undef, undef, undef, undef, undef, undef, undef, undef, undef, undef, undef, undef, undef, undef, undef, undef, undef], nm h⟩ (retK Try.f27 Try.prog h) :=
  (evC_call 27 Try.f27 c27_0 Try.func27 (by kernel_rfl) #[Aa,Ab] h).trans (by kernel_rfl)
theorem ret27 (h0 h : Heap) : retK Try.f27 Try.prog h0 .ret ⟨#[Aa,Ab,Ac,Ad,Ae,Af,Ag,Ah,Ai,Aj,Ak,Al,An,Ao,Ap,Aq,Ar,Au,Av,Aw,Ax,Ay,Az,Ba,Bb,Bc,Bd,Be,Bf,Bg,Bh], h⟩ = fin h0 (some (.tuple #[Ae,Af])) h := by kernel_rfl
theorem retn27 (h0 h : Heap) : retK Try.f27 Try.prog h0 .normal ⟨#[Aa,Ab,Ac,Ad,Ae,Af,Ag,Ah,Ai,Aj,Ak,Al,An,Ao,Ap,Aq,Ar,Au,Av,Aw,Ax,Ay,Az,Ba,Bb,Bc,Bd,Be,Bf,Bg,Bh], h⟩ = fin h0 (some (.tuple #[Ae,Af])) h := by kernel_rfl
end Go.Am
namespace Go.Am
open Go.Proofs
set_option maxRecDepth 100000
variable (Aa Ab Ac Ad Ae Af Ag Ah Ai Aj Ak Al An Ao Ap Aq Ar Au Av Aw Ax Ay Az Ba Bb Bc Bd Be Bf Bg : Value)
noncomputable def c35_0 : Code := bodyC Try.f35 []
noncomputable def c35_1 : Code := bodyC Try.f35 [true, true, false, true, false, false]
noncomputable def c35_2 : Code := bodyC Try.f35 [true, true, true]
theorem c35_0_eq {β : Type} (h : Heap) (k : Ex → St → Option β) : codeK Try.prog (evC Try.prog) loopL c35_0 ⟨#[Aa,Ab,Ac,Ad,Ae,Af,Ag,Ah,Ai,Aj,Ak,Al,An,Ao,Ap,Aq,Ar,Au,Av,Aw,Ax,Ay,Az,Ba,Bb,Bc,Bd,Be,Bf,Bg], h⟩ k =
obH (allocV Try.prog 29 h) fun t2_0 h1 =>
(nilCheckV Aa).bind fun t7_2 =>
(fieldAddrV Try.prog 127 t7_2 0).bind fun t8_3 =>
(loadV Try.prog 3 t8_3 h1).bind fun t9_4 =>
(buildV Try.prog 29 #[(0, t9_4)]).bind fun t10_5 =>
obH (allocV Try.prog 29 h1) fun t3_6 h7 =>
(storeV Try.prog 29 t3_6 t10_5 h7).bind fun h8 =>
(nilCheckV Aa).bind fun t12_9 =>
(fieldAddrV Try.prog 127 t12_9 2).bind fun t13_10 =>
(fieldAddrV Try.prog 29 t13_10 1).bind fun t14_11 =>
(loadV Try.prog 27 t14_11 h8).bind fun t15_12 =>
(lenV Try.prog 27 t15_12 h8).bind fun t16_13 =>
loopK Try.prog (evC Try.prog) c35_1 ⟨#[Aa,Ab, t2_0, t3_6,Ae,Af,Aa, t7_2, t8_3, t9_4, t10_5,Aa, t12_9, t13_10, t14_11, t15_12, t16_13, (Go.Value.int Go.IntKind.i64 0),Av,Aw,Ax,Ay,Az,Ba,Bb,Bc,Bd,Be,Bf,Bg], h8⟩ (blockK 0 (seqK Try.prog (evC Try.prog) c35_2 k)) := by kernel_rfl
theorem c35_1_eq {β : Type} (h : Heap) (k : Ex → St → Option β) : codeK Try.prog (evC Try.prog) loopL c35_1 ⟨#[Aa,Ab,Ac,Ad,Ae,Af,Ag,Ah,Ai,Aj,Ak,Al,An,Ao,Ap,Aq,Ar,Au,Av,Aw,Ax,Ay,Az,Ba,Bb,Bc,Bd,Be,Bf,Bg], h⟩ k =
(binV Try.prog .lss 3 (.tmp 17) (.tmp 16) Au Ar).bind fun t18_14 =>
cnd t18_14 (
(indexAddrV Try.prog 27 Aq Au).bind fun t19_15 =>
(loadV Try.prog 53 t19_15 h).bind fun t20_16 =>
(fieldAddrV Try.prog 29 Ad 1).bind fun t21_17 =>
(loadV Try.prog 27 t21_17 h).bind fun t22_18 =>
obH (evC Try.prog 86 #[t20_16] (nm h)) fun t24_19 h20 =>
obH (buildSliceV Try.prog 27 1 #[(0, t24_19)] (am h20 h)) fun t25_21 h22 =>
obH (appendV Try.prog 27 (some 27) t22_18 t25_21 h22) fun t26_23 h24 =>
(fieldAddrV Try.prog 29 Ad 1).bind fun t27_25 =>
(storeV Try.prog 27 t27_25 t26_23 h24).bind fun h26 =>
chk ((rb t21_17) ++ []) (h20.mods ++ []) (
(binV Try.prog .add 3 (.tmp 17) (.const (Go.Value.int Go.IntKind.i64 1)) Au (Go.Value.int Go.IntKind.i64 1)).bind fun t28_27 =>
k .normal ⟨#[Aa,Ab,Ac,Ad,Ae, t20_16,Ag,Ah,Ai,Aj,Ak,Al,An,Ao,Ap,Aq,Ar, t28_27, t18_14, t19_15, t20_16, t21_17, t22_18, t20_16, t24_19, t25_21, t26_23, t27_25, t28_27,Bg], h26⟩)) (
k (.exit 0) ⟨#[Aa,Ab,Ac,Ad,Ae,Af,Ag,Ah,Ai,Aj,Ak,Al,An,Ao,Ap,Aq,Ar,Au, t18_14,Aw,Ax,Ay,Az,Ba,Bb,Bc,Bd,Be,Bf,Bg], h⟩) := by kernel_rfl
theorem c35_2_eq {β : Type} (h : Heap) (k : Ex → St → Option β) : codeK Try.prog (evC Try.prog) loopL c35_2 ⟨#[Aa,Ab,Ac,Ad,Ae,Af,Ag,Ah,Ai,Aj,Ak,Al,An,Ao,Ap,Aq,Ar,Au,Av,Aw,Ax,Ay,Az,Ba,Bb,Bc,Bd,Be,Bf,Bg], h⟩ k =
(loadV Try.prog 29 Ad h).bind fun t29_28 =>
(storeV Try.prog 29 Ac t29_28 h).bind fun h29 =>
k .ret ⟨#[Aa,Ab,Ac,Ad,Ae,Af,Ag,Ah,Ai,Aj,Ak,Al,An,Ao,Ap,Aq,Ar,Au,Av,Aw,Ax,Ay,Az,Ba,Bb,Bc,Bd,Be,Bf, t29_28], h29⟩ := by kernel_rfl
theorem call35 (h : Heap) : evC Try.prog 35 #[Aa] h = codeK Try.prog (evC Try.prog) loopL c35_0 ⟨#[Aa, undef, undef, undef, undef, undef, undef, undef, undef, undef, undef, undef, undef, undef, undef, undef, undef, undef, undef, undef, undef, undef, undef, undef, undef, undef, undef, undef, undef, undef], nm h⟩ (retK Try.f35 Try.prog h) :=
  (evC_call 35 Try.f35 c35_0 Try.func35 (by kernel_rfl) #[Aa] h).trans (by kernel_rfl)
theorem ret35 (h0 h : Heap) : retK Try.f35 Try.prog h0 .ret ⟨#[Aa,Ab,Ac,Ad,Ae,Af,Ag,Ah,Ai,Aj,Ak,Al,An,Ao,Ap,Aq,Ar,Au,Av,Aw,Ax,Ay,Az,Ba,Bb,Bc,Bd,Be,Bf,Bg], h⟩ = fin h0 (rvals ((loadV Try.prog 29 Ac h).bind fun r0 => some [r0])) h := by kernel_rfl
theorem retn35 (h0 h : Heap) : retK Try.f35 Try.prog h0 .normal ⟨#[Aa,Ab,Ac,Ad,Ae,Af,Ag,Ah,Ai,Aj,Ak,Al,An,Ao,Ap,Aq,Ar,Au,Av,Aw,Ax,Ay,Az,Ba,Bb,Bc,Bd,Be,Bf,Bg], h⟩ = fin h0 (rvals ((loadV Try.prog 29 Ac h).bind fun r0 => some [r0])) h := by kernel_rfl
end Go.Am
namespace Go.Am
open Go.Proofs
set_option maxRecDepth 100000
variable (Aa Ab Ac Ad Ae Af Ag Ah : Value)
noncomputable def c33_0 : Code := bodyC Try.f33 []
theorem c33_0_eq {β : Type} (h : Heap) (k : Ex → St → Option β) : codeK Try.prog (evC Try.prog) loopL c33_0 ⟨#[Aa,Ab,Ac,Ad,Ae,Af,Ag,Ah], h⟩ k =
(nilCheckV Aa).bind fun t4_0 =>
(fieldAddrV Try.prog 127 t4_0 3).bind fun t5_1 =>
(loadV Try.prog 53 t5_1 h).bind fun t6_2 =>
obH (evC Try.prog 86 #[t6_2] h) fun t7_3 h4 =>
k .ret ⟨#[Aa,Ab, t7_3,Aa, t4_0, t5_1, t6_2, t7_3], h4⟩ := by kernel_rfl
theorem call33 (h : Heap) : evC Try.prog 33 #[Aa] h = codeK Try.prog (evC Try.prog) loopL c33_0 ⟨#[Aa, undef, undef, undef, undef, undef, undef, undef], nm h⟩ (retK Try.f33 Try.prog h) :=
  (evC_call 33 Try.f33 c33_0 Try.func33 (by kernel_rfl) #[Aa] h).trans (by kernel_rfl)
theorem ret33 (h0 h : Heap) : retK Try.f33 Try.prog h0 .ret ⟨#[Aa,Ab,Ac,Ad,Ae,Af,Ag,Ah], h⟩ = fin h0 (some Ac) h := by kernel_rfl
theorem retn33 (h0 h : Heap) : retK Try.f33 Try.prog h0 .normal ⟨#[Aa,Ab,Ac,Ad,Ae,Af,Ag,Ah], h⟩ = fin h0 (some Ac) h := by kernel_rfl
end Go.Am
namespace Go.Am
open Go.Proofs
set_option maxRecDepth 100000
variable (Aa Ab Ac Ad Ae Af Ag Ah Ai Aj Ak Al An Ao Ap Aq Ar Au Av Aw Ax Ay Az Ba Bb Bc Bd Be Bf Bg Bh Bi Bj Bk Bl Bm Bn Bo Bp Bq Br Bs Bt Bu Bv Bw Bx : Value)
noncomputable def c28_0 : Code := bodyC Try.f28 []
noncomputable def c28_1 : Code := bodyC Try.f28 [true, true, true, false, true, false, false]
noncomputable def c28_2 : Code := bodyC Try.f28 [true, true, true, true]
theorem c28_0_eq {β : Type} (h : Heap) (k : Ex → St → Option β) : codeK Try.prog (evC Try.prog) loopL c28_0 ⟨#[Aa,Ab,Ac,Ad,Ae,Af,Ag,Ah,Ai,Aj,Ak,Al,An,Ao,Ap,Aq,Ar,Au,Av,Aw,Ax,Ay,Az,Ba,Bb,Bc,Bd,Be,Bf,Bg,Bh,Bi,Bj,Bk,Bl,Bm,Bn,Bo,Bp,Bq,Br,Bs,Bt,Bu,Bv,Bw,Bx], h⟩ k =
(nilCheckV Aa).bind fun t8_0 =>
(fieldAddrV Try.prog 127 t8_0 0).bind fun t9_1 =>
(loadV Try.prog 3 t9_1 h).bind fun t10_2 =>
obH (evC Try.prog 80 #[t10_2] (nm h)) fun t11_3 h4 =>
(nilCheckV Aa).bind fun t13_5 =>
(fieldAddrV Try.prog 127 t13_5 1).bind fun t14_6 =>
(loadV Try.prog 3 t14_6 (am h4 h)).bind fun t15_7 =>
obH (buildSliceV Try.prog 73 1 #[(0, t15_7)] (am h4 h)) fun t16_8 h9 =>
obH (evC Try.prog 29 #[t16_8] h9) fun t17_10 h11 =>
(binV Try.prog .andNot 47 (.tmp 11) (.tmp 17) t11_3 t17_10).bind fun t18_12 =>
(binV Try.prog .and 47 (.tmp 6) (.tmp 18) Ab t18_12).bind fun t19_13 =>
chk ([(am h4 h).blks.length] ++ ((rb t14_6) ++ [])) (h4.mods ++ []) (
obH (evC Try.prog 81 #[t19_13] h11) fun t21_14 h15 =>
loopK Try.prog (evC Try.prog) c28_1 ⟨#[Aa, t19_13,Ac,Ad, (Go.Value.slice Option.none 0 0), (Go.Value.slice Option.none 0 0),Ab,Aa, t8_0, t9_1, t10_2, t11_3,Aa, t13_5, t14_6, t15_7, t16_8, t17_10, t18_12, t19_13, t19_13, t21_14, (Go.Value.int Go.IntKind.i64 0),Ba,Bb,Bc,Bd,Be,Bf,Bg,Bh,Bi,Bj,Bk,Bl,Bm,Bn,Bo,Bp,Bq,Br,Bs,Bt,Bu,Bv,Bw,Bx], h15⟩ (blockK 0 (seqK Try.prog (evC Try.prog) c28_2 k))) := by kernel_rfl
theorem c28_1_eq {β : Type} (h : Heap) (k : Ex → St → Option β) : codeK Try.prog (evC Try.prog) loopL c28_1 ⟨#[Aa,Ab,Ac,Ad,Ae,Af,Ag,Ah,Ai,Aj,Ak,Al,An,Ao,Ap,Aq,Ar,Au,Av,Aw,Ax,Ay,Az,Ba,Bb,Bc,Bd,Be,Bf,Bg,Bh,Bi,Bj,Bk,Bl,Bm,Bn,Bo,Bp,Bq,Br,Bs,Bt,Bu,Bv,Bw,Bx], h⟩ k =
(binV Try.prog .lss 3 (.tmp 22) (.tmp 21) Az Ay).bind fun t23_16 =>
cnd t23_16 (
(nilCheckV Aa).bind fun t26_17 =>
(fieldAddrV Try.prog 127 t26_17 2).bind fun t27_18 =>
(loadV Try.prog 29 t27_18 h).bind fun t28_19 =>
obH (evC Try.prog 19 #[t28_19] h) fun t29_20 h21 =>
obH (buildSliceV Try.prog 44 1 #[(0, t29_20)] h21) fun t30_22 h23 =>
obH (appendV Try.prog 44 (some 44) Af t30_22 h23) fun t31_24 h25 =>
(binV Try.prog .add 3 (.tmp 22) (.const (Go.Value.int Go.IntKind.i64 1)) Az (Go.Value.int Go.IntKind.i64 1)).bind fun t32_26 =>
k .normal ⟨#[Aa,Ab,Ac,Ad,Ae, t31_24,Ag,Ah,Ai,Aj,Ak,Al,An,Ao,Ap,Aq,Ar,Au,Av,Aw,Ax,Ay, t32_26, t23_16,Af,Aa, t26_17, t27_18, t28_19, t29_20, t30_22, t31_24, t32_26,Bk,Bl,Bm,Bn,Bo,Bp,Bq,Br,Bs,Bt,Bu,Bv,Bw,Bx], h25⟩) (
k (.exit 0) ⟨#[Aa,Ab,Ac,Ad,Ae,Af,Ag,Ah,Ai,Aj,Ak,Al,An,Ao,Ap,Aq,Ar,Au,Av,Aw,Ax,Ay,Az, t23_16,Bb,Bc,Bd,Be,Bf,Bg,Bh,Bi,Bj,Bk,Bl,Bm,Bn,Bo,Bp,Bq,Br,Bs,Bt,Bu,Bv,Bw,Bx], h⟩) := by kernel_rfl
theorem c28_2_eq {β : Type} (h : Heap) (k : Ex → St → Option β) : codeK Try.prog (evC Try.prog) loopL c28_2 ⟨#[Aa,Ab,Ac,Ad,Ae,Af,Ag,Ah,Ai,Aj,Ak,Al,An,Ao,Ap,Aq,Ar,Au,Av,Aw,Ax,Ay,Az,Ba,Bb,Bc,Bd,Be,Bf,Bg,Bh,Bi,Bj,Bk,Bl,Bm,Bn,Bo,Bp,Bq,Br,Bs,Bt,Bu,Bv,Bw,Bx], h⟩ k =
(nilCheckV Aa).bind fun t35_27 =>
(fieldAddrV Try.prog 127 t35_27 2).bind fun t36_28 =>
(loadV Try.prog 29 t36_28 h).bind fun t37_29 =>
(nilCheckV Aa).bind fun t39_30 =>
(fieldAddrV Try.prog 127 t39_30 1).bind fun t40_31 =>
(loadV Try.prog 3 t40_31 h).bind fun t41_32 =>
obH (evC Try.prog 82 #[t37_29, t41_32,Ab] h) fun t43_33 h34 =>
(nilCheckV Aa).bind fun t44_35 =>
(fieldAddrV Try.prog 127 t44_35 2).bind fun t45_36 =>
(storeV Try.prog 29 t45_36 t43_33 h34).bind fun h37 =>
k .ret ⟨#[Aa,Ab,Ac,Ad,Af,Af,Ag,Ah,Ai,Aj,Ak,Al,An,Ao,Ap,Aq,Ar,Au,Av,Aw,Ax,Ay,Az,Ba,Bb,Bc,Bd,Be,Bf,Bg,Bh,Bi,Bj,Aa,Aa, t35_27, t36_28, t37_29,Aa, t39_30, t40_31, t41_32,Ab, t43_33, t44_35, t45_36,Af], h37⟩ := by kernel_rfl
theorem call28 (h : Heap) : evC Try.prog 28 #[Aa,Ab] h = codeK Try.prog (evC Try.prog) loopL c28_0 ⟨#[Aa,Ab, undef, undef, undef, undef, undef, undef, undef, undef, undef, undef, undef, undef, undef, undef, undef, undef, undef, undef, undef, undef, undef, undef, undef, undef, undef, undef, undef, undef, undef, undef, undef, undef, undef, undef, undef, undef, undef, undef, undef, undef, undef, undef, undef, undef, undef], nm h⟩ (retK Try.f28 Try.prog h) :=
  (evC_call 28 Try.f28 c28_0 Try.func28 (by kernel_rfl) #[Aa,Ab] h).trans (by kernel_rfl)
theorem ret28 (h0 h : Heap) : retK Try.f28 Try.prog h0 .ret ⟨#[Aa,Ab,Ac,Ad,Ae,Af,Ag,Ah,Ai,Aj,Ak,Al,An,Ao,Ap,Aq,Ar,Au,Av,Aw,Ax,Ay,Az,Ba,Bb,Bc,Bd,Be,Bf,Bg,Bh,Bi,Bj,Bk,Bl,Bm,Bn,Bo,Bp,Bq,Br,Bs,Bt,Bu,Bv,Bw,Bx], h⟩ = fin h0 (some Ae) h := by kernel_rfl
theorem retn28 (h0 h : Heap) : retK Try.f28 Try.prog h0 .normal ⟨#[Aa,Ab,Ac,Ad,Ae,Af,Ag,Ah,Ai,Aj,Ak,Al,An,Ao,Ap,Aq,Ar,Au,Av,Aw,Ax,Ay,Az,Ba,Bb,Bc,Bd,Be,Bf,Bg,Bh,Bi,Bj,Bk,Bl,Bm,Bn,Bo,Bp,Bq,Br,Bs,Bt,Bu,Bv,Bw,Bx], h⟩ = fin h0 (some Ae) h := by kernel_rfl
end Go.Am
namespace Go.Am
open Go.Proofs
set_option maxRecDepth 100000
variable (Aa Ab Ac Ad Ae Af Ag Ah Ai Aj Ak Al An Ao Ap Aq Ar Au Av Aw Ax Ay Az Ba Bb Bc : Value)
noncomputable def c32_0 : Code := bodyC Try.f32 []
noncomputable def c32_1 : Code := bodyC Try.f32 [true, true, false, true, false, false]
noncomputable def c32_2 : Code := bodyC Try.f32 [true, true, true]
theorem c32_0_eq {β : Type} (h : Heap) (k : Ex → St → Option β) : codeK Try.prog (evC Try.prog) loopL c32_0 ⟨#[Aa,Ab,Ac,Ad,Ae,Af,Ag,Ah,Ai,Aj,Ak,Al,An,Ao,Ap,Aq,Ar,Au,Av,Aw,Ax,Ay,Az,Ba,Bb,Bc], h⟩ k =
(lenV Try.prog 52 Aa h).bind fun t7_0 =>
(lenV Try.prog 52 Ab h).bind fun t9_1 =>
(binV Try.prog .neq 3 (.tmp 7) (.tmp 9) t7_0 t9_1).bind fun t10_2 =>
cnd t10_2 (
k .ret ⟨#[Aa,Ab,Ac,Ad, (Go.Value.bool Bool.false),Af,Aa, t7_0,Ab, t9_1, t10_2,Al,An,Ao,Ap,Aq,Ar,Au,Av,Aw,Ax,Ay,Az,Ba,Bb,Bc], h⟩) (
loopK Try.prog (evC Try.prog) c32_1 ⟨#[Aa,Ab,Ac,Ad, (Go.Value.bool Bool.false), (Go.Value.int Go.IntKind.i64 0),Aa, t7_0,Ab, t9_1, t10_2,Al,An,Ao,Ap,Aq,Ar,Au,Av,Aw,Ax,Ay,Az,Ba,Bb,Bc], h⟩ (blockK 0 (seqK Try.prog (evC Try.prog) c32_2 k))) := by kernel_rfl
theorem c32_1_eq {β : Type} (h : Heap) (k : Ex → St → Option β) : codeK Try.prog (evC Try.prog) loopL c32_1 ⟨#[Aa,Ab,Ac,Ad,Ae,Af,Ag,Ah,Ai,Aj,Ak,Al,An,Ao,Ap,Aq,Ar,Au,Av,Aw,Ax,Ay,Az,Ba,Bb,Bc], h⟩ k =
(lenV Try.prog 52 Aa h).bind fun t13_3 =>
(binV Try.prog .lss 3 (.tmp 11) (.tmp 13) Af t13_3).bind fun t14_4 =>
cnd t14_4 (
(indexAddrV Try.prog 52 Aa Af).bind fun t19_5 =>
(loadV Try.prog 46 t19_5 h).bind fun t20_6 =>
(indexAddrV Try.prog 52 Ab Af).bind fun t23_7 =>
(loadV Try.prog 46 t23_7 h).bind fun t24_8 =>
(binV Try.prog .neq 46 (.tmp 20) (.tmp 24) t20_6 t24_8).bind fun t25_9 =>
cnd t25_9 (
k .ret ⟨#[Aa,Ab,Ac,Ad, (Go.Value.bool Bool.false),Af,Ag,Ah,Ai,Aj,Ak,Af,Aa, t13_3, t14_4,Aq,Ar,Aa,Af, t19_5, t20_6,Ab,Af, t23_7, t24_8, t25_9], h⟩) (
(binV Try.prog .add 3 (.tmp 15) (.const (Go.Value.int Go.IntKind.i64 1)) Af (Go.Value.int Go.IntKind.i64 1)).bind fun t16_10 =>
k .normal ⟨#[Aa,Ab,Ac,Ad,Ae, t16_10,Ag,Ah,Ai,Aj,Ak,Af,Aa, t13_3, t14_4,Af, t16_10,Aa,Af, t19_5, t20_6,Ab,Af, t23_7, t24_8, t25_9], h⟩)) (
k (.exit 0) ⟨#[Aa,Ab,Ac,Ad,Ae,Af,Ag,Ah,Ai,Aj,Ak,Af,Aa, t13_3, t14_4,Aq,Ar,Au,Av,Aw,Ax,Ay,Az,Ba,Bb,Bc], h⟩) := by kernel_rfl
theorem c32_2_eq {β : Type} (h : Heap) (k : Ex → St → Option β) : codeK Try.prog (evC Try.prog) loopL c32_2 ⟨#[Aa,Ab,Ac,Ad,Ae,Af,Ag,Ah,Ai,Aj,Ak,Al,An,Ao,Ap,Aq,Ar,Au,Av,Aw,Ax,Ay,Az,Ba,Bb,Bc], h⟩ k =
k .ret ⟨#[Aa,Ab,Ac,Ad, (Go.Value.bool Bool.true),Af,Ag,Ah,Ai,Aj,Ak,Al,An,Ao,Ap,Aq,Ar,Au,Av,Aw,Ax,Ay,Az,Ba,Bb,Bc], h⟩ := by kernel_rfl
theorem call32 (h : Heap) : evC Try.prog 32 #[Aa,Ab] h = codeK Try.prog (evC Try.prog) loopL c32_0 ⟨#[Aa,Ab, undef, undef, undef, undef, undef, undef, undef, undef, undef, undef, undef, undef, undef, undef, undef, undef, undef, undef, undef, undef, undef, undef, undef, undef], nm h⟩ (retK Try.f32 Try.prog h) :=
  (evC_call 32 Try.f32 c32_0 Try.func32 (by kernel_rfl) #[Aa,Ab] h).trans (by kernel_rfl)
theorem ret32 (h0 h : Heap) : retK Try.f32 Try.prog h0 .ret ⟨#[Aa,Ab,Ac,Ad,Ae,Af,Ag,Ah,Ai,Aj,Ak,Al,An,Ao,Ap,Aq,Ar,Au,Av,Aw,Ax,Ay,Az,Ba,Bb,Bc], h⟩ = fin h0 (some Ae) h := by kernel_rfl
theorem retn32 (h0 h : Heap) : retK Try.f32 Try.prog h0 .normal ⟨#[Aa,Ab,Ac,Ad,Ae,Af,Ag,Ah,Ai,Aj,Ak,Al,An,Ao,Ap,Aq,Ar,Au,Av,Aw,Ax,Ay,Az,Ba,Bb,Bc], h⟩ = fin h0 (some Ae) h := by kernel_rfl
end Go.Am
namespace Go.Am
open Go.Proofs
set_option maxRecDepth 100000
variable (Aa Ab Ac Ad Ae Af Ag Ah Ai Aj Ak Al An Ao Ap Aq Ar Au Av Aw Ax Ay Az Ba Bb : Value)
noncomputable def c20_0 : Code := bodyC Try.f20 []
noncomputable def c20_1 : Code := bodyC Try.f20 [true, true, false, true, false, false]
noncomputable def c20_2 : Code := bodyC Try.f20 [true, true, true]
theorem c20_0_eq {β : Type} (h : Heap) (k : Ex → St → Option β) : codeK Try.prog (evC Try.prog) loopL c20_0 ⟨#[Aa,Ab,Ac,Ad,Ae,Af,Ag,Ah,Ai,Aj,Ak,Al,An,Ao,Ap,Aq,Ar,Au,Av,Aw,Ax,Ay,Az,Ba,Bb], h⟩ k =
obH (allocV Try.prog 29 h) fun t4_0 h1 =>
(buildV Try.prog 29 #[(0,Aa)]).bind fun t8_2 =>
obH (allocV Try.prog 29 h1) fun t5_3 h4 =>
(storeV Try.prog 29 t5_3 t8_2 h4).bind fun h5 =>
loopK Try.prog (evC Try.prog) c20_1 ⟨#[Aa,Ab,Ac,Ad, t4_0, t5_3, (Go.Value.int Go.IntKind.i64 0),Aa, t8_2,Aj,Ak,Al,An,Ao,Ap,Aq,Ar,Au,Av,Aw,Ax,Ay,Az,Ba,Bb], h5⟩ (blockK 0 (seqK Try.prog (evC Try.prog) c20_2 k)) := by kernel_rfl
theorem c20_1_eq {β : Type} (h : Heap) (k : Ex → St → Option β) : codeK Try.prog (evC Try.prog) loopL c20_1 ⟨#[Aa,Ab,Ac,Ad,Ae,Af,Ag,Ah,Ai,Aj,Ak,Al,An,Ao,Ap,Aq,Ar,Au,Av,Aw,Ax,Ay,Az,Ba,Bb], h⟩ k =
(lenV Try.prog 22 Ab h).bind fun t11_6 =>
(binV Try.prog .lss 3 (.tmp 9) (.tmp 11) Ag t11_6).bind fun t12_7 =>
cnd t12_7 (
(fieldAddrV Try.prog 29 Af 1).bind fun t15_8 =>
(loadV Try.prog 27 t15_8 h).bind fun t16_9 =>
(indexAddrV Try.prog 22 Ab Ag).bind fun t19_10 =>
(loadV Try.prog 52 t19_10 h).bind fun t20_11 =>
obH (buildSliceV Try.prog 27 1 #[(0, t20_11)] h) fun t21_12 h13 =>
obH (appendV Try.prog 27 (some 27) t16_9 t21_12 h13) fun t22_14 h15 =>
(fieldAddrV Try.prog 29 Af 1).bind fun t23_16 =>
(storeV Try.prog 27 t23_16 t22_14 h15).bind fun h17 =>
(binV Try.prog .add 3 (.tmp 13) (.const (Go.Value.int Go.IntKind.i64 1)) Ag (Go.Value.int Go.IntKind.i64 1)).bind fun t14_18 =>
k .normal ⟨#[Aa,Ab,Ac,Ad,Ae,Af, t14_18,Ah,Ai,Ag,Ab, t11_6, t12_7,Ag, t14_18, t15_8, t16_9,Ab,Ag, t19_10, t20_11, t21_12, t22_14, t23_16,Bb], h17⟩) (
k (.exit 0) ⟨#[Aa,Ab,Ac,Ad,Ae,Af,Ag,Ah,Ai,Ag,Ab, t11_6, t12_7,Ao,Ap,Aq,Ar,Au,Av,Aw,Ax,Ay,Az,Ba,Bb], h⟩) := by kernel_rfl
theorem c20_2_eq {β : Type} (h : Heap) (k : Ex → St → Option β) : codeK Try.prog (evC Try.prog) loopL c20_2 ⟨#[Aa,Ab,Ac,Ad,Ae,Af,Ag,Ah,Ai,Aj,Ak,Al,An,Ao,Ap,Aq,Ar,Au,Av,Aw,Ax,Ay,Az,Ba,Bb], h⟩ k =
(loadV Try.prog 29 Af h).bind fun t24_19 =>
(storeV Try.prog 29 Ae t24_19 h).bind fun h20 =>
k .ret ⟨#[Aa,Ab,Ac,Ad,Ae,Af,Ag,Ah,Ai,Aj,Ak,Al,An,Ao,Ap,Aq,Ar,Au,Av,Aw,Ax,Ay,Az,Ba, t24_19], h20⟩ := by kernel_rfl
theorem call20 (h : Heap) : evC Try.prog 20 #[Aa,Ab] h = codeK Try.prog (evC Try.prog) loopL c20_0 ⟨#[Aa,Ab, undef, undef, undef, undef, undef, undef, undef, undef, undef, undef, undef, undef, undef, undef, undef, undef, undef, undef, undef, undef, undef, undef, undef], nm h⟩ (retK Try.f20 Try.prog h) :=
  (evC_call 20 Try.f20 c20_0 Try.func20 (by kernel_rfl) #[Aa,Ab] h).trans (by kernel_rfl)
theorem ret20 (h0 h : Heap) : retK Try.f20 Try.prog h0 .ret ⟨#[Aa,Ab,Ac,Ad,Ae,Af,Ag,Ah,Ai,Aj,Ak,Al,An,Ao,Ap,Aq,Ar,Au,Av,Aw,Ax,Ay,Az,Ba,Bb], h⟩ = fin h0 (rvals ((loadV Try.prog 29 Ae h).bind fun r0 => some [r0])) h := by kernel_rfl
theorem retn20 (h0 h : Heap) : retK Try.f20 Try.prog h0 .normal ⟨#[Aa,Ab,Ac,Ad,Ae,Af,Ag,Ah,Ai,Aj,Ak,Al,An,Ao,Ap,Aq,Ar,Au,Av,Aw,Ax,Ay,Az,Ba,Bb], h⟩ = fin h0 (rvals ((loadV Try.prog 29 Ae h).bind fun r0 => some [r0])) h := by kernel_rfl
end Go.Am
namespace Go.Am
open Go.Proofs
set_option maxRecDepth 100000
variable (Aa Ab Ac Ad Ae Af Ag Ah Ai Aj Ak Al An Ao Ap Aq Ar Au Av Aw Ax : Value)
noncomputable def c25_0 : Code := bodyC Try.f25 []
noncomputable def c25_1 : Code := bodyC Try.f25 [true, true, false, true, false, false]
noncomputable def c25_2 : Code := bodyC Try.f25 [true, true, true]
theorem c25_0_eq {β : Type} (h : Heap) (k : Ex → St → Option β) : codeK Try.prog (evC Try.prog) loopL c25_0 ⟨#[Aa,Ab,Ac,Ad,Ae,Af,Ag,Ah,Ai,Aj,Ak,Al,An,Ao,Ap,Aq,Ar,Au,Av,Aw,Ax], h⟩ k =
obH (boxV Try.prog 29 Aa h) fun t1_0 h1 =>
loopK Try.prog (evC Try.prog) c25_1 ⟨#[Aa, t1_0, (Go.Value.slice Option.none 0 0), (Go.Value.slice Option.none 0 0), (Go.Value.int Go.IntKind.i64 0),Af,Ag,Ah,Ai,Aj,Ak,Al,An,Ao,Ap,Aq,Ar,Au,Av,Aw,Ax], h1⟩ (blockK 0 (seqK Try.prog (evC Try.prog) c25_2 k)) := by kernel_rfl
theorem c25_1_eq {β : Type} (h : Heap) (k : Ex → St → Option β) : codeK Try.prog (evC Try.prog) loopL c25_1 ⟨#[Aa,Ab,Ac,Ad,Ae,Af,Ag,Ah,Ai,Aj,Ak,Al,An,Ao,Ap,Aq,Ar,Au,Av,Aw,Ax], h⟩ k =
(fieldAddrV Try.prog 29 Ab 1).bind fun t6_2 =>
(loadV Try.prog 27 t6_2 h).bind fun t7_3 =>
(lenV Try.prog 27 t7_3 h).bind fun t8_4 =>
(binV Try.prog .lss 3 (.tmp 5) (.tmp 8) Ae t8_4).bind fun t9_5 =>
cnd t9_5 (
(fieldAddrV Try.prog 29 Ab 1).bind fun t13_6 =>
(loadV Try.prog 27 t13_6 h).bind fun t14_7 =>
(indexAddrV Try.prog 27 t14_7 Ae).bind fun t16_8 =>
(loadV Try.prog 53 t16_8 h).bind fun t17_9 =>
obH (buildSliceV Try.prog 22 1 #[(0, t17_9)] h) fun t18_10 h11 =>
obH (appendV Try.prog 22 (some 22) Ad t18_10 h11) fun t19_12 h13 =>
(binV Try.prog .add 3 (.tmp 10) (.const (Go.Value.int Go.IntKind.i64 1)) Ae (Go.Value.int Go.IntKind.i64 1)).bind fun t11_14 =>
k .normal ⟨#[Aa,Ab,Ac, t19_12, t11_14,Ae, t6_2, t7_3, t8_4, t9_5,Ae, t11_14,Ad, t13_6, t14_7,Ae, t16_8, t17_9, t18_10, t19_12,Ax], h13⟩) (
k (.exit 0) ⟨#[Aa,Ab,Ac,Ad,Ae,Ae, t6_2, t7_3, t8_4, t9_5,Ak,Al,An,Ao,Ap,Aq,Ar,Au,Av,Aw,Ax], h⟩) := by kernel_rfl
theorem c25_2_eq {β : Type} (h : Heap) (k : Ex → St → Option β) : codeK Try.prog (evC Try.prog) loopL c25_2 ⟨#[Aa,Ab,Ac,Ad,Ae,Af,Ag,Ah,Ai,Aj,Ak,Al,An,Ao,Ap,Aq,Ar,Au,Av,Aw,Ax], h⟩ k =
k .ret ⟨#[Aa,Ab,Ad,Ad,Ae,Af,Ag,Ah,Ai,Aj,Ak,Al,An,Ao,Ap,Aq,Ar,Au,Av,Aw,Ad], h⟩ := by kernel_rfl
theorem call25 (h : Heap) : evC Try.prog 25 #[Aa] h = codeK Try.prog (evC Try.prog) loopL c25_0 ⟨#[Aa, undef, undef, undef, undef, undef, undef, undef, undef, undef, undef, undef, undef, undef, undef, undef, undef, undef, undef, undef, undef], nm h⟩ (retK Try.f25 Try.prog h) :=
  (evC_call 25 Try.f25 c25_0 Try.func25 (by kernel_rfl) #[Aa] h).trans (by kernel_rfl)
theorem ret25 (h0 h : Heap) : retK Try.f25 Try.prog h0 .ret ⟨#[Aa,Ab,Ac,Ad,Ae,Af,Ag,Ah,Ai,Aj,Ak,Al,An,Ao,Ap,Aq,Ar,Au,Av,Aw,Ax], h⟩ = fin h0 (some Ac) h := by kernel_rfl
theorem retn25 (h0 h : Heap) : retK Try.f25 Try.prog h0 .normal ⟨#[Aa,Ab,Ac,Ad,Ae,Af,Ag,Ah,Ai,Aj,Ak,Al,An,Ao,Ap,Aq,Ar,Au,Av,Aw,Ax], h⟩ = fin h0 (some Ac) h := by kernel_rfl
end Go.Am
namespace Go.Am
open Go.Proofs
set_option maxRecDepth 100000
variable (Aa Ab Ac Ad Ae Af Ag Ah Ai Aj Ak Al An Ao Ap Aq Ar Au Av Aw Ax Ay Az Ba Bb Bc Bd : Value)
noncomputable def c24_0 : Code := bodyC Try.f24 []
noncomputable def c24_1 : Code := bodyC Try.f24 [true, true, false, true, false, false]
noncomputable def c24_2 : Code := bodyC Try.f24 [true, true, true]
theorem c24_0_eq {β : Type} (h : Heap) (k : Ex → St → Option β) : codeK Try.prog (evC Try.prog) loopL c24_0 ⟨#[Aa,Ab,Ac,Ad,Ae,Af,Ag,Ah,Ai,Aj,Ak,Al,An,Ao,Ap,Aq,Ar,Au,Av,Aw,Ax,Ay,Az,Ba,Bb,Bc,Bd], h⟩ k =
(lenV Try.prog 22 Aa h).bind fun t7_0 =>
(lenV Try.prog 22 Ab h).bind fun t9_1 =>
(binV Try.prog .neq 3 (.tmp 7) (.tmp 9) t7_0 t9_1).bind fun t10_2 =>
cnd t10_2 (
k .ret ⟨#[Aa,Ab,Ac,Ad, (Go.Value.bool Bool.false),Af,Aa, t7_0,Ab, t9_1, t10_2,Al,An,Ao,Ap,Aq,Ar,Au,Av,Aw,Ax,Ay,Az,Ba,Bb,Bc,Bd], h⟩) (
loopK Try.prog (evC Try.prog) c24_1 ⟨#[Aa,Ab,Ac,Ad, (Go.Value.bool Bool.false), (Go.Value.int Go.IntKind.i64 0),Aa, t7_0,Ab, t9_1, t10_2,Al,An,Ao,Ap,Aq,Ar,Au,Av,Aw,Ax,Ay,Az,Ba,Bb,Bc,Bd], h⟩ (blockK 0 (seqK Try.prog (evC Try.prog) c24_2 k))) := by kernel_rfl
theorem c24_1_eq {β : Type} (h : Heap) (k : Ex → St → Option β) : codeK Try.prog (evC Try.prog) loopL c24_1 ⟨#[Aa,Ab,Ac,Ad,Ae,Af,Ag,Ah,Ai,Aj,Ak,Al,An,Ao,Ap,Aq,Ar,Au,Av,Aw,Ax,Ay,Az,Ba,Bb,Bc,Bd], h⟩ k =
(lenV Try.prog 22 Aa h).bind fun t13_3 =>
(binV Try.prog .lss 3 (.tmp 11) (.tmp 13) Af t13_3).bind fun t14_4 =>
cnd t14_4 (
(indexAddrV Try.prog 22 Aa Af).bind fun t19_5 =>
(loadV Try.prog 52 t19_5 h).bind fun t20_6 =>
(indexAddrV Try.prog 22 Ab Af).bind fun t23_7 =>
(loadV Try.prog 52 t23_7 h).bind fun t24_8 =>
obH (evC Try.prog 32 #[t20_6, t24_8] h) fun t25_9 h10 =>
(unV Try.prog .not t25_9).bind fun t26_11 =>
cnd t26_11 (
k .ret ⟨#[Aa,Ab,Ac,Ad, (Go.Value.bool Bool.false),Af,Ag,Ah,Ai,Aj,Ak,Af,Aa, t13_3, t14_4,Aq,Ar,Aa,Af, t19_5, t20_6,Ab,Af, t23_7, t24_8, t25_9, t26_11], h10⟩) (
(binV Try.prog .add 3 (.tmp 15) (.const (Go.Value.int Go.IntKind.i64 1)) Af (Go.Value.int Go.IntKind.i64 1)).bind fun t16_12 =>
k .normal ⟨#[Aa,Ab,Ac,Ad,Ae, t16_12,Ag,Ah,Ai,Aj,Ak,Af,Aa, t13_3, t14_4,Af, t16_12,Aa,Af, t19_5, t20_6,Ab,Af, t23_7, t24_8, t25_9, t26_11], h10⟩)) (
k (.exit 0) ⟨#[Aa,Ab,Ac,Ad,Ae,Af,Ag,Ah,Ai,Aj,Ak,Af,Aa, t13_3, t14_4,Aq,Ar,Au,Av,Aw,Ax,Ay,Az,Ba,Bb,Bc,Bd], h⟩) := by kernel_rfl
theorem c24_2_eq {β : Type} (h : Heap) (k : Ex → St → Option β) : codeK Try.prog (evC Try.prog) loopL c24_2 ⟨#[Aa,Ab,Ac,Ad,Ae,Af,Ag,Ah,Ai,Aj,Ak,Al,An,Ao,Ap,Aq,Ar,Au,Av,Aw,Ax,Ay,Az,Ba,Bb,Bc,Bd], h⟩ k =
k .ret ⟨#[Aa,Ab,Ac,Ad, (Go.Value.bool Bool.true),Af,Ag,Ah,Ai,Aj,Ak,Al,An,Ao,Ap,Aq,Ar,Au,Av,Aw,Ax,Ay,Az,Ba,Bb,Bc,Bd], h⟩ := by kernel_rfl
theorem call24 (h : Heap) : evC Try.prog 24 #[Aa,Ab] h = codeK Try.prog (evC Try.prog) loopL c24_0 ⟨#[Aa,Ab, undef, undef, undef, undef, undef, undef, undef, undef, undef, undef, undef, undef, undef, undef, undef, undef, undef, undef, undef, undef, undef, undef, undef, undef, undef], nm h⟩ (retK Try.f24 Try.prog h) :=
  (evC_call 24 Try.f24 c24_0 Try.func24 (by kernel_rfl) #[Aa,Ab] h).trans (by kernel_rfl)
theorem ret24 (h0 h : Heap) : retK Try.f24 Try.prog h0 .ret ⟨#[Aa,Ab,Ac,Ad,Ae,Af,Ag,Ah,Ai,Aj,Ak,Al,An,Ao,Ap,Aq,Ar,Au,Av,Aw,Ax,Ay,Az,Ba,Bb,Bc,Bd], h⟩ = fin h0 (some Ae) h := by kernel_rfl
theorem retn24 (h0 h : Heap) : retK Try.f24 Try.prog h0 .normal ⟨#[Aa,Ab,Ac,Ad,Ae,Af,Ag,Ah,Ai,Aj,Ak,Al,An,Ao,Ap,Aq,Ar,Au,Av,Aw,Ax,Ay,Az,Ba,Bb,Bc,Bd], h⟩ = fin h0 (some Ae) h := by kernel_rfl
end Go.Am
namespace Go.Am
open Go.Proofs
set_option maxRecDepth 100000
variable (Aa Ab Ac Ad Ae Af Ag Ah Ai Aj Ak Al An Ao Ap Aq Ar Au Av : Value)
noncomputable def c18_0 : Code := bodyC Try.f18 []
noncomputable def c18_1 : Code := bodyC Try.f18 [true, true, false, true, false, false]
noncomputable def c18_2 : Code := bodyC Try.f18 [true, true, true]
theorem c18_0_eq {β : Type} (h : Heap) (k : Ex → St → Option β) : codeK Try.prog (evC Try.prog) loopL c18_0 ⟨#[Aa,Ab,Ac,Ad,Ae,Af,Ag,Ah,Ai,Aj,Ak,Al,An,Ao,Ap,Aq,Ar,Au,Av], h⟩ k =
(lenV Try.prog 22 Aa h).bind fun t5_0 =>
(binV Try.prog .gtr 3 (.tmp 5) (.const (Go.Value.int Go.IntKind.i64 20)) t5_0 (Go.Value.int Go.IntKind.i64 20)).bind fun t6_1 =>
cnd t6_1 (
k .ret ⟨#[Aa,Ab, (Go.Value.bool Bool.true),Ad,Aa, t5_0, t6_1,Ah,Ai,Aj,Ak,Al,An,Ao,Ap,Aq,Ar,Au,Av], h⟩) (
loopK Try.prog (evC Try.prog) c18_1 ⟨#[Aa,Ab, (Go.Value.bool Bool.false), (Go.Value.int Go.IntKind.i64 0),Aa, t5_0, t6_1,Ah,Ai,Aj,Ak,Al,An,Ao,Ap,Aq,Ar,Au,Av], h⟩ (blockK 0 (seqK Try.prog (evC Try.prog) c18_2 k))) := by kernel_rfl
theorem c18_1_eq {β : Type} (h : Heap) (k : Ex → St → Option β) : codeK Try.prog (evC Try.prog) loopL c18_1 ⟨#[Aa,Ab,Ac,Ad,Ae,Af,Ag,Ah,Ai,Aj,Ak,Al,An,Ao,Ap,Aq,Ar,Au,Av], h⟩ k =
(lenV Try.prog 22 Aa h).bind fun t9_2 =>
(binV Try.prog .lss 3 (.tmp 7) (.tmp 9) Ad t9_2).bind fun t10_3 =>
cnd t10_3 (
(indexAddrV Try.prog 22 Aa Ad).bind fun t15_4 =>
(loadV Try.prog 52 t15_4 h).bind fun t16_5 =>
(lenV Try.prog 52 t16_5 h).bind fun t17_6 =>
(binV Try.prog .gtr 3 (.tmp 17) (.const (Go.Value.int Go.IntKind.i64 20)) t17_6 (Go.Value.int Go.IntKind.i64 20)).bind fun t18_7 =>
cnd t18_7 (
k .ret ⟨#[Aa,Ab, (Go.Value.bool Bool.true),Ad,Ae,Af,Ag,Ad,Aa, t9_2, t10_3,Al,An,Aa,Ad, t15_4, t16_5, t17_6, t18_7], h⟩) (
(binV Try.prog .add 3 (.tmp 11) (.const (Go.Value.int Go.IntKind.i64 1)) Ad (Go.Value.int Go.IntKind.i64 1)).bind fun t12_8 =>
k .normal ⟨#[Aa,Ab,Ac, t12_8,Ae,Af,Ag,Ad,Aa, t9_2, t10_3,Ad, t12_8,Aa,Ad, t15_4, t16_5, t17_6, t18_7], h⟩)) (
k (.exit 0) ⟨#[Aa,Ab,Ac,Ad,Ae,Af,Ag,Ad,Aa, t9_2, t10_3,Al,An,Ao,Ap,Aq,Ar,Au,Av], h⟩) := by kernel_rfl
theorem c18_2_eq {β : Type} (h : Heap) (k : Ex → St → Option β) : codeK Try.prog (evC Try.prog) loopL c18_2 ⟨#[Aa,Ab,Ac,Ad,Ae,Af,Ag,Ah,Ai,Aj,Ak,Al,An,Ao,Ap,Aq,Ar,Au,Av], h⟩ k =
k .ret ⟨#[Aa,Ab, (Go.Value.bool Bool.false),Ad,Ae,Af,Ag,Ah,Ai,Aj,Ak,Al,An,Ao,Ap,Aq,Ar,Au,Av], h⟩ := by kernel_rfl
theorem call18 (h : Heap) : evC Try.prog 18 #[Aa] h = codeK Try.prog (evC Try.prog) loopL c18_0 ⟨#[Aa, undef, undef, undef, undef, undef, undef, undef, undef, undef, undef, undef, undef, undef, undef, undef, undef, undef, undef], nm h⟩ (retK Try.f18 Try.prog h) :=
  (evC_call 18 Try.f18 c18_0 Try.func18 (by kernel_rfl) #[Aa] h).trans (by kernel_rfl)
theorem ret18 (h0 h : Heap) : retK Try.f18 Try.prog h0 .ret ⟨#[Aa,Ab,Ac,Ad,Ae,Af,Ag,Ah,Ai,Aj,Ak,Al,An,Ao,Ap,Aq,Ar,Au,Av], h⟩ = fin h0 (some Ac) h := by kernel_rfl
theorem retn18 (h0 h : Heap) : retK Try.f18 Try.prog h0 .normal ⟨#[Aa,Ab,Ac,Ad,Ae,Af,Ag,Ah,Ai,Aj,Ak,Al,An,Ao,Ap,Aq,Ar,Au,Av], h⟩ = fin h0 (some Ac) h := by kernel_rfl
end Go.Am
namespace Go.Am
open Go.Proofs
set_option maxRecDepth 100000
variable (Aa Ab Ac Ad Ae Af Ag Ah Ai Aj Ak Al An Ao Ap Aq Ar Au Av Aw Ax Ay Az Ba Bb Bc Bd Be Bf Bg Bh Bi Bj Bk Bl Bm Bn Bo Bp Bq Br Bs Bt Bu Bv Bw : Value)
noncomputable def c17_0 : Code := bodyC Try.f17 []
theorem c17_0_eq {β : Type} (h : Heap) (k : Ex → St → Option β) : codeK Try.prog (evC Try.prog) loopL c17_0 ⟨#[Aa,Ab,Ac,Ad,Ae,Af,Ag,Ah,Ai,Aj,Ak,Al,An,Ao,Ap,Aq,Ar,Au,Av,Aw,Ax,Ay,Az,Ba,Bb,Bc,Bd,Be,Bf,Bg,Bh,Bi,Bj,Bk,Bl,Bm,Bn,Bo,Bp,Bq,Br,Bs,Bt,Bu,Bv,Bw], h⟩ k =
obH (evC Try.prog 27 #[(Go.Value.int Go.IntKind.i64 2), (Go.Value.int Go.IntKind.i64 0)] h) fun t7_0 h1 =>
(extractV t7_0 0).bind fun t8_2 =>
(extractV t7_0 1).bind fun t9_3 =>
(binV Try.prog .neq 41 (.tmp 10) (.const (Go.Value.int Go.IntKind.i64 0)) t9_3 (Go.Value.int Go.IntKind.i64 0)).bind fun t11_4 =>
(gd (wt t11_4 false) (binV Try.prog .eql 40 (.tmp 13) (.const (Go.Value.pointer Option.none)) (gdV (wt t11_4 false) t8_2) (Go.Value.pointer Option.none))).bind fun t14_5 =>
(pickV t11_4 (Go.Value.bool Bool.true) t14_5).bind fun t15_6 =>
cnd t15_6 (
k .ret ⟨#[(Go.Value.bool Bool.false), t8_2, t9_3,Ad,Ae,Af, t7_0, t7_0, t8_2, t9_3, t9_3, t11_4, t11_4, (gdV (wt t11_4 false) t8_2), t14_5, t15_6,Ar,Au,Av,Aw,Ax,Ay,Az,Ba,Bb,Bc,Bd,Be,Bf,Bg,Bh,Bi,Bj,Bk,Bl,Bm,Bn,Bo,Bp,Bq,Br,Bs,Bt,Bu,Bv,Bw], h1⟩) (
obH (buildSliceV Try.prog 73 1 #[(0, (Go.Value.int Go.IntKind.i64 1))] h1) fun t17_7 h8 =>
obH (evC Try.prog 29 #[t17_7] h8) fun t18_9 h10 =>
obH (evC Try.prog 28 #[t8_2, t18_9] h10) fun t19_11 h12 =>
obH (buildSliceV Try.prog 73 1 #[(0, (Go.Value.int Go.IntKind.i64 1))] h12) fun t21_13 h14 =>
obH (evC Try.prog 29 #[t21_13] h14) fun t22_15 h16 =>
obH (evC Try.prog 28 #[t8_2, t22_15] h16) fun t23_17 h18 =>
(lenV Try.prog 44 t23_17 h18).bind fun t25_19 =>
(binV Try.prog .neq 3 (.tmp 25) (.const (Go.Value.int Go.IntKind.i64 1)) t25_19 (Go.Value.int Go.IntKind.i64 1)).bind fun t26_20 =>
cnd t26_20 (
k .ret ⟨#[(Go.Value.bool Bool.false), t8_2, t9_3, t23_17,Ae,Af, t7_0, t7_0, t8_2, t9_3, t9_3, t11_4, t11_4, (gdV (wt t11_4 false) t8_2), t14_5, t15_6, t8_2, t17_7, t18_9, t19_11, t8_2, t21_13, t22_15, t23_17, t23_17, t25_19, t26_20,Be,Bf,Bg,Bh,Bi,Bj,Bk,Bl,Bm,Bn,Bo,Bp,Bq,Br,Bs,Bt,Bu,Bv,Bw], h18⟩) (
(indexAddrV Try.prog 44 t23_17 (Go.Value.int Go.IntKind.i64 0)).bind fun t29_21 =>
(loadV Try.prog 23 t29_21 h18).bind fun t30_22 =>
obH (evC Try.prog 21 #[(Go.Value.int Go.IntKind.i64 2), t30_22] h18) fun t31_23 h24 =>
(extractV t31_23 0).bind fun t32_25 =>
(extractV t31_23 1).bind fun t33_26 =>
obH (allocV Try.prog 29 h24) fun t4_27 h28 =>
(storeV Try.prog 29 t4_27 t32_25 h28).bind fun h29 =>
(gd (wt t33_26 true) (loadV Try.prog 29 t4_27 h29)).bind fun t36_30 =>
obH (gdH (wt t33_26 true) h29 (evC Try.prog 34 #[t36_30, (Go.Value.int Go.IntKind.i64 0), (Go.Value.int Go.IntKind.i64 1)] h29)) fun t37_31 h32 =>
(gd (wt t33_26 true) (binV Try.prog .eql 46 (.tmp 37) (.const (Go.Value.int Go.IntKind.u64 1)) t37_31 (Go.Value.int Go.IntKind.u64 1))).bind fun t38_33 =>
(pickV t33_26 t38_33 (Go.Value.bool Bool.false)).bind fun t39_34 =>
obH (gdH (wt t39_34 true) h32 (evC Try.prog 35 #[(gdV (wt t39_34 true) t8_2)] h32)) fun t42_35 h36 =>
obH (gdH (wt t39_34 true) h36 (evC Try.prog 34 #[t42_35, (Go.Value.int Go.IntKind.i64 0), (Go.Value.int Go.IntKind.i64 1)] h36)) fun t43_37 h38 =>
(gd (wt t39_34 true) (binV Try.prog .eql 46 (.tmp 43) (.const (Go.Value.int Go.IntKind.u64 2)) t43_37 (Go.Value.int Go.IntKind.u64 2))).bind fun t44_39 =>
(pickV t39_34 t44_39 (Go.Value.bool Bool.false)).bind fun t45_40 =>
k .ret ⟨#[t45_40, t8_2, t9_3, t23_17, t4_27, t33_26, t7_0, t7_0, t8_2, t9_3, t9_3, t11_4, t11_4, (gdV (wt t11_4 false) t8_2), t14_5, t15_6, t8_2, t17_7, t18_9, t19_11, t8_2, t21_13, t22_15, t23_17, t23_17, t25_19, t26_20, t31_23, t23_17, t29_21, t30_22, t31_23, t32_25, t33_26, t33_26, t33_26, t36_30, t37_31, t38_33, t39_34, t39_34, (gdV (wt t39_34 true) t8_2), t42_35, t43_37, t44_39, t45_40], h38⟩)) := by kernel_rfl
theorem call17 (h : Heap) : evC Try.prog 17 #[] h = codeK Try.prog (evC Try.prog) loopL c17_0 ⟨#[undef, undef, undef, undef, undef, undef, undef, undef, undef, undef, undef, undef, undef, undef, undef, undef, undef, undef, undef, undef, undef, undef, undef, undef, undef, undef, undef, undef, undef, undef, undef, undef, undef, undef, undef, undef, undef, undef, undef, undef, undef, undef, undef, undef, undef, undef], nm h⟩ (retK Try.f17 Try.prog h) :=
  (evC_call 17 Try.f17 c17_0 Try.func17 (by kernel_rfl) #[] h).trans (by kernel_rfl)
theorem ret17 (h0 h : Heap) : retK Try.f17 Try.prog h0 .ret ⟨#[Aa,Ab,Ac,Ad,Ae,Af,Ag,Ah,Ai,Aj,Ak,Al,An,Ao,Ap,Aq,Ar,Au,Av,Aw,Ax,Ay,Az,Ba,Bb,Bc,Bd,Be,Bf,Bg,Bh,Bi,Bj,Bk,Bl,Bm,Bn,Bo,Bp,Bq,Br,Bs,Bt,Bu,Bv,Bw], h⟩ = fin h0 (some Aa) h := by kernel_rfl
theorem retn17 (h0 h : Heap) : retK Try.f17 Try.prog h0 .normal ⟨#[Aa,Ab,Ac,Ad,Ae,Af,Ag,Ah,Ai,Aj,Ak,Al,An,Ao,Ap,Aq,Ar,Au,Av,Aw,Ax,Ay,Az,Ba,Bb,Bc,Bd,Be,Bf,Bg,Bh,Bi,Bj,Bk,Bl,Bm,Bn,Bo,Bp,Bq,Br,Bs,Bt,Bu,Bv,Bw], h⟩ = fin h0 (some Aa) h := by kernel_rfl
end Go.Am
namespace Go.Am
open Go.Proofs
set_option maxRecDepth 100000
variable (Aa Ab Ac Ad Ae Af Ag Ah Ai Aj Ak Al An Ao Ap Aq Ar Au Av Aw Ax Ay Az Ba Bb Bc Bd Be Bf Bg Bh Bi Bj Bk Bl Bm Bn Bo Bp Bq Br Bs Bt Bu Bv Bw Bx By Bz Ca Cb Cc Cd Ce Cf Cg Ch Ci Cj Ck Cl Cm Cn Co Cp Cq : Value)
noncomputable def c31_0 : Code := bodyC Try.f31 []
noncomputable def c31_1 : Code := bodyC Try.f31 [true, true, true, false, true, false, false]
noncomputable def c31_2 : Code := bodyC Try.f31 [true, true, true, true]
theorem c31_0_eq {β : Type} (h : Heap) (k : Ex → St → Option β) : codeK Try.prog (evC Try.prog) loopL c31_0 ⟨#[Aa,Ab,Ac,Ad,Ae,Af,Ag,Ah,Ai,Aj,Ak,Al,An,Ao,Ap,Aq,Ar,Au,Av,Aw,Ax,Ay,Az,Ba,Bb,Bc,Bd,Be,Bf,Bg,Bh,Bi,Bj,Bk,Bl,Bm,Bn,Bo,Bp,Bq,Br,Bs,Bt,Bu,Bv,Bw,Bx,By,Bz,Ca,Cb,Cc,Cd,Ce,Cf,Cg,Ch,Ci,Cj,Ck,Cl,Cm,Cn,Co,Cp,Cq], h⟩ k =
(nilCheckV Aa).bind fun t15_0 =>
(fieldAddrV Try.prog 127 t15_0 0).bind fun t16_1 =>
(loadV Try.prog 3 t16_1 h).bind fun t17_2 =>
obH (evC Try.prog 21 #[t17_2,Ad] h) fun t19_3 h4 =>
(extractV t19_3 0).bind fun t20_5 =>
(extractV t19_3 1).bind fun t21_6 =>
obH (allocV Try.prog 29 h4) fun t9_7 h8 =>
(storeV Try.prog 29 t9_7 t20_5 h8).bind fun h9 =>
(unV Try.prog .not t21_6).bind fun t23_10 =>
(gd (wt t23_10 false) (binV Try.prog .lss 3 (.tmp 25) (.const (Go.Value.int Go.IntKind.i64 0)) (gdV (wt t23_10 false) Ab) (Go.Value.int Go.IntKind.i64 0))).bind fun t26_11 =>
(pickV t23_10 (Go.Value.bool Bool.true) t26_11).bind fun t27_12 =>
(gd (wt t27_12 false) (nilCheckV (gdV (wt t27_12 false) Aa))).bind fun t31_13 =>
(gd (wt t27_12 false) (fieldAddrV Try.prog 127 t31_13 0)).bind fun t32_14 =>
(gd (wt t27_12 false) (loadV Try.prog 3 t32_14 h9)).bind fun t33_15 =>
(gd (wt t27_12 false) (binV Try.prog .geq 3 (.tmp 29) (.tmp 33) (gdV (wt t27_12 false) Ab) t33_15)).bind fun t34_16 =>
(pickV t27_12 (Go.Value.bool Bool.true) t34_16).bind fun t35_17 =>
(gd (wt t35_17 false) (nilCheckV (gdV (wt t35_17 false) Aa))).bind fun t39_18 =>
(gd (wt t35_17 false) (fieldAddrV Try.prog 127 t39_18 1)).bind fun t40_19 =>
(gd (wt t35_17 false) (loadV Try.prog 3 t40_19 h9)).bind fun t41_20 =>
(gd (wt t35_17 false) (binV Try.prog .eql 3 (.tmp 37) (.tmp 41) (gdV (wt t35_17 false) Ab) t41_20)).bind fun t42_21 =>
(pickV t35_17 (Go.Value.bool Bool.true) t42_21).bind fun t43_22 =>
cnd t43_22 (
k .ret ⟨#[Aa,Ab,Ac,Ad,Ae,Af,Ag,Ah, (Go.Value.bool Bool.false), t9_7, t21_6,Al,An, t19_3,Aa, t15_0, t16_1, t17_2,Ad, t19_3, t20_5, t21_6, t21_6, t23_10, t23_10, (gdV (wt t23_10 false) Ab), t26_11, t27_12, t27_12, (gdV (wt t27_12 false) Ab), (gdV (wt t27_12 false) Aa), t31_13, t32_14, t33_15, t34_16, t35_17, t35_17, (gdV (wt t35_17 false) Ab), (gdV (wt t35_17 false) Aa), t39_18, t40_19, t41_20, t42_21, t43_22,Bv,Bw,Bx,By,Bz,Ca,Cb,Cc,Cd,Ce,Cf,Cg,Ch,Ci,Cj,Ck,Cl,Cm,Cn,Co,Cp,Cq], h9⟩) (
(loadV Try.prog 29 t9_7 h9).bind fun t44_23 =>
(nilCheckV Aa).bind fun t46_24 =>
(fieldAddrV Try.prog 127 t46_24 1).bind fun t47_25 =>
(loadV Try.prog 3 t47_25 h9).bind fun t48_26 =>
obH (evC Try.prog 85 #[t44_23, t48_26] h9) fun t49_27 h28 =>
(lenV Try.prog 53 t49_27 h28).bind fun t50_29 =>
loopK Try.prog (evC Try.prog) c31_1 ⟨#[Aa,Ab,Ac,Ad,Ae,Af,Ag,Ah, (Go.Value.bool Bool.false), t9_7, t21_6,Al,An, t19_3,Aa, t15_0, t16_1, t17_2,Ad, t19_3, t20_5, t21_6, t21_6, t23_10, t23_10, (gdV (wt t23_10 false) Ab), t26_11, t27_12, t27_12, (gdV (wt t27_12 false) Ab), (gdV (wt t27_12 false) Aa), t31_13, t32_14, t33_15, t34_16, t35_17, t35_17, (gdV (wt t35_17 false) Ab), (gdV (wt t35_17 false) Aa), t39_18, t40_19, t41_20, t42_21, t43_22, t44_23,Aa, t46_24, t47_25, t48_26, t49_27, t50_29, (Go.Value.int Go.IntKind.i64 0),Cd,Ce,Cf,Cg,Ch,Ci,Cj,Ck,Cl,Cm,Cn,Co,Cp,Cq], h28⟩ (blockK 0 (seqK Try.prog (evC Try.prog) c31_2 k))) := by kernel_rfl
theorem c31_1_eq {β : Type} (h : Heap) (k : Ex → St → Option β) : codeK Try.prog (evC Try.prog) loopL c31_1 ⟨#[Aa,Ab,Ac,Ad,Ae,Af,Ag,Ah,Ai,Aj,Ak,Al,An,Ao,Ap,Aq,Ar,Au,Av,Aw,Ax,Ay,Az,Ba,Bb,Bc,Bd,Be,Bf,Bg,Bh,Bi,Bj,Bk,Bl,Bm,Bn,Bo,Bp,Bq,Br,Bs,Bt,Bu,Bv,Bw,Bx,By,Bz,Ca,Cb,Cc,Cd,Ce,Cf,Cg,Ch,Ci,Cj,Ck,Cl,Cm,Cn,Co,Cp,Cq], h⟩ k =
(binV Try.prog .lss 3 (.tmp 51) (.tmp 50) Cc Cb).bind fun t52_30 =>
cnd t52_30 (
(indexAddrV Try.prog 53 Ca Cc).bind fun t54_31 =>
(loadV Try.prog 46 t54_31 h).bind fun t55_32 =>
(nilCheckV Aa).bind fun t57_33 =>
(fieldAddrV Try.prog 127 t57_33 3).bind fun t58_34 =>
(loadV Try.prog 53 t58_34 h).bind fun t59_35 =>
(indexAddrV Try.prog 53 t59_35 Cc).bind fun t61_36 =>
(loadV Try.prog 46 t61_36 h).bind fun t62_37 =>
(binV Try.prog .lss 46 (.tmp 62) (.tmp 63) t62_37 t55_32).bind fun t64_38 =>
cnd t64_38 (
k .ret ⟨#[Aa,Ab,Ac,Ad,Ae,Af,Ag,Ah, (Go.Value.bool Bool.false),Aj,Ak,Cc, t55_32,Ao,Ap,Aq,Ar,Au,Av,Aw,Ax,Ay,Az,Ba,Bb,Bc,Bd,Be,Bf,Bg,Bh,Bi,Bj,Bk,Bl,Bm,Bn,Bo,Bp,Bq,Br,Bs,Bt,Bu,Bv,Bw,Bx,By,Bz,Ca,Cb,Cc, t52_30,Cc, t54_31, t55_32,Aa, t57_33, t58_34, t59_35,Cc, t61_36, t62_37, t55_32, t64_38,Cq], h⟩) (
(binV Try.prog .add 3 (.tmp 51) (.const (Go.Value.int Go.IntKind.i64 1)) Cc (Go.Value.int Go.IntKind.i64 1)).bind fun t65_39 =>
k .normal ⟨#[Aa,Ab,Ac,Ad,Ae,Af,Ag,Ah,Ai,Aj,Ak,Cc, t55_32,Ao,Ap,Aq,Ar,Au,Av,Aw,Ax,Ay,Az,Ba,Bb,Bc,Bd,Be,Bf,Bg,Bh,Bi,Bj,Bk,Bl,Bm,Bn,Bo,Bp,Bq,Br,Bs,Bt,Bu,Bv,Bw,Bx,By,Bz,Ca,Cb, t65_39, t52_30,Cc, t54_31, t55_32,Aa, t57_33, t58_34, t59_35,Cc, t61_36, t62_37, t55_32, t64_38, t65_39], h⟩)) (
k (.exit 0) ⟨#[Aa,Ab,Ac,Ad,Ae,Af,Ag,Ah,Ai,Aj,Ak,Al,An,Ao,Ap,Aq,Ar,Au,Av,Aw,Ax,Ay,Az,Ba,Bb,Bc,Bd,Be,Bf,Bg,Bh,Bi,Bj,Bk,Bl,Bm,Bn,Bo,Bp,Bq,Br,Bs,Bt,Bu,Bv,Bw,Bx,By,Bz,Ca,Cb,Cc, t52_30,Ce,Cf,Cg,Ch,Ci,Cj,Ck,Cl,Cm,Cn,Co,Cp,Cq], h⟩) := by kernel_rfl
theorem c31_2_eq {β : Type} (h : Heap) (k : Ex → St → Option β) : codeK Try.prog (evC Try.prog) loopL c31_2 ⟨#[Aa,Ab,Ac,Ad,Ae,Af,Ag,Ah,Ai,Aj,Ak,Al,An,Ao,Ap,Aq,Ar,Au,Av,Aw,Ax,Ay,Az,Ba,Bb,Bc,Bd,Be,Bf,Bg,Bh,Bi,Bj,Bk,Bl,Bm,Bn,Bo,Bp,Bq,Br,Bs,Bt,Bu,Bv,Bw,Bx,By,Bz,Ca,Cb,Cc,Cd,Ce,Cf,Cg,Ch,Ci,Cj,Ck,Cl,Cm,Cn,Co,Cp,Cq], h⟩ k =
k .ret ⟨#[Aa,Ab,Ac,Ad,Ae,Af,Ag,Ah, (Go.Value.bool Bool.true),Aj,Ak,Al,An,Ao,Ap,Aq,Ar,Au,Av,Aw,Ax,Ay,Az,Ba,Bb,Bc,Bd,Be,Bf,Bg,Bh,Bi,Bj,Bk,Bl,Bm,Bn,Bo,Bp,Bq,Br,Bs,Bt,Bu,Bv,Bw,Bx,By,Bz,Ca,Cb,Cc,Cd,Ce,Cf,Cg,Ch,Ci,Cj,Ck,Cl,Cm,Cn,Co,Cp,Cq], h⟩ := by kernel_rfl
theorem call31 (h : Heap) : evC Try.prog 31 #[Aa,Ab,Ac,Ad] h = codeK Try.prog (evC Try.prog) loopL c31_0 ⟨#[Aa,Ab,Ac,Ad, undef, undef, undef, undef, undef, undef, undef, undef, undef, undef, undef, undef, undef, undef, undef, undef, undef, undef, undef, undef, undef, undef, undef, undef, undef, undef, undef, undef, undef, undef, undef, undef, undef, undef, undef, undef, undef, undef, undef, undef, undef, undef, undef, undef, undef, undef, undef, undef, undef, undef, undef, undef, undef, undef, undef, undef, undef, undef, undef, undef, undef, undef], nm h⟩ (retK Try.f31 Try.prog h) :=
  (evC_call 31 Try.f31 c31_0 Try.func31 (by kernel_rfl) #[Aa,Ab,Ac,Ad] h).trans (by kernel_rfl)
theorem ret31 (h0 h : Heap) : retK Try.f31 Try.prog h0 .ret ⟨#[Aa,Ab,Ac,Ad,Ae,Af,Ag,Ah,Ai,Aj,Ak,Al,An,Ao,Ap,Aq,Ar,Au,Av,Aw,Ax,Ay,Az,Ba,Bb,Bc,Bd,Be,Bf,Bg,Bh,Bi,Bj,Bk,Bl,Bm,Bn,Bo,Bp,Bq,Br,Bs,Bt,Bu,Bv,Bw,Bx,By,Bz,Ca,Cb,Cc,Cd,Ce,Cf,Cg,Ch,Ci,Cj,Ck,Cl,Cm,Cn,Co,Cp,Cq], h⟩ = fin h0 (some Ai) h := by kernel_rfl
theorem retn31 (h0 h : Heap) : retK Try.f31 Try.prog h0 .normal ⟨#[Aa,Ab,Ac,Ad,Ae,Af,Ag,Ah,Ai,Aj,Ak,Al,An,Ao,Ap,Aq,Ar,Au,Av,Aw,Ax,Ay,Az,Ba,Bb,Bc,Bd,Be,Bf,Bg,Bh,Bi,Bj,Bk,Bl,Bm,Bn,Bo,Bp,Bq,Br,Bs,Bt,Bu,Bv,Bw,Bx,By,Bz,Ca,Cb,Cc,Cd,Ce,Cf,Cg,Ch,Ci,Cj,Ck,Cl,Cm,Cn,Co,Cp,Cq], h⟩ = fin h0 (some Ai) h := by kernel_rfl
end Go.Am
namespace Go.Am
open Go.Proofs
set_option maxRecDepth 100000
variable (Aa Ab Ac Ad Ae Af Ag Ah Ai Aj Ak Al An Ao Ap Aq Ar Au Av Aw Ax Ay Az Ba Bb Bc Bd Be Bf Bg Bh Bi Bj Bk Bl Bm Bn Bo Bp Bq Br Bs Bt Bu Bv Bw Bx By Bz Ca Cb Cc Cd Ce Cf : Value)
noncomputable def c30_0 : Code := bodyC Try.f30 []
theorem c30_0_eq {β : Type} (h : Heap) (k : Ex → St → Option β) : codeK Try.prog (evC Try.prog) loopL c30_0 ⟨#[Aa,Ab,Ac,Ad,Ae,Af,Ag,Ah,Ai,Aj,Ak,Al,An,Ao,Ap,Aq,Ar,Au,Av,Aw,Ax,Ay,Az,Ba,Bb,Bc,Bd,Be,Bf,Bg,Bh,Bi,Bj,Bk,Bl,Bm,Bn,Bo,Bp,Bq,Br,Bs,Bt,Bu,Bv,Bw,Bx,By,Bz,Ca,Cb,Cc,Cd,Ce,Cf], h⟩ k =
obH (evC Try.prog 31 #[Aa,Ab,Ac,Ae] h) fun t17_0 h1 =>
(unV Try.prog .not t17_0).bind fun t18_2 =>
cnd t18_2 (
k .ret ⟨#[Aa,Ab,Ac,Ad,Ae,Af,Ag,Ah,Ai,Aj, (Go.Value.bool Bool.false),Al,An,Aa,Ab,Ac,Ae, t17_0, t18_2,Aw,Ax,Ay,Az,Ba,Bb,Bc,Bd,Be,Bf,Bg,Bh,Bi,Bj,Bk,Bl,Bm,Bn,Bo,Bp,Bq,Br,Bs,Bt,Bu,Bv,Bw,Bx,By,Bz,Ca,Cb,Cc,Cd,Ce,Cf], h1⟩) (
(nilCheckV Aa).bind fun t21_3 =>
(fieldAddrV Try.prog 127 t21_3 0).bind fun t22_4 =>
(loadV Try.prog 3 t22_4 h1).bind fun t23_5 =>
obH (evC Try.prog 21 #[t23_5,Ae] h1) fun t25_6 h7 =>
(extractV t25_6 0).bind fun t26_8 =>
(extractV t25_6 1).bind fun t27_9 =>
obH (allocV Try.prog 29 h7) fun t11_10 h11 =>
(storeV Try.prog 29 t11_10 t26_8 h11).bind fun h12 =>
(nilCheckV Aa).bind fun t31_13 =>
(fieldAddrV Try.prog 127 t31_13 3).bind fun t32_14 =>
(loadV Try.prog 53 t32_14 h12).bind fun t33_15 =>
obH (evC Try.prog 83 #[t33_15,Ab] h12) fun t35_16 h17 =>
(extractV t35_16 0).bind fun t36_18 =>
(extractV t35_16 1).bind fun t37_19 =>
(nilCheckV Aa).bind fun t38_20 =>
(fieldAddrV Try.prog 127 t38_20 3).bind fun t39_21 =>
(storeV Try.prog 53 t39_21 t36_18 h17).bind fun h22 =>
(nilCheckV Aa).bind fun t43_23 =>
(fieldAddrV Try.prog 127 t43_23 2).bind fun t44_24 =>
(loadV Try.prog 29 t44_24 h22).bind fun t45_25 =>
(loadV Try.prog 29 t11_10 h22).bind fun t46_26 =>
obH (evC Try.prog 82 #[t46_26,Ab,Ad] (nm h22)) fun t49_27 h28 =>
obH (evC Try.prog 84 #[t45_25, t49_27] (am h28 h22)) fun t50_29 h30 =>
(extractV t50_29 0).bind fun t51_31 =>
(extractV t50_29 1).bind fun t52_32 =>
(nilCheckV Aa).bind fun t53_33 =>
(fieldAddrV Try.prog 127 t53_33 2).bind fun t54_34 =>
(storeV Try.prog 29 t54_34 t51_31 h30).bind fun h35 =>
chk ((rb t44_24) ++ []) (h28.mods ++ []) (
k .ret ⟨#[Aa,Ab,Ac,Ad,Ae,Af,Ag,Ah,Ai,Aj, (Go.Value.bool Bool.true), t11_10, t27_9,Aa,Ab,Ac,Ae, t17_0, t18_2, t25_6,Aa, t21_3, t22_4, t23_5,Ae, t25_6, t26_8, t27_9, t35_16,Aa,Aa, t31_13, t32_14, t33_15,Ab, t35_16, t36_18, t37_19, t38_20, t39_21, t50_29,Aa,Aa, t43_23, t44_24, t45_25, t46_26,Ab,Ad, t49_27, t50_29, t51_31, t52_32, t53_33, t54_34], h35⟩)) := by kernel_rfl
theorem call30 (h : Heap) : evC Try.prog 30 #[Aa,Ab,Ac,Ad,Ae] h = codeK Try.prog (evC Try.prog) loopL c30_0 ⟨#[Aa,Ab,Ac,Ad,Ae, undef, undef, undef, undef, undef, undef, undef, undef, undef, undef, undef, undef, undef, undef, undef, undef, undef, undef, undef, undef, undef, undef, undef, undef, undef, undef, undef, undef, undef, undef, undef, undef, undef, undef, undef, undef, undef, undef, undef, undef, undef, undef, undef, undef, undef, undef, undef, undef, undef, undef], nm h⟩ (retK Try.f30 Try.prog h) :=
  (evC_call 30 Try.f30 c30_0 Try.func30 (by kernel_rfl) #[Aa,Ab,Ac,Ad,Ae] h).trans (by kernel_rfl)
theorem ret30 (h0 h : Heap) : retK Try.f30 Try.prog h0 .ret ⟨#[Aa,Ab,Ac,Ad,Ae,Af,Ag,Ah,Ai,Aj,Ak,Al,An,Ao,Ap,Aq,Ar,Au,Av,Aw,Ax,Ay,Az,Ba,Bb,Bc,Bd,Be,Bf,Bg,Bh,Bi,Bj,Bk,Bl,Bm,Bn,Bo,Bp,Bq,Br,Bs,Bt,Bu,Bv,Bw,Bx,By,Bz,Ca,Cb,Cc,Cd,Ce,Cf], h⟩ = fin h0 (some Ak) h := by kernel_rfl
theorem retn30 (h0 h : Heap) : retK Try.f30 Try.prog h0 .normal ⟨#[Aa,Ab,Ac,Ad,Ae,Af,Ag,Ah,Ai,Aj,Ak,Al,An,Ao,Ap,Aq,Ar,Au,Av,Aw,Ax,Ay,Az,Ba,Bb,Bc,Bd,Be,Bf,Bg,Bh,Bi,Bj,Bk,Bl,Bm,Bn,Bo,Bp,Bq,Br,Bs,Bt,Bu,Bv,Bw,Bx,By,Bz,Ca,Cb,Cc,Cd,Ce,Cf], h⟩ = fin h0 (some Ak) h := by kernel_rfl
end Go.Am
namespace Go.Am
open Go.Proofs
set_option maxRecDepth 100000
variable (Aa Ab Ac Ad Ae Af Ag Ah Ai Aj Ak Al An Ao Ap Aq Ar Au Av Aw : Value)
noncomputable def c88_0 : Code := bodyC Try.f88 []
noncomputable def c88_1 : Code := bodyC Try.f88 [true, true, false, true, false, false]
noncomputable def c88_2 : Code := bodyC Try.f88 [true, true, true]
theorem c88_0_eq {β : Type} (h : Heap) (k : Ex → St → Option β) : codeK Try.prog (evC Try.prog) loopL c88_0 ⟨#[Aa,Ab,Ac,Ad,Ae,Af,Ag,Ah,Ai,Aj,Ak,Al,An,Ao,Ap,Aq,Ar,Au,Av,Aw], h⟩ k =
loopK Try.prog (evC Try.prog) c88_1 ⟨#[Aa,Ab, (Go.Value.int Go.IntKind.u64 0), (Go.Value.int Go.IntKind.u64 0), (Go.Value.int Go.IntKind.i64 0),Af,Ag,Ah,Ai,Aj,Ak,Al,An,Ao,Ap,Aq,Ar,Au,Av,Aw], h⟩ (blockK 0 (seqK Try.prog (evC Try.prog) c88_2 k)) := by kernel_rfl
theorem c88_1_eq {β : Type} (h : Heap) (k : Ex → St → Option β) : codeK Try.prog (evC Try.prog) loopL c88_1 ⟨#[Aa,Ab,Ac,Ad,Ae,Af,Ag,Ah,Ai,Aj,Ak,Al,An,Ao,Ap,Aq,Ar,Au,Av,Aw], h⟩ k =
(binV Try.prog .lss 3 (.tmp 5) (.tmp 6) Ae Aa).bind fun t7_0 =>
(gd (wt t7_0 true) (binV Try.prog .lss 3 (.tmp 9) (.const (Go.Value.int Go.IntKind.i64 64)) (gdV (wt t7_0 true) Ae) (Go.Value.int Go.IntKind.i64 64))).bind fun t10_1 =>
(pickV t7_0 t10_1 (Go.Value.bool Bool.false)).bind fun t11_2 =>
cnd t11_2 (
obH (convV Try.prog 3 138 Ae h) fun t16_3 h4 =>
(binV Try.prog .shl 46 (.const (Go.Value.int Go.IntKind.u64 1)) (.tmp 16) (Go.Value.int Go.IntKind.u64 1) t16_3).bind fun t17_5 =>
(binV Try.prog .or 46 (.tmp 14) (.tmp 17) Ad t17_5).bind fun t18_6 =>
(binV Try.prog .add 3 (.tmp 12) (.const (Go.Value.int Go.IntKind.i64 1)) Ae (Go.Value.int Go.IntKind.i64 1)).bind fun t13_7 =>
k .normal ⟨#[Aa,Ab,Ac, t18_6, t13_7,Ae,Aa, t7_0, t7_0, (gdV (wt t7_0 true) Ae), t10_1, t11_2,Ae, t13_7,Ad,Ae, t16_3, t17_5, t18_6,Aw], h4⟩) (
k (.exit 0) ⟨#[Aa,Ab,Ac,Ad,Ae,Ae,Aa, t7_0, t7_0, (gdV (wt t7_0 true) Ae), t10_1, t11_2,An,Ao,Ap,Aq,Ar,Au,Av,Aw], h⟩) := by kernel_rfl
theorem c88_2_eq {β : Type} (h : Heap) (k : Ex → St → Option β) : codeK Try.prog (evC Try.prog) loopL c88_2 ⟨#[Aa,Ab,Ac,Ad,Ae,Af,Ag,Ah,Ai,Aj,Ak,Al,An,Ao,Ap,Aq,Ar,Au,Av,Aw], h⟩ k =
k .ret ⟨#[Aa,Ab,Ad,Ad,Ae,Af,Ag,Ah,Ai,Aj,Ak,Al,An,Ao,Ap,Aq,Ar,Au,Av,Ad], h⟩ := by kernel_rfl
theorem call88 (h : Heap) : evC Try.prog 88 #[Aa] h = codeK Try.prog (evC Try.prog) loopL c88_0 ⟨#[Aa, undef, undef, undef, undef, undef, undef, undef, undef, undef, undef, undef, undef, undef, undef, undef, undef, undef, undef, undef], nm h⟩ (retK Try.f88 Try.prog h) :=
  (evC_call 88 Try.f88 c88_0 Try.func88 (by kernel_rfl) #[Aa] h).trans (by kernel_rfl)
theorem ret88 (h0 h : Heap) : retK Try.f88 Try.prog h0 .ret ⟨#[Aa,Ab,Ac,Ad,Ae,Af,Ag,Ah,Ai,Aj,Ak,Al,An,Ao,Ap,Aq,Ar,Au,Av,Aw], h⟩ = fin h0 (some Ac) h := by kernel_rfl
theorem retn88 (h0 h : Heap) : retK Try.f88 Try.prog h0 .normal ⟨#[Aa,Ab,Ac,Ad,Ae,Af,Ag,Ah,Ai,Aj,Ak,Al,An,Ao,Ap,Aq,Ar,Au,Av,Aw], h⟩ = fin h0 (some Ac) h := by kernel_rfl
end Go.Am
namespace Go.Am
open Go.Proofs
set_option maxRecDepth 100000
variable (Aa Ab Ac Ad Ae Af Ag Ah Ai Aj Ak Al An Ao Ap Aq Ar : Value)
noncomputable def c90_0 : Code := bodyC Try.f90 []
noncomputable def c90_1 : Code := bodyC Try.f90 [true, true, false, true, false, false]
noncomputable def c90_2 : Code := bodyC Try.f90 [true, true, true]
theorem c90_0_eq {β : Type} (h : Heap) (k : Ex → St → Option β) : codeK Try.prog (evC Try.prog) loopL c90_0 ⟨#[Aa,Ab,Ac,Ad,Ae,Af,Ag,Ah,Ai,Aj,Ak,Al,An,Ao,Ap,Aq,Ar], h⟩ k =
loopK Try.prog (evC Try.prog) c90_1 ⟨#[Aa,Ab, (Go.Value.slice Option.none 0 0), (Go.Value.slice Option.none 0 0), (Go.Value.int Go.IntKind.i64 0),Af,Ag,Ah,Ai,Aj,Ak,Al,An,Ao,Ap,Aq,Ar], h⟩ (blockK 0 (seqK Try.prog (evC Try.prog) c90_2 k)) := by kernel_rfl
theorem c90_1_eq {β : Type} (h : Heap) (k : Ex → St → Option β) : codeK Try.prog (evC Try.prog) loopL c90_1 ⟨#[Aa,Ab,Ac,Ad,Ae,Af,Ag,Ah,Ai,Aj,Ak,Al,An,Ao,Ap,Aq,Ar], h⟩ k =
(binV Try.prog .lss 3 (.tmp 5) (.const (Go.Value.int Go.IntKind.i64 64)) Ae (Go.Value.int Go.IntKind.i64 64)).bind fun t6_0 =>
cnd t6_0 (
obH (evC Try.prog 114 #[Aa,Ae] h) fun t11_1 h2 =>
cnd t11_1 (
obH (buildSliceV Try.prog 73 1 #[(0,Ae)] h2) fun t14_3 h4 =>
obH (appendV Try.prog 73 (some 73) Ad t14_3 h4) fun t15_5 h6 =>
(binV Try.prog .add 3 (.tmp 7) (.const (Go.Value.int Go.IntKind.i64 1)) Ae (Go.Value.int Go.IntKind.i64 1)).bind fun t8_7 =>
k .normal ⟨#[Aa,Ab,Ac, t15_5, t8_7,Ae, t6_0,Ae, t8_7,Aa,Ae, t11_1,Ad,Ae, t14_3, t15_5,Ar], h6⟩) (
(binV Try.prog .add 3 (.tmp 7) (.const (Go.Value.int Go.IntKind.i64 1)) Ae (Go.Value.int Go.IntKind.i64 1)).bind fun t8_8 =>
k .normal ⟨#[Aa,Ab,Ac,Ad, t8_8,Ae, t6_0,Ae, t8_8,Aa,Ae, t11_1,An,Ao,Ap,Aq,Ar], h2⟩)) (
k (.exit 0) ⟨#[Aa,Ab,Ac,Ad,Ae,Ae, t6_0,Ah,Ai,Aj,Ak,Al,An,Ao,Ap,Aq,Ar], h⟩) := by kernel_rfl
theorem c90_2_eq {β : Type} (h : Heap) (k : Ex → St → Option β) : codeK Try.prog (evC Try.prog) loopL c90_2 ⟨#[Aa,Ab,Ac,Ad,Ae,Af,Ag,Ah,Ai,Aj,Ak,Al,An,Ao,Ap,Aq,Ar], h⟩ k =
k .ret ⟨#[Aa,Ab,Ad,Ad,Ae,Af,Ag,Ah,Ai,Aj,Ak,Al,An,Ao,Ap,Aq,Ad], h⟩ := by kernel_rfl
theorem call90 (h : Heap) : evC Try.prog 90 #[Aa] h = codeK Try.prog (evC Try.prog) loopL c90_0 ⟨#[Aa, undef, undef, undef, undef, undef, undef, undef, undef, undef, undef, undef, undef, undef, undef, undef, undef], nm h⟩ (retK Try.f90 Try.prog h) :=
  (evC_call 90 Try.f90 c90_0 Try.func90 (by kernel_rfl) #[Aa] h).trans (by kernel_rfl)
theorem ret90 (h0 h : Heap) : retK Try.f90 Try.prog h0 .ret ⟨#[Aa,Ab,Ac,Ad,Ae,Af,Ag,Ah,Ai,Aj,Ak,Al,An,Ao,Ap,Aq,Ar], h⟩ = fin h0 (some Ac) h := by kernel_rfl
theorem retn90 (h0 h : Heap) : retK Try.f90 Try.prog h0 .normal ⟨#[Aa,Ab,Ac,Ad,Ae,Af,Ag,Ah,Ai,Aj,Ak,Al,An,Ao,Ap,Aq,Ar], h⟩ = fin h0 (some Ac) h := by kernel_rfl
end Go.Am
namespace Go.Am
open Go.Proofs
set_option maxRecDepth 100000
variable (Aa Ab Ac Ad Ae Af Ag Ah Ai Aj Ak Al An Ao Ap Aq Ar Au Av Aw Ax Ay Az Ba Bb Bc Bd Be Bf Bg : Value)
noncomputable def c36_0 : Code := bodyC Try.f36 []
noncomputable def c36_1 : Code := bodyC Try.f36 [true, true, false, true, false, false]
noncomputable def c36_2 : Code := bodyC Try.f36 [true, true, true]
theorem c36_0_eq {β : Type} (h : Heap) (k : Ex → St → Option β) : codeK Try.prog (evC Try.prog) loopL c36_0 ⟨#[Aa,Ab,Ac,Ad,Ae,Af,Ag,Ah,Ai,Aj,Ak,Al,An,Ao,Ap,Aq,Ar,Au,Av,Aw,Ax,Ay,Az,Ba,Bb,Bc,Bd,Be,Bf,Bg], h⟩ k =
obH (makeSliceV Try.prog 52 Aa Aa h) fun t10_0 h1 =>
(buildV Try.prog 66 #[(0,Aa), (1,Ab), (3, t10_0)]).bind fun t11_2 =>
obH (boxV Try.prog 66 t11_2 h1) fun t12_3 h4 =>
loopK Try.prog (evC Try.prog) c36_1 ⟨#[Aa,Ab,Ac,Ad, (Go.Value.pointer Option.none), t12_3, (Go.Value.int Go.IntKind.i64 0),Aa,Ab,Aa, t10_0, t11_2, t12_3,Ao,Ap,Aq,Ar,Au,Av,Aw,Ax,Ay,Az,Ba,Bb,Bc,Bd,Be,Bf,Bg], h4⟩ (blockK 0 (seqK Try.prog (evC Try.prog) c36_2 k)) := by kernel_rfl
theorem c36_1_eq {β : Type} (h : Heap) (k : Ex → St → Option β) : codeK Try.prog (evC Try.prog) loopL c36_1 ⟨#[Aa,Ab,Ac,Ad,Ae,Af,Ag,Ah,Ai,Aj,Ak,Al,An,Ao,Ap,Aq,Ar,Au,Av,Aw,Ax,Ay,Az,Ba,Bb,Bc,Bd,Be,Bf,Bg], h⟩ k =
(binV Try.prog .lss 3 (.tmp 13) (.tmp 14) Ag Aa).bind fun t15_5 =>
cnd t15_5 (
(nilCheckV Af).bind fun t20_6 =>
(fieldAddrV Try.prog 66 t20_6 2).bind fun t21_7 =>
(loadV Try.prog 22 t21_7 h).bind fun t22_8 =>
obH (makeSliceV Try.prog 52 Aa Aa h) fun t24_9 h10 =>
obH (buildSliceV Try.prog 22 1 #[(0, t24_9)] h10) fun t25_11 h12 =>
obH (appendV Try.prog 22 (some 22) t22_8 t25_11 h12) fun t26_13 h14 =>
(nilCheckV Af).bind fun t27_15 =>
(fieldAddrV Try.prog 66 t27_15 2).bind fun t28_16 =>
(storeV Try.prog 22 t28_16 t26_13 h14).bind fun h17 =>
(binV Try.prog .add 3 (.tmp 16) (.const (Go.Value.int Go.IntKind.i64 1)) Ag (Go.Value.int Go.IntKind.i64 1)).bind fun t17_18 =>
k .normal ⟨#[Aa,Ab,Ac,Ad,Ae,Af, t17_18,Ah,Ai,Aj,Ak,Al,An,Ag,Aa, t15_5,Ag, t17_18,Af,Af, t20_6, t21_7, t22_8,Aa, t24_9, t25_11, t26_13, t27_15, t28_16,Bg], h17⟩) (
k (.exit 0) ⟨#[Aa,Ab,Ac,Ad,Ae,Af,Ag,Ah,Ai,Aj,Ak,Al,An,Ag,Aa, t15_5,Ar,Au,Av,Aw,Ax,Ay,Az,Ba,Bb,Bc,Bd,Be,Bf,Bg], h⟩) := by kernel_rfl
theorem c36_2_eq {β : Type} (h : Heap) (k : Ex → St → Option β) : codeK Try.prog (evC Try.prog) loopL c36_2 ⟨#[Aa,Ab,Ac,Ad,Ae,Af,Ag,Ah,Ai,Aj,Ak,Al,An,Ao,Ap,Aq,Ar,Au,Av,Aw,Ax,Ay,Az,Ba,Bb,Bc,Bd,Be,Bf,Bg], h⟩ k =
k .ret ⟨#[Aa,Ab,Ac,Ad,Af,Af,Ag,Ah,Ai,Aj,Ak,Al,An,Ao,Ap,Aq,Ar,Au,Av,Aw,Ax,Ay,Az,Ba,Bb,Bc,Bd,Be,Bf,Af], h⟩ := by kernel_rfl
theorem call36 (h : Heap) : evC Try.prog 36 #[Aa,Ab] h = codeK Try.prog (evC Try.prog) loopL c36_0 ⟨#[Aa,Ab, undef, undef, undef, undef, undef, undef, undef, undef, undef, undef, undef, undef, undef, undef, undef, undef, undef, undef, undef, undef, undef, undef, undef, undef, undef, undef, undef, undef], nm h⟩ (retK Try.f36 Try.prog h) :=
  (evC_call 36 Try.f36 c36_0 Try.func36 (by kernel_rfl) #[Aa,Ab] h).trans (by kernel_rfl)
theorem ret36 (h0 h : Heap) : retK Try.f36 Try.prog h0 .ret ⟨#[Aa,Ab,Ac,Ad,Ae,Af,Ag,Ah,Ai,Aj,Ak,Al,An,Ao,Ap,Aq,Ar,Au,Av,Aw,Ax,Ay,Az,Ba,Bb,Bc,Bd,Be,Bf,Bg], h⟩ = fin h0 (some Ae) h := by kernel_rfl
theorem retn36 (h0 h : Heap) : retK Try.f36 Try.prog h0 .normal ⟨#[Aa,Ab,Ac,Ad,Ae,Af,Ag,Ah,Ai,Aj,Ak,Al,An,Ao,Ap,Aq,Ar,Au,Av,Aw,Ax,Ay,Az,Ba,Bb,Bc,Bd,Be,Bf,Bg], h⟩ = fin h0 (some Ae) h := by kernel_rfl
end Go.Am
namespace Go.Am
open Go.Proofs
set_option maxRecDepth 100000
variable (Aa Ab Ac Ad Ae Af Ag Ah Ai Aj Ak Al An Ao Ap Aq Ar Au Av Aw Ax Ay Az Ba Bb Bc Bd Be Bf Bg Bh Bi Bj Bk Bl Bm Bn Bo Bp Bq Br Bs Bt Bu Bv Bw Bx By Bz Ca Cb : Value)
noncomputable def c37_0 : Code := bodyC Try.f37 []
theorem c37_0_eq {β : Type} (h : Heap) (k : Ex → St → Option β) : codeK Try.prog (evC Try.prog) loopL c37_0 ⟨#[Aa,Ab,Ac,Ad,Ae,Af,Ag,Ah,Ai,Aj,Ak,Al,An,Ao,Ap,Aq,Ar,Au,Av,Aw,Ax,Ay,Az,Ba,Bb,Bc,Bd,Be,Bf,Bg,Bh,Bi,Bj,Bk,Bl,Bm,Bn,Bo,Bp,Bq,Br,Bs,Bt,Bu,Bv,Bw,Bx,By,Bz,Ca,Cb], h⟩ k =
(nilCheckV Aa).bind fun t9_0 =>
(fieldAddrV Try.prog 66 t9_0 0).bind fun t10_1 =>
(loadV Try.prog 3 t10_1 h).bind fun t11_2 =>
obH (evC Try.prog 88 #[t11_2] (nm h)) fun t12_3 h4 =>
(binV Try.prog .and 46 (.tmp 7) (.tmp 12) Ab t12_3).bind fun t13_5 =>
(nilCheckV Aa).bind fun t15_6 =>
(fieldAddrV Try.prog 66 t15_6 1).bind fun t16_7 =>
(loadV Try.prog 3 t16_7 (am h4 h)).bind fun t17_8 =>
obH (convV Try.prog 3 138 t17_8 (am h4 h)) fun t18_9 h10 =>
(binV Try.prog .shl 46 (.const (Go.Value.int Go.IntKind.u64 1)) (.tmp 18) (Go.Value.int Go.IntKind.u64 1) t18_9).bind fun t19_11 =>
(binV Try.prog .andNot 46 (.tmp 13) (.tmp 19) t13_5 t19_11).bind fun t20_12 =>
chk ((rb t16_7) ++ []) (h4.mods ++ []) (
(nilCheckV Aa).bind fun t22_13 =>
(fieldAddrV Try.prog 66 t22_13 0).bind fun t23_14 =>
(loadV Try.prog 3 t23_14 h10).bind fun t24_15 =>
(nilCheckV Aa).bind fun t26_16 =>
(fieldAddrV Try.prog 66 t26_16 2).bind fun t27_17 =>
(loadV Try.prog 22 t27_17 h10).bind fun t28_18 =>
obH (evC Try.prog 23 #[t24_15, t28_18] h10) fun t29_19 h20 =>
(nilCheckV Aa).bind fun t32_21 =>
(fieldAddrV Try.prog 66 t32_21 0).bind fun t33_22 =>
(loadV Try.prog 3 t33_22 h20).bind fun t34_23 =>
(nilCheckV Aa).bind fun t36_24 =>
(fieldAddrV Try.prog 66 t36_24 2).bind fun t37_25 =>
(loadV Try.prog 22 t37_25 h20).bind fun t38_26 =>
(nilCheckV Aa).bind fun t40_27 =>
(fieldAddrV Try.prog 66 t40_27 1).bind fun t41_28 =>
(loadV Try.prog 3 t41_28 h20).bind fun t42_29 =>
obH (evC Try.prog 89 #[t34_23, t38_26, t42_29, t20_12] h20) fun t44_30 h31 =>
(nilCheckV Aa).bind fun t45_32 =>
(fieldAddrV Try.prog 66 t45_32 2).bind fun t46_33 =>
(storeV Try.prog 22 t46_33 t44_30 h31).bind fun h34 =>
obH (evC Try.prog 90 #[t20_12] h34) fun t49_35 h36 =>
(lenV Try.prog 73 t49_35 h36).bind fun t50_37 =>
k .ret ⟨#[Aa, t20_12,Ac,Ad, t29_19, t50_37, t29_19,Ab,Aa, t9_0, t10_1, t11_2, t12_3, t13_5,Aa, t15_6, t16_7, t17_8, t18_9, t19_11, t20_12,Aa, t22_13, t23_14, t24_15,Aa, t26_16, t27_17, t28_18, t29_19,Aa,Aa, t32_21, t33_22, t34_23,Aa, t36_24, t37_25, t38_26,Aa, t40_27, t41_28, t42_29, t20_12, t44_30, t45_32, t46_33, t29_19, t20_12, t49_35, t50_37], h36⟩) := by kernel_rfl
theorem call37 (h : Heap) : evC Try.prog 37 #[Aa,Ab] h = codeK Try.prog (evC Try.prog) loopL c37_0 ⟨#[Aa,Ab, undef, undef, undef, undef, undef, undef, undef, undef, undef, undef, undef, undef, undef, undef, undef, undef, undef, undef, undef, undef, undef, undef, undef, undef, undef, undef, undef, undef, undef, undef, undef, undef, undef, undef, undef, undef, undef, undef, undef, undef, undef, undef, undef, undef, undef, undef, undef, undef, undef], nm h⟩ (retK Try.f37 Try.prog h) :=
  (evC_call 37 Try.f37 c37_0 Try.func37 (by kernel_rfl) #[Aa,Ab] h).trans (by kernel_rfl)
theorem ret37 (h0 h : Heap) : retK Try.f37 Try.prog h0 .ret ⟨#[Aa,Ab,Ac,Ad,Ae,Af,Ag,Ah,Ai,Aj,Ak,Al,An,Ao,Ap,Aq,Ar,Au,Av,Aw,Ax,Ay,Az,Ba,Bb,Bc,Bd,Be,Bf,Bg,Bh,Bi,Bj,Bk,Bl,Bm,Bn,Bo,Bp,Bq,Br,Bs,Bt,Bu,Bv,Bw,Bx,By,Bz,Ca,Cb], h⟩ = fin h0 (some (.tuple #[Ae,Af])) h := by kernel_rfl
theorem retn37 (h0 h : Heap) : retK Try.f37 Try.prog h0 .normal ⟨#[Aa,Ab,Ac,Ad,Ae,Af,Ag,Ah,Ai,Aj,Ak,Al,An,Ao,Ap,Aq,Ar,Au,Av,Aw,Ax,Ay,Az,Ba,Bb,Bc,Bd,Be,Bf,Bg,Bh,Bi,Bj,Bk,Bl,Bm,Bn,Bo,Bp,Bq,Br,Bs,Bt,Bu,Bv,Bw,Bx,By,Bz,Ca,Cb], h⟩ = fin h0 (some (.tuple #[Ae,Af])) h := by kernel_rfl
end Go.Am
namespace Go.Am
open Go.Proofs
set_option maxRecDepth 100000
variable (Aa Ab Ac Ad Ae Af Ag Ah Ai Aj Ak Al An Ao Ap Aq Ar Au Av Aw Ax Ay Az Ba Bb Bc Bd Be Bf Bg Bh Bi Bj Bk Bl Bm Bn Bo Bp Bq Br Bs Bt Bu Bv Bw Bx By Bz Ca Cb Cc Cd Ce Cf Cg Ch Ci Cj Ck Cl Cm Cn Co Cp Cq Cr : Value)
noncomputable def c39_0 : Code := bodyC Try.f39 []
noncomputable def c39_1 : Code := bodyC Try.f39 [true, true, true, false, true, false, false]
noncomputable def c39_2 : Code := bodyC Try.f39 [true, true, true, true]
theorem c39_0_eq {β : Type} (h : Heap) (k : Ex → St → Option β) : codeK Try.prog (evC Try.prog) loopL c39_0 ⟨#[Aa,Ab,Ac,Ad,Ae,Af,Ag,Ah,Ai,Aj,Ak,Al,An,Ao,Ap,Aq,Ar,Au,Av,Aw,Ax,Ay,Az,Ba,Bb,Bc,Bd,Be,Bf,Bg,Bh,Bi,Bj,Bk,Bl,Bm,Bn,Bo,Bp,Bq,Br,Bs,Bt,Bu,Bv,Bw,Bx,By,Bz,Ca,Cb,Cc,Cd,Ce,Cf,Cg,Ch,Ci,Cj,Ck,Cl,Cm,Cn,Co,Cp,Cq,Cr], h⟩ k =
(nilCheckV Aa).bind fun t12_0 =>
(fieldAddrV Try.prog 66 t12_0 0).bind fun t13_1 =>
(loadV Try.prog 3 t13_1 h).bind fun t14_2 =>
obH (evC Try.prog 22 #[t14_2,Ac] h) fun t16_3 h4 =>
(extractV t16_3 0).bind fun t17_5 =>
(extractV t16_3 1).bind fun t18_6 =>
(unV Try.prog .not t18_6).bind fun t20_7 =>
(gd (wt t20_7 false) (binV Try.prog .lss 3 (.tmp 22) (.const (Go.Value.int Go.IntKind.i64 0)) (gdV (wt t20_7 false) Ab) (Go.Value.int Go.IntKind.i64 0))).bind fun t23_8 =>
(pickV t20_7 (Go.Value.bool Bool.true) t23_8).bind fun t24_9 =>
(gd (wt t24_9 false) (nilCheckV (gdV (wt t24_9 false) Aa))).bind fun t28_10 =>
(gd (wt t24_9 false) (fieldAddrV Try.prog 66 t28_10 0)).bind fun t29_11 =>
(gd (wt t24_9 false) (loadV Try.prog 3 t29_11 h4)).bind fun t30_12 =>
(gd (wt t24_9 false) (binV Try.prog .geq 3 (.tmp 26) (.tmp 30) (gdV (wt t24_9 false) Ab) t30_12)).bind fun t31_13 =>
(pickV t24_9 (Go.Value.bool Bool.true) t31_13).bind fun t32_14 =>
(gd (wt t32_14 false) (nilCheckV (gdV (wt t32_14 false) Aa))).bind fun t36_15 =>
(gd (wt t32_14 false) (fieldAddrV Try.prog 66 t36_15 1)).bind fun t37_16 =>
(gd (wt t32_14 false) (loadV Try.prog 3 t37_16 h4)).bind fun t38_17 =>
(gd (wt t32_14 false) (binV Try.prog .eql 3 (.tmp 34) (.tmp 38) (gdV (wt t32_14 false) Ab) t38_17)).bind fun t39_18 =>
(pickV t32_14 (Go.Value.bool Bool.true) t39_18).bind fun t40_19 =>
cnd t40_19 (
k .ret ⟨#[Aa,Ab,Ac,Ad,Ae,Af, (Go.Value.bool Bool.false), t17_5, t18_6,Aj, t16_3,Aa, t12_0, t13_1, t14_2,Ac, t16_3, t17_5, t18_6, t18_6, t20_7, t20_7, (gdV (wt t20_7 false) Ab), t23_8, t24_9, t24_9, (gdV (wt t24_9 false) Ab), (gdV (wt t24_9 false) Aa), t28_10, t29_11, t30_12, t31_13, t32_14, t32_14, (gdV (wt t32_14 false) Ab), (gdV (wt t32_14 false) Aa), t36_15, t37_16, t38_17, t39_18, t40_19,Bs,Bt,Bu,Bv,Bw,Bx,By,Bz,Ca,Cb,Cc,Cd,Ce,Cf,Cg,Ch,Ci,Cj,Ck,Cl,Cm,Cn,Co,Cp,Cq,Cr], h4⟩) (
loopK Try.prog (evC Try.prog) c39_1 ⟨#[Aa,Ab,Ac,Ad,Ae,Af, (Go.Value.bool Bool.false), t17_5, t18_6, (Go.Value.int Go.IntKind.i64 0), t16_3,Aa, t12_0, t13_1, t14_2,Ac, t16_3, t17_5, t18_6, t18_6, t20_7, t20_7, (gdV (wt t20_7 false) Ab), t23_8, t24_9, t24_9, (gdV (wt t24_9 false) Ab), (gdV (wt t24_9 false) Aa), t28_10, t29_11, t30_12, t31_13, t32_14, t32_14, (gdV (wt t32_14 false) Ab), (gdV (wt t32_14 false) Aa), t36_15, t37_16, t38_17, t39_18, t40_19,Bs,Bt,Bu,Bv,Bw,Bx,By,Bz,Ca,Cb,Cc,Cd,Ce,Cf,Cg,Ch,Ci,Cj,Ck,Cl,Cm,Cn,Co,Cp,Cq,Cr], h4⟩ (blockK 0 (seqK Try.prog (evC Try.prog) c39_2 k))) := by kernel_rfl
theorem c39_1_eq {β : Type} (h : Heap) (k : Ex → St → Option β) : codeK Try.prog (evC Try.prog) loopL c39_1 ⟨#[Aa,Ab,Ac,Ad,Ae,Af,Ag,Ah,Ai,Aj,Ak,Al,An,Ao,Ap,Aq,Ar,Au,Av,Aw,Ax,Ay,Az,Ba,Bb,Bc,Bd,Be,Bf,Bg,Bh,Bi,Bj,Bk,Bl,Bm,Bn,Bo,Bp,Bq,Br,Bs,Bt,Bu,Bv,Bw,Bx,By,Bz,Ca,Cb,Cc,Cd,Ce,Cf,Cg,Ch,Ci,Cj,Ck,Cl,Cm,Cn,Co,Cp,Cq,Cr], h⟩ k =
(nilCheckV Aa).bind fun t43_20 =>
(fieldAddrV Try.prog 66 t43_20 0).bind fun t44_21 =>
(loadV Try.prog 3 t44_21 h).bind fun t45_22 =>
(binV Try.prog .lss 3 (.tmp 41) (.tmp 45) Aj t45_22).bind fun t46_23 =>
cnd t46_23 (
(nilCheckV Aa).bind fun t50_24 =>
(fieldAddrV Try.prog 66 t50_24 3).bind fun t51_25 =>
(loadV Try.prog 52 t51_25 h).bind fun t52_26 =>
(indexAddrV Try.prog 52 t52_26 Aj).bind fun t54_27 =>
(loadV Try.prog 46 t54_27 h).bind fun t55_28 =>
(indexAddrV Try.prog 22 Ah Aj).bind fun t58_29 =>
(loadV Try.prog 52 t58_29 h).bind fun t59_30 =>
(nilCheckV Aa).bind fun t61_31 =>
(fieldAddrV Try.prog 66 t61_31 1).bind fun t62_32 =>
(loadV Try.prog 3 t62_32 h).bind fun t63_33 =>
(indexAddrV Try.prog 52 t59_30 t63_33).bind fun t64_34 =>
(loadV Try.prog 46 t64_34 h).bind fun t65_35 =>
(binV Try.prog .lss 46 (.tmp 55) (.tmp 65) t55_28 t65_35).bind fun t66_36 =>
cnd t66_36 (
k .ret ⟨#[Aa,Ab,Ac,Ad,Ae,Af, (Go.Value.bool Bool.false),Ah,Ai,Aj,Ak,Al,An,Ao,Ap,Aq,Ar,Au,Av,Aw,Ax,Ay,Az,Ba,Bb,Bc,Bd,Be,Bf,Bg,Bh,Bi,Bj,Bk,Bl,Bm,Bn,Bo,Bp,Bq,Br,Aj,Aa, t43_20, t44_21, t45_22, t46_23,By,Bz,Aa, t50_24, t51_25, t52_26,Aj, t54_27, t55_28,Ah,Aj, t58_29, t59_30,Aa, t61_31, t62_32, t63_33, t64_34, t65_35, t66_36], h⟩) (
(binV Try.prog .add 3 (.tmp 47) (.const (Go.Value.int Go.IntKind.i64 1)) Aj (Go.Value.int Go.IntKind.i64 1)).bind fun t48_37 =>
k .normal ⟨#[Aa,Ab,Ac,Ad,Ae,Af,Ag,Ah,Ai, t48_37,Ak,Al,An,Ao,Ap,Aq,Ar,Au,Av,Aw,Ax,Ay,Az,Ba,Bb,Bc,Bd,Be,Bf,Bg,Bh,Bi,Bj,Bk,Bl,Bm,Bn,Bo,Bp,Bq,Br,Aj,Aa, t43_20, t44_21, t45_22, t46_23,Aj, t48_37,Aa, t50_24, t51_25, t52_26,Aj, t54_27, t55_28,Ah,Aj, t58_29, t59_30,Aa, t61_31, t62_32, t63_33, t64_34, t65_35, t66_36], h⟩)) (
k (.exit 0) ⟨#[Aa,Ab,Ac,Ad,Ae,Af,Ag,Ah,Ai,Aj,Ak,Al,An,Ao,Ap,Aq,Ar,Au,Av,Aw,Ax,Ay,Az,Ba,Bb,Bc,Bd,Be,Bf,Bg,Bh,Bi,Bj,Bk,Bl,Bm,Bn,Bo,Bp,Bq,Br,Aj,Aa, t43_20, t44_21, t45_22, t46_23,By,Bz,Ca,Cb,Cc,Cd,Ce,Cf,Cg,Ch,Ci,Cj,Ck,Cl,Cm,Cn,Co,Cp,Cq,Cr], h⟩) := by kernel_rfl
theorem c39_2_eq {β : Type} (h : Heap) (k : Ex → St → Option β) : codeK Try.prog (evC Try.prog) loopL c39_2 ⟨#[Aa,Ab,Ac,Ad,Ae,Af,Ag,Ah,Ai,Aj,Ak,Al,An,Ao,Ap,Aq,Ar,Au,Av,Aw,Ax,Ay,Az,Ba,Bb,Bc,Bd,Be,Bf,Bg,Bh,Bi,Bj,Bk,Bl,Bm,Bn,Bo,Bp,Bq,Br,Bs,Bt,Bu,Bv,Bw,Bx,By,Bz,Ca,Cb,Cc,Cd,Ce,Cf,Cg,Ch,Ci,Cj,Ck,Cl,Cm,Cn,Co,Cp,Cq,Cr], h⟩ k =
k .ret ⟨#[Aa,Ab,Ac,Ad,Ae,Af, (Go.Value.bool Bool.true),Ah,Ai,Aj,Ak,Al,An,Ao,Ap,Aq,Ar,Au,Av,Aw,Ax,Ay,Az,Ba,Bb,Bc,Bd,Be,Bf,Bg,Bh,Bi,Bj,Bk,Bl,Bm,Bn,Bo,Bp,Bq,Br,Bs,Bt,Bu,Bv,Bw,Bx,By,Bz,Ca,Cb,Cc,Cd,Ce,Cf,Cg,Ch,Ci,Cj,Ck,Cl,Cm,Cn,Co,Cp,Cq,Cr], h⟩ := by kernel_rfl
theorem call39 (h : Heap) : evC Try.prog 39 #[Aa,Ab,Ac] h = codeK Try.prog (evC Try.prog) loopL c39_0 ⟨#[Aa,Ab,Ac, undef, undef, undef, undef, undef, undef, undef, undef, undef, undef, undef, undef, undef, undef, undef, undef, undef, undef, undef, undef, undef, undef, undef, undef, undef, undef, undef, undef, undef, undef, undef, undef, undef, undef, undef, undef, undef, undef, undef, undef, undef, undef, undef, undef, undef, undef, undef, undef, undef, undef, undef, undef, undef, undef, undef, undef, undef, undef, undef, undef, undef, undef, undef, undef], nm h⟩ (retK Try.f39 Try.prog h) :=
  (evC_call 39 Try.f39 c39_0 Try.func39 (by kernel_rfl) #[Aa,Ab,Ac] h).trans (by kernel_rfl)
theorem ret39 (h0 h : Heap) : retK Try.f39 Try.prog h0 .ret ⟨#[Aa,Ab,Ac,Ad,Ae,Af,Ag,Ah,Ai,Aj,Ak,Al,An,Ao,Ap,Aq,Ar,Au,Av,Aw,Ax,Ay,Az,Ba,Bb,Bc,Bd,Be,Bf,Bg,Bh,Bi,Bj,Bk,Bl,Bm,Bn,Bo,Bp,Bq,Br,Bs,Bt,Bu,Bv,Bw,Bx,By,Bz,Ca,Cb,Cc,Cd,Ce,Cf,Cg,Ch,Ci,Cj,Ck,Cl,Cm,Cn,Co,Cp,Cq,Cr], h⟩ = fin h0 (some Ag) h := by kernel_rfl
theorem retn39 (h0 h : Heap) : retK Try.f39 Try.prog h0 .normal ⟨#[Aa,Ab,Ac,Ad,Ae,Af,Ag,Ah,Ai,Aj,Ak,Al,An,Ao,Ap,Aq,Ar,Au,Av,Aw,Ax,Ay,Az,Ba,Bb,Bc,Bd,Be,Bf,Bg,Bh,Bi,Bj,Bk,Bl,Bm,Bn,Bo,Bp,Bq,Br,Bs,Bt,Bu,Bv,Bw,Bx,By,Bz,Ca,Cb,Cc,Cd,Ce,Cf,Cg,Ch,Ci,Cj,Ck,Cl,Cm,Cn,Co,Cp,Cq,Cr], h⟩ = fin h0 (some Ag) h := by kernel_rfl
end Go.Am
